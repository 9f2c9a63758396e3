/-
 A written list,and its tokens.
 No conditions.
-/
import Derived.Test.YtpcnidmmkknndaaGreatDoorTie
import Derived.Test.YtpcnidmmkknndaaGreatDoorCards
import Derived.Lib.LaidTab
import Derived.Lay
import Derived.LaidMore
import Derived.LaidHandle
import Derived.Stop.Joined
import Derived.ChangeSame
import Derived.JoinedCond
import Derived.Test.YtpcnidmmkknndaaGreatDoorProg
import Derived.KernelRfl
import Derived.Tactics
import Derived.Tactics2
import Derived.Defers
import Derived.Laws.Pointers
import Derived.RegionTactic
import Derived.RegionCalls
import Derived.ChangeAlike
import Derived.WalkKit
import Derived.Laws.Externs
import Derived.Lib.Builder
import Derived.Lib.UnsafeStr
import Derived.Test.YtpcnidmmkknndaaGreatDoorZh
import Derived.Test.YtpcnidmmkknndaaGreatDoorZc
import Derived.Test.YtpcnidmmkknndaaGreatDoorZd
import Derived.Test.YtpcnidmmkknndaaGreatDoorZe
import Derived.Test.YtpcnidmmkknndaaGreatDoorZg
set_option linter.unusedVariables false
set_option linter.unusedSimpArgs false
set_option maxRecDepth 1000000
set_option maxHeartbeats 16000000
open Go.Proofs.Tryz renaming prog→p_
noncomputable section
namespace Go.Proofs.YtpcnidmmkknndaaGreatDoor
section
open Go Go.Aw Go.fg Go.RowKit
open Go.bG hiding u1 af
variable{fn:af→List Vl→Sm×Bool}{l:List Cx}{d m:Nat}{has rel f w:Bool}{v:Vl}{t n:af}{r o q:List Vl}{x:Cx}{k a b:Int}{ss:List Sm}{c:UInt8}
theorem JN(hn:n≠[])(r:af):Ns (eW n++r):=by
 cases n with
 | nil=>exact absurd rfl hn
 | cons c0 m =>
   have e0:eW (c0:: m)=il (c0:: m) (gY (c0:: m)) 0 c0++nK (c0:: m) (gY (c0:: m)) 1 m.length:=by
    show jy _ _ _=_;rw[←xX,aaB,nA];rfl
   obtain⟨b,y,hb,hc⟩:=pg (c0:: m) (gY (c0:: m)) 0 c0;have hl:Rt.eX b=true∨b=92:=hc.elim (fun z=>.inl z.2.2) fun z=>.inr z.2;rw[e0,hb];exact (Ff b hl).1
theorem Ai:∀l:List Tok,(∀t∈l,cG t.k=0)→bJ (l.map fun t=>iy t [])=l
 | [],_=>dm
 | t:: l,h=>by
   rw[GO,cf,Ai l fun x hx=>h x (by simp[hx])];unfold iy;rw[iI,if_pos (h t (by simp))];rfl
theorem CL(A B:Int):∀t∈oV A B,cG t.k=0:=by
 have hn:cG (nB B).k=0:=by show cG 10=0;decide
 have ht:∀t∈jD B,cG t.k=0:=fun t h=>by
  unfold jD at h;split at h
  ·simp at h;subst h;exact hn
  ·cases h
 intro t h;unfold oV at h;split at h
 ·simp at h;subst h;exact hn
 ·rcases ID.1 h with rfl|h
  ·split
   ·show cG 1=0;decide
   ·split
    ·show cG 1=0;decide
    ·show cG 12=0;decide
  ·exact ht t h
theorem Ce{sep:Nat→af}(h0:sep 0=[]){l:List af}(r:af)(h:∀r,Ns (t++r)):Ns (gR sep (t:: l)++r):=by
 unfold gR fj;rw[aaB,List.range_succ_eq_map,List.flatMap_cons,h0,List.nil_append,To];exact h _
theorem xY{n:Int}(h:bG.gu n=true):kj n=true∧oQ n=true:=by
 unfold bG.gu at h;have h:=oN h;unfold kj oQ;simp;omega
theorem I1:∀l:List Cx,(de l).length=(jj l).length
 | []=>by rw[de,jj];rfl
 | x:: l=>by rw[de,jj,aaB,aaB,I1 l]
theorem IZ:∀l:List Cp,(dE l).length=(ml l).length
 | []=>by rw[dE,ml];rfl
 | x:: l=>by rw[dE,ml,aaB,aaB,IZ l]
theorem yo(h:∀i,i<(de l).length→TX ((de l).getD i []) (bJ ((jj l).getD i [])) NX∧∀r,Ns ((de l).getD i []++r)):TX (gR fS (de l)) (bJ (gq jc (jj l))) NX:=
 IV (de l) (jj l) (fun k _=>RG k) (I1 l) (fun i hi=>(h i hi).1) (fun i h0 _ r=>by unfold fS;rw[if_neg (by omega)];exact NX.cons _ (by decide)) fun i hi=>(h i hi).2
theorem PG{l:Int}{ps:List Cp}{cs:List Int}(hl4:l≤4)(hlen:cs.length+1=ps.length)(hcs2:∀c∈cs,1≤c∧c≤4)(hP:∀i,i<(dE ps).length→TX ((dE ps).getD i []) (bJ ((ml ps).getD i [])) NX∧∀r,Ns ((dE ps).getD i []++r)):TX (oU (.mk l ps cs)) (bJ (vX (.mk l ps cs))) NX∧∀r,Ns (oU (.mk l ps cs)++r):=by
 have htl:(dE ps).length=ps.length:=by simp[py]
 have hj:TX (gR (ga cs) (dE ps)) (bJ (gq (qU cs) (ml ps))) NX:=
  IV (dE ps) (ml ps) (fun k hk=>RH hcs2 k (by omega)) (IZ ps) (fun i hi=>(hP i hi).1) (fun i h0 hi r=>by
   unfold ga;rw[if_neg (by omega)];have hm:cs.getD (i-1) 0∈cs:=by
    rw[nE,dO (by omega)];exact aaW _
   obtain⟨c1,c4⟩:=hcs2 _ hm;generalize cs.getD (i-1) 0=c at c1 c4;rcases (by omega:c=1∨c=2∨c=3∨c=4) with rfl|rfl|rfl|rfl<;>exact NX.cons _ (by decide)) fun i hi=>(hP i hi).2
 have hns:∀r,Ns (gR (ga cs) (dE ps)++r):=fun r=>by
  have h0:=hP 0 (by omega);cases ps with
  | nil=>simp at hlen
  | cons p ps =>
    rw[dE]at h0 ⊢;exact Ce rfl r h0.2
 rw[oU,vX,fo]
 by_cases z:1<l
 ·rw[if_pos z,if_pos z];refine⟨(IW (by omega) hl4).cat hj fun r _=>hns r,fun r=>?_⟩;rw[To];rcases (by omega:l=2∨l=3∨l=4) with rfl|rfl|rfl
  ·exact (by decide:Rt.eY 62=false)
  ·exact (by decide:Rt.eY 43=false)
  ·exact (by decide:Rt.eY 126=false)
 ·rw[if_neg z,if_neg z,dm,List.nil_append,List.nil_append];exact⟨hj,hns⟩
theorem WG(hz:∀c∈t,c≠0)(hn:t≠[])(t42:t≠[42])(b:TX (fC ss).flatten (bJ (mn ss)) NX∧∀r,NX r→NX ((fC ss).flatten++r)):TX (oI (.mk t ss)) (bJ (vP (.mk t ss))) NX∧∀r,Ns (oI (.mk t ss)++r):=by
 rw[oI,vP,fo,if_neg t42,if_neg t42,if_neg hn,cf,dm,aaL,ku (by decide)];refine⟨(mh hz hn).cat b.1 fun r hr=>b.2 r hr,fun r=>?_⟩;rw[To];exact JN hn _
mutual
theorem PI(d:Nat)(has:Bool):∀s:Sm,jz d has s=true→gS s=true→TX (jI s) (bJ (vS s)) NX∧(∀r,NX (jI s++r))∧∀r,Ns (jI s++r)
 | .mk k n o v f a b w l,h,hg=>by
   rw[jz,NO]at h;obtain⟨hb,hl⟩:=h;rw[gS,NO]at hg;obtain⟨hg0,hgl⟩:=hg;have hg0:=oN hg0;have one:∀v:Vl,bJ [v]=iI v:=fun v=>by rw[cf,dm,aaL]
   have hd:∀{c:UInt8} {x:af},pN c=true→Rt.eY c=false→(∀r,NX ((c:: x)++r))∧∀r,Ns ((c:: x)++r):=fun h1 h2=>⟨fun r=>NX.cons _ h1,fun r=>h2⟩;unfold jo at hb;rw[jI,vS]
   by_cases k1:k=1
   ·rw[if_pos (.inl k1)]at hb;simp only[NO]at hb;obtain⟨hz,hn⟩:=uq hb.1.1.1.1.1.1;rw[if_pos k1,if_pos k1,one,ku (by decide)];exact⟨RE hz hn,hd (by decide) (by decide)⟩
   rw[if_neg k1,if_neg k1]
   by_cases k2:k=2
   ·rw[if_pos (.inr k2)]at hb;simp only[NO]at hb;obtain⟨hz,hn⟩:=uq hb.1.1.1.1.1.1;rw[if_pos k2,if_pos k2,cf,one,J3,ku (by decide)];exact⟨OQ hz hn,hd (by decide) (by decide)⟩
   rw[if_neg k2,if_neg k2];rw[if_neg (fun z=>z.elim k1 k2)]at hb
   by_cases k3:k=3
   ·rw[if_pos k3]at hb;simp only[NO]at hb;obtain⟨⟨⟨⟨⟨⟨⟨b1,b2⟩,b3⟩,_⟩,_⟩,_⟩,_⟩,_⟩:=hb;unfold bG.small at b1;rw[NO]at b1;obtain⟨hz,hn⟩:=uq b1.1;rw[if_pos k3,if_pos k3,one];refine⟨(RA hz hn hg0 (oN b2) (MH b3)).mono fun _ _=>trivial,fun r=>?_,fun r=>?_⟩
    ·unfold sJ;simp only[To,abg];exact NX.cons _ (by decide)
    ·unfold sJ;simp only[To,abg];exact (by decide:Rt.eY 91=false)
   rw[if_neg k3,if_neg k3];rw[if_neg k3]at hb;simp only[NO]at hb;obtain⟨⟨⟨⟨⟨_,_⟩,_⟩,_⟩,hk⟩,hnth⟩:=hb;have hk:=oN hk
   by_cases hf:kf k a b w=true
   ·rw[if_pos hf,if_pos hf];have hkk:k=9∨k=10:=by
     unfold kf eK at hf;simp only[NO,aa7,Of]at hf;exact hf.1.1.1
    obtain⟨e1,e2,e3⟩:=NV k hkk;rw[e1,cf,one,ku (by decide)];exact⟨J5.cat (mh e3 e2) fun _ _=>trivial,hd (by decide) (by decide)⟩
   rw[if_neg hf,if_neg hf];obtain⟨i,hi⟩:∃i:Nat,(k-4).toNat=i:=⟨_,rfl⟩;have hi11:i<11:=by omega
   rw[hi];obtain⟨p1,p2,p3,p4⟩:=Ls i hi11
   by_cases k8:k≤8
   ·rw[if_pos k8,if_pos k8,E9 i hi11,if_pos (by omega),cf,one,ku (by decide)];refine⟨(J5.cat (mh p3 p2) fun _ _=>trivial).of (by rw[p1];rfl) rfl,hd (by decide) (by decide)⟩
   rw[if_neg k8,if_neg k8,E9 i hi11,if_neg (by omega)]
   -- what is within the brackets
   have inner:TX (tL k a b w++gR fS (de l)) (bJ (ph k a b w++gq jc (jj l))) (fun r=>∃q,r=41:: q):=by
    have hr41:∀r,(∃q,r=41:: q)→NX r:=fun r ⟨q,hq⟩=>by rw[hq];exact NX.cons _ (by decide)
    by_cases hn:eK k=true
    ·rw[if_pos hn,NO]at hnth;obtain⟨a1,a2⟩:=xY hnth.1;obtain⟨b1,b2⟩:=xY hnth.2;have hkk:k=9∨k=10:=by
      unfold eK at hn;simpa using hn
     unfold tL ph;rw[hn,a2,b2];simp only[Bool.and_self,if_true];have hA:TX (mS a b) (bJ (lO a b)) yS:=(Vp a1 b1).of rfl (by unfold lO;rw[Ai _ (CL a b)]);cases w with
     | false =>
       have hl0:l=[]:=by
        rw[if_neg (by unfold gw;simp;omega)]at hl;simpa using hl
       subst hl0;have e1:gR fS (de [])=[]:=rfl;have e2:gq jc (jj [])=[]:=rfl;rw[e1,e2];simp only[aaJ,if_false,aaL];exact hA.mono fun r ⟨q,hq⟩=>⟨q,.inl hq⟩
     | true =>
       rw[if_pos (by unfold gw;rw[hn];rfl)]at hl;simp only[NO,aa7]at hl;have hX:=uE (d+1) _ _ l hl.2 hgl;have hL:=yo hX;have hlne:l≠[]:=by
        rcases hl.1.2 with z|z
        ·unfold nq at z;simp at z;omega
        ·intro e;subst e;simp at z
       have hns:∀r,Ns (gR fS (de l)++r):=fun r=>by
        cases l with
        | nil=>exact absurd rfl hlne
        | cons x l =>
          rw[de]at hX ⊢;exact Ce rfl r (hX 0 (by simp)).2
       have hof:TX (eW [111,102]) (iI (lf 1 [111,102] false)) NX:=by rw[ku (by decide)];exact mh (by decide) (by decide)
       have h1:=wc.cat hL fun r _=>hns r;have h2:=hof.cat h1 fun r _=>NX.cons _ (by decide);have h3:=wc.cat h2 fun r _=>by
        rw[To];exact JN (by decide) _
       have h4:=hA.cat h3 fun r _=>⟨_,.inr rfl⟩;refine (h4.mono hr41).of ?_ ?_
       ·have e:eW [111,102]=[111,102]:=by decide
        rw[e];simp
       ·simp only[if_true];rw[fo,fo,cf,cf,cf,dm];simp
    ·have hn:eK k=false:=by simpa using hn
     have hk11:11≤k:=by
      have h1:¬k=9:=fun e=>by subst e;exact absurd hn (by decide)
      have h2:¬k=10:=fun e=>by subst e;exact absurd hn (by decide)
      omega
     unfold tL ph;rw[hn];simp only[Bool.false_and,aaJ,if_false,List.nil_append];rw[if_pos (by unfold gw;simp;right;omega)]at hl;simp only[NO]at hl;exact (yo (uE (d+1) _ _ l hl.2 hgl)).mono hr41
   have hfun:=RD (n:=dX.getD i []) p3 p2 p4;have hend:TX [41] [⟨22,[],0,[],false⟩] NX:=(uD (k:=6) (by decide) (by decide) (by decide) (by decide) (by decide)).mono fun _ _=>trivial;have hall:=J5.cat (hfun.cat (inner.cat hend fun r _=>⟨r,rfl⟩) fun _ _=>trivial) fun _ _=>trivial;refine⟨hall.of ?_ ?_, ?_⟩
   ·rw[p1];simp
   ·rw[cf,one,iI,if_neg (show ¬cG 2=0 by decide)];rfl
   ·simp only[abg];exact hd (by decide) (by decide)
theorem Gq(d:Nat)(has:Bool):∀l:List Sm,mV d has l=true→wv l=true→TX (fC l).flatten (bJ (mn l)) NX∧(∀r,NX r→NX ((fC l).flatten++r))∧(l≠[]→∀r,Ns ((fC l).flatten++r))
 | [],_,_=>⟨by rw[fC,mn,dm];exact TX.nil _,fun r h=>by rw[fC];exact h,fun h=>absurd rfl h⟩
 | s:: l,h,hg=>by
   rw[mV,NO]at h;rw[wv,NO]at hg;obtain⟨a1,a2,a3⟩:=PI d has s h.1 hg.1;obtain⟨b1,b2,_⟩:=Gq d has l h.2 hg.2;rw[fC,mn,fo,abc];refine⟨a1.cat b1 fun r hr=>b2 r hr,fun r hr=>?_,fun _ r=>?_⟩
   ·rw[To];exact a2 _
   ·rw[To];exact a3 _
theorem WK(d:Nat)(has:Bool):∀p:Cp,cZ d has p=true→gP p=true→TX (oI p) (bJ (vP p)) NX∧∀r,Ns (oI p++r)
 | .mk t ss,h,hg=>by
   have hsome:=vA h;rw[cZ]at h;simp only[NO,aa7,Of]at h;obtain⟨⟨⟨ht,_⟩,_⟩,hs⟩:=h;rw[gP]at hg;obtain⟨b1,b2,b3⟩:=Gq d has ss hs hg;rw[oI,vP,fo]
   by_cases t42:t=[42]
   ·rw[if_pos t42,if_pos t42,cf,dm,aaL,J3];refine⟨(wb (c:=42) (by decide) (by decide) (by decide) (by decide) (by decide) (by decide)).cat b1 fun _ _=>trivial,fun r=>?_⟩;exact (by decide:Rt.eY 42=false)
   rw[if_neg t42,if_neg t42]
   by_cases t0:t=[]
   ·subst t0;have hne:ss≠[]:=hsome.resolve_left fun z=>z rfl;rw[if_pos rfl,dm];have e:eW []=[]:=rfl;rw[e,List.nil_append,List.nil_append];exact⟨b1,b3 hne⟩
   ·rw[if_neg t0,cf,dm,aaL,ku (by decide)];have hsm:bG.small t=true:=ht.resolve_left fun z=>z.elim t0 t42;unfold bG.small at hsm;rw[NO]at hsm;obtain⟨hz,hn⟩:=uq hsm.1;refine⟨(mh hz hn).cat b1 fun r hr=>b2 r hr,fun r=>?_⟩;rw[To];exact JN hn _
theorem Gp(d:Nat)(has:Bool):∀l:List Cp,me d has l=true→uh l=true→∀i,i<(dE l).length→TX ((dE l).getD i []) (bJ ((ml l).getD i [])) NX∧∀r,Ns ((dE l).getD i []++r)
 | [],_,_,i,hi=>by rw[dE]at hi;exact absurd hi (aaP _)
 | p:: l,h,hg,i,hi=>by
   rw[me,NO]at h;rw[uh,NO]at hg;rw[dE]at hi ⊢;rw[ml];cases i with
   | zero=>exact WK d has p h.1 hg.1
   | succ i=>exact Gp d has l h.2 hg.2 i (by simpa using hi)
theorem WL(d:Nat)(has rel:Bool):∀x:Cx,eL d has rel x=true→gX x=true→TX (oU x) (bJ (vX x)) NX∧∀r,Ns (oU x++r)
 | .mk l ps cs,h,hg=>by
   rw[eL]at h;simp only[NO,Of]at h;obtain⟨⟨⟨⟨⟨_,hl4⟩,hlen⟩,_⟩,hcs⟩,hps⟩:=h;have hl4:=hl4;rw[gX]at hg;have hP:=Gp d has ps hps hg;have hcs2:∀c∈cs,1≤c∧c≤4:=fun c hc=>oN (At.1 hcs c hc);exact PG hl4 (by simpa using hlen) hcs2 hP
theorem uE(d:Nat)(has rel:Bool):∀l:List Cx,dD d has rel l=true→ju l=true→∀i,i<(de l).length→TX ((de l).getD i []) (bJ ((jj l).getD i [])) NX∧∀r,Ns ((de l).getD i []++r)
 | [],_,_,i,hi=>by rw[de]at hi;exact absurd hi (aaP _)
 | x:: l,h,hg,i,hi=>by
   rw[dD,NO]at h;rw[ju,NO]at hg;rw[de]at hi ⊢;rw[jj];cases i with
   | zero=>exact WL d has rel x h.1 hg.1
   | succ i=>exact uE d has rel l h.2 hg.2 i (by simpa using hi)
end
def Sh(m:Nat)(l:List Vl):Prop:=(∀c:Int,c=0∨c=20∨c=22→fh c l=false)∧dw l≤m
theorem Sh.nil(m:Nat):Sh m []:=⟨fun _ _=>rfl,by rw[dw];exact aaO _⟩
theorem Sh.app{a b:List Vl}(x:Sh m a)(y:Sh m b):Sh m (a++b):=⟨fun c hc=>by rw[od,x.1 c hc,y.1 c hc];rfl,by rw[nn];exact Nat.max_le.2 ⟨x.2,y.2⟩⟩
theorem Sh.mono{m n:Nat}{a:List Vl}(x:Sh m a)(h:m≤n):Sh n a:=⟨x.1,aaT x.2 h⟩
theorem Sh.cons{b:List Vl}(x:Sh m [v])(y:Sh m b):Sh m (v:: b):=x.app y
theorem jW(m:Nat)(h:cG k=0)(h1:k≠20)(h2:k≠22):Sh m [lf k t f]:=by
 refine⟨fun c hc=>?_, ?_⟩
 ·unfold lf;rw[fh,fh,wJ,if_pos h];rcases hc with rfl|rfl|rfl<;>simp[h1,h2]
 ·unfold lf;rw[dw,dw,pJ,if_pos h];exact aaO _
theorem FZ{l:List Vl}(h:cG k≠0)(hk:k=2∨k=19)(hl:Sh m l):Sh (m+1) [.mk k t 0 [] f l]:=by
 have hc:cG k=22∨cG k=20:=by rcases hk with rfl|rfl<;>decide
 refine⟨fun c hcc=>?_, ?_⟩
 ·rw[fh,fh,wJ,if_neg h,hl.1 _ (by omega)];have h1:k≠20:=by omega
  have h2:k≠22:=by omega
  rcases hcc with rfl|rfl|rfl<;>simp[h1,h2]
 ·rw[dw,dw,pJ,if_neg h];have:=hl.2;omega
theorem Cr{sv:Nat→List Vl}{vs:List (List Vl)}(h1:∀i,Sh m (sv i))(h2:∀i,i<vs.length→Sh m (vs.getD i [])):Sh m (gq sv vs):=by
 unfold gq;have key:∀k,k≤vs.length→Sh m ((List.range k).flatMap fun i=>sv i++vs.getD i []):=by
  intro k;induction k with
  | zero=>intro _;exact Sh.nil m
  | succ k ih =>
    intro hk;rw[List.range_succ,List.flatMap_append];refine (ih (by omega)).app ?_;simp only[List.flatMap_cons,List.flatMap_nil,aaL];exact (h1 k).app (h2 k (by omega))
 exact key _ (bY _)
theorem pO(m:Nat):Sh m [cH]:=jW m (by decide) (by decide) (by decide)
theorem Bv(m:Nat)(c:UInt8):Sh m [lU c]:=jW m (by decide) (by decide) (by decide)
theorem Iz(m k:Nat):Sh m (jc k):=by
 unfold jc;split
 ·exact Sh.nil m
 ·exact (jW m (by decide) (by decide) (by decide)).cons (pO m)
theorem Rp(m:Nat)(cs:List Int)(k:Nat):Sh m (qU cs k):=by
 unfold qU mU;split
 ·exact Sh.nil m
 ·split
  ·exact pO m
  ·exact (pO m).cons ((Bv m _).cons (pO m))
theorem L9(m:Nat)(a b:Int):Sh m (lO a b):=by
 have leaf:∀t:Tok,(t.k=10∨t.k=1∨t.k=12)→Sh m [iy t []]:=fun t h=>by
  have hc:cG t.k=0:=by rcases h with h|h|h<;>rw[h]<;>decide
  have h1:t.k≠20:=by omega
  have h2:t.k≠22:=by omega
  refine⟨fun c hc2=>?_, ?_⟩
  ·unfold iy;rw[fh,fh,wJ,if_pos hc];rcases hc2 with rfl|rfl|rfl<;>simp[h1,h2]
  ·unfold iy;rw[dw,dw,pJ,if_pos hc];exact aaO _
 have tl:Sh m ((jD b).map fun t=>iy t []):=by
  unfold jD;split
  ·exact leaf (nB b) (.inl rfl)
  ·exact Sh.nil m
 unfold lO oV;split
 ·exact leaf (nB b) (.inl rfl)
 ·rw[GO];refine Sh.cons (leaf _ ?_) tl;split
  ·exact .inr (.inl rfl)
  ·split
   ·exact .inr (.inl rfl)
   ·exact .inr (.inr rfl)
theorem Ws(m:Nat)(n:af)(o:Int)(v:af)(f:Bool):Sh m (yU n o v f):=by
 have hop:∀l:af,Sh m (l.map fun c=>lf 9 [c] false):=fun l=>by
  induction l with
  | nil=>exact Sh.nil m
  | cons c l ih=>exact (Bv m c).cons ih
 unfold yU;refine Sh.cons (jW m (by decide) (by decide) (by decide)) (Sh.app ?_ ?_)
 ·split
  ·exact Sh.nil m
  ·unfold LA;exact (hop _).app (jW m (by decide) (by decide) (by decide))
 ·split
  ·exact (pO m).cons (jW m (by decide) (by decide) (by decide))
  ·exact Sh.nil m
mutual
theorem Z0(d:Nat)(has:Bool):∀s:Sm,d≤3→jz d has s=true→Sh (4-d) (vS s)
 | .mk k n o v f a b w l,hd,h=>by
   rw[jz,NO]at h;have hl:=h.2;rw[vS];split
   ·exact jW _ (by decide) (by decide) (by decide)
   ·split
    ·exact (Bv _ _).cons (jW _ (by decide) (by decide) (by decide))
    ·split
     ·exact (FZ (m:=0) (by decide) (.inr rfl) (Ws 0 n o v f)).mono (by omega)
     ·split
      ·exact (jW _ (by decide) (by decide) (by decide)).cons (jW _ (by decide) (by decide) (by decide))
      ·split
       ·exact (jW _ (by decide) (by decide) (by decide)).cons (jW _ (by decide) (by decide) (by decide))
       ·refine (jW _ (by decide) (by decide) (by decide)).cons ?_;have hnth:∀m,Sh m (ph k a b w):=fun m=>by
         unfold ph;split
         ·refine (L9 m a b).app ?_;split
          ·exact (pO m).cons ((jW m (by decide) (by decide) (by decide)).cons (pO m))
          ·exact Sh.nil m
         ·exact Sh.nil m
        by_cases hL:gw k w=true
        ·rw[if_pos hL]at hl;simp only[NO,Of]at hl;have hX:=JV (d+1) _ _ l (by omega) hl.2;have:=FZ (m:=4-(d+1)) (t:=dX.getD (k-4).toNat []) (f:=false) (k:=2) (by decide) (.inl rfl) ((hnth _).app (Cr (fun i=>Iz _ i) hX));exact this.mono (by omega)
        ·rw[if_neg hL]at hl;have hl0:l=[]:=by simpa using hl
         subst hl0;have e2:gq jc (jj [])=[]:=rfl;rw[e2,aaL];exact (FZ (m:=0) (by decide) (.inl rfl) (hnth 0)).mono (by omega)
theorem PC(d:Nat)(has:Bool):∀l:List Sm,d≤3→mV d has l=true→Sh (4-d) (mn l)
 | [],_,_=>by rw[mn];exact Sh.nil _
 | s:: l,hd,h=>by
   rw[mV,NO]at h;rw[mn];exact (Z0 d has s hd h.1).app (PC d has l hd h.2)
theorem ZZ(d:Nat)(has:Bool):∀p:Cp,d≤3→cZ d has p=true→Sh (4-d) (vP p)
 | .mk t ss,hd,h=>by
   rw[cZ,NO]at h;rw[vP];refine Sh.app ?_ (PC d has ss hd h.2);split
   ·exact Bv _ _
   ·split
    ·exact Sh.nil _
    ·exact jW _ (by decide) (by decide) (by decide)
theorem PB(d:Nat)(has:Bool):∀l:List Cp,d≤3→me d has l=true→∀i,i<(ml l).length→Sh (4-d) ((ml l).getD i [])
 | [],_,_,i,hi=>by rw[ml]at hi;exact absurd hi (aaP _)
 | p:: l,hd,h,i,hi=>by
   rw[me,NO]at h;rw[ml]at hi ⊢;cases i with
   | zero=>exact ZZ d has p hd h.1
   | succ i=>exact PB d has l hd h.2 i (by simpa using hi)
theorem Z1(d:Nat)(has rel:Bool):∀x:Cx,d≤3→eL d has rel x=true→Sh (4-d) (vX x)
 | .mk l ps cs,hd,h=>by
   rw[eL,NO]at h;rw[vX];refine Sh.app ?_ (Cr (fun i=>Rp _ cs i) (PB d has ps hd h.2));split
   ·exact (Bv _ _).cons (pO _)
   ·exact Sh.nil _
theorem JV(d:Nat)(has rel:Bool):∀l:List Cx,d≤3→dD d has rel l=true→∀i,i<(jj l).length→Sh (4-d) ((jj l).getD i [])
 | [],_,_,i,hi=>by rw[jj]at hi;exact absurd hi (aaP _)
 | x:: l,hd,h,i,hi=>by
   rw[dD,NO]at h;rw[jj]at hi ⊢;cases i with
   | zero=>exact Z1 d has rel x hd h.1
   | succ i=>exact JV d has rel l hd h.2 i (by simpa using hi)
end
theorem JU(h:dD 0 false false l=true):Sh 4 (vL l):=Cr (fun i=>Iz _ i) (JV 0 false false l (by decide) h)
@[simp] theorem nJ(k:Int)(t:af)(f:Bool):(lf k t f).kind=k:=rfl
@[simp] theorem xQ(k:Int)(t:af)(f:Bool):(lf k t f).text=t:=rfl
@[simp] theorem aar(k:Int)(t:af)(f:Bool):(lf k t f).flag=f:=rfl
theorem Dq(h:small t=true):bT t=t:=by
 unfold small at h;rw[NO]at h;exact oN h.2
theorem Vx:∀i,i<5→mr (dX.getD i [])=(dt (4+(i:Int)) [],true):=by
 intro i h
 match i,h with
 | 0,_=>rfl
 | 1,_=>rfl
 | 2,_=>rfl
 | 3,_=>rfl
 | 4,_=>rfl
theorem Vy(k:Int)(h:k=9∨k=10):mr (C0 k)=(.mk k [] 0 [] false 0 1 false [],true):=by
 rcases h with rfl|rfl<;>rfl
theorem oC(h:v.kind≠13):cv (v:: r)=v:: r:=by rw[cv,if_neg h]
theorem xk(r:List Vl):cv (cH:: r)=cv r:=by rw[cv,if_pos (show cH.kind=13 from rfl)]
theorem Tv(c:UInt8)(r:List Vl):jq c (lU c:: r)=some r:=by rw[jq,if_pos ⟨rfl,rfl⟩]
theorem wK(h:¬(v.kind=9∧v.text=[c])):jq c (v:: r)=none:=by rw[jq,if_neg h]
theorem VK(n:af)(o:Int)(v:af)(f:Bool):G4 n o v (cv (if f then [lf 13 [] false,lf 1 [105] false] else []))=(eD n o v f,true):=by
 cases f<;>rfl
theorem Pa(n:af)(o:Int)(v:af)(f:Bool):yT n o (cv (lf 5 v false:: (if f then [lf 13 [] false,lf 1 [105] false] else [])))=(eD n o v f,true):=by
 rw[oC (show (lf 5 v false).kind≠13 by rw[nJ];decide),yT,if_pos (Or.inr (show (lf 5 v false).kind=5 from rfl))];exact VK n o v f
theorem Ts{o:Int}{v:af}(hn:bT n=n)(h0:0≤o)(h6:o≤6)(hz:o=0→v=[]∧f=false):lD (yU n o v f)=(eD n o v f,true):=by
 unfold yU lD;rw[oC (show (lf 1 n false).kind≠13 from by rw[nJ];decide)];dsimp only;rw[nJ,if_pos rfl,xQ,hn];have d:∀c:UInt8,∀r,cv (lf 9 [c] false:: r)=lf 9 [c] false:: r:=fun c r=>oC (by rw[nJ];decide);have two:∀(c:UInt8) (j:Int),c≠61→Lib.index po [c]=j→0≤j→qz n (lf 9 [c] false:: lf 9 [61] false:: lf 5 v false:: (if f then [lf 13 [] false,lf 1 [105] false] else []))=(eD n (2+j) v f,true):=by
  intro c j hc hj h0;unfold qz;dsimp only;rw[wK (c:=61) (v:=lf 9 [c] false) (fun h=>hc (List.head_eq_of_cons_eq (show [c]=[61] from h.2))),nJ,xQ,hj];dsimp only;rw[if_pos ⟨rfl,h0⟩,jq,if_pos ⟨rfl,rfl⟩];exact Pa n _ v f
 have ho:o=0∨o=1∨o=2∨o=3∨o=4∨o=5∨o=6:=by omega
 rcases ho with rfl|rfl|rfl|rfl|rfl|rfl|rfl
 ·obtain⟨rfl,rfl⟩:=hz rfl;rfl
 ·rw[if_neg (by decide)];show qz n (cv (lf 9 [61] false:: lf 5 v false:: _))=_;rw[d];unfold qz;dsimp only;rw[jq,if_pos ⟨rfl,rfl⟩];exact Pa n _ v f
 ·rw[if_neg (by decide)];show qz n (cv (lf 9 [126] false:: lf 9 [61] false:: lf 5 v false:: _))=_;rw[d];exact two 126 0 (by decide) (by decide) (by decide)
 ·rw[if_neg (by decide)];show qz n (cv (lf 9 [124] false:: lf 9 [61] false:: lf 5 v false:: _))=_;rw[d];exact two 124 1 (by decide) (by decide) (by decide)
 ·rw[if_neg (by decide)];show qz n (cv (lf 9 [94] false:: lf 9 [61] false:: lf 5 v false:: _))=_;rw[d];exact two 94 2 (by decide) (by decide) (by decide)
 ·rw[if_neg (by decide)];show qz n (cv (lf 9 [36] false:: lf 9 [61] false:: lf 5 v false:: _))=_;rw[d];exact two 36 3 (by decide) (by decide) (by decide)
 ·rw[if_neg (by decide)];show qz n (cv (lf 9 [42] false:: lf 9 [61] false:: lf 5 v false:: _))=_;rw[d];exact two 42 4 (by decide) (by decide) (by decide)
def Bk(r:List Vl):Prop:=r=[]∨∃q,r=cH:: q
theorem Vd(fn:af→List Vl→Sm×Bool)(h:Bk r):dy fn r=some ([],r):=by
 rcases h with rfl|⟨q,rfl⟩
 ·rw[dy]
 ·rw[dy.eq_def];rfl
theorem Na{o:Int}{v:af}(h0:o=0)(h1:v=[])(h2:f=false)(h3:a=0)(h4:b=0)(h5:w=false)(h6:l=[]):Sm.mk k n o v f a b w l=dt k n:=by subst h0 h1 h2 h3 h4 h5 h6;rfl
theorem Wu{o:Int}{v:af}(ok:jz d has (.mk k n o v f a b w l)=true)(g:0≤o)
 (hf:9≤k→kf k a b w=false→fn (dX.getD (k-4).toNat []) (ph k a b w++gq jc (jj l))=(.mk k n o v f a b w l,true)) (r:List Vl) :
 dy fn (vS (.mk k n o v f a b w l)++r)=iY (.mk k n o v f a b w l) (dy fn r):=by
 rw[jz,NO]at ok;obtain⟨ob,ol⟩:=ok;have bare:k=1∨k=2→Sm.mk k n o v f a b w l=dt k n:=by
  intro hk;rw[jo,if_pos hk]at ob;simp only[NO,Of,aa8]at ob;obtain⟨⟨⟨⟨⟨⟨_,h0⟩,h1⟩,h2⟩,h3⟩,h4⟩,h5⟩:=ob;have hh:gw k w=false:=by rw[h5];unfold gw eK;rcases hk with rfl|rfl<;>decide
  rw[if_neg (by rw[hh];decide)]at ol;exact Na h0 h1 h2 h3 h4 h5 (List.isEmpty_iff.1 ol)
 rw[vS]
 by_cases k1:k=1
 ·rw[if_pos k1,bare (Or.inl k1),k1];rw[List.singleton_append,dy.eq_def];rfl
 rw[if_neg k1]
 by_cases k2:k=2
 ·rw[if_pos k2,bare (Or.inr k2),k2];show dy fn (lU 46:: lf 1 n false:: r)=_;rw[dy.eq_def];rfl
 rw[if_neg k2]
 by_cases k3:k=3
 ·rw[if_pos k3];rw[jo,if_neg (by omega),if_pos k3]at ob;simp only[NO,Of,aa8]at ob;obtain⟨⟨⟨⟨⟨⟨⟨hn,h6⟩,_⟩,_⟩,hz⟩,h3⟩,h4⟩,h5⟩:=ob;have hh:gw k w=false:=by rw[h5,k3];decide
  rw[if_neg (by rw[hh];decide)]at ol;have hzz:o=0→v=[]∧f=false:=by
   intro h;rw[h]at hz;simpa using hz
  have ha:=Ts (Dq hn) g h6 hzz;rw[List.singleton_append,F5 (t:=.mk 19 [] 0 [] false (yU n o v f)) (show ¬(19:Int)=4 by decide) (fun h=>absurd (show (19:Int)=9 from h.1) (by decide)) (show (19:Int)=19 from rfl)];show (if (lD (yU n o v f)).2=true then iY (lD (yU n o v f)).1 (dy fn r) else none)=_;rw[ha,if_pos rfl];have e:l=[]:=List.isEmpty_iff.1 ol;subst h3 h4 h5 e k3;rfl
 rw[if_neg k3];rw[jo,if_neg (by omega),if_neg k3]at ob;simp only[NO,Of,aa8]at ob;obtain⟨⟨⟨⟨⟨hn,h0⟩,hv⟩,hf0⟩,hk⟩,hi⟩:=ob
 by_cases fr:kf k a b w=true
 ·rw[if_pos fr];unfold kf at fr;simp only[NO,Of,aa8]at fr;obtain⟨⟨⟨i9,w0⟩,a0⟩,b1⟩:=fr;have k9:k=9∨k=10:=by
   unfold eK at i9;simpa using i9
  have hh:gw k w=false:=by rw[w0];unfold gw;rcases k9 with rfl|rfl<;>decide
  rw[if_neg (by rw[hh];decide)]at ol;have e:l=[]:=List.isEmpty_iff.1 ol;show dy fn (CN:: lf 1 (C0 k) false:: r)=_;rw[dy.eq_def];show (if (mr (C0 k)).2=true then iY (mr (C0 k)).1 (dy fn r) else none)=_;rw[Vy k k9,if_pos rfl];subst hn h0 hv hf0 w0 a0 b1 e;rfl
 rw[if_neg fr];have frf:kf k a b w=false:=by simpa using fr
 by_cases k8:k≤8
 ·rw[if_pos k8];have in9:eK k=false:=by unfold eK;simp;omega
  rw[in9,if_neg (by decide)]at hi;simp only[NO,Of,aa8]at hi;obtain⟨⟨a0,b0⟩,w0⟩:=hi;have hh:gw k w=false:=by unfold gw;rw[in9];simp;omega
  rw[if_neg (by rw[hh];decide)]at ol;have e:l=[]:=List.isEmpty_iff.1 ol;obtain⟨i,hi5,rfl⟩:∃i:Nat,i<5∧k=4+(i:Int):=⟨(k-4).toNat,by omega,by omega⟩;rw[show ((4+(i:Int))-4).toNat=i by omega];show dy fn (CN:: lf 1 (dX.getD i []) false:: r)=_;rw[dy.eq_def];show (if (mr (dX.getD i [])).2=true then iY (mr (dX.getD i [])).1 (dy fn r) else none)=_;rw[Vx i hi5,if_pos rfl];subst hn h0 hv hf0 w0 a0 b0 e;rfl
 rw[if_neg k8];have hq:=hf (by omega) frf;show dy fn (CN:: .mk 2 (dX.getD (k-4).toNat []) 0 [] false (ph k a b w++gq jc (jj l)):: r)=_;rw[dy.eq_def];show (if (fn (dX.getD (k-4).toNat []) (ph k a b w++gq jc (jj l))).2=true then iY (fn (dX.getD (k-4).toNat []) (ph k a b w++gq jc (jj l))).1 (dy fn r) else none)=_;rw[hq,if_pos rfl]
def Fo(fn:af→List Vl→Sm×Bool):Sm→Prop
 | .mk k n o v f a b w l=>9≤k→kf k a b w=false→fn (dX.getD (k-4).toNat []) (ph k a b w++gq jc (jj l))=(.mk k n o v f a b w l,true)
def RV(fn:af→List Vl→Sm×Bool)(p:Cp):Prop:=∀s∈p.ym,Fo fn s
theorem F4{fn:af→List Vl→Sm×Bool}{d:Nat}{has:Bool}:∀ss:List Sm,mV d has ss=true→wv ss=true→(∀s∈ss,Fo fn s)→∀r,Bk r→dy fn (mn ss++r)=some (ss,r)
 | [],_,_,_,r,hr=>by rw[mn];exact Vd fn hr
 | .mk k n o v f a b w l:: ss,ok,g,hf,r,hr=>by
   rw[mV,NO]at ok;rw[wv,NO,gS,NO]at g;rw[mn,To,Wu ok.1 (oN g.1.1) (hf _ (aa9 ..)),F4 ss ok.2 g.2 (fun s hs=>hf s (Lt _ hs)) r hr];rfl
def HS(v:Vl):Prop:=v.kind=4∨v=lU 46∨v.kind=19∨v.kind=16
def HP(v:Vl):Prop:=HS v∨v=lU 42∨v.kind=1
theorem I0:∀s:Sm,∃v q,vS s=v:: q∧HS v
 | .mk k n o v f a b w l=>by
   rw[vS]
   by_cases k1:k=1
   ·rw[if_pos k1];exact⟨_,_,rfl,Or.inl rfl⟩
   rw[if_neg k1]
   by_cases k2:k=2
   ·rw[if_pos k2];exact⟨_,_,rfl,Or.inr (Or.inl rfl)⟩
   rw[if_neg k2]
   by_cases k3:k=3
   ·rw[if_pos k3];exact⟨_,_,rfl,Or.inr (Or.inr (Or.inl rfl))⟩
   rw[if_neg k3]
   by_cases fr:kf k a b w=true
   ·rw[if_pos fr];exact⟨_,_,rfl,Or.inr (Or.inr (Or.inr rfl))⟩
   rw[if_neg fr]
   by_cases k8:k≤8
   ·rw[if_pos k8];exact⟨_,_,rfl,Or.inr (Or.inr (Or.inr rfl))⟩
   ·rw[if_neg k8];exact⟨_,_,rfl,Or.inr (Or.inr (Or.inr rfl))⟩
theorem HS.no1(h:HS v):v.kind≠1:=by
 rcases h with h|rfl|h|h
 ·rw[h];decide
 ·decide
 ·rw[h];decide
 ·rw[h];decide
theorem HP.no(h:HP v)(h1:c≠46)(h2:c≠42):¬(v.kind=9∧v.text=[c]):=by
 rintro⟨h9,ht⟩;rcases h with (h|rfl|h|h)|rfl|h
 ·rw[h]at h9;exact absurd h9 (by decide)
 ·exact h1 (List.head_eq_of_cons_eq (show [46]=[c] from ht)).symm
 ·rw[h]at h9;exact absurd h9 (by decide)
 ·rw[h]at h9;exact absurd h9 (by decide)
 ·exact h2 (List.head_eq_of_cons_eq (show [42]=[c] from ht)).symm
 ·rw[h]at h9;exact absurd h9 (by decide)
theorem HP.nk(h:HP v):v.kind≠13∧v.kind≠18:=by
 rcases h with (h|rfl|h|h)|rfl|h
 ·rw[h];decide
 ·decide
 ·rw[h];decide
 ·rw[h];decide
 ·decide
 ·rw[h];decide
theorem HS.ZN(h:HS v):¬(v.kind=9∧v.text=[42]):=by
 rintro⟨h9,ht⟩;rcases h with h|rfl|h|h
 ·rw[h]at h9;exact absurd h9 (by decide)
 ·exact absurd (List.head_eq_of_cons_eq (show [46]=[(42:UInt8)] from ht)) (by decide)
 ·rw[h]at h9;exact absurd h9 (by decide)
 ·rw[h]at h9;exact absurd h9 (by decide)
theorem IY:∀p:Cp,cZ d has p=true→∃v q,vP p=v:: q∧HP v
 | .mk t ss,ok=>by
   rw[cZ]at ok;simp only[NO]at ok;rw[vP]
   by_cases h42:t=[42]
   ·rw[if_pos h42];exact⟨_,_,rfl,Or.inr (Or.inl rfl)⟩
   rw[if_neg h42]
   by_cases h0:t=[]
   ·rw[if_pos h0];cases ss with
    | nil=>simp[h0]at ok
    | cons s ss =>
      obtain⟨v,q,e,hv⟩:=I0 s;rw[mn,e];exact⟨_,_,rfl,Or.inl hv⟩
   ·rw[if_neg h0];exact⟨_,_,rfl,Or.inr (Or.inr rfl)⟩
theorem Mj(ok:cZ d has (.mk t ss)=true)(r:List Vl):eF (vP (.mk t ss)++r)=(t,mn ss++r):=by
 rw[cZ]at ok;simp only[NO]at ok;rw[vP]
 by_cases h42:t=[42]
 ·rw[if_pos h42,h42];show eF (lU 42:: (mn ss++r))=_;rw[eF,if_neg (show ¬(lU 42).kind=1 by decide),Tv]
 rw[if_neg h42]
 by_cases h0:t=[]
 ·rw[if_pos h0,h0];cases ss with
  | nil=>simp[h0]at ok
  | cons s ss =>
    obtain⟨v,q,e,hv⟩:=I0 s;rw[mn,e];show eF (v:: (q++mn ss++r))=([],v:: (q++mn ss++r));rw[eF,if_neg hv.no1,wK hv.ZN]
 ·rw[if_neg h0];have hs:small t=true:=by
   have:=ok.1.1.1;simp only[aa7,Of]at this;rcases this with (h|h)|h
   ·exact absurd h h0
   ·exact absurd h h42
   ·exact h
  show eF (lf 1 t false:: (mn ss++r))=_;rw[eF,if_pos (show (lf 1 t false).kind=1 from rfl),xQ,Dq hs]
def cN(o:List Vl):List Cp→List Int→List Vl
 | p:: ps,c:: cs=>mU c++(vP p++cN o ps cs)
 | _,_=>o
theorem Ae(o:List Vl):∀ps cs,cN o ps cs=cN [] ps cs++o
 | p:: ps,c:: cs=>by rw[cN,cN,Ae o ps cs];simp only[To]
 | [],_=>by rw[cN.eq_def,cN.eq_def];rfl
 | _:: _,[]=>by rw[cN.eq_def,cN.eq_def];rfl
abbrev Po(o:List Vl):Prop:=o=[]∨o=[cH]
theorem Po.bk(h:Po o):Bk o:=h.elim Or.inl fun e=>Or.inr ⟨[],e⟩
theorem Po.sk(h:Po o):cv o=[]:=by rcases h with rfl|rfl<;>rfl
theorem Pb(h:HP v):ko (v:: q)=(0,v:: q):=by
 unfold ko;rw[wK (h.no (by decide) (by decide)),wK (h.no (by decide) (by decide)),wK (h.no (by decide) (by decide))]
theorem KB{c:Int}(h2:2≤c)(h4:c≤4)(r:List Vl):ko (lU (bB_ c):: r)=(c,cv r):=by
 have:c=2∨c=3∨c=4:=by omega
 rcases this with rfl|rfl|rfl<;>rfl
theorem He{fn:af→List Vl→Sm×Bool}{d:Nat}{has:Bool}(lead:Int){o:List Vl}(ho:Po o):∀(ps:List Cp) (cs:List Int) (p:Cp) (n:Nat) (A:List Cp) (C:List Int),cs.length=ps.length→(∀c∈cs,1≤c∧c≤4) →
 cZ d has p=true→me d has ps=true→gP p=true→uh ps=true→RV fn p→(∀p∈ps,RV fn p)→A.length+ps.length+1≤64→ps.length<n →
 js fn (cZ d has) lead n A C (vP p++cN o ps cs)=(.mk lead (A++p:: ps) (C++cs),true)
 | ps,cs,.mk t ss,0,A,C,_,_,_,_,_,_,_,_,_,hn=>absurd hn (aaP _)
 | [],[],.mk t ss,n+1,A,C,_,_,op,_,gp,_,fp,_,hA,_=>by
   have op':=op;rw[cZ,NO]at op';rw[gP]at gp;rw[js.eq_def];dsimp only;rw[cN.eq_def,Mj op,F4 ss op'.2 gp fp _ ho.bk];dsimp only;rw[if_pos op,ho.sk,if_pos rfl,aaL,oF (show A.length+1≤64 from hA)]
 | q:: ps,c:: cs,.mk t ss,n+1,A,C,hl,hc,op,ops,gp,gps,fp,fps,hA,hn=>by
   have op':=op;rw[cZ,NO]at op';rw[gP]at gp;rw[me,NO]at ops;rw[uh,NO]at gps;have hc':=hc c (aa9 ..);obtain⟨v,u,e,hv⟩:=IY q ops.1;have hb:Bk (cN o (q:: ps) (c:: cs)):=by
    right;rw[cN,mU]
    by_cases h1:c=1
    ·rw[if_pos h1];exact⟨_,rfl⟩
    ·rw[if_neg h1];exact⟨_,rfl⟩
   have go:=He (fn:=fn) lead ho ps cs q n (A++[.mk t ss]) (C++[c]) (by simpa using hl) (fun c h=>hc c (Lt _ h)) ops.1 ops.2 gps.1 gps.2 (fps _ (aa9 ..)) (fun p h=>fps p (Lt _ h)) (by simp at hA ⊢;omega) (by simp at hn;omega);rw[js.eq_def];dsimp only;rw[Mj op,F4 ss op'.2 gp fp _ hb];dsimp only;rw[if_pos op];rw[To,List.singleton_append,To,List.singleton_append]at go
   by_cases h1:c=1
   ·have es:cv (cN o (q:: ps) (c:: cs))=vP q++cN o ps cs:=by
     rw[cN,mU,if_pos h1,List.singleton_append,xk,e,abg,oC hv.nk.1]
    have ec:ko (vP q++cN o ps cs)=(0,vP q++cN o ps cs):=by rw[e,abg];exact Pb hv
    have en:vP q++cN o ps cs≠[]:=by rw[e];exact List.cons_ne_nil _ _
    have el:¬(vP q++cN o ps cs).length=(cN o (q:: ps) (c:: cs)).length:=by
     rw[cN,mU,if_pos h1,List.singleton_append,aaB];omega
    rw[es,if_neg en,ec,if_pos rfl,if_neg el];rw[←h1];exact go
   ·have es:cv (cN o (q:: ps) (c:: cs))=lU (bB_ c):: cH:: (vP q++cN o ps cs):=by
     rw[cN,mU,if_neg h1];show cv (cH:: lU (bB_ c):: cH:: _)=_;rw[xk,oC (show (lU (bB_ c)).kind≠13 by show (9:Int)≠13;decide)];rfl
    have ec:ko (lU (bB_ c):: cH:: (vP q++cN o ps cs))=(c,vP q++cN o ps cs):=by
     rw[KB (by omega) hc'.2,xk,e,abg,oC hv.nk.1]
    rw[es,if_neg (List.cons_ne_nil _ _),ec,if_neg (show ¬c=0 by omega)];exact go
mutual
def hX:Cx→Bool
 | .mk l ps _=>decide (0≤l)&&EW ps
def EW:List Cp→Bool
 | []=>true
 | p:: l=>hP p&&EW l
def hP:Cp→Bool
 | .mk _ ss=>EX ss
def EX:List Sm→Bool
 | []=>true
 | s:: l=>hS s&&EX l
def hS:Sm→Bool
 | .mk _ _ _ _ _ _ _ _ l=>ot l
def ot:List Cx→Bool
 | []=>true
 | x:: l=>hX x&&ot l
end
theorem vm(sep:Nat→List Vl)(v:List Vl)(vs:List (List Vl)):gq sep (v:: vs)=sep 0++(v++(List.range vs.length).flatMap fun i=>sep (i+1)++vs.getD i []):=by
 unfold gq;rw[aaB,List.range_succ_eq_map,List.flatMap_cons,List.flatMap_map,To];rfl
theorem Iq:∀(ps:List Cp) (cs:List Int),cs.length=ps.length→((List.range (ml ps).length).flatMap fun i=>mU (cs.getD i 0)++(ml ps).getD i [])=cN [] ps cs
 | [],[],_=>by rw[ml,cN.eq_def];rfl
 | p:: ps,c:: cs,h=>by
   rw[ml,aaB,List.range_succ_eq_map,List.flatMap_cons,List.flatMap_map,cN,To,←Iq ps cs (by simpa using h)];rfl
theorem FU:∀(ps:List Cp) (cs:List Int),cs.length=ps.length→ps.length≤(cN [] ps cs).length
 | [],[],_=>aaO _
 | p:: ps,c:: cs,h=>by
   have:=FU ps cs (by simpa using h);have h1:1≤(mU c).length:=by
    unfold mU
    by_cases h:c=1
    ·rw[if_pos h];exact bY _
    ·rw[if_neg h];show 1≤3;decide
   rw[cN,AT,AT,aaB];omega
theorem Pk(p:Cp)(ps:List Cp)(cs:List Int)(h:cs.length=ps.length):gq (qU cs) (ml (p:: ps))=vP p++cN [] ps cs:=by
 rw[ml,vm,←Iq ps cs h];rfl
theorem VP(ok:eL d has rel x=true)(g:gX x=true)(hl:0≤x.lead)(hf:∀p∈x.parts,RV fn p)(pre:List Vl)(hp:pre=[]∨pre=[cH])(ho:Po o):
 mO fn (cZ d has) rel (pre++(vX x++o))=(x,true):=by
 obtain⟨l,ps,cs⟩:=x;rw[eL]at ok;simp only[NO,Of,beq_iff_eq,At]at ok;obtain⟨⟨⟨⟨⟨hr,h4⟩,hlen⟩,h64⟩,hc⟩,ops⟩:=ok;rw[gX]at g;cases ps with
 | nil=>simp at hlen
 | cons p ps =>
   have hlen':cs.length=ps.length:=by simpa using hlen
   rw[me,NO]at ops;rw[uh,NO]at g;have hl0:0≤l:=hl;obtain⟨v,u,e,hv⟩:=IY p ops.1;have sk:∀q:List Vl,cv (pre++q)=cv q:=by
    intro q;rcases hp with rfl|rfl
    ·rfl
    ·exact xk q
   have skP:cv (vP p++cN o ps cs)=vP p++cN o ps cs:=by rw[e,abg,oC hv.nk.1]
   have ln:ps.length≤(cN o ps cs).length:=by have:=FU ps cs hlen';rw[Ae,AT];omega
   have go:∀lead n,ps.length<n→js fn (cZ d has) lead n [] [] (vP p++cN o ps cs)=(.mk lead (p:: ps) cs,true):=fun lead n hn =>
    He lead ho ps cs p n [] [] hlen' (fun c h=>by simpa using hc c h) ops.1 ops.2 g.1 g.2 (hf p (aa9 ..)) (fun q h=>hf q (Lt _ h)) (by simp at h64 ⊢;omega) hn
   unfold mO;have ej:∀q:List Vl,(q++(vP p++cN [] ps cs))++o=q++(vP p++cN o ps cs):=fun q=>by rw[Ae o];simp only[To]
   rw[sk,vX,Pk p ps cs hlen',ej];cases rel with
   | false =>
     have l0:l=0:=by simpa using hr
     subst l0;rw[if_neg (show ¬(1:Int)<0 by decide),List.nil_append,skP];dsimp only;rw[if_neg (by decide)];exact go 0 _ (by rw[AT];omega)
   | true =>
     have l0:l≠0:=by simpa using hr
     dsimp only;rw[if_pos rfl]
     by_cases h1:1<l
     ·rw[if_pos h1];have:cv (([lU (bB_ l),cH]:List Vl)++(vP p++cN o ps cs))=lU (bB_ l):: cH:: (vP p++cN o ps cs):=by
       show cv (lU (bB_ l):: cH:: (vP p++cN o ps cs))=_;rw[oC (show (lU (bB_ l)).kind≠13 by show (9:Int)≠13;decide)]
      rw[this,KB (by omega) h4,xk,skP];dsimp only;rw[if_neg l0];exact go l _ (by rw[AT];omega)
     ·have l1:l=1:=by omega
      subst l1;rw[if_neg h1,List.nil_append,skP,show ko (vP p++cN o ps cs)=(0,vP p++cN o ps cs) by rw[e,abg];exact Pb hv];dsimp only;rw[if_pos rfl];exact go 1 _ (by rw[AT];omega)
theorem VO{ok:Cp→Bool}{rel:Bool}(h:mO fn ok rel (q++(vX x++[]))=(x,true)):mO fn ok rel (q++vX x)=(x,true):=by rwa [aaL]at h
def NC(l:List Vl):Prop:=∀v∈l,v.kind≠18
theorem NC.app{a b:List Vl}(x:NC a)(y:NC b):NC (a++b):=fun v hv=>(Is.1 hv).elim (x v) (y v)
theorem mb(h:v.kind≠18):NC [v]:=fun u hu=>by rw[TO.1 hu];exact h
theorem ur{v w:Vl}(h:v.kind≠18)(h2:w.kind≠18):NC [v,w]:=(mb h).app (mb h2)
theorem vQ:∀a:List Vl,NC a→eZ a=[a]
 | [],_=>by rw[eZ]
 | v:: a,h=>by rw[eZ,if_neg (h v (aa9 ..)),vQ a fun u hu=>h u (Lt _ hu)]
theorem Cs(r:List Vl):∀a:List Vl,NC a→eZ (a++oO:: r)=a:: eZ r
 | [],_=>by rw[List.nil_append,eZ,if_pos (show oO.kind=18 from rfl)]
 | v:: a,h=>by rw[abg,eZ,if_neg (h v (aa9 ..)),Cs r a fun u hu=>h u (Lt _ hu)]
theorem ZM:∀s:Sm,NC (vS s)
 | .mk k n o v f a b w l=>by
   have d:∀{k:Int} {t:af} {n:Int} {u:af} {f:Bool} {l:List Vl},k≠18→(Vl.mk k t n u f l).kind≠18:=fun h=>h;rw[vS]
   by_cases k1:k=1
   ·rw[if_pos k1];exact mb (d (by decide))
   rw[if_neg k1]
   by_cases k2:k=2
   ·rw[if_pos k2];exact ur (d (by decide)) (d (by decide))
   rw[if_neg k2]
   by_cases k3:k=3
   ·rw[if_pos k3];exact mb (d (by decide))
   rw[if_neg k3]
   by_cases fr:kf k a b w=true
   ·rw[if_pos fr];exact ur (d (by decide)) (d (by decide))
   rw[if_neg fr]
   by_cases k8:k≤8
   ·rw[if_pos k8];exact ur (d (by decide)) (d (by decide))
   ·rw[if_neg k8];exact ur (d (by decide)) (d (by decide))
theorem Ps:∀l:List Sm,NC (mn l)
 | []=>by rw[mn];exact fun _ h=>absurd h (List.not_mem_nil)
 | s:: l=>by rw[mn];exact (ZM s).app (Ps l)
theorem Uk:∀p:Cp,NC (vP p)
 | .mk t ss=>by
   rw[vP];refine NC.app ?_ (Ps ss)
   by_cases h42:t=[42]
   ·rw[if_pos h42];exact mb (show (9:Int)≠18 by decide)
   rw[if_neg h42]
   by_cases h0:t=[]
   ·rw[if_pos h0];exact fun _ h=>absurd h (List.not_mem_nil)
   ·rw[if_neg h0];exact mb (show (1:Int)≠18 by decide)
theorem Ib:∀(ps:List Cp) (cs:List Int),NC (cN [] ps cs)
 | [],_=>by rw[cN.eq_def];exact fun _ h=>absurd h (List.not_mem_nil)
 | _:: _,[]=>by rw[cN.eq_def];exact fun _ h=>absurd h (List.not_mem_nil)
 | p:: ps,c:: cs=>by
   rw[cN];refine NC.app ?_ ((Uk p).app (Ib ps cs));unfold mU
   by_cases h:c=1
   ·rw[if_pos h];exact mb (show (13:Int)≠18 by decide)
   ·rw[if_neg h];exact (mb (v:=cH) (show (13:Int)≠18 by decide)).app (ur (show (9:Int)≠18 by decide) (show (13:Int)≠18 by decide))
theorem Og(ok:eL d has rel x=true):NC (vX x):=by
 obtain⟨l,ps,cs⟩:=x;rw[eL]at ok;simp only[NO,Of,beq_iff_eq,At]at ok;obtain⟨⟨⟨⟨⟨hr,h4⟩,hlen⟩,h64⟩,hc⟩,ops⟩:=ok;cases ps with
 | nil=>simp at hlen
 | cons p ps =>
   rw[vX,Pk p ps cs (by simpa using hlen)];refine NC.app ?_ ((Uk p).app (Ib ps cs))
   by_cases h:1<l
   ·rw[if_pos h];exact ur (show (9:Int)≠18 by decide) (show (13:Int)≠18 by decide)
   ·rw[if_neg h];exact fun _ h=>absurd h (List.not_mem_nil)
def oH:List Cx→List Vl
 | []=>[]
 | x:: l=>oO:: cH:: (vX x++oH l)
theorem IL:∀l:List Cx,((List.range (jj l).length).flatMap fun i=>jc (i+1)++(jj l).getD i [])=oH l
 | []=>by rw[jj,oH];rfl
 | x:: l=>by
   rw[jj,aaB,List.range_succ_eq_map,List.flatMap_cons,List.flatMap_map,oH,To,←IL l];rfl
theorem uF(x:Cx)(l:List Cx):vL (x:: l)=vX x++oH l:=by
 unfold vL;rw[jj,vm,←IL];rfl
theorem Dt{d:Nat}{has rel:Bool}:∀(l:List Cx) (a:List Vl),NC a→dD d has rel l=true→eZ (a++oH l)=a:: l.map fun x=>cH:: vX x
 | [],a,h,_=>by rw[oH,aaL,vQ a h];rfl
 | x:: l,a,h,ok=>by
   rw[dD,NO]at ok;rw[oH,Cs _ a h];have:=Dt l (cH:: vX x) ((mb (v:=cH) (show (13:Int)≠18 by decide)).app (Og ok.1)) ok.2;rw[abg]at this;rw[this];rfl
theorem Il{cp:List Vl→Cx×Bool}{forg:Bool}:∀(l:List Cx) (acc:List Cx),(∀x∈l,cp (cH:: vX x)=(x,true))→ib cp forg (l.map fun x=>cH:: vX x) acc=(acc++l,true)
 | [],acc,_=>by rw[List.map_nil,ib,aaL]
 | x:: l,acc,h=>by
   rw[GO,ib,h x (aa9 ..),if_pos rfl,Il l _ fun y hy=>h y (Lt _ hy),To];rfl
theorem Wa{cp:List Vl→Cx×Bool}{forg:Bool}(ok:dD d has rel l=true)(pre:List Vl)(hp:pre=[]∨pre=[cH])(hc:∀x∈l,∀q,(q=[]∨q=[cH])→cp (q++vX x)=(x,true))
 (hn:l=[]→forg=true∧(cp pre).2=false):ib cp forg (eZ (pre++vL l)) []=(l,true):=by
 have np:NC pre:=by rcases hp with rfl|rfl;exact (fun _ h=>absurd h (List.not_mem_nil));exact mb (show (13:Int)≠18 by decide)
 cases l with
 | nil =>
   obtain⟨h1,h2⟩:=hn rfl;rw[show vL []=[] from rfl,aaL,vQ _ np,ib,h2,if_neg (by decide),if_pos h1,ib]
 | cons x l =>
   rw[dD,NO]at ok;rw[uF,←To,Dt l _ (np.app (Og ok.1)) ok.2,ib,hc x (aa9 ..) pre hp,if_pos rfl,Il l _ fun y hy=>hc y (Lt _ hy) [cH] (Or.inr rfl)];rfl
theorem Pu(A B:Int):∀v∈lO A B,jb v=false:=by
 have hk:∀t:Tok,t.k≠1→jb (iy t [])=false:=fun t h=>by
  unfold jb;rw[show (iy t []).kind=t.k from rfl,nO h,Bool.false_and]
 have hh:∀(c:UInt8) (y:af),bG.dF c≠111→jb (iy ⟨1,c:: y,0,[],false⟩ [])=false:=fun c y h=>by
  unfold jb;rw[show (iy ⟨1,c:: y,0,[],false⟩ []).text=c:: y from rfl,nO (show ¬bT (c:: y)=[111,102] from fun e=>h (List.head_eq_of_cons_eq e)),Bool.and_false]
 have hn:jb (iy (nB B) [])=false:=hk _ (show (10:Int)≠1 by decide);have ht:∀t∈jD B,jb (iy t [])=false:=fun t h=>by
  unfold jD at h;split at h
  ·rw[TO.1 h];exact hn
  ·cases h
 intro v hv;unfold lO at hv;obtain⟨t,h,rfl⟩:=aaF.1 hv;unfold oV at h;split at h
 ·rw[TO.1 h];exact hn
 ·rcases ID.1 h with rfl|h
  ·split
   ·exact hh 110 _ (by decide)
   ·split
    ·exact hh 45 _ (by decide)
    ·exact hk _ (show (12:Int)≠1 by decide)
  ·exact ht t h
theorem Hz(q:List Vl):∀p:List Vl,(∀v∈p,jb v=false)→(p++cH:: lf 1 [111,102] false:: q).findIdx? jb=some (p.length+1)
 | [],_=>rfl
 | v:: p,h=>by
   rw[abg,List.findIdx?_cons,h v (aa9 ..),if_neg (by decide),Hz q p fun u hu=>h u (Lt _ hu)];rfl
theorem Hy:∀p:List Vl,(∀v∈p,jb v=false)→p.findIdx? jb=none
 | [],_=>rfl
 | v:: p,h=>by
   rw[List.findIdx?_cons,h v (aa9 ..),if_neg (by decide),Hy p fun u hu=>h u (Lt _ hu)];rfl
theorem M6(A B:Int):(oV A B).length≤2:=by
 have:(jD B).length≤1:=by unfold jD;split<;>simp
 unfold oV;split
 ·simp
 ·rw[aaB];omega
theorem Lv(ha:bG.gu a=true)(hb:bG.gu b=true)(sp:List Vl)(hs:sp=[]∨sp=[cH])(k:Int)(w:Bool)(l:List Cx):rX k w l (lO a b++sp)=(.mk k [] 0 [] false a b w l,true):=by
 have hS:Sh 0 (lO a b++sp):=(L9 0 a b).app (by rcases hs with rfl|rfl;exact Sh.nil 0;exact pO 0);have tk:bJ (lO a b++sp)=oV a b++bJ sp:=by rw[fo];unfold lO;rw[Ai _ (CL a b)]
 have h13:∀t∈bJ sp,t.k=13:=by
  intro t ht;rcases hs with rfl|rfl
  ·rw[dm]at ht;cases ht
  ·rw[cf,dm,aaL,D0,TO]at ht;rw[ht]
 have hc:dh (lO a b++sp)≤1500:=by
  rw[←mg,tk,AT];have h1:=M6 a b;have h2:(bJ sp).length≤1:=by
   rcases hs with rfl|rfl
   ·rw[dm];decide
   ·rw[cf,dm,aaL,D0];exact bY _
  omega
 unfold rX;rw[if_pos (G6 _ (hS.1 0 (Or.inl rfl)) (aaT hS.2 (aaO _)) hc),tk,VI a b (xY ha).1 (xY hb).1 _ h13]
theorem QI:∀i,i<11→kM dX (bT (dX.getD i []))=i:=by
 intro i h
 match i,h with
 | 0,_=>rfl
 | 1,_=>rfl
 | 2,_=>rfl
 | 3,_=>rfl
 | 4,_=>rfl
 | 5,_=>rfl
 | 6,_=>rfl
 | 7,_=>rfl
 | 8,_=>rfl
 | 9,_=>rfl
 | 10,_=>rfl
def Rk(d:Nat):Prop:=∀(has rel forg:Bool) (l:List Cx) (pre:List Vl),dD d has rel l=true→ju l=true→ot l=true→(l=[]→forg=true)→(pre=[]∨pre=[cH])→nL (3-d) has (pre++vL l) rel forg=(l,true)
theorem NR{x y:Vl}(p q:List Vl):(p++x:: y:: q).drop (p.length+2)=q:=by
 rw[show p++x:: y:: q=(p++[x,y])++q by simp,show p.length+2=(p++[x,y]).length by simp,List.drop_left]
theorem take_one{x y:Vl}(p q:List Vl):(p++x:: y:: q).take (p.length+1)=p++[x]:=by
 rw[show p++x:: y:: q=(p++[x])++(y:: q) by simp,show p.length+1=(p++[x]).length by simp,List.take_left]
theorem ZB(hd:d≤3)(hk:d<3→Rk (d+1)):∀s:Sm,jz d has s=true→gS s=true→hS s=true→Fo (mP (eV d has)) s
 | .mk k n o v f a b w l,ok,g,hh=>by
   intro k9 fr;rw[jz,NO]at ok;obtain⟨ob,ol⟩:=ok;rw[gS,NO]at g;rw[hS]at hh;rw[jo,if_neg (by omega),if_neg (by omega)]at ob;simp only[NO,Of,aa8]at ob;obtain⟨⟨⟨⟨⟨hn,h0⟩,hv⟩,hf0⟩,hkk⟩,hi⟩:=ob;obtain⟨i,hi11,rfl⟩:∃i:Nat,i<11∧k=4+(i:Int):=⟨(k-4).toNat,by omega,by omega⟩;rw[show ((4+(i:Int))-4).toNat=i by omega];unfold mP;dsimp only;rw[QI i hi11,if_neg (show ¬((i:Int)<5) by omega)];have inner:gw (4+(i:Int)) w=true→∀(pre:List Vl),(pre=[]∨pre=[cH])→eV d has (4+(i:Int)) (pre++vL l) (decide (4+(i:Int)=14)) (nq (4+(i:Int)))=some (l,true):=by
    intro hL pre hp;rw[if_pos hL]at ol;simp only[NO,Of,aa8]at ol;obtain⟨⟨⟨d3,h14⟩,hfree⟩,okl⟩:=ol;unfold eV;have hin:iw d has (4+(i:Int))=true:=by
     unfold iw;rw[nO d3,Bool.false_or,h14];rfl
    rw[if_pos hin]
    by_cases dd:d<3
    ·rw[hk dd _ _ _ l pre okl g.2 hh (fun e=>by rw[e]at hfree;simpa using hfree) hp]
    ·exact absurd (show d=3 by omega) d3
   subst hn h0 hv hf0
   by_cases i7:(i:Int)<7
   ·rw[if_pos i7];have nt:eK (4+(i:Int))=true:=by unfold eK;simp;omega
    have n14:decide (4+(i:Int)=14)=false:=nO (by omega);have nfr:nq (4+(i:Int))=false:=by unfold nq;simp;omega
    rw[if_pos nt]at hi;simp only[NO]at hi;rw[n14,nfr]at inner;unfold ph;rw[if_pos nt];unfold vz;cases w with
    | true =>
      have hL:gw (4+(i:Int)) true=true:=by unfold gw;rw[nt];rfl
      rw[if_pos rfl,To];rw[show ([cH,lf 1 [111,102] false,cH]:List Vl)++gq jc (jj l)=cH:: lf 1 [111,102] false:: ([cH]++vL l) from rfl];rw[Hz _ _ (Pu a b)];dsimp only;have e1:(lO a b++cH:: lf 1 [111,102] false:: ([cH]++vL l)).drop ((lO a b).length+1+1)=[cH]++vL l:=NR _ _;have e2:(lO a b++cH:: lf 1 [111,102] false:: ([cH]++vL l)).take ((lO a b).length+1)=lO a b++[cH]:=take_one _ _;rw[e1,e2,inner hL [cH] (Or.inr rfl)];dsimp only;exact Lv hi.1 hi.2 [cH] (Or.inr rfl) _ true l
    | false =>
      have hL:gw (4+(i:Int)) false=false:=by unfold gw;rw[nt];simp;omega
      rw[if_neg (by rw[hL];decide)]at ol;have e:l=[]:=List.isEmpty_iff.1 ol;subst e;rw[if_neg (by decide),aaL,show gq jc (jj [])=[] from rfl,aaL,Hy _ (Pu a b)];dsimp only;have:=Lv hi.1 hi.2 [] (Or.inl rfl) (4+(i:Int)) false [];rw[aaL]at this;exact this
   ·rw[if_neg i7];have nt:eK (4+(i:Int))=false:=by unfold eK;simp;omega
    rw[nt,if_neg (by decide)]at hi;simp only[NO,Of,aa8]at hi;obtain⟨⟨a0,b0⟩,w0⟩:=hi;have hL:gw (4+(i:Int)) w=true:=by unfold gw;simp;omega
    have fr':decide (4+(i:Int)≤12)=nq (4+(i:Int)):=by unfold nq;rw[Bool.eq_iff_iff];simp;omega
    unfold ph;rw[nt,if_neg (by decide),List.nil_append,fr'];have:=inner hL [] (Or.inl rfl);rw[List.nil_append]at this;rw[show gq jc (jj l)=vL l from rfl,this];subst a0 b0 w0;rfl
theorem BR:∀l,EW l=l.all hP
 | []=>by simp[EW]
 | p:: l=>by simp[EW,BR l]
theorem BS:∀l,EX l=l.all hS
 | []=>by simp[EX]
 | s:: l=>by simp[EX,BS l]
theorem BT:∀l,ot l=l.all hX
 | []=>by simp[ot]
 | x:: l=>by simp[ot,BT l]
theorem Pc(hd:d≤3)(hk:d<3→Rk (d+1))(ok:eL d has rel x=true)(g:gX x=true)(hh:hX x=true)(q o:List Vl)(hq:Po q)(ho:Po o):mO (mP (eV d has)) (cZ d has) rel (q++(vX x++o))=(x,true):=by
 obtain⟨ld,ps,cs⟩:=x;have h3:=hh;rw[hX,NO]at h3;refine VP ok g (oN h3.1) ?_ q hq ho;intro p hpp s hs;have o1:me d has ps=true:=by rw[eL,NO]at ok;exact ok.2
 rw[mf,At]at o1;rw[gX,xJ,At]at g;have h4:=h3.2;rw[BR,At]at h4;obtain⟨t,ss⟩:=p;have o2:=o1 _ hpp;have g2:=g _ hpp;have k2:=h4 _ hpp;rw[cZ,NO]at o2;have o3:=o2.2;rw[kN,At]at o3;rw[gP,xK,At]at g2;rw[hP,BS,At]at k2;exact ZB hd hk s (o3 _ hs) (g2 _ hs) (k2 _ hs)
theorem DX(hd:d≤3)(hk:d<3→Rk (d+1)):Rk d:=by
 intro has rel forg l pre ok g hh hn hp;rw[se hd];rw[xL,At]at g;rw[BT,At]at hh;have okx:=ok;rw[km,At]at okx;refine Wa ok pre hp (fun x hx q hq=>VO (Pc hd hk (okx _ hx) (g _ hx) (hh _ hx) q [] hq (Or.inl rfl))) fun e=>⟨hn e, ?_⟩;have e0:cZ d has (.mk [] [])=false:=by rw[cZ];simp
 have es:cv pre=[]:=by rcases hp with rfl|rfl<;>rfl
 unfold mO;rw[es];cases rel
 ·dsimp only;rw[if_neg (by decide),js.eq_def];dsimp only[abd];rw[eF,dy];dsimp only;rw[e0,if_neg (by decide)]
 ·rw[show ko []=(0,[]) from rfl];dsimp only;rw[if_pos rfl,js.eq_def];dsimp only[abd];rw[eF,dy];dsimp only;rw[e0,if_neg (by decide)]
theorem ZU:Rk 3:=DX (bY _) fun h=>absurd h (by decide)
theorem ZT:Rk 2:=DX (by decide) fun _=>ZU
theorem UM:Rk 1:=DX (by decide) fun _=>ZT
theorem ZS:Rk 0:=DX (by decide) fun _=>UM
theorem Zz(ok:eL 0 false false x=true)(g:gX x=true)(h:hX x=true)(q o:List Vl)(hq:Po q)(ho:Po o):mO (mP (eV 0 false)) (cZ 0 false) false (q++(vX x++o))=(x,true):=
 Pc (by decide) (fun _=>UM) ok g h q o hq ho
theorem ZR(ok:dD 0 false false l=true)(g:ju l=true)(h:ot l=true)(hn:l≠[])(pre:List Vl)(hp:pre=[]∨pre=[cH]):nL 3 false (pre++vL l) false false=(l,true):=
 ZS false false false l pre ok g h (fun e=>absurd e hn) hp
end
section
open Go Go.Aw Go.bG Go.ChangeShapes Go.WideShapes Go.ChangeAt Go.RowKit
variable{F n:Nat}{P:Program}{t:TypeId}
theorem FF(ht:P.underlying t=some (.int .u8))(hc:P.cellsOf t=1):nf F P t (fun n:Nat=>[u1 (n:Int)]) (fun _=>1):=by
 intro H enc W fuel cs d ps _ h;obtain⟨n,rfl,e,hn⟩:=DataW.trod_int ht h;simp only[aaK]at e;obtain⟨rfl,_⟩:=e;have h0:0≤n:=by
  rw[Lit.wf,NO,Of]at hn;exact Int.le_trans (show (0:Int)≤IntKind.u8.min by decide) hn.1
 obtain⟨m,rfl⟩:=Int.eq_ofNat_of_zero_le h0;exact⟨m,by simp,by simp[hc],by simp[Rows.uptoBulk]⟩
theorem Ij(h:nf F P t (fun l:List {x:Cx // gX x=true∧hX x=true} => [.sl n (l.map fun x=>fZ x.1)]) (fun l=>(l.map fun x=>zX x.1).sum+1)):
 nf F P t (fun l:{l:List Cx // ju l=true∧ot l=true} => [.sl n (bC l.1)]) (fun l=>cD l.1+1):=by
 intro H enc W fuel cs d ps hF h0;obtain⟨l,h1,h2,h3⟩:=h H enc W fuel cs d ps hF h0;have e1:(l.map fun x=>fZ x.1)=bC (l.map (·.1)):=by rw[ck,List.map_map];rfl
 have e2:(l.map fun x=>zX x.1).sum=cD (l.map (·.1)):=by rw[←IH,List.map_map];rfl
 refine⟨⟨l.map (·.1), ?_⟩, ?_,h2, ?_⟩
 ·rw[xL,BT,At,At];exact⟨fun x hx=>by obtain⟨y,_,rfl⟩:=aaF.1 hx;exact y.2.1,fun x hx=>by obtain⟨y,_,rfl⟩:=aaF.1 hx;exact y.2.2⟩
 ·simp only at h1 ⊢;rw[←e1];exact h1
 ·simp only at h3 ⊢;rw[←e2];exact h3
theorem Q8(h:nf F P t (fun l:List {x:Sm // gS x=true∧hS x=true} => [.sl n (l.map fun x=>ft x.1)]) (fun l=>(l.map fun x=>zS x.1).sum+1)):
 nf F P t (fun l:{l:List Sm // wv l=true∧EX l=true} => [.sl n (dT l.1)]) (fun l=>gH l.1+1):=by
 intro H enc W fuel cs d ps hF h0;obtain⟨l,h1,h2,h3⟩:=h H enc W fuel cs d ps hF h0;have e1:(l.map fun x=>ft x.1)=dT (l.map (·.1)):=by rw[dA,List.map_map];rfl
 have e2:(l.map fun x=>zS x.1).sum=gH (l.map (·.1)):=by rw[←IG,List.map_map];rfl
 refine⟨⟨l.map (·.1), ?_⟩, ?_,h2, ?_⟩
 ·rw[xK,BS,At,At];exact⟨fun x hx=>by obtain⟨y,_,rfl⟩:=aaF.1 hx;exact y.2.1,fun x hx=>by obtain⟨y,_,rfl⟩:=aaF.1 hx;exact y.2.2⟩
 ·simp only at h1 ⊢;rw[←e1];exact h1
 ·simp only at h3 ⊢;rw[←e2];exact h3
theorem Q7(h:nf F P t (fun l:List {x:Cp // gP x=true∧hP x=true} => [.sl n (l.map fun x=>iv x.1)]) (fun l=>(l.map fun x=>zP x.1).sum+1)):
 nf F P t (fun l:{l:List Cp // uh l=true∧EW l=true} => [.sl n (du l.1)]) (fun l=>gh l.1+1):=by
 intro H enc W fuel cs d ps hF h0;obtain⟨l,h1,h2,h3⟩:=h H enc W fuel cs d ps hF h0;have e1:(l.map fun x=>iv x.1)=du (l.map (·.1)):=by rw[dq,List.map_map];rfl
 have e2:(l.map fun x=>zP x.1).sum=gh (l.map (·.1)):=by rw[←IE,List.map_map];rfl
 refine⟨⟨l.map (·.1), ?_⟩, ?_,h2, ?_⟩
 ·rw[xJ,BR,At,At];exact⟨fun x hx=>by obtain⟨y,_,rfl⟩:=aaF.1 hx;exact y.2.1,fun x hx=>by obtain⟨y,_,rfl⟩:=aaF.1 hx;exact y.2.2⟩
 ·simp only at h1 ⊢;rw[←e1];exact h1
 ·simp only at h3 ⊢;rw[←e2];exact h3
theorem JO(hX:nf F p_ 22 (fun l:{l:List Cx // ju l=true∧ot l=true} => [.sl 3 (bC l.1)]) (fun l=>cD l.1+1)):nf F p_ 46 (fun s:{s:Sm // gS s=true∧hS s=true} => ft s.1) (fun s=>zS s.1):=by
 intro H enc W fuel cs d ps hF h;obtain⟨xs,n,rfl,e1,hl,hn,hf⟩:=DataW.trod_struct Tryz.underlying46 h
 match xs,hn with
 | [y0,y1,y2,y3,y4,y5,y6,y7],_ =>
   have h0:=hf 0 _ rfl;have h1:=hf 1 _ rfl;have h2:=hf 2 _ rfl;have h3:=hf 3 _ rfl;have h4:=hf 4 _ rfl;have h5:=hf 5 _ rfl;have h6:=hf 6 _ rfl;have h7:=hf 7 _ rfl;rw[show p_.cellsOf 46=9 by kernel_rfl]at hl
   match cs,hl with
   | [c0,c1,c2,c3,c4,c5,c5',c6,c7],_ =>
     obtain⟨k,r0,_,_⟩:=x6 (F:=n) Tryz.underlying5 (by kernel_rfl) H enc W n _ y0.1 y0.2 (bY _) h0;obtain⟨na,r1,_,z1⟩:=vC (F:=n) Tryz.underlying9 (by kernel_rfl) H enc W n _ y1.1 y1.2 (bY _) h1;obtain⟨o,r2,_,_⟩:=FF (F:=n) Tryz.underlying5 (by kernel_rfl) H enc W n _ y2.1 y2.2 (bY _) h2;obtain⟨v,r3,_,z3⟩:=vC (F:=n) Tryz.underlying9 (by kernel_rfl) H enc W n _ y3.1 y3.2 (bY _) h3;obtain⟨f,r4,_,_⟩:=FE (F:=n) Tryz.underlying4 (by kernel_rfl) H enc W n _ y4.1 y4.2 (bY _) h4;obtain⟨ab,r5,_,_⟩:=Q6 n H enc W n _ y5.1 y5.2 (bY _) h5;obtain⟨w,r6,_,_⟩:=FE (F:=n) Tryz.underlying4 (by kernel_rfl) H enc W n _ y6.1 y6.2 (bY _) h6;obtain⟨⟨l,gl,hll⟩,r7,_,z7⟩:=hX H enc W n _ y7.1 y7.2 (by omega) h7;simp only[aaK]at e1;obtain⟨rfl,_⟩:=e1;have r0:aE [] (old W) W [u1 k] [c0]:=r0;have r1:aE [] (old W) W [.str na] [c1]:=r1;have r2:aE [] (old W) W [u1 (o:Int)] [c2]:=r2;have r3:aE [] (old W) W [.str v] [c3]:=r3;have r4:aE [] (old W) W [b_ f] [c4]:=r4;have r5:aE [] (old W) W [i_ ab.1,i_ ab.2] [c5,c5']:=r5;have r6:aE [] (old W) W [b_ w] [c6]:=r6;have r7:aE [] (old W) W [.sl 3 (bC l)] [c7]:=r7;refine⟨⟨.mk k na o v f ab.1 ab.2 w l,by rw[gS,gl,Bool.and_true];exact oF (Int.natCast_nonneg o),by rw[hS];exact hll⟩, ?_,by rw[show p_.cellsOf 46=9 by kernel_rfl];rfl, ?_⟩
     ·simp only[ft];exact ((((((r0.append r1).append r2).append r3).append r4).append r5).append r6).append r7
     ·simp only at z1 z3 z7;simp only[zS];rw[Rows.uptoBulk];simp only[GO,List.map_nil,Rows.uptoBulkAll];omega
theorem FG(hS:nf F p_ 40 (fun l:{l:List Sm // wv l=true∧EX l=true} => [.sl 9 (dT l.1)]) (fun l=>gH l.1+1)):nf F p_ 42 (fun s:{s:Cp // gP s=true∧hP s=true} => iv s.1) (fun s=>zP s.1):=by
 intro H enc W fuel cs d ps hF h;obtain⟨xs,n,rfl,e1,hl,hn,hf⟩:=DataW.trod_struct Tryz.underlying42 h
 match xs,hn with
 | [y0,y1],_ =>
   have h0:=hf 0 _ rfl;have h1:=hf 1 _ rfl;rw[show p_.cellsOf 42=2 by kernel_rfl]at hl
   match cs,hl with
   | [c0,c1],_ =>
     obtain⟨na,r0,_,z0⟩:=vC (F:=n) Tryz.underlying9 (by kernel_rfl) H enc W n _ y0.1 y0.2 (bY _) h0;obtain⟨⟨l,gl,hll⟩,r1,_,z1⟩:=hS H enc W n _ y1.1 y1.2 (by omega) h1;simp only[aaK]at e1;obtain⟨rfl,_⟩:=e1;have r0:aE [] (old W) W [.str na] [c0]:=r0;have r1:aE [] (old W) W [.sl 9 (dT l)] [c1]:=r1;refine⟨⟨.mk na l,by rw[gP,gl],by rw[hP,hll]⟩, ?_,by rw[show p_.cellsOf 42=2 by kernel_rfl];rfl, ?_⟩
     ·simp only[iv];exact r0.append r1
     ·simp only at z0 z1;simp only[zP];rw[Rows.uptoBulk];simp only[GO,List.map_nil,Rows.uptoBulkAll];omega
theorem GN(hP:nf F p_ 37 (fun l:{l:List Cp // uh l=true∧EW l=true} => [.sl 2 (du l.1)]) (fun l=>gh l.1+1)):nf (F+1) p_ 39 (fun s:{s:Cx // gX s=true∧hX s=true} => fZ s.1) (fun s=>zX s.1):=by
 intro H enc W fuel cs d ps hF h;obtain⟨xs,n,rfl,e1,hl,hn,hf⟩:=DataW.trod_struct Tryz.underlying39 h
 match xs,hn with
 | [y0,y1,y2],_ =>
   have h0:=hf 0 _ rfl;have h1:=hf 1 _ rfl;have h2:=hf 2 _ rfl;rw[show p_.cellsOf 39=3 by kernel_rfl]at hl
   match cs,hl with
   | [c0,c1,c2],_ =>
     obtain⟨k,r0,_,_⟩:=FF (F:=n) Tryz.underlying5 (by kernel_rfl) H enc W n _ y0.1 y0.2 (bY _) h0;obtain⟨⟨l,gl,hll⟩,r1,_,z1⟩:=hP H enc W n _ y1.1 y1.2 (by omega) h1;obtain⟨m,r2,_,z2⟩:=LB n H enc W n _ y2.1 y2.2 (bY _) h2;simp only[aaK]at e1;obtain⟨rfl,_⟩:=e1;have r0:aE [] (old W) W [u1 (k:Int)] [c0]:=r0;have r1:aE [] (old W) W [.sl 2 (du l)] [c1]:=r1;have r2:aE [] (old W) W [.sl 1 (m.map fun c=>[u1 c])] [c2]:=r2;refine⟨⟨.mk k l m,by rw[gX,gl],by rw[hX,hll,Bool.and_true];exact oF (Int.natCast_nonneg k)⟩, ?_,by rw[show p_.cellsOf 39=3 by kernel_rfl];rfl, ?_⟩
     ·simp only[fZ];exact (r0.append r1).append r2
     ·simp only at z1 z2;simp only[zX];rw[Rows.uptoBulk];simp only[GO,List.map_nil,Rows.uptoBulkAll];omega
theorem Ii:∀F,nf F p_ 39 (fun s:{s:Cx // gX s=true∧hX s=true} => fZ s.1) (fun s=>zX s.1)
 | 0=>fun H enc W fuel cs d ps hF h=>by
   obtain rfl:fuel=0:=by omega
   simp[DataW.trod]at h
 | F+1=>by
   have a:=qj Tryz.underlying22 (by kernel_rfl) (lT (by kernel_rfl)) (Ii F);rw[show p_.cellsOf 39=3 by kernel_rfl]at a;have a:=Ij a;have b:=qj Tryz.underlying40 (by kernel_rfl) (lT (by kernel_rfl)) (JO a);rw[show p_.cellsOf 46=9 by kernel_rfl]at b;have b:=Q8 b;have c:=qj Tryz.underlying37 (by kernel_rfl) (lT (by kernel_rfl)) (FG b);rw[show p_.cellsOf 42=2 by kernel_rfl]at c;have c:=Q7 c;exact GN c
theorem Fh{H:Type}{enc:TypeId×Value→H}{W:World}{v:Value}{d:DataW H}{ps:List MemPlace}(hna:∀cs,v≠.agg cs)(hnt:∀cs,v≠.tuple cs)(h:DataW.Trod enc p_ W 0 (fun _=>true) true 22 v d ps):
 ∃l:List Cx,au [] (old W) W (.sl 3 (bC l)) v∧cD l≤Rows.uptoBulk d∧ju l=true∧ot l=true:=by
 obtain⟨fuel,h⟩:=h;have a:=qj Tryz.underlying22 (by kernel_rfl) (lT (by kernel_rfl)) (Ii fuel);rw[show p_.cellsOf 39=3 by kernel_rfl]at a;have a:=Ij a;obtain⟨⟨l,gl,hll⟩,h2,_,h4⟩:=a H enc W fuel _ d ps (bY _) h;have e:v.cells.toList=[v]:=by
  cases v<;>first|rfl|(exact absurd rfl (hna _))|(exact absurd rfl (hnt _))
 rw[e]at h2;simp only at h4;exact⟨l,by simpa using h2,by omega,gl,hll⟩
end
section
open Go Go.Aw Go.ChangeShapes Go.WideShapes Go.ChangeAt Go.RowKit
variable{W:World}{X:World→Array Value→Prop}{conds:List PathCond}{s:OpenSpec}{P:Program}{C:Checked}{f:FuncId}{fn:Func}
theorem Ok:ownKnob p_.godebug=none:=by kernel_rfl
theorem N8:laidOutB p_=true:=by kernel_rfl
abbrev ox:List (String×DataW Unit):=Rows.seltextSpacesRow.laid
theorem Mf(os:Os)(args:Array Value):laidMetH p_ ox ((World.laidAll p_ os ox).forCall (fun _ _=>0) ⟨#[],args,[]⟩).memory:=by
 rw[MakeChecks.laidMetH_plain _ _ _ (by kernel_rfl)];exact laidMet_laidAll _ (by kernel_rfl) (by kernel_rfl)
theorem Ga(os:Os)(args:Array Value):((World.laidAll p_ os ox).forCall (fun _ _=>0) ⟨#[],args,[]⟩).Shaped p_:=World.shaped_of_ZipB (by kernel_rfl) (by kernel_rfl)
theorem N4{H:Type}{enc:TypeId×Value→H}{w:World}{base fuel:Nat}{spare:Nat→Bool}{held:Bool}{t:TypeId}{cs:List Value}{x:DataW H×List MemPlace}{i:Array (String×TypeId)}(ht:P.underlying t=some (.interface i))(h:DataW.trod enc P w base spare held fuel t cs=some x):cs=[.nilIface]∨∃u v,cs=[.iface u v]:=by
 cases fuel with
 | zero=>simp[DataW.trod]at h
 | succ n =>
   rw[DataW.trod.eq_def]at h;dsimp only at h;rw[ht]at h;split at h<;>first|exact .inl rfl|exact .inr ⟨_,_,rfl⟩|simp_all
theorem TD(h:laidMetH p_ ox W):∃er:Value,(er=.nilIface∨∃te pe,er=.iface te pe)∧W.cell? ⟨7,0,none⟩=some er∧∃ty,W.shape? 7=some (ty,1):=by
 rw[MakeChecks.laidMetH_plain _ _ _ (by kernel_rfl)]at h;obtain⟨ps,⟨_,_,_,_,_,_,_,_,_,_,⟨_,_,_,_,_,_,_,_,_,_,⟨_,_,_,_,_,_,_,_,_,_,⟨_,_,_,_,_,_,_,_,_,_,⟨g,t,cs,fuel,p,q,hg,ht,hv,hd,_,_⟩,_⟩,_⟩,_⟩,_⟩,_⟩:=h;obtain rfl:=DO ((show p_.globalNamed "strconv.ErrRange" = some 7 by kernel_rfl).symm.trans hg);obtain rfl:=DO ((show (p_.globals[7]?).map (·.type)=some 86 by kernel_rfl).symm.trans ht);unfold World.var? at hv;rw[hg,Option.bind_some]at hv;split at hv
 ·rename_i c ty fz hh;cases hv;have one:∀er,cs.toList=[er]→W.cell? ⟨7,0,none⟩=some er∧∃ty,W.shape? 7=some (ty,1):=fun er e=>by
   have ec:cs=#[er]:=Array.ext' (by simpa using e);subst ec;exact⟨by unfold World.cell?;rw[hh];rfl,ty,by unfold World.shape?;rw[hh];rfl⟩
  rcases N4 Tryz.underlying86 hd with e|⟨u,v,e⟩
  ·exact⟨_,.inl rfl,one _ e⟩
  ·exact⟨_,.inr ⟨u,v,rfl⟩,one _ e⟩
 ·cases hv
def JQ:List Int:=[1,10,100,1000,10000,100000,1000000,10000000,100000000,1000000000,10000000000,100000000000,1000000000000,10000000000000,100000000000000,1000000000000000,10000000000000000,100000000000000000,1000000000000000000,10000000000000000000]
theorem LO(h:laidMetH p_ ox W):Lib.TabIs p_ W "internal/strconv.uint64pow10" .u64 JQ:=by
 rw[MakeChecks.laidMetH_plain _ _ _ (by kernel_rfl)]at h;obtain⟨ps,⟨_,_,_,_,_,_,_,_,_,_,⟨_,_,_,_,_,_,_,_,_,_,⟨g,t,cs,fuel,p,q,hg,ht,hv,hd,_,_⟩,_⟩,_⟩,_⟩:=h;obtain rfl:=DO ((show p_.globalNamed "internal/strconv.uint64pow10" = some 1 by kernel_rfl).symm.trans hg);obtain rfl:=DO ((show (p_.globals[1]?).map (·.type)=some 237 by kernel_rfl).symm.trans ht);unfold Lib.TabIs;rw[hv,←Lib.cells_of_tab (zs:=JQ) Tryz.underlying237 Tryz.underlying196 (by kernel_rfl) (by kernel_rfl) hd]
def DJ:List Int:=[0,1,56,2,57,49,28,3,61,58,42,50,38,29,17,4,62,47,59,36,45,43,51,22,53,39,33,30,24,18,12,5,63,55,48,27,60,41,37,16,46,35,44,21,52,32,23,11,54,26,40,15,34,20,31,10,25,14,19,9,13,8,7,6]
theorem Hi(h:laidMetH p_ ox W):Lib.TabIs p_ W "math/bits.deBruijn64tab" .u8 DJ:=by
 rw[MakeChecks.laidMetH_plain _ _ _ (by kernel_rfl)]at h;obtain⟨ps,⟨_,_,_,_,_,_,_,_,_,_,⟨g,t,cs,fuel,p,q,hg,ht,hv,hd,_,_⟩,_⟩,_⟩:=h;obtain rfl:=DO ((show p_.globalNamed "math/bits.deBruijn64tab" = some 3 by kernel_rfl).symm.trans hg);obtain rfl:=DO ((show (p_.globals[3]?).map (·.type)=some 284 by kernel_rfl).symm.trans ht);unfold Lib.TabIs;rw[hv,←Lib.cells_of_tab (zs:=DJ) Tryz.underlying284 Tryz.underlying5 (by kernel_rfl) (by kernel_rfl) hd]
theorem F3{name:String}{k:IntKind}{zs:List Int}{g:Nat}(h:Lib.TabIs P W name k zs)(hg:P.globalNamed name=some g):∃ty,W.shape? g=some (ty,zs.length):=by
 unfold Lib.TabIs World.var? at h;rw[hg,Option.bind_some]at h;split at h
 ·rename_i c t f hh;simp only[On]at h;subst h;exact⟨t,by unfold World.shape?;rw[hh];simp⟩
 ·cases h
theorem Ll(h:W.ShapedOpen p_):∃m:Int,W.cell? ⟨0,0,none⟩=some (.int .i64 m)∧∃ty,W.shape? 0=some (ty,1):=by
 obtain⟨m,hm⟩:=laysM143.s1_3 W h;refine⟨m,hm, ?_⟩;obtain⟨cs,hh,hs,_⟩:=h.1 0 #[.int .i64 0] 3 (oN (by kernel_rfl)) (by kernel_rfl);exact⟨3,by unfold World.shape?;rw[hh];simp only[hs];rfl⟩
theorem TJ[bq](h:laidMetH p_ ox W)(hm:W.cell? ⟨0,0,none⟩=some (.int .i64 bq.m))(hs:∃ty,W.shape? 0=some (ty,1))(he:W.cell? ⟨7,0,none⟩=some bq.er)(hes:∃ty,W.shape? 7=some (ty,1)):CH (old W) W:=by
 intro g cs e;have e:J0 g=some cs:=e;unfold J0 at e;split at e
 ·cases e;exact⟨bD.ints (W:=W) (g:=1) (k:=.u64) (zs:=JQ) (fun i hi=>(LO h).cell (by kernel_rfl) i hi),by simpa[JQ,OS]using F3 (LO h) (g:=1) (by kernel_rfl)⟩
 ·cases e;exact⟨bD.ints (W:=W) (g:=0) (k:=.i64) (zs:=[bq.m]) (fun i hi=>by
   obtain rfl:i=0:=by simpa using hi
   exact hm),by simpa using hs⟩
 ·cases e;refine⟨bD.mk fun i c ec=>?_,by simpa using hes⟩;obtain⟨rfl,rfl⟩:i=0∧c=.v bq.er:=by
   cases i with
   | zero=>simp at ec;exact⟨rfl,ec.symm⟩
   | succ i=>simp at ec
  refine⟨bq.er,he, ?_,by simp⟩;show 7<W.heap.size;unfold World.cell? at he;split at he
  ·rename_i c1 c2 c3 hh;exact (AS.1 hh).1
  ·cases he
 ·cases e;exact⟨bD.ints (W:=W) (g:=3) (k:=.u8) (zs:=DJ) (fun i hi=>(Hi h).cell (by kernel_rfl) i hi),by simpa[DJ,PJ]using F3 (Hi h) (g:=3) (by kernel_rfl)⟩
 ·cases e
theorem wH{H:Type}{enc:TypeId×Value→H}{a:Assume}{os:Os}{F:Stop.Interp}{k:(H:Type)→List (DataW H)→Bool}(hk:s.cond=some k){apart fresh handsOn again:Bool}
 (hX:∀(w w':World) (args:Array Value),w.heap=w'.heap→X w args→X w' args)
 (own:ownKnob C.prog.godebug=none) (started:os.Started) (noInit:C.prog.inits.idxOf? f=none) (hfn:C.prog.funcs[f]?=some fn)
 (witness:∃(w:World) (tape:Tape) (i:Input),w.os=os∧(w.forCall tape i).Shaped C.prog∧i.vars=[]∧Input.okWide C.prog (w.forCall tape i) .any w.heap.size f i ∧
  ((s.pre enc C.prog fn conds apart (w.forCall tape i).memory i.args∧X (w.forCall tape i).memory i.args)∧sizedMet enc C.prog fn s apart (w.forCall tape i).memory i.args)∧a.holds C.prog (lone (Frame.enter C.prog f i.args .normal) [] (w.forCall tape i)))
 (contract:∀(W:World) (base:Nat) (args:Array Value) (ds gs:List (DataW H)) (before:List MemPlace),
  (∀(j:Nat) t v,fn.params[j]?=some t→args[j]?=some v→Value.okWide C.prog W .any base t v) →
  DataW.Whole enc C.prog fn.params.toList s.vars apart W args.toList ds gs before→k H (ds++gs)=true→X W args→W.ShapedOpen C.prog →
  Calls C.prog f args W fun e W' => ∃v,e=.returned v∧(s.at F).post enc C.prog fn apart fresh handsOn again W args v W') :
 ReturnsInHanded a C os f .any (fun w args=>(s.pre enc C.prog fn conds apart w args∧X w args)∧sizedMet enc C.prog fn s apart w args) ((s.at F).post enc C.prog fn apart fresh handsOn again):=by
 refine returnsInHanded_of_calls own started noInit witness ?_;intro w tape i _ hsh _ hok hpre _;obtain⟨_,_,_,fn',hfn',_,_,_,_,hval⟩:=hok;obtain rfl:fn'=fn:=DO (hfn'.symm.trans hfn);obtain⟨⟨h0,hx⟩,_⟩:=hpre;obtain⟨ds,gs,before,hw,_,hkk⟩:=(OpenSpec.pre_some hk conds apart _ _).1 h0;refine (contract (w.forCall tape i) w.heap.size i.args ds gs before hval (DataW.Whole.of_heap (w':=w.forCall tape i) (by rfl) hw) hkk (hX _ _ _ (by rfl) hx) hsh).mono fun e W' ⟨v,he,hp⟩=>?_;subst he;exact ChangeSpec.post_blind hp
theorem Gx{H:Type}{enc:TypeId×Value→H}{os:Os}{k:(H:Type)→List (DataW H)→Bool}(hk:s.cond=some k){apart:Bool}(modest:Bool)(w0:World)(args:Array Value)(fuel:Nat)(hos:w0.os=os)
 (hsh:(w0.forCall (fun _ _=>0) ⟨#[],args,[]⟩).Shaped C.prog)
 (hok:Input.okWideB C.prog (w0.forCall (fun _ _=>0) ⟨#[],args,[]⟩) f ⟨#[],args,[]⟩=true)
 {x:List (DataW H)×List (DataW H)×List MemPlace} (hx:DataW.whole enc C.prog (w0.forCall (fun _ _=>0) ⟨#[],args,[]⟩).memory fn.params.toList s.vars apart args.toList fuel=some x)
 (hconds:conds.all (PathCond.test C.prog ⟨fn.params.toList,x.1,s.bare.plain.varTypes C.prog,x.2.1⟩)=true) (hkk:k H (x.1++x.2.1)=true)
 (hsz:s.bare.sizedB enc C.prog fn apart (w0.forCall (fun _ _=>0) ⟨#[],args,[]⟩).memory args fuel=true)
 (hX:X (w0.forCall (fun _ _=>0) ⟨#[],args,[]⟩).memory args) :
 ∃(w:World) (tape:Tape) (i:Input),w.os=os∧(w.forCall tape i).Shaped C.prog∧i.vars=[]∧Input.okWide C.prog (w.forCall tape i) .any w.heap.size f i ∧
  ((s.pre enc C.prog fn conds apart (w.forCall tape i).memory i.args∧X (w.forCall tape i).memory i.args)∧sizedMet enc C.prog fn s apart (w.forCall tape i).memory i.args)∧({ modest:=modest }:Assume).holds C.prog (lone (Frame.enter C.prog f i.args .normal) [] (w.forCall tape i)):=
 ⟨w0,fun _ _=>0,⟨#[],args,[]⟩,hos,hsh,(Input.okWide_of_okWideB (base:=0) hok).1,(Input.okWide_of_okWideB hok).2,
  ⟨⟨(OpenSpec.pre_some hk conds apart _ _).2 ⟨x.1,x.2.1,x.2.2,DataW.Whole_of_whole hx,hconds,hkk⟩,hX⟩,sizedMet_of_sizedB hsz⟩,by
  simp only[Assume.holds];exact⟨by simp,by simp,fun _=>Modest.zero,by simp,by simp⟩⟩
end
section
open Go Go.Aw
variable [Laid]
def Sj(x0 x1:AV)(h:aa)(K:AV→aa→Prop):Prop:=
 bu x0 fun c=>bu x1 fun d=>ae .neq c d fun e=>ag e (K ff h) (bL [i_ 0] h fun f b a =>
 bu x0 fun g=>ae .lss (nx b 0) g fun i=>ag i (aQ 3 x0 (nx b 0) fun j=>ak true 3 j a fun k=>aQ 3 x1 (nx b 0) fun l=>ak true 3 l a fun m=>iQ p_ 25 [k,m] a fun n=>cq n fun o=>ag o (K ff a) (qBe .add (nx b 0) 1 fun p=>eC [x0,x1] (f [p] a))) (K tt a))
theorem WT(x0 x1:AV):Body p_ 11 [x0,x1] (Sj x0 x1):=bB Tryz.func11 (sn (sn (.seq (sn (.one (.loop [0,1] [5] (sn (.seq (.one (.seq (.draw 10 (oR 0 10 []) [] []) .nil)) .nil))))) .nil))) 27 [.tmp 4]
def Xi(x0 x1:AV)(h:aa)(K:AV→aa→Prop):Prop:=
 aW 39 x0 h fun b v=>aW 39 x1 v fun c e=>iFL 0 false 1 b e fun w=>iFL 0 false 1 c e fun x=>ae .neq w x fun y=>qJo y [b,c] e (fun z=>iFL 1 false 1 b e fun A=>bu A fun B=>iFL 1 false 1 c e fun C=>bu C fun D=>ae .neq B D fun E=>z E e) fun F f=>qJo F [b,c] f (fun G=>iFL 2 false 1 b f fun H=>cJ H f fun I=>iFL 2 false 1 c f fun J=>cJ J f fun L=>ae .neq I L fun M=>G M f) fun N g=>ag N (K ff g) (bL [i_ 0] g fun O d a =>
 iFL 1 false 1 b a fun P=>bu P fun Q=>ae .lss (nx d 0) Q fun R=>ag R (iFL 1 false 1 b a fun S=>aQ 2 S (nx d 0) fun T=>iFL 0 false 1 T a fun U=>iFL 1 false 1 c a fun V=>aQ 2 V (nx d 0) fun W=>iFL 0 false 1 W a fun X=>ae .neq U X fun i=>aw (fun j=>ar i false (bp 1 b fun k=>ak false 1 k a fun l=>aQ 2 l (nx d 0) fun m=>bp 1 m fun n=>ak false 1 n a fun o=>bp 1 c fun p=>ak false 1 p a fun q=>aQ 2 q (nx d 0) fun r=>bp 1 r fun s=>ak false 1 s a fun t=>iQ p_ 41 [o,t] a fun u=>cq u fun Y=>j [k,l,nx d 0,m,n,o,p,q,nx d 0,r,s,t,u,Y] a) (j [un,un,un,un,un,un,un,un,un,un,un,un,un,un] a)) fun Z _=>aI i tt (nx Z 13) fun a0=>ag a0 (K ff a) (qBe .add (nx d 0) 1 fun a1=>eC [b,c] (O [a1] a))) (K tt a))
theorem V25(x0 x1:AV):Body p_ 25 [x0,x1] (Xi x0 x1):=bB Tryz.func25 (sn (.seq (.seq (.aR (oR 0 6 (.aD 5 false (fR 6 7) [2,3] [11,18]::oR 13 2 (.aD 14 false (fR 15 7) [2,3] [20,27]::.op 22 false::[])))) .nil) (.seq (sn (.one (.loop [2,3] [5] (sn (.seq (.one (.seq (.draw 29 (oR 0 14 (.aD 13 false (fR 14 14) [] [50,51,52,53,54,55,56,57,58,59,60,61,62,63]::.op 28 false::[])) [] []) .nil)) .nil))))) .nil))) 65 [.tmp 4]
def Xy(x0 x1:AV)(h:aa)(K:AV→aa→Prop):Prop:=
 bu x0 fun m=>bu x1 fun n=>ae .neq m n fun o=>ag o (K ff h) (bL [i_ 0] h fun p b a =>
 bu x0 fun q=>ae .lss (nx b 0) q fun r=>ag r (aQ 9 x0 (nx b 0) fun s=>ak true 9 s a fun t=>iQ p_ 56 [t] a fun u=>aQ 9 x1 (nx b 0) fun v=>ak true 9 v a fun w=>iQ p_ 56 [w] a fun x=>lW true [1,2,1,2,0,1,1,0] u x fun c=>aw (fun d=>ar c false (aQ 9 x0 (nx b 0) fun e=>bp 8 e fun f=>ak false 1 f a fun g=>aQ 9 x1 (nx b 0) fun i=>bp 8 i fun j=>ak false 1 j a fun k=>iQ p_ 11 [g,k] a fun l=>cq l fun y=>d [x0,nx b 0,e,f,g,x1,nx b 0,i,j,k,l,y] a) (d [un,un,un,un,un,un,un,un,un,un,un,un] a)) fun z _=>aI c tt (nx z 11) fun A=>ag A (K ff a) (qBe .add (nx b 0) 1 fun B=>eC [x0,x1] (p [B] a))) (K tt a))
theorem V41(x0 x1:AV):Body p_ 41 [x0,x1] (Xy x0 x1):=bB Tryz.func41 (sn (sn (.seq (sn (.one (.loop [0,1] [5] (sn (.seq (.one (.seq (.draw 25 (oR 0 12 (.aD 11 false (fR 12 12) [] [29,30,31,32,33,34,35,36,37,38,39,40]::.op 24 false::[])) [] []) .nil)) .nil))))) .nil))) 42 [.tmp 4]
def W6(x0:AV)(h:aa)(K:AV→aa→Prop):Prop:=
 iC p_ 14 [x0,(i_ 600)] h fun a b=>ae .gtr a (i_ 600) fun c=>K c b
theorem V6(x0:AV):Body p_ 6 [x0] (W6 x0):=bB Tryz.func6 .nil 6 [.tmp 2]
def W3(x0 x1:AV)(h:aa)(K:AV→aa→Prop):Prop:=
 bL [(i_ 0),(i_ 0)] h fun u a j =>
 bu x0 fun v=>ae .lss (nx a 1) v fun k=>aw (fun l=>ar k true (ae .leq (nx a 0) x1 fun w=>eC [x0,x1,(nx a 0),(nx a 1)] (l [tt,w] j)) (eC [x0,x1,(nx a 0),(nx a 1)] (l [(aN true k),un] j))) fun m g=>aI (nx m 0) (nx m 1) ff fun x=>ag x (aQ 3 x0 (nx a 1) fun y=>iFL 2 false 1 y g fun z=>bu z fun A=>ae .add (i_ 1) A fun B=>ae .add (nx a 0) B fun C=>bL [C,(i_ 0)] g fun D b i =>
 aQ 3 x0 (nx a 1) fun E=>iFL 1 false 1 E i fun F=>bu F fun G=>ae .lss (nx b 1) G fun n=>aw (fun o=>ar n true (ae .leq (nx b 0) x1 fun H=>eC [x0,x1,(nx b 0),(nx a 1),(nx b 1)] (o [tt,H] i)) (eC [x0,x1,(nx b 0),(nx a 1),(nx b 1)] (o [(aN true n),un] i))) fun p e=>aI (nx p 0) (nx p 1) ff fun I=>ag I (aQ 3 x0 (nx a 1) fun J=>iFL 1 false 1 J e fun L=>aQ 2 L (nx b 1) fun M=>iFL 0 false 1 M e fun N=>cR N fun O=>ae .add (i_ 1) O fun P=>ae .add (nx b 0) P fun Q=>aQ 3 x0 (nx a 1) fun R=>iFL 1 false 1 R e fun S=>aQ 2 S (nx b 1) fun T=>iFL 1 false 1 T e fun d=>bL [Q,(i_ 0)] e fun U c q =>
 bu d fun V=>ae .lss (nx c 1) V fun r=>aw (fun s=>ar r true (ae .leq (nx c 0) x1 fun W=>eC [x0,x1,(nx c 0),(nx a 1),(nx b 1),d,(nx c 1)] (s [tt,W] q)) (eC [x0,x1,(nx c 0),(nx a 1),(nx b 1),d,(nx c 1)] (s [(aN true r),un] q))) fun t f=>aI (nx t 0) (nx t 1) ff fun X=>ag X (aQ 9 d (nx c 1) fun Y=>iFL 1 false 1 Y f fun Z=>kZ Z fun a0=>ae .add (i_ 1) a0 fun a1=>aQ 9 d (nx c 1) fun a2=>iFL 3 false 1 a2 f fun a3=>kZ a3 fun a4=>ae .add a1 a4 fun a5=>aQ 9 d (nx c 1) fun a6=>iFL 8 false 1 a6 f fun a7=>ae .sub x1 (nx c 0) fun a8=>iQ p_ 14 [a7,a8] f fun a9=>ae .add a5 a9 fun b0=>ae .add (nx c 0) b0 fun b1=>ae .add (nx c 1) (i_ 1) fun b2=>eC [x0,x1,(nx a 1),(nx b 1),d] (U [b1,b2] f)) (ae .add (nx b 1) (i_ 1) fun b3=>eC [x0,x1,(nx a 1)] (D [(nx c 0),b3] f))) (ae .add (nx a 1) (i_ 1) fun b4=>eC [x0,x1] (u [(nx b 0),b4] e))) (K (nx a 0) g)
theorem V14(x0 x1:AV):Body p_ 14 [x0,x1] (W3 x0 x1):=bB Tryz.func14 (sn (sn (.seq (sn (.one (.loop [0,1] [5,6] (.seq (.seq (.aR (oR 0 5 (.aD 4 true (fR 5 3) [0,1,5,6] [14,17]::.op 8 false::[]))) .nil) (.seq (.one (sn (sn (.one (.loop [0,1,6] [5,7] (.seq (.seq (.aR (oR 0 9 (.aD 8 true (fR 9 3) [0,1,5,6,7] [38,41]::.op 12 false::[]))) .nil) (.seq (.one (sn (sn (sn (.one (.loop [0,1,6,7,8] [5,9] (.seq (.seq (.aR (oR 0 5 (.aD 4 true (fR 5 3) [0,1,5,6,7,8,9] [71,74]::.op 8 false::[]))) .nil) (.seq (.one (.draw 27 (oR 0 27 []) [] [])) .nil)))))))) .nil))))))) .nil))))) .nil))) 105 [.tmp 4]
def WZ(x0:AV)(h:aa)(K:AV→aa→Prop):Prop:=
 iC p_ 24 [x0] h fun c a=>cq c fun d=>ag d (K (i_ 8) a) (iC p_ 13 [x0] a fun e b=>ae .gtr e (i_ 64) fun f=>ag f (K (i_ 4) b) (K (i_ 0) b))
theorem V10(x0:AV):Body p_ 10 [x0] (WZ x0):=bB Tryz.func10 .nil 9 [.tmp 2]
def W2(x0:AV)(h:aa)(K:AV→aa→Prop):Prop:=
 bu x0 fun i=>bL [i,(i_ 0)] h fun j a g =>
 bu x0 fun k=>ae .lss (nx a 1) k fun l=>ag l (bL [(nx a 0),(i_ 0)] g fun m b c =>
 aQ 3 x0 (nx a 1) fun n=>iFL 1 false 1 n c fun o=>bu o fun p=>ae .lss (nx b 1) p fun q=>ag q (aQ 3 x0 (nx a 1) fun r=>iFL 1 false 1 r c fun s=>aQ 2 s (nx b 1) fun t=>iFL 1 false 1 t c fun e=>bL [(nx b 0),(i_ 0)] c fun u d f =>
 bu e fun v=>ae .lss (nx d 1) v fun w=>ag w (aQ 9 e (nx d 1) fun x=>iFL 8 false 1 x f fun y=>iC p_ 13 [y] f fun z A=>ae .add (nx d 0) z fun B=>ae .add (nx d 1) (i_ 1) fun C=>eC [x0,(nx a 1),(nx b 1),e] (u [B,C] A)) (ae .add (nx b 1) (i_ 1) fun D=>eC [x0,(nx a 1)] (m [(nx d 0),D] f))) (ae .add (nx a 1) (i_ 1) fun E=>eC [x0] (j [(nx b 0),E] c))) (K (nx a 0) g)
theorem V13(x0:AV):Body p_ 13 [x0] (W2 x0):=bB Tryz.func13 (sn (sn (.seq (sn (.one (.loop [0] [3,4] (sn (.seq (.one (sn (.one (.loop [0,4] [3,5] (sn (.seq (.one (sn (sn (.one (.loop [0,4,5,6] [3,7] .nil))))) .nil)))))) .nil))))) .nil))) 50 [.tmp 2]
def Xh(x0:AV)(h:aa)(K:AV→aa→Prop):Prop:=
 bL [(i_ 0)] h fun d a b =>
 bu x0 fun e=>ae .lss (nx a 0) e fun f=>ag f (aQ 3 x0 (nx a 0) fun g=>ak true 3 g b fun i=>aY (.agg [(i_ 0),ff]) [] fun j=>iC p_ 40 [i,j,ff] b fun k c=>cq k fun l=>ag l (K ff c) (ae .add (nx a 0) (i_ 1) fun m=>eC [x0] (d [m] c))) (bu x0 fun n=>ae .gtr n (i_ 0) fun o=>K o b)
theorem V24(x0:AV):Body p_ 24 [x0] (Xh x0):=bB Tryz.func24 (sn (.seq (sn (.one (.loop [0] [3] .nil))) .nil)) 20 [.tmp 2]
def Xx(x0 x1 x2:AV)(h:aa)(K:AV→aa→Prop):Prop:=
 aW 39 x0 h fun b R=>aW 96 x1 R fun c e=>iFL 0 false 1 b e fun S=>ae .neq S (u8 0) fun T=>qN .neq T x2 fun l=>aw (fun m=>ar l false (iFL 0 false 1 b e fun U=>ae .gtr U (u8 4) fun V=>eC [b,c] (m [ff,V] e)) (eC [b,c] (m [(aN false l),un] e))) fun n g=>aI (nx n 0) tt (nx n 1) fun o=>aw (fun p=>ar o false (iFL 1 false 1 b g fun W=>bu W fun X=>ae .eql X (i_ 0) fun Y=>eC [b,c] (p [ff,Y] g)) (eC [b,c] (p [(aN false o),un] g))) fun q i=>aI (nx q 0) tt (nx q 1) fun r=>aw (fun s=>ar r false (iFL 1 false 1 b i fun Z=>bu Z fun a0=>ae .gtr a0 (i_ 64) fun a1=>eC [b,c] (s [ff,a1] i)) (eC [b,c] (s [(aN false r),un] i))) fun t f=>aI (nx t 0) tt (nx t 1) fun u=>aw (fun v=>ar u false (iFL 2 false 1 b f fun a2=>bu a2 fun a3=>iFL 1 false 1 b f fun a4=>bu a4 fun a5=>ae .sub a5 (i_ 1) fun a6=>ae .neq a3 a6 fun a7=>eC [b,c] (v [ff,a7] f)) (eC [b,c] (v [(aN false u),un] f))) fun w x=>aI (nx w 0) tt (nx w 1) fun a8=>ag a8 (K ff x) (bL [(i_ 0)] x fun a9 d a =>
 iFL 1 false 1 b a fun b0=>bu b0 fun b1=>ae .lss (nx d 0) b1 fun b2=>ag b2 (iFL 1 false 1 b a fun b3=>aQ 2 b3 (nx d 0) fun b4=>ak true 2 b4 a fun b5=>ak true 2 c a fun b6=>iQ p_ 55 [b5,b6] a fun b7=>cq b7 fun j=>aw (fun y=>ar j false (ae .gtr (nx d 0) (i_ 0) fun z=>y [(nx d 0),z,z] a) (y [un,un,un] a)) fun k _=>aw (fun A=>ar (nx k 2) true (bp 2 b fun B=>ak false 1 B a fun C=>ae .sub (nx d 0) (i_ 1) fun D=>aQ 1 C D fun E=>ak false 1 E a fun F=>ae .lss F (u8 1) fun G=>A [B,C,(nx d 0),D,E,F,G,G] a) (A [un,un,un,un,un,un,un,un] a)) fun H _=>aw (fun I=>ar (nx H 7) false (bp 2 b fun J=>ak false 1 J a fun L=>ae .sub (nx d 0) (i_ 1) fun M=>aQ 1 L M fun N=>ak false 1 N a fun O=>ae .gtr O (u8 4) fun b8=>I [J,L,(nx d 0),M,N,O,b8] a) (I [un,un,un,un,un,un,un] a)) fun b9 _=>aw (fun P=>ar (nx k 2) true (aI (nx H 7) tt (nx b9 6) fun c0=>P [c0] a) (P [un] a)) fun c1 _=>aw (fun Q=>ar j false (aI (nx k 2) (nx c1 0) ff fun c2=>Q [c2] a) (Q [un] a)) fun c3 _=>aI j tt (nx c3 0) fun c4=>ag c4 (K ff a) (ae .add (nx d 0) (i_ 1) fun c5=>eC [b,c] (a9 [c5] a))) (K tt a))
theorem V40(x0 x1 x2:AV):Body p_ 40 [x0,x1,x2] (Xx x0 x1 x2):=bB Tryz.func40 (sn (.seq (.seq (.aR (oR 0 6 (.aD 5 false (fR 6 3) [3,4] [13,16]::oR 9 2 (.aD 10 false (fR 11 4) [3,4] [18,22]::oR 15 2 (.aD 16 false (fR 17 4) [3,4] [24,28]::oR 21 2 (.aD 22 false (fR 23 8) [3,4] [30,38]::.op 31 false::[])))))) .nil) (.seq (sn (.one (.loop [3,4] [7] (sn (.seq (.one (.seq (.draw 30 (oR 0 9 (.aD 8 false (fR 9 3) [] [56,57,58]::.aD 11 true (fR 12 8) [] [59,60,61,62,63,64,65,66]::.aD 19 false (fR 20 7) [] [67,68,69,70,71,72,73]::.aD 11 true [(27,false)] [] [74]::.aD 8 false [(28,false)] [] [75]::.op 29 false::[])) [] []) .nil)) .nil))))) .nil))) 77 [.tmp 6]
def XJ(x0 x1:AV)(h:aa)(K:AV→aa→Prop):Prop:=
 aW 42 x0 h fun a C=>aW 96 x1 C fun b e=>iFL 0 false 1 a e fun D=>ae .neq D (.str []) fun l=>aw (fun m=>ar l true (iFL 0 false 1 a e fun E=>ae .neq E (.str [42]) fun F=>eC [a,b] (m [tt,F] e)) (eC [a,b] (m [(aN true l),un] e))) fun n f=>aI (nx n 0) (nx n 1) ff fun o=>aw (fun p=>ar o true (iFL 0 false 1 a f fun G=>iC p_ 89 [G] f fun H I=>cq H fun J=>eC [a,b] (p [tt,J] I)) (eC [a,b] (p [(aN true o),un] f))) fun q g=>aI (nx q 0) (nx q 1) ff fun r=>aw (fun s=>ar r false (iFL 0 false 1 a g fun L=>ae .eql L (.str []) fun M=>eC [a,b] (s [ff,M] g)) (eC [a,b] (s [(aN false r),un] g))) fun d i=>aw (fun t=>ar (nx d 1) true (iFL 1 false 1 a i fun N=>bu N fun O=>ae .eql O (i_ 0) fun P=>eC [a,b,(nx d 0)] (t [tt,P] i)) (eC [a,b,(nx d 0)] (t [(aN true (nx d 1)),un] i))) fun u v=>aw (fun w=>ar (nx d 0) false (aI (nx u 0) (nx u 1) ff fun Q=>eC [a,b] (w [ff,Q] v)) (eC [a,b] (w [(aN false (nx d 0)),un] v))) fun x j=>aI (nx x 0) tt (nx x 1) fun y=>aw (fun z=>ar y false (iFL 1 false 1 a j fun R=>bu R fun S=>ae .gtr S (i_ 64) fun T=>eC [a,b] (z [ff,T] j)) (eC [a,b] (z [(aN false y),un] j))) fun A B=>aI (nx A 0) tt (nx A 1) fun U=>ag U (K ff B) (bL [(i_ 0)] B fun V k c =>
 iFL 1 false 1 a c fun W=>bu W fun X=>ae .lss (nx k 0) X fun Y=>ag Y (iFL 1 false 1 a c fun Z=>aQ 9 Z (nx k 0) fun a0=>ak true 9 a0 c fun a1=>ak true 2 b c fun a2=>iQ p_ 90 [a1,a2] c fun a3=>cq a3 fun a4=>ag a4 (K ff c) (ae .add (nx k 0) (i_ 1) fun a5=>eC [a,b] (V [a5] c))) (K tt c))
theorem V55(x0 x1:AV):Body p_ 55 [x0,x1] (XJ x0 x1):=bB Tryz.func55 (sn (.seq (.seq (.aR (oR 0 4 (.aD 3 true (fR 4 3) [2,3] [9,12]::oR 7 2 (.aD 8 true (fR 9 4) [2,3] [14,18]::oR 13 2 (.aD 14 false (fR 15 4) [2,3] [20,24]::.aD 18 true (fR 19 4) [2,3,20] [24,28]::.aD 14 false [(23,false)] [2,3] [20,29]::oR 24 2 (.aD 25 false (fR 26 4) [2,3] [31,35]::.op 30 false::[])))))) .nil) (.seq (sn (.one (.loop [2,3] [5] (sn (.seq (.one (.seq (.draw 8 (oR 0 8 []) [] []) .nil)) .nil))))) .nil))) 52 [.tmp 4]
def Yc(x0:AV)(h:aa)(K:AV→aa→Prop):Prop:=
 iC p_ 124 [x0] h fun a b=>aw (fun c=>ar a true (iC p_ 125 [x0] b fun e f=>ae .eql x0 e fun g=>c [tt,g] f) (c [(aN true a),un] b)) fun d i=>aI (nx d 0) (nx d 1) ff fun j=>K j i
theorem V89(x0:AV):Body p_ 89 [x0] (Yc x0):=bB Tryz.func89 (sn (.seq (.aR (oR 0 3 (.aD 2 true (fR 3 4) [] [5,9]::oR 7 2 []))) .nil)) 11 [.tmp 2]
def Yd(x0 x1:AV)(h:aa)(K:AV→aa→Prop):Prop:=
 aW 46 x0 h fun a c6=>aW 96 x1 c6 fun d y=>ak true 9 a y fun c7=>iC p_ 56 [c7] y fun c8 c9=>aW 119 (.agg [(u8 0),(.str []),(u8 0),(.str []),ff,(i_ 0),(i_ 0),ff]) c9 fun b d0=>ao 8 b c8 d0 fun s=>iFL 0 false 1 a s fun c=>aw (fun z=>ae .eql c (u8 1) fun d1=>ag d1 (eC [a,d,b,c] (z [tt] s)) (ae .eql c (u8 2) fun d2=>eC [a,d,b,c] (z [d2] s))) fun d3 e=>ag (nx d3 0) (iFL 1 false 1 a e fun d4=>iC p_ 124 [d4] e fun A n=>aw (fun B=>ar A true (ak true 8 b n fun d5=>iFL 0 false 1 a n fun d6=>iFL 1 false 1 a n fun d7=>aY (.agg [(u8 0),(.str []),(u8 0),(.str []),ff,(i_ 0),(i_ 0),ff]) [(0,1,d6),(1,1,d7)] fun d8=>lW false [1,2,1,2,0,1,1,0] d5 d8 fun d9=>eC [a] (B [tt,d9] n)) (eC [a] (B [(aN true A),un] n))) fun C t=>aI (nx C 0) (nx C 1) ff fun D=>aw (fun E=>ar D true (iFL 8 false 1 a t fun e0=>bu e0 fun e1=>ae .eql e1 (i_ 0) fun e2=>E [tt,e2] t) (E [(aN true D),un] t)) fun F e3=>aI (nx F 0) (nx F 1) ff fun e4=>K e4 e3) (ae .eql c (u8 3) fun e5=>ag e5 (iFL 2 false 1 a e fun e6=>ae .neq e6 (u8 0) fun G=>aw (fun H=>ar G false (iFL 3 false 1 a e fun e7=>ae .eql e7 (.str []) fun e8=>eC [a,b] (H [ff,e8] e)) (eC [a,b] (H [(aN false G),un] e))) fun k u=>aw (fun I=>ar (nx k 1) true (iFL 4 false 1 a u fun e9=>cq e9 fun f0=>eC [a,b,(nx k 0)] (I [tt,f0] u)) (eC [a,b,(nx k 0)] (I [(aN true (nx k 1)),un] u))) fun J L=>aw (fun M=>ar (nx k 0) false (aI (nx J 0) (nx J 1) ff fun f1=>eC [a,b] (M [ff,f1] L)) (eC [a,b] (M [(aN false (nx k 0)),un] L))) fun N O=>aI (nx N 0) tt (nx N 1) fun o=>iFL 1 false 1 a O fun f2=>iC p_ 89 [f2] O fun P v=>aw (fun Q=>ar P true (iFL 2 false 1 a v fun f3=>ae .leq f3 (u8 6) fun f4=>eC [a,b,o] (Q [tt,f4] v)) (eC [a,b,o] (Q [(aN true P),un] v))) fun R w=>aI (nx R 0) (nx R 1) ff fun S=>aw (fun T=>ar S true (iFL 3 false 1 a w fun f5=>iC p_ 126 [f5,(i_ 400)] w fun f6 f7=>eC [a,b,o] (T [tt,f6] f7)) (eC [a,b,o] (T [(aN true S),un] w))) fun U V=>aI (nx U 0) (nx U 1) ff fun W=>aw (fun X=>ar W true (eC [a,b] (X [tt,o] V)) (eC [a,b] (X [(aN true W),un] V))) fun Y i=>aI (nx Y 0) (nx Y 1) ff fun Z=>aw (fun a0=>ar Z true (ak true 8 b i fun f8=>iFL 0 false 1 a i fun f9=>iFL 1 false 1 a i fun g0=>iFL 2 false 1 a i fun g1=>iFL 3 false 1 a i fun g2=>iFL 4 false 1 a i fun g3=>aY (.agg [(u8 0),(.str []),(u8 0),(.str []),ff,(i_ 0),(i_ 0),ff]) [(0,1,f9),(1,1,g0),(2,1,g1),(3,1,g2),(4,1,g3)] fun g4=>lW false [1,2,1,2,0,1,1,0] f8 g4 fun g5=>eC [a] (a0 [tt,g5] i)) (eC [a] (a0 [(aN true Z),un] i))) fun a1 x=>aI (nx a1 0) (nx a1 1) ff fun a2=>aw (fun a3=>ar a2 true (iFL 8 false 1 a x fun g6=>bu g6 fun g7=>ae .eql g7 (i_ 0) fun g8=>a3 [tt,g8] x) (a3 [(aN true a2),un] x)) fun a4 g9=>aI (nx a4 0) (nx a4 1) ff fun i0=>K i0 g9) (aw (fun p=>ae .eql c (u8 4) fun i1=>ag i1 (eC [a,d,b,c] (p [tt] e)) (ae .eql c (u8 5) fun i2=>ag i2 (eC [a,d,b,c] (p [tt] e)) (ae .eql c (u8 6) fun i3=>ag i3 (eC [a,d,b,c] (p [tt] e)) (ae .eql c (u8 7) fun i4=>ag i4 (eC [a,d,b,c] (p [tt] e)) (ae .eql c (u8 8) fun i5=>eC [a,d,b,c] (p [i5] e)))))) fun i6 j=>ag (nx i6 0) (ak true 8 b j fun i7=>iFL 0 false 1 a j fun i8=>aY (.agg [(u8 0),(.str []),(u8 0),(.str []),ff,(i_ 0),(i_ 0),ff]) [(0,1,i8)] fun i9=>lW false [1,2,1,2,0,1,1,0] i7 i9 fun a5=>aw (fun a6=>ar a5 true (iFL 8 false 1 a j fun j0=>bu j0 fun j1=>ae .eql j1 (i_ 0) fun j2=>a6 [tt,j2] j) (a6 [(aN true a5),un] j)) fun a7 j3=>aI (nx a7 0) (nx a7 1) ff fun j4=>K j4 j3) (aw (fun a8=>ae .eql c (u8 9) fun j5=>ag j5 (eC [a,d,b,c] (a8 [tt] j)) (ae .eql c (u8 10) fun j6=>eC [a,d,b,c] (a8 [j6] j))) fun j7 r=>ag (nx j7 0) (iFL 5 true 2 a r fun j8=>iC p_ 127 [j8] r fun j9 l=>cq j9 fun a9=>aw (fun b0=>ar a9 false (ak true 8 b l fun k0=>iFL 0 false 1 a l fun k1=>iFL 5 true 2 a l fun k2=>iFL 7 false 1 a l fun k3=>aY (.agg [(u8 0),(.str []),(u8 0),(.str []),ff,(i_ 0),(i_ 0),ff]) [(0,1,k1),(5,2,k2),(7,1,k3)] fun k4=>lW true [1,2,1,2,0,1,1,0] k0 k4 fun k5=>eC [a,d] (b0 [ff,k5] l)) (eC [a,d] (b0 [(aN false a9),un] l))) fun b1 f=>aI (nx b1 0) tt (nx b1 1) fun k6=>ag k6 (K ff f) (iFL 7 false 1 a f fun k7=>cq k7 fun k8=>ag k8 (iFL 8 false 1 a f fun k9=>bu k9 fun l0=>ae .eql l0 (i_ 0) fun l1=>K l1 f) (iFL 8 false 1 a f fun l2=>bu l2 fun l3=>ae .gtr l3 (i_ 0) fun b2=>aw (fun b3=>ar b2 true (iFL 8 false 1 a f fun l4=>ak true 2 d f fun l5=>iFL 0 false 1 a f fun l6=>iC p_ 128 [l4,l5,l6] f fun l7 l8=>b3 [tt,l7] l8) (b3 [(aN true b2),un] f)) fun b4 l9=>aI (nx b4 0) (nx b4 1) ff fun m0=>K m0 l9))) (aw (fun b5=>ae .eql c (u8 11) fun m1=>ag m1 (eC [a,d,b,c] (b5 [tt] r)) (ae .eql c (u8 12) fun m2=>eC [a,d,b,c] (b5 [m2] r))) fun m3 g=>ag (nx m3 0) (ak true 8 b g fun m4=>iFL 0 false 1 a g fun m5=>aY (.agg [(u8 0),(.str []),(u8 0),(.str []),ff,(i_ 0),(i_ 0),ff]) [(0,1,m5)] fun m6=>lW false [1,2,1,2,0,1,1,0] m4 m6 fun b6=>aw (fun b7=>ar b6 true (iFL 8 false 1 a g fun m7=>ak true 2 d g fun m8=>iFL 0 false 1 a g fun m9=>iC p_ 128 [m7,m8,m9] g fun n0 n1=>b7 [tt,n0] n1) (b7 [(aN true b6),un] g)) fun b8 n2=>aI (nx b8 0) (nx b8 1) ff fun n3=>K n3 n2) (aw (fun b9=>ae .eql c (u8 13) fun n4=>ag n4 (eC [a,d,b] (b9 [tt] g)) (ae .eql c (u8 14) fun n5=>eC [a,d,b] (b9 [n5] g))) fun n6 m=>ag (nx n6 0) (ak true 8 b m fun n7=>iFL 0 false 1 a m fun n8=>aY (.agg [(u8 0),(.str []),(u8 0),(.str []),ff,(i_ 0),(i_ 0),ff]) [(0,1,n8)] fun n9=>lW false [1,2,1,2,0,1,1,0] n7 n9 fun c0=>aw (fun c1=>ar c0 true (iFL 8 false 1 a m fun o0=>bu o0 fun o1=>ae .gtr o1 (i_ 0) fun o2=>eC [a,d] (c1 [tt,o2] m)) (eC [a,d] (c1 [(aN true c0),un] m))) fun c2 q=>aI (nx c2 0) (nx c2 1) ff fun c3=>aw (fun c4=>ar c3 true (iFL 8 false 1 a q fun o3=>ak true 2 d q fun o4=>iFL 0 false 1 a q fun o5=>iC p_ 128 [o3,o4,o5] q fun o6 o7=>c4 [tt,o6] o7) (c4 [(aN true c3),un] q)) fun c5 o8=>aI (nx c5 0) (nx c5 1) ff fun o9=>K o9 o8) (K ff m))))))
theorem V90(x0 x1:AV):Body p_ 90 [x0,x1] (Yd x0 x1):=bB Tryz.func90 (sn (sn (.seq (sn (.one (.join [2,3,5,10] [11] .nil (.two (.seq (.aR (oR 0 4 (.aD 3 true (fR 4 7) [2] [17,24]::oR 11 2 (.aD 12 true (fR 13 4) [] [26,30]::oR 17 2 [])))) .nil) (sn (.two (.seq (.aR (oR 0 4 (.aD 3 false (fR 4 4) [2,5] [37,41]::.aD 7 true (fR 8 3) [2,5,37] [41,44]::.aD 3 false [(11,false)] [2,5] [37,45]::oR 12 2 []))) (.seq (.aR (oR 0 4 (.aD 3 true (fR 4 3) [2,5,6] [50,53]::oR 7 2 (.aD 8 true (fR 9 3) [2,5,6] [55,58]::oR 12 2 (.aD 13 true [(14,false)] [2,5] [60,61]::oR 15 2 (.aD 16 true (fR 17 13) [2] [63,76]::oR 30 2 (.aD 31 true (fR 32 4) [] [78,82]::oR 36 2 []))))))) .nil)) (.join [2,3,5,10] [84] .nil (.two (.seq (.aR (oR 0 6 (.aD 5 true (fR 6 4) [] [95,99]::oR 10 2 []))) .nil) (.join [2,3,5,10] [101] .nil (.two (.seq (.seq (.aR (oR 0 5 (.aD 4 false (fR 5 9) [2,3] [108,117]::.op 14 false::[]))) .nil) (sn (.seq (.aR (oR 0 5 (.aD 4 true (fR 5 6) [] [130,136]::oR 11 2 []))) .nil))) (.join [2,3,5,10] [138] .nil (.two (.seq (.aR (oR 0 6 (.aD 5 true (fR 6 6) [] [146,152]::oR 12 2 []))) .nil) (.join [2,3,5] [154] .nil (.two (.seq (.aR (oR 0 6 (.aD 5 true (fR 6 4) [2,3] [162,166]::oR 10 2 (.aD 11 true (fR 12 6) [] [168,174]::oR 18 2 [])))) .nil) .nil)))))))))))))) .nil))) 176 [.tmp 4]
def Sv(x0:AV)(h:aa)(K:AV→aa→Prop):Prop:=
 iP 5 x0 h fun a d=>bL [(i_ 0)] d fun e b c =>
 bu a fun f=>ae .lss (nx b 0) f fun g=>ag g (aQ 1 a (nx b 0) fun i=>ak false 1 i c fun j=>iC p_ 156 [j] c fun k l=>aQ 1 a (nx b 0) fun m=>ao 1 m k l fun n=>ae .add (nx b 0) (i_ 1) fun o=>eC [a] (e [o] n)) (cJ a c fun p=>K p c)
theorem YM(x0:AV):Body p_ 125 [x0] (Sv x0):=bB Tryz.func125 (sn (sn (.seq (sn (.one (.loop [3] [4] .nil))) .nil))) 23 [.tmp 2]
def Su(x0:AV)(h:aa)(K:AV→aa→Prop):Prop:=
 ae .neq x0 (.str []) fun a=>aw (fun b=>ar a true (iC p_ 126 [x0,(i_ 64)] h fun d e=>b [tt,d] e) (b [(aN true a),un] h)) fun c f=>aI (nx c 0) (nx c 1) ff fun g=>K g f
theorem YL(x0:AV):Body p_ 124 [x0] (Su x0):=bB Tryz.func124 (sn (.seq (.aR (oR 0 3 (.aD 2 true (fR 3 2) [] [5,7]::oR 5 2 []))) .nil)) 9 [.tmp 2]
def Sx(x0:AV)(h:aa)(K:AV→aa→Prop):Prop:=
 aW 44 x0 h fun a b=>iFL 0 false 1 a b fun o=>ae .geq o (i_ (-1000000000)) fun e=>aw (fun f=>ar e true (iFL 0 false 1 a b fun p=>ae .leq p (i_ 1000000000) fun q=>eC [a] (f [tt,q] b)) (eC [a] (f [(aN true e),un] b))) fun g c=>aI (nx g 0) (nx g 1) ff fun i=>aw (fun j=>ar i true (iFL 1 false 1 a c fun r=>ae .geq r (i_ (-1000000000)) fun s=>eC [a] (j [tt,s] c)) (eC [a] (j [(aN true i),un] c))) fun k d=>aI (nx k 0) (nx k 1) ff fun l=>aw (fun m=>ar l true (iFL 1 false 1 a d fun t=>ae .leq t (i_ 1000000000) fun u=>m [tt,u] d) (m [(aN true l),un] d)) fun n v=>aI (nx n 0) (nx n 1) ff fun w=>K w v
theorem YP(x0:AV):Body p_ 127 [x0] (Sx x0):=bB Tryz.func127 (sn (.seq (.aR (oR 0 4 (.aD 3 true (fR 4 3) [1] [6,9]::oR 7 2 (.aD 8 true (fR 9 3) [1] [11,14]::oR 12 2 (.aD 13 true (fR 14 3) [] [16,19]::oR 17 2 []))))) .nil)) 21 [.tmp 2]
def XK(x0:AV)(h:aa)(K:AV→aa→Prop):Prop:=
 aW 46 x0 h fun b e=>aW 119 (.agg [(u8 0),(.str []),(u8 0),(.str []),ff,(i_ 0),(i_ 0),ff]) e fun c a=>iFL 0 false 1 b a fun f=>iFL 1 false 1 b a fun g=>iFL 2 false 1 b a fun i=>iFL 3 false 1 b a fun j=>iFL 4 false 1 b a fun k=>iFL 5 true 2 b a fun l=>iFL 7 false 1 b a fun m=>aY (.agg [(u8 0),(.str []),(u8 0),(.str []),ff,(i_ 0),(i_ 0),ff]) [(0,1,f),(1,1,g),(2,1,i),(3,1,j),(4,1,k),(5,2,l),(7,1,m)] fun n=>ao 8 c n a fun d=>ak true 8 c d fun r21=>K r21 d
theorem V56(x0:AV):Body p_ 56 [x0] (XK x0):=bB Tryz.func56 .nil 18 [.cell 2 119]
def Sw(x0 x1:AV)(h:aa)(K:AV→aa→Prop):Prop:=
 bL [(i_ 0)] h fun c a b =>
 cR x0 fun d=>ae .lss (nx a 0) d fun e=>ag e (dH x0 (nx a 0) fun f=>ae .eql f (u8 0) fun g=>ag g (K ff b) (ae .add (nx a 0) (i_ 1) fun i=>eC [x0,x1] (c [i] b))) (cR x0 fun j=>ae .leq j x1 fun k=>K k b)
theorem YN(x0 x1:AV):Body p_ 126 [x0,x1] (Sw x0 x1):=bB Tryz.func126 (sn (.seq (sn (.one (.loop [0,1] [5] .nil))) .nil)) 20 [.tmp 4]
def Sy(x0 x1 x2:AV)(h:aa)(K:AV→aa→Prop):Prop:=
 aW 96 x1 h fun g d=>ak true 2 g d fun i=>iC p_ 157 [i,x2] d fun e j=>aU 0 e fun k=>aU 1 e fun l=>aW 96 (.agg [(i_ 0),ff]) j fun b m=>ao 2 b k m fun f=>cq l fun n=>ag n (K ff f) (bL [(i_ 0)] f fun o c a =>
 bu x0 fun p=>ae .lss (nx c 0) p fun q=>ag q (aQ 3 x0 (nx c 0) fun r=>ak true 3 r a fun s=>ak true 2 b a fun t=>ae .eql x2 (u8 14) fun u=>iQ p_ 40 [s,t,u] a fun v=>cq v fun w=>ag w (K ff a) (ae .add (nx c 0) (i_ 1) fun x=>eC [x0,x2,b] (o [x] a))) (K tt a))
theorem YQ(x0 x1 x2:AV):Body p_ 128 [x0,x1,x2] (Sy x0 x1 x2):=bB Tryz.func128 (sn (sn (sn (.seq (sn (.one (.loop [0,2,7] [9] (sn (.seq (.one (.seq (.draw 9 (oR 0 9 []) [] []) .nil)) .nil))))) .nil)))) 33 [.tmp 6]
def SL(x0:AV)(h:aa)(K:AV→aa→Prop):Prop:=
 ae .geq x0 (u8 65) fun a=>aw (fun b=>ar a true (ae .leq x0 (u8 90) fun e=>eC [x0] (b [tt,e] h)) (eC [x0] (b [(aN true a),un] h))) fun c d=>aI (nx c 0) (nx c 1) ff fun f=>ag f (ae .sub x0 (u8 65) fun g=>ae .add g (u8 97) fun i=>K i d) (K x0 d)
theorem Y3(x0:AV):Body p_ 156 [x0] (SL x0):=bB Tryz.func156 (sn (.seq (.seq (.aR (oR 0 3 (.aD 2 true (fR 3 2) [0] [5,7]::.op 5 false::[]))) .nil) .nil)) 13 [.tmp 2]
def MO(x0 x1:AV)(h:aa)(K:AV→aa→Prop):Prop:=
 aW 96 x0 h fun b u=>aW 96 (.agg [(i_ 0),ff]) u fun a e=>iFL 0 false 1 b e fun v=>ae .eql v (i_ 3) fun i=>aw (fun j=>ar i false (ae .eql x1 (u8 14) fun w=>eC [x1,b,a] (j [ff,w] e)) (eC [x1,b,a] (j [(aN false i),un] e))) fun c f=>aw (fun k=>ar (nx c 1) true (iFL 1 false 1 b f fun x=>eC [x1,b,a,(nx c 0)] (k [tt,x] f)) (eC [x1,b,a,(nx c 0)] (k [(aN true (nx c 1)),un] f))) fun l m=>aw (fun n=>ar (nx c 0) false (aI (nx l 0) (nx l 1) ff fun y=>eC [x1,b,a] (n [ff,y] m)) (eC [x1,b,a] (n [(aN false (nx c 0)),un] m))) fun o d=>aI (nx o 0) tt (nx o 1) fun z=>ag z (ak true 2 b d fun A=>ao 2 a A d fun p=>ak true 2 a p fun r24=>K (.aA [r24,ff]) p) (iFL 0 false 1 b d fun B=>ae .add B (i_ 1) fun g=>iFL 1 false 1 b d fun q=>aw (fun r=>ar q false (ae .eql x1 (u8 14) fun C=>eC [a,g] (r [ff,C] d)) (eC [a,g] (r [(aN false q),un] d))) fun s D=>aI (nx s 0) tt (nx s 1) fun E=>aY (.agg [(i_ 0),ff]) [(0,1,g),(1,1,E)] fun F=>ao 2 a F D fun t=>ak true 2 a t fun r37=>K (.aA [r37,tt]) t)
theorem R6(x0 x1:AV):Body p_ 157 [x0,x1] (MO x0 x1):=bB Tryz.func157 (sn (.seq (.seq (.aR (oR 0 4 (.aD 3 false (fR 4 3) [1,2,4] [9,12]::.aD 6 true (fR 7 2) [1,2,4,9] [12,14]::.aD 3 false [(9,false)] [1,2,4] [9,15]::.op 10 false::[]))) .nil) (.seq (.aR (oR 0 6 (.aD 5 false (fR 6 2) [4,20] [23,25]::oR 8 4 []))) .nil))) 28 [.cell 4 96,.tmp 5]
end
section
open Go Go.Aw Go.bG
theorem Ud(b:UInt8)(h1:65≤(b.toNat:Int))(h2:(b.toNat:Int)≤90):IntKind.u8.wrap (IntKind.u8.wrap ((b.toNat:Int)-65)+97)=((dF b).toNat:Int):=by
 have:∀n:Fin 26,IntKind.u8.wrap (IntKind.u8.wrap (((65+n.val:Nat):Int)-65)+97)=((dF (UInt8.ofNat (65+n.val))).toNat:Int):=by decide
 have hb:b=UInt8.ofNat (65+(b.toNat-65)):=by
  rw[show 65+(b.toNat-65)=b.toNat by omega];simp
 have h:=this ⟨b.toNat-65,by omega⟩;simp only[show 65+(b.toNat-65)=b.toNat by omega]at h;rw[h];simp
variable [Laid]
theorem GF(b:UInt8):bn p_ 156 [bg b] (bg (dF b)):=by
 refine (Y3 _).bj (by simp[bg]) (by simp[bg]) ?_;unfold SL bg;repeat' (first|(with_reducible apply aH)|(with_reducible apply aq)|((with_reducible first|apply gI|apply lJ);rfl;rfl)|((with_reducible apply aM);rfl)|((with_reducible apply aO);rfl)|((with_reducible apply ay);rfl;first|rfl|assumption)|((with_reducible apply ct);rfl)|((with_reducible apply cE);rfl)|(with_reducible intro _))
 ·rename_i h1 h2;have h1:65≤(b.toNat:Int):=by simpa using h1
  have h2:(b.toNat:Int)≤90:=by simpa using h2
  simp[qD];exact .pure (by simp) (by rw[Ud b h1 h2])
 all_goals refine .pure (by simp) ?_
 all_goals rw[Fj b (by simp_all;try omega)]
theorem Js(s:af):bn p_ 125 [.str s] (.str (s.map dF)):=by
 refine (YM _).bj (by simp) (by simp) ?_;unfold Sv;rw[vh];refine bc (α:=Nat) (fun k=>k≤s.length) (fun k=>[i_ k]) (fun k=>[.ah ⟨5,eS s k,true⟩]) (fun k=>s.length-k) 0 (by simp) (by simpa[eS]using Wk.refl _ _ _ (by simp)) ?_;intro k hk;rw[uj];intro hlen
 by_cases q:k<s.length
 ·obtain⟨b,hb⟩:∃b,s[k]?=some b:=⟨s[k],dO q⟩;have hc:=w7 hb;refine zzC (zzL (by simpa using q) ?_);have idx:∀{K:AV→Prop},K (.op 0 k)→aQ 1 (.own 0 0 s.length 1) (nx [i_ k] 0) K:=fun q2=>by
   rw[dU,HD];exact⟨rfl,⟨by omega,by omega⟩,by simpa using q2⟩
  refine idx (zzU rfl hc ?_);have hin:aJ ((k:Int)+1):=by unfold maxLen at hlen;unfold aJ;omega
  refine uCon (GF b) (idx (dP (cs:=[bg (dF b)]) rfl rfl rfl rfl (by simp[w8];omega) rfl rfl (zzP hin (aq ?_))));refine⟨k+1,by omega, ?_,by omega⟩;have:=nv hb;rw[show bZ (eS s k) k [bg (dF b)]=eS s (k+1) from this];exact Wk.refl _ _ _ (by simp)
 ·obtain rfl:k=s.length:=by omega
  refine zzC (zzK (by simp) (CI (id:=0) (b:=⟨5,eS s s.length,true⟩) (l:=s.map dF) (by simp) rfl (by simp[eS]) ?_));exact .pure (by simp) rfl
theorem AO(s:af)(n:Int):bn p_ 126 [.str s,i_ n] (b_ (gD s&&decide ((s.length:Int)≤n))):=by
 refine (YN _ _).bj (by simp) (by simp) ?_;unfold Sw;refine bc (α:=Nat) (fun k=>k≤s.length∧gD (s.take k)=true) (fun k=>[i_ k]) (fun _=>[]) (fun k=>s.length-k) 0 (by simp[gD]) (Wk.refl _ _ _ (by simp)) ?_;rintro k ⟨hk,hI⟩;refine zzZ fun hlen=>?_;refine zzC ?_;rcases uP k s.length with q|q
 ·obtain⟨b,hb⟩:∃b,s[k]?=some b:=⟨s[k],dO q⟩;have hin:aJ ((k:Int)+1):=by unfold maxLen at hlen;unfold aJ;omega
  refine zzL (by simpa using q) (tW rfl rfl hb ?_);repeat' (first|(with_reducible apply aq)|((with_reducible apply bR);rfl;rfl)|((with_reducible apply cg);rfl;rfl;first|assumption|(unfold aJ;omega))|((with_reducible apply ct);rfl)|(with_reducible intro _))
  ·rename_i hz;have:b=0:=by
    have:(b.toNat:Int)=0:=by simpa using hz
    exact UInt8.toNat_inj.1 (by simpa using this)
   subst this;refine .pure (by simp) ?_;have:gD s=false:=by
    unfold gD;rw[List.all_eq_false];exact⟨0,gE hb,by simp⟩
   rw[this];rfl
  ·rename_i hz;have:b≠0:=by
    rintro rfl;simp at hz
   refine⟨k+1,⟨q, ?_⟩,Wk.refl _ _ _ (by simp),by omega⟩;rw[By,hb];unfold gD at hI ⊢;rw[List.all_append,hI];simpa using this
 ·have hk:k=s.length:=by omega
  subst hk;rw[BY]at hI;refine zzK (by simp) ?_;refine zzZ fun _=>?_;refine zzD ?_;exact .pure (by simp) (by rw[hI];rfl)
theorem AP(s:af):bn p_ 124 [.str s] (b_ (named s)):=by
 refine (YL _).bj (by simp) (by simp) ?_;unfold Su;repeat' (first|(with_reducible apply aH)|((with_reducible apply jN);rfl;rfl)|((with_reducible apply aM);rfl)|((with_reducible apply aO);rfl)|((with_reducible apply fw);rfl)|(refine uCon (AO _ _) ?_)|((with_reducible apply cE);rfl)|(with_reducible intro _))
 all_goals refine .pure (by simp) ?_
 all_goals simp only[dU,gF,AV.v.injEq,Value.bool.injEq,Value.int.injEq,true_and]at *
 all_goals first
  | grind [named]
  | (simp_all [named];done)
  | (simp_all [named];omega)
theorem AQ(s:af):bn p_ 89 [.str s] (b_ (small s)):=by
 refine (V89 _).bj (by simp) (by simp) ?_;unfold Yc;repeat' (first|(with_reducible apply aH)|((with_reducible apply gK);rfl;rfl)|((with_reducible apply aM);rfl)|((with_reducible apply aO);rfl)|(refine uCon (AP _) ?_)|(refine uCon (Js _) ?_)|((with_reducible apply cE);rfl)|(with_reducible intro _))
 all_goals refine .pure (by simp) ?_
 all_goals simp only[dU,gF,AV.v.injEq,Value.bool.injEq,Value.int.injEq,true_and]at *
 all_goals first
  | grind [small]
  | (simp_all [small];done)
  | (simp_all [small];omega)
theorem Jt(a b:Int):bn p_ 127 [.agg [i_ a,i_ b]] (b_ (gu a&&gu b)):=by
 refine (YP _).bj (by simp) (by simp) ?_;unfold Sx;repeat' (first|(with_reducible apply aH)|(with_reducible apply aq)|((with_reducible first|apply gI|apply lJ);rfl;rfl)|((with_reducible apply aM);rfl)|((with_reducible apply aO);rfl)|((with_reducible apply bw);rfl;first|rfl|assumption)|((with_reducible apply aK);rfl)|((with_reducible apply aF);rfl;rfl;rfl)|((with_reducible apply fq);first|rfl|simp)|((with_reducible apply cE);rfl)|(with_reducible intro _))
 all_goals refine .pure (by simp) ?_
 all_goals simp only[dU,gF,AV.v.injEq,Value.bool.injEq,Value.int.injEq,true_and]at *
 all_goals first
  | grind [gu]
  | (simp_all [gu];done)
  | (simp_all [gu];omega)
theorem Jk(d:Nat)(has:Bool)(k:Int)(hd:d≤3)(hq:iw d has k=true):bn p_ 157 [.agg [i_ d,b_ has],u1 k] (.aA [.agg [i_ (d+1),b_ (has||decide (k=14))],tt]):=by
 refine (R6 _ _).bj (by simp) (by simp) ?_;unfold MO;have hin:aJ ((d:Int)+1):=by unfold aJ;omega
 unfold iw at hq;repeat' (first|(with_reducible apply aH)|(with_reducible apply aq)|((with_reducible apply bR);rfl;rfl)|((with_reducible apply cg);rfl;rfl;first|assumption|(unfold aJ;omega))|((with_reducible apply aM);rfl)|((with_reducible apply aO);rfl)|((with_reducible apply ax);rfl;first|rfl|assumption)|((with_reducible apply ay);rfl;first|rfl|assumption)|((with_reducible apply bt);rfl;first|rfl|assumption)|((with_reducible apply bw);rfl;first|rfl|assumption)|((with_reducible apply dc);rfl)|((with_reducible apply aK);rfl)|((with_reducible apply aF);rfl;rfl;rfl)|((with_reducible apply dn);rfl;rfl;first|exact bY _|exact lT rfl)|((with_reducible apply fq);first|rfl|simp)|((with_reducible apply dP);rfl;rfl;rfl;rfl;(first|exact bY _|simp);(first|rfl|simp);(first|rfl|simp))|((with_reducible apply bf);rfl)|((with_reducible apply ct);rfl)|((with_reducible apply cE);rfl)|(with_reducible intro _))
 all_goals refine .pure (by simp) ?_
 all_goals simp only[dU,gF,bZ,bl]at *
 all_goals first|(exfalso;grind)|grind|simp_all
theorem Jj(d:Nat)(has:Bool)(k:Int)(hd:d≤3)(hq:iw d has k=false):bn p_ 157 [.agg [i_ d,b_ has],u1 k] (.aA [.agg [i_ d,b_ has],ff]):=by
 refine (R6 _ _).bj (by simp) (by simp) ?_;unfold MO;have hin:aJ ((d:Int)+1):=by unfold aJ;omega
 unfold iw at hq;repeat' (first|(with_reducible apply aH)|(with_reducible apply aq)|((with_reducible apply bR);rfl;rfl)|((with_reducible apply cg);rfl;rfl;first|assumption|(unfold aJ;omega))|((with_reducible apply aM);rfl)|((with_reducible apply aO);rfl)|((with_reducible apply ax);rfl;first|rfl|assumption)|((with_reducible apply ay);rfl;first|rfl|assumption)|((with_reducible apply bt);rfl;first|rfl|assumption)|((with_reducible apply bw);rfl;first|rfl|assumption)|((with_reducible apply dc);rfl)|((with_reducible apply aK);rfl)|((with_reducible apply aF);rfl;rfl;rfl)|((with_reducible apply dn);rfl;rfl;first|exact bY _|exact lT rfl)|((with_reducible apply fq);first|rfl|simp)|((with_reducible apply dP);rfl;rfl;rfl;rfl;(first|exact bY _|simp);(first|rfl|simp);(first|rfl|simp))|((with_reducible apply bf);rfl)|((with_reducible apply ct);rfl)|((with_reducible apply cE);rfl)|(with_reducible intro _))
 all_goals refine .pure (by simp) ?_
 all_goals simp only[dU,gF,bZ,bl]at *
 all_goals first|(exfalso;grind)|grind|simp_all
end
section
open Go Go.Aw Go.bG
variable [Laid]
variable{n:Nat}
def O4(n:Nat):Prop:=∀x:Cx,zX x≤n→∀(d:Nat) (has rel:Bool),d≤3→bn p_ 40 [.agg (fZ x),.agg [i_ d,b_ has],b_ rel] (b_ (eL d has rel x))
def R0(n:Nat):Prop:=∀p:Cp,zP p≤n→∀(d:Nat) (has:Bool),d≤3→bn p_ 55 [.agg (iv p),.agg [i_ d,b_ has]] (b_ (cZ d has p))
def R3(n:Nat):Prop:=∀s:Sm,zS s≤n→∀(d:Nat) (has:Bool),d≤3→bn p_ 90 [.agg (ft s),.agg [i_ d,b_ has]] (b_ (jz d has s))
theorem Ov(hn:n<2^60)(hP:R0 n):O4 (n+1):=by
 rintro⟨l,ps,cs⟩ hz d has rel hd;rw[zX]at hz;refine (V40 _ _ _).bj (by simp[ye]) (by simp) ?_;unfold Xx;rw[fZ];have hlen:(du ps).length=ps.length:=by simp[dq]
 have hpl:=rA ps;have hc:aJ (((du ps).length:Int)-1):=by rw[hlen];unfold aJ;omega
 repeat' (first|(with_reducible apply aH)|(with_reducible apply aq)|((with_reducible first|apply fe|apply bR|apply dG);rfl;rfl)|((with_reducible apply Kn);rfl;rfl)|((with_reducible apply nR);rfl;rfl;first|assumption|(unfold aJ;omega))|((with_reducible apply aM);rfl)|((with_reducible apply aO);rfl)|((with_reducible apply ax);rfl;first|rfl|assumption)|((with_reducible apply bw);rfl;first|rfl|assumption)|((with_reducible apply jl);rfl)|((with_reducible apply fw);rfl)|((with_reducible apply aK);rfl)|((with_reducible apply aF);rfl;rfl;rfl)|((with_reducible apply fq);first|rfl|simp)|((with_reducible apply dz);rfl;(first|rfl|simp);intro _)|((with_reducible apply ct);rfl)|((with_reducible apply cE);rfl)|(with_reducible intro _))
 all_goals first
  | (refine .pure (by simp) ?_
     rw[Ig _ _ _ _ _ _ (by simp only[aaC,hlen]at *;grind)])
  | (have b0:(rel == !decide (l=0))=true:=by grind
     have b1:l≤4:=by grind
     have b2:cs.length+1=ps.length:=by simp only[aaC]at *;grind
     have b3:ps.length≤64:=by grind
     refine bc (α:=Nat) (fun k=>k≤ps.length∧(ps.take k).all (cZ d has)=true∧(cs.take (k-1)).all (fun c=>decide (1≤c∧c≤4))=true) (fun k=>[i_ k]) (fun _=>[.ah ⟨39,[u1 l,.sl 2 (du ps),.sl 1 (cs.map fun c=>[u1 c])],true⟩,.ah ⟨96,[i_ d,b_ has],true⟩]) (fun k=>ps.length-k) 0 (by simp) (Wk.refl _ _ _ (by simp)) ?_;rintro k ⟨hk,hI,hJ⟩;refine zzA (zzU rfl rfl ?_);refine zzf (n:=ps.length) hlen fun _=>?_;refine zzC ?_;rcases uP k ps.length with q|q
     ·obtain⟨p,hx⟩:∃p,ps[k]?=some p:=⟨ps[k],dO q⟩;have hin:aJ ((k:Int)+1):=by unfold aJ;omega
      have hin2:aJ ((k:Int)-1):=by unfold aJ;omega
      have nxt:(ps.take (k+1)).all (cZ d has)=cZ d has p:=by
       rw[By,hx,List.all_append,hI];simp
      have badP:cZ d has p=false→eL d has rel (.mk l ps cs)=false:=by
       intro hb;rw[eL,mf];have:ps.all (cZ d has)=false:=by
        rw[List.all_eq_false];exact⟨p,gE hx,by simp[hb]⟩
       rw[this];simp
      have hzp:zP p≤n:=by have:=pC (gE hx);omega
      refine zzL (by simpa using q) (zzA (zzU rfl rfl (zzb (dq ps) rfl hx (zzY (by simp[rj]) (zzV rfl (bY _) (zzT (by kernel_rfl) (hP p hzp d has hd) ?_))))))
      by_cases hk0:k=0
      ·subst hk0;repeat' (first|(with_reducible apply aH)|(with_reducible apply aq)|((with_reducible apply fe);rfl;rfl)|((with_reducible apply cg);rfl;rfl;first|assumption|(unfold aJ;omega))|((with_reducible apply dM);rfl)|((with_reducible apply aO);rfl)|((with_reducible apply ax);rfl;first|rfl|assumption)|((with_reducible apply ay);rfl;first|rfl|assumption)|((with_reducible apply bt);rfl;first|rfl|assumption)|((with_reducible apply bw);rfl;first|rfl|assumption)|((with_reducible apply dc);rfl)|((with_reducible apply BJ);rfl;first|rfl|assumption)|((with_reducible apply tX);rfl;first|rfl|assumption)|((with_reducible apply xy);rfl)|((with_reducible apply fw);rfl)|((with_reducible apply cE);rfl)|(with_reducible intro _))
       all_goals first
        | exact .pure (by simp) (by rw[badP (by simp_all)])
        | exact⟨1,⟨by omega,by rw[nxt];simp_all,by simp⟩,Wk.refl _ _ _ (by simp),by omega⟩
        | (exfalso;simp_all;done)
        | (exfalso;grind)
      ·obtain⟨c,hcx⟩:∃c,cs[k-1]?=some c:=⟨cs[k-1],dO (by omega)⟩;have nxc:(cs.take (k+1-1)).all (fun c=>decide (1≤c∧c≤4))=decide (1≤c∧c≤4):=by
        rw[show k+1-1=k-1+1 by omega,By,hcx,List.all_append,hJ];simp
       have badC:¬(1≤c∧c≤4)→eL d has rel (.mk l ps cs)=false:=by
        intro hb;rw[eL];have:cs.all (fun c=>decide (1≤c∧c≤4))=false:=by
         rw[List.all_eq_false];exact⟨c,gE hcx,by simpa using hb⟩
        rw[this];simp
       have hki:(i_ ((k:Int)-1))=i_ ((k-1:Nat):Int):=by rw[show ((k:Int)-1)=((k-1:Nat):Int) by omega]
       repeat' (first|(with_reducible apply aH)|(with_reducible apply aq)|((with_reducible first|apply cK|apply fe);rfl;rfl)|((with_reducible apply cg);rfl;rfl;first|assumption|(unfold aJ;omega))|((with_reducible apply nR);rfl;rfl;first|assumption|(unfold aJ;omega))|((with_reducible apply dM);rfl)|((with_reducible apply ax);rfl;first|rfl|assumption)|((with_reducible apply ay);rfl;first|rfl|assumption)|((with_reducible apply bt);rfl;first|rfl|assumption)|((with_reducible apply bw);rfl;first|rfl|assumption)|((with_reducible apply dc);rfl)|((with_reducible apply BJ);rfl;first|rfl|assumption)|((with_reducible apply tX);rfl;first|rfl|assumption)|((with_reducible apply xy);rfl)|((with_reducible apply fw);rfl)|((with_reducible apply aK);rfl)|((with_reducible apply aF);rfl;rfl;rfl)|((with_reducible apply dY);rfl)|(refine zzb rfl hki hcx ?_)|((with_reducible apply ct);rfl)|((with_reducible apply cE);rfl)|(with_reducible intro _))
       all_goals first
        | exact .pure (by simp) (by rw[badP (by grind)])
        | exact .pure (by simp) (by rw[badC (by grind)])
        | exact⟨k+1,⟨by omega,by rw[nxt];grind,by rw[nxc];grind⟩,Wk.refl _ _ _ (by simp),by omega⟩
        | (exfalso;simp_all;done)
        | (exfalso;grind)
     ·have hk:k=ps.length:=by omega
      subst hk;rw[BY]at hI;rw[show ps.length-1=cs.length by omega,BY]at hJ;refine zzK (by simp) (.pure (by simp) ?_);rw[eL,mf,hI,hJ,b0];simp[b1,b2,b3])
theorem Ot(hn:n<2^60)(hS:R3 n):R0 (n+1):=by
 rintro⟨t,ss⟩ hz d has hd;rw[zP]at hz;refine (V55 _ _).bj (by simp[DV]) (by simp) ?_;unfold XJ;rw[iv];have hlen:(dT ss).length=ss.length:=by simp[dA]
 have hsl:=pD ss;have he:ss.isEmpty=decide (ss.length=0):=by cases ss<;>simp
 repeat' (first|(with_reducible apply aH)|(with_reducible apply aq)|((with_reducible first|apply fe|apply bR);rfl;rfl)|((with_reducible first|apply gK|apply jN);rfl;rfl)|((with_reducible apply dM);rfl)|((with_reducible apply aM);rfl)|((with_reducible apply aO);rfl)|((with_reducible apply ax);rfl;first|rfl|assumption)|((with_reducible apply bt);rfl;first|rfl|assumption)|((with_reducible apply bw);rfl;first|rfl|assumption)|((with_reducible apply dc);rfl)|((with_reducible apply fw);rfl)|((with_reducible apply aK);rfl)|((with_reducible apply aF);rfl;rfl;rfl)|((with_reducible apply fq);first|rfl|simp)|((with_reducible apply dz);rfl;(first|rfl|simp);intro _)|(refine uCon (AQ _) ?_)|((with_reducible apply ct);rfl)|((with_reducible apply cE);rfl)|(with_reducible intro _))
 all_goals first
  | (refine .pure (by simp) ?_
     have:cZ d has (.mk t ss)=false:=by
      rw[cZ,he];simp only[hlen,dU,gF]at *
      grind
     rw[this])
  | (have b1:(decide (t=[])||decide (t=[42])||small t)=true:=by grind
     have b2:ss.length≤64:=by simp only[hlen]at *;grind
     have b3:¬(t=[]∧ss.length=0):=by simp only[hlen]at *;grind
     refine bc (α:=Nat) (fun k=>k≤ss.length∧(ss.take k).all (jz d has)=true) (fun k=>[i_ k]) (fun _=>[.ah ⟨42,[.str t,.sl 9 (dT ss)],true⟩,.ah ⟨96,[i_ d,b_ has],true⟩]) (fun k=>ss.length-k) 0 (by simp) (Wk.refl _ _ _ (by simp)) ?_;rintro k ⟨hk,hI⟩;refine zzA (zzU rfl rfl ?_);refine zzf (n:=ss.length) hlen fun _=>?_;refine zzC ?_;rcases uP k ss.length with q|q
     ·obtain⟨s,hx⟩:∃s,ss[k]?=some s:=⟨ss[k],dO q⟩;have hin:aJ ((k:Int)+1):=by unfold aJ;omega
      have nxt:(ss.take (k+1)).all (jz d has)=jz d has s:=by
       rw[By,hx,List.all_append,hI];simp
      have bad:jz d has s=false→cZ d has (.mk t ss)=false:=by
       intro hb;rw[cZ,kN];have:ss.all (jz d has)=false:=by
        rw[List.all_eq_false];exact⟨s,gE hx,by simp[hb]⟩
       rw[this];simp
      have hzs:zS s≤n:=by have:=pE (gE hx);omega
      refine zzL (by simpa using q) (zzA (zzU rfl rfl (zzb (dA ss) rfl hx (zzY (by simp[mD]) (zzV rfl (bY _) (zzT (by kernel_rfl) (hS s hzs d has hd) ?_))))));repeat' (first|(with_reducible apply aq)|((with_reducible apply cg);rfl;rfl;first|assumption|(unfold aJ;omega))|((with_reducible apply dM);rfl)|((with_reducible apply jl);rfl)|((with_reducible apply ct);rfl)|(with_reducible intro _))
      all_goals first
       | exact .pure (by simp) (by rw[bad (by grind)])
       | exact⟨k+1,⟨q,by rw[nxt];grind⟩,Wk.refl _ _ _ (by simp),by omega⟩
     ·have hk:k=ss.length:=by omega
      subst hk;rw[BY]at hI;refine zzK (by simp) (.pure (by simp) ?_);rw[cZ,kN,hI,b1,he];simp only[AV.v.injEq,Value.bool.injEq]
      grind)
theorem Ji(s:Sm):bn p_ 56 [.agg (ft s)] (.agg [u1 s.kind,.str s.name,u1 s.op,.str s.value,b_ s.fold,i_ s.a,i_ s.b,b_ s.of]):=by
 obtain⟨k,na,o,v,f,a,b,w,l⟩:=s;refine (V56 _).bj (by simp[DW]) (by simp) ?_;unfold XK;rw[ft];repeat' (first|((with_reducible apply aK);rfl)|((with_reducible apply aF);rfl;rfl;rfl)|((with_reducible apply dn);rfl;rfl;first|exact bY _|exact lT rfl)|((with_reducible apply fq);first|rfl|simp)|((with_reducible apply dP);rfl;rfl;rfl;rfl;(first|exact bY _|simp);(first|rfl|simp);(first|rfl|simp))|((with_reducible apply bf);rfl))
 exact .pure (by simp) rfl
theorem Jr(hn:n<2^60)(hX:O4 n)(l:List Cx)(hz:cD l≤n)(d:Nat)(has:Bool)(hd:d≤3)(k:Int):bn p_ 128 [.sl 3 (bC l),.agg [i_ d,b_ has],u1 k] (b_ (iw d has k&&dD (d+1) (has||decide (k=14)) (decide (k=14)) l)):=by
 refine (YQ _ _ _).bj (by simp[fG]) (by simp) ?_;unfold Sy;have hlen:(bC l).length=l.length:=by simp[ck]
 have hxl:=nQ l;rw[km];cases hq:iw d has k
 ·repeat' (first|((with_reducible apply dM);rfl)|((with_reducible apply ax);rfl;first|rfl|assumption)|((with_reducible apply dn);rfl;rfl;first|exact bY _|exact lT rfl)|((with_reducible apply fq);first|rfl|simp)|((with_reducible apply dP);rfl;rfl;rfl;rfl;(first|exact bY _|simp);(first|rfl|simp);(first|rfl|simp))|((with_reducible apply ij);rfl;rfl)|(refine uCon (Jj d has k hd hq) ?_))
  all_goals exact .pure (by simp) (by simp)
 ·have hd':d+1≤3:=by unfold iw at hq;grind
  repeat' (first|((with_reducible apply dM);rfl)|((with_reducible apply ay);rfl;first|rfl|assumption)|((with_reducible apply dn);rfl;rfl;first|exact bY _|exact lT rfl)|((with_reducible apply fq);first|rfl|simp)|((with_reducible apply dP);rfl;rfl;rfl;rfl;(first|exact bY _|simp);(first|rfl|simp);(first|rfl|simp))|((with_reducible apply ij);rfl;rfl)|(refine uCon (Jk d has k hd hq) ?_))
  refine bc (α:=Nat) (fun i=>i≤l.length∧(l.take i).all (eL (d+1) (has||decide (k=14)) (decide (k=14)))=true) (fun i=>[i_ i]) (fun _=>[.ah ⟨96,[i_ d,b_ has],true⟩,.ah ⟨96,[i_ (d+1),b_ (has||decide (k=14))],true⟩]) (fun i=>l.length-i) 0 (by simp) (Wk.refl _ _ _ (by simp)) ?_;rintro i ⟨hk,hI⟩;refine zzf (n:=l.length) hlen fun _=>?_;refine zzC ?_;rcases uP i l.length with q|q
  ·obtain⟨x,hx⟩:∃s,l[i]?=some s:=⟨l[i],dO q⟩;have hin:aJ ((i:Int)+1):=by unfold aJ;omega
   have nxt:(l.take (i+1)).all (eL (d+1) (has||decide (k=14)) (decide (k=14)))=eL (d+1) (has||decide (k=14)) (decide (k=14)) x:=by
    rw[By,hx,List.all_append,hI];simp
   have bad:eL (d+1) (has||decide (k=14)) (decide (k=14)) x=false→l.all (eL (d+1) (has||decide (k=14)) (decide (k=14)))=false:=by
    intro hb;rw[List.all_eq_false];exact⟨x,gE hx,by simp[hb]⟩
   have hzs:zX x≤n:=by have:=mN (gE hx);omega
   refine zzL (by simpa using q) (zzb (ck l) rfl hx (zzY (by simp[iL]) (zzV rfl (bY _) (zzG (zzT (by kernel_rfl) (hX x hzs (d+1) (has||decide (k=14)) (decide (k=14)) hd') ?_)))));repeat' (first|(with_reducible apply aq)|((with_reducible apply cg);rfl;rfl;first|assumption|(unfold aJ;omega))|((with_reducible apply dM);rfl)|((with_reducible apply jl);rfl)|((with_reducible apply ct);rfl)|(with_reducible intro _))
   all_goals first
    | exact .pure (by simp) (by rw[bad (by grind)];rfl)
    | exact⟨i+1,⟨q,by rw[nxt];grind⟩,Wk.refl _ _ _ (by simp),by omega⟩
  ·have hk:i=l.length:=by omega
   subst hk;rw[BY]at hI;refine zzK (by simp) ?_;exact .pure (by simp) (by rw[hI];rfl)
theorem tG(k:Int)(na:af)(o:Int)(v:af)(f:Bool)(a b:Int)(w:Bool)(l:List Cx):bn p_ 56 [.agg [u1 k,.str na,u1 o,.str v,b_ f,i_ a,i_ b,b_ w,.sl 3 (bC l)]] (.agg [u1 k,.str na,u1 o,.str v,b_ f,i_ a,i_ b,b_ w]):=by
 have:=Ji (.mk k na o v f a b w l);rw[ft]at this;exact this
theorem Ou(hn:n<2^60)(hX:O4 n):R3 (n+1):=by
 rintro⟨k,na,o,v,f,a,b,w,l⟩ hz d has hd;rw[zS]at hz;refine (V90 _ _).bj (by simp[DW]) (by simp) ?_;unfold Yd;rw[ft,Ly];have hlen:(bC l).length=l.length:=by simp[ck]
 have pX:=fG l;repeat' (first|(with_reducible apply aH)|(with_reducible apply aq)|((with_reducible first|apply gI|apply fe|apply bR|apply dG);rfl;rfl)|((with_reducible apply gK);rfl;rfl)|((with_reducible apply dM);rfl)|((with_reducible apply aM);rfl)|((with_reducible apply aO);rfl)|((with_reducible apply ax);rfl;first|rfl|assumption)|((with_reducible apply bt);rfl;first|rfl|assumption)|((with_reducible apply bw);rfl;first|rfl|assumption)|((with_reducible apply dc);rfl)|((with_reducible apply jl);rfl)|((with_reducible apply fw);rfl)|((with_reducible apply aK);rfl)|((with_reducible apply aF);rfl;rfl;rfl)|((with_reducible apply dn);rfl;rfl;first|exact bY _|exact lT rfl)|((with_reducible apply xx);rfl;rfl;rfl)|((with_reducible apply fq);first|rfl|simp)|((with_reducible apply dP);rfl;rfl;rfl;rfl;(first|exact bY _|simp);(first|rfl|simp);(first|rfl|simp))|((with_reducible apply dz);rfl;(first|rfl|simp);intro _)|((with_reducible apply bf);rfl)|(refine uCon (tG k na o v f a b w l) ?_)|(refine uCon (Jr hn hX l (by omega) d has hd k) ?_)|(refine uCon (AP _) ?_)|(refine uCon (AQ _) ?_)|(refine uCon (AO _ _) ?_)|(refine uCon (Jt _ _) ?_)|((with_reducible apply ct);rfl)|((with_reducible apply cE);rfl)|(with_reducible intro _))
 all_goals refine .pure (by simp) ?_
 all_goals simp only[dU,gF,AV.v.injEq,Value.bool.injEq,Value.int.injEq,true_and,hlen]at *
 all_goals grind [gw,eK,jo,nq]
theorem LY:∀n,n<2^60→O4 n∧R0 n∧R3 n
 | 0,_=>⟨fun x hz=>by have:=GA x;omega,fun x hz=>by have:=Gy x;omega,fun x hz=>by have:=Gz x;omega⟩
 | n+1,hn=>by
   obtain⟨hX,hP,hS⟩:=LY n (by omega);exact⟨Ov (by omega) hP,Ot (by omega) hS,Ou (by omega) hX⟩
theorem Ju(x:Cx)(hz:zX x<2^60)(d:Nat)(has rel:Bool)(hd:d≤3):bn p_ 40 [.agg (fZ x),.agg [i_ d,b_ has],b_ rel] (b_ (eL d has rel x)):=
 (LY (zX x) hz).1 x (bY _) d has rel hd
theorem Ng(l:List Cx)(hz:cD l<2^59):bn p_ 24 [.sl 3 (bC l)] (b_ (!l.isEmpty&&dD 0 false false l)):=by
 refine (V24 _).bj (by simp[fG]) (by simp) ?_;unfold Xh;have hlen:(bC l).length=l.length:=by simp[ck]
 have hxl:=nQ l;have he:l.isEmpty=decide (l.length=0):=by cases l<;>simp
 rw[km,he];refine bc (α:=Nat) (fun i=>i≤l.length∧(l.take i).all (eL 0 false false)=true) (fun i=>[i_ i]) (fun _=>[]) (fun i=>l.length-i) 0 (by simp) (Wk.refl _ _ _ (by simp)) ?_;rintro i ⟨hk,hI⟩;refine zzf (n:=l.length) hlen fun _=>?_;refine zzC ?_;rcases uP i l.length with q|q
 ·obtain⟨x,hx⟩:∃s,l[i]?=some s:=⟨l[i],dO q⟩;have hin:aJ ((i:Int)+1):=by unfold aJ;omega
  have nxt:(l.take (i+1)).all (eL 0 false false)=eL 0 false false x:=by
   rw[By,hx,List.all_append,hI];simp
  have bad:eL 0 false false x=false→l.all (eL 0 false false)=false:=by
   intro hb;rw[List.all_eq_false];exact⟨x,gE hx,by simp[hb]⟩
  have hzs:zX x<2^60:=by have:=mN (gE hx);omega
  refine zzL (by simpa using q) (zzb (ck l) rfl hx (zzY (by simp[iL]) (bf rfl (oJ (by simp[iL]) (by kernel_rfl) (Ju x hzs 0 false false (by omega)) ?_))));repeat' (first|(with_reducible apply aq)|((with_reducible apply cg);rfl;rfl;first|assumption|(unfold aJ;omega))|((with_reducible apply dM);rfl)|((with_reducible apply jl);rfl)|((with_reducible apply ct);rfl)|(with_reducible intro _))
  all_goals first
   | exact .pure (by simp) (by rw[bad (by grind)];simp)
   | exact⟨i+1,⟨q,by rw[nxt];grind⟩,Wk.refl _ _ _ (by simp),by omega⟩
 ·have hk:i=l.length:=by omega
  subst hk;rw[BY]at hI;refine zzK (by simp) ?_;refine zzf (n:=l.length) hlen fun _=>?_;refine zzE (.pure (by simp) ?_);rw[hI];simp only[AV.v.injEq,Value.bool.injEq]
  grind
def RX(n:Nat):Prop:=∀l:List Cx,cD l<n→bn p_ 13 [.sl 3 (bC l)] (i_ (number l))
theorem Q0(hn:n<2^60)(hC:RX n):RX (n+1):=by
 intro l hz;refine (V13 _).bj (by simp[fG]) (by simp) ?_;unfold W2;have hl:=Bf l;have hlen:(bC l).length=l.length:=by simp[ck]
 refine zzf (n:=l.length) hlen fun _=>?_;refine bc (α:=Nat) (fun k=>k≤l.length) (fun k=>[i_ ((l.length+dN (l.take k):Nat):Int),i_ k]) (fun _=>[]) (fun k=>l.length-k) 0 (by simp) (by simpa[dN]using Wk.refl _ _ _ (by simp)) ?_;intro k hk;refine zzf (n:=l.length) hlen fun _=>?_;refine zzC ?_;rcases uP k l.length with q|q
 ·obtain⟨⟨le,ps,cs⟩,hx⟩:∃x,l[k]?=some x:=⟨l[k],dO q⟩;have hin:aJ ((k:Int)+1):=by unfold aJ;omega
  have hzx:=mN (gE hx);rw[zX]at hzx;have hnx:=Fw hx;rw[nX]at hnx;have hle:=ze l (k+1);have hpl:(du ps).length=ps.length:=by simp[dq]
  refine zzL (by simpa using q) (bc (α:=Nat) (fun i=>i≤ps.length) (fun i=>[i_ ((l.length+dN (l.take k)+fW (ps.take i):Nat):Int),i_ i]) (fun _=>[]) (fun i=>ps.length-i) 0 (by simp) (by simpa[fW]using Wk.refl _ _ _ (by simp)) ?_);intro i hi;refine zzb (ck l) rfl hx ?_;rw[fZ];refine zzX (zzW ?_);refine zzf (n:=ps.length) hpl fun _=>?_;refine zzC ?_;rcases uP i ps.length with q2|q2
  ·obtain⟨⟨t,ss⟩,hp⟩:∃x,ps[i]?=some x:=⟨ps[i],dO q2⟩;have hin2:aJ ((i:Int)+1):=by have:=rA ps;unfold aJ;omega
   have hzp:=pC (gE hp);rw[zP]at hzp;have hnp:=Ft hp;rw[nP]at hnp;have hle2:=zc ps (i+1);have hsl:(dT ss).length=ss.length:=by simp[dA]
   refine zzL (by simpa using q2) (zzb (ck l) rfl hx ?_);rw[fZ];refine zzX (zzW (zzb (dq ps) rfl hp ?_));rw[iv];refine zzX (zzW (bc (α:=Nat) (fun j=>j≤ss.length) (fun j=>[i_ ((l.length+dN (l.take k)+fW (ps.take i)+dW (ss.take j):Nat):Int),i_ j]) (fun _=>[]) (fun j=>ss.length-j) 0 (by simp) (by simpa[dW]using Wk.refl _ _ _ (by simp)) ?_));intro j hj;refine zzf (n:=ss.length) hsl fun _=>?_;refine zzC ?_;rcases uP j ss.length with q3|q3
   ·obtain⟨⟨kd,na,o,v,f,a,b,w,l2⟩,hs⟩:∃x,ss[j]?=some x:=⟨ss[j],dO q3⟩;have hin3:aJ ((j:Int)+1):=by have:=pD ss;unfold aJ;omega
    have hzs:=pE (gE hs);rw[zS]at hzs;have hns:=Fv hs;rw[nS]at hns;have hle3:=zd ss (j+1);have hin4:aJ (((l.length+dN (l.take k)+fW (ps.take i)+dW (ss.take j):Nat):Int)+(number l2:Int)):=by unfold number aJ;omega
    refine zzL (by simpa using q3) (zzb (dA ss) rfl hs ?_);rw[ft];refine zzX (zzW (uCon (hC l2 (by omega)) (zzP hin4 (zzP hin3 (aq ?_)))));refine⟨j+1,q3, ?_,by omega⟩;have e:((l.length+dN (l.take k)+fW (ps.take i)+dW (ss.take j):Nat):Int)+(number l2:Int)=((l.length+dN (l.take k)+fW (ps.take i)+dW (ss.take (j+1)):Nat):Int):=by rw[hns];unfold number;omega
    rw[e];exact Wk.refl _ _ _ (by simp)
   ·have hj:j=ss.length:=by omega
    subst hj;rw[BY];refine zzK (by simp) (zzP hin2 (aq ?_));refine⟨i+1,q2, ?_,by omega⟩;rw[hnp];simpa[Nat.add_assoc]using Wk.refl _ _ _ (by simp)
  ·have hi:i=ps.length:=by omega
   subst hi;rw[BY];refine zzK (by simp) (zzP hin (aq ?_));refine⟨k+1,q, ?_,by omega⟩;rw[hnx];simpa[Nat.add_assoc]using Wk.refl _ _ _ (by simp)
 ·have hk:k=l.length:=by omega
  subst hk;rw[BY];refine zzK (by simp) ?_;exact .pure (by simp) rfl
theorem Lu:∀n,n<2^60→RX n
 | 0,_=>fun l hz=>by omega
 | n+1,hn=>Q0 (by omega) (Lu n (by omega))
theorem Jg(l:List Cx)(hz:cD l<2^59):bn p_ 13 [.sl 3 (bC l)] (i_ (number l)):=
 Lu (cD l+1) (by omega) l (by omega)
theorem AN(l:List Cx)(hz:cD l<2^59):bn p_ 10 [.sl 3 (bC l)] (i_ (fD l)):=by
 refine (V10 _).bj (by simp[fG]) (by simp) ?_;unfold WZ;repeat' (first|((with_reducible apply fe);rfl;rfl)|((with_reducible apply dM);rfl)|((with_reducible apply jl);rfl)|(refine uCon (Ng l hz) ?_)|(refine uCon (Jg l hz) ?_)|((with_reducible apply ct);rfl)|(with_reducible intro _))
 all_goals refine .pure (by simp) ?_
 all_goals simp only[dU,gF,AV.v.injEq,Value.bool.injEq,Value.int.injEq,true_and,fD]at *
 all_goals grind
end
section
open Go Go.Aw Go.bG
variable{i:Nat}
def y8{α:Type}(a b:α):Bool:=@decide (a=b) (Classical.propDecidable _)
theorem qJ{α:Type}{a b:α}(h:a=b):y8 a b=true:=by unfold y8;simp[h]
theorem qI{α:Type}{a b:α}(h:¬a=b):y8 a b=false:=by unfold y8;simp[h]
def vU(cs:List Int):af:=cs.map fun c=>UInt8.ofNat c.toNat
theorem I6{x:AV}{h:aa}{K:AV→Prop}{cs:List Int}(e:x=.sl 1 (cs.map fun c=>[u1 c]))(q:K (.str (vU cs))):cJ x h K:=by
 subst e;have h2:∀cs:List Int,wG (cs.map fun c=>[u1 c]).flatten=some (vU cs):=by
  intro cs;induction cs with
  | nil=>rfl
  | cons c cs ih=>show (wG (cs.map fun c=>[u1 c]).flatten).map _=_;rw[ih];rfl
 unfold cJ;rw[fP,Option.bind_some,h2];exact q
theorem Gc:∀{a b:List Int},(∀c∈a,1≤c∧c≤4)→(∀c∈b,1≤c∧c≤4)→vU a=vU b→a=b
 | [],[],_,_,_=>rfl
 | [],_:: _,_,_,h=>by cases h
 | _:: _,[],_,_,h=>by cases h
 | x:: a,y:: b,ha,hb,h=>by
   unfold vU at h;rw[GO,GO]at h;obtain⟨h1,h2⟩:=List.cons.inj h;have hx:=ha x (aa9 ..);have hy:=hb y (aa9 ..);have e:x=y:=by
    rcases (by omega:x=1∨x=2∨x=3∨x=4) with rfl|rfl|rfl|rfl<;>rcases (by omega:y=1∨y=2∨y=3∨y=4) with rfl|rfl|rfl|rfl<;>first|rfl|exact absurd h1 (by decide)
   rw[e,Gc (fun c hc=>ha c (Lt _ hc)) (fun c hc=>hb c (Lt _ hc)) h2]
theorem xq{α:Type}{a b:List α}{x y:α}(h:a.take i=b.take i)(hx:a[i]?=some x)(hy:b[i]?=some y)(e:x=y):a.take (i+1)=b.take (i+1):=by
 rw[By,By,h,hx,hy,e]
theorem ES{α:Type}{a b:List α}(hl:a.length=b.length)(h:i<a.length):∃x y,a[i]?=some x∧b[i]?=some y:=⟨a[i],b[i],dO h,dO (by omega)⟩
theorem JM{α:Type}{a b:List α}{x y:α}(hx:a[i]?=some x)(hy:b[i]?=some y)(h:¬x=y):¬a=b:=fun e=>h (by rw[e,hy]at hx;exact (DO hx).symm)
def Kh(l:List Cx):Prop:=∃d has rel,dD d has rel l=true
def WY(l:List Sm):Prop:=∃d has,mV d has l=true
section
variable [Laid]
def O5(n:Nat):Prop:=∀a b:List Cx,cD a≤n→cD b<2^40→Kh a→Kh b→bn p_ 11 [.sl 3 (bC a),.sl 3 (bC b)] (b_ (y8 a b))
def R4(n:Nat):Prop:=∀a b:List Sm,gH a≤n+1→gH b<2^40→WY a→WY b→bn p_ 41 [.sl 9 (dT a),.sl 9 (dT b)] (b_ (y8 a b))
theorem Vb{n:Nat}(hn:n<2^40)(hX:O5 n):R4 n:=by
 intro a b ha hb ⟨da,ha',va⟩ ⟨db,hb',vb⟩;refine (V41 _ _).bj (by simp[xf]) (by simp) ?_;unfold Xy;have hla:(dT a).length=a.length:=by simp[dA]
 have hlb:(dT b).length=b.length:=by simp[dA]
 refine zzf hla fun _=>?_;refine zzf hlb fun _=>?_;refine zzH ?_
 by_cases hl:a.length=b.length
 ·refine zzK (by simp[hl]) (bc (α:=Nat) (fun i=>i≤a.length∧a.take i=b.take i) (fun i=>[i_ i]) (fun _=>[]) (fun i=>a.length-i) 0 (by simp) (Wk.refl _ _ _ (by simp)) ?_);rintro i ⟨hi,ht⟩;refine zzf hla fun _=>?_;refine zzC ?_;rcases uP i a.length with q|q
  ·obtain⟨x,y,hx,hy⟩:=ES hl q;have hzl:=pD a;have hzx:=pE (gE hx);have hzy:=pE (gE hy);have no:¬x=y→y8 a b=false:=fun h=>qI (JM hx hy h);have vx:=At.1 (by rw[←kN];exact va) x (gE hx);have vy:=At.1 (by rw[←kN];exact vb) y (gE hy);obtain⟨k,na,o,v,f,c,e,w,l⟩:=x;obtain⟨k',na',o',v',f',c',e',w',l'⟩:=y;rw[zS]at hzx hzy;rw[jz,NO]at vx vy;have vl:∀{d:Nat} {has:Bool} {k:Int} {w:Bool} {l:List Cx},(if gw k w then decide (d≠3)&&!(has&&decide (k=14))&&(nq k||!l.isEmpty)&&dD (d+1) (has||decide (k=14)) (decide (k=14)) l else l.isEmpty)=true→Kh l:=by
    intro d has k w l h
    by_cases z:gw k w=true
    ·rw[if_pos z,NO]at h;exact⟨_,_,_,h.2⟩
    ·rw[if_neg z]at h;rw[List.isEmpty_iff.1 h];exact⟨0,false,false,rfl⟩
   refine zzL (by simpa using q) (zzb (dA a) rfl hx ?_);rw[ft];refine zzY rfl (zzT (by kernel_rfl) (tG k na o v f c e w l) (zzb (dA b) rfl hy ?_));rw[ft];refine zzY rfl (zzT (by kernel_rfl) (tG k' na' o' v' f' c' e' w' l') ?_);refine xx (b:=decide (k=k')&&(decide (na=na')&&(decide (o=o')&&(decide (v=v')&&(decide (f=f')&&(decide (c=c')&&(decide (e=e')&&(decide (w=w')&&true)))))))) rfl rfl ?_ ?_
   ·have hb:∀b c:Bool,(b == c)=decide (b=c):=by decide
    simp[jg,EH,hb]
   obtain⟨t,hte⟩:∃t,(decide (k=k')&&(decide (na=na')&&(decide (o=o')&&(decide (v=v')&&(decide (f=f')&&(decide (c=c')&&(decide (e=e')&&(decide (w=w')&&true))))))))=t:=⟨_,rfl⟩;rw[hte];rw[if_pos rfl];cases t with
   | true =>
     have hall:=hte;simp only[NO,Of,and_true]at hall;obtain⟨rfl,rfl,rfl,rfl,rfl,rfl,rfl,rfl⟩:=hall;refine aH (zzN rfl (zzb (dA a) rfl hx ?_));rw[ft];refine zzX (zzW (zzb (dA b) rfl hy ?_));rw[ft];refine zzX (zzW (zzT (by kernel_rfl) (hX l l' (by omega) (by omega) (vl vx.2) (vl vy.2)) (zzO (zzQ ?_))))
     by_cases hll:l=l'
     ·rw[qJ hll];refine zzK rfl (zzP (by unfold aJ;omega) (aq ?_));exact⟨i+1,⟨q,xq ht hx hy (by rw[hll])⟩,Wk.refl _ _ _ (by simp),by omega⟩
     ·rw[qI hll];refine zzL rfl (.pure (by simp) ?_);rw[no (fun z=>hll (by injection z))]
   | false =>
     refine aH (zzM rfl (zzR (zzL rfl (.pure (by simp) ?_))));rw[no (fun z=>?_)];injection z with e1 e2 e3 e4 e5 e6 e7 e8 e9
     subst e1 e2 e3 e4 e5 e6 e7 e8;simp at hte
  ·have hk:i=a.length:=by omega
   subst hk;refine zzK (by simp) (.pure (by simp) ?_);rw[BY,hl,BY]at ht;rw[qJ ht]
 ·refine zzL (by simp[hl];omega) (.pure (by simp) ?_);rw[qI fun z=>hl (by rw[z])]
theorem KC{n:Nat}(hn:n<2^40)(hS:R4 n)(x y:Cx)(hx:zX x≤n+1)(hy:zX y<2^40){d d':Nat}{has has' rel rel':Bool}(vx:eL d has rel x=true)(vy:eL d' has' rel' y=true):
 bn p_ 25 [.agg (fZ x),.agg (fZ y)] (b_ (y8 x y)):=by
 obtain⟨l,a,cs⟩:=x;obtain⟨l',b,cs'⟩:=y;refine (V25 _ _).bj (by simp[ye]) (by simp) ?_;unfold Xi;rw[zX]at hx hy;rw[eL]at vx vy;simp only[NO,At,Of]at vx vy;rw[fZ,fZ];have hla:(du a).length=a.length:=by simp[dq]
 have hlb:(du b).length=b.length:=by simp[dq]
 refine bW (n:=0) (h':=[.ah ⟨39,[u1 l,.sl 2 (du a),.sl 1 (cs.map fun c=>[u1 c])],true⟩]) rfl (by simp[bQ]) rfl rfl ?_;obtain⟨H,hH⟩:∃H:aa,H=[.ah ⟨39,[u1 l,.sl 2 (du a),.sl 1 (cs.map fun c=>[u1 c])],true⟩,.ah ⟨39,[u1 l',.sl 2 (du b),.sl 1 (cs'.map fun c=>[u1 c])],true⟩]:=⟨_,rfl⟩;refine bW (n:=1) (h':=H) rfl (by simp[bQ]) rfl (by rw[hH];rfl) ?_;have h0:H[0]?=some (.ah ⟨39,[u1 l,.sl 2 (du a),.sl 1 (cs.map fun c=>[u1 c])],true⟩):=by rw[hH];rfl
 have h1:H[1]?=some (.ah ⟨39,[u1 l',.sl 2 (du b),.sl 1 (cs'.map fun c=>[u1 c])],true⟩):=by rw[hH];rfl
 clear hH;refine zzA (zzU h0 rfl (zzA (zzU h1 rfl (zzH ?_))));have no:¬(l=l'∧a=b∧cs=cs')→dK (b_ (y8 (Cx.mk l a cs) (Cx.mk l' b cs'))) ff H:=fun h=>.pure (by simp) (by rw[qI fun z=>h (by injection z with z1 z2 z3;exact⟨z1,z2,z3⟩)]);refine aH ?_
 by_cases hl:l=l'
 rotate_left
 ·refine zzM (by simp[hl]) (aq (xy rfl (tX rfl (by simp[hl]) (aH (zzM rfl (aq (zzR (zzL rfl ?_))))))));exact no fun z=>hl z.1
 refine zzN (by simp[hl]) (zzA (zzU h0 rfl ?_));refine zzf hla fun _=>?_;refine zzA (zzU h1 rfl ?_);refine zzf hlb fun _=>?_;refine zzH (aq (zzQ (aH ?_)))
 by_cases hn:a.length=b.length
 rotate_left
 ·refine zzM (by simp[hn];omega) (aq (xy rfl (tX rfl (by simp[hn]) (zzL rfl ?_))));exact no fun z=>hn (by rw[z.2.1])
 refine zzN (by simp[hn]) (zzA (zzU h0 rfl (I6 rfl (zzA (zzU h1 rfl (I6 rfl (zzJ (aq (zzQ ?_)))))))))
 by_cases hc:vU cs=vU cs'
 rotate_left
 ·refine zzL (by simp[hc]) ?_;exact no fun z=>hc (by rw[z.2.2])
 refine zzK (by simp[hc]) ?_;have hcs:=Gc vx.1.2 vy.1.2 hc;refine bc (α:=Nat) (fun i=>i≤a.length∧a.take i=b.take i) (fun i=>[i_ i]) (fun _=>H) (fun i=>a.length-i) 0 (by simp) (Wk.refl _ _ _ (by simp)) ?_;rintro i ⟨hi,ht⟩;refine zzA (zzU h0 rfl ?_);refine zzf hla fun _=>?_;refine zzC ?_;rcases uP i a.length with q|q
 ·obtain⟨x,y,hxi,hyi⟩:=ES hn q;have hzl:=rA a;have hzx:=pC (gE hxi);have hzy:=pC (gE hyi);have wx:=At.1 (by rw[←mf];exact vx.2) x (gE hxi);have wy:=At.1 (by rw[←mf];exact vy.2) y (gE hyi);have ne:=JM hxi hyi;have tm:=xq ht hxi hyi;obtain⟨t,ss⟩:=x;obtain⟨t',ss'⟩:=y;rw[zP]at hzx hzy;rw[cZ]at wx wy;simp only[NO]at wx wy;refine zzL (by simpa using q) (zzA (zzU h0 rfl (zzb (dq a) rfl hxi ?_)));rw[iv];refine zzX (zzW (zzA (zzU h1 rfl (zzb (dq b) rfl hyi ?_))));rw[iv];refine zzX (zzW (zzJ (aH ?_)))
  by_cases ht2:t=t'
  rotate_left
  ·refine zzM (by simp[ht2]) (BJ rfl (by simp[ht2]) (zzL rfl ?_));exact no fun z=>ne (fun z=>ht2 (by injection z)) z.2.1
  refine zzN (by simp[ht2]) (zzA (zzU h0 rfl (zzb (dq a) rfl hxi ?_)));rw[iv];refine zzX (zzW (zzA (zzU h1 rfl (zzb (dq b) rfl hyi ?_))));rw[iv];refine zzX (zzW (zzT (by kernel_rfl) (hS ss ss' (by omega) (by omega) ⟨_,_,wx.2⟩ ⟨_,_,wy.2⟩) (zzO (tX rfl (by simp[ht2]) ?_))))
  by_cases hss:ss=ss'
  ·rw[qJ hss];refine zzK rfl (zzP (by unfold aJ;omega) (aq ?_));exact⟨i+1,⟨q,tm (by rw[ht2,hss])⟩,Wk.refl _ _ _ (by simp),by omega⟩
  ·rw[qI hss];refine zzL rfl ?_;exact no fun z=>ne (fun z=>hss (by injection z)) z.2.1
 ·have hk:i=a.length:=by omega
  subst hk;refine zzK (by simp) ?_;rw[BY,hn,BY]at ht;refine .pure (by simp) ?_;rw[qJ (by rw[hl,ht,hcs])]
theorem Vc{n:Nat}(hn:n<2^40)(hS:R4 n):O5 (n+1):=by
 intro a b ha hb ⟨da,ha',ra,va⟩ ⟨db,hb',rb,vb⟩;refine (WT _ _).bj (by simp[fG]) (by simp) ?_;unfold Sj;have hla:(bC a).length=a.length:=by simp[ck]
 have hlb:(bC b).length=b.length:=by simp[ck]
 refine zzf hla fun _=>?_;refine zzf hlb fun _=>?_;refine zzH ?_
 by_cases hl:a.length=b.length
 ·refine zzK (by simp[hl]) (bc (α:=Nat) (fun i=>i≤a.length∧a.take i=b.take i) (fun i=>[i_ i]) (fun _=>[]) (fun i=>a.length-i) 0 (by simp) (Wk.refl _ _ _ (by simp)) ?_);rintro i ⟨hi,ht⟩;refine zzf hla fun _=>?_;refine zzC ?_;rcases uP i a.length with q|q
  ·obtain⟨x,y,hx,hy⟩:=ES hl q;have hzl:=nQ a;have hzx:=mN (gE hx);have hzy:=mN (gE hy);have vx:=At.1 (by rw[←km];exact va) x (gE hx);have vy:=At.1 (by rw[←km];exact vb) y (gE hy);refine zzL (by simpa using q) (zzb (ck a) rfl hx (zzY (by simp[iL]) (zzb (ck b) rfl hy (zzY (by simp[iL]) (zzT (by kernel_rfl) (KC hn hS x y (by omega) (by omega) vx vy) (zzO ?_))))))
   by_cases hxy:x=y
   ·rw[qJ hxy];refine zzK rfl (zzP (by unfold aJ;omega) (aq ?_));exact⟨i+1,⟨q,xq ht hx hy hxy⟩,Wk.refl _ _ _ (by simp),by omega⟩
   ·rw[qI hxy];refine zzL rfl ?_;exact .pure (by simp) (by rw[qI (JM hx hy hxy)])
  ·have hk:i=a.length:=by omega
   subst hk;refine zzK (by simp) ?_;rw[BY,hl,BY]at ht;exact .pure (by simp) (by rw[qJ ht])
 ·refine zzL (by simp[hl];omega) ?_;exact .pure (by simp) (by rw[qI fun z=>hl (by rw[z])])
theorem Wt:O5 0:=by
 intro a b ha hb va vb;have h0:a=[]:=by
  have:=nQ a;exact List.length_eq_zero_iff.1 (by omega)
 subst h0;refine (WT _ _).bj (by simp[fG,bC,cF]) (by simp) ?_;unfold Sj;have hlb:(bC b).length=b.length:=by simp[ck]
 refine zzf (n:=0) rfl fun _=>?_;refine zzf hlb fun _=>?_;refine zzH ?_
 by_cases hl:b=[]
 ·subst hl;refine zzK rfl (bc (α:=Unit) (fun _=>True) (fun _=>[i_ (0:Nat)]) (fun _=>[]) (fun _=>0) () trivial (Wk.refl _ _ _ (by simp)) ?_);rintro _ _;refine zzf (n:=0) rfl fun _=>?_;refine zzC (zzK (by simp) ?_);exact .pure (by simp) (by rw[qJ rfl])
 ·refine zzL ?_ ?_
  ·cases b with
   | nil=>exact absurd rfl hl
   | cons x b=>simp;omega
  ·exact .pure (by simp) (by rw[qI fun z=>hl z.symm])
theorem Ma:∀n,n<2^40→O5 n
 | 0,_=>Wt
 | n+1,h=>Vc (by omega) (Vb (by omega) (Ma n (by omega)))
theorem Ew{a b:List Cx}(ha:cD a<2^40)(hb:cD b<2^40)(va:Kh a)(vb:Kh b):bn p_ 11 [.sl 3 (bC a),.sl 3 (bC b)] (b_ (y8 a b)):=Ma _ ha a b (bY _) hb va vb
end
end
section
open Go Go.Aw
variable [Laid]
def W4(x0 x1:AV)(h:aa)(K:AV→aa→Prop):Prop:=
 iC p_ 6 [x0] h fun b2 p=>qJo b2 [x0,x1] p (fun b3=>iC p_ 6 [x1] p b3) fun b4 q=>qJo b4 [x0,x1] q (fun b5=>iC p_ 10 [x0] q fun b6 b7=>qBe .neq b6 0 fun b8=>b5 b8 b7) fun b9 r=>qJo b9 [x0,x1] r (fun c0=>iC p_ 10 [x1] r fun c1 c2=>qBe .neq c1 0 fun c3=>c0 c3 c2) fun c4 s=>ag c4 (iC p_ 7 [] s fun c5 c6=>K c5 c6) (iC p_ 9 [x0] s fun t c7=>aU 0 t fun a=>aU 1 t fun c8=>iC p_ 9 [x1] c7 fun u v=>aU 0 u fun l=>aU 1 u fun c9=>qBe .neq c8 0 fun d0=>qJo d0 [x0,x1,a,l] v (fun d1=>qBe .neq c9 0 fun d2=>d1 d2 v) fun d3 w=>qJo d3 [x0,x1,a,l] w (fun d4=>cR a fun d5=>cR l fun d6=>ae .add d5 d6 fun d7=>qBe .gtr d7 3900 fun d8=>d4 d8 w) fun d9 x=>ag d9 (iC p_ 7 [] x fun e0 e1=>K e0 e1) (ae .add (.str [32,10]) a fun e2=>ae .add e2 (.str [47,42,32,99,32,42,47,32]) fun e3=>iC p_ 8 [e3] x fun y e4=>aU 0 y fun e5=>aU 1 y fun e=>ae .add a (.str [9,44,10]) fun e6=>ae .add e6 l fun e7=>iC p_ 8 [e7] e4 fun z e8=>aU 0 z fun c=>aU 1 z fun b=>ou 39 0 3 (.agg [u8 0,qNs,qNs]) [] e8 fun e9 f0=>bP false 39 3 56 e9 x0 f0 fun f1 f2=>bP false 39 3 56 f1 x1 f2 fun d A=>qBe .eql e 0 fun f3=>qJa f3 [x0,x1,a,e,c,b,d] A (fun f4=>iC p_ 11 [e5,x0] A fun f5 f6=>cq f5 fun f7=>f4 f7 f6) fun B C=>aw (fun D=>ar B false (qBe .neq e 0 fun f8=>eC [x0,x1,a,e,c,b,d] (D [ff,f8] C)) (eC [x0,x1,a,e,c,b,d] (D [aN false B,un] C))) fun f E=>aw (fun F=>ar (nx f 1) true (qBe .neq e 4 fun f9=>eC [x0,x1,a,c,b,d,nx f 0] (F [tt,f9] E)) (eC [x0,x1,a,c,b,d,nx f 0] (F [(aN true (nx f 1)),un] E))) fun G H=>qJo (nx f 0) [x0,x1,a,c,b,d] H (fun g0=>aI (nx G 0) (nx G 1) ff fun g1=>g0 g1 H) fun I J=>aw (fun L=>ar I false (qBe .eql b 0 fun g2=>eC [x0,x1,a,c,b,d] (L [ff,g2] J)) (eC [x0,x1,a,c,b,d] (L [aN false I,un] J))) fun g M=>aw (fun N=>ar (nx g 1) true (iC p_ 11 [c,d] M fun g3 g4=>cq g3 fun g5=>eC [x0,x1,a,b,nx g 0] (N [tt,g5] g4)) (eC [x0,x1,a,b,nx g 0] (N [(aN true (nx g 1)),un] M))) fun O P=>qJo (nx g 0) [x0,x1,a,b] P (fun g6=>aI (nx O 0) (nx O 1) ff fun g7=>g6 g7 P) fun Q R=>aw (fun S=>ar Q false (qBe .neq b 0 fun g8=>eC [x0,x1,a,b] (S [ff,g8] R)) (eC [x0,x1,a,b] (S [aN false Q,un] R))) fun i T=>aw (fun U=>ar (nx i 1) true (qBe .neq b 4 fun g9=>eC [x0,x1,a,b,nx i 0] (U [tt,g9] T)) (eC [x0,x1,a,b,nx i 0] (U [(aN true (nx i 1)),un] T))) fun V W=>qJo (nx i 0) [x0,x1,a,b] W (fun i0=>aI (nx V 0) (nx V 1) ff fun i1=>i0 i1 W) fun i2 X=>ag i2 (K ff X) (iC p_ 12 [x0] X fun Y i3=>aU 0 Y fun Z=>aU 1 Y fun i4=>iC p_ 12 [x1] i3 fun a0 a1=>aU 0 a0 fun a2=>aU 1 a0 fun i5=>qBe .neq i4 0 fun i6=>qJo i6 [x0,a,b,Z,a2] a1 (fun i7=>qBe .neq i5 0 fun i8=>i7 i8 a1) fun i9 m=>ag i9 (K ff m) (qBe .eql b 0 fun j0=>qJa j0 [x0,a] m (fun j1=>ae .add Z a2 fun j2=>qBe .gtr j2 64 fun j3=>j1 j3 m) fun j4 n=>ag j4 (K ff n) (dH a (i_ 0) fun j5=>ae .geq j5 (u8 97) fun j6=>qJa j6 [x0,a] n (fun j7=>dH a (i_ 0) fun j8=>ae .leq j8 (u8 122) fun j9=>j7 j9 n) fun k0 j=>ag k0 (dH a (i_ 0) fun k1=>ae .sub k1 (u8 32) fun k2=>br 1 1 (u8 0) [(0,1,k2)] fun k3=>cJ k3 j fun k4=>eN a (some (i_ 1)) none fun k5=>ae .add k4 k5 fun k6=>iQ p_ 8 [k6] j fun a3=>aU 0 a3 fun o=>aU 1 a3 fun a4=>qBe .eql a4 4 fun a5=>aw (fun a6=>ar a5 false (qBe .eql a4 0 fun k7=>eC [x0,o] (a6 [ff,k7] j)) (eC [x0,o] (a6 [aN false a5,un] j))) fun k a7=>aw (fun a8=>ar (nx k 1) true (iC p_ 11 [o,x0] a7 fun k8 k9=>eC [nx k 0] (a8 [tt,k8] k9)) (eC [nx k 0] (a8 [(aN true (nx k 1)),un] a7))) fun a9 b0=>qKo (nx k 0) b0 (fun l0=>aI (nx a9 0) (nx a9 1) ff fun l1=>l0 l1 b0) fun l2 b1=>qKa l2 b1 (fun l3=>iC p_ 7 [] b1 l3) fun l4 l5=>K l4 l5) (iC p_ 7 [] j fun l6 l7=>K l6 l7))))))
theorem V4(x0 x1:AV):Body p_ 4 [x0,x1] (W4 x0 x1):=bB Tryz.func4 (sn (.seq (.seq (.aR (oR 0 3 (.aD 2 false (fR 3 2) [0,1] [22,24]::oR 5 2 (.aD 6 false (fR 7 3) [0,1] [26,29]::oR 10 2 (.aD 11 false (fR 12 3) [0,1] [31,34]::.op 15 false::[]))))) .nil) (sn (sn (.seq (.seq (.aR (oR 0 3 (.aD 2 false (fR 3 2) [0,1,5,7] [49,51]::oR 5 2 (.aD 6 false (fR 7 6) [0,1,5,7] [53,59]::.op 13 false::[])))) .nil) (sn (sn (sn (.seq (.seq (.aR (oR 0 3 (.aD 2 true (fR 3 4) [0,1,5,10,11,12,13] [84,88]::oR 7 2 (.aD 8 false (fR 9 3) [0,1,5,10,11,12,13] [90,93]::.aD 11 true (fR 12 2) [0,1,5,11,12,13,90] [93,95]::.aD 8 false [(14,false)] [0,1,5,11,12,13] [90,96]::oR 15 2 (.aD 16 false (fR 17 3) [0,1,5,11,12,13] [98,101]::.aD 19 true (fR 20 4) [0,1,5,12,98] [101,105]::.aD 16 false [(24,false)] [0,1,5,12] [98,106]::oR 25 2 (.aD 26 false (fR 27 3) [0,1,5,12] [108,111]::.aD 29 true (fR 30 2) [0,1,5,12,108] [111,113]::.aD 26 false [(32,false)] [0,1,5,12] [108,114]::.op 33 false::[])))))) .nil) (sn (sn (.seq (.seq (.aR (oR 0 3 (.aD 2 false (fR 3 2) [0,5,12,14,16] [128,130]::.op 5 false::[]))) .nil) (.seq (.seq (.aR (oR 0 3 (.aD 2 true (fR 3 4) [0,5] [134,138]::.op 7 false::[]))) .nil) (.seq (.seq (.aR (oR 0 4 (.aD 3 true (fR 4 3) [0,5] [143,146]::.op 7 false::[]))) (.two (.seq (.draw 14 (oR 0 3 (.op 3 true::oR 4 10 [])) [] []) (.seq (.aR (oR 0 3 (.aD 2 false (fR 3 3) [0,18] [162,165]::.aD 5 true (fR 6 3) [162] [165,168]::.aD 2 false [(9,false)] [] [162,169]::oR 10 2 (.aD 11 true [(12,false)] [] [171,172]::oR 13 2 [])))) .nil)) .nil)) .nil)))))))))))))) 175 [.tmp 4]
def W7(h:aa)(K:AV→aa→Prop):Prop:=
 iC p_ 15 [.str [65,46,120,62,98,32,44,32,58,73,83,40,112,44,44,113,32,114,41],.str [97,46,120,32,62,32,98,44,32,58,105,115,40,112,44,32,113,32,114,41]] h fun e a=>qKa e a (fun f=>iC p_ 15 [.str [91,72,114,101,102,94,61,120,32,105,93],.str [91,104,114,101,102,94,61,34,120,34,32,105,93]] a f) fun g b=>qKa g b (fun i=>iC p_ 15 [.str [58,78,84,72,45,67,72,73,76,68,40,49,41],.str [58,102,105,114,115,116,45,99,104,105,108,100]] b i) fun j c=>qKa j c (fun k=>iC p_ 16 [.str [97,58,104,97,115,40,98,58,104,97,115,40,99,41,41]] c k) fun l d=>qKa l d (fun m=>iC p_ 15 [.str [97,58,105,115,40,98,58,104,97,115,40,99,41,44,32,100,58,104,97,115,40,58,104,97,115,40,101,41,41,41],.str [97,58,105,115,40,98,58,104,97,115,40,99,41,41]] d m) fun n o=>K n o
theorem V7:Body p_ 7 [] (W7):=bB Tryz.func7 (sn (.seq (.aR (oR 0 2 (.aD 1 true [(2,false)] [] [2,3]::oR 3 2 (.aD 4 true [(5,false)] [] [5,6]::oR 6 2 (.aD 7 true [(8,false)] [] [8,9]::oR 9 2 (.aD 10 true [(11,false)] [] [11,12]::oR 12 2 [])))))) .nil)) 14 [.tmp 0]
def W5(x0 x1:AV)(h:aa)(K:AV→aa→Prop):Prop:=
 iC p_ 8 [x0] h fun a f=>aU 0 a fun g=>aU 1 a fun i=>iC p_ 9 [g] f fun b c=>aU 0 b fun d=>aU 1 b fun j=>qBe .eql i 0 fun k=>qJa k [x1,d] c (fun l=>qBe .eql j 0 fun m=>l m c) fun n e=>qKa n e (fun o=>ae .eql d x1 fun p=>o p e) fun q r=>K q r
theorem V15(x0 x1:AV):Body p_ 15 [x0,x1] (W5 x0 x1):=bB Tryz.func15 (sn (sn (sn (.seq (.aR (oR 0 3 (.aD 2 true (fR 3 2) [1,7] [21,23]::oR 5 2 (.aD 6 true (fR 7 3) [] [25,28]::oR 10 2 [])))) .nil)))) 30 [.tmp 4]
def Xa(x0:AV)(h:aa)(K:AV→aa→Prop):Prop:=
 iC p_ 8 [x0] h fun a b=>aU 0 a fun e=>aU 1 a fun c=>qBe .eql c 12 fun d=>K d b
theorem V16(x0:AV):Body p_ 16 [x0] (Xa x0):=bB Tryz.func16 .nil 12 [.tmp 2]
def W0(x0:AV)(h:aa)(K:AV→aa→Prop):Prop:=
 iC p_ 20 [x0] h fun a b=>qBe .neq a 0 fun c=>ag c (K (.aA [i_ 0,a]) b) (iC p_ 26 [x0] b fun d e=>K (.aA [d,i_ 0]) e)
theorem V12(x0:AV):Body p_ 12 [x0] (W0 x0):=bB Tryz.func12 .nil 12 [.tmp 2,.tmp 3]
def W9(x0:AV)(h:aa)(K:AV→aa→Prop):Prop:=
 iC p_ 20 [x0] h fun b c=>qBe .neq b 0 fun e=>ag e (K (.aA [.str [],b]) c) (aW 63 (.agg [.v (.pointer none),qNs]) c fun a f=>iC p_ 21 [a,x0] f fun o g=>bp 0 a fun i=>iC p_ 22 [i] g fun j d=>qBe .gtr j 4000 fun k=>ag k (K (.aA [.str [],i_ 28]) d) (bp 0 a fun l=>iC p_ 23 [l] d fun m n=>K (.aA [m,i_ 0]) n))
theorem V9(x0:AV):Body p_ 9 [x0] (W9 x0):=bB Tryz.func9 .nil 18 [.tmp 2,.tmp 3]
def Xf(x0 x1:AV)(h:aa)(K:AV→aa→Prop):Prop:=
 bu x1 fun c=>bL [i_ 0] h fun C b m =>
 ae .lss (nx b 0) c fun D=>ag D (aQ 3 x1 (nx b 0) fun E=>ak true 3 E m fun F=>aW 39 (.agg [u8 0,qNs,qNs]) m fun a G=>ao 3 a F G fun s=>aw (fun t=>qBe .gtr (nx b 0) 0 fun H=>ag H (qFd p_ x0 0 fun I=>iC p_ 36 [I,.str [44,32]] s fun c7 J=>eC [x0,a,x1,c,nx b 0] (t [] J)) (eC [x0,a,x1,c,nx b 0] (t [] s))) fun c8 L=>aY (.agg [.str [],.str [],.str [],.str [],.str []]) [(0,1,(.str [])),(1,1,(.str [32])),(2,1,(.str [32,62,32])),(3,1,(.str [32,43,32])),(4,1,(.str [32,126,32]))] fun M=>aW 89 (.agg [.str [],.str [],.str [],.str [],.str []]) L fun d N=>ao 5 d M N fun j=>aw (fun u=>iFL 0 false 1 a j fun O=>ae .gtr O (u8 1) fun P=>ag P (qFd p_ x0 0 fun Q=>iFL 0 false 1 a j fun R=>eR 5 1 d R fun S=>ak false 1 S j fun T=>eN T (some (i_ 1)) none fun U=>iC p_ 36 [Q,U] j fun c9 V=>eC [x0,a,d,x1,c,nx b 0] (u [] V)) (eC [x0,a,d,x1,c,nx b 0] (u [] j))) fun d0 v=>iFL 1 false 1 a v fun f=>bu f fun i=>bL [i_ 0] v fun W e n =>
 ae .lss (nx e 0) i fun X=>ag X (aQ 2 f (nx e 0) fun Y=>ak true 2 Y n fun Z=>aW 42 (.agg [.str [],qNs]) n fun g a0=>ao 2 g Z a0 fun k=>aw (fun w=>qBe .gtr (nx e 0) 0 fun a1=>ag a1 (qFd p_ x0 0 fun a2=>iFL 2 false 1 a k fun a3=>qBe .sub (nx e 0) 1 fun a4=>aQ 1 a3 a4 fun a5=>ak false 1 a5 k fun a6=>eR 5 1 d a6 fun a7=>ak false 1 a7 k fun a8=>iC p_ 36 [a2,a8] k fun d1 a9=>eC [x0,a,d,g,x1,c,nx b 0,f,i,nx e 0] (w [] a9)) (eC [x0,a,d,g,x1,c,nx b 0,f,i,nx e 0] (w [] k))) fun d2 l=>aw (fun o=>iFL 0 false 1 g l fun x=>ae .eql x (.str []) fun b0=>ag b0 (eC [x0,a,d,g,x1,c,nx b 0,f,i,nx e 0] (o [] l)) (ae .eql x (.str [42]) fun b1=>ag b1 (qFd p_ x0 0 fun b2=>iC p_ 37 [b2,u8 42] l fun d3 b3=>eC [x0,a,d,g,x1,c,nx b 0,f,i,nx e 0] (o [] b3)) (iFL 0 false 1 g l fun b4=>aY (.agg [u8 0,.str [],i_ 0,.str [],ff]) [(0,1,(u8 1)),(1,1,b4)] fun b5=>iC p_ 38 [x0,b5] l fun d4 b6=>eC [x0,a,d,g,x1,c,nx b 0,f,i,nx e 0] (o [] b6)))) fun d5 y=>iFL 1 false 1 g y fun p=>bu p fun z=>bL [i_ 0] y fun b7 q r =>
 ae .lss (nx q 0) z fun b8=>ag b8 (aQ 9 p (nx q 0) fun b9=>ak true 9 b9 r fun c0=>aW 46 (.agg [u8 0,.str [],u8 0,.str [],ff,i_ 0,i_ 0,ff,qNs]) r fun A c1=>ao 9 A c0 c1 fun B=>ak true 9 A B fun c2=>iC p_ 39 [x0,c2] B fun d6 c3=>qBe .add (nx q 0) 1 fun c4=>eC [x0,a,d,x1,c,nx b 0,f,i,nx e 0,p,z] (b7 [c4] c3)) (qBe .add (nx e 0) 1 fun c5=>eC [x0,a,d,x1,c,nx b 0,f,i] (W [c5] r))) (qBe .add (nx b 0) 1 fun c6=>eC [x0,x1,c] (C [c6] n))) (K (.aA []) m)
theorem V21(x0 x1:AV):Body p_ 21 [x0,x1] (Xf x0 x1):=bB Tryz.func21 (sn (.one (.loop [0,11,12] [13] (sn (sn (.seq (.one (sn (.join [0,5,11,12,13] [] .nil (sn (.join [0,5,6,11,12,13] [] (sn (.two (.draw 8 (oR 0 8 []) [.op 8 true] []) .nil)) (sn (.one (.loop [0,5,6,11,12,13,38,39] [40] (sn (sn (.seq (.one (sn (.join [0,5,6,8,11,12,13,38,39,40] [] (sn (.two (.draw 11 (oR 0 11 []) [.op 11 true] []) .nil)) (.join [0,5,6,8,11,12,13,38,39,40] [] .nil (sn (.one (.loop [0,5,6,11,12,13,38,39,40,75,76] [77] .nil))))))) .nil))))))))))) .nil)))))) 87 []
def Xw(x0 x1:AV)(h:aa)(K:AV→aa→Prop):Prop:=
 aW 46 x1 h fun a n=>iFL 1 false 1 a n fun v=>aY (.agg [u8 0,.str [],i_ 0,.str [],ff]) [(0,1,(u8 1)),(1,1,v)] fun w=>aW 70 (.agg [u8 0,.str [],i_ 0,.str [],ff]) n fun f x=>ao 5 f w x fun b=>iFL 0 false 1 a b fun g=>ae .eql g (u8 1) fun y=>ag y (iFL 1 false 1 a b fun z=>aY (.agg [u8 0,.str [],i_ 0,.str [],ff]) [(0,1,(u8 4)),(1,1,z),(4,1,tt)] fun A=>iC p_ 38 [x0,A] b fun d9 B=>K (.aA []) B) (ae .eql g (u8 2) fun C=>ag C (qFd p_ x0 0 fun D=>iC p_ 37 [D,u8 46] b fun e0 o=>ak true 5 f o fun E=>iC p_ 38 [x0,E] o fun e1 F=>K (.aA []) F) (ae .eql g (u8 3) fun G=>ag G (qFd p_ x0 0 fun H=>iC p_ 37 [H,u8 91] b fun e2 p=>ak true 5 f p fun I=>iC p_ 38 [x0,I] p fun e3 d=>aw (fun q=>iFL 2 false 1 a d fun J=>ae .neq J (u8 0) fun L=>ag L (qFd p_ x0 0 fun M=>aY (.agg [.str [],.str [],.str [],.str [],.str [],.str [],.str []]) [(0,1,(.str [])),(1,1,(.str [61])),(2,1,(.str [126,61])),(3,1,(.str [124,61])),(4,1,(.str [94,61])),(5,1,(.str [36,61])),(6,1,(.str [42,61]))] fun N=>iFL 2 false 1 a d fun O=>mI false 1 7 N O fun P=>iC p_ 36 [M,P] d fun e4 r=>iFL 3 false 1 a r fun Q=>aY (.agg [u8 0,.str [],i_ 0,.str [],ff]) [(0,1,(u8 5)),(1,1,Q)] fun R=>iC p_ 38 [x0,R] r fun e5 S=>eC [x0,a] (q [] S)) (eC [x0,a] (q [] d))) fun e6 i=>aw (fun s=>iFL 4 false 1 a i fun T=>ag T (qFd p_ x0 0 fun U=>iC p_ 36 [U,.str [32,105]] i fun e7 V=>eC [x0] (s [] V)) (eC [x0] (s [] i))) fun e8 W=>qFd p_ x0 0 fun X=>iC p_ 37 [X,u8 93] W fun e9 Y=>K (.aA []) Y) (iFL 7 false 1 a b fun Z=>cq Z fun a0=>qJa a0 [x0,a] b (fun a1=>iFL 5 true 2 a b fun a2=>aY (.agg [i_ 0,i_ 0]) [(1,1,(i_ 1))] fun a3=>lW false [1,1] a2 a3 fun a4=>a1 a4 b) fun a5 j=>qJa a5 [x0,a] j (fun a6=>iFL 0 false 1 a j fun a7=>ae .leq a7 (u8 10) fun a8=>a6 a8 j) fun a9 c=>ag a9 (qFd p_ x0 0 fun b0=>aY (.agg [.str [],.str []]) [(0,1,(.str [58,102,105,114,115,116,45,99,104,105,108,100])),(1,1,(.str [58,108,97,115,116,45,99,104,105,108,100]))] fun b1=>iFL 0 false 1 a c fun b2=>ae .sub b2 (u8 9) fun b3=>mI false 1 2 b1 b3 fun b4=>iC p_ 36 [b0,b4] c fun f0 b5=>K (.aA []) b5) (qFd p_ x0 0 fun b6=>iQ p_ 53 [] c fun b7=>iFL 0 false 1 a c fun b8=>ae .sub b8 (u8 4) fun b9=>aQ 1 b7 b9 fun c0=>ak false 1 c0 c fun c1=>ae .add (.str [58]) c1 fun c2=>iC p_ 36 [b6,c2] c fun f1 k=>iFL 0 false 1 a k fun c3=>ae .leq c3 (u8 8) fun c4=>ag c4 (K (.aA []) k) (qFd p_ x0 0 fun c5=>iC p_ 37 [c5,u8 40] k fun f2 e=>aw (fun l=>iFL 0 false 1 a e fun c6=>ae .leq c6 (u8 10) fun c7=>ag c7 (iFL 5 true 2 a e fun c8=>iC p_ 54 [c8] e fun t c9=>aU 0 t fun d0=>aU 1 t fun f3=>qFd p_ x0 0 fun d1=>iC p_ 36 [d1,d0] c9 fun f4 m=>iFL 7 false 1 a m fun d2=>ag d2 (qFd p_ x0 0 fun d3=>iC p_ 36 [d3,.str [32,111,102,32]] m fun f5 d4=>eC [x0,a] (l [] d4)) (eC [x0,a] (l [] m))) (eC [x0,a] (l [] e))) fun f6 u=>iFL 8 false 1 a u fun d5=>iC p_ 21 [x0,d5] u fun f7 d6=>qFd p_ x0 0 fun d7=>iC p_ 37 [d7,u8 41] d6 fun f8 d8=>K (.aA []) d8)))))
theorem V39(x0 x1:AV):Body p_ 39 [x0,x1] (Xw x0 x1):=bB Tryz.func39 (sn (sn (.seq (sn (.one (sn (.two .nil (sn (.two .nil (sn (.two (sn (sn (.join [0,3] [] (sn (.two (.seq (.draw 7 (oR 0 7 []) [.op 7 true] []) .nil) .nil)) (.join [0] [] .nil .nil)))) .nil)))))))) (.seq (.seq (.aR (oR 0 4 (.aD 3 true (fR 4 4) [0,3] [66,70]::oR 8 2 (.aD 9 true (fR 10 3) [0,3] [72,75]::.op 13 false::[])))) (.two (.seq (.draw 8 (oR 0 8 []) [.op 8 true] []) .nil) .nil)) (.seq (.draw 10 (oR 0 10 []) [.op 10 true] []) (sn (sn (.join [0,3] [] .nil .nil)))))))) 132 []
def Xv(x0 x1:AV)(h:aa)(K:AV→aa→Prop):Prop:=
 aW 70 x1 h fun c a=>ak true 5 c a fun d=>iC p_ 52 [d] a fun b e=>aU 0 b fun f=>aU 1 b fun j=>qFd p_ x0 0 fun g=>iC p_ 36 [g,f] e fun k i=>K (.aA []) i
theorem V38(x0 x1:AV):Body p_ 38 [x0,x1] (Xv x0 x1):=bB Tryz.func38 .nil 16 []
def Xt(x0 x1:AV)(h:aa)(K:AV→aa→Prop):Prop:=
 iC p_ 51 [x0] h fun g a=>qLd p_ x0 1 a fun b=>mH false 5 1 b x1 a fun c d=>qSt p_ x0 1 c d fun e=>cR x1 fun f=>K (.aA [f,(.v .nilIface)]) e
theorem V36(x0 x1:AV):Body p_ 36 [x0,x1] (Xt x0 x1):=bB Tryz.func36 .nil 19 [.tmp 4,.tmp 5]
def Xu(x0 x1:AV)(h:aa)(K:AV→aa→Prop):Prop:=
 iC p_ 51 [x0] h fun g a=>qLd p_ x0 1 a fun b=>br 1 1 (u8 0) [(0,1,x1)] fun c=>bP false 5 1 1 b c a fun d e=>qSt p_ x0 1 d e fun f=>K (.v .nilIface) f
theorem V37(x0 x1:AV):Body p_ 37 [x0,x1] (Xu x0 x1):=bB Tryz.func37 (sn (sn (.seq (.aR (oR 0 6 (.op 6 true::oR 7 4 []))) .nil))) 17 [.tmp 4]
def Xg(x0:AV)(h:aa)(K:AV→aa→Prop):Prop:=
 qLd p_ x0 1 h fun a=>bu a fun b=>K b h
theorem V22(x0:AV):Body p_ 22 [x0] (Xg x0):=bB Tryz.func22 .nil 8 [.tmp 2]
end
section
set_option maxHeartbeats 4000000
open Go Go.RowKit
theorem En:∃j,p_.info? 61=some j∧j.size=2:=
 Option.map_eq_some_iff.1 (show (p_.info? 61).map (·.size)=some 2 by kernel_rfl)
theorem P0(b o:Nat)(w:World)(h0:w.cell? ⟨b,o,none⟩=some (.pointer (some ⟨b,o,none⟩))):
 Calls p_ 51 #[.pointer (some ⟨b,o,none⟩)] w fun e w' => e=.returned (.tuple #[])∧w'=w:=by
 obtain⟨j,hj,_⟩:=En
 go_enter Tryz.func51,Tryz.ntmps51
 go_wp2
 rw[Lib.run_neq_ptr_same w _ Tryz.underlying59 hj]
 go_wp2
 go_end0
 exact⟨rfl,rfl⟩
theorem Nb(T:TypeId)(n b o:Nat)(w:World)(h0:w.cell? ⟨b,o,none⟩=some (.pointer none))(hsh:w.shape? b=some (T,n))(ho:o<n)(hl:liesAt p_ p_.depth T (n/p_.cellsOf T) o 61 1=true)(hfz:w.frozen? ⟨b,o,none⟩=false):
 Calls p_ 51 #[.pointer (some ⟨b,o,none⟩)] w fun e w' => e=.returned (.tuple #[])∧w'=w.setCell ⟨b,o,none⟩ (.pointer (some ⟨b,o,none⟩)):=by
 obtain⟨j,hj,hjs⟩:=En
 go_enter Tryz.func51,Tryz.ntmps51
 go_wp2
 rw[Lib.run_to_unsafe w ⟨b,o,none⟩ Tryz.underlying59 Tryz.underlying138 hj (by rw[hjs];decide) hsh ho];simp only[Result.andThen];rw[Oper.upon_value]
 go_wp2
 rw[run_callFunc_extern Tryz.func83 (by kernel_rfl) (by kernel_rfl) (by kernel_rfl) (e:=Extern.AbiNoEscape.same) (by kernel_rfl)];rw[Lib.run_noEscape];simp only[Result.andThen];rw[Oper.upon_value]
 go_wp2
 rw[Lib.run_from_unsafe w ⟨b,o,none⟩ Tryz.underlying138 Tryz.underlying59 hj hsh hl];simp only[Result.andThen];rw[Oper.upon_value]
 go_wp2
 go_end0
 exact⟨rfl,rfl⟩
theorem OI(b o g cap m:Nat)(l:List UInt8)(w:World)(h0:l≠[])(hc:w.cell? ⟨b,o+1,none⟩=some (.slice (some ⟨g,0,none⟩) l.length cap))(hcap:l.length≤cap)(hcm:cap≤maxLen)(hsh:w.shape? g=some (5,m))(hm:l.length≤m)
 (hcell:∀j x,l[j]?=some x→w.cell? ⟨g,j,none⟩=some (.int .u8 x.toNat)) :
 Calls p_ 23 #[.pointer (some ⟨b,o,none⟩)] w fun e w' => e=.returned (.string ⟨l.toArray⟩)∧w'=w.drew.freeze ⟨g,0,none⟩ l.length:=by
 have hl0:l.length≠0:=by simpa using h0
 have c1:w.drew.cell? ⟨b,o+1,none⟩=some (.slice (some ⟨g,0,none⟩) l.length cap):=hc;have hSD:(Builtin.unsafeSliceData_ #[35] 93 #[.slice (some ⟨g,0,none⟩) l.length cap]).run p_ w.drew=.ok (.pointer (some ⟨g,0,none⟩)) w.drew:=
  Lib.run_unsafeSliceData_row _ _ _ _ _ _ (by omega)
 have hUS:(Builtin.unsafeString_ #[93,3] 9 #[.pointer (some ⟨g,0,none⟩),.int .i64 l.length]).run p_ w.drew=.ok (.string ⟨l.toArray⟩) (w.drew.freeze ⟨g,0,none⟩ l.length):=by
  refine Lib.run_unsafeString_row w.drew 93 3 9 5 Tryz.underlying93 (by kernel_rfl) g m hsh l h0 hm (by unfold maxLen at hcm;omega) ?_;intro j x hx;have:=hcell j x hx;simp only[Addr.add];split
  ·rename_i q;subst q;exact this
  ·simpa using this
 go_enter Tryz.func23,Tryz.ntmps23
 go_wp2
 go_region
 all_goals (go_wp2;go_ret;exact⟨rfl,rfl⟩)
theorem GM(k:Nat):liesAt p_ p_.depth 63 (k+1) 0 61 1=true:=by kernel_rfl
end
end Go.Proofs.YtpcnidmmkknndaaGreatDoor
section
namespace Go.Aw
open Go Go.RowKit
variable [Laid]
omit [Laid] in
theorem tI(w:World)(g k b:Nat)(hb:b≠g):(w.freeze ⟨g,0,none⟩ k).heap[b]?=w.heap[b]?:=by
 unfold World.freeze;split
 ·rfl
 ·simp only[Array.getElem?_modify];rw[if_neg (Ne.symm hb)]
omit [Laid] in
theorem zk(w:World)(g k:Nat):(w.freeze ⟨g,0,none⟩ k).heap.size=w.heap.size:=by
 unfold World.freeze;split
 ·rfl
 ·simp
omit [Laid] in
theorem GB(w:World)(g k b o:Nat):(w.freeze ⟨g,0,none⟩ k).cell? ⟨b,o,none⟩=w.cell? ⟨b,o,none⟩:=by
 by_cases hb:b=g
 ·subst hb;unfold World.freeze;split
  ·rfl
  ·unfold World.cell?;simp only[Array.getElem?_modify,if_pos rfl];cases w.heap[b]? with
   | none=>rfl
   | some x=>cases x<;>rfl
 ·exact World.cell?_of_block (w:=w) (tI w g k b hb)
omit [Laid] in
theorem F0(w:World)(g k b:Nat):(w.freeze ⟨g,0,none⟩ k).shape? b=w.shape? b:=by
 by_cases hb:b=g
 ·subst hb;unfold World.freeze;split
  ·rfl
  ·unfold World.shape?;simp only[Array.getElem?_modify,if_pos rfl];cases w.heap[b]? with
   | none=>rfl
   | some x=>cases x<;>rfl
 ·unfold World.shape?;rw[tI w g k b hb]
theorem cL.frozen{base:Nat}{ι:List Ix}{S:ba}{w:World}{h:aa}(hh:cL base ι S w h){id e sz n g cap:Nat}(q:h[id]?=some (.tok e sz n))(hv:ι[id]?=some (.tok n (.slice (some ⟨g,0,none⟩) n cap)))(hc:cap≠0)(hg:base≤g)(k:Nat):
 bS ι.length base ι S w ι S (w.freeze ⟨g,0,none⟩ k)∧cL base ι S (w.freeze ⟨g,0,none⟩ k) (h.set id .dead):=by
 have hE:bS ι.length base ι S w ι S (w.freeze ⟨g,0,none⟩ k):=⟨fun _ _=>fX.refl _,fun _ _ h=>h,fun _ _ h=>.inl h,fun b o _=>GB w g k b o,fun b x hx=>by rw[F0];exact hx,Lib.below_freeze (Below.refl base w) (p:=⟨g,0,none⟩) hg k⟩;have hlt:id<h.length:=(eQ.1 q).1;have at':(h.set id aL.dead)[id]?=some .dead:=iD hlt;refine⟨hE,hh.vY hE (by simp[hh.len]) id (fun i hi ha=>?_) (fun y ey=>by rw[at']at ey;cases ey) (fun t s m ey=>by rw[at']at ey;cases ey) (fun en ey=>by rw[at']at ey;cases ey;trivial) (fun j c hj ai=>by rw[at']at ai;exact ai.elim) (fun b o s=>by rw[zk];exact hh.iM b o s) (by rw[zk];exact hh.kx)⟩;rw[iF (Ne.symm hi)]at ha ⊢;refine⟨rfl,rfl,fun c hc' _=>⟨tI w g k c fun z=>?_,fun _ z=>z⟩⟩;subst z;exact hi (hh.inj i id c ha (by rw[q];exact trivial) hc' (by rw[hv];exact⟨_,_,_,rfl,rfl,hc⟩))
end Go.Aw
namespace Go.Proofs.YtpcnidmmkknndaaGreatDoor
open Go Go.Aw Go.RowKit
variable [Laid]
theorem Ei{id o:Nat}{h:aa}{x:jH}(e:h[id]?=some (.ah x))(hc:x.cells[o]?=some (.op id o)):bV p_ 51 [.op id o] h fun r hh=>r=.aA []∧hh=h:=by
 intro base ι S w vs h1 h2
 match vs,h1 with
 | [],h1=>simp at h1
 | v:: u:: vs,h1=>simp at h1
 | [v],h1 =>
   simp only[bO,dp,and_true]at h1;rw[au]at h1;obtain⟨b,hb,rfl⟩:=h1;obtain⟨b',arr,fz,k1,k2,k3,k4,k5,k6,_⟩:=h2.live id x e;rw[hb]at k1;cases k1;obtain⟨u,hu,ru⟩:=k6 o _ hc;rw[au]at ru;obtain⟨b2,hb2,rfl⟩:=ru;rw[hb]at hb2;cases hb2;refine (P0 b o w (by rw[gb k3];exact hu)).mono ?_;rintro e w' ⟨rfl,rfl⟩;exact⟨_,ι,S,.aA [],h,rfl,bS.refl _ _ _ _ _,by rw[au];exact⟨[],rfl,by simp⟩,h2,bY _,rfl,rfl⟩
theorem CJ{id:Nat}{h:aa}{x:jH}(e:h[id]?=some (.ah x))(hw:x.wr=true)(ht:x.ty=63)(hc:x.cells[0]?=some (.v (.pointer none)))(hl:2≤x.cells.length):bV p_ 51 [.op id 0] h fun r hh=>r=.aA []∧hh=h.set id (.ah { x with cells:=x.cells.set 0 (.op id 0) }):=by
 intro base ι S w vs h1 h2
 match vs,h1 with
 | [],h1=>simp at h1
 | v:: u:: vs,h1=>simp at h1
 | [v],h1 =>
   simp only[bO,dp,and_true]at h1;rw[au]at h1;obtain⟨b,hb,rfl⟩:=h1;obtain⟨b',arr,fz,k1,k2,k3,k4,k5,k6,_⟩:=h2.live id x e;rw[hb]at k1;cases k1;obtain⟨u,hu,ru⟩:=k6 0 _ hc;rw[cz]at ru;subst ru;have hsh:w.shape? b=some (63,arr.size):=by unfold World.shape?;rw[k3,ht]
   have hcl:p_.cellsOf 63=2:=by kernel_rfl
   have hlies:liesAt p_ p_.depth 63 (arr.size/p_.cellsOf 63) 0 61 1=true:=by
    rw[hcl];obtain⟨k,hk⟩:∃k,arr.size/2=k+1:=⟨arr.size/2-1,by omega⟩;rw[hk];exact GM k
   refine (Nb 63 arr.size b 0 w (by rw[gb k3];exact hu) hsh (by omega) hlies (by rw[qc k3];have:=k4 0 (by omega);simp;omega)).mono ?_;rintro e' w' ⟨rfl,rfl⟩;obtain⟨hE,hH⟩:=h2.set e hw hb (o:=0) (by omega) (c:=.op id 0) (v:=.pointer (some ⟨b,0,none⟩)) (by rw[au];exact⟨b,hb,rfl⟩);exact⟨_,ι,S,.aA [],_,rfl,hE.mono (by rw[h2.len];exact bY _) (bY _),by rw[au];exact⟨[],rfl,by simp⟩,hH,by simp,rfl,rfl⟩
theorem I7{id o tid n:Nat}{h:aa}{x:jH}{rows:List (List AV)}{l:List UInt8}(e:h[id]?=some (.ah x))(hc:x.cells[o+1]?=some (.sb tid 1 rows))(ht:h[tid]?=some (.tok 5 1 n))(hn:n=rows.length)(hr:rows=l.map fun b=>[bg b])(h0:l≠[]):
 bV p_ 23 [.op id o] h fun r hh=>r=.str l∧hh=h.set tid .dead:=by
 intro base ι S w vs h1 h2
 match vs,h1 with
 | [],h1=>simp at h1
 | v:: u:: vs,h1=>simp at h1
 | [v],h1 =>
   simp only[bO,dp,and_true]at h1;rw[au]at h1;obtain⟨b,hb,rfl⟩:=h1;obtain⟨b',arr,fz,k1,k2,k3,k4,k5,k6,_⟩:=h2.live id x e;rw[hb]at k1;cases k1;obtain⟨u,hu,ru⟩:=k6 (o+1) _ hc;rw[au]at ru;obtain⟨⟨a,cap,rfl,hcap,hcm,hz⟩,n',v',t1,t2,t3⟩:=ru;have hlr:rows.length=l.length:=by rw[hr,aaC]
   have hrn:rows≠[]:=fun z=>h0 (List.length_eq_zero_iff.1 (by rw[←hlr,z];rfl));obtain⟨v2,s1,a2,cap2,ev2,c1,c2,c3⟩:=h2.tok tid _ _ _ ht;rw[t1]at s1;simp only[On,Ix.tok.injEq]at s1;obtain⟨rfl,rfl⟩:=s1;have hev:=t3 hn;rw[←hev]at ev2;simp only[Value.slice.injEq]at ev2;obtain⟨rfl,_,rfl⟩:=ev2;have hlp:0<l.length:=by rw[List.length_pos_iff];exact h0
   have hc0:cap≠0:=by omega
   rcases c3 with c3|⟨g,arr2,fz2,rfl,d1,d2,d3,d4,d5⟩
   ·exact absurd c3 hc0
   rcases hz with hz|⟨b3,off3,e3,hR⟩
   ·exact absurd hz hrn
   simp only[On,Addr.mk.injEq,and_true]at e3;obtain⟨rfl,rfl⟩:=e3;rw[hlr]at hu hev hcap;have hst:=OI b o g cap arr2.size l w h0 (by rw[gb k3];exact hu) hcap c2 (by unfold World.shape?;rw[d2]) (by omega) (fun j y hy=>by
    have hj:rows[j]?=some [bg y]:=by rw[hr,iN,hy];rfl
    obtain⟨_,hC⟩:=hR.get j _ hj;obtain⟨z,z1,_,z3⟩:=hC.get 0 (bg y) rfl;rw[bg,cz]at z3;subst z3;simpa using z1)
   refine hst.mono ?_;rintro e' w' ⟨rfl,rfl⟩;obtain⟨hE1,hH1⟩:=h2.drew;obtain⟨hE2,hH2⟩:=hH1.frozen (id:=tid) (g:=g) (cap:=cap) ht (by rw[t1,←hev,hn,hlr]) hc0 d1 l.length;exact⟨_,ι,S,.str l,_,rfl,(hE1.trans hE2).mono (by rw[h2.len];exact bY _) (bY _),by rw[au];exact⟨rfl,by omega⟩,hH2,by simp,rfl,rfl⟩
end Go.Proofs.YtpcnidmmkknndaaGreatDoor
end
namespace Go.Proofs.YtpcnidmmkknndaaGreatDoor
section
open Go Go.Aw Go.bG
def Bl(id:Nat)(h:aa)(t:af):Prop:=
 ∃x,h[id]?=some (.ah x)∧x.wr=true∧x.ty=63∧((x.cells=[.v (.pointer none),.v (.slice none 0 0)]∧t=[])∨∃tid,x.cells=[.op id 0,.sb tid 1 (eI t)]∧h[tid]?=some (.tok 5 1 t.length))
def Fr(id:Nat)(h h':aa):Prop:=h.length≤h'.length∧∀j,j<h.length→j≠id→(∀e s n,h[j]?≠some (.tok e s n))→h'[j]?=h[j]?
theorem Fr.refl(id:Nat)(h:aa):Fr id h h:=⟨bY _,fun _ _ _ _=>rfl⟩
theorem Fr.trans{id:Nat}{h h' h'':aa}(a:Fr id h h')(b:Fr id h' h''):Fr id h h'':=
 ⟨aaT a.1 b.1,fun j hj hne ht=>by
  have e:=a.2 j hj hne ht;rw[b.2 j (Up hj a.1) hne (by rw[e];exact ht),e]⟩
theorem Fr.ah{id:Nat}{h h':aa}(f:Fr id h h'){j:Nat}{x:jH}(hj:h[j]?=some (.ah x))(hne:j≠id):h'[j]?=some (.ah x):=by
 rw[f.2 j (iW hj) hne (by rw[hj];intro e s n q;cases q),hj]
theorem Fr.app(id:Nat)(h k:aa):Fr id h (h++k):=⟨by simp,fun j hj _ _=>gO hj⟩
theorem Fr.set{id:Nat}(h:aa)(e:aL):Fr id h (h.set id e):=⟨by simp,fun j _ hne _=>iF (Ne.symm hne)⟩
theorem Fr.tok{id:Nat}{h:aa}{tid:Nat}{e s n}(ht:h[tid]?=some (.tok e s n))(x:aL):Fr id h (h.set tid x):=⟨by simp,fun j _ _ hn=>iF fun q=>by subst q;exact hn _ _ _ ht⟩
theorem Bl.app{id:Nat}{h:aa}{t:af}(b:Bl id h t)(k:aa):Bl id (h++k) t:=by
 obtain⟨x,h1,h2,h3,h4⟩:=b;refine⟨x,by rw[gO (iW h1)];exact h1,h2,h3, ?_⟩;rcases h4 with h4|⟨tid,h4,h5⟩
 ·exact .inl h4
 ·exact .inr ⟨tid,h4,by rw[gO (iW h5)];exact h5⟩
theorem PQ{h:aa}{x:AV}{l:af}{K:AV→aa→Prop}(ex:x=.v (.slice none 0 0))(hl:l.length≤2^41)(q:K (.sb h.length 1 (eI l)) (h++[.tok 5 1 l.length])):mH false 5 1 x (.str l) h K:=by
 subst ex;unfold mH eE;exact⟨tY l,⟨by unfold maxLen;simp;omega,by simp;omega⟩,by simpa using q⟩
theorem Th{h:aa}{tid:Nat}{x:AV}{t l:af}{K:AV→aa→Prop}(ex:x=.sb tid 1 (eI t))(ht:h[tid]?=some (.tok 5 1 t.length))(hl:t.length+l.length≤2^41)(q:K (.sb tid 1 (eI (t++l))) (h.set tid (.tok 5 1 (t++l).length))):mH false 5 1 x (.str l) h K:=by
 subst ex;unfold mH eE;refine⟨tY l, ?_⟩;simp only[xb];rw[ht];refine⟨by simp,⟨by unfold maxLen;simp;omega,by simp;omega⟩, ?_⟩;simpa using q
variable [Laid]
theorem Ku{id:Nat}{h:aa}{t:af}(b:Bl id h t)(s:af)(hl:t.length+s.length≤2^41):
 bV p_ 36 [.op id 0,.str s] h fun _ h' => Bl id h' (t++s)∧Fr id h h':=by
 obtain⟨x,h1,h2,h3,h4⟩:=b;refine (V36 _ _).bI ?_;unfold Xt;have hid:=iW h1;rcases h4 with⟨h4,rfl⟩|⟨tid,h4,h5⟩
 ·refine eB (by kernel_rfl) rfl (CJ h1 h2 h3 (by rw[h4];rfl) (by rw[h4];decide)) ?_;rintro _ _ ⟨rfl,rfl⟩;refine enil (zzA ?_);have e1:(h.set id (.ah { x with cells:=x.cells.set 0 (.op id 0) }))[id]?=some (.ah ⟨63,[.op id 0,.v (.slice none 0 0)],true⟩):=by
   rw[iD hid,h4];obtain⟨ty,cells,wr⟩:=x;simp only at h2 h3;subst h2;subst h3;rfl
  generalize hH:h.set id (.ah { x with cells:=x.cells.set 0 (.op id 0) })=H at e1;have fH:Fr id h H:=by rw[←hH];exact Fr.set _ _
  refine zzU e1 rfl (PQ rfl (by simp at hl;omega) (enil (zzA ?_)));have hid2:=iW e1;refine dP (cs:=[.sb H.length 1 (eI s)]) rfl (by rw[gO hid2];exact e1) rfl rfl (by simp) rfl rfl ?_;refine zzZ fun _=>?_;refine⟨_,_,Wk.refl _ _ _ (by have:=fH.1;simp;omega),⟨⟨63,[.op id 0,.sb H.length 1 (eI s)],true⟩, ?_,rfl,rfl,.inr ⟨H.length,by simp, ?_⟩⟩, ?_⟩
  ·rw[iD (by simp;omega)];rfl
  ·rw[iF (by omega)];simp
  ·exact fH.trans ((Fr.app id H _).trans (Fr.set _ _))
 ·refine eB (by kernel_rfl) rfl (Ei h1 (by rw[h4];rfl)) ?_;rintro _ _ ⟨rfl,rfl⟩;refine enil (zzA (zzU (c:=.sb tid 1 (eI t)) h1 (by rw[h4];rfl) (Th rfl h5 hl (enil (zzA ?_)))));have hne:tid≠id:=fun q=>by subst q;rw[h1]at h5;cases h5
  have ht:=iW h5;refine dP (cs:=[.sb tid 1 (eI (t++s))]) rfl (by rw[iF hne];exact h1) h2 rfl (by rw[h4];simp) rfl rfl ?_;refine zzZ fun _=>?_;refine⟨_,_,Wk.refl _ _ _ (by simp),⟨⟨x.ty,[.op id 0,.sb tid 1 (eI (t++s))],x.wr⟩, ?_,h2,h3,.inr ⟨tid,rfl, ?_⟩⟩, ?_⟩
  ·rw[iD (by simp;omega),h4];rfl
  ·rw[iF (Ne.symm hne),iD ht]
  ·exact (Fr.tok h5 _).trans (Fr.set _ _)
end
end Go.Proofs.YtpcnidmmkknndaaGreatDoor
end
