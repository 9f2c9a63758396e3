/-
 How great a list is,by the reference.
 No conditions.
-/
import Derived.Test.YtpcnidmmkknndaaGreatDoorProg
import Derived.KernelRfl
import Derived.Test.YtpcnidmmkknndaaGreatDoorZi
import Derived.Test.YtpcnidmmkknndaaGreatDoorZc
set_option linter.unusedVariables false
set_option linter.unusedSimpArgs false
set_option linter.unusedSectionVars false
set_option linter.defProp false
set_option autoImplicit true
set_option maxRecDepth 1000000
set_option maxHeartbeats 16000000
open Go.Proofs.Tryz renaming prog→p_
noncomputable section
section
namespace Go.bo
open Go Go.Aw
mutual
def lN(lim n:Nat):List Cx→Nat
 | []=>n
 | x:: l=>if n≤lim then lN lim (Dn lim n x) l else n
def Dn(lim n:Nat):Cx→Nat
 | .mk _ ps cs=>qq lim (n+(1+cs.length)) ps
def qq(lim n:Nat):List Cp→Nat
 | []=>n
 | p:: l=>if n≤lim then qq lim (Dl lim n p) l else n
def Dl(lim n:Nat):Cp→Nat
 | .mk t ss=>qu lim (n+(1+t.length)) ss
def qu(lim n:Nat):List Sm→Nat
 | []=>n
 | s:: l=>if n≤lim then qu lim (Dm lim n s) l else n
def Dm(lim n:Nat):Sm→Nat
 | .mk _ na _ v _ _ _ _ l=>n+(1+na.length+v.length+lN (lim-n) 0 l)
end
mutual
theorem Cn(lim n:Nat):∀l,lN lim n l≤n+cQ l∧(lN lim n l≤lim→lN lim n l=n+cQ l)∧n≤lN lim n l
 | []=>by rw[lN,cQ];omega
 | x:: l=>by
   have h1:=Vi lim n x;have h2:=Cn lim (Dn lim n x) l;rw[lN,cQ];split<;>omega
theorem Vi(lim n:Nat):∀x,Dn lim n x≤n+zX x∧(Dn lim n x≤lim→Dn lim n x=n+zX x)∧n≤Dn lim n x
 | .mk _ ps cs=>by
   have:=It lim (n+(1+cs.length)) ps;rw[Dn,zX];omega
theorem It(lim n:Nat):∀l,qq lim n l≤n+gh l∧(qq lim n l≤lim→qq lim n l=n+gh l)∧n≤qq lim n l
 | []=>by rw[qq,gh];omega
 | x:: l=>by
   have h1:=Vg lim n x;have h2:=It lim (Dl lim n x) l;rw[qq,gh];split<;>omega
theorem Vg(lim n:Nat):∀x,Dl lim n x≤n+zP x∧(Dl lim n x≤lim→Dl lim n x=n+zP x)∧n≤Dl lim n x
 | .mk t ss=>by
   have:=Iu lim (n+(1+t.length)) ss;rw[Dl,zP];omega
theorem Iu(lim n:Nat):∀l,qu lim n l≤n+gL l∧(qu lim n l≤lim→qu lim n l=n+gL l)∧n≤qu lim n l
 | []=>by rw[qu,gL];omega
 | x:: l=>by
   have h1:=Vh lim n x;have h2:=Iu lim (Dm lim n x) l;rw[qu,gL];split<;>omega
theorem Vh(lim n:Nat):∀x,Dm lim n x≤n+zS x∧(Dm lim n x≤lim→Dm lim n x=n+zS x)∧n≤Dm lim n x
 | .mk _ na _ v _ _ _ _ l=>by
   have:=Cn (lim-n) 0 l;rw[Dm,zS];omega
end
def drop_cons{α:Type}{l:List α}{k:Nat}{x:α}(h:l[k]?=some x):l.drop k=x:: l.drop (k+1):=by
 obtain⟨hk,rfl⟩:=eQ.1 h;exact abo hk
end Go.bo
namespace Go.Proofs.YtpcnidmmkknndaaGreatDoor
open Go Go.Aw Go.bo
def PM{K:AV→Prop}(e:x=.str l)(q:K (i_ l.length)):lq x K:=by subst e;exact q
variable [Laid]
def Ta(m:Nat):Prop:=∀l:List Cx,cQ l<m→∀lim:Nat,lim<2^60→bn p_ 14 [.sl 3 (bL l),i_ lim] (i_ (lN lim 0 l))
def RP{m:Nat}(hm:m<2^60)(hC:Ta m):Ta (m+1):=by
 intro l hz lim hlim;refine (V14 _ _).bj (by simp[gH]) (by simp) ?_;unfold Xn;have hlen:(bL l).length=l.length:=by simp[cu]
 have hxl:=rF l;refine aZ (α:=Nat×Nat) (fun p=>p.2≤l.length∧lN lim p.1 (l.drop p.2)=lN lim 0 l∧p.1+cQ (l.drop p.2)≤cQ l) (fun p=>[i_ p.1,i_ p.2]) (fun _=>[]) (fun p=>l.length-p.2) (0,0) (by simp) (Wk.refl _ _ _ (by simp)) ?_;rintro⟨n,k⟩ ⟨hk,hI,hB⟩;simp only[eC,qJo,qJa,qKo,qKa]at hk hI hB ⊢;rcases uP k l.length with q|q
 ·obtain⟨⟨le,ps,cs⟩,hx⟩:∃x,l[k]?=some x:=⟨l[k],dO q⟩;have hd:=drop_cons hx;have q':decide ((k:Int)<((bL l).length:Int))=true:=by rw[hlen];simpa using q
  rw[hd,lN]at hI;rw[hd,cQ,zX]at hB
  by_cases c:n≤lim
  ·have c':decide ((n:Int)≤(lim:Int))=true:=by simpa using c
   rw[if_pos c,Dn]at hI;have h1:aJ (1+((cs.map fun c=>[u1 c]).length:Int)):=by rw[aaQ];unfold aJ;omega
   have h2:aJ ((n:Int)+(1+((cs.map fun c=>[u1 c]).length:Int))):=by rw[aaQ];unfold aJ;omega
   have h3:aJ ((k:Int)+1):=by unfold aJ;omega
   repeat' (first|(with_reducible first|apply aF|refine And.intro True.intro ?_)|((with_reducible first|apply cH|apply gZ);rfl;rfl)|((with_reducible apply cm);rfl;rfl;first|assumption|(unfold aJ;omega))|((with_reducible apply aL);rfl)|((with_reducible apply au);rfl;first|rfl|assumption)|((with_reducible apply bw);rfl;first|rfl|assumption)|((with_reducible apply fh);rfl)|((with_reducible apply de);rfl)|((with_reducible apply cU);rfl;(first|rfl|simp);intro _)|(refine zzb (cu l) rfl hx ?_))
   have hpl:(dn ps).length=ps.length:=by simp[dv]
   have hpl2:=rC ps;refine aZ (α:=Nat×Nat) (fun p=>p.2≤ps.length∧qq lim p.1 (ps.drop p.2)=qq lim (n+(1+cs.length)) ps∧p.1+gh (ps.drop p.2)≤n+(1+cs.length)+gh ps) (fun p=>[i_ p.1,i_ p.2]) (fun _=>[]) (fun p=>ps.length-p.2) (n+(1+cs.length),0) (by simp) (by simpa using Wk.refl _ _ _ (by simp)) ?_;rintro⟨n2,k2⟩ ⟨hk2,hI2,hB2⟩;simp only[eC,qJo,qJa,qKo,qKa]at hk2 hI2 hB2 ⊢;rcases uP k2 ps.length with q2|q2
   ·obtain⟨⟨t,ss⟩,hx2⟩:∃x,ps[k2]?=some x:=⟨ps[k2],dO q2⟩;have hd2:=drop_cons hx2;have q2':decide ((k2:Int)<((dn ps).length:Int))=true:=by rw[hpl];simpa using q2
    rw[hd2,qq]at hI2;rw[hd2,gh,zP]at hB2
    by_cases c2:n2≤lim
    ·have c2':decide ((n2:Int)≤(lim:Int))=true:=by simpa using c2
     rw[if_pos c2,Dl]at hI2;have h4:aJ (1+(t.length:Int)):=by unfold aJ;omega
     have h5:aJ ((n2:Int)+(1+(t.length:Int))):=by unfold aJ;omega
     have h6:aJ ((k2:Int)+1):=by unfold aJ;omega
     repeat' (first|(with_reducible first|apply aF|refine And.intro True.intro ?_)|((with_reducible first|apply cH|apply gZ);rfl;rfl)|((with_reducible apply cm);rfl;rfl;first|assumption|(unfold aJ;omega))|((with_reducible apply aL);rfl)|((with_reducible apply au);rfl;first|rfl|assumption)|((with_reducible apply bw);rfl;first|rfl|assumption)|((with_reducible apply fh);rfl)|((with_reducible apply de);rfl)|((with_reducible apply nn);rfl;intro _)|((with_reducible apply cU);rfl;(first|rfl|simp);intro _)|(refine zzb (cu l) rfl hx ?_)|(refine zzb (dv ps) rfl hx2 ?_))
     have hsl:(dQ ss).length=ss.length:=by simp[dE]
     have hsl2:=pz ss;refine aZ (α:=Nat×Nat) (fun p=>p.2≤ss.length∧qu lim p.1 (ss.drop p.2)=qu lim (n2+(1+t.length)) ss∧p.1+gL (ss.drop p.2)≤n2+(1+t.length)+gL ss) (fun p=>[i_ p.1,i_ p.2]) (fun _=>[]) (fun p=>ss.length-p.2) (n2+(1+t.length),0) (by simp) (by simpa using Wk.refl _ _ _ (by simp)) ?_;rintro⟨n3,k3⟩ ⟨hk3,hI3,hB3⟩;simp only[eC,qJo,qJa,qKo,qKa]at hk3 hI3 hB3 ⊢;rcases uP k3 ss.length with q3|q3
     ·obtain⟨⟨kd,na,o,v,f,a,b,w,l2⟩,hx3⟩:∃x,ss[k3]?=some x:=⟨ss[k3],dO q3⟩;have hd3:=drop_cons hx3;have q3':decide ((k3:Int)<((dQ ss).length:Int))=true:=by rw[hsl];simpa using q3
      rw[hd3,qu]at hI3;rw[hd3,gL,zS]at hB3
      by_cases c3:n3≤lim
      ·have c3':decide ((n3:Int)≤(lim:Int))=true:=by simpa using c3
       rw[if_pos c3,Dm]at hI3;have hle:=Cn (lim-n3) 0 l2;have h7:aJ (1+(na.length:Int)):=by unfold aJ;omega
       have h8:aJ (1+(na.length:Int)+(v.length:Int)):=by unfold aJ;omega
       have h9:aJ ((lim:Int)-(n3:Int)):=by unfold aJ;omega
       have h10:aJ (1+(na.length:Int)+(v.length:Int)+((lN (lim-n3) 0 l2:Nat):Int)):=by unfold aJ;omega
       have h11:aJ ((n3:Int)+(1+(na.length:Int)+(v.length:Int)+((lN (lim-n3) 0 l2:Nat):Int))):=by unfold aJ;omega
       have h12:aJ ((k3:Int)+1):=by unfold aJ;omega
       have hs:i_ ((lim:Int)-(n3:Int))=i_ ((lim-n3:Nat):Int):=by rw[show ((lim:Int)-(n3:Int))=((lim-n3:Nat):Int) by omega]
       have hcon:=hC l2 (by omega) (lim-n3) (by omega);repeat' (first|(with_reducible first|apply aF|refine And.intro True.intro ?_)|((with_reducible first|apply cH|apply gZ);rfl;rfl)|((with_reducible apply cm);rfl;rfl;first|assumption|(unfold aJ;omega))|((with_reducible apply nY);rfl;rfl;first|assumption|(unfold aJ;omega))|((with_reducible apply aL);rfl)|((with_reducible apply au);rfl;first|rfl|assumption)|((with_reducible apply bw);rfl;first|rfl|assumption)|((with_reducible apply fh);rfl)|((with_reducible apply de);rfl)|((with_reducible apply cU);rfl;(first|rfl|simp);intro _)|(refine zzb (dE ss) rfl hx3 ?_)|((with_reducible apply PM);rfl)|(refine qi (by rw[hs]) (by kernel_rfl) hcon ?_))
       refine⟨(n3+(1+na.length+v.length+lN (lim-n3) 0 l2),k3+1),⟨by simp;omega,hI3,by simp;omega⟩,by simpa using Wk.refl _ _ _ (by simp),by simp;omega⟩
      ·have c3':decide ((n3:Int)≤(lim:Int))=false:=by simpa using c3
       rw[if_neg c3]at hI3;have h6:aJ ((k2:Int)+1):=by unfold aJ;omega
       repeat' (first|(with_reducible first|apply aF|refine And.intro True.intro ?_)|((with_reducible first|apply cH|apply gZ);rfl;rfl)|((with_reducible apply cm);rfl;rfl;first|assumption|(unfold aJ;omega))|((with_reducible apply aL);rfl)|((with_reducible apply aw);rfl;first|rfl|assumption)|((with_reducible apply bw);rfl;first|rfl|assumption)|((with_reducible apply cU);rfl;(first|rfl|simp);intro _))
       refine⟨(n3,k2+1),⟨by simp;omega,by simp only;rw[hI3];exact hI2,by simp;omega⟩,by simpa using Wk.refl _ _ _ (by simp),by simp;omega⟩
     ·have hk:k3=ss.length:=by omega
      subst hk;have q3':decide ((ss.length:Int)<((dQ ss).length:Int))=false:=by rw[hsl];simp
      rw[List.drop_length,qu]at hI3;rw[List.drop_length,gL]at hB3;repeat' (first|(with_reducible first|apply aF|refine And.intro True.intro ?_)|((with_reducible apply cH);rfl;rfl)|((with_reducible apply cm);rfl;rfl;first|assumption|(unfold aJ;omega))|((with_reducible apply aQ);rfl)|((with_reducible apply aw);rfl;first|rfl|assumption)|((with_reducible apply bz);rfl;first|rfl|assumption)|((with_reducible apply cU);rfl;(first|rfl|simp);intro _))
      refine⟨(n3,k2+1),⟨by simp;omega,by simp only;rw[hI3];exact hI2,by simp;omega⟩,by simpa using Wk.refl _ _ _ (by simp),by simp;omega⟩
    ·have c2':decide ((n2:Int)≤(lim:Int))=false:=by simpa using c2
     rw[if_neg c2]at hI2;repeat' (first|(with_reducible first|apply aF|refine And.intro True.intro ?_)|((with_reducible first|apply cH|apply gZ);rfl;rfl)|((with_reducible apply cm);rfl;rfl;first|assumption|(unfold aJ;omega))|((with_reducible apply aL);rfl)|((with_reducible apply aw);rfl;first|rfl|assumption)|((with_reducible apply bw);rfl;first|rfl|assumption)|((with_reducible apply fh);rfl)|((with_reducible apply de);rfl)|((with_reducible apply cU);rfl;(first|rfl|simp);intro _)|(refine zzb (cu l) rfl hx ?_))
     refine⟨(n2,k+1),⟨by simp;omega,by simp only;rw[hI2];exact hI,by simp;omega⟩,by simpa using Wk.refl _ _ _ (by simp),by simp;omega⟩
   ·have hk:k2=ps.length:=by omega
    subst hk;have q2':decide ((ps.length:Int)<((dn ps).length:Int))=false:=by rw[hpl];simp
    rw[List.drop_length,qq]at hI2;rw[List.drop_length,gh]at hB2;repeat' (first|(with_reducible first|apply aF|refine And.intro True.intro ?_)|((with_reducible apply cH);rfl;rfl)|((with_reducible apply cm);rfl;rfl;first|assumption|(unfold aJ;omega))|((with_reducible apply aQ);rfl)|((with_reducible apply aw);rfl;first|rfl|assumption)|((with_reducible apply bz);rfl;first|rfl|assumption)|((with_reducible apply fh);rfl)|((with_reducible apply de);rfl)|((with_reducible apply cU);rfl;(first|rfl|simp);intro _)|(refine zzb (cu l) rfl hx ?_))
    refine⟨(n2,k+1),⟨by simp;omega,by simp only;rw[hI2];exact hI,by simp;omega⟩,by simpa using Wk.refl _ _ _ (by simp),by simp;omega⟩
  ·have c':decide ((n:Int)≤(lim:Int))=false:=by simpa using c
   rw[if_neg c]at hI;repeat' (first|(with_reducible first|apply aF|refine And.intro True.intro ?_)|((with_reducible first|apply cH|apply gZ);rfl;rfl)|((with_reducible apply aL);rfl)|((with_reducible apply aw);rfl;first|rfl|assumption)|((with_reducible apply bw);rfl;first|rfl|assumption)|((with_reducible apply cU);rfl;(first|rfl|simp);intro _))
   exact .pure (by simp) (by rw[eg,hI])
 ·have hk:k=l.length:=by omega
  subst hk;have q':decide ((l.length:Int)<((bL l).length:Int))=false:=by rw[hlen];simp
  rw[List.drop_length,lN]at hI;repeat' (first|(with_reducible first|apply aF|refine And.intro True.intro ?_)|((with_reducible apply cH);rfl;rfl)|((with_reducible apply aQ);rfl)|((with_reducible apply aw);rfl;first|rfl|assumption)|((with_reducible apply bz);rfl;first|rfl|assumption)|((with_reducible apply cU);rfl;(first|rfl|simp);intro _))
  exact .pure (by simp) (by rw[eg,hI])
theorem Mx:∀n,n<2^60→Ta n
 | 0,_=>fun l hz=>by omega
 | n+1,hn=>RP (by omega) (Mx n (by omega))
def Nj(l:List Cx)(hz:cQ l<2^59):bn p_ 14 [.sl 3 (bL l),i_ 600] (i_ (lN 600 0 l)):=
 Mx (cQ l+1) (by omega) l (by omega) 600 (by omega)
def Km(l:List Cx)(hz:cQ l<2^59):bn p_ 6 [.sl 3 (bL l)] (b_ (decide (600<lN 600 0 l))):=by
 refine (V6 _).bj (by simp[gH]) (by simp) ?_;unfold W6;repeat' (first|((with_reducible apply fc);rfl;rfl)|(refine uCon (Nj l hz) ?_))
 refine .pure (by simp) ?_;simp only[AV.v.injEq,Value.bool.injEq];exact decide_eq_decide.2 (by omega)
end Go.Proofs.YtpcnidmmkknndaaGreatDoor
end
namespace Go.Proofs.YtpcnidmmkknndaaGreatDoor
section
open Go Go.Aw Go.bo
variable [bp]
end
section
open Go Go.Aw Go.bo
def Un(h:s≠[]):1≤(fD s).length:=by
 obtain⟨n,hn⟩:∃n,s.length=n+1:=by
  cases s with
  | nil=>exact absurd rfl h
  | cons a r=>exact⟨r.length,rfl⟩
 unfold fD;rw[hn,vz,AT];have:1≤(jL s (kF s) n (s.getD n 0)).length:=by
  unfold jL cC;split
  ·simp
  ·split<;>simp
 omega
theorem CW(sep:Nat→ae)(a:ae)(r:List ae):∀k,0<k→a.length≤(fj sep (a:: r) k).length
 | 0,h=>absurd h (by omega)
 | k+1,_=>by
   rw[qO,AT]
   by_cases e:k=0
   ·subst e;simp only[List.getD_cons_zero,AT];omega
   ·have:=CW sep a r k (by omega);omega
def CX(sep:Nat→ae)(a:ae)(r:List ae):a.length≤(gm sep (a:: r)).length:=CW sep a r _ (by simp)
def Vp{has:Bool}(ok:ic d has s=true):1≤(jD s).length:=by
 obtain⟨k,na,o,v,f,a,b,w,l⟩:=s;rw[ic,NO]at ok;obtain⟨ok,_⟩:=ok;rw[jD]
 by_cases h1:k=1
 ·rw[if_pos h1];simp
 rw[if_neg h1]
 by_cases h2:k=2
 ·rw[if_pos h2];simp
 rw[if_neg h2]
 by_cases h3:k=3
 ·rw[if_pos h3];simp[sR]
 rw[if_neg h3];rw[jq,if_neg (by omega),if_neg h3]at ok;simp only[NO,Of]at ok;have hk:=ok.1.2;have hkd:∀j:Nat,j≤10→1≤(wz.getD j []).length:=fun j hj=>by
  match j,hj with
  | 0,_|1,_|2,_|3,_|4,_|5,_|6,_|7,_|8,_|9,_|10,_=>decide
 have hfc:∀j:Nat,j≤1→1≤(CQ.getD j []).length:=fun j hj=>by
  match j,hj with
  | 0,_|1,_=>decide
 split
 ·rename_i hf;simp only[kq,NO,eO,abl,Of]at hf;exact hfc _ (by omega)
 ·have:=hkd (k-4).toNat (by omega);split
  ·exact this
  ·simp only[AT];omega
def Vo{has:Bool}(ok:cN d has p=true):1≤(sA p).length:=by
 obtain⟨t,ss⟩:=p;rw[cN]at ok;simp only[NO,abm,Bool.and_eq_false_iff,decide_eq_false_iff_not]at ok;rw[sA,AT]
 by_cases ht:t=[]
 ·rcases ok.1.2 with h|h
  ·exact absurd ht h
  ·cases ss with
   | nil=>simp at h
   | cons s r =>
     have:=ok.2;rw[jb,NO]at this;have:=Vp this.1;rw[gJ,abq,AT];omega
 ·split
  ·simp
  ·have:=Un ht;omega
def Vq{has rel:Bool}(ok:eS d has rel x=true):1≤(qe x).length:=by
 obtain⟨l,ps,cs⟩:=x;rw[eS]at ok;simp only[NO,Of]at ok;rw[qe,AT];cases ps with
 | nil=>have:=ok.1.1.1.2;simp at this
 | cons p r =>
   have:=ok.2;rw[jQ,NO]at this;have h1:=Vo this.1;have h2:=CX (gW cs) (sA p) (dS r);rw[dS];omega
def VA(h:iw l=0):fg l≠[]:=by
 have ok:=yN h;cases l with
 | nil=>simp[iw]at h
 | cons x r =>
   rw[cX,NO]at ok;have h1:=Vq ok.1;have h2:=CX ga (qe x) (dC r);intro e;unfold fg at e;rw[dC]at e;rw[e]at h2;simp only[abr]at h2;omega
variable [bp]
theorem Mm:∀n,n≤2^28→OZ n∧S9 n
 | 0,_=>by
   have h0:OZ 0:=fun s hz=>by
    obtain⟨k,na,o,v,f,a,b,w,l⟩:=s;rw[zS]at hz;omega
   exact⟨h0,Ml (by decide) h0⟩
 | n+1,h=>by
   have ih:=(Mm n (by omega)).2;have hs:=OS (by omega) ih;exact⟨hs,Ml h hs⟩
def CH(l:List Cx)(hz:cQ l≤2^28)(hg:jK l=true):bn p_ 9 [.sl 3 (bL l)] (qS l):=by
 refine (V9 _).bj (by simp[gH]) (JK l) ?_;unfold W9;refine uCon (Kl l (by omega)) (zzH ?_);refine cq rfl (fun e=>?_) fun e=>?_
 ·have e:¬iw l=0:=by simpa using e
  exact .pure (by simp) (by rw[qS,if_neg e])
 have e:iw l=0:=by simpa using e
 refine bT (h':=[.ak ⟨63,[.v (.pointer none),.v (.slice none 0 0)],true⟩]) (n:=0) (cs:=[.v (.pointer none),.v (.slice none 0 0)]) rfl rfl rfl rfl ?_;have b0:Bl 0 [.ak ⟨63,[.v (.pointer none),.v (.slice none 0 0)],true⟩] []:=⟨_,rfl,rfl,rfl,.inl ⟨rfl,rfl⟩⟩;refine eG (by kernel_rfl) rfl ((Mm (2^28) (bY _)).2 l hz hg 0 false false (yN e) 0 _ [] b0 (by simp only[abr];omega)) ?_;rintro _ H ⟨rfl,b1,f1⟩;rw[List.nil_append]at b1;refine zzA (eG (by kernel_rfl) rfl (MN b1) ?_);rintro _ _ ⟨rfl,rfl⟩;refine zzE ?_;refine cq rfl (fun e2=>?_) fun e2=>?_
 ·have e2:¬(fg l).length≤4000:=by have:=oN e2;omega
  exact .pure (by simp) (by rw[qS,if_pos e,if_neg e2])
 ·have e2:(fg l).length≤4000:=by have:=tO e2;omega
  refine zzA (eG (by kernel_rfl) rfl (MO b1 (VA e)) ?_);rintro _ H2 ⟨rfl,_⟩;exact .pure (by simp) (by rw[qS,if_pos e,if_pos e2])
end
section
open Go Go.Aw Go.dD Go.RowKit
open Go.bo hiding u1 ae
def WB(s:ae):Prop:=∀c∈s,c≠0∧c≠12∧c≠13
def WB.app(x:WB a)(y:WB b):WB (a++b):=fun c hc=>(Is.1 hc).elim (x c) (y c)
def WB.nil:WB []:=fun _ h=>absurd h (List.not_mem_nil)
def PW(h:c≠0∧c≠12∧c≠13):uY c=[c]:=by
 unfold uY;rw[if_neg (fun e=>e.elim h.2.2 h.2.1),if_neg h.1]
theorem GU:∀s:ae,WB s→eT s=s
 | [],_=>by rw[eT]
 | c:: s,h=>by
   have hc:=h c (abn ..);rw[pS (fun e=>hc.2.2 e.1),PW hc,GU s fun d hd=>h d (Lt _ hd)];rfl
def uJ(c:UInt8):Bool:=c != 0&&c != 12&&c != 13
def cR(h:s.all uJ=true):WB s:=fun c hc=>by
 have:=At.1 h c hc;simpa[uJ,and_assoc]using this
def TC:∀c:UInt8,(cC c).all uJ=true:=eR (P:=fun c=>(cC c).all uJ=true) (by decide +kernel)
def UF:∀c:UInt8,c≠0→(iG c).all uJ=true:=eR (P:=fun c=>c≠0→(iG c).all uJ=true) (by decide +kernel)
def Ul:∀c:UInt8,C8 c=true→uJ c=true:=eR (P:=fun c=>C8 c=true→uJ c=true) (by decide +kernel)
def Um(n:ae)(fr i:Nat)(c:UInt8):WB (jL n fr i c):=by
 unfold jL
 by_cases h:mn n fr i c=true
 ·rw[if_pos h];unfold mn at h;simp only[NO]at h;exact cR (by simp[Ul c h.1.1])
 ·rw[if_neg h];exact cR (TC c)
def WB.flat{α:Type}{l:List α}{f:α→ae}(h:∀x∈l,WB (f x)):WB (l.flatMap f):=fun c hc=>by
 obtain⟨x,hx,h2⟩:=List.mem_flatMap.1 hc;exact h x hx c h2
def DU(n:ae):WB (fD n):=WB.flat fun _ _=>Um _ _ _ _
def Xd{s:ae}(h:∀c∈s,c≠0):WB (uB s):=by
 unfold uB;exact ((cR (by decide)).app (WB.flat fun c hc=>cR (UF c (h c hc)))).app (cR (by decide))
def WB.at{L:List ae}(h:∀s∈L,WB s)(k:Nat):WB (L.getD k []):=by
 rw[nE];cases e:L[k]? with
 | none=>exact WB.nil
 | some x=>exact h x (gE e)
def uK{L:List ae}(h:L.all (fun s=>s.all uJ)=true)(k:Nat):WB (L.getD k []):=WB.at (fun s hs=>cR (At.1 h s hs)) k
def WB.drop(h:WB s)(k:Nat):WB (s.drop k):=fun c hc=>h c (List.mem_of_mem_drop hc)
def Xb(hv:∀c∈v,c≠0):WB (sR n o v f):=by
 unfold sR;refine ((((cR (by decide)).app (DU n)).app ?_).app ?_).app (cR (by decide))
 ·split
  ·exact WB.nil
  ·exact (uK (by decide) _).app (Xd hv)
 ·split
  ·exact cR (by decide)
  ·exact WB.nil
def yn{sep:Nat→ae}{ts:List ae}(h1:∀k,WB (sep k))(h2:∀t∈ts,WB t):WB (gm sep ts):=by
 unfold gm fj;exact WB.flat fun i _=>(h1 i).app (WB.at h2 i)
def Cz(k:Nat):WB (ga k):=by unfold ga;split;exact WB.nil;exact cR (by decide)
def RI(cs:List Int)(k:Nat):WB (gW cs k):=by unfold gW;split;exact WB.nil;exact uK (by decide) _
def Ty:∀c:UInt8,Rt.ck c=true→uJ c=true:=eR (P:=fun c=>Rt.ck c=true→uJ c=true) (by decide +kernel)
def Mh(k:Nat):WB (Lib.decDigits k):=cR (At.2 fun b hb=>Ty b (pU (oU k) b hb))
def IK(B:Int):WB (Lib.itoa B):=by
 by_cases h:B<0
 ·rw[vu h];exact (cR (s:=[45]) (by decide)).app (Mh _)
 ·rw[Fu h];exact Mh _
def Vy(A B:Int):WB (mU A B):=by
 have h1:∀c:UInt8,uJ c=true→WB [c]:=fun c h=>cR (by simp[h]);have hc:∀(c:UInt8) (x:ae),uJ c=true→WB x→WB (c:: x):=fun c x h hx=>(h1 c h).app hx;unfold mU;repeat' first|exact IK _|exact WB.nil|exact cR (by decide)|exact hc _ _ (by decide) (IK _)|refine WB.app ?_ ?_|split
def Vz(k a b:Int)(w:Bool):WB (se k a b w):=by
 unfold se;split
 ·refine (Vy a b).app ?_;split
  ·exact cR (by decide)
  ·exact WB.nil
 ·exact WB.nil
def WB.flt{l:List ae}(h:∀t∈l,WB t):WB l.flatten:=fun c hc=>by
 obtain⟨x,hx,h2⟩:=List.mem_flatten.1 hc;exact h x hx c h2
mutual
theorem aak(d:Nat)(has:Bool):∀s:Sm,ic d has s=true→WB (jD s)
 | .mk k n o v f a b w l,ok=>by
   rw[ic,NO]at ok;obtain⟨ob,ol⟩:=ok;rw[jD]
   by_cases k1:k=1
   ·rw[if_pos k1];exact (cR (by decide)).app (DU n)
   rw[if_neg k1]
   by_cases k2:k=2
   ·rw[if_pos k2];exact (cR (by decide)).app (DU n)
   rw[if_neg k2]
   by_cases k3:k=3
   ·rw[if_pos k3];rw[jq,if_neg (by omega),if_pos k3]at ob;simp only[NO]at ob;exact Xb (Mu ob.1.1.1.1.1.2)
   rw[if_neg k3]
   by_cases fr:kq k a b w=true
   ·rw[if_pos fr];exact uK (by decide) _
   rw[if_neg fr]
   by_cases k8:k≤8
   ·rw[if_pos k8];exact uK (by decide) _
   ·rw[if_neg k8];refine (((uK (by decide) _).app (Vz k a b w)).app ?_).app (cR (by decide))
    by_cases hL:gw k w=true
    ·rw[if_pos hL]at ol;simp only[NO]at ol;exact yn Cz (JT _ _ _ l ol.2)
    ·rw[if_neg hL]at ol;rw[List.isEmpty_iff.1 ol,dC];exact yn Cz fun t h=>absurd h (List.not_mem_nil)
theorem PH(d:Nat)(has:Bool):∀l:List Sm,jb d has l=true→∀t∈gJ l,WB t
 | [],_=>by rw[gJ];exact fun t h=>absurd h (List.not_mem_nil)
 | s:: l,ok=>by
   rw[jb,NO]at ok;rw[gJ];exact List.forall_mem_cons.2 ⟨aak d has s ok.1,PH d has l ok.2⟩
theorem aaj(d:Nat)(has:Bool):∀p:Cp,cN d has p=true→WB (sA p)
 | .mk t ss,ok=>by
   rw[cN,NO]at ok;rw[sA];refine WB.app ?_ (WB.flt (PH d has ss ok.2))
   by_cases h:t=[42]
   ·rw[if_pos h];exact cR (by decide)
   ·rw[if_neg h];exact DU t
theorem PG(d:Nat)(has:Bool):∀l:List Cp,jQ d has l=true→∀t∈dS l,WB t
 | [],_=>by rw[dS];exact fun t h=>absurd h (List.not_mem_nil)
 | p:: l,ok=>by
   rw[jQ,NO]at ok;rw[dS];exact List.forall_mem_cons.2 ⟨aaj d has p ok.1,PG d has l ok.2⟩
theorem aal(d:Nat)(has rel:Bool):∀x:Cx,eS d has rel x=true→WB (qe x)
 | .mk l ps cs,ok=>by
   rw[eS,NO]at ok;rw[qe];refine WB.app ?_ (yn (RI cs) (PG d has ps ok.2))
   by_cases h:1<l
   ·rw[if_pos h];exact WB.drop (uK (by decide) _) 1
   ·rw[if_neg h];exact WB.nil
theorem JT(d:Nat)(has rel:Bool):∀l:List Cx,cX d has rel l=true→∀t∈dC l,WB t
 | [],_=>by rw[dC];exact fun t h=>absurd h (List.not_mem_nil)
 | x:: l,ok=>by
   rw[cX,NO]at ok;rw[dC];exact List.forall_mem_cons.2 ⟨aal d has rel x ok.1,JT d has rel l ok.2⟩
end
def OP(ok:cX 0 false false l=true):WB (fg l):=yn Cz (JT 0 false false l ok)
def WR(ok:cX 0 false false l=true)(g:jK l=true):kR (fg l) (Rt.fZ (fg l) 0)=bu (vL l):=by
 have h:=yj (l:=l) (xq 0 false false l ok g) (fg l) [] 0 (aa2 _) (by rw[aaZ];rfl) NX.nil;rw[show gm ga (dC l)=fg l from rfl]at h;rw[h.2.2,aa4];have h1:Rt.fZ (fg l) (fg l).length=(fg l).length:=zz (by unfold Rt.ax;rw[nE,iS (bY _)];decide);rw[h1,kR.eq_def,dif_neg (Nat.lt_irrefl _),aaZ];rfl
def DN(w:WB s)(t:kR s (Rt.fZ s 0)=bu v)(hb:eL 0 v=false)(hd:dp v≤16):nv s=if 4000<s.length then ([],28) else if 1500<dh v then ([],4) else (let r:=kz 3 false v false false
 if r.2=true then (if 64<number r.1 then ([],4) else (r.1,0)) else ([],12)):=by
 have e:jB s=if 4000<s.length then ([],28) else if 1500<dh v then ([],4) else (bu v,0):=by
  unfold jB;rw[GU _ w,t,mq]
 unfold nv;rw[e]
 by_cases h1:4000<s.length
 ·rw[if_pos h1,if_pos h1];rfl
 rw[if_neg h1,if_neg h1]
 by_cases h2:1500<dh v
 ·rw[if_pos h2,if_pos h2];rfl
 rw[if_neg h2,if_neg h2];dsimp only;rw[if_pos rfl,Lq _ hb hd (by omega),if_pos rfl];dsimp only;unfold Li;rw[if_pos (GS _ hb hd (by omega))]
def Wn(ok:cX 0 false false l=true)(g:jK l=true)(h:nR l=true)(hn:l≠[])(h64:¬64<number l):nv (fg l)=if 4000<(fg l).length then ([],28) else if 1500<dh (vL l) then ([],4) else (l,0):=by
 have hS:=Ow ok;rw[DN (OP ok) (WR ok g) (hS.1 0 (Or.inl rfl)) (aa7 hS.2 (by decide))];have:=Z5 ok g h hn [] (Or.inl rfl);rw[List.nil_append]at this;rw[this];dsimp only;rw[if_pos rfl,if_neg h64]
def Vr(ok:cX 0 false false l=true)(g:jK l=true):TX (fg l) (bu (vL l)) NX:=yj (xq 0 false false l ok g)
def F4{N:ae→Prop}(h:TX s (bu v) N)(hn:N []):kR s (Rt.fZ s 0)=bu v:=by
 have h:=h s [] 0 (aa2 _) (by rw[aaZ];rfl) hn;rw[h.2.2,aa4];have h1:Rt.fZ s s.length=s.length:=zz (by unfold Rt.ax;rw[nE,iS (bY _)];decide);rw[h1,kR.eq_def,dif_neg (Nat.lt_irrefl _),aaZ]
def O7(m:Nat):Sh m [jW]:=jH m (by decide) (by decide) (by decide)
def az(c:UInt8):Prop:=97≤c.toNat∧c.toNat≤122
instance (c:UInt8):Decidable (az c):=inferInstanceAs (Decidable (_∧_))
theorem nI{A:(List AV→aa→Prop)→Prop}{f:AV→aa→Prop}(e:x=b_ b1)(hE:E)(ha:∀F:List AV→aa→Prop,F [ff,b_ b2] H→A F)(q:f (b_ (b1||b2)) H):
 aG (fun J=>aM x false (A J) (E∧J [cd false x,un] H)) fun s h=>bQ (nx s 0) tt (nx s 1) fun v=>f v h:=by
 subst e;refine aF ?_;cases b1 with
 | true=>exact zzM rfl ⟨hE,aL rfl q⟩
 | false=>exact zzN rfl (ha _ (zzQ q))
theorem Md{A:(List AV→aa→Prop)→Prop}{f:AV→aa→Prop}(e:x=b_ b1)(hE:E)(ha:b1=true→∀F:List AV→aa→Prop,F [tt,b_ b2] H→A F)(q:f (b_ (b1&&b2)) H):
 aG (fun J=>aM x true (A J) (E∧J [cd true x,un] H)) fun s h=>bQ (nx s 0) (nx s 1) ff fun v=>f v h:=by
 subst e;refine aF ?_;cases b1 with
 | true=>exact zzN rfl (ha rfl _ (zzR q))
 | false=>exact zzM rfl ⟨hE,aQ rfl q⟩
section
variable [bp]
def rf(h:nv s=(l,e)):bn p_ 8 [.str s] (.ay [.sl 3 (bL l),i_ e]):=by
 have c:=P2 s;rw[h]at c;refine c.qx (.ay (.cons (uq (xQ l)) (.cons (.refl _) .nil))) ?_;simp[Aw.Pure,aO,gH]
def sV(h:nv s=(l,0))(hw:fg l=t)(hc:iw l=0)(h4:(fg l).length≤4000)(hz:cQ l≤2^28)(hg:jK l=true):bn p_ 15 [.str s,.str t] tt:=by
 refine (V15 _ _).bj (by simp) (by simp) ?_;unfold Xo;refine uCon (rf h) (zzB rfl (zzB rfl ?_));have c:=CH l hz hg;rw[qS,if_pos hc,if_pos h4,hw]at c;refine uCon c (zzB rfl (zzB rfl (zzG (Md rfl rfl (fun _ F k=>bU rfl rfl ⟨rfl,k⟩) (aF (zzN rfl (zzI (zzR ?_))))))));exact .pure (by simp) (by simp)
def Ng(h:nv s=(l,12)):bn p_ 16 [.str s] tt:=by
 refine (V16 _).bj (by simp) (by simp) ?_;unfold Xp;refine uCon (rf h) (zzB rfl (zzB rfl (zzG ?_)));exact .pure (by simp) (by simp)
def aS(k:Int)(n:ae):Sm:=dx k n
def Ub(k:Int)(l:List Cx):Sm:=.mk k [] 0 [] false 0 0 false l
def Cb(t:ae)(ss:List Sm):Cx:=.mk 0 [.mk t ss] []
def Ai:bn p_ 7 [] tt:=by
 refine (V7).bj (by simp) (by simp) ?_;unfold W7;refine uCon (sV (l:=[.mk 0 [.mk [97] [aS 2 [120]],.mk [98] []] [2],Cb [] [Ub 11 [Cb [112] [],.mk 0 [.mk [113] [],.mk [114] []] [1]]]]) (by kernel_rfl) (by kernel_rfl) (by kernel_rfl) (by decide +kernel) (by decide +kernel) (by kernel_rfl)) (aF (zzN rfl (uCon (sV (l:=[Cb [] [.mk 3 [104,114,101,102] 4 [120] true 0 0 false []]]) (by kernel_rfl) (by kernel_rfl) (by kernel_rfl) (by decide +kernel) (by decide +kernel) (by kernel_rfl)) (zzR (aF (zzN rfl (uCon (sV (l:=[Cb [] [.mk 9 [] 0 [] false 0 1 false []]]) (by kernel_rfl) (by kernel_rfl) (by kernel_rfl) (by decide +kernel) (by decide +kernel) (by kernel_rfl)) (zzR (aF (zzN rfl (uCon (Ng (l:=[]) (by kernel_rfl)) (zzR (aF ?_)))))))))))));refine zzN rfl (uCon (sV (l:=[Cb [97] [Ub 11 [Cb [98] [Ub 14 [.mk 1 [.mk [99] []] []]]]]]) (by kernel_rfl) (by kernel_rfl) (by kernel_rfl) (by decide +kernel) (by decide +kernel) (by kernel_rfl)) (zzR ?_));exact .pure (by simp) rfl
end
def M0(h:iw l=0):cX 0 false false l=true∧l≠[]∧¬64<number l:=by
 have ok:=yN h;unfold iw at h;rw[ok,Bool.and_true]at h;cases l with
 | nil=>simp at h
 | cons x l =>
   rw[if_pos (by simp)]at h;refine⟨ok,by simp,fun z=>?_⟩;rw[if_neg (by omega)]at h;exact absurd h (by decide)
def Rp(h:iw l=0):∃t e,qS l=.ay [.str t,i_ e]∧(e=0∧t=fg l∧(fg l).length≤4000∨e=28)∧t.length≤4000:=by
 unfold qS;rw[if_pos h];split
 ·rename_i q;exact⟨_,_,rfl,.inl ⟨rfl,rfl,q⟩,q⟩
 ·exact⟨_,_,rfl,.inr rfl,by decide⟩
def FC(h:nv s=(l,0)∨nv s=([],4)):∃x e,nv s=(x,e)∧(e=0∧x=l∨e=4∧x=[]):=h.elim (fun h=>⟨_,_,h,.inl ⟨rfl,rfl⟩⟩) fun h=>⟨_,_,h,.inr ⟨rfl,rfl⟩⟩
section
variable [bp]
end
end
section
open Go Go.Aw
variable [Laid]
end
section
open Go Go.Aw Go.dD Go.RowKit
open Go.bo hiding u1 ae
def Vc:List (Tok×List Vl)→Nat
 | []=>0
 | (_,b):: s=>dh b+1+Vc s
section
variable [bp]
def yv:bx p_ (.fn (.func 7) [] []) [] H fun v h=>dI tt v h:=uCon Ai (.pure (by simp) rfl)
end
end
section
open Go Go.Aw
variable [Laid]
def W5(a f:AV)(h:aa)(K:AV→aa→Prop):Prop:=
 iC p_ 6 [a] h fun Y u=>qJo Y [a,f] u (fun Z=>iC p_ 10 [a] u fun a0 a1=>qBe .neq a0 0 fun a2=>Z a2 a1) fun a3 v=>qJo a3 [a,f] v (fun a4=>bq a fun a5=>qBe .gtr a5 20 fun a6=>a4 a6 v) fun a7 w=>qJo a7 [a,f] w (fun a8=>qBe .lss f 0 fun a9=>a8 a9 w) fun b0 x=>qJo b0 [a,f] x (fun b1=>iC p_ 13 [a] x fun b2 b3=>bq a fun b4=>ag .neq b2 b4 fun b5=>b1 b5 b3) fun b6 y=>af b6 (iC p_ 7 [] y fun b7 b8=>K b7 b8) (iC p_ 9 [a] y fun z p=>aR 0 z fun e=>aR 1 z fun b9=>bt 10 1 (.str []) [(0,1,(.str [])),(1,1,(.str [62,120])),(2,1,(.str [49])),(3,1,(.str [58,110,111,112,101])),(4,1,(.str [97,32,98,32,62])),(5,1,(.str [91,97,61,93])),(6,1,(.str [46,53])),(7,1,(.str [58,110,111,116,40,41])),(8,1,(.str [97,58,58,98])),(9,1,(.str [58,110,116,104,45,99,104,105,108,100,40,120,41]))] fun A=>bq A fun c0=>ag .rem f c0 fun c1=>aI 1 A c1 fun c2=>ah false 1 c2 p fun g=>qBe .neq b9 0 fun c3=>qJo c3 [a,e,g] p (fun c4=>cZ e fun c5=>qBe .gtr c5 1900 fun c6=>c4 c6 p) fun c7 B=>af c7 (iC p_ 7 [] B fun c8 c9=>K c8 c9) (ag .add e (.str [44]) fun d0=>ag .add d0 g fun d1=>iC p_ 8 [d1] B fun C d2=>aR 0 C fun p0=>aR 1 C fun q=>ag .add (.str [58,105,115,40]) e fun d3=>ag .add d3 (.str [44]) fun d4=>ag .add d4 g fun d5=>ag .add d5 (.str [41,58,119,104,101,114,101,40]) fun d6=>ag .add d6 g fun d7=>ag .add d7 (.str [44]) fun d8=>ag .add d8 e fun d9=>ag .add d9 (.str [41]) fun e0=>iC p_ 8 [e0] d2 fun D e1=>aR 0 D fun c=>aR 1 D fun k=>ag .add (.str [122,58,110,111,116,40]) e fun e2=>ag .add e2 (.str [41]) fun e3=>iC p_ 8 [e3] e1 fun E e4=>aR 0 E fun b=>aR 1 E fun l=>ag .add (.str [122,58,110,111,116,40]) e fun e5=>ag .add e5 (.str [44]) fun e6=>ag .add e6 g fun e7=>ag .add e7 (.str [41]) fun e8=>iC p_ 8 [e8] e4 fun F G=>aR 0 F fun p1=>aR 1 F fun r=>qBe .neq q 12 fun e9=>qJo e9 [a,q,c,k,b,l,r] G (fun f0=>qBe .neq r 12 fun f1=>f0 f1 G) fun f2 m=>af f2 (qBe .eql q 4 fun f3=>qKo f3 m (fun f4=>qBe .eql r 4 fun f5=>f4 f5 m) fun f6 H=>qKa f6 H (fun f7=>iC p_ 7 [] H f7) fun f8 f9=>K f8 f9) (qBe .neq k 0 fun g0=>qJo g0 [a,c,k,b,l] m (fun g1=>qBe .neq l 0 fun g2=>g1 g2 m) fun g3 i=>af g3 (qBe .eql k 4 fun g4=>qKo g4 i (fun g5=>qBe .eql l 4 fun g6=>g5 g6 i) fun g7 I=>qKa g7 I (fun g8=>iC p_ 7 [] I g8) fun g9 i0=>K g9 i0) (bq c fun i1=>qBe .neq i1 1 fun i2=>qJo i2 [a,c,b] i (fun i3=>aI 3 c (i_ 0) fun i4=>iFL 1 false 1 i4 i fun i5=>bq i5 fun i6=>qBe .neq i6 1 fun i7=>i3 i7 i) fun i8 n=>qJo i8 [a,c,b] n (fun i9=>aI 3 c (i_ 0) fun j0=>iFL 1 false 1 j0 n fun j1=>aI 2 j1 (i_ 0) fun j2=>iFL 1 false 1 j2 n fun j3=>bq j3 fun j4=>qBe .neq j4 2 fun j5=>i9 j5 n) fun j6 J=>qJo j6 [a,c,b] J (fun j7=>bq b fun j8=>qBe .neq j8 1 fun j9=>j7 j9 J) fun k0 s=>qJo k0 [a,c,b] s (fun k1=>aI 3 b (i_ 0) fun k2=>iFL 1 false 1 k2 s fun k3=>bq k3 fun k4=>qBe .neq k4 1 fun k5=>k1 k5 s) fun k6 o=>qJo k6 [a,c,b] o (fun k7=>aI 3 b (i_ 0) fun k8=>iFL 1 false 1 k8 o fun k9=>aI 2 k9 (i_ 0) fun l0=>iFL 1 false 1 l0 o fun l1=>bq l1 fun l2=>qBe .neq l2 1 fun l3=>k7 l3 o) fun l4 d=>af l4 (K ff d) (aG (fun L=>aI 3 c (i_ 0) fun l5=>bg 1 l5 fun M=>cF (mR d.length M) (ah false 1 M d fun l6=>aI 2 l6 (i_ 0) fun l7=>bg 1 l7 fun N=>cF (mR d.length N) (ah false 1 N d fun l8=>aI 9 l8 (i_ 0) fun O=>cF (mR d.length O) (ah true 9 O d fun P=>aI 3 c (i_ 0) fun l9=>bg 1 l9 fun m0=>ah false 1 m0 [] fun m1=>aI 2 m1 (i_ 0) fun m2=>bg 1 m2 fun m3=>ah false 1 m3 [] fun m4=>aI 9 m4 (i_ 1) fun m5=>ah true 9 m5 [] fun Q=>(aV 46 (.agg [u8 0,.str [],u8 0,.str [],ff,i_ 0,i_ 0,ff,qNs]) d fun R m6=>aV 46 (.agg [u8 0,.str [],u8 0,.str [],ff,i_ 0,i_ 0,ff,qNs]) m6 fun S m7=>ao 9 R P m7 fun m8=>ao 9 S Q m8 fun m9=>eC [a,b] (L [R,S] m9))∧(aV 46 (.agg [u8 0,.str [],u8 0,.str [],ff,i_ 0,i_ 0,ff,qNs]) d fun T n0=>aV 46 (.agg [u8 0,.str [],u8 0,.str [],ff,i_ 0,i_ 0,ff,qNs]) n0 fun U n1=>ao 9 U P n1 fun n2=>ao 9 T Q n2 fun n3=>eC [a,b] (L [U,T] n3)))))) fun V W=>iFL 8 false 1 (nx V 0) W fun n4=>iC p_ 11 [n4,a] W fun n5 t=>qJa n5 [a,b] t (fun n6=>iFL 8 false 1 (nx V 1) t fun n7=>iC p_ 11 [n7,a] t n6) fun n8 j=>qKa n8 j (fun n9=>aI 3 b (i_ 0) fun o0=>iFL 1 false 1 o0 j fun o1=>aI 2 o1 (i_ 0) fun o2=>iFL 1 false 1 o2 j fun o3=>aI 9 o3 (i_ 0) fun o4=>iFL 8 false 1 o4 j fun o5=>iC p_ 11 [o5,a] j n9) fun o6 X=>qKa o6 X (fun o7=>iC p_ 7 [] X o7) fun o8 o9=>K o8 o9)))))
def V5(a b:AV):Body p_ 5 [a,b] (W5 a b):=bC Tryz.func5 (sn (.seq (.seq (.aN (oR 0 3 (.aA 2 false (fR 3 3) [0,1] [21,24]::oR 6 2 (.aA 7 false (fR 8 3) [0,1] [26,29]::oR 11 2 (.aA 12 false (fR 13 2) [0,1] [31,33]::oR 15 2 (.aA 16 false (fR 17 5) [0,1] [35,40]::.op 22 false::[])))))) .nil) (sn (.seq (.aN [.op 0 true,.op 1 false]) (sn (.seq (.seq (.aN (oR 0 3 (.aA 2 false (fR 3 3) [0,5,8] [58,61]::.op 6 false::[]))) .nil) (sn (sn (sn (sn (.seq (.seq (.aN (oR 0 3 (.aA 2 false (fR 3 2) [0,10,11,12,13,14,16] [107,109]::.op 5 false::[]))) (.two (.seq (.aN (oR 0 3 (.aA 2 false (fR 3 2) [] [113,115]::oR 5 2 (.aA 6 true [(7,false)] [] [117,118]::oR 8 2 [])))) .nil) .nil)) (.seq (.seq (.aN (oR 0 3 (.aA 2 false (fR 3 2) [0,11,12,13,14] [122,124]::.op 5 false::[]))) (.two (.seq (.aN (oR 0 3 (.aA 2 false (fR 3 2) [] [128,130]::oR 5 2 (.aA 6 true [(7,false)] [] [132,133]::oR 8 2 [])))) .nil) .nil)) (.seq (.seq (.aN (oR 0 4 (.aA 3 false (fR 4 6) [0,11,13] [138,144]::oR 10 2 (.aA 11 false (fR 12 9) [0,11,13] [146,155]::oR 21 2 (.aA 22 false (fR 23 3) [0,11,13] [157,160]::oR 26 2 (.aA 27 false (fR 28 6) [0,11,13] [162,168]::oR 34 2 (.aA 35 false (fR 36 9) [0,11,13] [170,179]::.op 45 false::[]))))))) .nil) (.join [0,13] [17,18] (.DB (.one 0 0 false (.one 1 0 false (.one 2 0 false (.one 3 3 false (.one 4 0 false (.one 5 0 false (.one 6 3 false (.one 7 0 false (.one 8 3 false (.one 9 0 false (.one 10 0 false (.one 11 0 false (.one 12 0 false (.one 13 0 false (.one 14 0 false (.one 15 0 false (.one 16 0 false (.one 17 0 false (.two (.one 18 2 false (.one 19 2 false (.one 20 2 false (.one 21 2 false .nil)))) (.one 19 2 false (.one 18 2 false (.one 20 2 false (.one 21 2 false .nil)))))))))))))))))))))))) (.seq (.aN (oR 0 5 (.aA 4 true (fR 5 4) [0,13] [203,207]::oR 9 2 (.aA 10 true (fR 11 12) [] [209,221]::oR 23 2 (.aA 24 true [(25,false)] [] [223,224]::oR 26 2 []))))) .nil))))))))))))))) 226 [.tmp 4]
end
section
open Go Go.Aw Go.dD Go.RowKit
open Go.bo hiding u1 ae
def En(r:ae):Prop:=∀c,r.head?=some c→c=41∨c=44
def En.nil:En []:=fun _ h=>by cases h
def En.br(r:ae):En (41:: r):=fun _ h=>by cases h;exact .inl rfl
def En.co(r:ae):En (44:: r):=fun _ h=>by cases h;exact .inr rfl
def En.nx(h:En r):NX r:=fun c hc=>by rcases h c hc with rfl|rfl<;>decide
def En.at(h:En r):r.getD 0 0=0∨r.getD 0 0=41∨r.getD 0 0=44:=by
 cases r with
 | nil=>exact .inl rfl
 | cons c r=>rcases h c rfl with rfl|rfl;exact .inr (.inl rfl);exact .inr (.inr rfl)
def En.nu(h:En r):GJ r:=by
 rcases h.at with e|e|e<;>exact⟨by rw[e];decide,by rw[e];decide,by rw[e];decide,by rw[e];decide⟩
def En.no(h:En r)(hd:s.drop a=r):Rt.gq s a=false:=by
 have hat:=cO hd;unfold Rt.gq Rt.cC;rcases h.at with e|e|e<;>rw[hat,e]<;>rfl
def mY:Nat→ae
 | 0=>[]
 | 1=>[62,120]
 | 2=>[49]
 | 3=>[58,110,111,112,101]
 | 4=>[97,32,98,32,62]
 | 5=>[91,97,61,93]
 | 6=>[46,53]
 | 7=>[58,110,111,116,40,41]
 | 8=>[97,58,58,98]
 | _=>[58,110,116,104,45,99,104,105,108,100,40,120,41]
def iP:Nat→List Vl
 | 0=>[]
 | 1=>[ju 62,lf 1 [120] false]
 | 2=>[gD (lM 1) []]
 | 3=>[fG,lf 1 [110,111,112,101] false]
 | 4=>[lf 1 [97] false,dW,lf 1 [98] false,dW,ju 62]
 | 5=>[.mk 19 [] 0 [] false [lf 1 [97] false,ju 61]]
 | 6=>[gD ⟨10,[],500,[],false⟩ []]
 | 7=>[fG,.mk 2 [110,111,116] 0 [] false []]
 | 8=>[lf 1 [97] false,fG,fG,lf 1 [98] false]
 | _=>[fG,.mk 2 [110,116,104,45,99,104,105,108,100] 0 [] false [lf 1 [120] false]]
def RA:TX [46,53] [⟨10,[],500,[],false⟩] En:=fun s r a hle h hr=>by
 have h0:Rt.ax s a=46:=by rw[cO h];rfl
 have h1:s.drop (a+1)=[53]++r:=cJ (x:=[46]) h;have h2:s.drop (a+2)=r:=cJ (x:=[46,53]) h;have a1:Rt.ax s (a+1)=53:=by rw[cO h1];rfl
 have a2:Rt.ax s (a+2)=r.getD 0 0:=cO h2;have nb:Rt.jP s a=true:=by
  unfold Rt.jP;rw[h0];dsimp only;rw[if_neg (show ¬((46:UInt8)=43∨(46:UInt8)=45) by decide),h0,if_pos rfl,a1];rfl
 have d0:Rt.fT s a=a:=by
  unfold Rt.fT;rw[h];rfl
 have d1:Rt.fT s (a+1)=a+2:=by
  unfold Rt.fT;rw[h1,List.singleton_append,List.takeWhile_cons,if_pos (by decide)];have:r.takeWhile Rt.ck=[]:=by
   cases r with
   | nil=>rfl
   | cons x r=>rw[List.takeWhile_cons,if_neg (by have:=hr.nu.d;simp at this;rw[this];decide)]
  rw[this];rfl
 have ne:Rt.gU s a=(a+2,false):=by
  unfold Rt.gU;rw[h0];dsimp only;have e1:(if (46:UInt8)=46∧Rt.ck 53=true then (a+2,false) else (a,true))=(a+2,false):=if_pos ⟨rfl,rfl⟩;rw[if_neg (show ¬((46:UInt8)=43∨(46:UInt8)=45) by decide),d0,h0,a1,d1,e1];dsimp only;rw[a2,if_neg (fun z=>z.elim hr.nu.e hr.nu.f)]
 refine Tq.one (eE h) ?_ (by rw[h0];decide);unfold iR;dsimp only;rw[h0,if_neg (by decide),if_neg (by decide),if_neg (fun z=>absurd z.1 (by decide)),if_pos nb];unfold jO gr;dsimp only;rw[ne];dsimp only;rw[if_neg (by rw[hr.no h2];decide),a2,if_neg (by rcases hr.at with e|e|e<;>rw[e]<;>decide),List.drop_take,h,show a+2-a=([46,53]:ae).length by simp,List.take_left];rfl
def Vt:TX [49] [lM 1] En:=fun s r a hle h hr=>by
 have:=Lh (g:=[]) (d:=[49]) (a:=a) (.inl rfl) ⟨by simp,by decide⟩ (by decide) h hr.nu (hr.no (cJ h)) (by rcases hr.at with e|e|e<;>rw[e]<;>decide);exact this
def qU(hz:∀c∈n,c≠0)(hn:n≠[])(e:fD n=n):TX n (bu [lf 1 n false]) NX:=(my hz hn).of e (by rw[bD,cE,kj (by decide)];rfl)
def F8(hc:sw c=true)(hk:Lib.indexByte Rt.lL c=-1)(h43:c≠43)(h45:c≠45)(h46:c≠46)(h47:c≠47):TX [c] (bu [ju c]) Any:=(sF hc hk h43 h45 h46 h47).of rfl (by rw[bD,cE];unfold ju;rw[kj (by decide)];rfl)
def uI(v:Vl):bu [v]=iM v:=by rw[bD,cE,aaZ]
def Br(h:cw k≠0):iM (.mk k t 0 [] false l)=⟨k,t,0,[],false⟩:: (bu l++[⟨cw k,[],0,[],false⟩]):=by rw[iM,if_neg h]
theorem L8:∀i,TX (mY i) (bu (iP i)) En
 | 0=>by
   show TX [] (bu []) En;rw[cE];exact TX.nil _
 | 1=>(((F8 (c:=62) (by decide) (by decide) (by decide) (by decide) (by decide) (by decide)).cat (qU (n:=[120]) (by decide) (by decide) (by decide)) fun _ _=>trivial).mono fun r h=>h.nx).of rfl (by rw[←eZ];rfl)
 | 2=>Vt.of rfl (by show _=bu [gD (lM 1) []];rw[bD,cE];rfl)
 | 3=>((qT.cat (qU (n:=[110,111,112,101]) (by decide) (by decide) (by decide)) fun _ _=>trivial).mono fun r h=>h.nx).of rfl (by show _=bu [fG,lf 1 [110,111,112,101] false];rw[bD fG])
 | 4=>by
   have h5:=F8 (c:=62) (by decide) (by decide) (by decide) (by decide) (by decide) (by decide);have h4:=tH.cat h5 fun r _=>show Rt.fv 62=false by decide
   have h3:=(qU (n:=[98]) (by decide) (by decide) (by decide)).cat h4 fun r _=>NX.cons _ (by decide);have h2:=tH.cat h3 fun r _=>show Rt.fv 98=false by decide
   have h1:=(qU (n:=[97]) (by decide) (by decide) (by decide)).cat h2 fun r _=>NX.cons _ (by decide);refine (h1.mono fun _ _=>trivial).of rfl ?_;show _=bu [lf 1 [97] false,dW,lf 1 [98] false,dW,ju 62];simp only[bD,cE,aaZ,To]
 | 5=>by
   have h4:TX [93] [⟨20,[],0,[],false⟩] Any:=lK (k:=4) (by decide) (by decide) (by decide) (by decide) (by decide);have h3:=(F8 (c:=61) (by decide) (by decide) (by decide) (by decide) (by decide) (by decide)).cat h4 fun _ _=>trivial;have h2:=(qU (n:=[97]) (by decide) (by decide) (by decide)).cat h3 fun r _=>NX.cons _ (by decide);have h1:TX [91] [⟨19,[],0,[],false⟩] Any:=lK (k:=3) (by decide) (by decide) (by decide) (by decide) (by decide);refine ((h1.cat h2 fun _ _=>trivial).mono fun _ _=>trivial).of rfl ?_;show _=bu [.mk 19 [] 0 [] false [lf 1 [97] false,ju 61]];rw[uI (.mk 19 _ _ _ _ _),Br (show cw 19≠0 by decide),bD (lf 1 [97] false) [ju 61],uI (lf 1 [97] false)];simp only[To,abv,List.nil_append];rfl
 | 6=>RA.of rfl (by show _=bu [gD ⟨10,[],500,[],false⟩ []];rw[bD,cE];rfl)
 | 7=>by
   have h3:TX [41] [⟨22,[],0,[],false⟩] Any:=lK (k:=6) (by decide) (by decide) (by decide) (by decide) (by decide);have h2:TX ([110,111,116]++[40]) [⟨2,[110,111,116],0,[],false⟩] Any:=rA (n:=[110,111,116]) (by decide) (by decide) (by decide);refine ((qT.cat (h2.cat h3 fun _ _=>trivial) fun _ _=>trivial).mono fun _ _=>trivial).of rfl ?_;show _=bu [fG,.mk 2 [110,111,116] 0 [] false []];rw[bD fG,uI (.mk 2 _ _ _ _ _),Br (show cw 2≠0 by decide),cE];rfl
 | 8=>by
   have h4:=qU (n:=[98]) (by decide) (by decide) (by decide);have h2:=qT.cat (qT.cat h4 fun _ _=>trivial) fun _ _=>trivial;have h1:=(qU (n:=[97]) (by decide) (by decide) (by decide)).cat h2 fun r _=>NX.cons _ (by decide);refine (h1.mono fun _ h=>h.nx).of rfl ?_;show _=bu [lf 1 [97] false,fG,fG,lf 1 [98] false];simp only[bD,cE,aaZ,To]
 | n+9=>by
   have h3:TX [41] [⟨22,[],0,[],false⟩] Any:=lK (k:=6) (by decide) (by decide) (by decide) (by decide) (by decide);have h2:TX ([110,116,104,45,99,104,105,108,100]++[40]) [⟨2,[110,116,104,45,99,104,105,108,100],0,[],false⟩] Any:=rA (n:=[110,116,104,45,99,104,105,108,100]) (by decide) (by decide) (by decide);have h1:=(qU (n:=[120]) (by decide) (by decide) (by decide)).cat h3 fun r _=>NX.cons _ (by decide);refine ((qT.cat (h2.cat h1 fun _ _=>trivial) fun _ _=>trivial).mono fun _ _=>trivial).of rfl ?_;show _=bu [fG,.mk 2 [110,116,104,45,99,104,105,108,100] 0 [] false [lf 1 [120] false]];rw[bD fG,uI (.mk 2 _ _ _ _ _),Br (show cw 2≠0 by decide)];rfl
theorem Wh:∀i,(kE (iz (dm 0 false)) (cN 0 false) false (iP i)).2=false
 | 0=>by kernel_rfl
 | 1=>by kernel_rfl
 | 2=>by kernel_rfl
 | 3=>by kernel_rfl
 | 4=>by kernel_rfl
 | 5=>by kernel_rfl
 | 6=>by kernel_rfl
 | 7=>by kernel_rfl
 | 8=>by kernel_rfl
 | _+9=>by kernel_rfl
theorem Pr:∀i,(kE (iz (dm 1 false)) (cN 1 false) false (iP i)).2=false
 | 0=>by kernel_rfl
 | 1=>by kernel_rfl
 | 2=>by kernel_rfl
 | 3=>by kernel_rfl
 | 4=>by kernel_rfl
 | 5=>by kernel_rfl
 | 6=>by kernel_rfl
 | 7=>by kernel_rfl
 | 8=>by kernel_rfl
 | _+9=>by kernel_rfl
def noC(v:Vl):Bool:=decide (v.kind≠18)
def lu(h:l.all noC=true):NC l:=fun v hv=>oN (At.1 h v hv)
theorem Uk:∀i,NC (iP i)
 | 0=>lu rfl
 | 1=>lu rfl
 | 2=>lu rfl
 | 3=>lu rfl
 | 4=>lu rfl
 | 5=>lu rfl
 | 6=>lu rfl
 | 7=>lu rfl
 | 8=>lu rfl
 | _+9=>lu rfl
def nA(h0:eL 0 l=false)(h1:eL 20 l=false)(h2:eL 22 l=false)(hd:dp l≤m):Sh m l:=⟨fun c hc=>by rcases hc with rfl|rfl|rfl<;>assumption,hd⟩
theorem LW:∀i,Sh 1 (iP i)
 | 0=>nA (by kernel_rfl) (by kernel_rfl) (by kernel_rfl) (by decide +kernel)
 | 1=>nA (by kernel_rfl) (by kernel_rfl) (by kernel_rfl) (by decide +kernel)
 | 2=>nA (by kernel_rfl) (by kernel_rfl) (by kernel_rfl) (by decide +kernel)
 | 3=>nA (by kernel_rfl) (by kernel_rfl) (by kernel_rfl) (by decide +kernel)
 | 4=>nA (by kernel_rfl) (by kernel_rfl) (by kernel_rfl) (by decide +kernel)
 | 5=>nA (by kernel_rfl) (by kernel_rfl) (by kernel_rfl) (by decide +kernel)
 | 6=>nA (by kernel_rfl) (by kernel_rfl) (by kernel_rfl) (by decide +kernel)
 | 7=>nA (by kernel_rfl) (by kernel_rfl) (by kernel_rfl) (by decide +kernel)
 | 8=>nA (by kernel_rfl) (by kernel_rfl) (by kernel_rfl) (by decide +kernel)
 | _+9=>nA (by kernel_rfl) (by kernel_rfl) (by kernel_rfl) (lT (by kernel_rfl))
theorem Mi:∀i,WB (mY i)
 | 0=>cR rfl
 | 1=>cR rfl
 | 2=>cR rfl
 | 3=>cR rfl
 | 4=>cR rfl
 | 5=>cR rfl
 | 6=>cR rfl
 | 7=>cR rfl
 | 8=>cR rfl
 | _+9=>cR rfl
theorem xU:∀i,(mY i).length≤13
 | 0=>by decide
 | 1=>by decide
 | 2=>by decide
 | 3=>by decide
 | 4=>by decide
 | 5=>by decide
 | 6=>by decide
 | 7=>by decide
 | 8=>by decide
 | _+9=>bY 13
theorem vT(b:List Vl):∀a:List Vl,dR (a++jW:: b)=dR a++dR b
 | []=>by rw[List.nil_append,dR.eq_def (jW:: b)];dsimp only;rw[if_pos (show jW.kind=18 from rfl),dR];rfl
 | v:: a=>by
   have ih:=vT b a;rw[abv,dR,dR,ih]
   by_cases h:v.kind=18
   ·rw[if_pos h,if_pos h];rfl
   ·rw[if_neg h,if_neg h];cases e:dR a with
    | nil =>
      exfalso;cases a with
      | nil=>rw[dR]at e;cases e
      | cons u a =>
        rw[dR]at e;split at e
        ·cases e
        ·split at e<;>cases e
    | cons x t=>rfl
theorem vG{cp:List Vl→Cx×Bool}{forg:Bool}(qs:List (List Vl)):∀(ps:List (List Vl)) (acc a:List Cx),fu cp forg ps acc=(a,true)→fu cp forg (ps++qs) acc=fu cp forg qs a
 | [],acc,a,h=>by rw[fu]at h;cases h;rfl
 | p:: ps,acc,a,h=>by
   rw[fu]at h;rw[abv,fu];split at h
   ·rename_i k;rw[if_pos k];exact vG qs ps _ a h
   ·rename_i k;rw[if_neg k];split at h
    ·rename_i z;rw[if_pos z];exact vG qs ps _ a h
    ·cases h
def FD(hd:d≤3)(rk:Rk d){has:Bool}(ok:cX d has false l=true)(g:jK l=true)(h:nR l=true)(hn:l≠[])(odd:(kE (iz (dm d has)) (cN d has) false (iP i)).2=false):
 kz (3-d) has (vL l++jW:: iP i) false true=(l,true)∧kz (3-d) has (vL l++jW:: iP i) false false=([],false)∧kz (3-d) has (iP i++jW:: vL l) false true=(l,true):=by
 have base:∀forg,fu (kE (iz (dm d has)) (cN d has) false) forg (dR (vL l)) []=(l,true):=fun forg=>by
  have:=rk has false forg l [] ok g h (fun e=>absurd e hn) (Or.inl rfl);rw[nw hd,List.nil_append]at this;exact this
 have so:dR (iP i)=[iP i]:=po _ (Uk i);refine⟨?_, ?_, ?_⟩
 ·rw[nw hd,vT,vG _ _ _ _ (base true),so,fu,odd,if_neg (by decide),if_pos rfl,fu]
 ·rw[nw hd,vT,vG _ _ _ _ (base false),so,fu,odd,if_neg (by decide),if_neg (by decide)]
 ·rw[nw hd,vT,so,List.singleton_append,fu,odd,if_neg (by decide),if_pos rfl,base true]
/-! ### Lists without lists stand at any depth -/
theorem aai(he:e≠3){has:Bool}:∀s:Sm,ic d has s=true→bo.nS s=0→ic e has s=true
 | .mk k n o v f a b w l,h,z=>by
   rw[bo.nS]at z;have hl:l=[]:=List.length_eq_zero_iff.1 (by omega);subst hl;rw[ic,NO]at h ⊢;refine⟨h.1, ?_⟩;have h2:=h.2;split
   ·rename_i q;rw[if_pos q]at h2;simp only[NO]at h2;rw[cX,Bool.and_true,h2.1.2,h2.1.1.2,oF he];rfl
   ·rfl
theorem PF(he:e≠3){has:Bool}:∀l:List Sm,jb d has l=true→bo.dN l=0→jb e has l=true
 | [],_,_=>by rw[jb]
 | s:: l,h,z=>by
   rw[bo.dN]at z;rw[jb,NO]at h ⊢;exact⟨aai he s h.1 (by omega),PF he l h.2 (by omega)⟩
theorem PE(he:e≠3){has:Bool}:∀l:List Cp,jQ d has l=true→bo.fC l=0→jQ e has l=true
 | [],_,_=>by rw[jQ]
 | .mk t ss:: l,h,z=>by
   rw[bo.fC,bo.nP]at z;rw[jQ,NO]at h ⊢;refine⟨?_,PE he l h.2 (by omega)⟩;have h1:=h.1;rw[cN,NO]at h1 ⊢;exact⟨h1.1,PF he ss h1.2 (by omega)⟩
theorem DR(he:e≠3){has rel:Bool}:∀l:List Cx,cX d has rel l=true→bo.dJ l=0→cX e has rel l=true
 | [],_,_=>by rw[cX]
 | .mk ld ps cs:: l,h,z=>by
   rw[bo.dJ,bo.nX]at z;rw[cX,NO]at h ⊢;refine⟨?_,DR he l h.2 (by omega)⟩;have h1:=h.1;rw[eS,NO]at h1 ⊢;exact⟨h1.1,PE he ps h1.2 (by omega)⟩
def fw(k:Int)(l:List Cx):Sm:=.mk k [] 0 [] false 0 0 false l
def NM(h7:7≤i)(h10:i<10)(h:kz 2 false v false (decide (i≤8))=(l,b)):iz (dm 0 false) (dY.getD i []) v=(fw (4+(i:Int)) l,b):=by
 have e:dm 0 false (4+(i:Int)) v (decide (4+(i:Int)=14)) (decide (4+(i:Int)≤12))=some (l,b):=by
  unfold dm;rw[if_pos (show ij 0 false (4+(i:Int))=true from rfl),nO (show ¬4+(i:Int)=14 by omega),show decide (4+(i:Int)≤12)=decide (i≤8) by rw[decide_eq_decide];omega];show some (kz 2 false v false (decide (i≤8)))=_;rw[h]
 unfold iz;dsimp only;rw[Hv i (by omega),if_neg (show ¬(i:Int)<5 by omega),if_neg (show ¬(i:Int)<7 by omega),e];rfl
def FP(fn:ae→List Vl→Sm×Bool)(n:ae)(v r:List Vl):di fn (fG:: .mk 2 n 0 [] false v:: r)=if (fn n v).2=true then iI (fn n v).1 (di fn r) else none:=by
 rw[di.eq_def];rfl
def Vn(q:List Vl):ep (fG:: q)=([],fG:: q):=by rw[ep,if_neg (show ¬fG.kind=1 by decide),uf (v:=fG) (fun h=>absurd (show (16:Int)=9 from h.1) (by decide))]
def VU(ha:kz 2 false a false true=(l,true))(hb:kz 2 false b false true=(l,true))(ok:cX 1 false false l=true):
 kE (iz (dm 0 false)) (cN 0 false) false [fG,.mk 2 [105,115] 0 [] false a,fG,.mk 2 [119,104,101,114,101] 0 [] false b]=(.mk 0 [.mk [] [fw 11 l,fw 12 l]] [],true):=by
 have f1:iz (dm 0 false) [105,115] a=(fw 11 l,true):=NM (i:=7) (by decide) (by decide) ha;have f2:iz (dm 0 false) [119,104,101,114,101] b=(fw 12 l,true):=NM (i:=8) (by decide) (by decide) hb;have es:di (iz (dm 0 false)) [fG,.mk 2 [105,115] 0 [] false a,fG,.mk 2 [119,104,101,114,101] 0 [] false b]=some ([fw 11 l,fw 12 l],[]):=by
  rw[FP,f1,if_pos rfl,FP,f2,if_pos rfl,di];rfl
 have op:cN 0 false (.mk [] [fw 11 l,fw 12 l])=true:=by
  rw[cN,jb,jb,jb,fw,fw,ic,ic,if_pos (by rfl),if_pos (by rfl),show (false||decide ((11:Int)=14))=false from rfl,show (false||decide ((12:Int)=14))=false from rfl,show decide ((11:Int)=14)=false from rfl,show decide ((12:Int)=14)=false from rfl,ok];rfl
 unfold kE;rw[nB (show fG.kind≠13 by decide)];dsimp only;rw[if_neg (by decide),jt.eq_def];dsimp only;rw[Vn,es];dsimp only;rw[if_pos op,Rm,if_pos rfl];rfl
def Tv(ha:kz 2 false a false false=(l,false)):(kE (iz (dm 0 false)) (cN 0 false) false [lf 1 [122] false,fG,.mk 2 [110,111,116] 0 [] false a]).2=false:=by
 have f1:iz (dm 0 false) [110,111,116] a=(fw 13 l,false):=NM (i:=9) (by decide) (by decide) ha;have es:di (iz (dm 0 false)) [fG,.mk 2 [110,111,116] 0 [] false a]=none:=by rw[FP,f1,if_neg (show ¬false=true by decide)]
 unfold kE;rw[nB (show (lf 1 [122] false).kind≠13 by rw[rm];decide)];dsimp only;rw[if_neg (by decide),jt.eq_def];dsimp only;rw[ep,if_pos (show (lf 1 [122] false).kind=1 from rfl)];dsimp only;rw[es]
def JQ{N:ae→Prop}(hf:TX (n++[40]) [⟨2,n,0,[],false⟩] Any)(h:TX x (bu v) N)(hN:∀r,N (41:: r)):TX (58:: (n++[40])++(x++[41])) (bu [fG,.mk 2 n 0 [] false v]) Any:=by
 have h3:TX [41] [⟨22,[],0,[],false⟩] Any:=lK (k:=6) (by decide) (by decide) (by decide) (by decide) (by decide);refine (qT.cat (hf.cat (h.cat h3 fun r _=>hN r) fun _ _=>trivial) fun _ _=>trivial).of (by simp) ?_;rw[bD fG,uI (.mk 2 _ _ _ _ _),Br (show cw 2≠0 by decide)];rfl
def JR(ok:cX 0 false false l=true)(g:jK l=true)(i:Nat):TX (fg l++([44]++mY i)) (bu (vL l++jW:: iP i)) En:=
 ((Vr ok g).cat (JP.cat (L8 i) fun _ _=>trivial) fun r _=>NX.cons _ (by decide)).of rfl (by rw[eZ,bD jW])
def WX(ok:cX 0 false false l=true)(g:jK l=true)(i:Nat):TX (mY i++([44]++fg l)) (bu (iP i++jW:: vL l)) NX:=
 ((L8 i).cat (JP.cat (Vr ok g) fun _ _=>trivial) fun r _=>En.co _).of rfl (by rw[eZ,bD jW])
def JE(ok:cX 0 false false l=true)(i:Nat):Sh 4 (vL l++jW:: iP i):=(Ow ok).app ((O7 4).cons ((LW i).mono (by decide)))
def WH(ok:cX 0 false false l=true)(i:Nat):Sh 4 (iP i++jW:: vL l):=((LW i).mono (by decide)).app ((O7 4).cons (Ow ok))
def JD(m:Nat):Sh m [fG]:=jH m (by decide) (by decide) (by decide)
def JU(ok:cX 0 false false l=true)(i:Nat):WB (fg l++([44]++mY i)):=(OP ok).app ((cR (by decide)).app (Mi i))
def Xc(ok:cX 0 false false l=true)(i:Nat):WB (mY i++([44]++fg l)):=(Mi i).app ((cR (by decide)).app (OP ok))
def UJ(ok:cX 0 false false l=true)(g:jK l=true)(h:nR l=true)(hn:l≠[])(h4:(fg l).length≤1900)(hs:s=fg l++([44]++mY i)):nv s=([],12)∨nv s=([],4):=by
 subst hs;have hS:=JE ok i;have r:=(FD (d:=0) (by decide) UK ok g h hn (Wh i)).2.1;have:=xU i;rw[DN (JU ok i) (F4 (JR ok g i) En.nil) (hS.1 0 (Or.inl rfl)) (aa7 hS.2 (by decide)),if_neg (by simp only[AT,aaP,abr];omega),show kz 3 false (vL l++jW:: iP i) false false=_ from r];dsimp only;split
 ·right;rfl
 ·rw[if_neg (by decide)];left;rfl
def UI(ok:cX 0 false false l=true)(g:jK l=true)(h:nR l=true)(hn:l≠[])(h0:bo.dJ l=0)(h20:l.length≤20)(h4:(fg l).length≤1900){i:Nat}{s:ae}
 (hs:s=58:: ([105,115]++[40])++((fg l++([44]++mY i))++[41])++(58:: ([119,104,101,114,101]++[40])++((mY i++([44]++fg l))++[41]))) :
 nv s=([.mk 0 [.mk [] [fw 11 l,fw 12 l]] []],0)∨nv s=([],4):=by
 have ok1:=DR (e:=1) (by decide) l ok h0;have t1:=JQ (n:=[105,115]) (rA (n:=[105,115]) (by decide) (by decide) (by decide)) (JR ok g i) fun r=>En.br r;have t2:=JQ (n:=[119,104,101,114,101]) (rA (n:=[119,104,101,114,101]) (by decide) (by decide) (by decide)) (WX ok g i) fun r=>NX.cons _ (by decide);have t3:=(t1.cat t2 fun _ _=>trivial).of hs.symm (by rw[←eZ]);have hS:Sh 5 ([fG,.mk 2 [105,115] 0 [] false (vL l++jW:: iP i)]++[fG,.mk 2 [119,104,101,114,101] 0 [] false (iP i++jW:: vL l)]):=
  ((JD 5).cons (uD (by decide) (.inl rfl) (JE ok i))).app ((JD 5).cons (uD (by decide) (.inl rfl) (WH ok i)))
 have w:WB s:=by
  rw[hs];exact ((cR (by decide)).app ((JU ok i).app (cR (by decide)))).app ((cR (by decide)).app ((Xc ok i).app (cR (by decide))))
 obtain⟨m1,_,m3⟩:=FD (d:=1) (by decide) Ol ok1 g h hn (Pr i);have r:kz 3 false ([fG,.mk 2 [105,115] 0 [] false (vL l++jW:: iP i)]++[fG,.mk 2 [119,104,101,114,101] 0 [] false (iP i++jW:: vL l)]) false false=([.mk 0 [.mk [] [fw 11 l,fw 12 l]] []],true):=by
  rw[nw (d:=0) (by decide),po _ (lu (by rfl)),fu];rw[show kE (iz (dm 0 false)) (cN 0 false) false ([fG,.mk 2 [105,115] 0 [] false (vL l++jW:: iP i)]++[fG,.mk 2 [119,104,101,114,101] 0 [] false (iP i++jW:: vL l)])=_ from VU m1 m3 ok1];dsimp only;rw[if_pos rfl,fu];rfl
 have hnum:¬64<number [.mk 0 [.mk [] [fw 11 l,fw 12 l]] []]:=by
  unfold number;simp only[bo.dJ,bo.nX,bo.fC,bo.nP,bo.dN,fw,bo.nS,aaP,abr,h0];omega
 have hlen:=xU i;rw[DN w (F4 t3 trivial) (hS.1 0 (Or.inl rfl)) (aa7 hS.2 (by decide)),if_neg (by rw[hs];simp only[AT,aaP,abr];omega),r];dsimp only;split
 ·right;rfl
 ·first|(rw[if_pos rfl,if_neg hnum];left;rfl)|(rw[if_neg hnum];left;rfl)|(left;rfl)
def Rb(ok:cX 0 false false l=true)(g:jK l=true)(h:nR l=true)(hn:l≠[])(h0:bo.dJ l=0)(h4:(fg l).length≤1900){i:Nat}{s:ae}
 (hs:s=[122]++(58:: ([110,111,116]++[40])++((fg l++([44]++mY i))++[41]))):nv s=([],12)∨nv s=([],4):=by
 have ok1:=DR (e:=1) (by decide) l ok h0;have t1:=JQ (n:=[110,111,116]) (rA (n:=[110,111,116]) (by decide) (by decide) (by decide)) (JR ok g i) fun r=>En.br r;have t3:=((qU (n:=[122]) (by decide) (by decide) (by decide)).cat t1 fun r _=>NX.cons _ (by decide)).of hs.symm (by rw[←eZ]);have hS:Sh 5 ([lf 1 [122] false]++[fG,.mk 2 [110,111,116] 0 [] false (vL l++jW:: iP i)]):=(jH 5 (by decide) (by decide) (by decide)).app ((JD 5).cons (uD (by decide) (.inl rfl) (JE ok i)));have w:WB s:=by
  rw[hs];exact (cR (by decide)).app ((cR (by decide)).app ((JU ok i).app (cR (by decide))))
 have m2:=(FD (d:=1) (by decide) Ol ok1 g h hn (Pr i)).2.1;have r:kz 3 false ([lf 1 [122] false]++[fG,.mk 2 [110,111,116] 0 [] false (vL l++jW:: iP i)]) false false=([],false):=by
  rw[nw (d:=0) (by decide),po _ (lu (by rfl)),fu];rw[show (kE (iz (dm 0 false)) (cN 0 false) false ([lf 1 [122] false]++[fG,.mk 2 [110,111,116] 0 [] false (vL l++jW:: iP i)])).2=false from Tv m2];rw[if_neg (by decide),if_neg (by decide)]
 have hlen:=xU i;rw[DN w (F4 t3 trivial) (hS.1 0 (Or.inl rfl)) (aa7 hS.2 (by decide)),if_neg (by rw[hs];simp only[AT,aaP,abr];omega),r];dsimp only;split
 ·right;rfl
 ·rw[if_neg (by decide)];left;rfl
def ER{sep:Nat→ae}(h:sep 0=[])(x:ae):gm sep [x]=x:=by
 unfold gm fj;simp[h]
def VC(l:List Cx):fg [.mk 0 [.mk [122] [fw 13 l]] []]=[122]++(58:: ([110,111,116]++[40])++(fg l++[41])):=by
 rw[fg,dC,dC,ER rfl,qe,dS,dS,ER rfl,sA,gJ,gJ,fw,jD,if_neg (by decide),if_neg (by decide),if_neg (by decide),if_neg (by decide),if_neg (by decide),if_neg (by decide),if_neg (by decide)];rw[show fD [122]=[122] by decide,show se 13 0 0 false=[] from rfl,show wz.getD ((13:Int)-4).toNat []=[58,110,111,116,40] from rfl,show gm ga (dC l)=fg l from rfl];simp
def Og(ok:cX 0 false false l=true)(g:jK l=true)(h:nR l=true)(hn:l≠[])(h0:bo.dJ l=0)(h20:l.length≤20)(h4:(fg l).length≤1900){s:ae}
 (hs:s=[122]++(58:: ([110,111,116]++[40])++(fg l++[41]))):nv s=([.mk 0 [.mk [122] [fw 13 l]] []],0)∨nv s=([],4):=by
 have ok1:=DR (e:=1) (by decide) l ok h0;have en:l.isEmpty=false:=by cases l with|nil=>exact absurd rfl hn|cons=>rfl
 have oky:cX 0 false false [.mk 0 [.mk [122] [fw 13 l]] []]=true:=by
  rw[cX,cX,eS,jQ,jQ,cN,jb,jb,fw,ic,if_pos (by rfl),show (false||decide ((13:Int)=14))=false from rfl,show decide ((13:Int)=14)=false from rfl,ok1,en];rfl
 have gy:jK [.mk 0 [.mk [122] [fw 13 l]] []]=true:=by
  rw[jK,jK,gX,tj,tj,gP,uo,uo,fw,gS,g];rfl
 have hy:nR [.mk 0 [.mk [122] [fw 13 l]] []]=true:=by
  rw[nR,nR,hX,AE,AE,hP,AF,AF,fw,hS,h];rfl
 have hnum:¬64<number [.mk 0 [.mk [122] [fw 13 l]] []]:=by
  unfold number;simp only[bo.dJ,bo.nX,bo.fC,bo.nP,bo.dN,fw,bo.nS,aaP,abr,h0];omega
 have r:=Wn oky gy hy (by simp) hnum;rw[VC,←hs]at r;rw[r,if_neg (by rw[hs];simp only[AT,aaP,abr];omega)];split
 ·right;rfl
 ·left;rfl
def Jy(hb:b=true)(q:X):cF b X:=by subst hb;exact q
def kW{m:Nat}{rows:List (List AV)}{n:Nat}{K:AV→Prop}(e:x=.sl m rows)(ei:i=i_ n)(hr:rows[n]?=some r)(q:K (.ip r)):aI m x i K:=gY (f:=id) (l:=rows) e (by simp) ei hr q
def Vx{A:(List AV→aa→Prop)→Prop}{F:List AV→aa→Prop}(Q:List AV→aa→Prop)(q:∀s g,Q s g→F s g)(a:∀J:List AV→aa→Prop,(∀s g,Q s g→J s g)→A J):aG A F:=aF (a F q)
def N9:List ae:=[[],[62,120],[49],[58,110,111,112,101],[97,32,98,32,62],[91,97,61,93],[46,53],[58,110,111,116,40,41],[97,58,58,98],[58,110,116,104,45,99,104,105,108,100,40,120,41]]
def QZ:∀i,i<10→N9[i]?=some (mY i):=by decide
def PN{K:AV→Prop}(q:K (.sl 1 (N9.map fun s=>[.str s]))):bt 10 1 (.str []) [(0,1,(.str [])),(1,1,(.str [62,120])),(2,1,(.str [49])),(3,1,(.str [58,110,111,112,101])),(4,1,(.str [97,32,98,32,62])),(5,1,(.str [91,97,61,93])),(6,1,(.str [46,53])),(7,1,(.str [58,110,111,116,40,41])),(8,1,(.str [97,58,58,98])),(9,1,(.str [58,110,116,104,45,99,104,105,108,100,40,120,41]))] K:=by
 unfold bt;simp[dP,gI,bh,bX,bG,chunks];exact q
section
variable [bp]
def Kn{w:Int}(zl:cQ l≤2^28)(gl:jK l=true)(hl:nR l=true):bn p_ 5 [.sl 3 (bL l),i_ w] tt:=by
 refine (V5 _ _).bj (by simp[gH,aO,Aw.Pure]) (by simp) ?_;unfold W5;have hel:(bL l).length=l.length:=by simp[cu]
 refine uCon (Km l (by omega)) (nI (b2:=!decide (iw l=0)) rfl rfl (fun F k=>uCon (Jb l (by omega)) (zzH ⟨rfl,k⟩)) (nI (b2:=decide ((20:Int)<(l.length:Int))) rfl rfl (fun F k=>cU rfl hel fun _=>fc rfl rfl ⟨rfl,k⟩) (nI (b2:=decide (w<0)) rfl rfl (fun F k=>cH rfl rfl ⟨rfl,k⟩) (nI (b2:=!decide ((number l:Int)=(l.length:Int))) rfl rfl (fun F k=>uCon (Ah l (by omega)) (zzf hel fun _=>dB rfl rfl ⟨rfl,k⟩)) ?_))));refine cq rfl (fun _=>yv) fun e=>?_;simp only[abx,Bool.not_eq_false',Of,decide_eq_false_iff_not]at e;obtain⟨⟨⟨⟨_,cl⟩,h20⟩,hw⟩,hnum⟩:=e;have h20:l.length≤20:=by omega
 have h0:bo.dJ l=0:=by unfold number at hnum;omega
 obtain⟨ok,hn,h64⟩:=M0 cl;obtain⟨t1,e1,ht1,h1,b1⟩:=Rp cl;have c1:=CH l zl gl;rw[ht1]at c1;refine uCon c1 (zzB rfl (zzB rfl (PN ?_)));refine zzf (n:=10) rfl fun _=>?_;obtain⟨i,hi,hi2⟩:∃i:Nat,i<10∧w.tmod 10=(i:Int):=⟨(w.tmod 10).toNat,by have:=Int.tmod_lt_of_pos w (show (0:Int)<10 by decide);omega,by have:=Int.tmod_nonneg (a:=w) 10 (by omega);omega⟩;refine FZ rfl rfl (by decide) hi2 (zzb (l:=N9) (f:=fun s=>[.str s]) rfl rfl (QZ i hi) (zzW (zzH (nI (b2:=decide ((1900:Int)<(t1.length:Int))) rfl rfl (fun F k=>nn rfl fun _=>fc rfl rfl ⟨rfl,k⟩) ?_))));refine cq rfl (fun _=>yv) fun e=>?_;simp only[abx,Bool.not_eq_false',Of,decide_eq_false_iff_not]at e;obtain⟨rfl,h19⟩:=e;obtain⟨_,rfl,l4⟩:=h1.resolve_right (by decide);have h19:(fg l).length≤1900:=by omega
 have hodd:=xU i;have cat:∀{a b:ae} {K:AV→Prop},a.length≤9000→b.length≤9000→K (.str (a++b))→ag .add (.str a) (.str b) K:=fun ha hb k=>J0 rfl rfl (by omega) k;refine cat (by omega) (by decide) (cat (by simp only[AT,aaP,abr];omega) (by omega) ?_);obtain⟨f,hf,hf2⟩:∃f,nv (fg l++[44]++mY i)=([],f)∧(f=12∨f=4):=(UJ ok gl hl hn h19 (i:=i) (by rw[To])).elim (fun h=>⟨_,h,.inl rfl⟩) fun h=>⟨_,h,.inr rfl⟩;refine uCon (rf hf) (zzB rfl (zzB rfl (cat (by decide) (by omega) (cat (by simp only[AT,aaP,abr];omega) (by decide) (cat (by simp only[AT,aaP,abr];omega) (by omega) (cat (by simp only[AT,aaP,abr];omega) (by decide) (cat (by simp only[AT,aaP,abr];omega) (by omega) (cat (by simp only[AT,aaP,abr];omega) (by decide) (cat (by simp only[AT,aaP,abr];omega) (by omega) (cat (by simp only[AT,aaP,abr];omega) (by decide) ?_))))))))));obtain⟨x,g,hx,hx2⟩:=FC (UI ok gl hl hn h0 h20 h19 (i:=i) (s:=[58,105,115,40]++fg l++[44]++mY i++[41,58,119,104,101,114,101,40]++mY i++[44]++fg l++[41]) (by simp));refine uCon (rf hx) (zzB rfl (zzB rfl (cat (by decide) (by omega) (cat (by simp only[AT,aaP,abr];omega) (by decide) ?_))));obtain⟨y,h,hy,hy2⟩:=FC (Og ok gl hl hn h0 h20 h19 (s:=[122,58,110,111,116,40]++fg l++[41]) (by simp));refine uCon (rf hy) (zzB rfl (zzB rfl (cat (by decide) (by omega) (cat (by simp only[AT,aaP,abr];omega) (by decide) (cat (by simp only[AT,aaP,abr];omega) (by omega) (cat (by simp only[AT,aaP,abr];omega) (by decide) ?_))))));obtain⟨j,hj,hj2⟩:∃j,nv ([122,58,110,111,116,40]++fg l++[44]++mY i++[41])=([],j)∧(j=12∨j=4):=(Rb ok gl hl hn h0 h19 (i:=i) (by simp)).elim (fun h=>⟨_,h,.inl rfl⟩) fun h=>⟨_,h,.inr rfl⟩;refine uCon (rf hj) (zzB rfl (zzB rfl ?_));have last:∀{A:Prop} {H:aa},aG (fun J=>aM tt true (bx p_ (.fn (.func 7) [] []) [] H fun v g=>J [tt,v] g) A) (fun s h=>bQ (nx s 0) (nx s 1) ff fun v=>dI tt v h):=
  aF (zzN rfl (uCon Ai (zzR (.pure (by simp) rfl))))
 refine zzH (nI (b2:=!decide (j=12)) rfl rfl (fun F k=>dB rfl rfl ⟨rfl,k⟩) ?_);refine cq rfl (fun e=>?_) fun e=>?_
 ·refine zzG ?_;rcases hf2 with rfl|rfl
  ·rcases hj2 with rfl|rfl
   ·exact absurd e (by decide)
   ·exact aF (zzN rfl (zzG (zzQ last)))
  ·exact aF (zzM rfl (zzR last))
 clear hf hj e;refine zzH (nI (b2:=!decide (h=0)) rfl rfl (fun F k=>dB rfl rfl ⟨rfl,k⟩) ?_);refine cq rfl (fun e=>?_) fun e=>?_
 ·refine zzG ?_;rcases hx2 with⟨rfl,_⟩|⟨rfl,_⟩
  ·rcases hy2 with⟨rfl,_⟩|⟨rfl,_⟩
   ·exact absurd e (by decide)
   ·exact aF (zzN rfl (zzG (zzQ last)))
  ·exact aF (zzM rfl (zzR last))
 simp only[abx,Bool.not_eq_false',Of]at e;obtain⟨rfl,rfl⟩:=e;obtain⟨_,rfl⟩:=hx2.resolve_right fun z=>absurd z.1 (by decide);obtain⟨_,rfl⟩:=hy2.resolve_right fun z=>absurd z.1 (by decide);have ex:bL [.mk 0 [.mk [] [fw 11 l,fw 12 l]] []]=[[u1 0,.sl 2 [[.str [],.sl 9 [du (fw 11 l),du (fw 12 l)]]],.sl 1 []]]:=by simp[bL,fJ,dn,gR,dQ]
 have ey:bL [.mk 0 [.mk [122] [fw 13 l]] []]=[[u1 0,.sl 2 [[.str [122],.sl 9 [du (fw 13 l)]]],.sl 1 []]]:=by simp[bL,fJ,dn,gR,dQ]
 have es:∀k,du (fw k l)=[u1 k,.str [],u1 0,.str [],ff,i_ 0,i_ 0,ff,.sl 3 (bL l)]:=fun k=>by rw[fw,du]
 rw[ex,ey];have sl:bn p_ 11 [.sl 3 (bL l),.sl 3 (bL l)] tt:=by
  have:=M7 (a:=l) (b:=l) (by omega) (by omega) ⟨_,_,_,ok⟩ ⟨_,_,_,ok⟩
  rwa [ta rfl]at this
 refine zzf (n:=1) rfl fun _=>?_;refine zzH (nI (b2:=false) rfl rfl (fun F k=>kW (n:=0) rfl rfl rfl (zzX (zzW (zzf (n:=1) rfl fun _=>dB rfl rfl ⟨rfl,k⟩)))) (nI (b2:=false) rfl rfl (fun F k=>kW (n:=0) rfl rfl rfl (zzX (zzW (kW (n:=0) rfl rfl rfl (zzX (zzW (zzf (n:=2) rfl fun _=>dB rfl rfl ⟨rfl,k⟩))))))) (nI (b2:=false) rfl rfl (fun F k=>cU (n:=1) rfl rfl fun _=>dB rfl rfl ⟨rfl,k⟩) (nI (b2:=false) rfl rfl (fun F k=>kW (n:=0) rfl rfl rfl (zzX (zzW (zzf (n:=1) rfl fun _=>dB rfl rfl ⟨rfl,k⟩)))) (nI (b2:=false) rfl rfl (fun F k=>kW (n:=0) rfl rfl rfl (zzX (zzW (kW (n:=0) rfl rfl rfl (zzX (zzW (zzf (n:=1) rfl fun _=>dB rfl rfl ⟨rfl,k⟩))))))) (zzK rfl ?_))))));refine Vx (fun s g=>∃(a b:Nat) (t u:TypeId),s=[.op a 0,.op b 0]∧g[a]?=some (.ak ⟨t,du (fw 11 l),true⟩)∧g[b]?=some (.ak ⟨u,du (fw 12 l),true⟩)) ?_ fun J hJ=>?_
 ·rintro s H ⟨a,b,t,u,rfl,ha,hb⟩;rw[es]at ha hb;refine zzA (zzU ha rfl (uCon sl (Md (b2:=true) rfl rfl (fun _ F k=>aH rfl (zzU hb rfl (uCon sl ⟨rfl,k⟩))) ?_)));refine aF (zzN rfl ?_);refine kW (n:=0) rfl rfl rfl (zzX (zzW (kW (n:=0) rfl rfl rfl (zzX (zzW (kW (n:=0) rfl rfl rfl ?_))))));rw[es];refine zzX (zzW ?_);refine uCon sl ?_;exact zzR last
 refine kW (n:=0) rfl rfl rfl (zzX (Jy rfl (zzW (kW (n:=0) rfl rfl rfl (zzX (Jy rfl (zzW (kW (n:=0) rfl rfl rfl (Jy rfl ?_))))))))) ;refine zN (cs:=du (fw 11 l)) rfl (by rw[es];exact bY 9) (by rw[es];rfl) ?_;refine kW (n:=0) rfl rfl rfl (zzX (zzW (kW (n:=0) rfl rfl rfl (zzX (zzW (kW (n:=1) rfl rfl rfl ?_))))));refine zN (cs:=du (fw 12 l)) rfl (by rw[es];exact bY 9) (by rw[es];rfl) ?_;have sc:∀k,(du (fw k l)).all bG=true:=fun k=>by rw[es];simp[bG]
 have ln:∀k,(du (fw k l)).length=9:=fun k=>by rw[es];rfl
 refine⟨?_, ?_⟩
 ·refine bT rfl (by simp[bG]) rfl rfl (bT rfl (by simp[bG]) rfl rfl (aU (cs:=du (fw 11 l)) rfl rfl rfl rfl (by rw[ln];exact bY 9) (ln _) (sc _) rfl (aU (cs:=du (fw 12 l)) rfl rfl rfl rfl (by rw[ln];exact bY 9) (ln _) (sc _) rfl ?_)));refine⟨rfl,hJ _ _ ⟨0,1,46,46,rfl, ?_, ?_⟩⟩
  ·rw[es];rfl
  ·rw[es];rfl
 ·refine bT rfl (by simp[bG]) rfl rfl (bT rfl (by simp[bG]) rfl rfl (aU (cs:=du (fw 11 l)) rfl rfl rfl rfl (by rw[ln];exact bY 9) (ln _) (sc _) rfl (aU (cs:=du (fw 12 l)) rfl rfl rfl rfl (by rw[ln];exact bY 9) (ln _) (sc _) rfl ?_)));refine⟨rfl,hJ _ _ ⟨1,0,46,46,rfl, ?_, ?_⟩⟩
  ·rw[es];rfl
  ·rw[es];rfl
end
end
section
open Go Go.Aw Go.bo Go.ChangeShapes Go.WideShapes Go.ChangeAt Go.RowKit
set_option maxRecDepth 100000 in
def wJ(os:Os)(started:os.Started)(H:Type)(enc:TypeId×Value→H)(F:Stop.Interp):
 ReturnsInHanded {} Tryz.checked os 5 .any (fun w args=>((Rows.OpenSpec.upto Rows.seltextPartsSpec).pre enc p_ Tryz.f5 Rows.seltextPartsUptoRow.domain false w args∧laidMetH p_ oy w)∧sizedMet enc p_ Tryz.f5 (Rows.OpenSpec.upto Rows.seltextPartsSpec) false w args)
  (((Rows.OpenSpec.upto Rows.seltextPartsSpec).at F).post enc p_ Tryz.f5 false true false false):=by
 refine wI (C:=Tryz.checked) (k:=Rows.uptoSmall) rfl (X:=fun w _=>laidMetH p_ oy w) (fun _ _ _ hh h=>h.of_heap hh) Oc started (by kernel_rfl) Tryz.func5
  (Gg (enc:=enc) (C:=Tryz.checked) (os:=os) (k:=Rows.uptoSmall) rfl (X:=fun w _=>laidMetH p_ oy w) false (World.laidAll p_ os oy) #[.slice none 0 0,.int .i64 0] 8 (World.laidAll_os _ _ _) (FU os _) (by kernel_rfl) (x:=([.nil,.lit (.int .i64 0)],[],[])) (by kernel_rfl) (by kernel_rfl) (by kernel_rfl) (by kernel_rfl) (L3 os _)) ?_
 intro W base args ds gs before hval0 hW hkk hL hsh;have hval:∀(j:Nat) t v,Tryz.f5.params[j]?=some t→args[j]?=some v→Value.okWide p_ W .any base t v:=hval0;have hW':=hW;obtain⟨p,q,hA0,hV,rfl,hfz,hnd⟩:=hW;have hA:DataW.TrodAll enc p_ W 0 (fun _=>true) true Tryz.f5.params.toList args.toList ds p:=hA0;rw[Tryz.params5]at hA hval;obtain⟨v0,vs,d0,ds',p0,p1,ea,rfl,rfl,h0,h1⟩:=trodAll_cons hA;obtain⟨v1,vs1,d1,ds1,p2,p3,ea1,rfl,rfl,h2,h3⟩:=trodAll_cons h1;obtain⟨rfl,rfl,rfl⟩:=trodAll_nil h3;have ea:args=#[v0,v1]:=by apply Array.ext';simpa[ea1]using ea
 subst ea;obtain⟨rfl,rfl⟩:=trodVars_none hV;have hv:=hval 0 22 v0 rfl rfl;have w1:=hval 1 3 v1 rfl rfl;obtain⟨f1,h2⟩:=h2;obtain⟨n,et1,_,hn⟩:=DataW.trod_int Tryz.underlying3 h2;have q1:v1=.int .i64 n:=by
  have e:v1.cells.toList=[v1]:=by
   cases v1<;>first|rfl|(simp[Value.okWide,Cell.okWide,Cell.ok,Tryz.underlying3]at w1)
  rw[e]at et1;simpa using et1
 subst q1;obtain⟨l,rl,hz,gl,hl⟩:=NZ (fun cs e=>by subst e;simp[Value.okWide,Cell.okWide,Cell.ok,Tryz.underlying22]at hv) (fun cs e=>by subst e;simp[Value.okWide,Cell.okWide,Cell.ok,Tryz.underlying22]at hv) h0;have hb:Rows.uptoBulk d0+Rows.uptoBulk d1≤1048576:=by
  simp only[Rows.uptoSmall,aaZ,Rows.uptoBulkAll,Of]at hkk;omega
 obtain⟨m,hm,hs⟩:=K6 hsh;obtain⟨er,TB,he,hes⟩:=TA hL
 letI:bp:=⟨m,er,TB⟩
 refine ((Kn (l:=l) (w:=n) (by omega) gl hl).calls (W:=W) (vs:=[v0,.int .i64 n]) (TG hL hm hs he hes) (by simpa using rl)).mono fun e W' ⟨he,hb⟩=>?_;exact⟨_,he,Lz NY (by kernel_rfl) (by kernel_rfl) (by kernel_rfl) Tryz.underlying4 hW' rfl hb⟩
end
end Go.Proofs.YtpcnidmmkknndaaGreatDoor
end
