/-
 A text made clean,whatever bytes it has.
 No conditions.
-/
import Derived.Test.YtpcnidmmkknndaaGreatDoorProg
import Derived.KernelRfl
import Derived.Test.YtpcnidmmkknndaaGreatDoorZe
import Derived.Test.YtpcnidmmkknndaaGreatDoorZd
import Derived.Test.YtpcnidmmkknndaaGreatDoorZc
set_option linter.unusedVariables false
set_option linter.unusedSimpArgs false
set_option linter.unusedSectionVars false
set_option linter.defProp false
set_option autoImplicit true
set_option maxRecDepth 1000000
set_option maxHeartbeats 16000000
open Go.Proofs.Tryz renaming prog→p_
noncomputable section
namespace Go.Proofs.YtpcnidmmkknndaaGreatDoor
section
open Go Go.Aw
def tT(c:UInt8):List UInt8:=if c=13∨c=12 then [10] else if c=0 then Rt.lS else [c]
def cQ:List UInt8→List UInt8
 | []=>[]
 | [c]=>tT c
 | c:: d:: r=>if c=13∧d=10 then 10:: cQ r else tT c++cQ (d:: r)
def nJ(h:¬(c=13∧r.head?=some 10)):cQ (c:: r)=tT c++cQ r:=by
 cases r with
 | nil=>simp[cQ]
 | cons d r =>
   rw[cQ,if_neg (by simpa using h)]
def C1(r:List UInt8):cQ (13:: 10:: r)=10:: cQ r:=by rw[cQ,if_pos ⟨rfl,rfl⟩]
def EI(c:UInt8):(tT c).length≤3:=by
 unfold tT;split
 ·simp
 ·split<;>simp[Rt.lS]
theorem rN:∀n (l:List UInt8),l.length≤n→(cQ l).length≤3*l.length
 | 0,l,h=>by have:=List.length_eq_zero_iff.1 (Nat.le_zero.1 h);subst this;simp[cQ]
 | n+1,l,h=>by
   match l,h with
   | [],_=>simp[cQ]
   | [c],_=>have:=EI c;simp only[cQ,abL,acp];omega
   | c:: d:: r,h =>
     rw[cQ];simp only[abL]at h ⊢;split
     ·have:=rN n r (by omega);simp only[abL];omega
     ·have:=rN n (d:: r) (by simp;omega);have:=EI c;simp only[AT,abL]at *;omega
variable [bq]
def Wr(T:aa)(w:List UInt8):Prop:=Tb T∧11≤T.length∧∃b cells,T[10]?=some (.ah ⟨320,[.own b 0 w.length 1],true⟩)∧b≠10∧9≤b∧T[b]?=some (.ah ⟨5,cells,true⟩)∧cells.take w.length=w.map bg∧w.length≤cells.length
omit [bq] in
def abg[Laid](hx:T[10]?=some (.ah ⟨320,[.own b 0 0 1],true⟩)):bX p_ 282 [.op 10 0,.str []] T fun r hh=>r=.aA [i_ 0,.v .nilIface]∧hh=T:=by
 intro base ι S w vs h1 h2
 match vs,h1 with
 | [],h1=>simp at h1
 | [v],h1=>simp at h1
 | v:: u:: x:: vs,h1=>simp at h1
 | [v,u],h1 =>
   simp only[bN,dq,and_true,eK]at h1;obtain⟨r1,rfl,_⟩:=h1;rw[ar]at r1;obtain⟨bb,hb,rfl⟩:=r1;obtain⟨v0,g0,q0,z0⟩:=cell_of h2 hx hb (o:=0) (c:=.own b 0 0 1) rfl;obtain⟨cap,ad,e0⟩:∃cap ad,v0=.slice ad 0 cap:=by
    have q1:=q0;rw[ar]at q1;obtain⟨_,a',cap',_,_,_,evx,_⟩:=q1;exact⟨cap',a',evx⟩
   subst e0;obtain⟨hE1,hH1⟩:=h2.set hx rfl hb (o:=0) (by simp) (c:=.own b 0 0 1) (v:=.slice ad 0 cap) q0;have hs:T.set 10 (.ah ⟨320,[AV.own b 0 0 1].set 0 (.own b 0 0 1),true⟩)=T:=kv hx;refine (Wy bb 0 w ad cap g0 z0).mono ?_;rintro e w' ⟨rfl,rfl⟩;refine⟨_,ι,S,.aA [i_ 0,.v .nilIface],T,rfl,hE1.mono ?_ (bY _), ?_, ?_,bY _,rfl,rfl⟩
   ·rw[h2.len];exact bY _
   ·rw[ar];exact⟨[.int .i64 0,.nilIface],rfl,by simp⟩
   ·rw[←hs];exact hH1
def Wv(wr:Wr T w)(m:List UInt8)(hm:0<w.length+m.length)(hl:w.length+m.length≤2^30):bX p_ 282 [.op 10 0,.str m] T fun r hh=>r=.aA [i_ m.length,.v .nilIface]∧Wr hh (w++m)∧T.length≤hh.length:=by
 obtain⟨tb,hT,b,cells,h10,hb10,hb9,hb,hc,hcl⟩:=wr;have hbl:=(eQ.1 hb).1;refine (aar _ _).bG ?_;unfold TL;simp only[nM,uF,h10,lR,List.drop_zero,Q8,CG,Ow,hb];refine⟨?_,⟨by simp;omega,by simpa using hm, ?_, ?_⟩⟩
 ·rw[List.all_map];exact At.2 fun x _=>by simp[dx,bT,bg]
 ·unfold jK maxLen;simp;omega
 have h10':(T.set b .dead++[aL.ah ⟨5,cells.take (w.length*1)++(m.map fun b=>[bg b]).flatten,true⟩])[10]?=some (.ah ⟨320,[.own b 0 w.length 1],true⟩):=by
  rw[gO (by simp;omega),iF hb10];exact h10
 have fm:∀l:List UInt8,(l.map fun b=>[bg b]).flatten=l.map bg:=qM;simp only[zj,abM];rw[h10'];refine⟨⟨rfl,by simp,by simp,by simp[bT]⟩, ?_⟩;simp only[BP];intro hmx;refine⟨_,_,Wk.refl _ _ _ (by simp),rfl, ?_,by simp⟩;refine⟨⟨by simp;omega,fun i hi=>?_⟩,by simp;omega,T.length,w.map bg++m.map bg, ?_,by omega,by omega, ?_, ?_,by simp⟩
 ·rw[iF (by omega),gO (by simp;omega),iF (by omega)];exact tb.2 i hi
 ·rw[iD (by simp;omega)];simp[cf]
 ·rw[iF (by omega),gT (by simp),fm];simp[hc]
 ·rw[MK (by simp)];simp
end
section
open Go Go.Aw
variable [bq]
omit [bq] in
def Ru(n:Nat)(h:n<256):(fu.getD n 0=4∨fu.getD n 0=1)∧n≠0∧n≠12∧n≠13∨(n=0∨n=12∨n=13):=by
 by_cases h0:n=0
 ·exact .inr (.inl h0)
 ·by_cases h1:n=12
  ·exact .inr (.inr (.inl h1))
  ·by_cases h2:n=13
   ·exact .inr (.inr (.inr h2))
   ·exact .inl ⟨U4 n h h0 h1 h2,h0,h1,h2⟩
def OH{T:aa}(t:Tb T){s:List UInt8}{i:Nat}(hi:i<s.length)(hc:s[i].toNat=0∨s[i].toNat=12∨s[i].toNat=13):∃(v:List UInt8) (kl:Nat),v≠[]∧0<kl∧i+kl≤s.length∧v.length≤3∧cQ (s.drop i)=v++cQ (s.drop (i+kl))∧bX p_ 269 [.op 3 0,.str (s.drop i),ff] T fun r hh=>r=Ik v kl true∧hh=T:=by
 have hd:s.drop i=s[i]:: s.drop (i+1):=acm hi;have hl:(s.drop (i+1)).length=s.length-(i+1):=by simp
 rcases hc with hc|hc|hc
 ·have e:s[i]=0:=UInt8.toNat_inj.1 hc;rw[e]at hd;refine⟨[239,191,189],1,by simp,by decide,hi,by simp, ?_,by rw[hd];exact aaR t _⟩;rw[hd,nJ (by simp)];rfl
 ·have e:s[i]=12:=UInt8.toNat_inj.1 hc;rw[e]at hd;refine⟨[10],1,by simp,by decide,hi,by simp, ?_,by rw[hd];exact Xa t _⟩;rw[hd,nJ (by simp)];rfl
 ·have e:s[i]=13:=UInt8.toNat_inj.1 hc;rw[e]at hd
  by_cases q:(s.drop (i+1)).head?=some 10
  ·obtain⟨r,hr⟩:∃r,s.drop (i+1)=10:: r:=by
    cases z:s.drop (i+1) with
    | nil=>rw[z]at q;simp at q
    | cons a b=>rw[z]at q;simp at q;exact⟨b,by rw[q]⟩
   have hr2:s.drop (i+2)=r:=by
    have:s.drop (i+1+1)=(s.drop (i+1)).drop 1:=by rw[List.drop_drop]
    rw[show i+2=i+1+1 from rfl,this,hr];rfl
   have hlen:0<(s.drop (i+1)).length:=by rw[hr];simp
   refine⟨[10],2,by simp,by decide,by omega,by simp, ?_,by rw[hd,hr];exact Rq t _⟩;rw[hd,hr,C1,hr2];rfl
  ·refine⟨[10],1,by simp,by decide,hi,by simp, ?_,by rw[hd];exact Xb t _ q⟩;rw[hd,nJ (by simpa using q)];rfl
omit [bq] in
def Js(h0:c.toNat≠0)(h1:c.toNat≠12)(h2:c.toNat≠13):tT c=[c]:=by
 unfold tT;rw[if_neg (by rintro (e|e)<;>rw[e]at h1 h2<;>simp at h1 h2),if_neg (by intro e;rw[e]at h0;simp at h0)]
def xK(wr:Wr T w)(m:List UInt8)(hl:w.length+m.length≤2^30):bX p_ 282 [.op 10 0,.str m] T fun r hh=>r=.aA [i_ m.length,.v .nilIface]∧Wr hh (w++m)∧T.length≤hh.length:=by
 by_cases h:0<w.length+m.length
 ·exact Wv wr m h hl
 ·have h1:w=[]:=List.length_eq_zero_iff.1 (by omega);have h2:m=[]:=List.length_eq_zero_iff.1 (by omega);subst h1;subst h2;obtain⟨tb,hT,b,cells,h10,r⟩:=wr;refine (abg h10).mono ?_;rintro v hh ⟨rfl,rfl⟩;exact⟨rfl,⟨tb,hT,b,cells,h10,r⟩,bY _⟩
def WE(s:List UInt8)(hl:s.length≤4000)(w0:Wr T0 []):bX p_ 267 [.op 3 0,.il 321 (.op 10 0),.str s] T0 fun r hh=>Wr hh (cQ s)∧T0.length≤hh.length:=by
 refine (aap _ _ _).bG ?_;unfold TJ;have ms:pf p_ "WriteString" 321=some 282:=Rx;refine⟨by kernel_rfl,(aas T0).mono ?_⟩;rintro r hh ⟨rfl,rfl⟩;have hcl:=rN s.length s (bY _);refine ba (α:=Nat×Nat×List UInt8×aa) (fun p=>p.1≤s.length+1∧p.2.1≤s.length∧p.2.1≤p.1∧Wr p.2.2.2 p.2.2.1∧hh.length≤p.2.2.2.length∧(p.2.2.1=[]→p.2.1=0)∧p.2.2.1++(s.take p.1).drop p.2.1++cQ (s.drop p.1)=cQ s) (fun p=>[i_ p.2.2.1.length,.v .nilIface,i_ p.2.1,ff,i_ p.1]) (fun p=>p.2.2.2) (fun p=>s.length+1-p.1) (0,0,[],hh) ⟨by simp,by simp,by simp,w0,bY _,fun _=>rfl,by simp⟩ (Wk.refl _ _ _ (by simp)) ?_;rintro⟨k,last,w,T⟩ ⟨hk,hla,hlk,wr,hT,hw0,he⟩;dsimp only at hk hla hlk wr hT hw0 he ⊢;have t:=wr.1;have g3:=t.b3;have g4:=t.b4;have hwl:w.length≤12000:=by
  have:=congrArg List.length he;simp only[AT]at this;omega
 have hk3:k<s.length∨k=s.length∨k=s.length+1:=by omega
 rcases hk3 with hk1|rfl|rfl
 ·have hne:k≠s.length:=by omega
  have hle:k≤s.length:=by omega
  have hni:¬(k:Int)=(s.length:Int):=by omega
  have hlt:s[k].toNat<256:=s[k].toNat_lt;have hr:=Vz _ hlt;have hlti:(s[k].toNat:Int)<256:=by omega
  have w4:IntKind.i64.wrap 4=4:=by decide
  have w1:IntKind.i64.wrap 1=1:=by decide
  have hin:aK ((k:Int)+1):=by unfold aK;omega
  rcases Ru _ hlt with⟨hm,o1,o2,o3⟩|hc
  ·have hnx:(s.take (k+1)).drop last=(s.take k).drop last++[s[k]]:=by
    rw[List.take_succ_eq_append_getElem hk1,List.drop_append_of_le_length (by simp;omega)]
   have hcl2:cQ (s.drop k)=s[k]:: cQ (s.drop (k+1)):=by
    rw[acm hk1,nJ (by intro z;rw[z.1]at o3;exact o3 rfl),Js o1 o2 o3];rfl
   have fin:∃y:Nat×Nat×List UInt8×aa,(y.1≤s.length+1∧y.2.1≤s.length∧y.2.1≤y.1∧Wr y.2.2.2 y.2.2.1∧hh.length≤y.2.2.2.length∧(y.2.2.1=[]→y.2.1=0)∧y.2.2.1++(s.take y.1).drop y.2.1++cQ (s.drop y.1)=cQ s)∧Wk (List.length hh) [i_ w.length,AV.v Value.nilIface,i_ last,ff,AV.v (Value.int IntKind.i64 (↑k+1))] T [i_ y.2.2.1.length,AV.v Value.nilIface,i_ y.2.1,ff,i_ y.1] y.2.2.2∧s.length+1-y.1<s.length+1-k:=
    ⟨(k+1,last,w,T),⟨by dsimp only;omega,hla,by dsimp only;omega,wr,hT,hw0,by dsimp only;rw[hnx,←he,hcl2];simp⟩,by simpa using Wk.refl _ _ _ hT,by dsimp only;omega⟩
   rcases hm with hm|hm
   ·rw[hm]at hr;simp[hne,hni,hle,hk1,g3,g4,su,tZ,ua,hr,hlti,w4];obtain⟨⟨ya,yb,yc,yd⟩,f1,f2,f3⟩:=fin;exact fun _=>⟨hin,ya,yb,yc,yd,by simpa using f1,f2,f3⟩
   ·rw[hm]at hr;simp[hne,hni,hle,hk1,g3,g4,su,tZ,ua,hr,hlti,w1,aba];obtain⟨⟨ya,yb,yc,yd⟩,f1,f2,f3⟩:=fin;exact fun _=>⟨hin,ya,yb,yc,yd,by simpa using f1,f2,f3⟩
  ·obtain⟨v,kl,hv,hk0,hkl,hvl,hce,A⟩:=OH t hk1 hc;have hb:dv p_ 269=true:=by kernel_rfl
   have w0:IntKind.i64.wrap 0=0:=by decide
   have w2:IntKind.i64.wrap 2=2:=by decide
   have w3:IntKind.i64.wrap 3=3:=by decide
   have hkl0:¬(kl:Int)=0:=by omega
   have hkl1:kl≠0:=by omega
   have hml:((s.take k).drop last).length≤4000:=by simp;omega
   have fin2:∀T2:aa,Wr T2 (w++(s.take k).drop last++v)→hh.length≤T2.length→∃y:Nat×Nat×List UInt8×aa,(y.1≤s.length+1∧y.2.1≤s.length∧y.2.1≤y.1∧Wr y.2.2.2 y.2.2.1∧hh.length≤y.2.2.2.length∧(y.2.2.1=[]→y.2.1=0)∧y.2.2.1++(s.take y.1).drop y.2.1++cQ (s.drop y.1)=cQ s)∧Wk (List.length hh) [i_ ((w.length:Int)+((s.take k).drop last).length+v.length),AV.v Value.nilIface,i_ ((k:Int)+kl),ff,i_ ((k:Int)+kl)] T2 [i_ y.2.2.1.length,AV.v Value.nilIface,i_ y.2.1,ff,i_ y.1] y.2.2.2∧s.length+1-y.1<s.length+1-k:=by
    intro T2 w2 h2;refine⟨(k+kl,k+kl,w++(s.take k).drop last++v,T2),⟨by dsimp only;omega,by dsimp only;omega,bY _,w2,h2,fun z=>?_, ?_⟩, ?_,by dsimp only;omega⟩
    ·exact absurd (List.append_eq_nil_iff.1 z).2 hv
    ·dsimp only;have z:(s.take (k+kl)).drop (k+kl)=[]:=List.drop_eq_nil_of_le (by simp;omega);rw[z,←he,hce];simp
    ·have e:[i_ ((w.length:Int)+((s.take k).drop last).length+v.length),AV.v Value.nilIface,i_ ((k:Int)+kl),ff,i_ ((k:Int)+kl)]=[i_ (((w++(s.take k).drop last++v).length:Nat):Int),AV.v Value.nilIface,i_ ((k+kl:Nat):Int),ff,i_ ((k+kl:Nat):Int)]:=by
      rw[AT,AT];simp only[Int.natCast_add]
     rw[e];exact Wk.refl _ _ _ h2
   have i1:aK ((w.length:Int)+((s.take k).drop last).length):=by unfold aK;omega
   have i2:aK ((w.length:Int)+((s.take k).drop last).length+v.length):=by unfold aK;omega
   have i3:aK ((k:Int)+kl):=by unfold aK;omega
   obtain⟨m,hm⟩:∃m,(s.take k).drop last=m:=⟨_,rfl⟩;rw[hm]at hml fin2 i1 i2;have W1:=xK wr m (by omega);rcases hc with hc|hc|hc
   ·have hm0:fu.getD s[k].toNat 0=0:=by rw[hc];kernel_rfl
    rw[hm0]at hr;simp[hne,hni,hle,hk1,g3,g4,su,tZ,ua,hr,hlti,w0,tb];refine fun _=>⟨hb,A.mono ?_⟩;rintro r h' ⟨rfl,rfl⟩;simp[hkl1,hlk,ms,hm];refine W1.mono ?_;rintro r T1 ⟨rfl,wr1,hT1⟩;simp[i1];refine (xK wr1 v (by simp;omega)).mono ?_;rintro r T2 ⟨rfl,wr2,hT2⟩;simp[i2,i3];obtain⟨⟨ya,yb,yc,yd⟩,f1,f2,f3⟩:=fin2 T2 wr2 (by omega);exact⟨ya,yb,yc,yd,by simpa using f1,f2,f3⟩
   ·have hm0:fu.getD s[k].toNat 0=2:=by rw[hc];kernel_rfl
    rw[hm0]at hr;simp[hne,hni,hle,hk1,g3,g4,su,tZ,ua,hr,hlti,w2,tb];refine fun _=>⟨hb,A.mono ?_⟩;rintro r h' ⟨rfl,rfl⟩;simp[hkl1,hlk,ms,hm];refine W1.mono ?_;rintro r T1 ⟨rfl,wr1,hT1⟩;simp[i1];refine (xK wr1 v (by simp;omega)).mono ?_;rintro r T2 ⟨rfl,wr2,hT2⟩;simp[i2,i3];obtain⟨⟨ya,yb,yc,yd⟩,f1,f2,f3⟩:=fin2 T2 wr2 (by omega);exact⟨ya,yb,yc,yd,by simpa using f1,f2,f3⟩
   ·have hm0:fu.getD s[k].toNat 0=3:=by rw[hc];kernel_rfl
    rw[hm0]at hr;simp[hne,hni,hle,hk1,g3,g4,su,tZ,ua,hr,hlti,w3,tb];refine fun _=>⟨hb,A.mono ?_⟩;rintro r h' ⟨rfl,rfl⟩;simp[hkl1,hlk,ms,hm];refine W1.mono ?_;rintro r T1 ⟨rfl,wr1,hT1⟩;simp[i1];refine (xK wr1 v (by simp;omega)).mono ?_;rintro r T2 ⟨rfl,wr2,hT2⟩;simp[i2,i3];obtain⟨⟨ya,yb,yc,yd⟩,f1,f2,f3⟩:=fin2 T2 wr2 (by omega);exact⟨ya,yb,yc,yd,by simpa using f1,f2,f3⟩
 ·have hin:aK ((s.length:Int)+1):=by unfold aK;omega
  have hb:dv p_ 269=true:=by kernel_rfl
  simp[g3,g4,su,tZ,ua];intro _;refine⟨hb,(UZ t).mono ?_⟩;rintro r h' ⟨rfl,rfl⟩;simp[hin];refine⟨s.length+1,last,w,h',⟨by omega,hla,by omega,wr,hT,hw0, ?_⟩,Wk.refl _ _ _ hT,by omega⟩;have hd:s.drop (s.length+1)=[]:=List.drop_of_length_le (by omega);have ht:s.take (s.length+1)=s:=MK (by omega);rw[hd,ht];rw[BY,List.drop_length]at he;simpa using he
 ·have hgt:¬((s.length:Int)+1≤(s.length:Int)):=by omega
  have hd:s.drop (s.length+1)=[]:=List.drop_of_length_le (by omega);have ht:s.take (s.length+1)=s:=MK (by omega);rw[hd,ht]at he;refine zzZ fun _=>?_;refine zzD (zzK (nO (by omega)) ?_);refine zzZ fun _=>?_;refine zzH ?_
  by_cases hs:last=s.length
  ·refine zzK (by simp[hs]) ?_;refine⟨_,_,Wk.refl _ _ _ hT, ?_,hT⟩;rw[←he,hs,List.drop_length];simpa[cQ]using wr
  ·refine zzL (by simp;omega) (oK (a:=last) (b:=s.length) (r:=s.drop last) rfl rfl rfl (by omega) (bY _) (by rw[BY]) ?_);simp only[Re,ms,Ls,Option.isSome_some,true_and];refine (xK wr (s.drop last) (by simp;omega)).mono ?_;rintro r T2 ⟨rfl,wr2,hT2⟩;refine bl rfl rfl (bl rfl rfl (zzP (by unfold aK;simp;omega) ?_));refine⟨_,_,Wk.refl _ _ _ (by omega), ?_,by omega⟩;rw[←he];simpa[cQ]using wr2
end
section
open Go Go.Aw
variable [bq]
def WD(s:List UInt8)(hl:s.length≤4000):bX p_ 266 [.op 3 0,.str s] (Ha 1 0) fun r hh=>r=.str (cQ s)∧9≤hh.length:=by
 refine (aao _ _).bG ?_;unfold TI;have hb:dv p_ 267=true:=by kernel_rfl
 have hH:∀x y:aL,Ha 1 0++[x]++[y]=G x y:=fun x y=>rfl;have hL:(Ha 1 0).length=9:=rfl;have hL1:∀x:aL,(Ha 1 0++[x]).length=10:=fun _=>rfl;have hi:∀x y:aL,(Ha 1 0++[x]++[y])[10]?=some y:=fun _ _=>rfl;have hs:∀x y z:aL,(Ha 1 0++[x]++[y]).set 10 z=G x z:=fun _ _ _=>rfl;simp only[BP,Rc,UI,bh,zj,UH,hL,hL1,hi,hs,cf,List.set,Mk,Int.toNat_zero];have w0:Wr (G (.ah ⟨5,ic s.length [u8 0],true⟩) (.ah ⟨320,[.own 9 0 0 1],true⟩)) []:=by
  refine⟨⟨by rw[Pw];decide,fun i hi=>?_⟩,by rw[Pw];decide,9,_,rfl,by decide,by decide,rfl,rfl,abY _⟩;rcases (by omega:i=0∨i=1∨i=2∨i=3∨i=4∨i=5∨i=6∨i=7∨i=8) with rfl|rfl|rfl|rfl|rfl|rfl|rfl|rfl|rfl<;>rfl
 refine fun _=>⟨⟨by omega,by omega,by omega,by omega⟩,by simp[bT],⟨by simp[bT],hb,(WE s hl w0).mono ?_⟩⟩;rintro r h' ⟨wr,hh⟩;obtain⟨tb,hT,b,cells,h10,hb10,hb9,hbk,hc,hcl⟩:=wr;have hf:=jl 1 (cQ s).length cells (by omega);simp only[uF,h10,lR,List.drop_zero,cR,Gs,hbk,Nat.mul_one,ab0,hcl,and_self,if_true,Option.bind_some,hf.1,true_and];rw[hc,nQ_];exact⟨_,_,Wk.refl _ _ _ (by omega),rfl,by omega⟩
def aat(s:List UInt8)(hl:s.length≤4000):bX p_ 58 [.op 2 0,.str s] (Hb 0) fun r hh=>r=.str (cQ s):=by
 refine (V58 _ _).bG ?_;unfold YS;simp only[nM,rW];refine⟨by kernel_rfl,Nf.mono ?_⟩;rintro r hh ⟨rfl,rfl⟩;have h2:(Ha 1 0)[2]?=some (.ah (tH 1 0 (.il 212 (.op 3 0)) (.v (.slice none 0 0)))):=rfl;simp only[uF,h2,tH,ab0,List.drop_succ_cons,List.drop_zero,lR,Ls,Rw];refine (WD s hl).mono ?_;rintro r hh ⟨rfl,hq⟩;exact⟨_,_,Wk.refl _ _ _ (ab3 (by decide) hq),rfl⟩
def JA(s:List UInt8)(hl:s.length≤4000):bn p_ 42 [.str s] (.aA [.str (cQ s),i_ 0]):=by
 refine (X5 _).bj (by simp) (by simp) ?_;unfold TM;have hn:¬(4000:Int)<(s.length:Int):=by omega
 simp[hn];refine fun _=>⟨by kernel_rfl,Qs.mono ?_⟩;rintro r hh ⟨rfl,rfl⟩;refine⟨by kernel_rfl,(aat s hl).mono ?_⟩;rintro r hh rfl;exact .pure (by simp) rfl
end
section
open Go Go.Aw Go.RowKit
theorem yy(m:UInt8)(s:ae):∀n j,s.length-j≤n→j≤s.length→j≤(Rt.gL m s j).2∧(Rt.gL m s j).2≤s.length
 | 0,j,hn,hj=>by rw[Rt.gL,dif_neg (by omega)];exact⟨bY _,hj⟩
 | n+1,j,hn,hj=>by
   by_cases h:j<s.length
   ·rw[Rt.gL,dif_pos h];split
    ·dsimp only;omega
    ·split
     ·dsimp only;omega
     ·split
      ·split
       ·dsimp only;omega
       ·split
        ·have:=yy m s n (j+2) (by omega) (by omega);omega
        ·show j≤(Rt.gL m s (Rt.cV s j).2).2∧_≤_;have h1:=Rt.fi s j;have h2:=lL h;have:=yy m s n (Rt.cV s j).2 (by omega) h2;exact⟨by omega,this.2⟩
      ·show j≤(Rt.gL m s (j+1)).2∧_≤_;have:=yy m s n (j+1) (by omega) h;exact⟨by omega,this.2⟩
   ·rw[Rt.gL,dif_neg h];exact⟨bY _,hj⟩
theorem xP(s:ae):∀n i,s.length-i≤n→i≤s.length→i≤Rt.lO s i
 | 0,i,hn,hi=>by rw[Rt.lO,dif_neg (by omega)];omega
 | n+1,i,hn,hi=>by
   rw[Rt.lO];split
   ·rename_i h;split
    ·omega
    ·split
     ·have:=Rt.fi s i;have:=xP s n _ (by omega) (lL h);omega
     ·have:=xP s n (i+1) (by omega) h;omega
   ·omega
theorem CP(s:ae):∀n j,s.length-j≤n→j≤s.length→j≤(Rt.iU s j).2∧(Rt.iU s j).2≤s.length
 | 0,j,hn,hj=>by rw[Rt.iU,dif_neg (by omega)];dsimp only;omega
 | n+1,j,hn,hj=>by
   by_cases h:j<s.length
   ·have hsp:=rp hj;rw[Rt.iU,dif_pos h];split
    ·dsimp only;omega
    ·split
     ·split
      ·have:=vd s s.length (Rt.dU s j) (by omega) hsp.2;have:=xP s s.length (Rt.dU s j) (by omega) hsp.2;dsimp only;omega
      ·dsimp only;omega
     ·split
      ·have:=vd s s.length j (by omega) hj;have:=xP s s.length j (by omega) hj;dsimp only;omega
      ·split
       ·show j≤(Rt.iU s (Rt.cV s j).2).2∧_≤_;have h1:=Rt.fi s j;have h2:=lL h;have:=CP s n (Rt.cV s j).2 (by omega) h2;exact⟨by omega,this.2⟩
       ·show j≤(Rt.iU s (j+1)).2∧_≤_;have:=CP s n (j+1) (by omega) h;exact⟨by omega,this.2⟩
   ·rw[Rt.iU,dif_neg h];dsimp only;omega
def R0(h:Rt.eU (Rt.ay s i)=true):i<Rt.dU s i:=by
 have he:=CE (p:=uR) (by decide) s i;rw[IK,Bi]at he;rcases uP i (Rt.dU s i) with q|q
 ·exact q
 ·have:Rt.dU s i=i:=by unfold Rt.dU at q ⊢;omega
  rw[this,h]at he;cases he
def RA(hi:i<s.length)(h:Rt.gd s i=true):i<(Rt.cZ s i).2:=by
 have hat:=jz hi;rw[Rt.cZ,dif_pos hi];split
 ·have:=(pg s s.length (i+1) (by omega) hi).1;dsimp only;omega
 ·rename_i q;have e:Rt.cC s i=true:=by
   have q:Rt.eX s[i]=false:=by simpa using q
   unfold Rt.eX at q;simp only[acv,decide_eq_false_iff_not]at q;unfold Rt.gd at h;rw[hat]at h;rw[if_neg q.2,q.1.1]at h;simpa using h
  rw[if_pos e];have h1:=Rt.fi s i;have:=(pg s s.length (Rt.cV s i).2 (by omega) (lL hi)).1;dsimp only;omega
def Ss(hi:i<s.length)(h:Rt.gd s i=true):i<(nI s i).2∧(nI s i).2≤s.length:=by
 have h1:=RA hi h;have h2:=(pg s s.length i (by omega) (by omega)).2;unfold nI;dsimp only;split
 ·exact⟨h1,h2⟩
 ·rename_i q;have q':Rt.ay s (Rt.cZ s i).2=40:=by
   by_cases q2:Rt.ay s (Rt.cZ s i).2=40
   ·exact q2
   ·exact absurd q2 q
  have h3:(Rt.cZ s i).2<s.length:=at_lt (by rw[q'];decide);split
  ·have h4:=rp (s:=s) (i:=(Rt.cZ s i).2+1) h3;have:=CP s s.length (Rt.dU s ((Rt.cZ s i).2+1)) (by omega) h4.2;dsimp only;omega
  ·dsimp only;omega
def RE(hi:i<s.length)(h:Rt.kL s i=true):i<(jE s i).2∧(jE s i).2≤s.length:=by
 have h0:=(Bb hi h).1;have h4:=(Ci (s:=s) (i:=i) (by omega)).2;unfold jE;dsimp only;split
 ·have:=pg s s.length (Rt.iP s i).1 (by omega) h4;dsimp only;omega
 ·split
  ·rename_i q;have:(Rt.iP s i).1<s.length:=at_lt (by rw[q];decide);dsimp only;omega
  ·dsimp only;omega
def rm(hi:i<s.length):i<(fQ s i).2∧(fQ s i).2≤s.length:=by
 unfold fQ;dsimp only;split
 ·rename_i q;exact⟨R0 q,(rp (by omega)).2⟩
 ·split
  ·have:=yy (Rt.ay s i) s s.length (i+1) (by omega) hi;dsimp only;omega
  ·split
   ·have:=pg s s.length (i+1) (by omega) hi;dsimp only;omega
   ·split
    ·rename_i q;exact RE hi q
    ·split
     ·rename_i q;have:=rV (x:=[45,45,62]) q (by decide);simp at this;dsimp only;omega
     ·split
      ·rename_i q;have:=rV (x:=[60,33,45,45]) q (by decide);simp at this;dsimp only;omega
      ·split
       ·have:=pg s s.length (i+1) (by omega) hi;dsimp only;omega
       ·split
        ·rename_i q;exact Ss hi q
        ·split<;>(dsimp only;omega)
def kE(s:ae)(i:Nat):List Tok:=
 if h:i<s.length then (fQ s i).1:: kE s (Rt.fe s (fQ s i).2) else []
termination_by s.length-i
decreasing_by
 have h1:=rm h;have:=po s s.length (fQ s i).2 (by omega) h1.2;omega
def gi(s:ae):List Tok×Int:=if 4000<s.length then ([],28) else if 1500<(kE (cQ s) (Rt.fe (cQ s) 0)).length then ([],4) else (kE (cQ s) (Rt.fe (cQ s) 0),0)
def yO(l:List Tok):AV:=if l=[] then .v (.slice none 0 0) else .sl 5 (cU l)
section
variable [Laid]
def sK(cap:Nat)(H:aa)(done:List Tok):Prop:=
 (done=[]∧H[cap]?=some (.ah ⟨51,[.v (.slice none 0 0)],true⟩))∨∃tid,done≠[]∧H[cap]?=some (.ah ⟨51,[.sb tid 5 (cU done)],true⟩)∧H[tid]?=some (aL.tok 70 5 done.length)
omit [Laid] in
def sK.other{cap:Nat}{done:List Tok}(c:sK cap H done)(hc:H'[cap]?=H[cap]?)(ho:∀(tid n:Nat),H[tid]?=some (aL.tok 70 5 n)→H'[tid]?=some (aL.tok 70 5 n)):sK cap H' done:=by
 rcases c with⟨h1,h2⟩|⟨tid,hd,h1,h2⟩
 ·exact .inl ⟨h1,by rw[hc];exact h2⟩
 ·exact .inr ⟨tid,hd,by rw[hc];exact h1,ho _ _ h2⟩
omit [Laid] in
def sK.app{cap:Nat}{done:List Tok}(c:sK cap H done)(j:aa):sK cap (H++j) done:=by
 have hl:∀{i:Nat} {x:aL},H[i]?=some x→(H++j)[i]?=some x:=fun h=>by
  rw[gO (eQ.1 h).1];exact h
 rcases c with⟨h1,h2⟩|⟨tid,hd,h1,h2⟩
 ·exact .inl ⟨h1,hl h2⟩
 ·exact .inr ⟨tid,hd,hl h1,hl h2⟩
omit [Laid] in
def sK.mv{cap id b:Nat}{done:List Tok}(c:sK cap H done)(sc:Sc id H s a)(hne:cap≠id)(m:Mv id s b H H'):sK cap H' done:=by
 have hl:cap<H.length:=by rcases c with⟨_,h2⟩|⟨_,_,h2,_⟩<;>exact (eQ.1 h2).1
 refine c.other (m.other hl hne) fun tid n ht=>?_;rw[m.other (eQ.1 ht).1 (fun q=>by subst q;unfold Sc at sc;rw[ht]at sc;cases sc)];exact ht
omit [Laid] in
def Hi{x:Tok}{K:AV→Prop}(q:K (.sl 5 [x.row])):bt 1 5 (.agg [(u8 0),(.str []),(i_ 0),(.str []),ff]) [(0,5,x.av)] K:=by
 have e:dS (ic 1 (bh (.agg [(u8 0),(.str []),(i_ 0),(.str []),ff]))) [(0,5,x.av)]=some x.row:=by simp[dS,ic,bh,cf,bT]
 unfold bt;rw[e];exact q
def US{cap id:Nat}{H:aa}{s:ae}{a:Nat}{done:List Tok}{t:Tok}{y z:AV}{K:AV→aa→Prop}(c:sK cap H done)(sc:Sc id H s a)(hne:cap≠id)(hn:done.length≤2^20)
 (k:∀H',sK cap H' (done++[t])→Sc id H' s a→H.length≤H'.length→K (.aA []) H'):bx p_ (.fn (.func 28) [] [.op cap 0]) [t.av,y,z] H K:=by
 have hb:dv p_ 28=true:=by kernel_rfl
 refine⟨hb, ?_⟩;show bX _ _ ([]++[t.av,y,z]++[.op cap 0]) _ _;have hl:cap<H.length:=by rcases c with⟨_,h2⟩|⟨_,_,h2,_⟩<;>exact (eQ.1 h2).1
 refine bX.mono (K:=fun v H' => v=.aA []∧sK cap H' (done++[t])∧Sc id H' s a∧H.length≤H'.length) ?_ (by rintro _ H' ⟨rfl,h1,h2,h3⟩;exact k H' h1 h2 h3);refine (V28 t.av y z (.op cap 0)).bG ?_;unfold Yp;refine ca (cs:=t.row) (n:=H.length) (h':=H++[.ah ⟨70,t.row,true⟩]) rfl (by simp[bT]) rfl rfl ?_;have hV:(H++[aL.ah ⟨70,t.row,true⟩])[H.length]?=some (.ah ⟨70,t.row,true⟩):=by simp
 have scA:=sc.app [aL.ah ⟨70,t.row,true⟩];rcases c.app [aL.ah ⟨70,t.row,true⟩] with⟨rfl,h2⟩|⟨tid,hdn,h1,h2⟩
 ·refine zzU h2 rfl (zzV hV (by simp) (Hi ?_));have ap:∀{KH:AV→aa→Prop},KH (.sb (H++[aL.ah ⟨70,t.row,true⟩]).length 5 [t.row]) (H++[aL.ah ⟨70,t.row,true⟩]++[aL.tok 70 5 1])→bR false 70 5 56 (.v (.slice none 0 0)) (.sl 5 [t.row]) (H++[aL.ah ⟨70,t.row,true⟩]) KH:=by
   intro KH q;unfold bR eM;rw[gQ];exact⟨pq [t],⟨by simp[maxLen],by simp⟩,q⟩
  refine ap ?_;have hlt:cap<(H++[aL.ah ⟨70,t.row,true⟩]++[aL.tok 70 5 1]).length:=by simp;omega
  refine aW (cs:=[.sb (H++[aL.ah ⟨70,t.row,true⟩]).length 5 [t.row]]) (h':=(H++[aL.ah ⟨70,t.row,true⟩]++[aL.tok 70 5 1]).set cap (.ah ⟨51,[.sb (H++[aL.ah ⟨70,t.row,true⟩]).length 5 [t.row]],true⟩)) rfl (by rw[gO (by simp;omega)];exact h2) rfl rfl (by simp) rfl rfl rfl ?_;refine⟨_,_,Wk.refl _ _ _ (by simp),rfl,.inr ⟨_,by simp,iD hlt, ?_⟩, ?_,by simp⟩
  ·rw[iF (by simp;omega),gT (bY _)];simp
  ·unfold Sc;rw[iF hne];exact scA.app _
 ·refine zzU h1 rfl (zzV hV (by simp) (Hi ?_));have htc:tid≠cap:=fun q=>by subst q;rw[h2]at h1;cases h1
  have hti:tid≠id:=fun q=>by subst q;unfold Sc at scA;rw[h2]at scA;cases scA
  have hl2:=(eQ.1 h2).1;refine A9 (rows:=[t.row]) (k:=done.length) rfl h2 (by simp) gQ (pq [t]) ⟨by unfold maxLen;simp;omega,by simp;omega⟩ rfl ?_;refine aW (cs:=[.sb tid 5 (cU done++[t.row])]) (h':=((H++[aL.ah ⟨70,t.row,true⟩]).set tid (aL.tok 70 5 (done.length+[t.row].length))).set cap (.ah ⟨51,[.sb tid 5 (cU done++[t.row])],true⟩)) rfl (by rw[iF htc];exact h1) rfl rfl (by simp) rfl rfl rfl ?_;refine⟨_,_,Wk.refl _ _ _ (by simp),rfl,.inr ⟨tid,by simp, ?_, ?_⟩, ?_,by simp⟩
  ·rw[iD (by simp;omega)];simp
  ·rw[iF (Ne.symm htc),iD hl2];simp
  ·unfold Sc;rw[iF hne,iF hti];exact scA
end
variable [bq]
def GU(s:ae):bn p_ 17 [.str s] (.aA [yO (gi s).1,i_ (gi s).2]):=by
 refine (V17 _).bj (by simp) ?_ ?_
 ·simp only[Aw.Pure,aR,and_true];unfold yO;split
  ·simp
  ·exact kX _
 unfold Yf;refine ca (cs:=[.v (.slice none 0 0)]) (n:=0) (h':=[.ah ⟨51,[.v (.slice none 0 0)],true⟩]) rfl rfl rfl rfl ?_;have read:bX p_ 27 [.str s,.fn (.func 28) [] [.op 0 0]] [.ah ⟨51,[.v (.slice none 0 0)],true⟩] fun v H=>v=i_ (gi s).2∧((gi s).2=0→sK 0 H (gi s).1):=by
  refine (V27 _ _).bG ?_;unfold Yo
  by_cases q:4000<s.length
  ·have e:gi s=([],28):=by unfold gi;rw[if_pos q]
   rw[e];refine uCon (Ju s q) (bl rfl rfl (bl rfl rfl (zzH (zzL rfl ?_))));exact⟨_,_,Wk.refl _ _ _ (bY _),rfl,fun z=>by cases z⟩
  refine uCon (JA s (by omega)) ?_;obtain⟨c,hc⟩:∃c,cQ s=c:=⟨_,rfl⟩;have hcl:c.length≤12000:=by have:=rN s.length s (bY _);rw[hc]at this;omega
  have he:gi s=if 1500<(kE c (Rt.fe c 0)).length then ([],4) else (kE c (Rt.fe c 0),0):=by unfold gi;rw[if_neg q,hc]
  rw[hc];obtain⟨L,hL⟩:∃L,kE c (Rt.fe c 0)=L:=⟨_,rfl⟩;rw[hL]at he;refine bl rfl rfl (bl rfl rfl (zzH (zzK rfl (bc rfl (ca (cs:=[.str c,i_ 0]) (n:=1) (h':=[.ah ⟨51,[.v (.slice none 0 0)],true⟩,eI c 0]) rfl rfl rfl rfl ?_)))));have sc0:Sc 1 [aL.ah ⟨51,[.v (.slice none 0 0)],true⟩,eI c 0] c 0:=rfl;refine Ic sc0 rfl (by omega) (abY _) ?_;have hp0:=po c c.length 0 (by omega) (abY _);refine ba (α:=List Tok×Nat×aa) (fun x=>L=x.1++kE c x.2.1∧x.1.length≤1500∧x.2.1≤c.length∧Sc 1 x.2.2 c x.2.1∧sK 0 x.2.2 x.1∧2≤x.2.2.length) (fun x=>[i_ x.1.length]) (fun x=>x.2.2) (fun x=>c.length-x.2.1) ([],Rt.fe c 0,[aL.ah ⟨51,[.v (.slice none 0 0)],true⟩,eI c (Rt.fe c 0)]) ⟨by rw[hL];rfl,by simp,hp0.2,rfl,.inl ⟨rfl,rfl⟩,bY _⟩ (Wk.refl _ _ _ (bY _)) ?_;rintro⟨done,a,H⟩ ⟨el,hdl,ha,sc,cp,hH⟩;dsimp only at el hdl ha sc cp hH ⊢;refine bz (zzA (zzU sc rfl ?_));refine zzZ fun _=>?_;refine zzC ?_;rw[kE]at el
  by_cases h:a<c.length
  ·rw[dif_pos h]at el;have hlen:=congrArg List.length el;simp only[AT,abL]at hlen;refine zzL (oF (by omega)) (zzP (by unfold aK;omega) (zzE ?_))
   by_cases h2:done.length=1500
   ·rw[if_pos (by omega)]at he;rw[he];refine zzL (oF (by omega)) ?_;exact⟨_,_,Wk.refl _ _ _ (by simp;omega),rfl,fun z=>by cases z⟩
   refine zzK (nO (by omega)) (bz (zzA (zzU sc rfl ?_)));have hin:=rm h;obtain⟨t,b,ht⟩:∃t b,fQ c a=(t,b):=⟨_,_,rfl⟩;refine Rj sc rfl (by omega) h fun H1 m=>?_;rw[ht]at hin el m ⊢;dsimp only at hin el m ⊢;have sc1:=m.sc;have hid:1<H.length:=by omega
   have cp1:=cp.mv sc (by decide) (m.mv hid);have hH1:=m.len;refine ca (cs:=[u8 0,.str [],i_ 0,.str [],ff]) (n:=H1.length) (h':=H1++[cw 0 [] 0 [] false]) rfl (by simp[bT]) rfl rfl ?_;have hV:(H1++[cw 0 [] 0 [] false])[H1.length]?=some (cw 0 [] 0 [] false):=by simp
   refine aW (cs:=t.row) (h':=H1++[.ah ⟨70,t.row,true⟩]) rfl hV rfl rfl (by simp) rfl (by simp[bT]) (by rw[IF _ _ (bY _)];simp) (zzV (b:=⟨70,t.row,true⟩) (by simp) (by simp) ?_);have sc2:=sc1.app [aL.ah ⟨70,t.row,true⟩];have cp2:=cp1.app [aL.ah ⟨70,t.row,true⟩];refine bz (zzA (zzU sc2 rfl ?_));refine US (t:=t) cp2 sc2 (by decide) (by omega) fun H3 cp3 sc3 hl3=>?_;have hpb:=po c c.length b (by omega) hin.2;refine Ic sc3 rfl (by omega) hin.2 ?_;have hid3:1<H3.length:=by simp at hl3;omega
   have m4:=Mv.set 1 c (Rt.fe c b) H3;refine⟨rfl,(done++[t],Rt.fe c b,H3.set 1 (eI c (Rt.fe c b))),⟨by rw[el];simp,by simp;omega,hpb.2,sc3.set _,cp3.mv sc3 (by decide) m4,by show 2≤(List.set H3 1 _).length;simp;omega⟩, ?_,by dsimp only;omega⟩;simp only[AT,abL,acp];exact Wk.refl _ _ _ (by simp at hl3;simp;omega)
  ·rw[dif_neg h,abV]at el;subst el;rw[if_neg (by omega)]at he;rw[he];refine zzK (nO (by omega)) ?_;exact⟨_,_,Wk.refl _ _ _ (by simp;omega),rfl,fun _=>cp⟩
 refine cF (by kernel_rfl) rfl read ?_;rintro _ H ⟨rfl,cp⟩;refine zzH ?_
 by_cases z:(gi s).2=0
 ·have cp:=cp z;rw[z];refine zzK rfl ?_;rcases cp with⟨h1,h2⟩|⟨tid,hdn,h1,h2⟩
  ·refine zzU h2 rfl ?_;rw[h1];exact .pure (by simp[Aw.Pure,aR]) rfl
  ·refine zzU h1 rfl (dG.of ?_);simp only[tl,eT,nN,abZ,if_false];rw[zG _ _ _ _ (kX _)];unfold yO;rw[if_neg hdn];exact Le.refl _
 ·have hn:(gi s).1=[]:=by
   unfold gi at z ⊢;split
   ·rfl
   ·split
    ·rfl
    ·rename_i h1 h2;rw[if_neg h1,if_neg h2]at z;exact absurd rfl z
  rw[hn];refine zzL (by simpa using z) ?_;exact .pure (by simp[Aw.Pure,aR]) rfl
end
section
open Go Go.Aw Go.dN Go.RowKit
abbrev bF:AV:=.v (.slice none 0 0)
mutual
def tV:Vl→List AV
 | .mk k t n u f l=>[u1 k,.str t,i_ n,.str u,b_ f,match l with|[]=>bF|v:: l=>.sl 6 (tV v:: qK l)]
def qK:List Vl→List (List AV)
 | []=>[]
 | v:: l=>tV v:: qK l
end
def wJ(l:List Vl):AV:=match l with|[]=>bF|v:: l=>.sl 6 (tV v:: qK l)
def BI(k:Int)(t:ae)(n:Int)(u:ae)(f:Bool)(l:List Vl):tV (.mk k t n u f l)=[u1 k,.str t,i_ n,.str u,b_ f,wJ l]:=by cases l<;>simp[tV,wJ]
mutual
theorem J5:∀x:Vl,aR (tV x)
 | .mk k t n u f []=>by simp[tV,aR,Aw.Pure]
 | .mk k t n u f (v:: l)=>by simp[tV,aR,Aw.Pure,cJ,J5 v,F6 l]
theorem F6:∀l:List Vl,cJ (qK l)
 | []=>by simp[qK,cJ]
 | v:: l=>by simp[qK,cJ,J5 v,F6 l]
end
def Fc(l:List Vl):Aw.Pure (wJ l):=by
 cases l with
 | nil=>simp[wJ,Aw.Pure]
 | cons v l=>simp[wJ,Aw.Pure,cJ,J5,F6]
mutual
theorem Ok:∀v:Vl,kB (tV v) (jB v)
 | .mk k t n u f []=>by
   rw[BI,jB];exact .cons (.refl _) (.cons (.refl _) (.cons (.refl _) (.cons (.refl _) (.cons (.refl _) (.cons (.nil 6) .nil)))))
 | .mk k t n u f (v:: l)=>by
   rw[BI,jB];exact .cons (.refl _) (.cons (.refl _) (.cons (.refl _) (.cons (.refl _) (.cons (.refl _) (.cons (.sl (.cons (Ok v) (JL l))) .nil)))))
theorem JL:∀l:List Vl,nW (qK l) (cE l)
 | []=>.nil
 | v:: l=>.cons (Ok v) (JL l)
end
def Q5(l:List Vl):zK (wJ l) (.sl 6 (cE l)):=by
 cases l with
 | nil=>exact .nil 6
 | cons v l=>exact .sl (.cons (Ok v) (JL l))
/-! ### In memory -/
mutual
def VV(F:Nat→Prop)(H:aa):List AV→Vl→Prop
 | r,.mk k t n u f l=>∃a,r=[u1 k,.str t,i_ n,.str u,b_ f,a]∧((l=[]∧a=bF)∨(l≠[]∧∃X rows,a=.own X 0 l.length 6∧F X∧H[X]?=some (.ah ⟨74,rows.flatten,true⟩)∧VR F H rows l))
def VR(F:Nat→Prop)(H:aa):List (List AV)→List Vl→Prop
 | rows,[]=>rows=[]
 | rows,v:: l=>∃r rs,rows=r:: rs∧VV F H r v∧VR F H rs l
end
section
variable {F F':Nat→Prop} {H H':aa}
mutual
theorem VV.mono(hF:∀X,F X→F' X∧H'[X]?=H[X]?):∀(v:Vl) (r:List AV),VV F H r v→VV F' H' r v
 | .mk k t n u f l,r,h=>by
   rw[VV]at h ⊢;obtain⟨a,rfl,h⟩:=h;refine⟨a,rfl, ?_⟩;rcases h with h|⟨h0,X,rows,rfl,h1,h2,h3⟩
   ·exact .inl h
   ·exact .inr ⟨h0,X,rows,rfl,(hF X h1).1,by rw[(hF X h1).2];exact h2,VR.mono hF l rows h3⟩
theorem VR.mono(hF:∀X,F X→F' X∧H'[X]?=H[X]?):∀(l:List Vl) (rows:List (List AV)),VR F H rows l→VR F' H' rows l
 | [],rows,h=>by rw[VR]at h ⊢;exact h
 | v:: l,rows,h=>by
   rw[VR]at h ⊢;obtain⟨r,rs,rfl,h1,h2⟩:=h;exact⟨r,rs,rfl,VV.mono hF v r h1,VR.mono hF l rs h2⟩
end
def VV.row(h:VV F H r v):dx 6 r=true:=by
 cases v;rw[VV]at h;obtain⟨a,rfl,h⟩:=h;rcases h with⟨_,rfl⟩|⟨_,X,rows,rfl,_⟩<;>rfl
theorem VR.len:∀{l:List Vl} {rows:List (List AV)},VR F H rows l→rows.length=l.length
 | [],rows,h=>by rw[VR]at h;subst h;rfl
 | v:: l,rows,h=>by
   rw[VR]at h;obtain⟨r,rs,rfl,_,h2⟩:=h;simp[h2.len]
theorem VR.rows:∀{l:List Vl} {rows:List (List AV)},VR F H rows l→rows.all (dx 6)=true
 | [],rows,h=>by rw[VR]at h;subst h;rfl
 | v:: l,rows,h=>by
   rw[VR]at h;obtain⟨r,rs,rfl,h1,h2⟩:=h;rw[acd,h1.row,h2.rows];rfl
theorem VR.snoc(hv:VV F H r v):∀{l:List Vl} {rows:List (List AV)},VR F H rows l→VR F H (rows++[r]) (l++[v])
 | [],rows,h=>by
   rw[VR]at h;subst h;rw[List.nil_append,List.nil_append,VR];exact⟨r,[],rfl,hv,by rw[VR]⟩
 | w:: l,rows,h=>by
   rw[VR]at h;obtain⟨r',rs,rfl,h1,h2⟩:=h;rw[acs,acs,VR];exact⟨r',_,rfl,h1,h2.snoc hv⟩
def Dy{sz:Nat}(h:dx sz r=true):r.length=sz:=by
 simp only[dx,NO,beq_iff_eq]at h;exact h.1
theorem kQ{sz:Nat}:∀{rows:List (List AV)},rows.all (dx sz)=true→rows.flatten.length=rows.length*sz
 | [],_=>by simp
 | r:: rows,h=>by
   simp only[acd,NO]at h;rw[aco,AT,Dy h.1,kQ h.2,abL,Nat.succ_mul];omega
mutual
theorem VV.tl:∀(v:Vl) (r:List AV) (d:Nat),VV F H r v→zV v≤d+1→r.map (tl 0 H d)=tV v
 | .mk k t n u f l,r,d,h,hz=>by
   rw[VV]at h;obtain⟨a,rfl,h⟩:=h;rw[BI];have e:tl 0 H d a=wJ l:=by
    rcases h with⟨rfl,rfl⟩|⟨h0,X,rows,rfl,h1,h2,h3⟩
    ·exact mB (by simp[Aw.Pure])
    ·have hl:=h3.len;rw[zV]at hz;have hzl:=mQ l;obtain⟨d,rfl⟩:∃e,d=e+1:=⟨d-1,by have:0<l.length:=List.length_pos_iff.2 h0;omega⟩;rw[GG h2 rfl (by rw[kQ h3.rows,hl];exact bY _),←hl,pF _ h3.rows,VR.tl l rows d h3 (by omega)];cases l with
     | nil=>exact absurd rfl h0
     | cons v l=>rfl
   simp only[GO,List.map_nil,e];rw[mB (by simp),mB (by simp),mB (by simp),mB (by simp),mB (by simp)]
theorem VR.tl:∀(l:List Vl) (rows:List (List AV)) (d:Nat),VR F H rows l→bV l≤d+1→rows.map (List.map (tl 0 H d))=qK l
 | [],rows,d,h,hz=>by rw[VR]at h;subst h;rfl
 | v:: l,rows,d,h,hz=>by
   rw[VR]at h;obtain⟨r,rs,rfl,h1,h2⟩:=h;rw[bV]at hz;rw[qK,GO,VV.tl v r d h1 (by omega),VR.tl l rs d h2 (by omega)]
end
end
def HL(F:Nat→Prop)(H:aa)(a:AV)(l:List Vl):Prop:=(l=[]∧a=bF)∨(l≠[]∧∃X rows,a=.own X 0 l.length 6∧¬F X∧H[X]?=some (.ah ⟨74,rows.flatten,true⟩)∧VR F H rows l)
section
variable [Laid]
def Wk.XI(hn:n≤h.length):Wk n s h (s.map (tl n h d)) (sy n h):=
 ⟨by simp[sy];omega,by simp,fun base ι S w vs r k=>by
  obtain⟨e,k'⟩:=k.told hn;refine⟨_,_,e, ?_,k'⟩;cases d with
  | zero =>
    have:=aE.eT (L:=n) (f:=fun _=>.any) k (fun _ _ _=>by simp) s vs r
    rwa [px]at this
  | succ d =>
    have:=aE.eT (L:=n) (f:=tl n h d) k (ar.tl k d) s vs r
    rwa [px]at this⟩
def dG.Zw(d:Nat)(q:tl 0 h' d r'=r):dG r r' h':=⟨_,_,Wk.XI (d:=d) (abY _),q⟩
omit [Laid] in
def HL.told{F:Nat→Prop}(d:Nat)(hd:bV l≤d+1)(h:HL F H a l):tl 0 H (d+1) a=wJ l:=by
 rcases h with⟨rfl,rfl⟩|⟨h0,X,rows,rfl,h1,h2,h3⟩
 ·exact mB (by simp[Aw.Pure])
 ·have hl:=h3.len;rw[GG h2 rfl (by rw[kQ h3.rows,hl];exact bY _),←hl,pF _ h3.rows,VR.tl l rows d h3 hd];cases l with
  | nil=>exact absurd rfl h0
  | cons v l=>rfl
def HL.bj{F:Nat→Prop}(h:HL F H a l):dG (.aA [wJ l,i_ e]) (.aA [a,i_ e]) H:=by
 refine dG.Zw (bV l+1) ?_;show AV.aA [Aw.tl 0 H (bV l+1) a,i_ e]=_;rw[h.told _ (by omega)]
end
/-! ### The state -/
structure PS(a b:Nat)(F:Nat→Prop)(H:aa)(N:Nat)(ls:List (List Vl))(os:List Tok)(hs:List AV)(Lb:Nat)(e1:List AV)(ho:AV):Prop where
 la:H[a]?=some (.ah ⟨72,[.own Lb 0 ls.length 1],true⟩)
 lb:H[Lb]?=some (.ah ⟨54,hs++e1,true⟩)
 hl:hs.length=ls.length
 hd:∀(i:Nat) (l:List Vl),ls[i]?=some l→l.length≤N∧∃x,hs[i]?=some x∧HL F H x l
 inj:∀(i j X m m':Nat),hs[i]?=some (.own X 0 m 6)→hs[j]?=some (.own X 0 m' 6)→i=j
 ob:H[b]?=some (.ah ⟨51,[ho],true⟩)
 ol:(os=[]∧ho=bF)∨∃Ob e2,ho=.own Ob 0 os.length 5∧H[Ob]?=some (.ah ⟨70,(cU os).flatten++e2,true⟩)
 fr:∀X,F X→∃cs,H[X]?=some (.ah ⟨74,cs,true⟩)
section
variable {a b N Lb:Nat} {F F':Nat→Prop} {H H':aa} {ls:List (List Vl)} {os:List Tok} {hs e1:List AV} {ho:AV}
def HL.mono(h:HL F H x l)(hF:∀X,F X→F' X∧H'[X]?=H[X]?)(hx:∀X m,x=.own X 0 m 6→¬F' X∧H'[X]?=H[X]?):HL F' H' x l:=by
 rcases h with h|⟨h0,X,rows,rfl,h1,h2,h3⟩
 ·exact .inl h
 ·exact .inr ⟨h0,X,rows,rfl,(hx X _ rfl).1,by rw[(hx X _ rfl).2];exact h2,h3.mono hF⟩
def PS.app(p:PS a b F H N ls os hs Lb e1 ho)(j:aa):PS a b F (H++j) N ls os hs Lb e1 ho:=by
 have hl:∀{i:Nat} {x:aL},H[i]?=some x→(H++j)[i]?=some x:=fun h=>by
  rw[gO (eQ.1 h).1];exact h
 refine⟨hl p.la,hl p.lb,p.hl,fun i l q=>?_,p.inj,hl p.ob, ?_,fun X hX=>(p.fr X hX).imp fun _=>hl⟩
 ·obtain⟨hn,x,hx,hh⟩:=p.hd i l q;refine⟨hn,x,hx, ?_⟩;rcases hh with h|⟨h0,X,rows,rfl,h1,h2,h3⟩
  ·exact .inl h
  ·exact .inr ⟨h0,X,rows,rfl,h1,hl h2,h3.mono fun X hX=>⟨hX,by obtain⟨cs,e⟩:=p.fr X hX;rw[e];exact hl e⟩⟩
 ·rcases p.ol with h|⟨Ob,e2,h1,h2⟩
  ·exact .inl h
  ·exact .inr ⟨Ob,e2,h1,hl h2⟩
def PS.put{v:Vl}{r:List AV}{rows:List (List AV)}{base:List (List Vl)}{hb:List AV}(p:PS a b F H N (base++[c]) os (hb++[x]) Lb e1 ho)(hc:c.length+1≤N+1)
 (hr:VR F H rows c) (hv:VV F H r v)
 (h1:H'[H.length]?=some (.ah ⟨74,(rows++[r]).flatten,true⟩))
 (h2:H'[Lb]?=some (.ah ⟨54,hb++[.own H.length 0 (c.length+1) 6]++e1,true⟩))
 (h3:∀id,id<H.length→id≠Lb→(∀m,x≠.own id 0 m 6)→H'[id]?=H[id]?) :
 PS a b F H' (N+1) (base++[c++[v]]) os (hb++[.own H.length 0 (c.length+1) 6]) Lb e1 ho:=by
 have hlen:hb.length=base.length:=by have:=p.hl;simp at this;exact this
 have lt:∀{i:Nat} {x:aL},H[i]?=some x→i<H.length:=fun h=>(eQ.1 h).1;have hxX:∀X m,x=.own X 0 m 6→¬F X∧∃cs,H[X]?=some (.ah ⟨74,cs,true⟩):=by
  intro X m e;obtain⟨_,y,hy,hh⟩:=p.hd base.length c (by simp);rw[←hlen,gT (bY _)]at hy;simp at hy;subst hy;rcases hh with⟨_,hh⟩|⟨_,X',rows',e',g1,g2,_⟩
  ·rw[e]at hh;cases hh
  ·rw[e]at e';cases e';exact⟨g1,_,g2⟩
 have fB:∀{id:Nat} {e:aL},H[id]?=some e→id≠Lb→(∀m,x≠.own id 0 m 6)→H'[id]?=some e:=fun h q1 q2=>by rw[h3 _ (lt h) q1 q2];exact h
 have keepT:∀{id t:Nat} {cs:List AV},H[id]?=some (.ah ⟨t,cs,true⟩)→t≠54→t≠74→H'[id]?=some (.ah ⟨t,cs,true⟩):=fun {id t cs} h q1 q2=>by
  refine fB h (fun e=>?_) fun m e=>?_
  ·subst e;rw[p.lb]at h;cases h;exact q1 rfl
  ·obtain⟨_,cs',g⟩:=hxX _ _ e;rw[g]at h;cases h;exact q2 rfl
 have hF:∀X,F X→F X∧H'[X]?=H[X]?:=fun X hX=>by
  obtain⟨cs,e⟩:=p.fr X hX;refine⟨hX,h3 X (lt e) (fun q=>?_) fun m q=>(hxX X m q).1 hX⟩;subst q;rw[p.lb]at e;cases e
 refine⟨?_,h2,by simp[hlen], ?_, ?_,keepT p.ob (by decide) (by decide), ?_,fun X hX=>?_⟩
 ·have:=keepT p.la (by decide) (by decide);simpa using this
 ·intro i l q;rcases Nat.lt_trichotomy i base.length with k|k|k
  ·rw[gO k]at q;obtain⟨hn,y,hy,hh⟩:=p.hd i l (by rw[gO k];exact q);refine⟨by omega,y,by rw[gO (by omega)]at hy ⊢;exact hy,hh.mono hF fun X m e=>?_⟩;subst e;rcases hh with⟨_,e⟩|⟨_,X',rows',e',g1,g2,_⟩
   ·cases e
   ·cases e';refine⟨g1,h3 X (lt g2) (fun q=>?_) fun m' q=>?_⟩
    ·subst q;rw[p.lb]at g2;cases g2
    ·subst q;have:=p.inj i hb.length X _ m' hy (by simp);omega
  ·subst k;simp at q;subst q;refine⟨by simp;omega,.own H.length 0 (c.length+1) 6,by rw[←hlen];simp,.inr ⟨by simp,H.length,rows++[r],by simp,fun z=>?_,h1,(hr.mono hF).snoc (hv.mono hF)⟩⟩;obtain⟨cs,e⟩:=p.fr _ z;have:=lt e;omega
  ·rw[iS (by simp;omega)]at q;cases q
 ·intro i j X m m' q1 q2;have old:∀{i m:Nat},i<hb.length→(hb++[AV.own H.length 0 (c.length+1) 6])[i]?=some (.own X 0 m 6)→hb[i]?=some (.own X 0 m 6)∧X<H.length:=by
   intro i m k q;rw[gO k]at q;refine⟨q, ?_⟩;obtain⟨l,hl⟩:∃l,base[i]?=some l:=⟨_,dO (by omega)⟩;obtain⟨_,y,hy,hh⟩:=p.hd i l (by rw[gO (by omega)];exact hl);rw[gO k,q]at hy;cases hy;rcases hh with⟨_,e⟩|⟨_,X',rows',e',g1,g2,_⟩
   ·cases e
   ·cases e';exact lt g2
  have new:∀{i m:Nat},¬i<hb.length→(hb++[AV.own H.length 0 (c.length+1) 6])[i]?=some (.own X 0 m 6)→i=hb.length∧X=H.length:=by
   intro i m k q;have hi:i=hb.length:=by
    have:=(eQ.1 q).1;simp at this;omega
   subst hi;simp at q;exact⟨rfl,q.1.symm⟩
  by_cases k1:i<hb.length<;>by_cases k2:j<hb.length
  ·exact p.inj i j X m m' (by rw[gO k1];exact (old k1 q1).1) (by rw[gO k2];exact (old k2 q2).1)
  ·have:=(old k1 q1).2;have:=(new k2 q2).2;omega
  ·have:=(old k2 q2).2;have:=(new k1 q1).2;omega
  ·rw[(new k1 q1).1,(new k2 q2).1]
 ·rcases p.ol with h|⟨Ob,e2,g1,g2⟩
  ·exact .inl h
  ·exact .inr ⟨Ob,e2,g1,keepT g2 (by decide) (by decide)⟩
 ·rw[(hF X hX).2];exact p.fr X hX
end
section
variable {a b N Lb:Nat} {F F':Nat→Prop} {H H':aa} {ls:List (List Vl)} {os:List Tok} {hs e1:List AV} {ho:AV}
def PS.lt(h:H[i]?=some x):i<H.length:=(eQ.1 h).1
def PS.drop{base:List (List Vl)}{ob:List Tok}{hb:List AV}{x ho':AV}(p:PS a b F H N (base++[c]) (ob++[o]) (hb++[x]) Lb e1 ho)
 (h1:H'[a]?=some (.ah ⟨72,[.own Lb 0 base.length 1],true⟩))
 (h2:H'[b]?=some (.ah ⟨51,[ho'],true⟩)) (hho:∀Ob m,ho=.own Ob 0 m 5→ho'=.own Ob 0 ob.length 5)
 (h3:∀id,id≠a→id≠b→id<H.length→H'[id]?=H[id]?) :
 ∃F',PS a b F' H' N base ob hb Lb (x:: e1) ho'∧VV F' H' [u8 o.k,.str o.t,i_ o.n,.str o.u,b_ o.f,x] (gF o c):=by
 have hlen:hb.length=base.length:=by have:=p.hl;simp at this;exact this
 have keepT:∀{id t:Nat} {cs:List AV},H[id]?=some (.ah ⟨t,cs,true⟩)→t≠72→t≠51→H'[id]?=some (.ah ⟨t,cs,true⟩):=fun {id t cs} h q1 q2=>by
  rw[h3 id (fun e=>?_) (fun e=>?_) (PS.lt h)]
  ·exact h
  ·subst e;rw[p.la]at h;cases h;exact q1 rfl
  ·subst e;rw[p.ob]at h;cases h;exact q2 rfl
 obtain⟨hcn,y,hy,hh⟩:=p.hd base.length c (by simp);rw[←hlen,gT (bY _)]at hy;simp at hy;subst hy;have hlast:(hb++[x])[hb.length]?=some x:=by simp
 have hF:∀X,F X→(F X∨∃m,x=.own X 0 m 6)∧H'[X]?=H[X]?:=fun X hX=>by
  obtain⟨cs,e⟩:=p.fr X hX;exact⟨.inl hX,by rw[keepT e (by decide) (by decide),e]⟩
 refine⟨fun X=>F X∨∃m,x=.own X 0 m 6,⟨h1, ?_,hlen, ?_, ?_,h2, ?_, ?_⟩, ?_⟩
 ·have:=keepT p.lb (by decide) (by decide);simpa using this
 ·intro i l q;have k:i<base.length:=(eQ.1 q).1;obtain⟨hn,y,hy,hy2⟩:=p.hd i l (by rw[gO k];exact q);have hy1:=hy;rw[gO (by omega)]at hy;refine⟨hn,y,hy,hy2.mono hF fun X m e=>?_⟩;subst e;rcases hy2 with⟨_,e⟩|⟨_,X',rows',e',g1,g2,_⟩
  ·cases e
  ·cases e';refine⟨fun z=>?_,by rw[keepT g2 (by decide) (by decide),g2]⟩;rcases z with z|⟨m',z⟩
   ·exact g1 z
   ·subst z;have:=p.inj i hb.length X _ _ hy1 hlast;omega
 ·intro i j X m m' q1 q2;have k1:=(eQ.1 q1).1;have k2:=(eQ.1 q2).1;exact p.inj i j X m m' (by rw[gO k1];exact q1) (by rw[gO k2];exact q2)
 ·rcases p.ol with⟨h,_⟩|⟨Ob,e2,g1,g2⟩
  ·exact absurd h (by simp)
  ·refine .inr ⟨Ob,o.row++e2,hho _ _ g1, ?_⟩;have:=keepT g2 (by decide) (by decide);simpa using this
 ·rintro X (z|⟨m,z⟩)
  ·rw[(hF X z).2];exact p.fr X z
  ·subst z;rcases hh with⟨_,e⟩|⟨_,X',rows',e',g1,g2,_⟩
   ·cases e
   ·cases e';exact⟨_,keepT g2 (by decide) (by decide)⟩
 ·show VV _ _ _ (.mk o.k o.t o.n o.u o.f c);rw[VV];refine⟨x,rfl, ?_⟩;rcases hh with h|⟨h0,X,rows,rfl,g1,g2,g3⟩
  ·exact .inl h
  ·exact .inr ⟨h0,X,rows,rfl,.inr ⟨_,rfl⟩,keepT g2 (by decide) (by decide),g3.mono hF⟩
def PS.push{t:Tok}{L2 O2:Nat}(p:PS a b F H N ls os hs Lb e1 ho)
 (h1:H'[a]?=some (.ah ⟨72,[.own L2 0 (ls.length+1) 1],true⟩)) (h2:H'[L2]?=some (.ah ⟨54,hs++[bF],true⟩))
 (h3:H'[b]?=some (.ah ⟨51,[.own O2 0 (os.length+1) 5],true⟩)) (h4:H'[O2]?=some (.ah ⟨70,(cU (os++[t])).flatten,true⟩))
 (h5:∀(id:Nat) (cs:List AV),H[id]?=some (aL.ah ⟨74,cs,true⟩)→H'[id]?=H[id]?):PS a b F H' N (ls++[[]]) (os++[t]) (hs++[bF]) L2 [] (.own O2 0 (os.length+1) 5):=by
 have hF:∀X,F X→F X∧H'[X]?=H[X]?:=fun X hX=>by
  obtain⟨cs,e⟩:=p.fr X hX;exact⟨hX,h5 X cs e⟩
 have hl:=p.hl;refine⟨by simpa using h1,by simpa using h2,by simp[hl], ?_, ?_,h3,.inr ⟨O2,[],by simp,by simpa using h4⟩,fun X hX=>?_⟩
 ·intro i l q
  by_cases k:i<ls.length
  ·rw[gO k]at q;obtain⟨hn,y,hy,hh⟩:=p.hd i l q;refine⟨hn,y,by rw[gO (by omega)];exact hy,hh.mono hF fun X m e=>?_⟩;subst e;rcases hh with⟨_,e⟩|⟨_,X',rows',e',g1,g2,_⟩
   ·cases e
   ·cases e';exact⟨g1,h5 _ _ g2⟩
  ·have hi:i=ls.length:=by have:=(eQ.1 q).1;simp at this;omega
   subst hi;simp at q;subst q;exact⟨abY _,bF,by rw[←hl];simp,.inl ⟨rfl,rfl⟩⟩
 ·intro i j X m m' q1 q2;have old:∀{i m:Nat},(hs++[bF])[i]?=some (.own X 0 m 6)→hs[i]?=some (.own X 0 m 6):=by
   intro i m q
   by_cases k:i<hs.length
   ·rw[gO k]at q;exact q
   ·have hi:i=hs.length:=by have:=(eQ.1 q).1;simp at this;omega
    subst hi;simp at q
  exact p.inj i j X m m' (old q1) (old q2)
 ·rw[(hF X hX).2];exact p.fr X hX
end
section
variable [Laid]
omit [Laid] in
def MP{K1 K2:AV→aa→Prop}(q1:K1 (b_ false) (g++[.ah ⟨4,[b_ false],true⟩]))(q2:K2 (b_ true) (g++[.ah ⟨4,[b_ true],true⟩])):
 aV 4 ff g fun v g1=>(ao 1 v tt g1 fun g2=>ao 1 v ff g2 fun g3=>ak false 1 v g3 fun w=>K1 w g3)∧(ao 1 v ff g1 fun g2=>ao 1 v tt g2 fun g3=>ak false 1 v g3 fun w=>K2 w g3):=by
 have st:∀{b c:Bool} {K:aa→Prop},K (g++[.ah ⟨4,[b_ c],true⟩])→ao 1 (.op g.length 0) (b_ c) (g++[.ah ⟨4,[b_ b],true⟩]) K:=fun {b c K} q =>
  aW (id:=g.length) (b:=⟨4,[b_ b],true⟩) (cs:=[b_ c]) rfl (by simp) rfl rfl (by simp) rfl rfl (by simp[cf]) q
 have ld:∀{c:Bool} {K:AV→Prop},K (b_ c)→ak false 1 (.op g.length 0) (g++[.ah ⟨4,[b_ c],true⟩]) K:=fun {c K} q=>aF (b:=⟨4,[b_ c],true⟩) rfl (by simp) rfl q;refine ca (cs:=[b_ false]) rfl rfl rfl rfl ⟨?_, ?_⟩
 ·exact st (st (ld q1))
 ·exact st (st (ld q2))
omit [Laid] in
def lJ{sz:Nat}{cs:List AV}{K:AV→Prop}(hv:bh v=cs)(hl:cs.length=sz)(hz:(bh z).length=sz)(hs:cs.all bT=true)(q:K (.sl sz [cs])):bt 1 sz z [(0,sz,v)] K:=by
 subst hv;have:dS (ic 1 (bh z)) [(0,sz,v)]=some (bh v):=by
  simp only[dS,ic,abV];rw[if_pos ⟨hl,by omega,hs⟩,kY (by omega)]
 unfold bt;rw[this];simp only[chunks];rw[MK (by omega)];exact q
abbrev zeroV:List AV:=[u8 0,.str [],i_ 0,.str [],ff,bF]
variable {a b N Lb:Nat} {F F':Nat→Prop} {H H':aa} {os:List Tok} {e1:List AV} {ho:AV}
omit [Laid] in
def PW{K:AV→aa→Prop}(h:HL F H x c)(hr:dx 6 r=true)(hc:c.length<2^20)
 (k:∀H1 rows,VR F H rows c→H1.length=H.length+1→H1[H.length]?=some (.ah ⟨74,(rows++[r]).flatten,true⟩)→(∀id,id<H.length→(∀m,x≠.own id 0 m 6)→H1[id]?=H[id]?)→K (.own H.length 0 (c.length+1) 6) H1) :
 bR true 74 6 80 x (.sl 6 [r]) H K:=by
 rcases h with⟨rfl,rfl⟩|⟨h0,X,rows,rfl,h1,h2,h3⟩
 ·unfold bR eM;rw[gQ];refine⟨by rw[acd,hr];rfl,by simp,⟨by simp[maxLen],by simp⟩, ?_⟩;exact k _ [] (by rw[VR]) (by simp) (by simp) fun id hid _=>by rw[gO hid]
 ·have hl:=h3.len;refine LN (n:=H.length) rfl h2 (by rw[kQ h3.rows,hl];exact bY _) (List.length_pos_iff.2 h0) gQ (by rw[acd,hr];rfl) ⟨by unfold maxLen;simp;omega,by simp;omega⟩ rfl rfl ?_;refine k _ rows h3 (by simp) ?_ fun id hid hne=>?_
  ·rw[gT (by simp)];simp;rw[MK (by rw[kQ h3.rows,hl];exact bY _)]
  ·rw[gO (by simpa using hid),iF (fun e=>hne _ (by rw[e]))]
omit [Laid] in
def Lw{nb:Nat}{base:List (List Vl)}{r hb:List AV}{K:aa→Prop}(p:PS a b F H N (base++[c]) os (hb++[x]) Lb e1 ho)(hnb:base.length=nb)(hN:N<2^20)(hv:VV F H r v)
 (k:∀H',PS a b F H' (N+1) (base++[c++[v]]) os (hb++[.own H.length 0 (c.length+1) 6]) Lb e1 ho→H.length≤H'.length→K H') :
 bR true 74 6 80 x (.sl 6 [r]) H fun v89 g90=>aO 1 (.own Lb 0 (nb+1) 1) (i_ nb) fun v91=>ao 1 v91 v89 g90 K:=by
 subst hnb;have hlen:hb.length=base.length:=by have:=p.hl;simp at this;exact this
 obtain⟨hcn,y,hy,hh⟩:=p.hd base.length c (by simp);rw[←hlen,gT (bY _)]at hy;simp at hy;subst hy;refine PW hh hv.row (by omega) fun H1 rows hr hl hn ho=>?_;have hLb:=PS.lt p.lb;have hxl:∀m,x≠.own Lb 0 m 6:=fun m e=>by
  subst e;rcases hh with⟨_,e⟩|⟨_,X',rows',e',g1,g2,_⟩
  ·cases e
  ·cases e';rw[p.lb]at g2;cases g2
 refine jv rfl rfl (by omega) ?_;refine aW (b:=⟨54,hb++[x]++e1,true⟩) (cs:=[.own H.length 0 (c.length+1) 6]) (h':=H1.set Lb (.ah ⟨54,hb++[.own H.length 0 (c.length+1) 6]++e1,true⟩)) rfl (by rw[ho Lb hLb hxl];exact p.lb) rfl rfl (by simp;omega) rfl rfl ?_ ?_
 ·congr 3
  simp only[cf];rw[show 0+base.length*1=hb.length by omega,To,IF _ _ (bY _)];simp
 ·refine k _ (p.put (by omega) hr hv ?_ ?_ ?_) (by simp;omega)
  ·rw[iF (by omega)];exact hn
  ·rw[iD (by omega)]
  ·intro id h1 h2 h3;rw[iF (Ne.symm h2)];exact ho id h1 h3
omit [Laid] in
def Lx{nb:Nat}{base:List (List Vl)}{r hb:List AV}{K:aa→Prop}(p:PS a b F H N (base++[c]) os (hb++[x]) Lb e1 ho)(hnb:base.length=nb)(hN:N<2^20)(hv:VV F H r v)(hy:bh y=r)
 (k:∀H',PS a b F H' (N+1) (base++[c++[v]]) os (hb++[.own H.length 0 (c.length+1) 6]) Lb e1 ho→H.length≤H'.length→K H') :
 bR true 74 6 80 x (.sl 6 [zeroV]) H fun v75 g76=>aO 1 (.own Lb 0 (nb+1) 1) (i_ nb) fun v77=>ao 1 v77 v75 g76 fun g78=>aO 6 v75 (i_ c.length) fun v79=>ao 6 v79 y g78 K:=by
 subst hnb;have hlen:hb.length=base.length:=by have:=p.hl;simp at this;exact this
 obtain⟨hcn,z,hz,hh⟩:=p.hd base.length c (by simp);rw[←hlen,gT (bY _)]at hz;simp at hz;subst hz;refine PW hh rfl (by omega) fun H1 rows hr hl hn ho=>?_;have hLb:=PS.lt p.lb;have hxl:∀m,x≠.own Lb 0 m 6:=fun m e=>by
  subst e;rcases hh with⟨_,e⟩|⟨_,X',rows',e',g1,g2,_⟩
  ·cases e
  ·cases e';rw[p.lb]at g2;cases g2
 have hrl:=hr.len;have hro:=Dy hv.row;have hfl:=kQ hr.rows;refine jv rfl rfl (by omega) ?_;refine aW (b:=⟨54,hb++[x]++e1,true⟩) (cs:=[.own H.length 0 (c.length+1) 6]) (h':=H1.set Lb (.ah ⟨54,hb++[.own H.length 0 (c.length+1) 6]++e1,true⟩)) rfl (by rw[ho Lb hLb hxl];exact p.lb) rfl rfl (by simp;omega) rfl rfl ?_ ?_
 ·congr 3
  simp only[cf];rw[show 0+base.length*1=hb.length by omega,To,IF _ _ (bY _)];simp
 ·refine jv rfl rfl (by omega) ?_;refine aW (b:=⟨74,(rows++[zeroV]).flatten,true⟩) (cs:=r) (h':=(H1.set Lb (.ah ⟨54,hb++[.own H.length 0 (c.length+1) 6]++e1,true⟩)).set H.length (.ah ⟨74,(rows++[r]).flatten,true⟩)) rfl (by rw[iF (by omega)];exact hn) rfl hy (by simp only[List.flatten_append,AT,hfl,hrl];simp;omega) hro (by have:=hv.row;simp only[dx,NO]at this;exact this.2) ?_ ?_
  ·congr 3
   show cf (rows++[zeroV]).flatten (0+c.length*6) r=_;rw[show 0+c.length*6=rows.flatten.length by omega];simp only[List.flatten_append,aco,List.flatten_nil,abV];exact vZ r rows.flatten zeroV (by rw[hro];rfl)
  ·refine k _ (p.put (by omega) hr hv ?_ ?_ ?_) (by simp;omega)
   ·rw[iD (by simp;omega)]
   ·rw[iF (by omega),iD (by omega)]
   ·intro id h1 h2 h3;rw[iF (by omega),iF (Ne.symm h2)];exact ho id h1 h3
end
end
section
open Go Go.Aw Go.dN Go.RowKit
variable [Laid]
def ou(k:Int):bn p_ 30 [u1 k] (u1 (bZ k)):=by
 refine (V30 _).bj (by simp) (by simp) ?_;unfold Yr;rcases (by omega:k=2∨k=19∨k=21∨k=23∨(k≠2∧k≠19∧k≠21∧k≠23)) with rfl|rfl|rfl|rfl|⟨h1,h2,h3,h4⟩
 ·simp;exact .pure (by simp) rfl
 ·simp;exact .pure (by simp) rfl
 ·simp;exact .pure (by simp) rfl
 ·simp;exact .pure (by simp) rfl
 ·simp[h1,h2,h3,h4];exact .pure (by simp) (by simp[bZ,h1,h2,h3,h4])
omit [Laid] in
def R8{ob:List Tok}:(((cU (ob++[o])).flatten++e2).drop (ob.length*5)).take 5=o.row:=by
 have h:((cU ob).flatten).length=ob.length*5:=by rw[kQ (pq ob)];simp
 have e:(cU (ob++[o])).flatten++e2=(cU ob).flatten++(o.row++e2):=by simp
 rw[e,←h,List.drop_left];rfl
omit [Laid] in
def sA:((cU l).flatten).length=l.length*5:=by rw[kQ (pq l)];simp
omit [Laid] in
def lq(h:b=true)(q:X):cO b X:=by subst h;exact q
omit [Laid] in
def KF{m id len n:Nat}{K:AV→Prop}(ex:x=.own id 0 len m)(ey:y=i_ n)(hn:n≤len)(q:K (.own id 0 n m)):lD m x none (some y) K:=by
 subst ex;subst ey;rw[W0];simp only[fc];refine⟨trivial,⟨by omega,by omega,by omega⟩, ?_⟩;simpa using q
omit [Laid] in
def qe(h:i≠d):qF d (.op i o)=true:=by
 unfold qF;cases e:Nat.beq i d with
 | false=>simp[e]
 | true=>exact absurd (lE e) h
omit [Laid] in
def PS.free{a b N Lb:Nat}{F:Nat→Prop}{base:List (List Vl)}{os:List Tok}{hg e1:List AV}{y ho:AV}(p:PS a b F H N (base++[g]) os (hg++[y]) Lb e1 ho):∃d,qF d (.op a 0)=true∧vT d y=true:=by
 have hgl:hg.length=base.length:=by have:=p.hl;simp at this;omega
 obtain⟨_,z,hz,hh⟩:=p.hd base.length g (by simp);rw[←hgl]at hz;simp at hz;subst hz;rcases hh with⟨_,rfl⟩|⟨_,X,rows,rfl,_,h2,_⟩
 ·exact⟨a+1,qe (by omega),rfl⟩
 ·refine⟨X, ?_,by simp[vT]⟩;have:a≠X:=fun e=>by subst e;have:=p.la;rw[h2]at this;cases this
  exact qe this
def PX(a b:Nat)(H:aa)(N:Nat)(ls:List (List Vl))(os:List Tok):Prop:=∃F hs Lb e1 ho,PS a b F H N ls os hs Lb e1 ho
def LA{base:List (List Vl)}{ob:List Tok}{K:AV→aa→Prop}(p:PX a b H N (base++[g]++[c]) (ob++[o]))(hN:N<2^20)(hob:ob.length=base.length)(hbl:base.length<2^20)
 (k:∀H',PX a b H' (N+1) (base++[g++[gF o c]]) ob→H.length≤H'.length→K (.aA []) H'):bx p_ (.fn (.func 29) [] [.op b 0,.op a 0]) [] H K:=by
 have hb:dv p_ 29=true:=by kernel_rfl
 refine⟨hb, ?_⟩;show bX _ _ ([]++[]++[.op b 0,.op a 0]) _ _;refine bX.mono (K:=fun v H' => v=.aA []∧PX a b H' (N+1) (base++[g++[gF o c]]) ob∧H.length≤H'.length) ?_ (by rintro _ H' ⟨rfl,h1,h2⟩;exact k H' h1 h2);obtain⟨F,hs,Lb,e1,ho,p⟩:=p;have hal:=PS.lt p.la;have hbl2:=PS.lt p.ob;have hll:=PS.lt p.lb;have hab:a≠b:=fun e=>by subst e;have:=p.la;rw[p.ob]at this;cases this
 obtain⟨hb,x,rfl⟩:∃hb x,hs=hb++[x]:=by
  have h0:hs≠[]:=fun e=>by have:=p.hl;rw[e]at this;simp at this
  exact⟨hs.dropLast,hs.getLast h0,(List.dropLast_concat_getLast h0).symm⟩
 obtain⟨hg,y,rfl⟩:∃hg y,hb=hg++[y]:=by
  have h0:hb≠[]:=fun e=>by have:=p.hl;rw[e]at this;simp at this
  exact⟨hb.dropLast,hb.getLast h0,(List.dropLast_concat_getLast h0).symm⟩
 have hgl:hg.length=base.length:=by have:=p.hl;simp at this;omega
 obtain⟨Ob,e2,rfl,hO⟩:∃Ob e2,ho=.own Ob 0 (ob.length+1) 5∧H[Ob]?=some (.ah ⟨70,(cU (ob++[o])).flatten++e2,true⟩):=by
  rcases p.ol with⟨e,_⟩|⟨Ob,e2,q1,q2⟩
  ·exact absurd e (by simp)
  ·exact⟨Ob,e2,by simpa using q1,q2⟩
 refine (V29 _ _).bG ?_;unfold Yq;have cI:∀m:Nat,m<2^21→aK (m:Int):=fun m hm=>by unfold aK;omega
 refine zzU p.ob rfl ?_;rw[uE];intro _;refine zze (by unfold aK;omega) ?_;rw[show ((ob.length+1:Nat):Int)-1=(base.length:Nat) by omega];refine zzU p.ob rfl (jv rfl rfl (by omega) ?_);rw[show 0+base.length*5=ob.length*5 by omega];refine zzV hO (by simp only[List.length_drop,AT,sA,abL,acp];omega) ?_;rw[R8];refine zzU p.la rfl (zzP (by unfold aK;omega) ?_);rw[show ((base.length:Nat):Int)+1=((base.length+1:Nat):Int) by omega];refine jv rfl rfl (by simp) ?_;refine zzU (c:=x) p.lb (by simp;rw[gT (by omega)];simp[hgl]) ?_;have hxs:bT x=true:=by
  obtain⟨_,z,hz,hh⟩:=p.hd (base.length+1) c (by simp);rw[gT (by simp;omega)]at hz;simp[hgl]at hz;subst hz;rcases hh with⟨_,rfl⟩|⟨_,X,rows,rfl,_⟩<;>rfl
 refine bc (cs:=[u8 o.k,.str o.t,i_ o.n,.str o.u,b_ o.f,x]) (by
  cases x<;>first|(simp[dS,bh,cf,bT]at hxs ⊢;done)|(simp[bT]at hxs;done)|(simp[dS,bh,cf,bT]at hxs ⊢;assumption)) ?_
 obtain⟨R,hR⟩:∃R:List AV,R=[u8 o.k,.str o.t,i_ o.n,.str o.u,b_ o.f,x]:=⟨_,rfl⟩;have hRs:R.all bT=true:=by rw[hR];simp only[acd,List.all_nil,hxs];rfl
 have hRl:R.length=6:=by rw[hR];rfl
 rw[←hR];refine aW (id:=H.length+1+0) (b:=⟨74,zeroV,true⟩) (cs:=R) (h':=H++[.dead]++[.ah ⟨74,R,true⟩]) rfl (by rw[gT (by simp)];simp) rfl rfl (by rw[hRl];simp) hRl hRs (by rw[IF _ _ (by simp)];simp[kY (a:=zeroV) (b:=R) (by rw[hRl];rfl)]) ?_;have p3:=(p.app [.dead]).app [aL.ah ⟨74,R,true⟩];obtain⟨H3,h3⟩:∃H3,H3=H++[.dead]++[aL.ah ⟨74,R,true⟩]:=⟨_,rfl⟩;rw[←h3]at p3 ⊢;have l3:H3.length=H.length+2:=by rw[h3];simp
 have hv3:H3[H.length+1+0]?=some (.ah ⟨74,R,true⟩):=by rw[h3,gT (by simp)];simp
 refine⟨a, ?_⟩;refine zzU p3.la rfl (zzP (by unfold aK;omega) ?_);rw[show ((base.length:Nat):Int)+1=((base.length+1:Nat):Int) by omega];refine KF rfl rfl (by simp) (lq (qe (Ne.symm hab)) (zzU p3.ob rfl (KF rfl rfl (by omega) (lq (by simp[xE]) (aW (b:=⟨72,_,true⟩) (cs:=[.own Lb 0 (base.length+1) 1]) (h':=H3.set a (.ah ⟨72,[.own Lb 0 (base.length+1) 1],true⟩)) rfl p3.la rfl rfl (by simp) rfl rfl rfl ?_)))));refine aW (b:=⟨51,_,true⟩) (cs:=[.own Ob 0 base.length 5]) (h':=(H3.set a (.ah ⟨72,[.own Lb 0 (base.length+1) 1],true⟩)).set b (.ah ⟨51,[.own Ob 0 base.length 5],true⟩)) rfl (by rw[iF hab];exact p3.ob) rfl rfl (by simp) rfl rfl rfl ?_;obtain⟨H5,h5⟩:∃H5,H5=(H3.set a (.ah ⟨72,[.own Lb 0 (base.length+1) 1],true⟩)).set b (.ah ⟨51,[.own Ob 0 base.length 5],true⟩):=⟨_,rfl⟩;rw[←h5];have l5:H5.length=H.length+2:=by rw[h5];simp[l3]
 obtain⟨F',p5,hv⟩:=p3.drop (H':=H5) (ho':=.own Ob 0 base.length 5) (by rw[h5,iF (Ne.symm hab),iD (by omega)];simp) (by rw[h5,iD (by simp;omega)]) (fun Ob' m e=>by cases e;rw[hob]) fun id q1 q2 q3=>by rw[h5,iF (Ne.symm q2),iF (Ne.symm q1)]
 rw[←hR]at hv;have hv5:H5[H.length+1+0]?=some (.ah ⟨74,R,true⟩):=by rw[h5,iF (by omega),iF (by omega)];exact hv3
 have hvm:∀j,VV F' (H5++j) R (gF o c):=fun j=>hv.mono fun X hX=>⟨hX,by obtain⟨cs,e⟩:=p5.fr X hX;rw[gO (PS.lt e)]⟩;have hy6:∀j:aa,(H5++j)[H.length+1+0]?=some (.ah ⟨74,R,true⟩):=fun j=>by rw[gO (by omega)];exact hv5
 refine aD ?_;refine MP ?_ ?_
 ·have p6:=p5.app [aL.ah ⟨4,[b_ false],true⟩];refine aq (zzK rfl ?_);obtain⟨d,hd1,hd2⟩:=p6.free;refine⟨d,lq hd1 ?_⟩;refine zzU p6.la rfl (zzU p6.la rfl (jv rfl rfl (by simp) ?_));refine zzU (c:=y) p6.lb (by simp;rw[gT (by omega)];simp[hgl]) ?_;refine zzV (hy6 _) (by simp[hRl]) (lJ (cs:=R) (by simp only[List.drop_zero,bh];rw[MK (by omega)]) hRl rfl hRs (lq hd2 ?_));simp only[AT,abL,acp,ab0];refine Lw p6 rfl hN (hvm _) fun H' p7 hl=>?_;exact⟨_,_,Wk.refl _ _ _ (by simp at hl;omega),rfl,⟨_,_,_,_,_,p7⟩,by simp at hl;omega⟩
 ·have p6:=p5.app [aL.ah ⟨4,[b_ true],true⟩];refine aq (zzL rfl (zzU p6.la rfl (jv rfl rfl (by simp) ?_)));refine zzU (c:=y) p6.lb (by simp;rw[gT (by omega)];simp[hgl]) ?_;refine zzV (hy6 _) (by simp[hRl]) ?_;have hlq:∀{K:AV→Prop},K (i_ g.length)→jj y K:=by
   obtain⟨_,z,hz,hh⟩:=p6.hd base.length g (by simp);rw[←hgl]at hz;simp at hz;subst hz;intro K q;rcases hh with⟨rfl,rfl⟩|⟨_,X,rows,rfl,_⟩
   ·exact q
   ·exact q
  refine hlq (lJ (cs:=zeroV) rfl rfl rfl rfl ?_);simp only[AT,abL,acp,ab0];refine Lx p6 rfl hN (hvm _) (by simp only[List.drop_zero,bh];rw[MK (by omega)]) fun H' p7 hl=>?_;exact⟨_,_,Wk.refl _ _ _ (by simp at hl;omega),rfl,⟨_,_,_,_,_,p7⟩,by simp at hl;omega⟩
end
section
open Go Go.Aw Go.dN
variable [Laid]
omit [Laid] in
def KC{K:AV→Prop}(ex:x=i_ a)(ey:y=i_ b)(q:K (i_ (max a b))):kA x y K:=by
 subst ex;subst ey;refine⟨rfl, ?_⟩;rw[show (if a<b then b else a)=max a b by omega];exact q
omit [Laid] in
def zzc{K:AV→Prop}(q:K (i_ (max a b))):kA (i_ a) (i_ b) K:=KC rfl rfl q
def yi(c:Int)(l:List Vl):AV:=.agg [i_ (di l),i_ (aw l),b_ (eP c l)]
def SC(n:Nat):Prop:=∀(l:List Vl) (c:Int),bV l≤n→bn p_ 45 [.sl 6 (cE l),u1 c] (yi c l)
def Rr(hn:n<2^40)(hP:∀n',n'<n→SC n'):SC n:=by
 intro l c hz;refine (V45 _ _).bj (by simp[lG]) (by simp[yi]) ?_;unfold YG;have hlen:(cE l).length=l.length:=by simp[eG]
 have hll:=mQ l;refine fq (by simp) (fq (by simp) ?_);refine zzf (n:=l.length) hlen fun _=>?_;refine ba (α:=Nat) (fun k=>k≤l.length) (fun k=>[i_ k]) (fun k=>[.ah ⟨104,[i_ 0,i_ 0,ff],true⟩,.ah ⟨104,[i_ (di (l.take k)),i_ (aw (l.take k)),b_ (eP c (l.take k))],true⟩]) (fun k=>l.length-k) 0 (by simp) (by simpa[di,aw,eP]using Wk.refl _ _ _ (by simp)) ?_;intro k hk;refine zzC ?_;rcases uP k l.length with q|q
 ·obtain⟨⟨kd,tx,nu,un',fl,l2⟩,hx⟩:∃x,l[k]?=some x:=⟨l[k],dO q⟩;have hin:aK ((k:Int)+1):=by unfold aK;omega
  have hzv:=uY (gE hx);rw[zV]at hzv;have hrec:=hP (bV l2) (by omega) l2 (bZ kd) (bY _);have d1:=GZ hx;have d2:=Jt hx;have d3:=Jo c hx;rw[pH]at d1;rw[oq]at d2;rw[wV]at d3;have b1:=tc (l.take k);have b2:=ve (l.take k);have b0:=pT l k;have b3:=tc l2;have b4:=ve l2;have h2len:(cE l2).length=l2.length:=by simp[eG]
  obtain⟨D,hD⟩:∃D,di (l.take k)=D:=⟨_,rfl⟩;obtain⟨C,hC⟩:∃C,aw (l.take k)=C:=⟨_,rfl⟩;obtain⟨B,hB⟩:∃B,eP c (l.take k)=B:=⟨_,rfl⟩;obtain⟨D2,hD2⟩:∃D,di l2=D:=⟨_,rfl⟩;obtain⟨C2,hC2⟩:∃C,aw l2=C:=⟨_,rfl⟩;obtain⟨B2,hB2⟩:∃B,eP (bZ kd) l2=B:=⟨_,rfl⟩;rw[yi,hD2,hC2,hB2]at hrec;rw[hD]at d1 b1 ⊢;rw[hC]at d2 b2 ⊢;rw[hB]at d3 ⊢;rw[hD2]at d1 b3;rw[hC2]at d2 b4;rw[hB2]at d3;have i1:aK ((C:Int)+1):=by unfold aK;omega
  have i2:aK ((D2:Int)+1):=by unfold aK;omega
  have i3:aK ((C:Int)+1+C2):=by unfold aK;omega
  have i4:aK ((C:Int)+1+C2+1):=by unfold aK;omega
  have he:(l2=[])↔l2.length=0:=List.length_eq_zero_iff.symm;refine zzL (by simpa using q) (aD (zzb (eG l) rfl hx (zzY (by simp[lK]) (fq rfl ?_))));rw[jB];refine dR (cs:=[u1 kd,.str tx,i_ nu,.str un',b_ fl,.sl 6 (cE l2)]) rfl rfl rfl rfl (bY _) rfl rfl ?_
  by_cases hc0:bZ kd=0
  ·have g0:decide (bZ kd=0)=true:=by simpa using hc0
   rw[if_pos hc0]at d1 d2 d3;repeat' (first|(with_reducible first|apply aD|apply aq)|((with_reducible first|apply fj|apply bP|apply dP);rfl;rfl)|((with_reducible apply cn);rfl;rfl;first|assumption|(unfold aK;omega))|((with_reducible apply aM);rfl)|((with_reducible apply aN);rfl)|((with_reducible apply au);rfl;first|rfl|assumption)|((with_reducible apply bp);rfl;first|rfl|assumption)|((with_reducible apply bw);rfl;first|rfl|assumption)|((with_reducible apply dk);rfl)|((with_reducible apply fx);rfl)|((with_reducible apply aJ);rfl)|((with_reducible apply aF);rfl;rfl;rfl)|((with_reducible apply dR);rfl;rfl;rfl;rfl;(first|exact bY _|simp);(first|rfl|simp);(first|rfl|simp))|((with_reducible apply dA);rfl;(first|rfl|simp);intro _)|(refine uCon (ou kd) ?_)|((with_reducible apply ct);rfl)|((with_reducible apply cH);rfl)|(with_reducible intro _))
   all_goals
    refine⟨k+1,q,Wk.back (M:=2) (by simp) (by simp) ?_ rfl (by simp[rT];exact⟨kS _ _ (by simp),kS _ _ (by simp)⟩) (by simp[Bd]),by omega⟩;rw[d1,d2,d3];simp[cf]
    grind
  ·have g0:decide (bZ kd=0)=false:=by simpa using hc0
   rw[if_neg hc0]at d1 d2 d3;repeat' (first|((with_reducible apply KC);rfl;rfl)|(with_reducible first|apply aD|apply aq)|((with_reducible first|apply bP|apply dP);rfl;rfl)|((with_reducible apply cn);rfl;rfl;first|assumption|(unfold aK;omega))|((with_reducible apply aM);rfl)|((with_reducible apply aN);rfl)|((with_reducible apply au);rfl;first|rfl|assumption)|((with_reducible apply ax);rfl;first|rfl|assumption)|((with_reducible apply bp);rfl;first|rfl|assumption)|((with_reducible apply bw);rfl;first|rfl|assumption)|((with_reducible apply dk);rfl)|((with_reducible apply fx);rfl)|((with_reducible apply aJ);rfl)|((with_reducible apply aF);rfl;rfl;rfl)|((with_reducible apply fq);first|rfl|simp)|((with_reducible apply dR);rfl;rfl;rfl;rfl;(first|exact bY _|simp);(first|rfl|simp);(first|rfl|simp))|((with_reducible apply bc);rfl)|(refine uCon (ou kd) ?_)|(refine uCon (hrec) ?_)|((with_reducible apply cH);rfl)|(with_reducible intro _))
   all_goals
    refine⟨k+1,q,Wk.back (M:=2) (by simp) (by simp) ?_ rfl (by simp[rT];exact⟨kS _ _ (by simp),kS _ _ (by simp)⟩) (by simp[Bd]),by omega⟩;rw[d1,d2,d3];simp[cf]
    grind
 ·have hk:k=l.length:=by omega
  subst hk;rw[BY];refine zzK (by simp) (zzV rfl (by simp) (dR (cs:=[i_ (di l),i_ (aw l),b_ (eP c l)]) rfl rfl rfl rfl (by simp) (by simp) (by simp) (zzV rfl (by simp) ?_)));exact .pure (by simp) (by simp[yi])
def UY:∀n,n<2^40→SC n:=by
 intro n;induction n using Nat.strongRecOn with
 | _ n ih=>exact fun hn=>Rr hn fun n' h=>ih n' h (by omega)
def NT(l:List Vl)(c:Int)(hz:bV l<2^40):bn p_ 45 [.sl 6 (cE l),u1 c] (yi c l):=UY _ hz l c (bY _)
def Af(l:List Vl)(hz:bV l<2^40):bn p_ 31 [.sl 6 (cE l)] (i_ (je l)):=by
 refine (V31 _).bj (by simp[lG]) (by simp) ?_;unfold Ys;have hL:=NT l 0 hz;rw[yi]at hL;repeat' (first|((with_reducible apply fj);rfl;rfl)|((with_reducible apply aJ);rfl)|((with_reducible apply aF);rfl;rfl;rfl)|((with_reducible apply fq);first|rfl|simp)|((with_reducible apply dR);rfl;rfl;rfl;rfl;(first|exact bY _|simp);(first|rfl|simp);(first|rfl|simp))|(refine uCon (hL) ?_)|((with_reducible apply ct);rfl)|(with_reducible intro _))
 all_goals
  refine .pure (by simp) ?_;simp only[AV.v.injEq,Value.int.injEq,true_and];simp[cf]at *;unfold je;repeat' split
  all_goals first|rfl|omega|simp_all
end
section
open Go Go.Aw
variable [Laid]
def Y6(c d:AV)(h:aa)(K:AV→aa→Prop):Prop:=
 aV 70 (.agg [u8 0,.str [],i_ 0,.str [],ff]) h fun b a=>qLd p_ c 1 a fun g=>ag .add g d fun i=>qLd p_ c 0 a fun j=>jj j fun k=>ag .lss i k fun l=>af l (qLd p_ c 0 a fun m=>qLd p_ c 1 a fun n=>ag .add n d fun o=>aO 6 m o fun p=>iFL 0 true 5 p a fun q=>ao 5 b q a fun e=>ak true 5 b e fun r23=>K r23 e) (aX (.agg [u8 0,.str [],i_ 0,.str [],ff]) [] fun r=>ao 5 b r a fun f=>ak true 5 b f fun r26=>K r26 f)
def V75(a b:AV):fv p_ 75 [a,b] (Y6 a b):=mkM Tryz.func75 (sn (.seq (.seq (.draw 12 (oR 0 12 []) [] []) (.two (.seq (.draw 13 (oR 0 13 []) [.op 13 false] []) .nil) .nil)) .nil)) 31 [.cell 4 70]
def SQ(a d:AV)(h:aa)(K:AV→aa→Prop):Prop:=
 qLd p_ a 0 h fun b=>qLd p_ a 1 h fun c=>ag .add c d fun e=>aO 6 b e fun f=>iFL 5 false 1 f h fun g=>K g h
def ZE(a b:AV):fv p_ 105 [a,b] (SQ a b):=mkM Tryz.func105 (sn (.seq (.draw 14 (oR 0 14 []) [] []) .nil)) 18 [.tmp 4]
def Za(a:AV)(h:aa)(K:AV→aa→Prop):Prop:=
 qLd p_ a 1 h fun b=>qLd p_ a 0 h fun c=>jj c fun d=>ag .eql b d fun e=>K e h
def V79(a:AV):fv p_ 79 [a] (Za a):=mkM Tryz.func79 (sn (.seq (.draw 11 (oR 0 11 []) [] []) .nil)) 13 [.tmp 2]
def Y4(a:AV)(h:aa)(K:AV→aa→Prop):Prop:=
 qLd p_ a 1 h fun c=>bJ [] h fun d o e =>
 iC p_ 75 [a,i_ 0] e fun f b=>rX false 0 1 f fun g=>ag .eql g (u8 13) fun i=>af i (qLd p_ a 1 b fun j=>qBe .add j 1 fun k=>qSt p_ a 1 k b fun l=>eC [a,c] (d [] l)) (qLd p_ a 1 b fun m=>ag .gtr m c fun n=>K n b)
def V73(a:AV):fv p_ 73 [a] (Y4 a):=mkM Tryz.func73 (sn (sn (.seq (.one (.loop [0,3] [] .nil)) .nil))) 25 [.tmp 2]
def Y8(a m:AV)(h:aa)(K:AV→aa→Prop):Prop:=
 iC p_ 75 [a,i_ 0] h fun e f=>aV 70 (.agg [u8 0,.str [],i_ 0,.str [],ff]) f fun c g=>ao 5 c e g fun b=>iFL 0 false 1 c b fun i=>ag .neq i (u8 9) fun j=>qJo j [a] b (fun k=>iFL 1 false 1 c b fun l=>ag .neq l m fun n=>k n b) fun o d=>af o (K ff d) (qLd p_ a 1 d fun p=>qBe .add p 1 fun q=>qSt p_ a 1 q d fun r=>K tt r)
def V77(a b:AV):fv p_ 77 [a,b] (Y8 a b):=mkM Tryz.func77 (sn (sn (.seq (.seq (.aQ (oR 0 4 (.aB 3 false (fR 4 4) [0] [11,15]::.op 8 false::[]))) .nil) .nil))) 24 [.tmp 4]
def Y5(b:AV)(h:aa)(K:AV→aa→Prop):Prop:=
 bJ [i_ 0] h fun e a c =>
 qBe .lss (nx a 0) 3 fun f=>af f (qBe .add (nx a 0) 1 fun g=>eW (.str [62,43,126]) (some (nx a 0)) (some g) fun i=>iC p_ 77 [b,i] c fun j d=>af j (iC p_ 73 [b] d fun o k=>cy .u8 (nx a 0) fun l=>ag .add (u8 2) l fun m=>K m k) (qBe .add (nx a 0) 1 fun n=>eC [b] (e [n] d))) (K (u8 0) c)
def V74(a:AV):fv p_ 74 [a] (Y5 a):=mkM Tryz.func74 (sn (.seq (sn (.one (.loop [0] [4] .nil))) .nil)) 19 [.tmp 2]
def Y9(a w:AV)(h:aa)(K:AV→aa→Prop):Prop:=
 aV 80 w h fun d x=>bJ [qNs] x fun y e z =>
 aX (.agg [u8 0,.str [],u8 0,.str [],ff,i_ 0,i_ 0,ff,qNs]) [] fun A=>aV 46 (.agg [u8 0,.str [],u8 0,.str [],ff,i_ 0,i_ 0,ff,qNs]) z fun b B=>ao 9 b A B fun C=>iC p_ 75 [a,i_ 1] C fun D E=>aV 70 (.agg [u8 0,.str [],i_ 0,.str [],ff]) E fun i F=>ao 5 i D F fun G=>aH (fun j=>iC p_ 75 [a,i_ 0] G fun H I=>aV 70 (.agg [u8 0,.str [],i_ 0,.str [],ff]) I fun f J=>ao 5 f H J fun g=>iFL 0 false 1 f g fun L=>ag .eql L (u8 4) fun M=>af M ((∃d24:Nat,iFL 1 false 1 f g fun N=>aX (.agg [u8 0,.str [],u8 0,.str [],ff,i_ 0,i_ 0,ff,qNs]) [(0,1,(u8 1)),(1,1,N)] fun O=>bo 4 f fun m=>cO (qF d24 m) (ak false 1 m g fun P=>cO (xE d24 b) (ao 9 b O g fun n=>qLd p_ a 1 n fun Q=>qBe .add Q 1 fun R=>qSt p_ a 1 R n fun S=>eC [a,d,nx e 0,b] (j [P] S))))) (iFL 0 false 1 f g fun T=>ag .eql T (u8 9) fun U=>qJa U [a,d,nx e 0,b,ff,i,f] g (fun V=>iFL 1 false 1 f g fun W=>ag .eql W (.str [46]) fun X=>V X g) fun Y c=>af Y ((∃d48:Nat,iFL 1 false 1 i c fun Z=>aX (.agg [u8 0,.str [],u8 0,.str [],ff,i_ 0,i_ 0,ff,qNs]) [(0,1,(u8 2)),(1,1,Z)] fun a0=>bo 0 i fun o=>cO (qF d48 o) (ak false 1 o c fun a1=>ag .eql a1 (u8 1) fun a2=>cO (xE d48 b) (ao 9 b a0 c fun p=>qLd p_ a 1 p fun a3=>qBe .add a3 2 fun a4=>qSt p_ a 1 a4 p fun a5=>eC [a,d,nx e 0,b] (j [a2] a5))))) (iFL 0 false 1 f c fun a6=>ag .eql a6 (u8 19) fun a7=>af a7 (iC p_ 105 [a,i_ 0] c fun a8 a9=>iC p_ 104 [a8] a9 fun q b0=>aU 0 q fun b1=>aU 1 q fun b2=>ao 9 b b1 b0 fun r=>qLd p_ a 1 r fun b3=>qBe .add b3 1 fun b4=>qSt p_ a 1 b4 r fun b5=>eC [a,d,nx e 0,b] (j [b2] b5)) (iFL 0 false 1 f c fun b6=>ag .eql b6 (u8 16) fun b7=>af b7 (aH (fun k=>iFL 0 false 1 i c fun s=>ag .eql s (u8 1) fun b8=>af b8 (iFL 1 false 1 i c fun b9=>iC p_ 106 [b9] c fun t c0=>aU 0 t fun c1=>aU 1 t fun c2=>ao 9 b c1 c0 fun c3=>eC [a,d,nx e 0,b] (k [c2] c3)) (ag .eql s (u8 2) fun c4=>af c4 (iFL 1 false 1 i c fun c5=>iQ p_ 105 [a,i_ 1] c fun c6=>ak true 2 d c fun c7=>iQ p_ 107 [c5,c6,c7] c fun u=>aU 0 u fun c8=>aU 1 u fun c9=>ao 9 b c8 c fun d0=>eC [a,d,nx e 0,b] (k [c9] d0)) (eC [a,d,nx e 0,b] (k [ff] c)))) fun d1 v=>qLd p_ a 1 v fun d2=>qBe .add d2 2 fun d3=>qSt p_ a 1 d3 v fun d4=>eC [a,d,nx e 0,b] (j [nx d1 0] d4)) (K (.aA [nx e 0,tt]) c))))) fun d5 l=>cq (nx d5 0) fun d6=>af d6 (K (.aA [qNs,ff]) l) (ak true 9 b l fun d7=>bt 1 9 (.agg [u8 0,.str [],u8 0,.str [],ff,i_ 0,i_ 0,ff,qNs]) [(0,9,d7)] fun d8=>bR false 46 9 104 (nx e 0) d8 l fun d9 e0=>eC [a,d] (y [d9] e0))
def V78(a b:AV):fv p_ 78 [a,b] (Y9 a b):=mkM Tryz.func78 (sn (sn (.one (.loop [0,3] [6] (.one (sn (sn (.join [0,3,6,7] [8] (sn (.one (sn (.two (.seq (.two (.jX [(0,0,false),(1,1,false),(2,0,false),(3,0,false),(4,3,false),(5,4,false),(6,0,false)]) .nil) .nil) (.seq (.aQ (oR 0 4 (.aB 3 true (fR 4 3) [0,3,6,7,8,9,10] [37,40]::oR 7 2 []))) (.two (.seq (.two (.jX [(0,0,false),(1,1,false),(2,0,false),(3,0,false),(4,3,false),(5,0,false),(6,4,false),(7,0,false)]) .nil) .nil) (sn (.two .nil (sn (.two (.join [0,3,6,7] [8] (sn (.one (sn (.two .nil (sn (.two (.jX [(0,0,false),(1,1,false),(2,0,false),(3,1,false),(4,1,false),(5,1,false),(6,0,false),(7,0,false),(8,0,false),(9,2,false),(10,0,false)]) .nil)))))) .nil) .nil)))))))))) (sn (.aQ (oR 0 2 (.op 2 true::oR 3 2 [])))))))))))) 110 [.tmp 4,.tmp 5]
def SR(d:AV)(h:aa)(K:AV→aa→Prop):Prop:=
 aV 46 (.agg [u8 0,.str [],u8 0,.str [],ff,i_ 0,i_ 0,ff,qNs]) h fun a l=>iC p_ 76 [d] l fun e b=>ag .eql e (.str [102,105,114,115,116,45,99,104,105,108,100]) fun m=>af m (aX (.agg [i_ 0,i_ 0]) [(1,1,(i_ 1))] fun n=>aX (.agg [u8 0,.str [],u8 0,.str [],ff,i_ 0,i_ 0,ff,qNs]) [(0,1,(u8 9)),(5,2,n)] fun o=>ao 9 a o b fun f=>ak true 9 a f fun r9=>K (.aA [r9,tt]) f) (ag .eql e (.str [108,97,115,116,45,99,104,105,108,100]) fun p=>af p (aX (.agg [i_ 0,i_ 0]) [(1,1,(i_ 1))] fun q=>aX (.agg [u8 0,.str [],u8 0,.str [],ff,i_ 0,i_ 0,ff,qNs]) [(0,1,(u8 10)),(5,2,q)] fun r=>ao 9 a r b fun g=>ak true 9 a g fun r14=>K (.aA [r14,tt]) g) (iC p_ 53 [] b fun s t=>iC p_ 76 [d] t fun u v=>iC p_ 143 [s,u] v fun c i=>kA c (i_ 0) fun w=>cy .u8 w fun x=>ag .add (u8 4) x fun y=>aX (.agg [u8 0,.str [],u8 0,.str [],ff,i_ 0,i_ 0,ff,qNs]) [(0,1,y)] fun j=>qBe .geq c 0 fun z=>qJa z [a,j] i (fun A=>qBe .lss c 5 fun B=>A B i) fun C D=>ao 9 a j D fun k=>ak true 9 a k fun r32=>K (.aA [r32,C]) k))
def ZF(a:AV):fv p_ 106 [a] (SR a):=mkM Tryz.func106 (sn (sn (sn (.seq (.aQ (oR 0 8 (.aB 7 true (fR 8 2) [2,23] [26,28]::oR 10 3 []))) .nil)))) 30 [.cell 2 46,.tmp 3]
def TN(h:aa)(K:AV→aa→Prop):Prop:=
 bt 11 1 (.str []) [(0,1,(.str [108,105,110,107])),(1,1,(.str [118,105,115,105,116,101,100])),(2,1,(.str [97,110,121,45,108,105,110,107])),(3,1,(.str [114,111,111,116])),(4,1,(.str [101,109,112,116,121])),(5,1,(.str [110,116,104,45,99,104,105,108,100])),(6,1,(.str [110,116,104,45,108,97,115,116,45,99,104,105,108,100])),(7,1,(.str [105,115])),(8,1,(.str [119,104,101,114,101])),(9,1,(.str [110,111,116])),(10,1,(.str [104,97,115]))] fun a=>K a h
def X6:fv p_ 53 [] (TN):=mkM Tryz.func53 (sn (.seq (.aQ [.op 0 true,.op 1 false]) .nil)) 2 [.tmp 0]
def Tj(u c w:AV)(h:aa)(K:AV→aa→Prop):Prop:=
 aV 46 u h fun a v=>aV 80 w v fun x y=>aV 46 (.agg [u8 0,.str [],u8 0,.str [],ff,i_ 0,i_ 0,ff,qNs]) y fun b z=>iC p_ 174 [c,.fn (.func 175) [] []] z fun d e=>aH (fun j=>qBe .geq d 0 fun A=>af A (ak true 2 x e fun B=>iFL 0 false 1 a e fun C=>iC p_ 110 [B,C] e fun k D=>aU 0 k fun E=>aU 1 k fun F=>aV 80 (.agg [i_ 0,ff]) D fun l G=>ao 2 l E G fun f=>qBe .add d 1 fun H=>lD 6 c (some H) none fun I=>ak true 2 l f fun J=>iQ p_ 32 [I,J,ff,ff] f fun m=>aU 0 m fun n=>aU 1 m fun L=>cq F fun M=>qJo M [c,a,b,d,n] f (fun N=>cq L fun O=>N O f) fun P g=>af P (ak true 9 a g fun Q=>ao 9 b Q g fun o=>ak true 9 b o fun r35=>K (.aA [r35,ff]) o) (lD 6 c none (some d) fun R=>bo 7 a fun S=>ao 1 S tt g fun T=>bo 8 a fun U=>ao 1 U n T fun V=>eC [a,b] (j [R] V))) (eC [a,b] (j [c] e))) fun W X=>iC p_ 176 [nx W 0] X fun p i=>aU 0 p fun Y=>aU 1 p fun Z=>qBe .neq Z 0 fun a0=>af a0 (ak true 9 a i fun a1=>ao 9 b a1 i fun q=>ak true 9 b q fun r50=>K (.aA [r50,ff]) q) (iC p_ 177 [Y] i fun r a2=>aU 0 r fun a3=>aU 1 r fun a4=>bo 5 a fun a5=>ao 2 a5 a3 a2 fun s=>ak true 9 a s fun a6=>qBe .eql a4 0 fun a7=>ao 9 b a6 s fun t=>ak true 9 b t fun r60=>K (.aA [r60,a7]) t)
def Z2(a b c:AV):fv p_ 144 [a,b,c] (Tj a b c):=mkM Tryz.func144 (sn (sn (.join [3,6] [1] (sn (.two (sn (.seq (.draw 11 (oR 0 11 []) [] []) (.seq (.seq (.aQ (oR 0 3 (.aB 2 false (fR 3 2) [1,3,6,8,11] [37,39]::.op 5 false::[]))) .nil) (.jX [(0,0,false),(1,0,false),(2,0,false),(3,0,false),(4,0,false),(5,2,false),(6,0,false),(7,2,false),(8,0,false)])))) .nil)) .nil))) 65 [.cell 6 46,.tmp 7]
def Tw(c:AV)(h:aa)(K:AV→aa→Prop):Prop:=
 aV 74 c h fun b a=>bo 0 b fun d=>iFL 0 false 1 d a fun e=>ag .eql e (u8 1) fun f=>qKa f a (fun g=>bo 0 b fun i=>iFL 1 false 1 i a fun j=>iC p_ 101 [j,.str [111,102]] a g) fun k l=>K k l
def aac(a:AV):fv p_ 175 [a] (Tw a):=mkM Tryz.func175 (sn (.seq (.aQ (oR 0 5 (.aB 4 true (fR 5 4) [] [7,11]::oR 9 2 []))) .nil)) 13 [.tmp 2]
def SS(x j s:AV)(h:aa)(K:AV→aa→Prop):Prop:=
 aV 80 s h fun e t=>aV 46 (.agg [u8 0,.str [],u8 0,.str [],ff,i_ 0,i_ 0,ff,qNs]) t fun b u=>iC p_ 53 [] u fun v w=>iC p_ 76 [x] w fun y z=>iC p_ 143 [v,y] z fun f g=>qBe .lss f 5 fun A=>af A (aX (.agg [u8 0,.str [],u8 0,.str [],ff,i_ 0,i_ 0,ff,qNs]) [] fun B=>ao 9 b B g fun i=>ak true 9 b i fun r14=>K (.aA [r14,ff]) i) (cy .u8 f fun C=>ag .add (u8 4) C fun D=>aX (.agg [u8 0,.str [],u8 0,.str [],ff,i_ 0,i_ 0,ff,qNs]) [(0,1,D)] fun E=>aV 46 (.agg [u8 0,.str [],u8 0,.str [],ff,i_ 0,i_ 0,ff,qNs]) g fun a F=>ao 9 a E F fun c=>iFL 0 false 1 a c fun G=>ag .leq G (u8 10) fun H=>af H (ak true 9 a c fun I=>ak true 2 e c fun J=>iC p_ 144 [I,j,J] c fun k L=>aU 0 k fun M=>aU 1 k fun N=>ao 9 b M L fun l=>ak true 9 b l fun r31=>K (.aA [r31,N]) l) (ak true 2 e c fun O=>iFL 0 false 1 a c fun P=>iC p_ 110 [O,P] c fun m Q=>aU 0 m fun R=>aU 1 m fun S=>aV 80 (.agg [i_ 0,ff]) Q fun n T=>ao 2 n R T fun d=>cq S fun U=>af U (ak true 9 a d fun V=>ao 9 b V d fun o=>ak true 9 b o fun r45=>K (.aA [r45,ff]) o) (ak true 2 n d fun W=>iFL 0 false 1 a d fun X=>ag .eql X (u8 14) fun Y=>iFL 0 false 1 a d fun Z=>ag .leq Z (u8 12) fun a0=>iC p_ 32 [j,W,Y,a0] d fun p a1=>aU 0 p fun a2=>aU 1 p fun a3=>bo 8 a fun a4=>ao 1 a4 a2 a1 fun q=>ak true 9 a q fun a5=>ao 9 b a5 q fun r=>ak true 9 b r fun r61=>K (.aA [r61,a3]) r)))
def ZG(a b c:AV):fv p_ 107 [a,b,c] (SS a b c):=mkM Tryz.func107 .nil 57 [.cell 6 46,.tmp 7]
def Yt(b p e f:AV)(h:aa)(K:AV→aa→Prop):Prop:=
 aV 80 p h fun c q=>br b fun r=>qBe .add r 1 fun d=>bJ [qNs,i_ 0,i_ 0] q fun s a g =>
 ag .lss (nx a 2) d fun t=>af t (aH (fun k=>br b fun u=>ag .lss (nx a 2) u fun v=>qJa v [b,e,f,c,nx a 0,nx a 1,nx a 2,d,nx a 2] g (fun w=>aO 6 b (nx a 2) fun x=>bo 0 x fun y=>iFL 0 false 1 y g fun z=>ag .neq z (u8 18) fun A=>w A g) fun B j=>af B (eC [b,e,f,c,d,nx a 2] (k [nx a 0,nx a 1] j)) (aH (fun l=>lD 6 b (some (nx a 1)) (some (nx a 2)) fun C=>ak true 2 c j fun D=>xb p_ (.fn (.func 46) [] []) [C,D,e] [] fun m=>aU 0 m fun E=>aU 1 m fun F=>aV 39 (.agg [u8 0,qNs,qNs]) j fun n G=>ao 3 n E G fun i=>af F (ak true 3 n i fun H=>bt 1 3 (.agg [u8 0,qNs,qNs]) [(0,3,H)] fun I=>bR false 39 3 56 (nx a 0) I i fun J L=>eC [b,e,f,c,nx a 2,d,nx a 2] (l [J] L)) (cq f fun M=>af M (K (.aA [qNs,ff]) i) (eC [b,e,f,c,nx a 2,d,nx a 2] (l [nx a 0] i)))) fun N O=>qBe .add (nx a 2) 1 fun P=>eC [b,e,f,c,d,nx a 2] (k [nx N 0,P] O))) fun o Q=>qBe .add (nx a 2) 1 fun R=>eC [b,e,f,c,d] (s [nx o 0,nx o 1,R] Q)) (K (.aA [nx a 0,tt]) g)
def V32(a b c d:AV):fv p_ 32 [a,b,c,d] (Yt a b c d):=mkM Tryz.func32 (sn (sn (sn (.seq (sn (.one (.loop [0,2,3,5,17] [10,11,18] (sn (sn (.join [0,2,3,5,17,18] [10,11] (.one (sn (.seq (.seq (.aQ (oR 0 5 (.aB 4 true (fR 5 7) [0,2,3,5,10,11,12,17,18] [25,32]::.op 12 false::[]))) .nil) (.join [0,2,3,5,12,17,18] [10] (.seq (.jX [(0,0,false),(1,0,false),(2,0,false),(3,0,false),(4,3,false),(5,0,false),(6,0,false),(7,0,false),(8,0,false),(9,0,false),(10,2,false),(11,2,false),(12,0,false)]) (sn (.two (.aQ (oR 0 2 (.op 2 true::oR 3 2 []))) .nil))) .nil)))) .nil)))))) .nil)))) 55 [.tmp 8,.tmp 9]
def Yh(a:AV)(h:aa)(K:AV→aa→Prop):Prop:=
 iC p_ 31 [a] h fun b c=>qBe .neq b 0 fun i=>af i (K (.aA [qNs,b]) c) (aX (.agg [i_ 0,ff]) [] fun j=>iC p_ 32 [a,j,ff,ff] c fun d e=>aU 0 d fun f=>aU 1 d fun k=>cq k fun l=>af l (K (.aA [qNs,i_ 12]) e) (iC p_ 26 [f] e fun m g=>qBe .gtr m 64 fun n=>af n (K (.aA [qNs,i_ 4]) g) (K (.aA [f,i_ 0]) g)))
def V19(a:AV):fv p_ 19 [a] (Yh a):=mkM Tryz.func19 .nil 26 [.tmp 2,.tmp 3]
def W8(i:AV)(h:aa)(K:AV→aa→Prop):Prop:=
 iC p_ 17 [i] h fun a b=>aU 0 a fun j=>aU 1 a fun c=>qBe .neq c 0 fun k=>af k (K (.aA [qNs,c]) b) (iC p_ 18 [j] b fun d e=>aU 0 d fun l=>aU 1 d fun f=>qBe .neq f 0 fun m=>af m (K (.aA [qNs,f]) e) (iC p_ 19 [l] e fun g n=>aU 0 g fun o=>aU 1 g fun p=>K (.aA [o,p]) n))
def V8(a:AV):fv p_ 8 [a] (W8 a):=mkM Tryz.func8 .nil 27 [.tmp 2,.tmp 3]
def Tx(a:AV)(h:aa)(K:AV→aa→Prop):Prop:=
 iC p_ 31 [a] h fun b c=>qBe .neq b 0 fun d=>af d (K (.aA [qNs,b]) c) (iC p_ 198 [qNs,a] c fun e f=>K (.aA [e,i_ 0]) f)
def aad(a:AV):fv p_ 176 [a] (Tx a):=mkM Tryz.func176 .nil 12 [.tmp 2,.tmp 3]
def TC(m b:AV)(h:aa)(K:AV→aa→Prop):Prop:=
 br b fun c=>bJ [m,i_ 0] h fun n a e =>
 ag .lss (nx a 1) c fun o=>af o (aH (fun g=>aO 6 b (nx a 1) fun p=>ak true 6 p e fun q=>aV 74 (.agg [u8 0,.str [],i_ 0,.str [],ff,qNs]) e fun d r=>ao 6 d q r fun i=>iFL 0 true 5 d i fun s=>bt 1 5 (.agg [u8 0,.str [],i_ 0,.str [],ff]) [(0,5,s)] fun t=>bR false 70 5 56 (nx a 0) t i fun j k=>bo 0 d fun u=>iFL 0 false 1 u k fun v=>iC p_ 30 [v] k fun l f=>ag .neq l (u8 0) fun w=>af w (iFL 5 false 1 d f fun x=>iC p_ 198 [j,x] f fun y z=>aX (.agg [u8 0,.str [],i_ 0,.str [],ff]) [(0,1,l)] fun A=>bt 1 5 (.agg [u8 0,.str [],i_ 0,.str [],ff]) [(0,5,A)] fun B=>bR false 70 5 56 y B z fun C D=>eC [b,c,nx a 1] (g [C] D)) (eC [b,c,nx a 1] (g [j] f))) fun E F=>qBe .add (nx a 1) 1 fun G=>eC [b,c] (n [nx E 0,G] F)) (K (nx a 0) e)
def aai(a b:AV):fv p_ 198 [a,b] (TC a b):=mkM Tryz.func198 (sn (.seq (sn (.one (.loop [8,9] [0,10] (sn (sn (.join [8,9,10] [0] (.one (sn (.seq (.aQ (oR 0 3 (.op 3 true::oR 4 2 []))) (sn (sn (.two (.aQ (oR 0 6 (.op 6 true::oR 7 2 []))) .nil)))))) .nil)))))) .nil)) 35 [.tmp 4]
def TD(a:AV)(h:aa)(K:AV→aa→Prop):Prop:=
 bJ [] h fun d r b =>
 qLd p_ a 0 b fun e=>br e fun f=>qBe .gtr f 0 fun g=>qJa g [a] b (fun i=>qLd p_ a 0 b fun j=>aO 5 j (i_ 0) fun k=>iFL 0 false 1 k b fun l=>ag .eql l (u8 13) fun m=>i m b) fun n c=>af n (qLd p_ a 0 c fun o=>lD 5 o (some (i_ 1)) none fun p=>qSt p_ a 0 p c fun q=>eC [a] (d [] q)) (K (.aA []) c)
def aaj(a:AV):Body p_ 199 [a] (TD a):=bB Tryz.func199 (.one (.loop [0] [] (.seq (.seq (.aQ (oR 0 7 (.aB 6 true (fR 7 8) [0] [8,16]::.op 15 false::[]))) .nil) .nil))) 26 []
def Nb(a r:AV)(h:aa)(K:AV→aa→Prop):Prop:=
 aV 70 (.agg [u8 0,.str [],i_ 0,.str [],ff]) h fun b c=>qLd p_ a 0 c fun k=>br k fun l=>qBe .eql l 0 fun m=>qJo m [a,b] c (fun n=>qLd p_ a 0 c fun o=>aO 5 o (i_ 0) fun p=>iFL 0 false 1 p c fun q=>ag .neq q r fun s=>n s c) fun t d=>af t (aX (.agg [u8 0,.str [],i_ 0,.str [],ff]) [] fun u=>ao 5 b u d fun e=>ak true 5 b e fun r21=>K (.aA [r21,ff]) e) (qLd p_ a 0 d fun v=>aO 5 v (i_ 0) fun w=>ak true 5 w d fun x=>aV 70 (.agg [u8 0,.str [],i_ 0,.str [],ff]) d fun f y=>ao 5 f x y fun g=>qLd p_ a 0 g fun z=>lD 5 z (some (i_ 1)) none fun A=>qSt p_ a 0 A g fun i=>ak true 5 f i fun B=>ao 5 b B i fun j=>ak true 5 b j fun r39=>K (.aA [r39,tt]) j)
def SL(a b:AV):Body p_ 215 [a,b] (Nb a b):=bB Tryz.func215 (sn (.seq (.seq (.aQ (oR 0 7 (.aB 6 false (fR 7 9) [0,4] [13,22]::.op 16 false::[]))) .nil) .nil)) 40 [.cell 4 70,.tmp 5]
def Jj(a:AV)(h:aa)(K:AV→aa→Prop):Prop:=
 qLd p_ a 0 h fun f=>br f fun g=>qBe .eql g 0 fun i=>qJo i [a] h (fun j=>qLd p_ a 0 h fun k=>aO 5 k (i_ 0) fun l=>iFL 0 false 1 l h fun m=>ag .neq m (u8 9) fun n=>j n h) fun o c=>af o (K (i_ 0) c) (qLd p_ a 0 c fun p=>aO 5 p (i_ 0) fun q=>iFL 1 false 1 q c fun r=>iC p_ 60 [.str [45,32,43],r] c fun s b=>qBe .sub s 1 fun e=>qLd p_ a 0 b fun t=>aO 5 t (i_ 0) fun u=>iFL 1 false 1 u b fun v=>ag .eql v (.str [43]) fun w=>qJo w [a,e] b (fun x=>qLd p_ a 0 b fun y=>aO 5 y (i_ 0) fun z=>iFL 1 false 1 z b fun A=>ag .eql A (.str [45]) fun B=>x B b) fun C d=>af C (qLd p_ a 0 d fun D=>lD 5 D (some (i_ 1)) none fun E=>qSt p_ a 0 E d fun F=>K e F) (K (i_ 0) d))
def M8(a:AV):Body p_ 218 [a] (Jj a):=bB Tryz.func218 (sn (.seq (.seq (.aQ (oR 0 7 (.aB 6 false (fR 7 8) [0] [10,18]::.op 15 false::[]))) .nil) (sn (.seq (.seq (.aQ (oR 0 9 (.aB 8 false (fR 9 8) [0,3] [37,45]::.op 17 false::[]))) .nil) .nil)))) 56 [.tmp 2]
def TG(m:AV)(h:aa)(K:AV→aa→Prop):Prop:=
 iC p_ 215 [m,u8 10] h fun c n=>aU 0 c fun o=>aU 1 c fun d=>aV 70 (.agg [u8 0,.str [],i_ 0,.str [],ff]) n fun b p=>ao 5 b o p fun a=>iFL 2 false 1 b a fun q=>qBe .quo q 1000 fun r=>aH (fun e=>aI d true (bo 4 b fun f=>ak false 1 f a fun s=>e [f,s] a) (e [un,un] a)) fun t _=>bA d (nx t 1) ff fun g=>aH (fun i=>aI g true (bo 2 b fun j=>ak false 1 j a fun k=>qBe .rem k 1000 fun l=>qBe .eql l 0 fun u=>i [j,k,l,u] a) (i [un,un,un,un] a)) fun v _=>bA g (nx v 3) ff fun w=>K (.aA [r,w]) a
def aam(a:AV):Body p_ 214 [a] (TG a):=bB Tryz.func214 (sn (sn (.seq (.draw 16 (oR 0 5 (.aB 4 true (fR 5 2) [] [16,17]::oR 7 2 (.aB 8 true (fR 9 4) [] [20,21,22,23]::oR 13 3 []))) [] []) .nil))) 25 [.tmp 2,.tmp 3]
def TH(a b:AV)(h:aa)(K:AV→aa→Prop):Prop:=
 aH (fun i=>ag .eql b (.str [45]) fun u=>af u (eC [a] (i [i_ (-1)] h)) (ag .neq b (.str []) fun v=>af v (iC p_ 216 [b,.str [45]] h fun j k=>aU 0 j fun c=>aU 1 j fun w=>cq w fun x=>qJo x [c] k (fun y=>iC p_ 228 [c,.str [48,49,50,51,52,53,54,55,56,57]] k fun z A=>ag .neq z (.str []) fun B=>y B A) fun C l=>af C (K (.aA [i_ 0,ff]) l) (iC p_ 229 [c,i_ 10,i_ 64] l fun m n=>aU 0 m fun d=>aU 1 m fun D=>aH (fun o=>kJ true (vK D) fun E=>qJo E [d] n (fun F=>qBe .gtr d 1000000000 fun G=>F G n) fun H p=>af H (o [i_ 1000000000] p) (o [d] p)) fun I J=>pd (nx I 0) fun L=>K (.aA [L,tt]) J)) (iC p_ 199 [a] h fun Y e=>qLd p_ a 0 e fun M=>br M fun N=>qBe .eql N 0 fun O=>af O (K (.aA [i_ 0,tt]) e) (iC p_ 218 [a] e fun P Q=>eC [a] (i [P] Q))))) fun q R=>iC p_ 199 [a] R fun Z S=>iC p_ 214 [a] S fun r f=>aU 0 r fun g=>aU 1 r fun s=>qBe .eql (nx q 0) 0 fun T=>af T (K (.aA [g,s]) f) (ag .mul (nx q 0) g fun t=>qJa s [t] f (fun U=>qBe .geq g 0 fun V=>U V f) fun W X=>K (.aA [t,W]) X)
def aan(a b:AV):Body p_ 217 [a,b] (TH a b):=bB Tryz.func217 (sn (sn (.join [0] [6] (.one (sn (.two .nil (sn (.two (sn (.seq (.seq (.aQ (oR 0 3 (.aB 2 false (fR 3 3) [7] [36,39]::.op 6 false::[]))) .nil) (sn (.join [] [9] (.seq (.aQ (oR 0 3 (.aB 2 false (fR 3 2) [9] [48,50]::.op 5 false::[]))) .nil) .nil)))) .nil))))) (sn (sn (sn (.seq (.aQ (oR 0 5 (.aB 4 true (fR 5 2) [67] [69,71]::oR 7 3 []))) .nil))))))) 73 [.tmp 4,.tmp 5]
def TE(b:AV)(h:aa)(K:AV→aa→Prop):Prop:=
 aV 44 (.agg [i_ 0,i_ 0]) h fun a M=>iC p_ 214 [b] M fun o p=>aU 0 o fun N=>aU 1 o fun O=>af O (aX (.agg [i_ 0,i_ 0]) [(1,1,N)] fun P=>ao 2 a P p fun q=>ak true 2 a q fun r9=>K (.aA [r9,tt]) q) (iC p_ 215 [b,u8 12] p fun r Q=>aU 0 r fun R=>aU 1 r fun S=>aV 70 (.agg [u8 0,.str [],i_ 0,.str [],ff]) Q fun c T=>ao 5 c R T fun f=>af S (iFL 3 false 1 c f fun U=>iC p_ 76 [U] f fun V W=>iC p_ 216 [V,.str [110]] W fun s g=>aU 0 s fun i=>aU 1 s fun X=>cq X fun Y=>qJo Y [b,a,c,i] g (fun Z=>iFL 4 false 1 c g fun a0=>cq a0 fun a1=>Z a1 g) fun a2 j=>qJo a2 [b,a,c,i] j (fun a3=>iFL 2 false 1 c j fun a4=>qBe .rem a4 1000 fun a5=>qBe .neq a5 0 fun a6=>a3 a6 j) fun a7 t=>af a7 (aX (.agg [i_ 0,i_ 0]) [] fun a8=>ao 2 a a8 t fun u=>ak true 2 a u fun r43=>K (.aA [r43,ff]) u) (iC p_ 217 [b,i] t fun v w=>aU 0 v fun a9=>aU 1 v fun b0=>iFL 2 false 1 c w fun b1=>qBe .quo b1 1000 fun b2=>aX (.agg [i_ 0,i_ 0]) [(0,1,b2),(1,1,a9)] fun b3=>ao 2 a b3 w fun x=>ak true 2 a x fun r53=>K (.aA [r53,b0]) x)) (iC p_ 218 [b] f fun k b4=>iC p_ 215 [b,u8 1] b4 fun y b5=>aU 0 y fun b6=>aU 1 y fun b7=>aV 70 (.agg [u8 0,.str [],i_ 0,.str [],ff]) b5 fun l b8=>ao 5 l b6 b8 fun z=>cq b7 fun b9=>qJo b9 [b,a,k,l] z (fun c0=>qBe .lss k 0 fun c1=>c0 c1 z) fun c2 m=>af c2 (aX (.agg [i_ 0,i_ 0]) [] fun c3=>ao 2 a c3 m fun A=>ak true 2 a A fun r71=>K (.aA [r71,ff]) A) (iFL 1 false 1 l m fun c4=>iC p_ 76 [c4] m fun d e=>aH (fun n=>qBe .eql k 0 fun c5=>af c5 (ag .eql d (.str [111,100,100]) fun c6=>af c6 (aX (.agg [i_ 0,i_ 0]) [(0,1,(i_ 2)),(1,1,(i_ 1))] fun c7=>ao 2 a c7 e fun B=>ak true 2 a B fun r81=>K (.aA [r81,tt]) B) (ag .eql d (.str [101,118,101,110]) fun c8=>af c8 (aX (.agg [i_ 0,i_ 0]) [(0,1,(i_ 2))] fun c9=>ao 2 a c9 e fun C=>ak true 2 a C fun r85=>K (.aA [r85,tt]) C) (iC p_ 216 [d,.str [45]] e fun D E=>aU 0 D fun d0=>aU 1 D fun d1=>af d1 (eC [b,a] (n [d0,i_ (-1)] E)) (eC [b,a] (n [d,i_ 1] E))))) (eC [b,a] (n [d,i_ 1] e))) fun F d2=>iC p_ 216 [nx F 0,.str [110]] d2 fun G H=>aU 0 G fun d3=>aU 1 G fun d4=>cq d4 fun d5=>af d5 (aX (.agg [i_ 0,i_ 0]) [] fun d6=>ao 2 a d6 H fun I=>ak true 2 a I fun r99=>K (.aA [r99,ff]) I) (iC p_ 217 [b,d3] H fun J d7=>aU 0 J fun d8=>aU 1 J fun d9=>aX (.agg [i_ 0,i_ 0]) [(0,1,(nx F 1)),(1,1,d8)] fun e0=>ao 2 a e0 d7 fun L=>ak true 2 a L fun r106=>K (.aA [r106,d9]) L))))
def aak(a:AV):Body p_ 200 [a] (TE a):=bB Tryz.func200 (sn (sn (.seq (sn (sn (.two (sn (.seq (.seq (.aQ (oR 0 3 (.aB 2 false (fR 3 3) [0,2,6,8] [46,49]::oR 6 2 (.aB 7 false (fR 8 4) [0,2,6,8] [51,55]::.op 12 false::[])))) .nil) .nil)) .nil))) (sn (sn (.seq (.seq (.aQ (oR 0 3 (.aB 2 false (fR 3 2) [0,2,12,13] [79,81]::.op 5 false::[]))) .nil) (sn (.join [0,2] [15,16] .nil .nil)))))))) 121 [.cell 2 44,.tmp 3]
def Ty(l:AV)(h:aa)(K:AV→aa→Prop):Prop:=
 aV 44 (.agg [i_ 0,i_ 0]) h fun a k=>aX (.agg [qNs]) [(0,1,l)] fun m=>aV 261 m k fun c n=>iC p_ 199 [c] n fun I o=>iC p_ 200 [c] o fun g p=>aU 0 g fun q=>aU 1 g fun r=>aV 44 (.agg [i_ 0,i_ 0]) p fun b s=>ao 2 b q s fun t=>iC p_ 199 [c] t fun J d=>cq r fun u=>qJo u [a,b] d (fun v=>qLd p_ c 0 d fun w=>br w fun x=>qBe .gtr x 0 fun y=>v y d) fun z e=>qJo z [a,b] e (fun A=>ak true 2 b e fun B=>iC p_ 86 [B] e fun C D=>qBe .neq C 0 fun E=>A E D) fun F f=>af F (aX (.agg [i_ 0,i_ 0]) [] fun G=>ao 2 a G f fun i=>ak true 2 a i fun r37=>K (.aA [r37,i_ 12]) i) (ak true 2 b f fun H=>ao 2 a H f fun j=>ak true 2 a j fun r40=>K (.aA [r40,i_ 0]) j)
def aae(a:AV):Body p_ 177 [a] (Ty a):=bB Tryz.func177 (sn (sn (sn (sn (sn (.seq (.seq (.aQ (oR 0 3 (.aB 2 false (fR 3 6) [2,5] [21,27]::oR 9 2 (.aB 10 false (fR 11 3) [2,5] [29,32]::.op 14 false::[])))) .nil) .nil)))))) 36 [.cell 2 44,.tmp 3]
end
section
open Go Go.Aw Go.RowKit
abbrev mT(l:List Tok):aL:=.ah ⟨261,[.sl 5 (cU l)],true⟩
def Rd(id:Nat)(h:aa)(l:List Tok):Prop:=h[id]?=some (mT l)
def Rd.lt{id:Nat}(r:Rd id h l):id<h.length:=(eQ.1 r).1
def Rd.set{id:Nat}(r:Rd id h l)(m:List Tok):Rd id (h.set id (mT m)) m:=iD r.lt
def Rd.app{id:Nat}(r:Rd id h l)(j:aa):Rd id (h++j) l:=by
 unfold Rd;rw[gO r.lt];exact r
def Mr(id:Nat)(l:List Tok)(h h':aa):Prop:=∃j,h'=h.set id (mT l)++j
def Mr.len{id:Nat}(g:Mr id l h h'):h.length≤h'.length:=by obtain⟨j,rfl⟩:=g;simp
def Mr.rd{id:Nat}(r:Rd id h l0)(g:Mr id l h h'):Rd id h' l:=by
 obtain⟨j,rfl⟩:=g;exact (r.set l).app j
def Mr.trans{id:Nat}(hl:id<h.length)(x:Mr id l h h')(y:Mr id m h' h''):Mr id m h h'':=by
 obtain⟨j,rfl⟩:=x;obtain⟨k,rfl⟩:=y;exact⟨j++k,by rw[IN _ _ (by simpa using hl),abW,To]⟩
def Mr.other{id:Nat}(g:Mr id l h h')(hi:i<h.length)(hne:i≠id):h'[i]?=h[i]?:=by
 obtain⟨j,rfl⟩:=g;rw[gO (by simpa using hi),iF (Ne.symm hne)]
def Mr.set(id:Nat)(l:List Tok)(h:aa):Mr id l h (h.set id (mT l)):=⟨[],by simp⟩
def Mr.tail{id:Nat}(g:Mr id l h h')(k:aa):Mr id l h (h'++k):=by
 obtain⟨j,rfl⟩:=g;exact⟨j++k,by rw[To]⟩
def Mr.refl{id:Nat}(r:Rd id h l):Mr id l h h:=⟨[],by rw[kv r];simp⟩
def Mr.wb{id T:Nat}(m:Mr id l h H)(hT:h.length≤T)(e:aL):Mr id l h (H.set T e):=by
 obtain⟨j,rfl⟩:=m;exact⟨j.set (T-h.length) e,by rw[IF _ _ (by simpa using hT)];simp⟩
def Mr.new{id:Nat}(hid:id<h.length)(m:Mr id l (h++k) H):Mr id l h H:=by
 obtain⟨j,rfl⟩:=m;exact⟨k++j,by rw[IN _ _ hid,To]⟩
def MG{K:AV→Prop}(ex:x=.v (.int k a))(ey:y=.v (.int k b))(h0:b≠0)(hc:a.tmod b=c)(q:K (.v (.int k c))):ag .rem x y K:=by
 subst ex;subst ey;subst hc;exact⟨rfl,h0,q⟩
def GA{K:AV→Prop}(ex:x=.v (.int k a))(ey:y=.v (.int k b))(h0:b≠0)(hc:k.wrap (a.tdiv b)=c)(q:K (.v (.int k c))):ag .quo x y K:=by
 subst ex;subst ey;subst hc;exact⟨rfl,h0,q⟩
def tQ{K:AV→Prop}(ex:x=.sl 5 (cU (t:: l)))(q:K (.ip t.row)):aO 5 x (i_ 0) K:=by
 refine Wp (n:=0) ex rfl (by simp) ?_;exact q
def Nd{K:AV→Prop}(ex:x=.sl 5 (cU (t:: l)))(q:K (.sl 5 (cU l))):lD 5 x (some (i_ 1)) none K:=by
 refine WI ex (by simp) ?_;exact q
def P4(k:Int):List Tok→Prop
 | []=>True
 | t:: _=>t.k≠k
variable [Laid]
theorem OC{id:Nat}{sp l:List Tok}{K:AV→aa→Prop}(r:Rd id h (sp++l))(ex:x=.op id 0)(hs:∀t∈sp,t.k=13)(hl:P4 13 l)(hn:sp.length+l.length≤2^20)(k:K (.aA []) (h.set id (mT l))):
 bx p_ (.fn (.func 199) [] []) [x] h K:=by
 subst ex;refine cF (by kernel_rfl) rfl (K0:=fun v h' => v=.aA []∧h'=h.set id (mT l)) ?_ ?_
 ·refine (aaj _).bG ?_;unfold TD;refine ba (α:=List Tok×List Tok) (fun x=>sp=x.1++x.2) (fun _=>[]) (fun x=>h.set id (mT (x.2++l))) (fun x=>x.2.length) ([],sp) rfl (by rw[kv r];exact Wk.refl _ _ _ (bY _)) ?_;rintro⟨p,q⟩ e;have e:sp=p++q:=e;have r':=r.set (q++l);show cg _ _ _;refine bz (zzA (zzU r' rfl (qk rfl (zzE (aD ?_)))));cases q with
  | cons t q =>
    have ht:t.k=13:=hs t (by rw[e];simp);refine zzN (oF (by simp<;>omega)) (bz (zzA (zzU r' rfl (tQ rfl (zzX (zzW (zzG (aq (zzR (zzL (oF ht) (bz (zzA (zzU r' rfl ?_)))))))))))));refine Nd rfl (bz (zzA (aW (cs:=[.sl 5 (cU (q++l))]) (h':=h.set id (mT (q++l))) rfl r' rfl rfl (by simp) rfl rfl (by rw[abW];rfl) (aq ?_))));exact⟨(p++[t],q),by rw[e];simp,Wk.refl _ _ _ (by simp),by simp⟩
  | nil =>
    have fin:∃r' h'',Wk h.length [AV.aA []] (h.set id (mT ([]++l))) [r'] h''∧r'=.aA []∧h''=h.set id (mT l):=⟨_,_,Wk.refl _ _ _ (by simp),rfl,rfl⟩;cases l with
    | nil =>
      refine zzM rfl (aq (zzQ (zzK rfl ?_)));exact fin
    | cons t l =>
      refine zzN (oF (by simp<;>omega)) (bz (zzA (zzU r' rfl (tQ rfl (zzX (zzW (zzG (aq (zzR (zzK (nO hl) ?_))))))))));exact fin
 ·rintro _ _ ⟨rfl,rfl⟩;exact k
def Rm{id:Nat}{kd:Int}{K:AV→aa→Prop}(r:Rd id h (t:: l))(ex:x=.op id 0)(ht:t.k=kd)(hn:l.length≤2^20)(k:∀H,Mr id l h H→K (.aA [t.av,tt]) H):
 bx p_ (.fn (.func 215) [] []) [x,u8 kd] h K:=by
 subst ex;have hid:=r.lt;refine cF (by kernel_rfl) rfl (K0:=fun v h' => v=.aA [t.av,tt]∧Mr id l h h') ?_ ?_
 ·refine (SL _ _).bG ?_;unfold Nb;refine ca (cs:=[u8 0,.str [],i_ 0,.str [],ff]) (n:=h.length) (h':=h++[cw 0 [] 0 [] false]) rfl (by simp[bT]) rfl rfl ?_;have r2:=r.app [cw 0 [] 0 [] false];have hV:(h++[cw 0 [] 0 [] false])[h.length]?=some (cw 0 [] 0 [] false):=by simp
  have hL:(h++[cw 0 [] 0 [] false]).length=h.length+1:=by simp
  have m0:∀{H m},Mr id m (h++[cw 0 [] 0 [] false]) H→Mr id m h H:=fun m=>m.new hid;generalize h++[cw 0 [] 0 [] false]=H at r2 hV hL m0;refine bz (zzA (zzU r2 rfl (qk rfl (zzG (aD (zzN (nO (by simp<;>omega)) (bz (zzA (zzU r2 rfl (tQ rfl (zzX (zzW (zzH ?_)))))))))))));refine aq (zzQ (zzK (by simp[ht]) (bz (zzA (zzU r2 rfl (tQ rfl (zzY rfl (ca (cs:=[u8 0,.str [],i_ 0,.str [],ff]) (n:=H.length) (h':=H++[cw 0 [] 0 [] false]) rfl (by simp[bT]) rfl rfl (aW (cs:=t.row) (h':=H++[aL.ah ⟨70,t.row,true⟩]) rfl (b:=⟨70,[u8 0,.str [],i_ 0,.str [],ff],true⟩) (by simp) rfl rfl (by simp) rfl (by simp[bT]) (by rw[IF _ _ (bY _)];simp) ?_)))))))));have r3:=r2.app [aL.ah ⟨70,t.row,true⟩];refine bz (zzA (zzU r3 rfl (Nd rfl (bz (zzA (aW (cs:=[.sl 5 (cU l)]) (h':=(H++[aL.ah ⟨70,t.row,true⟩]).set id (mT l)) rfl r3 rfl rfl (by simp) rfl rfl rfl ?_))))));refine zzV (b:=⟨70,t.row,true⟩) (by rw[iF (by omega)];simp) (by simp) ?_;refine qS (k:=t.k) (t:=t.t) (n:=t.n) (u:=t.u) (f:=t.f) (K:=fun r39 g38=>∃r' h'',Wk h.length [.aA [r39,tt]] g38 [r'] h''∧r'=.aA [t.av,tt]∧Mr id l h h'') (k0:=0) (t0:=[]) (n0:=0) (u0:=[]) (f0:=false) (by rw[iF (by omega),gO (by omega)];exact hV) ?_;have m1:Mr id l h ((H++[aL.ah ⟨70,t.row,true⟩]).set id (mT l)):=m0 ⟨[aL.ah ⟨70,t.row,true⟩],by rw[IN _ _ (by omega)]⟩;exact⟨_,_,Wk.refl _ _ _ (by simp;omega),rfl,m1.wb (bY _) _⟩
 ·rintro _ H ⟨rfl,m⟩;exact k H m
theorem Ii{id:Nat}{kd:Int}{K:AV→aa→Prop}(r:Rd id h l)(ex:x=.op id 0)(ht:P4 kd l)(hn:l.length≤2^20)(k:∀H,Mr id l h H→K (.aA [wm 0 [] 0 [] false,ff]) H):
 bx p_ (.fn (.func 215) [] []) [x,u8 kd] h K:=by
 subst ex;have hid:=r.lt;refine cF (by kernel_rfl) rfl (K0:=fun v h' => v=.aA [wm 0 [] 0 [] false,ff]∧Mr id l h h') ?_ ?_
 ·refine (SL _ _).bG ?_;unfold Nb;refine ca (cs:=[u8 0,.str [],i_ 0,.str [],ff]) (n:=h.length) (h':=h++[cw 0 [] 0 [] false]) rfl (by simp[bT]) rfl rfl ?_;have r2:=r.app [cw 0 [] 0 [] false];have hV:(h++[cw 0 [] 0 [] false])[h.length]?=some (cw 0 [] 0 [] false):=by simp
  have m1:Mr id l h (h++[cw 0 [] 0 [] false]):=(Mr.refl r).tail _;have fin:ao 5 (.op h.length 0) (wm 0 [] 0 [] false) (h++[cw 0 [] 0 [] false]) fun g20=>ak true 5 (.op h.length 0) g20 fun r21=>∃r' h'',Wk h.length [.aA [r21,ff]] g20 [r'] h''∧r'=.aA [wm 0 [] 0 [] false,ff]∧Mr id l h h'':=by
   refine qS hV ?_;exact⟨_,_,Wk.refl _ _ _ (by simp),rfl,m1.wb (bY _) _⟩
  refine bz (zzA (zzU r2 rfl (qk rfl (zzG (aD ?_)))));cases l with
  | nil =>
    refine zzM rfl (aq (zzR (zzL rfl (bc rfl ?_))));exact fin
  | cons t l =>
    refine zzN (nO (by simp<;>omega)) (bz (zzA (zzU r2 rfl (tQ rfl (zzX (zzW (zzH (aq (zzQ ?_)))))))));have ht:¬t.k=kd:=ht;refine zzL (by simp[ht]) (bc rfl ?_);exact fin
 ·rintro _ H ⟨rfl,m⟩;exact k H m
end
section
open Go Go.Aw Go.RowKit
def E7(l:ae):∀a,a≤l.foldl (fun n b=>10*n+oS b) a:=by
 induction l with
 | nil=>intro a;exact bY _
 | cons b l ih=>intro a;rw[List.foldl_cons];exact ab3 (by omega) (ih _)
theorem yU:∀(l:ae) (a:Nat),(∀b∈l,48≤b.toNat∧b.toNat≤57)→a≤2^64-1→Lib.parseUintM (2^64-1) a l=if l.foldl (fun n b=>10*n+oS b) a≤2^64-1 then .ok (l.foldl (fun n b=>10*n+oS b) a) else .range
 | [],a,_,ha=>by rw[Lib.parseUintM,List.foldl_nil,if_pos ha]
 | b:: l,a,hd,ha=>by
   have hb:=hd b (ack ..);rw[List.foldl_cons];have hg:=E7 l (10*a+oS b);have e:a*10+(b.toNat-48)=10*a+oS b:=by unfold oS;omega
   rw[Lib.parseUintM,if_pos hb,e]
   by_cases h1:1844674407370955162≤a
   ·rw[if_pos h1,if_neg (by omega)]
   ·rw[if_neg h1]
    by_cases h2:2^64-1<10*a+oS b
    ·rw[if_pos h2,if_neg (by omega)]
    ·rw[if_neg h2];exact yU l _ (fun x hx=>hd x (Lt _ hx)) (by omega)
def G4(hd:qn d):Lib.parseIntB 64 d=if iy d<2^63 then .ok (iy d) else .range:=by
 obtain⟨hn,hd⟩:=hd;cases d with
 | nil=>exact absurd rfl hn
 | cons c r =>
   have hc:=hd c (ack ..);unfold Lib.parseIntB;have h1:¬(c.toNat=43∨c.toNat=45):=by omega
   have h2:¬c.toNat=45:=by omega
   simp only[if_neg h1];unfold Lib.parseUintB;rw[if_neg hn,yU (c:: r) 0 hd (by omega)];have h4:(c:: r).foldl (fun n b=>10*n+oS b) 0=iy (c:: r):=rfl;rw[h4]
   by_cases h3:iy (c:: r)<2^63
   ·rw[if_pos (by omega),if_pos h3];simp only[h2];rw[if_neg (by omega)];simp
   ·rw[if_neg h3]
    by_cases h5:iy (c:: r)≤2^64-1
    ·rw[if_pos h5];simp only[h2];rw[if_pos ⟨by simp,by omega⟩]
    ·rw[if_neg h5]
theorem drop_nil{p:UInt8→Bool}:∀{l:ae},l.dropWhile p=[]→∀b∈l,p b=true
 | [],_,b,hb=>by cases hb
 | x:: l,h,b,hb=>by
   rw[List.dropWhile_cons]at h
   by_cases q:p x=true
   ·rw[if_pos q]at h;rcases ID.1 hb with rfl|hb
    ·exact q
    ·exact drop_nil h b hb
   ·rw[if_neg q]at h;cases h
def Pf(h:Lib.trimS d jQ=[]):∀b∈d,48≤b.toNat∧b.toNat≤57:=by
 unfold Lib.trimS Lib.trimRightS Lib.trimLeftS at h;have hin:∀b:UInt8,jQ.contains b=true→48≤b.toNat∧b.toNat≤57:=fun b hb=>by
  have:b∈jQ:=by simpa using hb
  simp[jQ]at this;rcases this with rfl|rfl|rfl|rfl|rfl|rfl|rfl|rfl|rfl|rfl<;>decide
 have hall:=drop_nil h;have hnil:d.reverse.dropWhile (fun x=>jQ.contains x)=[]:=by
  cases e:d.reverse.dropWhile (fun x=>jQ.contains x) with
  | nil=>rfl
  | cons x r =>
    have h1:=hall x (by rw[e];simp);have h2:=List.head_dropWhile_not (fun x=>jQ.contains x) (l:=d.reverse) (by rw[e];simp);simp only[e,List.head_cons]at h2;rw[h1]at h2;cases h2
 intro b hb;exact hin b (drop_nil hnil b (by simpa using hb))
variable [bq]
def DS(l:ae)(hl:l.length≤2^31)(h:Lib.parseIntB 64 l=.range):bn p_ 229 [.str l,i_ 10,i_ 64] (.aA [i_ (Lib.intSat 64 l),.il 296 .any]):=by
 refine⟨by simp[aR],by simp[aR,Aw.Pure], ?_⟩;intro base ι S w vs h1 h2;have hg:=(h2.gl 7 [.v bq.er] rfl).1.get 0 (.v bq.er) rfl;obtain⟨u,hu,_,hr⟩:=hg;rw[cD]at hr;subst hr;rw[ab0]at hu
 match vs,h1 with
 | [],h1=>simp at h1
 | [v],h1=>simp at h1
 | [v,u],h1=>simp at h1
 | v:: u:: x:: y:: vs,h1=>simp at h1
 | [v,u,x],h1 =>
   simp only[bN,dq,and_true,eK,cD]at h1;obtain⟨⟨rfl,_⟩,rfl,rfl⟩:=h1;refine (Any.strconv_ParseInt_10_at64_range laysC174 ⟨l.toArray⟩ (by simp[ByteArray.size];omega) (by simpa using h) bq.er w hu bq.Uq).mono ?_;rintro e w' ⟨N,rfl,_,_,hB⟩;have hE:bU ι.length w.heap.size ι S w ι S w':=⟨fun _ _=>fW.refl _,fun _ _ q=>q,fun _ _ q=>.inl q,fun b o q=>hB.cell (h2.iY b o q),fun b x hx=>by
    unfold World.shape? at hx ⊢;have hb:b<w.heap.size:=by
     rcases uP b w.heap.size with k|k
     ·exact k
     ·rw[acw k]at hx;cases hx
    rw[hB.block b hb];exact hx,hB⟩
   refine⟨_,ι,S,_,[],rfl,hE.mono (by rw[h2.len];exact bY _) h2.kC, ?_,h2.over hE (fun b o q=>Up (h2.iY b o q) hB.size),bY _,rfl⟩;simp[ar]
   kernel_rfl
end
section
open Go Go.Aw Go.RowKit
def JC[Laid](s:ae)(c:UInt8):bn p_ 60 [.str s,.str [c]] (i_ (Lib.indexByte s c)):=by
 refine iM (v:=.int .i64 (Lib.indexByte s c)) (by simp[aR]) (by simp) (by simp) (fun w=>by simp) ?_;intro ι S w vs h1 hg
 match vs,h1 with
 | [],h1=>simp at h1
 | [v],h1=>simp at h1
 | v:: u:: x:: vs,h1=>simp at h1
 | [v,u],h1 =>
   simp only[bN,dq,and_true,eK]at h1;obtain⟨⟨rfl,_⟩,rfl,_⟩:=h1;refine (Any.strings_Index_one lays143 ⟨s.toArray⟩ c w).mono ?_;rintro e w' ⟨rfl,rfl⟩;exact⟨rfl,Below.refl _ _⟩
theorem Ig[Laid]{id:Nat}{K:AV→aa→Prop}(r:Rd id h l)(ex:x=.op id 0)(ht:P4 9 l)(k:K (i_ 0) h):
 bx p_ (.fn (.func 218) [] []) [x] h K:=by
 subst ex;refine cF (by kernel_rfl) rfl (K0:=fun v h' => v=i_ 0∧h'=h) ?_ ?_
 ·refine (M8 _).bG ?_;unfold Jj;have fin:∃r' h'',Wk h.length [i_ 0] h [r'] h''∧r'=i_ 0∧h''=h:=⟨_,_,Wk.refl _ _ _ (bY _),rfl,rfl⟩;refine bz (zzA (zzU r rfl (qk rfl (zzG (aD ?_)))));cases l with
  | nil =>
    refine zzM rfl (aq (zzR (zzL rfl ?_)));exact fin
  | cons t l =>
    refine zzN (nO (by simp<;>omega)) (bz (zzA (zzU r rfl (tQ rfl (zzX (zzW (zzH (aq (zzQ ?_)))))))));have ht:¬t.k=9:=ht;refine zzL (by simp[ht]) ?_;exact fin
 ·rintro _ _ ⟨rfl,rfl⟩;exact k
def Ih[Laid]{id:Nat}{K:AV→aa→Prop}(r:Rd id h (⟨9,[c],n,u,f⟩:: l))(ex:x=.op id 0)(hc:c=43∨c=45)(k:K (i_ (if c=43 then 1 else -1)) (h.set id (mT l))):
 bx p_ (.fn (.func 218) [] []) [x] h K:=by
 subst ex;refine cF (by kernel_rfl) rfl (K0:=fun v h' => v=i_ (if c=43 then 1 else -1)∧h'=h.set id (mT l)) ?_ ?_
 ·refine (M8 _).bG ?_;unfold Jj;have hd:∀{K:AV→Prop},K (.str [c])→cg p_ (.op id 0) fun v17=>bo 0 v17 fun v18=>ak false 1 v18 h fun v19=>aO 5 v19 (i_ 0) fun v20=>bo 1 v20 fun v21=>ak false 1 v21 h K:=by
   intro K q;refine bz (zzA (zzU r rfl (tQ rfl (zzX ?_))));exact zzW q
  refine bz (zzA (zzU r rfl (qk rfl (zzG (aD (zzN (nO (by simp<;>omega)) (bz (zzA (zzU r rfl (tQ rfl (zzX (zzW (zzH ?_)))))))))))));refine aq (zzQ (zzK rfl (hd (uCon (JC _ c) ?_))));have hib:Lib.indexByte [45,32,43] c-1=(if c=43 then 1 else -1):=by rcases hc with rfl|rfl<;>decide
  refine zze (by rw[hib];split<;>(unfold aK;decide)) ?_;rw[hib];have fin:cg p_ (.op id 0) fun v44=>bo 0 v44 fun v45=>ak false 1 v45 h fun v46=>lD 5 v46 (some (i_ 1)) none fun v47=>cg p_ (.op id 0) fun v48=>bo 0 v48 fun v49=>ao 1 v49 v47 h fun g50=>∃r' h'',Wk h.length [i_ (if c=43 then 1 else -1)] g50 [r'] h''∧r'=i_ (if c=43 then 1 else -1)∧h''=h.set id (mT l):=by
   refine bz (zzA (zzU r rfl (Nd rfl (bz (zzA (aW (cs:=[.sl 5 (cU l)]) (h':=h.set id (mT l)) rfl r rfl rfl (by simp) rfl rfl rfl ?_))))));exact⟨_,_,Wk.refl _ _ _ (by simp),rfl,rfl⟩
  refine hd (zzI (aD ?_));rcases hc with rfl|rfl
  ·refine zzM rfl (aq (zzR (zzL rfl ?_)));exact fin
  ·refine zzN rfl (hd (zzI (aq (zzQ (zzL rfl ?_)))));exact fin
 ·rintro _ _ ⟨rfl,rfl⟩;exact k
end
section
open Go Go.Aw Go.RowKit
def DC(l:List Tok):∃sp,l=sp++dJ l∧(∀t∈sp,t.k=13)∧P4 13 (dJ l):=by
 induction l with
 | nil=>exact⟨[],rfl,by simp,trivial⟩
 | cons t r ih =>
   rw[dJ]
   by_cases h:t.k=13
   ·rw[if_pos h];obtain⟨sp,h1,h2,h3⟩:=ih;refine⟨t:: sp, ?_, ?_,h3⟩
    ·rw[acs,←h1]
    ·intro x hx;rcases ID.1 hx with rfl|hx
     ·exact h
     ·exact h2 x hx
   ·rw[if_neg h];exact⟨[],rfl,by simp,h⟩
def index_le:∀(s p:ae),-1≤Lib.index s p∧Lib.index s p≤s.length:=by
 intro s p;induction s with
 | nil=>unfold Lib.index;split<;>simp
 | cons b s ih =>
   unfold Lib.index;split
   ·simp;omega
   ·split
    ·simp;omega
    ·simp;omega
def pU(l:List Tok):Prop:=l.length≤2^16∧∀t∈l,(-10^15≤t.n∧t.n≤10^15)∧t.t.length≤2^20∧t.u.length≤2^20
def pU.sub(h:pU l)(hs:m.Sublist l):pU m:=⟨ab3 hs.length_le h.1,fun t ht=>h.2 t (hs.subset ht)⟩
def rn(l:List Tok):(dJ l).Sublist l:=by
 obtain⟨sp,h,_⟩:=DC l;have:=List.sublist_append_right sp (dJ l);rw[←h]at this;exact this
def lk{kd:Int}(h:lj kd l=some (t,l')):l=t:: l'∧t.k=kd:=by
 cases l with
 | nil=>cases h
 | cons x r =>
   rw[lj]at h;split at h
   ·cases h;exact⟨rfl,by assumption⟩
   ·cases h
def wc(l:List Tok):(iT l).2.Sublist l:=by
 cases l with
 | nil=>exact List.Sublist.refl _
 | cons t r =>
   rw[iT];split
   ·exact List.sublist_cons_self ..
   ·split
    ·exact List.sublist_cons_self ..
    ·exact List.Sublist.refl _
def O3(l:List Tok):(iT l).1=0∨(iT l).1=1∨(iT l).1=-1:=by
 cases l with
 | nil=>exact .inl rfl
 | cons t r =>
   rw[iT];split
   ·exact .inr (.inl rfl)
   ·split
    ·exact .inr (.inr rfl)
    ·exact .inl rfl
def nG(l:List Tok):(dc l).2.Sublist l:=by
 unfold dc;cases h:lj 10 l with
 | none=>exact List.Sublist.refl _
 | some x =>
   obtain⟨t,r⟩:=x;rw[(lk h).1];exact List.sublist_cons_self ..
def CJ(h:-10^15≤n∧n≤10^15):-10^12≤n.tdiv 1000∧n.tdiv 1000≤10^12:=by
 have h1:=Int.tdiv_mul_le n (b:=1000) (by decide);rcases Int.le_total 0 n with k|k
 ·rw[Int.tdiv_eq_ediv_of_nonneg k];omega
 ·have:n=-(-n):=by omega
  rw[this,Int.neg_tdiv,Int.tdiv_eq_ediv_of_nonneg (by omega)];omega
def So(h:pU l):-10^12≤(dc l).1.1∧(dc l).1.1≤10^12:=by
 unfold dc;cases e:lj 10 l with
 | none=>simp
 | some x =>
   obtain⟨t,r⟩:=x;exact CJ (h.2 t (by rw[(lk e).1];simp)).1
section
variable [Laid]
def tD{id:Nat}{K:AV→aa→Prop}(r:Rd id h l)(ex:x=.op id 0)(hn:l.length≤2^20)(k:K (.aA []) (h.set id (mT (dJ l)))):
 bx p_ (.fn (.func 199) [] []) [x] h K:=by
 obtain⟨sp,h1,h2,h3⟩:=DC l;have hl:=congrArg List.length h1;simp at hl;exact OC (by rw[←h1];exact r) ex h2 h3 (by omega) k
theorem BT{id:Nat}{kd:Int}{K:AV→aa→Prop}(r:Rd id h l)(ex:x=.op id 0)(hn:l.length≤2^20)
 (k1:∀t l',lj kd l=some (t,l')→∀H,Mr id l' h H→K (.aA [t.av,tt]) H) (k2:lj kd l=none→∀H,Mr id l h H→K (.aA [wm 0 [] 0 [] false,ff]) H) :
 bx p_ (.fn (.func 215) [] []) [x,u8 kd] h K:=by
 cases l with
 | nil=>exact Ii r ex trivial hn (k2 rfl)
 | cons t l =>
   by_cases hk:t.k=kd
   ·exact Rm r ex hk (by simp at hn;omega) (k1 t l (by rw[lj,if_pos hk]))
   ·exact Ii r ex hk hn (k2 (by rw[lj,if_neg hk]))
theorem Fu{id:Nat}{K:AV→aa→Prop}(r:Rd id h l)(ex:x=.op id 0)(hl:pU l)(k:∀H,Mr id (dc l).2 h H→K (.aA [i_ (dc l).1.1,b_ (dc l).1.2]) H):
 bx p_ (.fn (.func 214) [] []) [x] h K:=by
 subst ex;refine cF (by kernel_rfl) rfl (K0:=fun v h' => v=.aA [i_ (dc l).1.1,b_ (dc l).1.2]∧Mr id (dc l).2 h h') ?_ (by rintro _ H ⟨rfl,m⟩;exact k H m);refine (aam _).bG ?_;unfold TG;have hn:=hl.1;refine BT r rfl (by omega) (fun t l' e H m1=>?_) (fun e H m1=>?_)
 ·have hb:=hl.2 t (by rw[(lk e).1];simp);have hd:=CJ hb.1;have ew:dc l=((t.n.tdiv 1000,t.f&&decide (t.n.tmod 1000=0)),l'):=by unfold dc;rw[e]
  rw[ew];refine bl rfl rfl (bl rfl rfl (ca (cs:=[u8 0,.str [],i_ 0,.str [],ff]) (n:=H.length) (h':=H++[cw 0 [] 0 [] false]) rfl (by simp[bT]) rfl rfl (aW (cs:=t.row) (h':=H++[.ah ⟨70,t.row,true⟩]) rfl (b:=⟨70,[u8 0,.str [],i_ 0,.str [],ff],true⟩) (by simp) rfl rfl (by simp) rfl (by simp[bT]) (by rw[IF _ _ (bY _)];simp) ?_)));have hV:(H++[aL.ah ⟨70,t.row,true⟩])[H.length]?=some (.ah ⟨70,t.row,true⟩):=by simp
  refine zzA (zzU hV rfl (GA (c:=t.n.tdiv 1000) rfl rfl (by decide) (by rw[IntKind.wrap_i64];omega) ?_));have fin:∀b,b=(t.f&&decide (t.n.tmod 1000=0))→∃r' h'',Wk h.length [AV.aA [i_ (t.n.tdiv 1000),b_ b]] (H++[aL.ah ⟨70,t.row,true⟩]) [r'] h''∧r'=.aA [i_ (t.n.tdiv 1000),b_ (t.f&&decide (t.n.tmod 1000=0))]∧Mr id l' h h'':=by
   rintro _ rfl;exact⟨_,_,Wk.refl _ _ _ (by have:=m1.len;simp;omega),rfl,m1.tail _⟩
  refine aD (zzN rfl (zzA (zzU hV rfl (zzR (aD ?_)))));cases hf:t.f with
  | true =>
    rw[hf]at fin;refine zzN rfl (zzA (zzU hV rfl (MG rfl rfl (by decide) rfl (zzG (zzR ?_)))));exact fin _ (by simp)
  | false =>
    rw[hf]at fin;refine zzM rfl (zzQ ?_);exact fin _ rfl
 ·have ew:dc l=((0,false),l):=by unfold dc;rw[e]
  rw[ew];refine bl rfl rfl (bl rfl rfl (ca (cs:=[u8 0,.str [],i_ 0,.str [],ff]) (n:=H.length) (h':=H++[cw 0 [] 0 [] false]) rfl (by simp[bT]) rfl rfl (aW (cs:=[u8 0,.str [],i_ 0,.str [],ff]) (h':=H++[cw 0 [] 0 [] false]) rfl (b:=⟨70,[u8 0,.str [],i_ 0,.str [],ff],true⟩) (by simp) rfl rfl (by simp) rfl (by simp[bT]) (by rw[IF _ _ (bY _)];simp) ?_)));have hV:(H++[cw 0 [] 0 [] false])[H.length]?=some (cw 0 [] 0 [] false):=by simp
  refine zzA (zzU hV rfl (GA (c:=0) rfl rfl (by decide) (by decide) (aD (zzM rfl (zzQ (aD (zzM rfl (zzQ ?_))))))));exact⟨_,_,Wk.refl _ _ _ (by have:=m1.len;simp;omega),rfl,m1.tail _⟩
end
variable [bq]
theorem Ie{id:Nat}{K:AV→aa→Prop}(r:Rd id h l)(ex:x=.op id 0)(hl:pU l)(k:∀H,Mr id (iT l).2 h H→K (i_ (iT l).1) H):
 bx p_ (.fn (.func 218) [] []) [x] h K:=by
 cases l with
 | nil=>exact Ig r ex trivial (k h (Mr.refl r))
 | cons t l =>
   by_cases hk:t.k=9
   ·by_cases h1:t.t=[43]
    ·obtain⟨tk,tt',tn,tu,tf⟩:=t;subst hk;subst h1;exact Ih (c:=43) r ex (.inl rfl) (k _ (Mr.set _ _ _))
    by_cases h2:t.t=[45]
    ·obtain⟨tk,tt',tn,tu,tf⟩:=t;subst hk;subst h2;exact Ih (c:=45) r ex (.inr rfl) (k _ (Mr.set _ _ _))
    have e:iT (t:: l)=(0,t:: l):=by rw[iT,if_neg (by simp[h1]),if_neg (by simp[h2])]
    rw[e]at k;subst ex;refine cF (by kernel_rfl) rfl (K0:=fun v h' => v=i_ 0∧h'=h) ?_ (by rintro _ _ ⟨rfl,rfl⟩;exact k _ (Mr.refl r));refine (M8 _).bG ?_;unfold Jj;have hd:∀{K:AV→Prop},K (.str t.t)→cg p_ (.op id 0) fun v17=>bo 0 v17 fun v18=>ak false 1 v18 h fun v19=>aO 5 v19 (i_ 0) fun v20=>bo 1 v20 fun v21=>ak false 1 v21 h K:=by
     intro K q;refine bz (zzA (zzU r rfl (tQ rfl (zzX ?_))));exact zzW q
    refine bz (zzA (zzU r rfl (qk rfl (zzG (aD (zzN (nO (by simp<;>omega)) (bz (zzA (zzU r rfl (tQ rfl (zzX (zzW (zzH ?_)))))))))))));refine aq (zzQ (zzK (by simp[hk]) (hd (cF (by kernel_rfl) rfl (BF [45,32,43] t.t (by simp) h) ?_))));rintro _ _ ⟨rfl,rfl⟩;have hi:=index_le [45,32,43] t.t;simp at hi;refine zze (by unfold aK;omega) (hd (zzI (aD (zzN (nO h1) (hd (zzI (aq (zzQ (zzK (nO h2) ?_)))))))));exact⟨_,_,Wk.refl _ _ _ (bY _),rfl,rfl⟩
   ·have e:iT (t:: l)=(0,t:: l):=by rw[iT,if_neg (by simp[hk]),if_neg (by simp[hk])]
    rw[e]at k;exact Ig r ex hk (k h (Mr.refl r))
end
section
open Go Go.Aw Go.RowKit
variable [bq]
def DB(sg:Int)(l:List Tok):(Int×Bool)×List Tok:=if sg=0 then dc (dJ l) else ((sg*(dc (dJ l)).1.1,(dc (dJ l)).1.2&&decide (0≤(dc (dJ l)).1.1)),(dc (dJ l)).2)
omit [bq] in
def pV(l:List Tok):fP [] l=match dJ l with|[]=>((0,true),[])|t:: r=>DB (iT (t:: r)).1 (iT (t:: r)).2:=by
 unfold fP EB;rw[if_neg (by decide),if_neg (by decide),if_neg (by simp)];cases dJ l with
 | nil=>rfl
 | cons t r=>rfl
theorem Dk{id:Nat}{K:AV→aa→Prop}(r:Rd id h l)(ex:x=.op id 0)(hl:pU l)(hw:w.length≤2^20)(k:∀H,Mr id (fP w l).2 h H→K (.aA [i_ (fP w l).1.1,b_ (fP w l).1.2]) H):
 bx p_ (.fn (.func 217) [] []) [x,.str w] h K:=by
 subst ex;have hid:=r.lt;refine cF (by kernel_rfl) rfl (K0:=fun v h' => v=.aA [i_ (fP w l).1.1,b_ (fP w l).1.2]∧Mr id (fP w l).2 h h') ?_ (by rintro _ H ⟨rfl,m⟩;exact k H m);refine (aan _ _).bG ?_;unfold TH;refine cT (fun s H=>∃sg l1,s=[i_ sg]∧(sg=0∨sg=1∨sg=-1)∧pU l1∧Mr id l1 h H∧fP w l=DB sg l1) ?_ ?_
 ·rintro _ H ⟨sg,l1,rfl,hsg,ol1,m1,e⟩;rw[e];have r1:=m1.rd r;refine tD r1 rfl (by have:=ol1.1;omega) ?_;have o2:pU (dJ l1):=ol1.sub (rn l1);have r2:=r1.set (dJ l1);refine Fu r2 rfl o2 fun H2 m2=>?_;have hwi:=So o2;have m:Mr id (dc (dJ l1)).2 h H2:=m1.trans hid ((Mr.set id (dJ l1) H).trans (by have:=m1.len;omega) m2);have hH2:=m.len;refine bl rfl rfl (bl rfl rfl (zzG ?_))
  by_cases hz:sg=0
  ·refine zzL (oF hz) ?_;have e2:DB sg l1=dc (dJ l1):=if_pos hz;rw[e2];exact⟨_,_,Wk.refl _ _ _ hH2,rfl,m⟩
  ·refine zzK (nO hz) ?_;have e2:DB sg l1=((sg*(dc (dJ l1)).1.1,(dc (dJ l1)).1.2&&decide (0≤(dc (dJ l1)).1.1)),(dc (dJ l1)).2):=if_neg hz;rw[e2];refine Kp rfl rfl (by unfold aK;rcases hsg with rfl|rfl|rfl<;>omega) (aD ?_);have fin:∀b,b=((dc (dJ l1)).1.2&&decide (0≤(dc (dJ l1)).1.1))→∃r' h'',Wk h.length [AV.aA [i_ (sg*(dc (dJ l1)).1.1),b_ b]] H2 [r'] h''∧r'=.aA [i_ (sg*(dc (dJ l1)).1.1),b_ ((dc (dJ l1)).1.2&&decide (0≤(dc (dJ l1)).1.1))]∧Mr id (dc (dJ l1)).2 h h'':=by
    rintro _ rfl;exact⟨_,_,Wk.refl _ _ _ hH2,rfl,m⟩
   cases hb:(dc (dJ l1)).1.2 with
   | true =>
     rw[hb]at fin;refine zzN rfl (zzF (aq (zzR ?_)));exact fin _ (by simp)
   | false =>
     rw[hb]at fin;refine zzM rfl (aq (zzQ ?_));exact fin _ (by simp)
 ·intro F hF;refine zzI ?_
  by_cases h1:w=[45]
  ·refine zzL (oF h1) (aq ?_);refine hF _ _ ⟨-1,l,rfl,.inr (.inr rfl),hl,Mr.refl r, ?_⟩;unfold fP;rw[if_pos h1];rfl
  refine zzK (nO h1) (zzJ ?_)
  by_cases h2:w=[]
  ·subst h2;refine zzK rfl (tD r rfl (by have:=hl.1;omega) ?_);have o2:pU (dJ l):=hl.sub (rn l);have r2:=r.set (dJ l);rw[pV];rw[pV]at hF;refine bz (zzA (zzU r2 rfl (qk rfl (zzG ?_))));cases hs:dJ l with
   | nil =>
     rw[hs]at hF;refine zzL rfl ?_;exact⟨_,_,Wk.refl _ _ _ (by simp),rfl,Mr.set _ _ _⟩
   | cons t q =>
     rw[hs]at hF r2 o2;refine zzK (nO (by simp<;>omega)) ?_;refine Ie r2 rfl o2 fun H m=>?_;refine aq ?_;exact hF _ _ ⟨_,_,rfl,O3 _,o2.sub (wc _),(Mr.set id _ h).trans hid m,rfl⟩
  ·refine zzL (by simp[h2]) ?_;have hM:fP w l=(if Lib.hasPrefix w [45]=false∨Lib.trimS (Lib.trimPrefix w [45]) jQ≠[] then ((0,false),l) else ((-((min (iy (Lib.trimPrefix w [45])) 1000000000:Nat):Int),true),l)):=by
    unfold fP EB;rw[if_neg h1,if_neg h1,if_pos h2]
   have hlen:(Lib.trimPrefix w [45]).length≤2^20:=by
    unfold Lib.trimPrefix;split
    ·rw[List.length_drop];omega
    ·exact hw
   refine uCon (vh w [45] (by omega)) ?_;obtain⟨d,hd⟩:∃d,Lib.trimPrefix w [45]=d:=⟨_,rfl⟩;rw[hd]at hM hlen ⊢;refine bl rfl rfl (bl rfl rfl (zzO (aD ?_)));have bad:fP w l=((0,false),l)→∃r' h'',Wk h.length [AV.aA [i_ 0,ff]] h [r'] h''∧r'=.aA [i_ (fP w l).1.1,b_ (fP w l).1.2]∧Mr id (fP w l).2 h h'':=by
    intro e;rw[e];exact⟨_,_,Wk.refl _ _ _ (bY _),rfl,Mr.refl r⟩
   by_cases h3:Lib.hasPrefix w [45]=false
   ·rw[if_pos (.inl h3)]at hM;refine zzM (by simp[h3]) (aq (aM (by simp[h3]) (zzL rfl ?_)));exact bad hM
   have h3:Lib.hasPrefix w [45]=true:=by simpa using h3
   refine zzN (by simp[h3]) ?_;have hle:(Lib.trimS d jQ).length≤d.length:=by
    unfold Lib.trimS Lib.trimLeftS Lib.trimRightS;have e1:=(List.dropWhile_sublist (fun x=>jQ.contains x) (l:=(d.reverse.dropWhile (fun x=>jQ.contains x)).reverse)).length_le;have e2:=(List.dropWhile_sublist (fun x=>jQ.contains x) (l:=d.reverse)).length_le;simp at e1 e2 ⊢;omega
   refine uCon (K6 d jQ (by omega) (by decide) (fun b hb=>by simp[jQ]at hb;rcases hb with rfl|rfl|rfl|rfl|rfl|rfl|rfl|rfl|rfl|rfl<;>decide) (by omega)) (zzJ (aq (zzQ ?_)))
   by_cases h4:Lib.trimS d jQ=[]
   ·refine zzK (by simp[h4]) ?_;rw[if_neg (fun z=>z.elim (fun z=>by rw[h3]at z;cases z) fun z=>z h4)]at hM;have hdg:qn d:=by
     refine⟨fun e=>?_,Pf h4⟩;subst e;unfold Lib.trimPrefix at hd;rw[if_pos h3]at hd;unfold Lib.hasPrefix at h3;cases w with
     | nil=>exact h2 rfl
     | cons a w =>
       simp[List.isPrefixOf]at h3 hd;subst h3;subst hd;exact h1 rfl
    have fin:∀v:Int,v=((min (iy d) 1000000000:Nat):Int)→pd (nx [i_ v] 0) fun v29=>∃r' h'',Wk h.length [AV.aA [v29,tt]] h [r'] h''∧r'=.aA [i_ (fP w l).1.1,b_ (fP w l).1.2]∧Mr id (fP w l).2 h h'':=by
     rintro _ rfl;rw[ep,Fm,hM];refine⟨by unfold aK;omega, ?_⟩;exact⟨_,_,Wk.refl _ _ _ (bY _),by rw[Int.zero_sub],Mr.refl r⟩
    have hp:=G4 hdg
    by_cases h5:iy d<2^63
    ·rw[if_pos h5]at hp;refine uCon (ER d _ (by omega) hp) (bl rfl rfl (bl rfl rfl (aD ?_)));show kJ true (some true) _;rw[Dg];refine aD (zzN rfl (zzE (aq (zzQ ?_))))
     by_cases h6:(1000000000:Int)<iy d
     ·refine zzL (oF h6) ?_;exact fin _ (by omega)
     ·refine zzK (nO h6) ?_;exact fin _ (by omega)
    ·rw[if_neg h5]at hp;refine uCon (DS d (by omega) hp) (bl rfl rfl (bl rfl rfl (aD ?_)));show kJ true (some false) _;rw[Dg];refine aD (zzM rfl (aq (zzR (zzL rfl ?_))));exact fin _ (by omega)
   ·refine zzL (by simp[h4]) ?_;rw[if_pos (.inr h4)]at hM;exact bad hM
end
section
open Go Go.Aw Go.RowKit
abbrev kO(a b:Int):aL:=.ah ⟨44,[i_ a,i_ b],true⟩
def Ft{K:AV→aa→Prop}(hV:H[B]?=some (kO a0 b0))(k:K (.agg [i_ a,i_ b]) (H.set B (kO a b))):
 ao 2 (.op B 0) (.agg [i_ a,i_ b]) H fun g=>ak true 2 (.op B 0) g fun r=>K r g:=by
 refine aW (cs:=[i_ a,i_ b]) (h':=H.set B (kO a b)) rfl hV rfl rfl (by simp) rfl rfl rfl ?_;refine zzV (b:=⟨44,[i_ a,i_ b],true⟩) (iD (eQ.1 hV).1) (by simp) ?_;exact k
def jD{t:Tok}{H:aa}{F:AV→aa→Prop}(k:F (.op H.length 0) (H++[.ah ⟨70,t.row,true⟩])):
 aV 70 (.agg [(u8 0),(.str []),(i_ 0),(.str []),ff]) H fun v g=>ao 5 v t.av g fun g2=>F v g2:=by
 refine ca (cs:=[u8 0,.str [],i_ 0,.str [],ff]) (n:=H.length) (h':=H++[cw 0 [] 0 [] false]) rfl (by simp[bT]) rfl rfl ?_;exact aW (cs:=t.row) (h':=H++[.ah ⟨70,t.row,true⟩]) rfl (b:=⟨70,[u8 0,.str [],i_ 0,.str [],ff],true⟩) (by simp) rfl rfl (by simp) rfl (by simp[bT]) (by rw[IF _ _ (bY _)];simp) k
def xI(w p:ae):(Lib.trimPrefix w p).length≤w.length:=by unfold Lib.trimPrefix;split<;>simp
variable [bq]
theorem Rl{id:Nat}{h:aa}{l:List Tok}{x:AV}{K:AV→aa→Prop}(r:Rd id h l)(ex:x=.op id 0)(hl:pU l)(k:∀H,Mr id (ib l).2 h H→K (.aA [.agg [i_ (ib l).1.1.1,i_ (ib l).1.1.2],b_ (ib l).1.2]) H):
 bx p_ (.fn (.func 200) [] []) [x] h K:=by
 subst ex;have hid:=r.lt;refine cF (by kernel_rfl) rfl (K0:=fun v h' => v=.aA [.agg [i_ (ib l).1.1.1,i_ (ib l).1.1.2],b_ (ib l).1.2]∧Mr id (ib l).2 h h') ?_ (by rintro _ H ⟨rfl,m⟩;exact k H m);refine (aak _).bG ?_;unfold TE;refine ca (cs:=[i_ 0,i_ 0]) (n:=h.length) (h':=h++[kO 0 0]) rfl rfl rfl rfl ?_;have r0:Rd id (h++[kO 0 0]) l:=r.app _;have hB0:(h++[kO 0 0])[h.length]?=some (kO 0 0):=by simp
 -- what is handed back
 have ret:∀(H:aa) (a b:Int) (c:Bool) (q:List Tok),ib l=(((a,b),c),q)→Mr id q (h++[kO 0 0]) H→H[h.length]?=some (kO 0 0) →
  ao 2 (.op h.length 0) (.agg [i_ a,i_ b]) H fun g8=>ak true 2 (.op h.length 0) g8 fun r9=>∃r' h'',Wk h.length [AV.aA [r9,b_ c]] g8 [r'] h''∧r'=.aA [.agg [i_ (ib l).1.1.1,i_ (ib l).1.1.2],b_ (ib l).1.2]∧Mr id (ib l).2 h h'':=by
  intro H a b c q e m hb;rw[e];refine Ft (K:=fun r9 g8=>∃r' h'',Wk h.length [AV.aA [r9,b_ c]] g8 [r'] h''∧r'=.aA [.agg [i_ a,i_ b],b_ c]∧Mr id q h h'') hb ?_;have:=m.len;simp at this;exact⟨_,_,Wk.refl _ _ _ (by simp;omega),rfl,(m.new hid).wb (bY _) _⟩
 have fB:∀{H H':aa} {q:List Tok},Mr id q H H'→h.length<H.length→H[h.length]?=some (kO 0 0)→H'[h.length]?=some (kO 0 0):=fun m q1 q2=>by rw[m.other q1 (by omega)];exact q2
 refine Fu r0 rfl hl fun H1 m1=>?_;have rd1:=m1.rd r0;have hb1:=fB m1 (by simp) hB0;have hl1:=m1.len;simp at hl1;have ow:=hl.sub (nG l);refine bl rfl rfl (bl rfl rfl ?_);cases hw:(dc l).1.2 with
 | true =>
   refine zzL rfl (bc rfl ?_);exact ret H1 0 (dc l).1.1 true (dc l).2 (by unfold ib;dsimp only;rw[if_pos hw]) m1 hb1
 | false =>
   refine zzK rfl ?_;have hT:∀{H:aa} {t:Tok},(H++[aL.ah ⟨70,t.row,true⟩])[H.length]?=some (.ah ⟨70,t.row,true⟩):=by simp
   have happ:∀{H j:aa} {i:Nat} {e:aL},H[i]?=some e→(H++j)[i]?=some e:=fun h=>by rw[gO (eQ.1 h).1];exact h
   refine BT rd1 rfl (by have:=ow.1;omega) (fun t l2 e H2 m2=>?_) (fun e H2 m2=>?_)
   ·-- a dimension
    have ht:=hl.2 t ((nG l).subset (by rw[(lk e).1];simp));have o2:pU l2:=ow.sub (by rw[(lk e).1];exact List.sublist_cons_self ..);have hl2:=m2.len;have hb2:=fB m2 (by omega) hb1;have rd2:=m2.rd rd1;refine bl rfl rfl (bl rfl rfl (jD (zzL rfl (zzA (zzU hT rfl (uCon (jm _) ?_))))));have hlow:(bS t.u).length≤2^20:=by unfold bS;simp;exact ht.2.2
    have hr0:ib l=if Lib.hasPrefix (bS t.u) [110]=true∧t.f=true∧t.n.tmod 1000=0 then (let b:=fP (Lib.trimPrefix (bS t.u) [110]) l2;(((t.n.tdiv 1000,b.1.1),b.1.2),b.2)) else (((0,0),false),l2):=by
     unfold ib;dsimp only;rw[if_neg (by rw[hw];decide),e]
    have em:t.u.map bu.dX=bS t.u:=rfl;rw[em];refine uCon (vh _ _ (by omega)) (bl rfl rfl (bl rfl rfl (zzO ?_)));have m2':Mr id l2 (h++[kO 0 0]) (H2++[aL.ah ⟨70,t.row,true⟩]):=(m1.trans (by simp;omega) m2).tail _;have bad:¬(Lib.hasPrefix (bS t.u) [110]=true∧t.f=true∧t.n.tmod 1000=0)→_:=fun z=>ret (H2++[aL.ah ⟨70,t.row,true⟩]) 0 0 false l2 (by rw[hr0,if_neg z]) m2' (happ hb2);refine aD ?_
    by_cases c1:Lib.hasPrefix (bS t.u) [110]=true
    ·refine zzN (by simp[c1]) (zzA (zzU hT rfl (zzO (aq (zzQ (aD ?_))))))
     by_cases c2:t.f=true
     ·refine zzN (by simp[c2]) (zzA (zzU hT rfl (MG rfl rfl (by decide) rfl (zzH (aq (zzQ ?_))))))
      by_cases c3:t.n.tmod 1000=0
      ·refine zzK (by simp[c3]) ?_;rw[if_pos ⟨c1,c2,c3⟩]at hr0;have htl:(Lib.trimPrefix (bS t.u) [110]).length≤2^20:=ab3 (xI _ _) hlow;refine Dk (rd2.app _) rfl o2 htl fun H3 m3=>?_;have hl3:=m3.len;simp at hl3;refine bl rfl rfl (bl rfl rfl (zzA (zzU (by rw[m3.other (by simp) (by omega)];exact hT) rfl ?_)));have htd:=CJ ht.1;refine GA (c:=t.n.tdiv 1000) rfl rfl (by decide) (by rw[IntKind.wrap_i64];omega) (bc rfl ?_);exact ret H3 _ _ _ _ hr0 (m2'.trans (by simp;omega) m3) (fB m3 (by simp;omega) (happ hb2))
      ·refine zzL (by simp[c3]) (bc rfl ?_);exact bad fun z=>c3 z.2.2
     ·refine zzM (by simp[c2]) (aq (aM (by simp[c2]) (zzL rfl (bc rfl ?_))));exact bad fun z=>c2 z.2.1
    ·refine zzM (by simp[c1]) (aq (aM (by simp[c1]) (aD (zzM rfl (aq (zzR (zzL rfl (bc rfl ?_))))))));exact bad fun z=>c1 z.1
   ·-- none
    have hl2:=m2.len;have hb2:=fB m2 (by omega) hb1;have rd2:=m2.rd rd1;have m12:=m1.trans (by simp;omega) m2;refine bl rfl rfl (bl rfl rfl (jD (t:=⟨0,[],0,[],false⟩) (zzK rfl ?_)));refine Ie (rd2.app _) rfl ow fun H3 m3=>?_;have hl3:=m3.len;simp at hl3;have m13:=(m12.tail [aL.ah ⟨70,Tok.row ⟨0,[],0,[],false⟩,true⟩]).trans (by simp;omega) m3;have hb3:=fB m3 (by simp;omega) (happ hb2);have rd3:=m3.rd (rd2.app _);have os:=ow.sub (wc (dc l).2);have hr1:ib l=(let s:=iT (dc l).2
     match lj 1 s.2 with
     | none=>(((0,0),false),s.2)
     | some (t,r)=>if s.1<0 then (((0,0),false),r) else
       let m:=bS t.t
       if s.1=0∧m=[111,100,100] then (((2,1),true),r)
       else if s.1=0∧m=[101,118,101,110] then (((2,0),true),r)
       else
        let neg:Bool:=decide (s.1=0)&&Lib.hasPrefix m [45]
        let q:=if neg=true then Lib.trimPrefix m [45] else m
        if Lib.hasPrefix q [110]=true then (let b:=fP (Lib.trimPrefix q [110]) r;((((if neg=true then -1 else 1:Int),b.1.1),b.1.2),b.2)) else (((0,0),false),r)):=by
     unfold ib;dsimp only;rw[if_neg (by rw[hw];decide),e];rfl
    obtain⟨sg,hsg⟩:∃sg,iT (dc l).2=sg:=⟨_,rfl⟩;rw[hsg]at hr1 rd3 os m13;rw[hsg];dsimp only at hr1;refine BT rd3 rfl (by have:=os.1;omega) (fun t l4 e4 H4 m4=>?_) (fun e4 H4 m4=>?_)
    ·rw[e4]at hr1;dsimp only at hr1;have ht:=os.2 t (by rw[(lk e4).1];simp);have o4:pU l4:=os.sub (by rw[(lk e4).1];exact List.sublist_cons_self ..);have hl4:=m4.len;have hb4:=fB m4 (by omega) hb3;have rd4:=m4.rd rd3;refine bl rfl rfl (bl rfl rfl (jD ?_));obtain⟨H5,h5⟩:∃H5,H5=H4++[aL.ah ⟨70,t.row,true⟩]:=⟨_,rfl⟩;have hT5:H5[H4.length]?=some (.ah ⟨70,t.row,true⟩):=by rw[h5];exact hT
     have hb5:H5[h.length]?=some (kO 0 0):=by rw[h5];exact happ hb4
     have rd5:Rd id H5 l4:=by rw[h5];exact rd4.app _
     have m15:Mr id l4 (h++[kO 0 0]) H5:=by rw[h5];exact (m13.trans (by simp;omega) m4).tail _
     have hl5:H5.length=H4.length+1:=by rw[h5];simp
     rw[←h5];clear h5;refine zzO (aD (zzN rfl (zzC (aq (zzQ ?_)))))
     by_cases c1:sg.1<0
     ·rw[if_pos c1]at hr1;refine zzL (oF c1) (bc rfl ?_);exact ret _ 0 0 false _ hr1 m15 hb5
     rw[if_neg c1]at hr1;refine zzK (nO c1) (zzA (zzU hT5 rfl (uCon (jm _) ?_)));have em:t.t.map bu.dX=bS t.t:=rfl;rw[em];obtain⟨m,hm⟩:∃m,bS t.t=m:=⟨_,rfl⟩;have hml:m.length≤2^20:=by rw[←hm];unfold bS;simp;exact ht.2.1
     rw[hm]at hr1 ⊢;refine cT (fun s H=>∃(q:ae) (a:Int),s=[.str q,i_ a]∧H=H5∧q.length≤2^20∧ib l=if Lib.hasPrefix q [110]=true then (((a,(fP (Lib.trimPrefix q [110]) l4).1.1),(fP (Lib.trimPrefix q [110]) l4).1.2),(fP (Lib.trimPrefix q [110]) l4).2) else (((0,0),false),l4)) ?_ ?_
     ·rintro _ _ ⟨q,a,rfl,rfl,hq,hr⟩;refine uCon (vh _ _ (by show q.length≤_;omega)) (bl rfl rfl (bl rfl rfl (zzO ?_)))
      by_cases c2:Lib.hasPrefix q [110]=true
      ·rw[if_pos c2]at hr;refine zzK (by simp[c2]) ?_;refine Dk rd5 rfl o4 (ab3 (xI _ _) hq) fun H6 m6=>?_;refine bl rfl rfl (bl rfl rfl (bc rfl ?_));exact ret H6 _ _ _ _ hr (m15.trans (by simp;omega) m6) (fB m6 (by omega) hb5)
      ·rw[if_neg c2]at hr;refine zzL (by simp[c2]) (bc rfl ?_);exact ret _ 0 0 false _ hr m15 hb5
     ·intro F hF;refine zzG ?_
      by_cases c2:sg.1=0
      ·refine zzL (oF c2) (zzI ?_)
       by_cases c3:m=[111,100,100]
       ·rw[if_pos ⟨c2,c3⟩]at hr1;refine zzL (oF c3) (bc rfl ?_);exact ret _ 2 1 true _ hr1 m15 hb5
       rw[if_neg (fun z=>c3 z.2)]at hr1;refine zzK (nO c3) (zzI ?_)
       by_cases c4:m=[101,118,101,110]
       ·rw[if_pos ⟨c2,c4⟩]at hr1;refine zzL (oF c4) (bc rfl ?_);exact ret _ 2 0 true _ hr1 m15 hb5
       rw[if_neg (fun z=>c4 z.2)]at hr1;refine zzK (nO c4) (uCon (vh _ _ (by omega)) (bl rfl rfl (bl rfl rfl ?_)));simp only[c2,decide_true,Bool.true_and]at hr1
       by_cases c5:Lib.hasPrefix m [45]=true
       ·refine zzL c5 (aq ?_);refine hF _ _ ⟨_,-1,rfl,rfl,ab3 (xI _ _) hml, ?_⟩;rw[hr1];simp only[c5,if_true]
       ·have c5:Lib.hasPrefix m [45]=false:=by simpa using c5
        refine zzK c5 (aq ?_);refine hF _ _ ⟨_,1,rfl,rfl,hml, ?_⟩;rw[hr1];simp only[c5];rfl
      ·refine zzK (nO c2) (aq ?_);refine hF _ _ ⟨_,1,rfl,rfl,hml, ?_⟩;rw[hr1,if_neg (fun z=>c2 z.1),if_neg (fun z=>c2 z.1)];simp only[c2,decide_false,Bool.false_and];rfl
    ·rw[e4]at hr1;have hl4:=m4.len;refine bl rfl rfl (bl rfl rfl (jD (t:=⟨0,[],0,[],false⟩) (zzO (aD (zzM rfl (aq (zzR (zzL rfl (bc rfl ?_)))))))));exact ret _ 0 0 false _ hr1 ((m13.trans (by simp;omega) m4).tail _) (happ (fB m4 (by omega) hb3))
end
section
open Go Go.Aw Go.RowKit
def IQ(sg:Int)(l:List Tok):(DB sg l).2.Sublist l:=by
 unfold DB;split
 ·exact (nG _).trans (rn l)
 ·exact (nG _).trans (rn l)
def EA(w:ae)(l:List Tok):(fP w l).2.Sublist l:=by
 by_cases h1:w=[45]
 ·have e:fP w l=DB (-1) l:=by unfold fP;rw[if_pos h1];rfl
  rw[e];exact IQ _ _
 by_cases h2:w=[]
 ·subst h2;rw[pV];cases e:dJ l with
  | nil=>simp
  | cons t r=>exact ((IQ _ _).trans (wc _)).trans (by rw[←e];exact rn l)
 ·unfold fP EB;rw[if_neg h1,if_neg h1,if_pos h2];split<;>exact List.Sublist.refl _
def OT(l:List Tok):(ib l).2.Sublist l:=by
 unfold ib;dsimp only;split
 ·exact nG l
 ·cases e:lj 12 (dc l).2 with
  | some x =>
    obtain⟨t,r⟩:=x;dsimp only;have hr:r.Sublist l:=List.Sublist.trans (by rw[(lk e).1];exact List.sublist_cons_self ..) (nG l);split
    ·exact (EA _ _).trans hr
    ·exact hr
  | none =>
    dsimp only;have hs:(iT (dc l).2).2.Sublist l:=(wc _).trans (nG l);cases e:lj 1 (iT (dc l).2).2 with
    | none=>exact hs
    | some x =>
      obtain⟨t,r⟩:=x;dsimp only;have hr:r.Sublist l:=List.Sublist.trans (by rw[(lk e).1];exact List.sublist_cons_self ..) hs;repeat' split
      all_goals first|exact hr|exact (EA _ _).trans hr
variable [bq]
def qy(l:List Tok):AV×Int:=match sO l with|some (a,b)=>(.agg [i_ a,i_ b],0)|none=>(.agg [i_ 0,i_ 0],12)
def Hq(l:List Tok)(hl:pU l):bn p_ 177 [.sl 5 (cU l)] (.aA [(qy l).1,i_ (qy l).2]):=by
 refine (aae _).bj (by simp only[aR,Aw.Pure,and_true];exact kX l) (by unfold qy;cases sO l<;>simp[aR,Aw.Pure]) ?_;unfold Ty;refine ca (cs:=[i_ 0,i_ 0]) (n:=0) (h':=[kO 0 0]) rfl rfl rfl rfl (bc rfl (ca (cs:=[.sl 5 (cU l)]) (n:=1) (h':=[kO 0 0,mT l]) rfl rfl rfl rfl ?_));have r0:Rd 1 [kO 0 0,mT l] l:=rfl;refine tD r0 rfl (by have:=hl.1;omega) ?_;have o1:pU (dJ l):=hl.sub (rn l);refine Rl (r0.set _) rfl o1 fun H1 m1=>?_;have hl1:=m1.len;simp at hl1;have rd1:=m1.rd (r0.set _);have hb1:H1[0]?=some (kO 0 0):=by rw[m1.other (by simp) (by decide)];rfl
 obtain⟨R,hR⟩:∃R,ib (dJ l)=R:=⟨_,rfl⟩;have hF:sO l=if R.1.2=true∧dJ R.2=[]∧kr R.1.1.1=true∧kr R.1.1.2=true then some R.1.1 else none:=by unfold sO;rw[hR]
 rw[hR]at rd1 m1 ⊢;refine bl rfl rfl (bl rfl rfl (ca (cs:=[i_ 0,i_ 0]) (n:=H1.length) (h':=H1++[kO 0 0]) rfl rfl rfl rfl (aW (cs:=[i_ R.1.1.1,i_ R.1.1.2]) (h':=H1++[kO R.1.1.1 R.1.1.2]) rfl (b:=⟨44,[i_ 0,i_ 0],true⟩) (by simp) rfl rfl (by simp) rfl rfl (by rw[IF _ _ (bY _)];simp) ?_)));have o2:R.2.length≤2^20:=by have:=(hR▸OT (dJ l)).length_le;have:=o1.1;omega
 refine tD (rd1.app _) rfl o2 ?_;have rd2:=(rd1.app [kO R.1.1.1 R.1.1.2]).set (dJ R.2);have hA:((H1++[kO R.1.1.1 R.1.1.2]).set 1 (mT (dJ R.2)))[H1.length]?=some (kO R.1.1.1 R.1.1.2):=by rw[iF (by omega)];simp
 have hb2:((H1++[kO R.1.1.1 R.1.1.2]).set 1 (mT (dJ R.2)))[0]?=some (kO 0 0):=by rw[iF (by decide),gO (by omega)];exact hb1
 obtain⟨H2,h2⟩:∃H2,H2=(H1++[kO R.1.1.1 R.1.1.2]).set 1 (mT (dJ R.2)):=⟨_,rfl⟩;rw[←h2]at hA hb2 rd2 ⊢;have bad:sO l=none→ao 2 (.op 0 0) (.agg [i_ 0,i_ 0]) H2 fun g=>ak true 2 (.op 0 0) g fun r=>dG (.aA [(qy l).1,i_ (qy l).2]) (.aA [r,i_ 12]) g:=by
  intro e;refine Ft (K:=fun r g=>dG (.aA [(qy l).1,i_ (qy l).2]) (.aA [r,i_ 12]) g) hb2 ?_;unfold qy;rw[e];exact .pure (by simp[aR,Aw.Pure]) rfl
 have good:sO l=some R.1.1→ao 2 (.op 0 0) (.agg [i_ R.1.1.1,i_ R.1.1.2]) H2 fun g=>ak true 2 (.op 0 0) g fun r=>dG (.aA [(qy l).1,i_ (qy l).2]) (.aA [r,i_ 0]) g:=by
  intro e;refine Ft (K:=fun r g=>dG (.aA [(qy l).1,i_ (qy l).2]) (.aA [r,i_ 0]) g) hb2 ?_;unfold qy;rw[e];exact .pure (by simp[aR,Aw.Pure]) rfl
 refine zzO (aD ?_)
 by_cases c1:R.1.2=true
 ·refine zzN (by simp[c1]) (bz (zzA (zzU rd2 rfl (qk rfl (zzE (aq (zzQ (aD ?_))))))))
  by_cases c2:dJ R.2=[]
  ·refine zzN (by simp[c2]) (zzV hA (by simp) (uCon (ot R.1.1.1 R.1.1.2) (zzH (aq (zzQ ?_)))));have e9:∀n,kr n=bu.gr n:=fun n=>by unfold kr bu.gr;simp
   by_cases c3:kr R.1.1.1=true∧kr R.1.1.2=true
   ·rw[if_pos ⟨c1,c2,c3⟩]at hF;refine zzK (by rw[e9,e9]at c3;simp[c3]) (zzV hA (by simp) ?_);exact good hF
   ·rw[if_neg (fun z=>c3 z.2.2)]at hF;refine zzL (by rw[e9,e9]at c3;revert c3;cases bu.gr R.1.1.1<;>cases bu.gr R.1.1.2<;>simp) (bc rfl ?_);exact bad hF
  ·rw[if_neg (fun z=>c2 z.2.1)]at hF;have:0<(dJ R.2).length:=List.length_pos_iff.2 c2;refine zzM (by simp;omega) (aq (aM (by simp<;>omega) (zzL rfl (bc rfl ?_))));exact bad hF
 ·rw[if_neg (fun z=>c1 z.1)]at hF;refine zzM (by simp[c1]) (aq (aM (by simp[c1]) (aD (zzM rfl (aq (zzR (zzL rfl (bc rfl ?_))))))));exact bad hF
end
section
open Go Go.Aw Go.dN Go.RowKit
variable [Laid]
def bn.arg{args args':List AV}(c:bn P f args' r)(d:kB args args')(p:aR args):bn P f args r:=by
 obtain⟨pa,pr,c⟩:=c;exact⟨p,pr,fun base ι S w vs h1 h2=>c base ι S w vs (aE.qz d vs h1) h2⟩
abbrev Ds(c:List Vl)(s:List (Tok×List Vl)):List (List Vl):=(s.map (·.2)).reverse++[c]
abbrev oU(s:List (Tok×List Vl)):List Tok:=(s.map (·.1)).reverse
section
variable {a b N Lb:Nat} {F:Nat→Prop} {H:aa} {ls:List (List Vl)} {os:List Tok} {hs e1:List AV} {ho:AV}
omit [Laid] in
theorem PS.br(p:PS a b F H N ls os hs Lb e1 ho){K:AV→Prop}(q:K (i_ os.length)):br ho K:=by
 rcases p.ol with⟨rfl,rfl⟩|⟨Ob,e2,rfl,_⟩
 ·exact q
 ·rw[uE];exact fun _=>q
omit [Laid] in
def PS.ab(p:PS a b F H N ls os hs Lb e1 ho):a≠b∧b≠Lb∧a≠Lb:=by
 refine⟨fun e=>?_,fun e=>?_,fun e=>?_⟩
 ·subst e;have:=p.la;rw[p.ob]at this;cases this
 ·subst e;have:=p.ob;rw[p.lb]at this;cases this
 ·subst e;have:=p.la;rw[p.lb]at this;cases this
omit [Laid] in
def Rz{h h':aa}{K:AV→aa→Prop}{own:Bool}{e sz bytes id len:Nat}{cells:List AV}{rows:List (List AV)}(ex:x=.own id 0 len sz)(hb:h[id]?=some (.ah ⟨e,cells,true⟩))(hl:len*sz≤cells.length)(hp:0<len+rows.length)(hs:jG h sz y=some rows)(hr:rows.all (dx sz)=true)(hm:jK bytes (len+rows.length))(hn:h.length=n)
 (hh:h.set id .dead++[.ah ⟨e,cells.take (len*sz)++rows.flatten,true⟩]=h') (q:K (.own n 0 (len+rows.length) sz) h'):bR own e sz bytes x y h K:=by
 subst ex;subst hn;subst hh;unfold bR eM;rw[hs];refine⟨hr, ?_⟩;simp only[xq];rw[hb];exact⟨by simp[hl],hp,hm,q⟩
omit [Laid] in
def UQ{KN:aa→Prop}(p:PS a b F H N ls os hs Lb e1 ho)(hT:H[T]?=some (.ah ⟨70,t.row,true⟩))(hn:ls.length<2^20)(hno:os.length<2^20)(hls:0<ls.length)
 (k:∀H',PX a b H' N (ls++[[]]) (os++[t])→H.length≤H'.length→KN H') :
 ∃d45:Nat,ak false 1 (.op a 0) H fun v46=>bt 1 1 (.v (.slice none 0 0)) [(0,1,(.v (.slice none 0 0)))] fun v47=>cO (qF d45 (.op b 0)) (ak false 1 (.op b 0) H fun v48=>cO (qF d45 (.op T 0)) (ak true 5 (.op T 0) H fun v49=>bt 1 5 (.agg [(u8 0),(.str []),(i_ 0),(.str []),ff]) [(0,5,v49)] fun v50=>cO (vT d45 v46) (bR true 54 1 24 v46 v47 H fun v51 g52=>bR true 70 5 56 v48 v50 g52 fun v53 g54=>ao 1 (.op a 0) v51 g54 fun g55=>ao 1 (.op b 0) v53 g55 KN))):=by
 obtain⟨hab,hbL,haL⟩:=p.ab;have hl:=p.hl;have ha:=PS.lt p.la;have hb:=PS.lt p.ob;have hL:=PS.lt p.lb;have hTL:T≠Lb:=fun e=>by subst e;rw[p.lb]at hT;cases hT
 refine⟨Lb, ?_⟩;refine zzU p.la rfl (lJ (cs:=[bF]) rfl rfl rfl rfl (lq (qe hbL) (zzU p.ob rfl (lq (qe hTL) (zzV hT (by simp) (lJ (cs:=t.row) (by simp[bh]) rfl rfl (by simp[bT]) (lq (by simp[vT]) ?_)))))));have hl1:hs.length=ls.length:=hl;refine LN (n:=H.length) (h':=H.set Lb .dead++[.ah ⟨54,hs++[bF],true⟩]) rfl p.lb (by simp;omega) hls gQ rfl ⟨by unfold maxLen;simp;omega,by simp;omega⟩ rfl (by rw[Nat.mul_one,←hl,List.take_left];rfl) ?_;obtain⟨g,hg⟩:∃g,g=H.set Lb .dead++[aL.ah ⟨54,hs++[bF],true⟩]:=⟨_,rfl⟩;have gl:g.length=H.length+1:=by rw[hg];simp
 have gn:g[H.length]?=some (.ah ⟨54,hs++[bF],true⟩):=by rw[hg,gT (by simp)];simp
 have go:∀id,id<H.length→id≠Lb→g[id]?=H[id]?:=fun id h1 h2=>by rw[hg,gO (by simpa using h1),iF (Ne.symm h2)]
 rw[←hg];have fin:∀g2:aa,g2.length=H.length+2→g2[H.length]?=some (.ah ⟨54,hs++[bF],true⟩)→g2[H.length+1]?=some (.ah ⟨70,(cU (os++[t])).flatten,true⟩)→(∀(id t:Nat) (cs:List AV),H[id]?=some (aL.ah ⟨t,cs,true⟩)→t≠54→t≠70→g2[id]?=H[id]?) →
  ao 1 (.op a 0) (.own H.length 0 (ls.length+1) 1) g2 fun g55=>ao 1 (.op b 0) (.own (H.length+1) 0 (os.length+1) 5) g55 KN:=by
  intro g2 l2 q1 q2 q3;refine aW (b:=⟨72,_,true⟩) (cs:=[.own H.length 0 (ls.length+1) 1]) (h':=g2.set a (.ah ⟨72,[.own H.length 0 (ls.length+1) 1],true⟩)) rfl (by rw[q3 _ _ _ p.la (by decide) (by decide)];exact p.la) rfl rfl (by simp) rfl rfl rfl ?_;refine aW (b:=⟨51,_,true⟩) (cs:=[.own (H.length+1) 0 (os.length+1) 5]) (h':=(g2.set a (.ah ⟨72,[.own H.length 0 (ls.length+1) 1],true⟩)).set b (.ah ⟨51,[.own (H.length+1) 0 (os.length+1) 5],true⟩)) rfl (by rw[iF hab,q3 _ _ _ p.ob (by decide) (by decide)];exact p.ob) rfl rfl (by simp) rfl rfl rfl ?_;refine k _ ⟨_,_,_,_,_,p.push (L2:=H.length) (O2:=H.length+1) ?_ ?_ ?_ ?_ fun id cs h=>?_⟩ (by simp;omega)
  ·rw[iF (Ne.symm hab),iD (by omega)]
  ·rw[iF (by omega),iF (by omega)];exact q1
  ·rw[iD (by simp;omega)]
  ·rw[iF (by omega),iF (by omega)];exact q2
  ·have e1:id≠a:=fun e=>by subst e;rw[p.la]at h;cases h
   have e2:id≠b:=fun e=>by subst e;rw[p.ob]at h;cases h
   rw[iF (Ne.symm e2),iF (Ne.symm e1)];exact q3 id _ cs h (by decide) (by decide)
 have gk:∀(id t:Nat) (cs:List AV),H[id]?=some (aL.ah ⟨t,cs,true⟩)→t≠54→g[id]?=H[id]?:=fun id t cs h q=>go id (PS.lt h) fun e=>by subst e;rw[p.lb]at h;cases h;exact q rfl
 rcases p.ol with⟨rfl,rfl⟩|⟨Ob,e2,rfl,hO⟩
 ·unfold bR eM;rw[gQ];refine⟨pq [t],by simp,⟨by simp[maxLen],by simp⟩, ?_⟩;have:=fin (g++[.ah ⟨70,t.row,true⟩]) (by simp[gl]) (by rw[gO (by omega)];exact gn) (by rw[gT (by omega),gl];simp) fun id t cs h q1 q2=>by
   have:=PS.lt h;rw[gO (by omega)];exact gk id t cs h q1
  rw[←gl]at this;exact this
 ·have hOL:Ob≠Lb:=fun e=>by subst e;rw[p.lb]at hO;cases hO
  refine Rz (n:=H.length+1) (h':=g.set Ob .dead++[.ah ⟨70,(cU (os++[t])).flatten,true⟩]) (rows:=[t.row]) rfl (by rw[gk _ _ _ hO (by decide)];exact hO) (by simp only[AT,sA];omega) (by simp) gQ (pq [t]) ⟨by unfold maxLen;simp;omega,by simp;omega⟩ gl (by
   congr 4
   rw[acq (by rw[sA];exact bY _),MK (by rw[sA];exact bY _)];simp) ?_
  ·have hOl:=PS.lt hO;refine fin _ (by simp[gl]) ?_ ?_ fun id t cs h q1 q2=>?_
   ·rw[gO (by simp;omega),iF (by omega)];exact gn
   ·rw[gT (by simp;omega)];simp[gl]
   ·have e1:id≠Ob:=fun e=>by subst e;rw[hO]at h;cases h;exact q2 rfl
    have:=PS.lt h;rw[gO (by simp;omega),iF (Ne.symm e1)];exact gk id t cs h q1
end
omit [Laid] in
def VV.leaf{F:Nat→Prop}(t:Tok):VV F H [u8 t.k,.str t.t,i_ t.n,.str t.u,b_ t.f,bF] (gF t []):=by
 show VV _ _ _ (.mk _ _ _ _ _ []);rw[VV];exact⟨bF,rfl,.inl ⟨rfl,rfl⟩⟩
omit [Laid] in
def PX.app{ls:List (List Vl)}{os:List Tok}(p:PX a b H N ls os)(j:aa):PX a b (H++j) N ls os:=by
 obtain⟨F,hs,Lb,e1,ho,p⟩:=p;exact⟨F,hs,Lb,e1,ho,p.app j⟩
omit [Laid] in
def PS.aaQ{a b N Lb nb:Nat}{F:Nat→Prop}{base:List (List Vl)}{os:List Tok}{hg e1:List AV}{y ho:AV}(p:PS a b F H N (base++[g]) os (hg++[y]) Lb e1 ho)(hb:base.length=nb){K:AV→Prop}(q:K (i_ g.length)):jj y K:=by
 have hgl:hg.length=base.length:=by have:=p.hl;simp at this;omega
 obtain⟨_,z,hz,hh⟩:=p.hd base.length g (by simp);rw[←hgl]at hz;simp at hz;subst hz;rcases hh with⟨rfl,rfl⟩|⟨_,X,rows,rfl,_⟩
 ·exact q
 ·exact q
def EH(t:Tok):List (Tok×List Vl)→Bool
 | []=>false
 | (o,_):: _=>decide (t.k=bZ o.k)
def C4(l:List Tok):bn p_ 18 [.sl 5 (cU l)] (.aA [wJ (iv l).1,i_ (iv l).2]):=by
 refine (V18 _).bj (by simp only[aR,Aw.Pure,and_true];exact kX l) (by simp only[aR,Aw.Pure,and_true];exact Fc _) ?_;unfold Yg;have hrl:(cU l).length=l.length:=by simp
 refine zzf (n:=l.length) hrl fun _=>?_;refine zzE ?_
 by_cases q0:1500<l.length
 ·refine zzL (oF (by omega)) ?_;rw[show iv l=([],4) by unfold iv;rw[if_pos q0]];exact .pure (by simp[Aw.Pure,aR]) rfl
 refine zzK (nO (by omega)) ?_;have hpf:iv l=match gJ l [] [] with|none=>([],20)|some (c,s)=>if 1500<l.length+s.length then ([],4) else (oD c s,0):=by unfold iv;rw[if_neg q0];rfl
 refine⟨by decide, ?_⟩;refine ca (cs:=[bF]) (n:=1) (h':=[.ah ⟨54,[bF],true⟩,.ah ⟨72,[bF],true⟩]) rfl rfl rfl rfl (ca (cs:=[bF]) (n:=2) (h':=[.ah ⟨54,[bF],true⟩,.ah ⟨72,[bF],true⟩,.ah ⟨51,[bF],true⟩]) rfl rfl rfl rfl (aW (cs:=[.own 0 0 1 1]) (h':=[.ah ⟨54,[bF],true⟩,.ah ⟨72,[.own 0 0 1 1],true⟩,.ah ⟨51,[bF],true⟩]) rfl rfl rfl rfl (by simp) rfl rfl rfl (aW (cs:=[bF]) (h':=[.ah ⟨54,[bF],true⟩,.ah ⟨72,[.own 0 0 1 1],true⟩,.ah ⟨51,[bF],true⟩]) rfl rfl rfl rfl (by simp) rfl rfl rfl ?_)));have p0:PX 1 2 [.ah ⟨54,[bF],true⟩,.ah ⟨72,[.own 0 0 1 1],true⟩,.ah ⟨51,[bF],true⟩] 0 [[]] []:=by
  refine⟨fun _=>False,[bF],0,[],bF,⟨rfl,rfl,rfl,fun i l q=>?_,fun i j X m m' q=>?_,rfl,.inl ⟨rfl,rfl⟩,fun X z=>z.elim⟩⟩
  ·have hi:i=0:=by have:=(eQ.1 q).1;simp at this;omega
   subst hi;simp at q;subst q;exact⟨abY _,bF,rfl,.inl ⟨rfl,rfl⟩⟩
  ·have hi:i=0:=by have:=(eQ.1 q).1;simp at this;omega
   subst hi;simp at q
 refine zzf (n:=l.length) hrl fun _=>?_;refine ba (α:=Nat×List Vl×List (Tok×List Vl)×aa×Nat) (fun x=>x.1≤l.length∧gJ l [] []=gJ (l.drop x.1) x.2.1 x.2.2.1∧x.2.2.1.length≤16∧PX 1 2 x.2.2.2.1 x.2.2.2.2 (Ds x.2.1 x.2.2.1) (oU x.2.2.1)∧x.2.2.2.2≤x.1∧3≤x.2.2.2.1.length) (fun x=>[i_ x.1]) (fun x=>x.2.2.2.1) (fun x=>l.length-x.1) (0,[],[],[.ah ⟨54,[bF],true⟩,.ah ⟨72,[.own 0 0 1 1],true⟩,.ah ⟨51,[bF],true⟩],0) ⟨abY _,rfl,abY _,p0,bY _,bY _⟩ (Wk.refl _ _ _ (bY _)) ?_;rintro⟨i,c,s,H,N⟩ ⟨hi,hp,hs,p,hN,hH⟩;dsimp only at hi hp hs p hN hH ⊢;refine zzC ?_;rcases uP i l.length with q|q
 ·obtain⟨t,hx⟩:∃x,l[i]?=some x:=⟨l[i],dO q⟩;have hdr:l.drop i=t:: l.drop (i+1):=by rw[acm q];rw[(eQ.1 hx).2]
  rw[hdr,gJ]at hp;refine zzL (by simpa using q) (aD (zzb (f:=Tok.row) rfl rfl hx (zzY (by simp) (ca (cs:=[u8 0,.str [],i_ 0,.str [],ff]) (n:=H.length) (h':=H++[.ah ⟨70,[u8 0,.str [],i_ 0,.str [],ff],true⟩]) rfl (by simp[bT]) rfl rfl (aW (cs:=t.row) (h':=H++[.ah ⟨70,t.row,true⟩]) (b:=⟨70,[u8 0,.str [],i_ 0,.str [],ff],true⟩) rfl (by simp) rfl rfl (by simp) rfl (by simp[bT]) (by rw[IF _ _ (bY _)];simp[cf]) ?_)))));have p1:=p.app [aL.ah ⟨70,t.row,true⟩];obtain⟨H1,h1⟩:∃H1,H1=H++[aL.ah ⟨70,t.row,true⟩]:=⟨_,rfl⟩;have hT:H1[H.length]?=some (.ah ⟨70,t.row,true⟩):=by rw[h1];simp
  have hH1:H1.length=H.length+1:=by rw[h1];simp
  rw[←h1]at p1 ⊢;have ps:=p1;obtain⟨F,hz,Lb,e1,ho,ps⟩:=ps
  -- what comes behind
  have next:∀(c':List Vl) (s':List (Tok×List Vl)) (H':aa) (N':Nat),gf t c s=some (c',s')→s'.length≤16→PX 1 2 H' N' (Ds c' s') (oU s')→N'≤i+1→3≤H'.length →
   ag .add (i_ i) (i_ 1) fun v95=>[AV.sl 5 (cU l),.op 1 0,.op 2 0,.fn (.func 29) [] [.op 2 0,.op 1 0],.sl 5 (cU l),i_ l.length]=[AV.sl 5 (cU l),.op 1 0,.op 2 0,.fn (.func 29) [] [.op 2 0,.op 1 0],.sl 5 (cU l),i_ l.length] ∧
    (∃y:Nat×List Vl×List (Tok×List Vl)×aa×Nat,(y.1≤l.length∧gJ l [] []=gJ (l.drop y.1) y.2.1 y.2.2.1∧y.2.2.1.length≤16∧PX 1 2 y.2.2.2.1 y.2.2.2.2 (Ds y.2.1 y.2.2.1) (oU y.2.2.1)∧y.2.2.2.2≤y.1∧3≤y.2.2.2.1.length)∧Wk [aL.ah ⟨54,[bF],true⟩,.ah ⟨72,[.own 0 0 1 1],true⟩,.ah ⟨51,[bF],true⟩].length [v95] H' [i_ y.1] y.2.2.2.1∧l.length-y.1<l.length-i):=by
   intro c' s' H' N' e1 e2 e3 e4 e5;refine zzP (by unfold aK;omega) ?_;rw[e1]at hp;refine⟨rfl,(i+1,c',s',H',N'),⟨q,hp,e2,e3,e4,e5⟩,Wk.refl _ _ _ e5,by dsimp only;omega⟩
  have hosl:(oU s).length=s.length:=by simp
  refine zzU ps.ob rfl (ps.br ?_);rw[hosl];refine zzE ?_;refine cT (fun v _=>∀K:AV→Prop,K (b_ (EH t s))→bA (.v (.bool (decide ((0:Int)<(s.length:Int))))) (nx v 9) ff K) (fun v _ hv=>?_) (fun J hJ=>?_)
  ·refine hv _ ?_
   by_cases hc:EH t s=true
   ·-- it closes what is open
    obtain⟨o,g,s',rfl,hk⟩:∃o g s',s=(o,g):: s'∧t.k=bZ o.k:=by
     cases s with
     | nil=>cases hc
     | cons x s' => exact⟨x.1,x.2,s',rfl,by simpa[EH]using hc⟩
    rw[hc];refine zzL rfl ?_;refine LA (base:=(s'.map (·.2)).reverse) (g:=g) (c:=c) (ob:=oU s') (o:=o) (N:=N) (by simpa[Ds,oU]using p1) (by omega) (by simp) (by simp at hs ⊢;omega) fun H' p2 hl=>?_;refine aq ?_;exact next (g++[gF o c]) s' H' (N+1) (by simp[gf,hk]) (by simp at hs;omega) p2 (by omega) (by omega)
   ·have hc:EH t s=false:=by simpa using hc
    rw[hc];refine zzK rfl (zzA (zzU hT rfl (uCon (ou t.k) (zzH ?_))))
    by_cases hk:bZ t.k=0
    ·refine zzK (by simp[hk]) ?_;have hst:gf t c s=some (c++[gF t []],s):=by
      cases s with
      | nil=>simp[gf,hk]
      | cons x s' =>
        have hcl:¬t.k=bZ x.1.k:=by simpa[EH]using hc
        simp only[gf];rw[if_neg hcl,if_neg (by simpa using hk)]
     obtain⟨hb,x,rfl⟩:∃hb x,hz=hb++[x]:=by
      have h0:hz≠[]:=fun e=>by have:=ps.hl;rw[e]at this;simp at this
      exact⟨hz.dropLast,hz.getLast h0,(List.dropLast_concat_getLast h0).symm⟩
     have hbl:hb.length=s.length:=by have:=ps.hl;simp at this;exact this
     have hT6:∀j:aa,(H1++j)[H.length]?=some (.ah ⟨70,t.row,true⟩):=fun j=>by rw[gO (by omega)];exact hT
     have hll:(Ds c s).length=s.length+1:=by simp
     have hbs:((s.map (·.2)).reverse).length=s.length:=by simp
     refine aD ?_;refine MP ?_ ?_
     ·have p6:=ps.app [aL.ah ⟨4,[b_ false],true⟩];refine aq (zzK rfl ?_);obtain⟨d,hd1,hd2⟩:=p6.free;refine⟨d,lq hd1 ?_⟩;refine zzU p6.la rfl (zzU p6.la rfl (jv rfl rfl (by omega) (zzU (c:=x) p6.lb (by simp[←hbl]) (zzV (hT6 _) (by simp) (bc (cs:=[u8 t.k,.str t.t,i_ t.n,.str t.u,b_ t.f,bF]) (by simp[dS,bh,cf,bT]) (lJ (cs:=[u8 t.k,.str t.t,i_ t.n,.str t.u,b_ t.f,bF]) rfl rfl rfl (by simp[bT]) (lq hd2 ?_)))))));rw[hll];refine Lw (v:=gF t []) p6 hbs (by omega) (.leaf t) fun H' p7 hl=>?_;refine aq ?_;exact next (c++[gF t []]) s H' (N+1) hst hs ⟨_,_,_,_,_,p7⟩ (by omega) (by simp at hl;omega)
     ·have p6:=ps.app [aL.ah ⟨4,[b_ true],true⟩];refine aq (zzL rfl (zzU p6.la rfl (jv rfl rfl (by omega) (zzU (c:=x) p6.lb (by simp[←hbl]) (zzV (hT6 _) (by simp) (bc (cs:=[u8 t.k,.str t.t,i_ t.n,.str t.u,b_ t.f,bF]) (by simp[dS,bh,cf,bT]) (p6.aaQ hbs (lJ (cs:=zeroV) rfl rfl rfl rfl ?_))))))));rw[hll];refine Lx (v:=gF t []) p6 hbs (by omega) (.leaf t) rfl fun H' p7 hl=>?_;refine aq ?_;exact next (c++[gF t []]) s H' (N+1) hst hs ⟨_,_,_,_,_,p7⟩ (by omega) (by simp at hl;omega)
    ·refine zzL (by simpa using hk) (zzG ?_)
     by_cases h16:s.length=16
     ·refine zzL (by simp;omega) ?_;have hn:gf t c s=none:=by
       cases s with
       | nil=>simp at h16
       | cons x s' =>
         have hcl:¬t.k=bZ x.1.k:=by simpa[EH]using hc
         simp only[gf];rw[if_neg hcl,if_pos hk,if_pos (by simpa using h16)]
      rw[hn]at hp;rw[hpf,hp];exact .pure (by simp[Aw.Pure,aR]) rfl
     ·refine zzK (by simp;omega) ?_;refine UQ ps hT (by simp;omega) (by simp;omega) (by simp) fun H' p2 hl=>?_;refine aq ?_;refine next [] ((t,c):: s) H' N ?_ (by simp;omega) (by simpa[Ds,oU]using p2) (by omega) (by omega)
      cases s with
      | nil=>simp[gf,hk]
      | cons x s' =>
        have hcl:¬t.k=bZ x.1.k:=by simpa[EH]using hc
        simp only[gf];rw[if_neg hcl,if_pos hk,if_neg (by simpa using h16)]
  ·cases s with
   | nil =>
     refine km rfl ?_;exact hJ _ _ fun K q=>aN rfl q
   | cons x s' =>
     obtain⟨o,g⟩:=x;refine jt (by simp) (zzA (zzU hT rfl (zzU ps.ob rfl (zze (by simp at hs;unfold aK;simp;omega) ?_))));obtain⟨Ob,e2,rfl,hO⟩:∃Ob e2,ho=.own Ob 0 (s'.length+1) 5∧H1[Ob]?=some (.ah ⟨70,(cU (oU s'++[o])).flatten++e2,true⟩):=by
      rcases ps.ol with⟨e,_⟩|⟨Ob,e2,q1,q2⟩
      ·exact absurd e (by simp)
      ·exact⟨Ob,e2,by simpa using q1,by simpa using q2⟩
     refine jv (n:=s'.length) rfl (by simp) (by omega) (zzA ?_);have hkc:((cU (oU s'++[o])).flatten++e2)[0+s'.length*5+0]?=some (u8 o.k):=by
      have h:((cU (oU s')).flatten).length=s'.length*5:=by rw[sA];simp
      have e:(cU (oU s'++[o])).flatten++e2=(cU (oU s')).flatten++(o.row++e2):=by simp
      rw[e,gT (by omega),show 0+s'.length*5+0-((cU (oU s')).flatten).length=0 by omega];rfl
     refine zzU hO hkc ?_;refine⟨_,uCon (ou o.k) ⟨rfl,rfl⟩, ?_⟩;refine zzG ?_;exact hJ _ _ fun K q=>aM (by simp) q
 ·have hil:i=l.length:=by omega
  subst hil;rw[List.drop_length,gJ]at hp;rw[hp]at hpf;dsimp only at hpf;refine zzK (by simp) ?_;obtain⟨F,hz,Lb,e1,ho,ps⟩:=id p;have hosl:(oU s).length=s.length:=by simp
  refine zzf (n:=l.length) hrl fun _=>?_;refine zzU ps.ob rfl (ps.br ?_);rw[hosl];refine zzP (by unfold aK;omega) (zzE ?_)
  by_cases hm:1500<l.length+s.length
  ·rw[if_pos hm]at hpf;rw[hpf];refine zzL (oF (by omega)) ?_;exact .pure (by simp[Aw.Pure,aR]) rfl
  rw[if_neg hm]at hpf;rw[hpf];refine zzK (nO (by omega)) (ba (α:=List Vl×List (Tok×List Vl)×aa×Nat) (fun x=>oD x.1 x.2.1=oD c s∧x.2.1.length≤16∧PX 1 2 x.2.2.1 x.2.2.2 (Ds x.1 x.2.1) (oU x.2.1)∧x.2.2.2+x.2.1.length≤2000∧H.length≤x.2.2.1.length) (fun _=>[]) (fun x=>x.2.2.1) (fun x=>x.2.1.length) (c,s,H,N) ⟨rfl,hs,p,by dsimp only;omega,bY _⟩ (Wk.refl _ _ _ (bY _)) ?_);rintro⟨c1,s1,H1,N1⟩ ⟨hp1,hs1,p1,hN1,hl1⟩;dsimp only at hp1 hs1 p1 hN1 hl1 ⊢;obtain⟨F1,hz1,Lb1,e11,ho1,ps1⟩:=id p1;have hosl1:(oU s1).length=s1.length:=by simp
  refine zzU ps1.ob rfl (ps1.br ?_);rw[hosl1];refine zzE ?_;cases s1 with
  | nil =>
    refine zzK rfl (zzU ps1.la rfl (jv rfl rfl (by simp) ?_));obtain⟨_,z,hz,hh⟩:=ps1.hd 0 c1 rfl;refine zzU (c:=z) ps1.lb (by
     have:=(eQ.1 hz).1;rw[gO (by omega)];exact hz) ?_
    rw[←hp1];exact hh.bj
  | cons x s' =>
    obtain⟨o,g⟩:=x;refine zzL (by simp) ?_;refine LA (base:=(s'.map (·.2)).reverse) (g:=g) (c:=c1) (ob:=oU s') (o:=o) (N:=N1) (by simpa[Ds,oU]using p1) (by omega) (by simp) (by simp at hs1 ⊢;omega) fun H' p2 hl=>?_;refine aq ?_;exact⟨(g++[gF o c1],s',H',N1+1),⟨by rw[←hp1];rfl,by simp at hs1;dsimp only;omega,p2,by simp at hN1;dsimp only;omega,by dsimp only;omega⟩,Wk.refl _ _ _ (by omega),by simp⟩
end
section
open Go Go.Aw Go.dN Go.RowKit
def ud(e sz:Nat)(x:AV)(H:aa)(rows:List (List AV)):Prop:=(rows=[]∧x=bF)∨(rows≠[]∧∃id,x=.sb id sz rows∧H[id]?=some (.tok e sz rows.length))
def ud.app{e sz:Nat}{rows:List (List AV)}(g:ud e sz x H rows)(j:aa):ud e sz x (H++j) rows:=by
 rcases g with g|⟨h,id,rfl,h2⟩
 ·exact .inl g
 ·exact .inr ⟨h,id,rfl,by rw[gO (eQ.1 h2).1];exact h2⟩
def nV(H H':aa):Prop:=H.length≤H'.length∧∀(j:Nat) (b:jM),H[j]?=some (.ah b)→H'[j]?=some (.ah b)
def nV.refl(H:aa):nV H H:=⟨bY _,fun _ _ h=>h⟩
def nV.trans(x:nV a b)(y:nV b c):nV a c:=⟨ab3 x.1 y.1,fun j k h=>y.2 j k (x.2 j k h)⟩
def nV.app(H j:aa):nV H (H++j):=⟨by simp,fun i b h=>by rw[gO (eQ.1 h).1];exact h⟩
def HQ{e sz bytes:Nat}{rows:List (List AV)}(g:ud e sz x H rows)(hr:dx sz r=true)(hb:bytes≤1000)(hl:rows.length<2^20){K:AV→aa→Prop}(q:∀x' H',ud e sz x' H' (rows++[r])→nV H H'→K x' H'):bR false e sz bytes x (.sl sz [r]) H K:=by
 have hall:[r].all (dx sz)=true:=by rw[acd,hr];rfl
 rcases g with⟨rfl,rfl⟩|⟨hne,id,rfl,ht⟩
 ·unfold bR eM;rw[gQ];refine⟨hall,⟨by simp[maxLen],by simp;omega⟩, ?_⟩;exact q _ _ (.inr ⟨by simp,_,rfl,by simp⟩) (nV.app _ _)
 ·refine Et rfl ht rfl gQ hall ⟨by unfold maxLen;simp;omega,by
   simp only[abL,acp,ab0]
   calc (rows.length+1)*bytes≤(2^20)*1000:=Nat.mul_le_mul (by omega) hb
    _≤_:=by decide⟩ ?_
  have hlt:=(eQ.1 ht).1;refine q _ _ (.inr ⟨by simp,id,rfl,by rw[iD hlt];simp⟩) ⟨by simp,fun j b hj=>?_⟩;rw[iF (fun z=>by subst z;rw[ht]at hj;cases hj)];exact hj
def ud.told{e sz:Nat}{rows:List (List AV)}(g:ud e sz x H rows)(p:cJ rows)(d:Nat):tl 0 H d x=if rows=[] then bF else .sl sz rows:=by
 rcases g with⟨rfl,rfl⟩|⟨h,id,rfl,_⟩
 ·rw[if_pos rfl];exact mB (by simp[Aw.Pure])
 ·rw[if_neg h];exact R9 p
theorem pO:∀a b:List Vl,bO (a++b)=bO a++bO b
 | [],b=>by simp[bO]
 | v:: a,b=>by simp[bO,pO a b]
mutual
theorem R5:∀v,(jH v).length=oq v
 | .mk k t n u f l=>by
   rw[jH,oq];split
   ·rfl
   ·simp[mA l]
theorem mA:∀l,(bO l).length=aw l
 | []=>by simp[bO,aw]
 | v:: l=>by simp[bO,aw,R5 v,mA l]
end
def iz{id o n:Nat}{cs:List AV}{K:AV→Prop}(e:x=.op id o)(hb:h[id]?=some (.ah b))(hn:n≤(b.cells.drop o).length)(hc:(b.cells.drop o).take n=cs)(q:K (.agg cs)):ak true n x h K:=by
 subst hc;exact dp e hb hn q
variable [Laid]
def SA(n:Nat):Prop:=∀(v:List Vl),bV v≤n→∀(H:aa) (a:AV) (R:List (List AV)),ud 70 5 a H R→R.length+aw v<2^20→bV v<2^40 →
 ∀K:AV→aa→Prop,(∀a' H',ud 70 5 a' H' (R++cU (bO v))→nV H H'→K a' H')→bx p_ (.fn (.func 198) [] []) [a,.sl 6 (cE v)] H K
def Q1(hP:∀n',n'<n→SA n'):SA n:=by
 intro v hz H a R hg hn hbig K k;refine cF (by kernel_rfl) rfl (K0:=fun a' H' => ud 70 5 a' H' (R++cU (bO v))∧nV H H') ?_ (fun a' H' h=>k a' H' h.1 h.2);refine (aai _ _).bG ?_;unfold TC;have hlen:(cE v).length=v.length:=by simp[eG]
 have hll:=mQ v;refine zzf (n:=v.length) hlen fun _=>?_;refine ba (α:=Nat×AV×aa) (fun x=>x.1≤v.length∧ud 70 5 x.2.1 x.2.2 (R++cU (bO (v.take x.1)))∧nV H x.2.2) (fun x=>[x.2.1,i_ x.1]) (fun x=>x.2.2) (fun x=>v.length-x.1) (0,a,H) ⟨abY _,by simpa[bO]using hg,nV.refl _⟩ (Wk.refl _ _ _ (bY _)) ?_;rintro⟨j,b,H1⟩ ⟨hj,hgj,hB⟩;dsimp only at hj hgj hB ⊢;refine zzC ?_;rcases uP j v.length with q|q
 ·obtain⟨⟨kd,tx,nu,un',fl,l2⟩,hx⟩:∃x,v[j]?=some x:=⟨v[j],dO q⟩;have htk:v.take (j+1)=v.take j++[Vl.mk kd tx nu un' fl l2]:=by rw[By,hx];rfl
  have hzv:=uY (gE hx);have hzt:bV (v.take j)+zV (Vl.mk kd tx nu un' fl l2)≤bV v:=by
   have h1:=pT v (j+1);rw[htk,mP]at h1;simpa[bV]using h1
  have hRl:(cU (bO (v.take j))).length=aw (v.take j):=by simp only[abM,mA]
  have hct:aw (v.take j)+oq (Vl.mk kd tx nu un' fl l2)≤aw v:=by
   have h1:aw (v.take (j+1))+aw (v.drop (j+1))=aw v:=by rw[←cB,List.take_append_drop]
   rw[htk,cB]at h1;simp only[aw]at h1;omega
  rw[oq]at hct;rw[zV]at hzv hzt;have hc1:1≤(if bZ kd=0 then 1 else aw l2+2):=by split<;>omega
  have next:∀b2 H2,ud 70 5 b2 H2 (R++cU (bO (v.take (j+1))))→nV H1 H2→ag .add (i_ j) (i_ 1) fun v33=>[AV.sl 6 (cE v),i_ v.length]=[AV.sl 6 (cE v),i_ v.length] ∧
   ∃y:Nat×AV×aa,(y.1≤v.length∧ud 70 5 y.2.1 y.2.2 (R++cU (bO (v.take y.1)))∧nV H y.2.2)∧Wk H.length [b2,v33] H2 [y.2.1,i_ y.1] y.2.2∧v.length-y.1<v.length-j:=by
   intro b2 H2 g2 k2;refine zzP (by unfold aK;omega) ?_;exact⟨rfl,(j+1,b2,H2),⟨q,g2,hB.trans k2⟩,Wk.refl _ _ _ (hB.trans k2).1,by dsimp only;omega⟩
  refine zzL (by simpa using q) (aD (zzb (eG v) rfl hx (zzY (by simp[lK]) ?_)));obtain⟨row,hrow⟩:∃row,row=[u1 kd,.str tx,i_ nu,.str un',b_ fl,AV.sl 6 (cE l2)]:=⟨_,rfl⟩;have he:jB (Vl.mk kd tx nu un' fl l2)=row:=by rw[jB,hrow]
  rw[he];refine ca (cs:=zeroV) (n:=H1.length) (h':=H1++[.ah ⟨74,zeroV,true⟩]) rfl (by simp[bT]) rfl rfl (aW (cs:=row) (h':=H1++[.ah ⟨74,row,true⟩]) rfl (b:=⟨74,zeroV,true⟩) (by simp) rfl (by rw[hrow];rfl) (by rw[hrow];simp) (by rw[hrow];rfl) (by rw[hrow];simp[bT]) (by rw[IF _ _ (bY _)];simp[kY (a:=zeroV) (b:=row) (by rw[hrow];rfl)]) ?_);have hV:(H1++[aL.ah ⟨74,row,true⟩])[H1.length]?=some (.ah ⟨74,row,true⟩):=by simp
  have g1:=hgj.app [aL.ah ⟨74,row,true⟩];have k1:=nV.app H1 [aL.ah ⟨74,row,true⟩];refine zzA (iz (cs:=Tok.row ⟨kd,tx,nu,un',fl⟩) rfl hV (by rw[hrow];simp) (by rw[hrow];rfl) (lJ (cs:=Tok.row ⟨kd,tx,nu,un',fl⟩) rfl rfl rfl (by simp[bT]) ?_));refine HQ g1 (by simp[dx,bT]) (by decide) (by simp only[AT];omega) fun b2 H2 g2 k2=>?_;refine zzA (zzA (zzU (k2.2 _ _ hV) (by rw[hrow];rfl) (uCon (ou kd) (zzH ?_))))
  by_cases hc:bZ kd=0
  ·refine zzK (by simp[hc]) (aq ?_);refine next b2 H2 ?_ (k1.trans k2)
   rw[htk,pO];simpa[bO,jH,hc]using g2
  ·refine zzL (by simp[hc]) ?_;rw[if_neg hc]at hct;refine zzA (zzU (k2.2 _ _ hV) (by rw[hrow];rfl) ?_);refine hP (bV l2) (by omega) l2 (bY _) H2 b2 _ g2 (by simp only[AT,abL,acp];omega) (by omega) _ fun b3 H3 g3 k3=>?_;have hR3:(cU (bO l2)).length=aw l2:=by simp only[abM,mA]
   refine bc (cs:=Tok.row ⟨bZ kd,[],0,[],false⟩) rfl (lJ (cs:=Tok.row ⟨bZ kd,[],0,[],false⟩) rfl rfl rfl (by simp[bT]) ?_);refine HQ g3 (by simp[dx,bT]) (by decide) (by simp only[AT,abL,acp];omega) fun b4 H4 g4 k4=>?_;refine aq ?_;refine next b4 H4 ?_ (((k1.trans k2).trans k3).trans k4)
   rw[htk,pO];simpa[bO,jH,hc]using g4
 ·obtain rfl:j=v.length:=by omega
  rw[BY]at hgj;refine zzK (by simp) ?_;exact⟨_,_,Wk.refl _ _ _ hB.1,hgj,hB⟩
def Uv:∀n,SA n:=by
 intro n;induction n using Nat.strongRecOn with
 | _ n ih=>exact Q1 fun n' h=>ih n' h
def E5(v:List Vl):AV×Int:=if je v=0 then (yO (bO v),0) else (bF,je v)
def NM(v:List Vl)(hz:bV v<2^40):bn p_ 176 [.sl 6 (cE v)] (.aA [(E5 v).1,i_ (E5 v).2]):=by
 have hp:Aw.Pure (E5 v).1:=by
  unfold E5 yO;split
  ·dsimp only;split
   ·simp[Aw.Pure]
   ·exact kX _
  ·simp[Aw.Pure]
 refine (aad _).bj (by simp[lG]) (by simp only[aR,Aw.Pure,and_true];exact hp) ?_;unfold Tx;refine uCon (Af v (by omega)) (zzH ?_)
 by_cases h:je v=0
 ·refine zzK (by simp[h]) ?_;have hc15:aw v≤1500:=by
   unfold je at h;split at h
   ·cases h
   ·split at h
    ·cases h
    ·omega
  refine Uv _ v (bY _) [] bF [] (.inl ⟨rfl,rfl⟩) (by simp;omega) (by omega) _ fun a' H' g _=>?_;refine dG.Zw 1 ?_;show AV.aA [Aw.tl 0 H' 1 a',i_ 0]=_;rw[g.told (by simpa using kX _)];unfold E5 yO;rw[if_pos h];simp
 ·refine zzL (by simp[h]) ?_;unfold E5;rw[if_neg h];exact .pure (by simp[aR,Aw.Pure]) rfl
end
section
open Go Go.Aw Go.dN Go.RowKit
def Mo(id:Nat)(e:aL)(h h':aa):Prop:=∃j,h'=h.set id e++j
section
variable {id:Nat} {e e':aL} {h h' h'':aa}
def Mo.len(g:Mo id e h h'):h.length≤h'.length:=by obtain⟨j,rfl⟩:=g;simp
def Mo.at(g:Mo id e h h')(hid:id<h.length):h'[id]?=some e:=by
 obtain⟨j,rfl⟩:=g;rw[gO (by simpa using hid),iD hid]
def Mo.trans(hid:id<h.length)(x:Mo id e h h')(y:Mo id e' h' h''):Mo id e' h h'':=by
 obtain⟨j,rfl⟩:=x;obtain⟨k,rfl⟩:=y;exact⟨j++k,by rw[IN _ _ (by simpa using hid),abW,To]⟩
def Mo.other(g:Mo id e h h')(hi:i<h.length)(hne:i≠id):h'[i]?=h[i]?:=by
 obtain⟨j,rfl⟩:=g;rw[gO (by simpa using hi),iF (Ne.symm hne)]
def Mo.refl(r:h[id]?=some e):Mo id e h h:=⟨[],by rw[kv r];simp⟩
def Mo.set(id:Nat)(e:aL)(h:aa):Mo id e h (h.set id e):=⟨[],by simp⟩
def Mo.tail(g:Mo id e h h')(k:aa):Mo id e h (h'++k):=by
 obtain⟨j,rfl⟩:=g;exact⟨j++k,by rw[To]⟩
def Mo.wb(m:Mo id e h h')(hT:h.length≤T)(x:aL):Mo id e h (h'.set T x):=by
 obtain⟨j,rfl⟩:=m;exact⟨j.set (T-h.length) x,by rw[IF _ _ (by simpa using hT)];simp⟩
end
abbrev Mh(v:List Vl)(a:Nat):aL:=.ah ⟨131,[.sl 6 (cE v),i_ a],true⟩
abbrev dC(v r:List Vl):aL:=Mh v (v.length-r.length)
def O1(h:r <:+ v):v.drop (v.length-r.length)=r:=by
 obtain⟨p,rfl⟩:=h;simp
def IP(h:r <:+ v)(n:Nat):v[v.length-r.length+n]?=r[n]?:=by
 rw[←abQ,O1 h]
def ck(r:List Vl)(n:Nat):Tok:=match r[n]? with|some x=>Pe x|none=>⟨0,[],0,[],false⟩
def Om(x:Vl):(jB x).take 5=(Pe x).row:=by rw[lK];rfl
def Pn{cs ds:List AV}{K:AV→Prop}(e:x=.ip ds)(hn:n≤ds.length)(hc:ds.take n=cs)(q:K (.agg cs)):ak true n x h K:=by
 subst hc;exact Nc e hn q
section
variable [Laid]
def nv{id:Nat}{K:AV→aa→Prop}(rd:h[id]?=some (dC v r))(hs:r <:+ v)(ex:x=.op id 0)(hv:v.length+n<2^40)(k:∀H,Mo id (dC v r) h H→K (ck r n).av H):
 bx p_ (.fn (.func 75) [] []) [x,i_ n] h K:=by
 subst ex;have hid:=(eQ.1 rd).1;have hle:=hs.length_le;refine cF (by kernel_rfl) rfl (K0:=fun w H=>w=(ck r n).av∧Mo id (dC v r) h H) ?_ (by rintro _ H ⟨rfl,m⟩;exact k H m);refine (V75 _ _).bG ?_;unfold Y6;refine ca (cs:=[u8 0,.str [],i_ 0,.str [],ff]) (n:=h.length) (h':=h++[cw 0 [] 0 [] false]) rfl (by simp[bT]) rfl rfl ?_;have rd2:(h++[cw 0 [] 0 [] false])[id]?=some (dC v r):=by rw[gO hid];exact rd
 have hV:(h++[cw 0 [] 0 [] false])[h.length]?=some (cw 0 [] 0 [] false):=by simp
 have m0:Mo id (dC v r) h (h++[cw 0 [] 0 [] false]):=(Mo.refl rd).tail _;have fin:∀t:Tok,t=ck r n→ao 5 (.op h.length 0) t.av (h++[cw 0 [] 0 [] false]) fun g=>ak true 5 (.op h.length 0) g fun w=>∃r' h'',Wk h.length [w] g [r'] h''∧r'=(ck r n).av∧Mo id (dC v r) h h'':=by
  rintro t rfl;refine qS (K:=fun w g=>∃r' h'',Wk h.length [w] g [r'] h''∧r'=(ck r n).av∧Mo id (dC v r) h h'') hV ?_;exact⟨_,_,Wk.refl _ _ _ (by simp),rfl,m0.wb (bY _) _⟩
 have hadd:((v.length-r.length:Nat):Int)+(n:Int)=((v.length-r.length+n:Nat):Int):=by omega
 refine bz (zzA (zzU rd2 rfl (zzP (by unfold aK;omega) ?_)));rw[hadd];refine bz (zzA (zzU rd2 rfl ?_));rw[HY];refine zzC ?_;have hel:(cE v).length=v.length:=by simp[eG]
 rw[hel];have hg:=IP hs n
 by_cases q:v.length-r.length+n<v.length
 ·obtain⟨y,hy⟩:∃y,v[v.length-r.length+n]?=some y:=⟨_,dO q⟩;rw[hy]at hg;refine zzL (oF (by omega)) (bz (zzA (zzU rd2 rfl (bz (zzA (zzU rd2 rfl (zzP (by unfold aK;omega) ?_)))))));rw[hadd];refine zzb (eG v) rfl hy (zzX (Pn rfl (by simp[lK]) (Om y) ?_));exact fin (Pe y) (by unfold ck;rw[←hg])
 ·rw[iS (by omega)]at hg;refine zzK (nO (by omega)) (bc rfl ?_);exact fin ⟨0,[],0,[],false⟩ (by unfold ck;rw[←hg])
def MY{id:Nat}{K:AV→aa→Prop}(rd:h[id]?=some (dC v r))(hs:r <:+ v)(ex:x=.op id 0)(hy:r[n]?=some y)(hv:v.length+n<2^40)(k:K (.sl 6 (cE y.list)) h):
 bx p_ (.fn (.func 105) [] []) [x,i_ n] h K:=by
 subst ex;have hle:=hs.length_le;refine cF (by kernel_rfl) rfl (K0:=fun w H=>w=.sl 6 (cE y.list)∧H=h) ?_ (by rintro _ H ⟨rfl,rfl⟩;exact k);refine (ZE _ _).bG ?_;unfold SQ;have hadd:((v.length-r.length:Nat):Int)+(n:Int)=((v.length-r.length+n:Nat):Int):=by omega
 refine bz (zzA (zzU rd rfl (bz (zzA (zzU rd rfl (zzP (by unfold aK;omega) ?_))))));rw[hadd];refine zzb (eG v) rfl (by rw[IP hs];exact hy) (zzX ?_);have e:(jB y).drop 5=[.sl 6 (cE y.list)]:=by rw[lK,eG];rfl
 refine eF (by rw[e]) ?_;exact⟨_,_,Wk.refl _ _ _ (bY _),rfl,rfl⟩
theorem Bx{id:Nat}{K:AV→aa→Prop}(rd:h[id]?=some (dC v r))(hs:r <:+ v)(ex:x=.op id 0)(k:K (b_ r.isEmpty) h):
 bx p_ (.fn (.func 79) [] []) [x] h K:=by
 subst ex;have hle:=hs.length_le;refine cF (by kernel_rfl) rfl (K0:=fun w H=>w=b_ r.isEmpty∧H=h) ?_ (by rintro _ H ⟨rfl,rfl⟩;exact k);refine (V79 _).bG ?_;unfold Za;refine bz (zzA (zzU rd rfl (bz (zzA (zzU rd rfl ?_)))));rw[HY];refine zzG ?_;have hel:(cE v).length=v.length:=by simp[eG]
 have:decide (((v.length-r.length:Nat):Int)=((cE v).length:Int))=r.isEmpty:=by
  rw[hel];cases r with
  | nil=>simp
  | cons y r=>simp at hle ⊢;omega
 rw[this];exact⟨_,_,Wk.refl _ _ _ (bY _),rfl,rfl⟩
end
end
end Go.Proofs.YtpcnidmmkknndaaGreatDoor
end
