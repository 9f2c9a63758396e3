/-
 A text made clean,whatever bytes it has.
 No conditions.
-/
import Derived.Test.YtpcnidmmkknndaaGreatDoorProg
import Derived.KernelRfl
import Derived.Test.YtpcnidmmkknndaaGreatDoorZe
import Derived.Test.YtpcnidmmkknndaaGreatDoorZd
import Derived.Test.YtpcnidmmkknndaaGreatDoorZc
set_option linter.unusedVariables false
set_option linter.unusedSimpArgs false
set_option linter.unusedSectionVars false
set_option linter.defProp false
set_option autoImplicit true
set_option maxRecDepth 1000000
set_option maxHeartbeats 16000000
open Go.Proofs.Tryz renaming prog→p_
noncomputable section
namespace Go.Proofs.YtpcnidmmkknndaaGreatDoor
section
open Go Go.Aw
def uY(c:UInt8):List UInt8:=if c=13∨c=12 then [10] else if c=0 then Rt.lQ else [c]
def eT:List UInt8→List UInt8
 | []=>[]
 | [c]=>uY c
 | c:: d:: r=>if c=13∧d=10 then 10:: eT r else uY c++eT (d:: r)
def pS(h:¬(c=13∧r.head?=some 10)):eT (c:: r)=uY c++eT r:=by
 cases r with
 | nil=>simp[eT]
 | cons d r =>
   rw[eT,if_neg (by simpa using h)]
def Ki(r:List UInt8):eT (13:: 10:: r)=10:: eT r:=by rw[eT,if_pos ⟨rfl,rfl⟩]
def Ei(c:UInt8):(uY c).length≤3:=by
 unfold uY;split
 ·simp
 ·split<;>simp[Rt.lQ]
theorem rL:∀n (l:List UInt8),l.length≤n→(eT l).length≤3*l.length
 | 0,l,h=>by have:=List.length_eq_zero_iff.1 (Nat.le_zero.1 h);subst this;simp[eT]
 | n+1,l,h=>by
   match l,h with
   | [],_=>simp[eT]
   | [c],_=>have:=Ei c;simp only[eT,aaP,abr];omega
   | c:: d:: r,h =>
     rw[eT];simp only[aaP]at h ⊢;split
     ·have:=rL n r (by omega);simp only[aaP];omega
     ·have:=rL n (d:: r) (by simp;omega);have:=Ei c;simp only[AT,aaP]at *;omega
variable [bp]
def Wr(T:aa)(w:List UInt8):Prop:=Tb T∧11≤T.length∧∃b cells,T[10]?=some (.ak ⟨320,[.own b 0 w.length 1],true⟩)∧b≠10∧9≤b∧T[b]?=some (.ak ⟨5,cells,true⟩)∧cells.take w.length=w.map bf∧w.length≤cells.length
omit [bp] in
def aam[Laid](hx:T[10]?=some (.ak ⟨320,[.own b 0 0 1],true⟩)):bW p_ 282 [.op 10 0,.str []] T fun r hh=>r=.ay [i_ 0,.v .nilIface]∧hh=T:=by
 intro base ι S w vs h1 h2
 match vs,h1 with
 | [],h1=>simp at h1
 | [v],h1=>simp at h1
 | v:: u:: x:: vs,h1=>simp at h1
 | [v,u],h1 =>
   simp only[bP,dt,and_true,eF]at h1;obtain⟨r1,rfl,_⟩:=h1;rw[ar]at r1;obtain⟨bb,hb,rfl⟩:=r1;obtain⟨v0,g0,q0,z0⟩:=cell_of h2 hx hb (o:=0) (c:=.own b 0 0 1) rfl;obtain⟨cap,ad,e0⟩:∃cap ad,v0=.slice ad 0 cap:=by
    have q1:=q0;rw[ar]at q1;obtain⟨_,a',cap',_,_,_,evx,_⟩:=q1;exact⟨cap',a',evx⟩
   subst e0;obtain⟨hE1,hH1⟩:=h2.set hx rfl hb (o:=0) (by simp) (c:=.own b 0 0 1) (v:=.slice ad 0 cap) q0;have hs:T.set 10 (.ak ⟨320,[AV.own b 0 0 1].set 0 (.own b 0 0 1),true⟩)=T:=ku hx;refine (VF bb 0 w ad cap g0 z0).mono ?_;rintro e w' ⟨rfl,rfl⟩;refine⟨_,ι,S,.ay [i_ 0,.v .nilIface],T,rfl,hE1.mono ?_ (bY _), ?_, ?_,bY _,rfl,rfl⟩
   ·rw[h2.len];exact bY _
   ·rw[ar];exact⟨[.int .i64 0,.nilIface],rfl,by simp⟩
   ·rw[←hs];exact hH1
def VB(wr:Wr T w)(m:List UInt8)(hm:0<w.length+m.length)(hl:w.length+m.length≤2^30):bW p_ 282 [.op 10 0,.str m] T fun r hh=>r=.ay [i_ m.length,.v .nilIface]∧Wr hh (w++m)∧T.length≤hh.length:=by
 obtain⟨tb,hT,b,cells,h10,hb10,hb9,hb,hc,hcl⟩:=wr;have hbl:=(eQ.1 hb).1;refine (ZB _ _).bJ ?_;unfold S4;simp only[nT,uu,h10,lP,List.drop_zero,Qw,Cl,NQ,hb];refine⟨?_,⟨by simp;omega,by simpa using hm, ?_, ?_⟩⟩
 ·rw[List.all_map];exact At.2 fun x _=>by simp[dy,bG,bf]
 ·unfold jG maxLen;simp;omega
 have h10':(T.set b .dead++[aK.ak ⟨5,cells.take (w.length*1)++(m.map fun b=>[bf b]).flatten,true⟩])[10]?=some (.ak ⟨320,[.own b 0 w.length 1],true⟩):=by
  rw[gO (by simp;omega),iF hb10];exact h10
 have fm:∀l:List UInt8,(l.map fun b=>[bf b]).flatten=l.map bf:=qH;simp only[yU,aaQ];rw[h10'];refine⟨⟨rfl,by simp,by simp,by simp[bG]⟩, ?_⟩;simp only[BP];intro hmx;refine⟨_,_,Wk.refl _ _ _ (by simp),rfl, ?_,by simp⟩;refine⟨⟨by simp;omega,fun i hi=>?_⟩,by simp;omega,T.length,w.map bf++m.map bf, ?_,by omega,by omega, ?_, ?_,by simp⟩
 ·rw[iF (by omega),gO (by simp;omega),iF (by omega)];exact tb.2 i hi
 ·rw[iD (by simp;omega)];simp[bX]
 ·rw[iF (by omega),gT (by simp),fm];simp[hc]
 ·rw[MK (by simp)];simp
end
section
open Go Go.Aw
variable [bp]
omit [bp] in
def QN(n:Nat)(h:n<256):(ft.getD n 0=4∨ft.getD n 0=1)∧n≠0∧n≠12∧n≠13∨(n=0∨n=12∨n=13):=by
 by_cases h0:n=0
 ·exact .inr (.inl h0)
 ·by_cases h1:n=12
  ·exact .inr (.inr (.inl h1))
  ·by_cases h2:n=13
   ·exact .inr (.inr (.inr h2))
   ·exact .inl ⟨Ud n h h0 h1 h2,h0,h1,h2⟩
def N4{T:aa}(t:Tb T){s:List UInt8}{i:Nat}(hi:i<s.length)(hc:s[i].toNat=0∨s[i].toNat=12∨s[i].toNat=13):∃(v:List UInt8) (kl:Nat),v≠[]∧0<kl∧i+kl≤s.length∧v.length≤3∧eT (s.drop i)=v++eT (s.drop (i+kl))∧bW p_ 269 [.op 3 0,.str (s.drop i),ff] T fun r hh=>r=HC v kl true∧hh=T:=by
 have hd:s.drop i=s[i]:: s.drop (i+1):=abo hi;have hl:(s.drop (i+1)).length=s.length-(i+1):=by simp
 rcases hc with hc|hc|hc
 ·have e:s[i]=0:=UInt8.toNat_inj.1 hc;rw[e]at hd;refine⟨[239,191,189],1,by simp,by decide,hi,by simp, ?_,by rw[hd];exact ZZ t _⟩;rw[hd,pS (by simp)];rfl
 ·have e:s[i]=12:=UInt8.toNat_inj.1 hc;rw[e]at hd;refine⟨[10],1,by simp,by decide,hi,by simp, ?_,by rw[hd];exact Wb t _⟩;rw[hd,pS (by simp)];rfl
 ·have e:s[i]=13:=UInt8.toNat_inj.1 hc;rw[e]at hd
  by_cases q:(s.drop (i+1)).head?=some 10
  ·obtain⟨r,hr⟩:∃r,s.drop (i+1)=10:: r:=by
    cases z:s.drop (i+1) with
    | nil=>rw[z]at q;simp at q
    | cons a b=>rw[z]at q;simp at q;exact⟨b,by rw[q]⟩
   have hr2:s.drop (i+2)=r:=by
    have:s.drop (i+1+1)=(s.drop (i+1)).drop 1:=by rw[List.drop_drop]
    rw[show i+2=i+1+1 from rfl,this,hr];rfl
   have hlen:0<(s.drop (i+1)).length:=by rw[hr];simp
   refine⟨[10],2,by simp,by decide,by omega,by simp, ?_,by rw[hd,hr];exact QK t _⟩;rw[hd,hr,Ki,hr2];rfl
  ·refine⟨[10],1,by simp,by decide,hi,by simp, ?_,by rw[hd];exact Wc t _ q⟩;rw[hd,pS (by simpa using q)];rfl
omit [bp] in
def IX(h0:c.toNat≠0)(h1:c.toNat≠12)(h2:c.toNat≠13):uY c=[c]:=by
 unfold uY;rw[if_neg (by rintro (e|e)<;>rw[e]at h1 h2<;>simp at h1 h2),if_neg (by intro e;rw[e]at h0;simp at h0)]
def xt(wr:Wr T w)(m:List UInt8)(hl:w.length+m.length≤2^30):bW p_ 282 [.op 10 0,.str m] T fun r hh=>r=.ay [i_ m.length,.v .nilIface]∧Wr hh (w++m)∧T.length≤hh.length:=by
 by_cases h:0<w.length+m.length
 ·exact VB wr m h hl
 ·have h1:w=[]:=List.length_eq_zero_iff.1 (by omega);have h2:m=[]:=List.length_eq_zero_iff.1 (by omega);subst h1;subst h2;obtain⟨tb,hT,b,cells,h10,r⟩:=wr;refine (aam h10).mono ?_;rintro v hh ⟨rfl,rfl⟩;exact⟨rfl,⟨tb,hT,b,cells,h10,r⟩,bY _⟩
def VJ(s:List UInt8)(hl:s.length≤4000)(w0:Wr T0 []):bW p_ 267 [.op 3 0,.ib 321 (.op 10 0),.str s] T0 fun r hh=>Wr hh (eT s)∧T0.length≤hh.length:=by
 refine (Zz _ _ _).bJ ?_;unfold S0;have ms:oY p_ "WriteString" 321=some 282:=QQ;refine⟨by kernel_rfl,(ZC T0).mono ?_⟩;rintro r hh ⟨rfl,rfl⟩;have hcl:=rL s.length s (bY _);refine aZ (α:=Nat×Nat×List UInt8×aa) (fun p=>p.1≤s.length+1∧p.2.1≤s.length∧p.2.1≤p.1∧Wr p.2.2.2 p.2.2.1∧hh.length≤p.2.2.2.length∧(p.2.2.1=[]→p.2.1=0)∧p.2.2.1++(s.take p.1).drop p.2.1++eT (s.drop p.1)=eT s) (fun p=>[i_ p.2.2.1.length,.v .nilIface,i_ p.2.1,ff,i_ p.1]) (fun p=>p.2.2.2) (fun p=>s.length+1-p.1) (0,0,[],hh) ⟨by simp,by simp,by simp,w0,bY _,fun _=>rfl,by simp⟩ (Wk.refl _ _ _ (by simp)) ?_;rintro⟨k,last,w,T⟩ ⟨hk,hla,hlk,wr,hT,hw0,he⟩;dsimp only at hk hla hlk wr hT hw0 he ⊢;have t:=wr.1;have g3:=t.b3;have g4:=t.b4;have hwl:w.length≤12000:=by
  have:=congrArg List.length he;simp only[AT]at this;omega
 have hk3:k<s.length∨k=s.length∨k=s.length+1:=by omega
 rcases hk3 with hk1|rfl|rfl
 ·have hne:k≠s.length:=by omega
  have hle:k≤s.length:=by omega
  have hni:¬(k:Int)=(s.length:Int):=by omega
  have hlt:s[k].toNat<256:=s[k].toNat_lt;have hr:=UH _ hlt;have hlti:(s[k].toNat:Int)<256:=by omega
  have w4:IntKind.i64.wrap 4=4:=by decide
  have w1:IntKind.i64.wrap 1=1:=by decide
  have hin:aJ ((k:Int)+1):=by unfold aJ;omega
  rcases QN _ hlt with⟨hm,o1,o2,o3⟩|hc
  ·have hnx:(s.take (k+1)).drop last=(s.take k).drop last++[s[k]]:=by
    rw[List.take_succ_eq_append_getElem hk1,List.drop_append_of_le_length (by simp;omega)]
   have hcl2:eT (s.drop k)=s[k]:: eT (s.drop (k+1)):=by
    rw[abo hk1,pS (by intro z;rw[z.1]at o3;exact o3 rfl),IX o1 o2 o3];rfl
   have fin:∃y:Nat×Nat×List UInt8×aa,(y.1≤s.length+1∧y.2.1≤s.length∧y.2.1≤y.1∧Wr y.2.2.2 y.2.2.1∧hh.length≤y.2.2.2.length∧(y.2.2.1=[]→y.2.1=0)∧y.2.2.1++(s.take y.1).drop y.2.1++eT (s.drop y.1)=eT s)∧Wk (List.length hh) [i_ w.length,AV.v Value.nilIface,i_ last,ff,AV.v (Value.int IntKind.i64 (↑k+1))] T [i_ y.2.2.1.length,AV.v Value.nilIface,i_ y.2.1,ff,i_ y.1] y.2.2.2∧s.length+1-y.1<s.length+1-k:=
    ⟨(k+1,last,w,T),⟨by dsimp only;omega,hla,by dsimp only;omega,wr,hT,hw0,by dsimp only;rw[hnx,←he,hcl2];simp⟩,by simpa using Wk.refl _ _ _ hT,by dsimp only;omega⟩
   rcases hm with hm|hm
   ·rw[hm]at hr;simp[hne,hni,hle,hk1,g3,g4,sq,tV,tW,hr,hlti,w4];obtain⟨⟨ya,yb,yc,yd⟩,f1,f2,f3⟩:=fin;exact fun _=>⟨hin,ya,yb,yc,yd,by simpa using f1,f2,f3⟩
   ·rw[hm]at hr;simp[hne,hni,hle,hk1,g3,g4,sq,tV,tW,hr,hlti,w1,aah];obtain⟨⟨ya,yb,yc,yd⟩,f1,f2,f3⟩:=fin;exact fun _=>⟨hin,ya,yb,yc,yd,by simpa using f1,f2,f3⟩
  ·obtain⟨v,kl,hv,hk0,hkl,hvl,hce,A⟩:=N4 t hk1 hc;have hb:dw p_ 269=true:=by kernel_rfl
   have w0:IntKind.i64.wrap 0=0:=by decide
   have w2:IntKind.i64.wrap 2=2:=by decide
   have w3:IntKind.i64.wrap 3=3:=by decide
   have hkl0:¬(kl:Int)=0:=by omega
   have hkl1:kl≠0:=by omega
   have hml:((s.take k).drop last).length≤4000:=by simp;omega
   have fin2:∀T2:aa,Wr T2 (w++(s.take k).drop last++v)→hh.length≤T2.length→∃y:Nat×Nat×List UInt8×aa,(y.1≤s.length+1∧y.2.1≤s.length∧y.2.1≤y.1∧Wr y.2.2.2 y.2.2.1∧hh.length≤y.2.2.2.length∧(y.2.2.1=[]→y.2.1=0)∧y.2.2.1++(s.take y.1).drop y.2.1++eT (s.drop y.1)=eT s)∧Wk (List.length hh) [i_ ((w.length:Int)+((s.take k).drop last).length+v.length),AV.v Value.nilIface,i_ ((k:Int)+kl),ff,i_ ((k:Int)+kl)] T2 [i_ y.2.2.1.length,AV.v Value.nilIface,i_ y.2.1,ff,i_ y.1] y.2.2.2∧s.length+1-y.1<s.length+1-k:=by
    intro T2 w2 h2;refine⟨(k+kl,k+kl,w++(s.take k).drop last++v,T2),⟨by dsimp only;omega,by dsimp only;omega,bY _,w2,h2,fun z=>?_, ?_⟩, ?_,by dsimp only;omega⟩
    ·exact absurd (List.append_eq_nil_iff.1 z).2 hv
    ·dsimp only;have z:(s.take (k+kl)).drop (k+kl)=[]:=List.drop_eq_nil_of_le (by simp;omega);rw[z,←he,hce];simp
    ·have e:[i_ ((w.length:Int)+((s.take k).drop last).length+v.length),AV.v Value.nilIface,i_ ((k:Int)+kl),ff,i_ ((k:Int)+kl)]=[i_ (((w++(s.take k).drop last++v).length:Nat):Int),AV.v Value.nilIface,i_ ((k+kl:Nat):Int),ff,i_ ((k+kl:Nat):Int)]:=by
      rw[AT,AT];simp only[Int.natCast_add]
     rw[e];exact Wk.refl _ _ _ h2
   have i1:aJ ((w.length:Int)+((s.take k).drop last).length):=by unfold aJ;omega
   have i2:aJ ((w.length:Int)+((s.take k).drop last).length+v.length):=by unfold aJ;omega
   have i3:aJ ((k:Int)+kl):=by unfold aJ;omega
   obtain⟨m,hm⟩:∃m,(s.take k).drop last=m:=⟨_,rfl⟩;rw[hm]at hml fin2 i1 i2;have W1:=xt wr m (by omega);rcases hc with hc|hc|hc
   ·have hm0:ft.getD s[k].toNat 0=0:=by rw[hc];kernel_rfl
    rw[hm0]at hr;simp[hne,hni,hle,hk1,g3,g4,sq,tV,tW,hr,hlti,w0,tb];refine fun _=>⟨hb,A.mono ?_⟩;rintro r h' ⟨rfl,rfl⟩;simp[hkl1,hlk,ms,hm];refine W1.mono ?_;rintro r T1 ⟨rfl,wr1,hT1⟩;simp[i1];refine (xt wr1 v (by simp;omega)).mono ?_;rintro r T2 ⟨rfl,wr2,hT2⟩;simp[i2,i3];obtain⟨⟨ya,yb,yc,yd⟩,f1,f2,f3⟩:=fin2 T2 wr2 (by omega);exact⟨ya,yb,yc,yd,by simpa using f1,f2,f3⟩
   ·have hm0:ft.getD s[k].toNat 0=2:=by rw[hc];kernel_rfl
    rw[hm0]at hr;simp[hne,hni,hle,hk1,g3,g4,sq,tV,tW,hr,hlti,w2,tb];refine fun _=>⟨hb,A.mono ?_⟩;rintro r h' ⟨rfl,rfl⟩;simp[hkl1,hlk,ms,hm];refine W1.mono ?_;rintro r T1 ⟨rfl,wr1,hT1⟩;simp[i1];refine (xt wr1 v (by simp;omega)).mono ?_;rintro r T2 ⟨rfl,wr2,hT2⟩;simp[i2,i3];obtain⟨⟨ya,yb,yc,yd⟩,f1,f2,f3⟩:=fin2 T2 wr2 (by omega);exact⟨ya,yb,yc,yd,by simpa using f1,f2,f3⟩
   ·have hm0:ft.getD s[k].toNat 0=3:=by rw[hc];kernel_rfl
    rw[hm0]at hr;simp[hne,hni,hle,hk1,g3,g4,sq,tV,tW,hr,hlti,w3,tb];refine fun _=>⟨hb,A.mono ?_⟩;rintro r h' ⟨rfl,rfl⟩;simp[hkl1,hlk,ms,hm];refine W1.mono ?_;rintro r T1 ⟨rfl,wr1,hT1⟩;simp[i1];refine (xt wr1 v (by simp;omega)).mono ?_;rintro r T2 ⟨rfl,wr2,hT2⟩;simp[i2,i3];obtain⟨⟨ya,yb,yc,yd⟩,f1,f2,f3⟩:=fin2 T2 wr2 (by omega);exact⟨ya,yb,yc,yd,by simpa using f1,f2,f3⟩
 ·have hin:aJ ((s.length:Int)+1):=by unfold aJ;omega
  have hb:dw p_ 269=true:=by kernel_rfl
  simp[g3,g4,sq,tV,tW];intro _;refine⟨hb,(T8 t).mono ?_⟩;rintro r h' ⟨rfl,rfl⟩;simp[hin];refine⟨s.length+1,last,w,h',⟨by omega,hla,by omega,wr,hT,hw0, ?_⟩,Wk.refl _ _ _ hT,by omega⟩;have hd:s.drop (s.length+1)=[]:=List.drop_of_length_le (by omega);have ht:s.take (s.length+1)=s:=MK (by omega);rw[hd,ht];rw[BY,List.drop_length]at he;simpa using he
 ·have hgt:¬((s.length:Int)+1≤(s.length:Int)):=by omega
  have hd:s.drop (s.length+1)=[]:=List.drop_of_length_le (by omega);have ht:s.take (s.length+1)=s:=MK (by omega);rw[hd,ht]at he;refine zzZ fun _=>?_;refine zzD (zzK (nO (by omega)) ?_);refine zzZ fun _=>?_;refine zzH ?_
  by_cases hs:last=s.length
  ·refine zzK (by simp[hs]) ?_;refine⟨_,_,Wk.refl _ _ _ hT, ?_,hT⟩;rw[←he,hs,List.drop_length];simpa[eT]using wr
  ·refine zzL (by simp;omega) (oH (a:=last) (b:=s.length) (r:=s.drop last) rfl rfl rfl (by omega) (bY _) (by rw[BY]) ?_);simp only[QB,ms,KM,Option.isSome_some,true_and];refine (xt wr (s.drop last) (by simp;omega)).mono ?_;rintro r T2 ⟨rfl,wr2,hT2⟩;refine bl rfl rfl (bl rfl rfl (zzP (by unfold aJ;simp;omega) ?_));refine⟨_,_,Wk.refl _ _ _ (by omega), ?_,by omega⟩;rw[←he];simpa[eT]using wr2
end
section
open Go Go.Aw
variable [bp]
def VI(s:List UInt8)(hl:s.length≤4000):bW p_ 266 [.op 3 0,.str s] (Ha 1 0) fun r hh=>r=.str (eT s)∧9≤hh.length:=by
 refine (Zy _ _).bJ ?_;unfold SZ;have hb:dw p_ 267=true:=by kernel_rfl
 have hH:∀x y:aK,Ha 1 0++[x]++[y]=G x y:=fun x y=>rfl;have hL:(Ha 1 0).length=9:=rfl;have hL1:∀x:aK,(Ha 1 0++[x]).length=10:=fun _=>rfl;have hi:∀x y:aK,(Ha 1 0++[x]++[y])[10]?=some y:=fun _ _=>rfl;have hs:∀x y z:aK,(Ha 1 0++[x]++[y]).set 10 z=G x z:=fun _ _ _=>rfl;simp only[BP,QA,TP,bh,yU,TN,hL,hL1,hi,hs,bX,List.set,Mk,Int.toNat_zero];have w0:Wr (G (.ak ⟨5,gI s.length [u8 0],true⟩) (.ak ⟨320,[.own 9 0 0 1],true⟩)) []:=by
  refine⟨⟨by rw[OW];decide,fun i hi=>?_⟩,by rw[OW];decide,9,_,rfl,by decide,by decide,rfl,rfl,aa2 _⟩;rcases (by omega:i=0∨i=1∨i=2∨i=3∨i=4∨i=5∨i=6∨i=7∨i=8) with rfl|rfl|rfl|rfl|rfl|rfl|rfl|rfl|rfl<;>rfl
 refine fun _=>⟨⟨by omega,by omega,by omega,by omega⟩,by simp[bG],⟨by simp[bG],hb,(VJ s hl w0).mono ?_⟩⟩;rintro r h' ⟨wr,hh⟩;obtain⟨tb,hT,b,cells,h10,hb10,hb9,hbk,hc,hcl⟩:=wr;have hf:=jf 1 (eT s).length cells (by omega);simp only[uu,h10,lP,List.drop_zero,cP,FR,hbk,Nat.mul_one,aa4,hcl,and_self,if_true,Option.bind_some,hf.1,true_and];rw[hc,nV_];exact⟨_,_,Wk.refl _ _ _ (by omega),rfl,by omega⟩
def ZD(s:List UInt8)(hl:s.length≤4000):bW p_ 58 [.op 2 0,.str s] (Hb 0) fun r hh=>r=.str (eT s):=by
 refine (V58 _ _).bJ ?_;unfold X1;simp only[nT,rT];refine⟨by kernel_rfl,MG.mono ?_⟩;rintro r hh ⟨rfl,rfl⟩;have h2:(Ha 1 0)[2]?=some (.ak (tE 1 0 (.ib 212 (.op 3 0)) (.v (.slice none 0 0)))):=rfl;simp only[uu,h2,tE,aa4,List.drop_succ_cons,List.drop_zero,lP,KM,QP];refine (VI s hl).mono ?_;rintro r hh ⟨rfl,hq⟩;exact⟨_,_,Wk.refl _ _ _ (aa7 (by decide) hq),rfl⟩
def I5(s:List UInt8)(hl:s.length≤4000):bn p_ 42 [.str s] (.ay [.str (eT s),i_ 0]):=by
 refine (Xg _).bj (by simp) (by simp) ?_;unfold S5;have hn:¬(4000:Int)<(s.length:Int):=by omega
 simp[hn];refine fun _=>⟨by kernel_rfl,PO.mono ?_⟩;rintro r hh ⟨rfl,rfl⟩;refine⟨by kernel_rfl,(ZD s hl).mono ?_⟩;rintro r hh rfl;exact .pure (by simp) rfl
end
section
open Go Go.Aw Go.RowKit
theorem x8(m:UInt8)(s:ae):∀n j,s.length-j≤n→j≤s.length→j≤(Rt.il m s j).2∧(Rt.il m s j).2≤s.length
 | 0,j,hn,hj=>by rw[Rt.il,dif_neg (by omega)];exact⟨bY _,hj⟩
 | n+1,j,hn,hj=>by
   by_cases h:j<s.length
   ·rw[Rt.il,dif_pos h];split
    ·dsimp only;omega
    ·split
     ·dsimp only;omega
     ·split
      ·split
       ·dsimp only;omega
       ·split
        ·have:=x8 m s n (j+2) (by omega) (by omega);omega
        ·show j≤(Rt.il m s (Rt.cW s j).2).2∧_≤_;have h1:=Rt.gd s j;have h2:=lG h;have:=x8 m s n (Rt.cW s j).2 (by omega) h2;exact⟨by omega,this.2⟩
      ·show j≤(Rt.il m s (j+1)).2∧_≤_;have:=x8 m s n (j+1) (by omega) h;exact⟨by omega,this.2⟩
   ·rw[Rt.il,dif_neg h];exact⟨bY _,hj⟩
theorem xy(s:ae):∀n i,s.length-i≤n→i≤s.length→i≤Rt.mV s i
 | 0,i,hn,hi=>by rw[Rt.mV,dif_neg (by omega)];omega
 | n+1,i,hn,hi=>by
   rw[Rt.mV];split
   ·rename_i h;split
    ·omega
    ·split
     ·have:=Rt.gd s i;have:=xy s n _ (by omega) (lG h);omega
     ·have:=xy s n (i+1) (by omega) h;omega
   ·omega
theorem Cu(s:ae):∀n j,s.length-j≤n→j≤s.length→j≤(Rt.jd s j).2∧(Rt.jd s j).2≤s.length
 | 0,j,hn,hj=>by rw[Rt.jd,dif_neg (by omega)];dsimp only;omega
 | n+1,j,hn,hj=>by
   by_cases h:j<s.length
   ·have hsp:=rq hj;rw[Rt.jd,dif_pos h];split
    ·dsimp only;omega
    ·split
     ·split
      ·have:=uW s s.length (Rt.fe s j) (by omega) hsp.2;have:=xy s s.length (Rt.fe s j) (by omega) hsp.2;dsimp only;omega
      ·dsimp only;omega
     ·split
      ·have:=uW s s.length j (by omega) hj;have:=xy s s.length j (by omega) hj;dsimp only;omega
      ·split
       ·show j≤(Rt.jd s (Rt.cW s j).2).2∧_≤_;have h1:=Rt.gd s j;have h2:=lG h;have:=Cu s n (Rt.cW s j).2 (by omega) h2;exact⟨by omega,this.2⟩
       ·show j≤(Rt.jd s (j+1)).2∧_≤_;have:=Cu s n (j+1) (by omega) h;exact⟨by omega,this.2⟩
   ·rw[Rt.jd,dif_neg h];dsimp only;omega
def Rn(h:Rt.fv (Rt.ax s i)=true):i<Rt.fe s i:=by
 have he:=Cj (p:=uF) (by decide) s i;rw[Ic,Bi]at he;rcases uP i (Rt.fe s i) with q|q
 ·exact q
 ·have:Rt.fe s i=i:=by unfold Rt.fe at q ⊢;omega
  rw[this,h]at he;cases he
def QT(hi:i<s.length)(h:Rt.gq s i=true):i<(Rt.dk s i).2:=by
 have hat:=jo hi;rw[Rt.dk,dif_pos hi];split
 ·have:=(oZ s s.length (i+1) (by omega) hi).1;dsimp only;omega
 ·rename_i q;have e:Rt.cC s i=true:=by
   have q:Rt.fq s[i]=false:=by simpa using q
   unfold Rt.fq at q;simp only[abx,decide_eq_false_iff_not]at q;unfold Rt.gq at h;rw[hat]at h;rw[if_neg q.2,q.1.1]at h;simpa using h
  rw[if_pos e];have h1:=Rt.gd s i;have:=(oZ s s.length (Rt.cW s i).2 (by omega) (lG hi)).1;dsimp only;omega
def RN(hi:i<s.length)(h:Rt.gq s i=true):i<(px s i).2∧(px s i).2≤s.length:=by
 have h1:=QT hi h;have h2:=(oZ s s.length i (by omega) (by omega)).2;unfold px;dsimp only;split
 ·exact⟨h1,h2⟩
 ·rename_i q;have q':Rt.ax s (Rt.dk s i).2=40:=by
   by_cases q2:Rt.ax s (Rt.dk s i).2=40
   ·exact q2
   ·exact absurd q2 q
  have h3:(Rt.dk s i).2<s.length:=at_lt (by rw[q'];decide);split
  ·have h4:=rq (s:=s) (i:=(Rt.dk s i).2+1) h3;have:=Cu s s.length (Rt.fe s ((Rt.dk s i).2+1)) (by omega) h4.2;dsimp only;omega
  ·dsimp only;omega
def QW(hi:i<s.length)(h:Rt.jP s i=true):i<(jO s i).2∧(jO s i).2≤s.length:=by
 have h0:=(A6 hi h).1;have h4:=(B8 (s:=s) (i:=i) (by omega)).2;unfold jO;dsimp only;split
 ·have:=oZ s s.length (Rt.gU s i).1 (by omega) h4;dsimp only;omega
 ·split
  ·rename_i q;have:(Rt.gU s i).1<s.length:=at_lt (by rw[q];decide);dsimp only;omega
  ·dsimp only;omega
def xW(hi:i<s.length):i<(iR s i).2∧(iR s i).2≤s.length:=by
 unfold iR;dsimp only;split
 ·rename_i q;exact⟨Rn q,(rq (by omega)).2⟩
 ·split
  ·have:=x8 (Rt.ax s i) s s.length (i+1) (by omega) hi;dsimp only;omega
  ·split
   ·have:=oZ s s.length (i+1) (by omega) hi;dsimp only;omega
   ·split
    ·rename_i q;exact QW hi q
    ·split
     ·rename_i q;have:=rS (x:=[45,45,62]) q (by decide);simp at this;dsimp only;omega
     ·split
      ·rename_i q;have:=rS (x:=[60,33,45,45]) q (by decide);simp at this;dsimp only;omega
      ·split
       ·have:=oZ s s.length (i+1) (by omega) hi;dsimp only;omega
       ·split
        ·rename_i q;exact RN hi q
        ·split<;>(dsimp only;omega)
def kR(s:ae)(i:Nat):List Tok:=
 if h:i<s.length then (iR s i).1:: kR s (Rt.fZ s (iR s i).2) else []
termination_by s.length-i
decreasing_by
 have h1:=xW h;have:=uz s s.length (iR s i).2 (by omega) h1.2;omega
def jB(s:ae):List Tok×Int:=if 4000<s.length then ([],28) else if 1500<(kR (eT s) (Rt.fZ (eT s) 0)).length then ([],4) else (kR (eT s) (Rt.fZ (eT s) 0),0)
def yz(l:List Tok):AV:=if l=[] then .v (.slice none 0 0) else .sl 5 (cT l)
section
variable [Laid]
def sL(cap:Nat)(H:aa)(done:List Tok):Prop:=
 (done=[]∧H[cap]?=some (.ak ⟨51,[.v (.slice none 0 0)],true⟩))∨∃tid,done≠[]∧H[cap]?=some (.ak ⟨51,[.sb tid 5 (cT done)],true⟩)∧H[tid]?=some (aK.tok 70 5 done.length)
omit [Laid] in
def sL.other{cap:Nat}{done:List Tok}(c:sL cap H done)(hc:H'[cap]?=H[cap]?)(ho:∀(tid n:Nat),H[tid]?=some (aK.tok 70 5 n)→H'[tid]?=some (aK.tok 70 5 n)):sL cap H' done:=by
 rcases c with⟨h1,h2⟩|⟨tid,hd,h1,h2⟩
 ·exact .inl ⟨h1,by rw[hc];exact h2⟩
 ·exact .inr ⟨tid,hd,by rw[hc];exact h1,ho _ _ h2⟩
omit [Laid] in
def sL.app{cap:Nat}{done:List Tok}(c:sL cap H done)(j:aa):sL cap (H++j) done:=by
 have hl:∀{i:Nat} {x:aK},H[i]?=some x→(H++j)[i]?=some x:=fun h=>by
  rw[gO (eQ.1 h).1];exact h
 rcases c with⟨h1,h2⟩|⟨tid,hd,h1,h2⟩
 ·exact .inl ⟨h1,hl h2⟩
 ·exact .inr ⟨tid,hd,hl h1,hl h2⟩
omit [Laid] in
def sL.mv{cap id b:Nat}{done:List Tok}(c:sL cap H done)(sc:Sc id H s a)(hne:cap≠id)(m:Mv id s b H H'):sL cap H' done:=by
 have hl:cap<H.length:=by rcases c with⟨_,h2⟩|⟨_,_,h2,_⟩<;>exact (eQ.1 h2).1
 refine c.other (m.other hl hne) fun tid n ht=>?_;rw[m.other (eQ.1 ht).1 (fun q=>by subst q;unfold Sc at sc;rw[ht]at sc;cases sc)];exact ht
omit [Laid] in
def GM{x:Tok}{K:AV→Prop}(q:K (.sl 5 [x.row])):bt 1 5 (.agg [(u8 0),(.str []),(i_ 0),(.str []),ff]) [(0,5,x.av)] K:=by
 have e:dP (gI 1 (bh (.agg [(u8 0),(.str []),(i_ 0),(.str []),ff]))) [(0,5,x.av)]=some x.row:=by simp[dP,gI,bh,bX,bG]
 unfold bt;rw[e];exact q
def TZ{cap id:Nat}{H:aa}{s:ae}{a:Nat}{done:List Tok}{t:Tok}{y z:AV}{K:AV→aa→Prop}(c:sL cap H done)(sc:Sc id H s a)(hne:cap≠id)(hn:done.length≤2^20)
 (k:∀H',sL cap H' (done++[t])→Sc id H' s a→H.length≤H'.length→K (.ay []) H'):bx p_ (.fn (.func 28) [] [.op cap 0]) [t.av,y,z] H K:=by
 have hb:dw p_ 28=true:=by kernel_rfl
 refine⟨hb, ?_⟩;show bW _ _ ([]++[t.av,y,z]++[.op cap 0]) _ _;have hl:cap<H.length:=by rcases c with⟨_,h2⟩|⟨_,_,h2,_⟩<;>exact (eQ.1 h2).1
 refine bW.mono (K:=fun v H' => v=.ay []∧sL cap H' (done++[t])∧Sc id H' s a∧H.length≤H'.length) ?_ (by rintro _ H' ⟨rfl,h1,h2,h3⟩;exact k H' h1 h2 h3);refine (V28 t.av y z (.op cap 0)).bJ ?_;unfold XA;refine bT (cs:=t.row) (n:=H.length) (h':=H++[.ak ⟨70,t.row,true⟩]) rfl (by simp[bG]) rfl rfl ?_;have hV:(H++[aK.ak ⟨70,t.row,true⟩])[H.length]?=some (.ak ⟨70,t.row,true⟩):=by simp
 have scA:=sc.app [aK.ak ⟨70,t.row,true⟩];rcases c.app [aK.ak ⟨70,t.row,true⟩] with⟨rfl,h2⟩|⟨tid,hdn,h1,h2⟩
 ·refine zzU h2 rfl (zzV hV (by simp) (GM ?_));have ap:∀{KH:AV→aa→Prop},KH (.sb (H++[aK.ak ⟨70,t.row,true⟩]).length 5 [t.row]) (H++[aK.ak ⟨70,t.row,true⟩]++[aK.tok 70 5 1])→bR false 70 5 56 (.v (.slice none 0 0)) (.sl 5 [t.row]) (H++[aK.ak ⟨70,t.row,true⟩]) KH:=by
   intro KH q;unfold bR eI;rw[gM];exact⟨pg [t],⟨by simp[maxLen],by simp⟩,q⟩
  refine ap ?_;have hlt:cap<(H++[aK.ak ⟨70,t.row,true⟩]++[aK.tok 70 5 1]).length:=by simp;omega
  refine aU (cs:=[.sb (H++[aK.ak ⟨70,t.row,true⟩]).length 5 [t.row]]) (h':=(H++[aK.ak ⟨70,t.row,true⟩]++[aK.tok 70 5 1]).set cap (.ak ⟨51,[.sb (H++[aK.ak ⟨70,t.row,true⟩]).length 5 [t.row]],true⟩)) rfl (by rw[gO (by simp;omega)];exact h2) rfl rfl (by simp) rfl rfl rfl ?_;refine⟨_,_,Wk.refl _ _ _ (by simp),rfl,.inr ⟨_,by simp,iD hlt, ?_⟩, ?_,by simp⟩
  ·rw[iF (by simp;omega),gT (bY _)];simp
  ·unfold Sc;rw[iF hne];exact scA.app _
 ·refine zzU h1 rfl (zzV hV (by simp) (GM ?_));have htc:tid≠cap:=fun q=>by subst q;rw[h2]at h1;cases h1
  have hti:tid≠id:=fun q=>by subst q;unfold Sc at scA;rw[h2]at scA;cases scA
  have hl2:=(eQ.1 h2).1;refine A4 (rows:=[t.row]) (k:=done.length) rfl h2 (by simp) gM (pg [t]) ⟨by unfold maxLen;simp;omega,by simp;omega⟩ rfl ?_;refine aU (cs:=[.sb tid 5 (cT done++[t.row])]) (h':=((H++[aK.ak ⟨70,t.row,true⟩]).set tid (aK.tok 70 5 (done.length+[t.row].length))).set cap (.ak ⟨51,[.sb tid 5 (cT done++[t.row])],true⟩)) rfl (by rw[iF htc];exact h1) rfl rfl (by simp) rfl rfl rfl ?_;refine⟨_,_,Wk.refl _ _ _ (by simp),rfl,.inr ⟨tid,by simp, ?_, ?_⟩, ?_,by simp⟩
  ·rw[iD (by simp;omega)];simp
  ·rw[iF (Ne.symm htc),iD hl2];simp
  ·unfold Sc;rw[iF hne,iF hti];exact scA
end
variable [bp]
def Gl(s:ae):bn p_ 17 [.str s] (.ay [yz (jB s).1,i_ (jB s).2]):=by
 refine (V17 _).bj (by simp) ?_ ?_
 ·simp only[Aw.Pure,aO,and_true];unfold yz;split
  ·simp
  ·exact kX _
 unfold Xq;refine bT (cs:=[.v (.slice none 0 0)]) (n:=0) (h':=[.ak ⟨51,[.v (.slice none 0 0)],true⟩]) rfl rfl rfl rfl ?_;have read:bW p_ 27 [.str s,.fn (.func 28) [] [.op 0 0]] [.ak ⟨51,[.v (.slice none 0 0)],true⟩] fun v H=>v=i_ (jB s).2∧((jB s).2=0→sL 0 H (jB s).1):=by
  refine (V27 _ _).bJ ?_;unfold Xz
  by_cases q:4000<s.length
  ·have e:jB s=([],28):=by unfold jB;rw[if_pos q]
   rw[e];refine uCon (I0 s q) (bl rfl rfl (bl rfl rfl (zzH (zzL rfl ?_))));exact⟨_,_,Wk.refl _ _ _ (bY _),rfl,fun z=>by cases z⟩
  refine uCon (I5 s (by omega)) ?_;obtain⟨c,hc⟩:∃c,eT s=c:=⟨_,rfl⟩;have hcl:c.length≤12000:=by have:=rL s.length s (bY _);rw[hc]at this;omega
  have he:jB s=if 1500<(kR c (Rt.fZ c 0)).length then ([],4) else (kR c (Rt.fZ c 0),0):=by unfold jB;rw[if_neg q,hc]
  rw[hc];obtain⟨L,hL⟩:∃L,kR c (Rt.fZ c 0)=L:=⟨_,rfl⟩;rw[hL]at he;refine bl rfl rfl (bl rfl rfl (zzH (zzK rfl (ba rfl (bT (cs:=[.str c,i_ 0]) (n:=1) (h':=[.ak ⟨51,[.v (.slice none 0 0)],true⟩,eB c 0]) rfl rfl rfl rfl ?_)))));have sc0:Sc 1 [aK.ak ⟨51,[.v (.slice none 0 0)],true⟩,eB c 0] c 0:=rfl;refine Hw sc0 rfl (by omega) (aa2 _) ?_;have hp0:=uz c c.length 0 (by omega) (aa2 _);refine aZ (α:=List Tok×Nat×aa) (fun x=>L=x.1++kR c x.2.1∧x.1.length≤1500∧x.2.1≤c.length∧Sc 1 x.2.2 c x.2.1∧sL 0 x.2.2 x.1∧2≤x.2.2.length) (fun x=>[i_ x.1.length]) (fun x=>x.2.2) (fun x=>c.length-x.2.1) ([],Rt.fZ c 0,[aK.ak ⟨51,[.v (.slice none 0 0)],true⟩,eB c (Rt.fZ c 0)]) ⟨by rw[hL];rfl,by simp,hp0.2,rfl,.inl ⟨rfl,rfl⟩,bY _⟩ (Wk.refl _ _ _ (bY _)) ?_;rintro⟨done,a,H⟩ ⟨el,hdl,ha,sc,cp,hH⟩;dsimp only at el hdl ha sc cp hH ⊢;refine bA (zzA (zzU sc rfl ?_));refine zzZ fun _=>?_;refine zzC ?_;rw[kR]at el
  by_cases h:a<c.length
  ·rw[dif_pos h]at el;have hlen:=congrArg List.length el;simp only[AT,aaP]at hlen;refine zzL (oF (by omega)) (zzP (by unfold aJ;omega) (zzE ?_))
   by_cases h2:done.length=1500
   ·rw[if_pos (by omega)]at he;rw[he];refine zzL (oF (by omega)) ?_;exact⟨_,_,Wk.refl _ _ _ (by simp;omega),rfl,fun z=>by cases z⟩
   refine zzK (nO (by omega)) (bA (zzA (zzU sc rfl ?_)));have hin:=xW h;obtain⟨t,b,ht⟩:∃t b,iR c a=(t,b):=⟨_,_,rfl⟩;refine QF sc rfl (by omega) h fun H1 m=>?_;rw[ht]at hin el m ⊢;dsimp only at hin el m ⊢;have sc1:=m.sc;have hid:1<H.length:=by omega
   have cp1:=cp.mv sc (by decide) (m.mv hid);have hH1:=m.len;refine bT (cs:=[u8 0,.str [],i_ 0,.str [],ff]) (n:=H1.length) (h':=H1++[cx 0 [] 0 [] false]) rfl (by simp[bG]) rfl rfl ?_;have hV:(H1++[cx 0 [] 0 [] false])[H1.length]?=some (cx 0 [] 0 [] false):=by simp
   refine aU (cs:=t.row) (h':=H1++[.ak ⟨70,t.row,true⟩]) rfl hV rfl rfl (by simp) rfl (by simp[bG]) (by rw[IF _ _ (bY _)];simp) (zzV (b:=⟨70,t.row,true⟩) (by simp) (by simp) ?_);have sc2:=sc1.app [aK.ak ⟨70,t.row,true⟩];have cp2:=cp1.app [aK.ak ⟨70,t.row,true⟩];refine bA (zzA (zzU sc2 rfl ?_));refine TZ (t:=t) cp2 sc2 (by decide) (by omega) fun H3 cp3 sc3 hl3=>?_;have hpb:=uz c c.length b (by omega) hin.2;refine Hw sc3 rfl (by omega) hin.2 ?_;have hid3:1<H3.length:=by simp at hl3;omega
   have m4:=Mv.set 1 c (Rt.fZ c b) H3;refine⟨rfl,(done++[t],Rt.fZ c b,H3.set 1 (eB c (Rt.fZ c b))),⟨by rw[el];simp,by simp;omega,hpb.2,sc3.set _,cp3.mv sc3 (by decide) m4,by show 2≤(List.set H3 1 _).length;simp;omega⟩, ?_,by dsimp only;omega⟩;simp only[AT,aaP,abr];exact Wk.refl _ _ _ (by simp at hl3;simp;omega)
  ·rw[dif_neg h,aaZ]at el;subst el;rw[if_neg (by omega)]at he;rw[he];refine zzK (nO (by omega)) ?_;exact⟨_,_,Wk.refl _ _ _ (by simp;omega),rfl,fun _=>cp⟩
 refine cB (by kernel_rfl) rfl read ?_;rintro _ H ⟨rfl,cp⟩;refine zzH ?_
 by_cases z:(jB s).2=0
 ·have cp:=cp z;rw[z];refine zzK rfl ?_;rcases cp with⟨h1,h2⟩|⟨tid,hdn,h1,h2⟩
  ·refine zzU h2 rfl ?_;rw[h1];exact .pure (by simp[Aw.Pure,aO]) rfl
  ·refine zzU h1 rfl (dI.of ?_);simp only[tl,eP,nU,aa3,if_false];rw[zM _ _ _ _ (kX _)];unfold yz;rw[if_neg hdn];exact Le.refl _
 ·have hn:(jB s).1=[]:=by
   unfold jB at z ⊢;split
   ·rfl
   ·split
    ·rfl
    ·rename_i h1 h2;rw[if_neg h1,if_neg h2]at z;exact absurd rfl z
  rw[hn];refine zzL (by simpa using z) ?_;exact .pure (by simp[Aw.Pure,aO]) rfl
end
section
open Go Go.Aw Go.dD Go.RowKit
abbrev bI:AV:=.v (.slice none 0 0)
mutual
def tS:Vl→List AV
 | .mk k t n u f l=>[u1 k,.str t,i_ n,.str u,b_ f,match l with|[]=>bI|v:: l=>.sl 6 (tS v:: qF l)]
def qF:List Vl→List (List AV)
 | []=>[]
 | v:: l=>tS v:: qF l
end
def wu(l:List Vl):AV:=match l with|[]=>bI|v:: l=>.sl 6 (tS v:: qF l)
def BG(k:Int)(t:ae)(n:Int)(u:ae)(f:Bool)(l:List Vl):tS (.mk k t n u f l)=[u1 k,.str t,i_ n,.str u,b_ f,wu l]:=by cases l<;>simp[tS,wu]
mutual
theorem JB:∀x:Vl,aO (tS x)
 | .mk k t n u f []=>by simp[tS,aO,Aw.Pure]
 | .mk k t n u f (v:: l)=>by simp[tS,aO,Aw.Pure,cG,JB v,Fx l]
theorem Fx:∀l:List Vl,cG (qF l)
 | []=>by simp[qF,cG]
 | v:: l=>by simp[qF,cG,JB v,Fx l]
end
def EJ(l:List Vl):Aw.Pure (wu l):=by
 cases l with
 | nil=>simp[wu,Aw.Pure]
 | cons v l=>simp[wu,Aw.Pure,cG,JB,Fx]
mutual
theorem NG:∀v:Vl,kB (tS v) (jv v)
 | .mk k t n u f []=>by
   rw[BG,jv];exact .cons (.refl _) (.cons (.refl _) (.cons (.refl _) (.cons (.refl _) (.cons (.refl _) (.cons (.nil 6) .nil)))))
 | .mk k t n u f (v:: l)=>by
   rw[BG,jv];exact .cons (.refl _) (.cons (.refl _) (.cons (.refl _) (.cons (.refl _) (.cons (.refl _) (.cons (.sl (.cons (NG v) (Jh l))) .nil)))))
theorem Jh:∀l:List Vl,oc (qF l) (cA l)
 | []=>.nil
 | v:: l=>.cons (NG v) (Jh l)
end
def Qu(l:List Vl):zT (wu l) (.sl 6 (cA l)):=by
 cases l with
 | nil=>exact .nil 6
 | cons v l=>exact .sl (.cons (NG v) (Jh l))
/-! ### In memory -/
mutual
def VV(F:Nat→Prop)(H:aa):List AV→Vl→Prop
 | r,.mk k t n u f l=>∃a,r=[u1 k,.str t,i_ n,.str u,b_ f,a]∧((l=[]∧a=bI)∨(l≠[]∧∃X rows,a=.own X 0 l.length 6∧F X∧H[X]?=some (.ak ⟨74,rows.flatten,true⟩)∧VR F H rows l))
def VR(F:Nat→Prop)(H:aa):List (List AV)→List Vl→Prop
 | rows,[]=>rows=[]
 | rows,v:: l=>∃r rs,rows=r:: rs∧VV F H r v∧VR F H rs l
end
section
variable {F F':Nat→Prop} {H H':aa}
mutual
theorem VV.mono(hF:∀X,F X→F' X∧H'[X]?=H[X]?):∀(v:Vl) (r:List AV),VV F H r v→VV F' H' r v
 | .mk k t n u f l,r,h=>by
   rw[VV]at h ⊢;obtain⟨a,rfl,h⟩:=h;refine⟨a,rfl, ?_⟩;rcases h with h|⟨h0,X,rows,rfl,h1,h2,h3⟩
   ·exact .inl h
   ·exact .inr ⟨h0,X,rows,rfl,(hF X h1).1,by rw[(hF X h1).2];exact h2,VR.mono hF l rows h3⟩
theorem VR.mono(hF:∀X,F X→F' X∧H'[X]?=H[X]?):∀(l:List Vl) (rows:List (List AV)),VR F H rows l→VR F' H' rows l
 | [],rows,h=>by rw[VR]at h ⊢;exact h
 | v:: l,rows,h=>by
   rw[VR]at h ⊢;obtain⟨r,rs,rfl,h1,h2⟩:=h;exact⟨r,rs,rfl,VV.mono hF v r h1,VR.mono hF l rs h2⟩
end
def VV.row(h:VV F H r v):dy 6 r=true:=by
 cases v;rw[VV]at h;obtain⟨a,rfl,h⟩:=h;rcases h with⟨_,rfl⟩|⟨_,X,rows,rfl,_⟩<;>rfl
theorem VR.len:∀{l:List Vl} {rows:List (List AV)},VR F H rows l→rows.length=l.length
 | [],rows,h=>by rw[VR]at h;subst h;rfl
 | v:: l,rows,h=>by
   rw[VR]at h;obtain⟨r,rs,rfl,_,h2⟩:=h;simp[h2.len]
theorem VR.rows:∀{l:List Vl} {rows:List (List AV)},VR F H rows l→rows.all (dy 6)=true
 | [],rows,h=>by rw[VR]at h;subst h;rfl
 | v:: l,rows,h=>by
   rw[VR]at h;obtain⟨r,rs,rfl,h1,h2⟩:=h;rw[abg,h1.row,h2.rows];rfl
theorem VR.snoc(hv:VV F H r v):∀{l:List Vl} {rows:List (List AV)},VR F H rows l→VR F H (rows++[r]) (l++[v])
 | [],rows,h=>by
   rw[VR]at h;subst h;rw[List.nil_append,List.nil_append,VR];exact⟨r,[],rfl,hv,by rw[VR]⟩
 | w:: l,rows,h=>by
   rw[VR]at h;obtain⟨r',rs,rfl,h1,h2⟩:=h;rw[abv,abv,VR];exact⟨r',_,rfl,h1,h2.snoc hv⟩
def Dc{sz:Nat}(h:dy sz r=true):r.length=sz:=by
 simp only[dy,NO,beq_iff_eq]at h;exact h.1
theorem kO{sz:Nat}:∀{rows:List (List AV)},rows.all (dy sz)=true→rows.flatten.length=rows.length*sz
 | [],_=>by simp
 | r:: rows,h=>by
   simp only[abg,NO]at h;rw[abq,AT,Dc h.1,kO h.2,aaP,Nat.succ_mul];omega
mutual
theorem VV.tl:∀(v:Vl) (r:List AV) (d:Nat),VV F H r v→zV v≤d+1→r.map (tl 0 H d)=tS v
 | .mk k t n u f l,r,d,h,hz=>by
   rw[VV]at h;obtain⟨a,rfl,h⟩:=h;rw[BG];have e:tl 0 H d a=wu l:=by
    rcases h with⟨rfl,rfl⟩|⟨h0,X,rows,rfl,h1,h2,h3⟩
    ·exact mr (by simp[Aw.Pure])
    ·have hl:=h3.len;rw[zV]at hz;have hzl:=mP l;obtain⟨d,rfl⟩:∃e,d=e+1:=⟨d-1,by have:0<l.length:=List.length_pos_iff.2 h0;omega⟩;rw[F7 h2 rfl (by rw[kO h3.rows,hl];exact bY _),←hl,pD _ h3.rows,VR.tl l rows d h3 (by omega)];cases l with
     | nil=>exact absurd rfl h0
     | cons v l=>rfl
   simp only[GO,List.map_nil,e];rw[mr (by simp),mr (by simp),mr (by simp),mr (by simp),mr (by simp)]
theorem VR.tl:∀(l:List Vl) (rows:List (List AV)) (d:Nat),VR F H rows l→bV l≤d+1→rows.map (List.map (tl 0 H d))=qF l
 | [],rows,d,h,hz=>by rw[VR]at h;subst h;rfl
 | v:: l,rows,d,h,hz=>by
   rw[VR]at h;obtain⟨r,rs,rfl,h1,h2⟩:=h;rw[bV]at hz;rw[qF,GO,VV.tl v r d h1 (by omega),VR.tl l rs d h2 (by omega)]
end
end
def HL(F:Nat→Prop)(H:aa)(a:AV)(l:List Vl):Prop:=(l=[]∧a=bI)∨(l≠[]∧∃X rows,a=.own X 0 l.length 6∧¬F X∧H[X]?=some (.ak ⟨74,rows.flatten,true⟩)∧VR F H rows l)
section
variable [Laid]
def Wk.WL(hn:n≤h.length):Wk n s h (s.map (tl n h d)) (sx n h):=
 ⟨by simp[sx];omega,by simp,fun base ι S w vs r k=>by
  obtain⟨e,k'⟩:=k.told hn;refine⟨_,_,e, ?_,k'⟩;cases d with
  | zero =>
    have:=aB.eP (L:=n) (f:=fun _=>.any) k (fun _ _ _=>by simp) s vs r
    rwa [pt]at this
  | succ d =>
    have:=aB.eP (L:=n) (f:=tl n h d) k (ar.tl k d) s vs r
    rwa [pt]at this⟩
def dI.YF(d:Nat)(q:tl 0 h' d r'=r):dI r r' h':=⟨_,_,Wk.WL (d:=d) (aa2 _),q⟩
omit [Laid] in
def HL.told{F:Nat→Prop}(d:Nat)(hd:bV l≤d+1)(h:HL F H a l):tl 0 H (d+1) a=wu l:=by
 rcases h with⟨rfl,rfl⟩|⟨h0,X,rows,rfl,h1,h2,h3⟩
 ·exact mr (by simp[Aw.Pure])
 ·have hl:=h3.len;rw[F7 h2 rfl (by rw[kO h3.rows,hl];exact bY _),←hl,pD _ h3.rows,VR.tl l rows d h3 hd];cases l with
  | nil=>exact absurd rfl h0
  | cons v l=>rfl
def HL.bj{F:Nat→Prop}(h:HL F H a l):dI (.ay [wu l,i_ e]) (.ay [a,i_ e]) H:=by
 refine dI.YF (bV l+1) ?_;show AV.ay [Aw.tl 0 H (bV l+1) a,i_ e]=_;rw[h.told _ (by omega)]
end
/-! ### The state -/
structure PS(a b:Nat)(F:Nat→Prop)(H:aa)(N:Nat)(ls:List (List Vl))(os:List Tok)(hs:List AV)(Lb:Nat)(e1:List AV)(ho:AV):Prop where
 la:H[a]?=some (.ak ⟨72,[.own Lb 0 ls.length 1],true⟩)
 lb:H[Lb]?=some (.ak ⟨54,hs++e1,true⟩)
 hl:hs.length=ls.length
 hd:∀(i:Nat) (l:List Vl),ls[i]?=some l→l.length≤N∧∃x,hs[i]?=some x∧HL F H x l
 inj:∀(i j X m m':Nat),hs[i]?=some (.own X 0 m 6)→hs[j]?=some (.own X 0 m' 6)→i=j
 ob:H[b]?=some (.ak ⟨51,[ho],true⟩)
 ol:(os=[]∧ho=bI)∨∃Ob e2,ho=.own Ob 0 os.length 5∧H[Ob]?=some (.ak ⟨70,(cT os).flatten++e2,true⟩)
 fr:∀X,F X→∃cs,H[X]?=some (.ak ⟨74,cs,true⟩)
section
variable {a b N Lb:Nat} {F F':Nat→Prop} {H H':aa} {ls:List (List Vl)} {os:List Tok} {hs e1:List AV} {ho:AV}
def HL.mono(h:HL F H x l)(hF:∀X,F X→F' X∧H'[X]?=H[X]?)(hx:∀X m,x=.own X 0 m 6→¬F' X∧H'[X]?=H[X]?):HL F' H' x l:=by
 rcases h with h|⟨h0,X,rows,rfl,h1,h2,h3⟩
 ·exact .inl h
 ·exact .inr ⟨h0,X,rows,rfl,(hx X _ rfl).1,by rw[(hx X _ rfl).2];exact h2,h3.mono hF⟩
def PS.app(p:PS a b F H N ls os hs Lb e1 ho)(j:aa):PS a b F (H++j) N ls os hs Lb e1 ho:=by
 have hl:∀{i:Nat} {x:aK},H[i]?=some x→(H++j)[i]?=some x:=fun h=>by
  rw[gO (eQ.1 h).1];exact h
 refine⟨hl p.la,hl p.lb,p.hl,fun i l q=>?_,p.inj,hl p.ob, ?_,fun X hX=>(p.fr X hX).imp fun _=>hl⟩
 ·obtain⟨hn,x,hx,hh⟩:=p.hd i l q;refine⟨hn,x,hx, ?_⟩;rcases hh with h|⟨h0,X,rows,rfl,h1,h2,h3⟩
  ·exact .inl h
  ·exact .inr ⟨h0,X,rows,rfl,h1,hl h2,h3.mono fun X hX=>⟨hX,by obtain⟨cs,e⟩:=p.fr X hX;rw[e];exact hl e⟩⟩
 ·rcases p.ol with h|⟨Ob,e2,h1,h2⟩
  ·exact .inl h
  ·exact .inr ⟨Ob,e2,h1,hl h2⟩
def PS.put{v:Vl}{r:List AV}{rows:List (List AV)}{base:List (List Vl)}{hb:List AV}(p:PS a b F H N (base++[c]) os (hb++[x]) Lb e1 ho)(hc:c.length+1≤N+1)
 (hr:VR F H rows c) (hv:VV F H r v)
 (h1:H'[H.length]?=some (.ak ⟨74,(rows++[r]).flatten,true⟩))
 (h2:H'[Lb]?=some (.ak ⟨54,hb++[.own H.length 0 (c.length+1) 6]++e1,true⟩))
 (h3:∀id,id<H.length→id≠Lb→(∀m,x≠.own id 0 m 6)→H'[id]?=H[id]?) :
 PS a b F H' (N+1) (base++[c++[v]]) os (hb++[.own H.length 0 (c.length+1) 6]) Lb e1 ho:=by
 have hlen:hb.length=base.length:=by have:=p.hl;simp at this;exact this
 have lt:∀{i:Nat} {x:aK},H[i]?=some x→i<H.length:=fun h=>(eQ.1 h).1;have hxX:∀X m,x=.own X 0 m 6→¬F X∧∃cs,H[X]?=some (.ak ⟨74,cs,true⟩):=by
  intro X m e;obtain⟨_,y,hy,hh⟩:=p.hd base.length c (by simp);rw[←hlen,gT (bY _)]at hy;simp at hy;subst hy;rcases hh with⟨_,hh⟩|⟨_,X',rows',e',g1,g2,_⟩
  ·rw[e]at hh;cases hh
  ·rw[e]at e';cases e';exact⟨g1,_,g2⟩
 have fF:∀{id:Nat} {e:aK},H[id]?=some e→id≠Lb→(∀m,x≠.own id 0 m 6)→H'[id]?=some e:=fun h q1 q2=>by rw[h3 _ (lt h) q1 q2];exact h
 have keepT:∀{id t:Nat} {cs:List AV},H[id]?=some (.ak ⟨t,cs,true⟩)→t≠54→t≠74→H'[id]?=some (.ak ⟨t,cs,true⟩):=fun {id t cs} h q1 q2=>by
  refine fF h (fun e=>?_) fun m e=>?_
  ·subst e;rw[p.lb]at h;cases h;exact q1 rfl
  ·obtain⟨_,cs',g⟩:=hxX _ _ e;rw[g]at h;cases h;exact q2 rfl
 have hF:∀X,F X→F X∧H'[X]?=H[X]?:=fun X hX=>by
  obtain⟨cs,e⟩:=p.fr X hX;refine⟨hX,h3 X (lt e) (fun q=>?_) fun m q=>(hxX X m q).1 hX⟩;subst q;rw[p.lb]at e;cases e
 refine⟨?_,h2,by simp[hlen], ?_, ?_,keepT p.ob (by decide) (by decide), ?_,fun X hX=>?_⟩
 ·have:=keepT p.la (by decide) (by decide);simpa using this
 ·intro i l q;rcases Nat.lt_trichotomy i base.length with k|k|k
  ·rw[gO k]at q;obtain⟨hn,y,hy,hh⟩:=p.hd i l (by rw[gO k];exact q);refine⟨by omega,y,by rw[gO (by omega)]at hy ⊢;exact hy,hh.mono hF fun X m e=>?_⟩;subst e;rcases hh with⟨_,e⟩|⟨_,X',rows',e',g1,g2,_⟩
   ·cases e
   ·cases e';refine⟨g1,h3 X (lt g2) (fun q=>?_) fun m' q=>?_⟩
    ·subst q;rw[p.lb]at g2;cases g2
    ·subst q;have:=p.inj i hb.length X _ m' hy (by simp);omega
  ·subst k;simp at q;subst q;refine⟨by simp;omega,.own H.length 0 (c.length+1) 6,by rw[←hlen];simp,.inr ⟨by simp,H.length,rows++[r],by simp,fun z=>?_,h1,(hr.mono hF).snoc (hv.mono hF)⟩⟩;obtain⟨cs,e⟩:=p.fr _ z;have:=lt e;omega
  ·rw[iS (by simp;omega)]at q;cases q
 ·intro i j X m m' q1 q2;have old:∀{i m:Nat},i<hb.length→(hb++[AV.own H.length 0 (c.length+1) 6])[i]?=some (.own X 0 m 6)→hb[i]?=some (.own X 0 m 6)∧X<H.length:=by
   intro i m k q;rw[gO k]at q;refine⟨q, ?_⟩;obtain⟨l,hl⟩:∃l,base[i]?=some l:=⟨_,dO (by omega)⟩;obtain⟨_,y,hy,hh⟩:=p.hd i l (by rw[gO (by omega)];exact hl);rw[gO k,q]at hy;cases hy;rcases hh with⟨_,e⟩|⟨_,X',rows',e',g1,g2,_⟩
   ·cases e
   ·cases e';exact lt g2
  have new:∀{i m:Nat},¬i<hb.length→(hb++[AV.own H.length 0 (c.length+1) 6])[i]?=some (.own X 0 m 6)→i=hb.length∧X=H.length:=by
   intro i m k q;have hi:i=hb.length:=by
    have:=(eQ.1 q).1;simp at this;omega
   subst hi;simp at q;exact⟨rfl,q.1.symm⟩
  by_cases k1:i<hb.length<;>by_cases k2:j<hb.length
  ·exact p.inj i j X m m' (by rw[gO k1];exact (old k1 q1).1) (by rw[gO k2];exact (old k2 q2).1)
  ·have:=(old k1 q1).2;have:=(new k2 q2).2;omega
  ·have:=(old k2 q2).2;have:=(new k1 q1).2;omega
  ·rw[(new k1 q1).1,(new k2 q2).1]
 ·rcases p.ol with h|⟨Ob,e2,g1,g2⟩
  ·exact .inl h
  ·exact .inr ⟨Ob,e2,g1,keepT g2 (by decide) (by decide)⟩
 ·rw[(hF X hX).2];exact p.fr X hX
end
section
variable {a b N Lb:Nat} {F F':Nat→Prop} {H H':aa} {ls:List (List Vl)} {os:List Tok} {hs e1:List AV} {ho:AV}
def PS.lt(h:H[i]?=some x):i<H.length:=(eQ.1 h).1
def PS.drop{base:List (List Vl)}{ob:List Tok}{hb:List AV}{x ho':AV}(p:PS a b F H N (base++[c]) (ob++[o]) (hb++[x]) Lb e1 ho)
 (h1:H'[a]?=some (.ak ⟨72,[.own Lb 0 base.length 1],true⟩))
 (h2:H'[b]?=some (.ak ⟨51,[ho'],true⟩)) (hho:∀Ob m,ho=.own Ob 0 m 5→ho'=.own Ob 0 ob.length 5)
 (h3:∀id,id≠a→id≠b→id<H.length→H'[id]?=H[id]?) :
 ∃F',PS a b F' H' N base ob hb Lb (x:: e1) ho'∧VV F' H' [u8 o.k,.str o.t,i_ o.n,.str o.u,b_ o.f,x] (gD o c):=by
 have hlen:hb.length=base.length:=by have:=p.hl;simp at this;exact this
 have keepT:∀{id t:Nat} {cs:List AV},H[id]?=some (.ak ⟨t,cs,true⟩)→t≠72→t≠51→H'[id]?=some (.ak ⟨t,cs,true⟩):=fun {id t cs} h q1 q2=>by
  rw[h3 id (fun e=>?_) (fun e=>?_) (PS.lt h)]
  ·exact h
  ·subst e;rw[p.la]at h;cases h;exact q1 rfl
  ·subst e;rw[p.ob]at h;cases h;exact q2 rfl
 obtain⟨hcn,y,hy,hh⟩:=p.hd base.length c (by simp);rw[←hlen,gT (bY _)]at hy;simp at hy;subst hy;have hlast:(hb++[x])[hb.length]?=some x:=by simp
 have hF:∀X,F X→(F X∨∃m,x=.own X 0 m 6)∧H'[X]?=H[X]?:=fun X hX=>by
  obtain⟨cs,e⟩:=p.fr X hX;exact⟨.inl hX,by rw[keepT e (by decide) (by decide),e]⟩
 refine⟨fun X=>F X∨∃m,x=.own X 0 m 6,⟨h1, ?_,hlen, ?_, ?_,h2, ?_, ?_⟩, ?_⟩
 ·have:=keepT p.lb (by decide) (by decide);simpa using this
 ·intro i l q;have k:i<base.length:=(eQ.1 q).1;obtain⟨hn,y,hy,hy2⟩:=p.hd i l (by rw[gO k];exact q);have hy1:=hy;rw[gO (by omega)]at hy;refine⟨hn,y,hy,hy2.mono hF fun X m e=>?_⟩;subst e;rcases hy2 with⟨_,e⟩|⟨_,X',rows',e',g1,g2,_⟩
  ·cases e
  ·cases e';refine⟨fun z=>?_,by rw[keepT g2 (by decide) (by decide),g2]⟩;rcases z with z|⟨m',z⟩
   ·exact g1 z
   ·subst z;have:=p.inj i hb.length X _ _ hy1 hlast;omega
 ·intro i j X m m' q1 q2;have k1:=(eQ.1 q1).1;have k2:=(eQ.1 q2).1;exact p.inj i j X m m' (by rw[gO k1];exact q1) (by rw[gO k2];exact q2)
 ·rcases p.ol with⟨h,_⟩|⟨Ob,e2,g1,g2⟩
  ·exact absurd h (by simp)
  ·refine .inr ⟨Ob,o.row++e2,hho _ _ g1, ?_⟩;have:=keepT g2 (by decide) (by decide);simpa using this
 ·rintro X (z|⟨m,z⟩)
  ·rw[(hF X z).2];exact p.fr X z
  ·subst z;rcases hh with⟨_,e⟩|⟨_,X',rows',e',g1,g2,_⟩
   ·cases e
   ·cases e';exact⟨_,keepT g2 (by decide) (by decide)⟩
 ·show VV _ _ _ (.mk o.k o.t o.n o.u o.f c);rw[VV];refine⟨x,rfl, ?_⟩;rcases hh with h|⟨h0,X,rows,rfl,g1,g2,g3⟩
  ·exact .inl h
  ·exact .inr ⟨h0,X,rows,rfl,.inr ⟨_,rfl⟩,keepT g2 (by decide) (by decide),g3.mono hF⟩
def PS.push{t:Tok}{L2 O2:Nat}(p:PS a b F H N ls os hs Lb e1 ho)
 (h1:H'[a]?=some (.ak ⟨72,[.own L2 0 (ls.length+1) 1],true⟩)) (h2:H'[L2]?=some (.ak ⟨54,hs++[bI],true⟩))
 (h3:H'[b]?=some (.ak ⟨51,[.own O2 0 (os.length+1) 5],true⟩)) (h4:H'[O2]?=some (.ak ⟨70,(cT (os++[t])).flatten,true⟩))
 (h5:∀(id:Nat) (cs:List AV),H[id]?=some (aK.ak ⟨74,cs,true⟩)→H'[id]?=H[id]?):PS a b F H' N (ls++[[]]) (os++[t]) (hs++[bI]) L2 [] (.own O2 0 (os.length+1) 5):=by
 have hF:∀X,F X→F X∧H'[X]?=H[X]?:=fun X hX=>by
  obtain⟨cs,e⟩:=p.fr X hX;exact⟨hX,h5 X cs e⟩
 have hl:=p.hl;refine⟨by simpa using h1,by simpa using h2,by simp[hl], ?_, ?_,h3,.inr ⟨O2,[],by simp,by simpa using h4⟩,fun X hX=>?_⟩
 ·intro i l q
  by_cases k:i<ls.length
  ·rw[gO k]at q;obtain⟨hn,y,hy,hh⟩:=p.hd i l q;refine⟨hn,y,by rw[gO (by omega)];exact hy,hh.mono hF fun X m e=>?_⟩;subst e;rcases hh with⟨_,e⟩|⟨_,X',rows',e',g1,g2,_⟩
   ·cases e
   ·cases e';exact⟨g1,h5 _ _ g2⟩
  ·have hi:i=ls.length:=by have:=(eQ.1 q).1;simp at this;omega
   subst hi;simp at q;subst q;exact⟨aa2 _,bI,by rw[←hl];simp,.inl ⟨rfl,rfl⟩⟩
 ·intro i j X m m' q1 q2;have old:∀{i m:Nat},(hs++[bI])[i]?=some (.own X 0 m 6)→hs[i]?=some (.own X 0 m 6):=by
   intro i m q
   by_cases k:i<hs.length
   ·rw[gO k]at q;exact q
   ·have hi:i=hs.length:=by have:=(eQ.1 q).1;simp at this;omega
    subst hi;simp at q
  exact p.inj i j X m m' (old q1) (old q2)
 ·rw[(hF X hX).2];exact p.fr X hX
end
section
variable [Laid]
omit [Laid] in
def Me{K1 K2:AV→aa→Prop}(q1:K1 (b_ false) (g++[.ak ⟨4,[b_ false],true⟩]))(q2:K2 (b_ true) (g++[.ak ⟨4,[b_ true],true⟩])):
 aV 4 ff g fun v g1=>(ao 1 v tt g1 fun g2=>ao 1 v ff g2 fun g3=>ah false 1 v g3 fun w=>K1 w g3)∧(ao 1 v ff g1 fun g2=>ao 1 v tt g2 fun g3=>ah false 1 v g3 fun w=>K2 w g3):=by
 have st:∀{b c:Bool} {K:aa→Prop},K (g++[.ak ⟨4,[b_ c],true⟩])→ao 1 (.op g.length 0) (b_ c) (g++[.ak ⟨4,[b_ b],true⟩]) K:=fun {b c K} q =>
  aU (id:=g.length) (b:=⟨4,[b_ b],true⟩) (cs:=[b_ c]) rfl (by simp) rfl rfl (by simp) rfl rfl (by simp[bX]) q
 have ld:∀{c:Bool} {K:AV→Prop},K (b_ c)→ah false 1 (.op g.length 0) (g++[.ak ⟨4,[b_ c],true⟩]) K:=fun {c K} q=>aD (b:=⟨4,[b_ c],true⟩) rfl (by simp) rfl q;refine bT (cs:=[b_ false]) rfl rfl rfl rfl ⟨?_, ?_⟩
 ·exact st (st (ld q1))
 ·exact st (st (ld q2))
omit [Laid] in
def lD{sz:Nat}{cs:List AV}{K:AV→Prop}(hv:bh v=cs)(hl:cs.length=sz)(hz:(bh z).length=sz)(hs:cs.all bG=true)(q:K (.sl sz [cs])):bt 1 sz z [(0,sz,v)] K:=by
 subst hv;have:dP (gI 1 (bh z)) [(0,sz,v)]=some (bh v):=by
  simp only[dP,gI,aaZ];rw[if_pos ⟨hl,by omega,hs⟩,kY (by omega)]
 unfold bt;rw[this];simp only[chunks];rw[MK (by omega)];exact q
abbrev zeroV:List AV:=[u8 0,.str [],i_ 0,.str [],ff,bI]
variable {a b N Lb:Nat} {F F':Nat→Prop} {H H':aa} {os:List Tok} {e1:List AV} {ho:AV}
omit [Laid] in
def Pg{K:AV→aa→Prop}(h:HL F H x c)(hr:dy 6 r=true)(hc:c.length<2^20)
 (k:∀H1 rows,VR F H rows c→H1.length=H.length+1→H1[H.length]?=some (.ak ⟨74,(rows++[r]).flatten,true⟩)→(∀id,id<H.length→(∀m,x≠.own id 0 m 6)→H1[id]?=H[id]?)→K (.own H.length 0 (c.length+1) 6) H1) :
 bR true 74 6 80 x (.sl 6 [r]) H K:=by
 rcases h with⟨rfl,rfl⟩|⟨h0,X,rows,rfl,h1,h2,h3⟩
 ·unfold bR eI;rw[gM];refine⟨by rw[abg,hr];rfl,by simp,⟨by simp[maxLen],by simp⟩, ?_⟩;exact k _ [] (by rw[VR]) (by simp) (by simp) fun id hid _=>by rw[gO hid]
 ·have hl:=h3.len;refine La (n:=H.length) rfl h2 (by rw[kO h3.rows,hl];exact bY _) (List.length_pos_iff.2 h0) gM (by rw[abg,hr];rfl) ⟨by unfold maxLen;simp;omega,by simp;omega⟩ rfl rfl ?_;refine k _ rows h3 (by simp) ?_ fun id hid hne=>?_
  ·rw[gT (by simp)];simp;rw[MK (by rw[kO h3.rows,hl];exact bY _)]
  ·rw[gO (by simpa using hid),iF (fun e=>hne _ (by rw[e]))]
omit [Laid] in
def KQ{nb:Nat}{base:List (List Vl)}{r hb:List AV}{K:aa→Prop}(p:PS a b F H N (base++[c]) os (hb++[x]) Lb e1 ho)(hnb:base.length=nb)(hN:N<2^20)(hv:VV F H r v)
 (k:∀H',PS a b F H' (N+1) (base++[c++[v]]) os (hb++[.own H.length 0 (c.length+1) 6]) Lb e1 ho→H.length≤H'.length→K H') :
 bR true 74 6 80 x (.sl 6 [r]) H fun v89 g90=>aI 1 (.own Lb 0 (nb+1) 1) (i_ nb) fun v91=>ao 1 v91 v89 g90 K:=by
 subst hnb;have hlen:hb.length=base.length:=by have:=p.hl;simp at this;exact this
 obtain⟨hcn,y,hy,hh⟩:=p.hd base.length c (by simp);rw[←hlen,gT (bY _)]at hy;simp at hy;subst hy;refine Pg hh hv.row (by omega) fun H1 rows hr hl hn ho=>?_;have hLb:=PS.lt p.lb;have hxl:∀m,x≠.own Lb 0 m 6:=fun m e=>by
  subst e;rcases hh with⟨_,e⟩|⟨_,X',rows',e',g1,g2,_⟩
  ·cases e
  ·cases e';rw[p.lb]at g2;cases g2
 refine jm rfl rfl (by omega) ?_;refine aU (b:=⟨54,hb++[x]++e1,true⟩) (cs:=[.own H.length 0 (c.length+1) 6]) (h':=H1.set Lb (.ak ⟨54,hb++[.own H.length 0 (c.length+1) 6]++e1,true⟩)) rfl (by rw[ho Lb hLb hxl];exact p.lb) rfl rfl (by simp;omega) rfl rfl ?_ ?_
 ·congr 3
  simp only[bX];rw[show 0+base.length*1=hb.length by omega,To,IF _ _ (bY _)];simp
 ·refine k _ (p.put (by omega) hr hv ?_ ?_ ?_) (by simp;omega)
  ·rw[iF (by omega)];exact hn
  ·rw[iD (by omega)]
  ·intro id h1 h2 h3;rw[iF (Ne.symm h2)];exact ho id h1 h3
omit [Laid] in
def KR{nb:Nat}{base:List (List Vl)}{r hb:List AV}{K:aa→Prop}(p:PS a b F H N (base++[c]) os (hb++[x]) Lb e1 ho)(hnb:base.length=nb)(hN:N<2^20)(hv:VV F H r v)(hy:bh y=r)
 (k:∀H',PS a b F H' (N+1) (base++[c++[v]]) os (hb++[.own H.length 0 (c.length+1) 6]) Lb e1 ho→H.length≤H'.length→K H') :
 bR true 74 6 80 x (.sl 6 [zeroV]) H fun v75 g76=>aI 1 (.own Lb 0 (nb+1) 1) (i_ nb) fun v77=>ao 1 v77 v75 g76 fun g78=>aI 6 v75 (i_ c.length) fun v79=>ao 6 v79 y g78 K:=by
 subst hnb;have hlen:hb.length=base.length:=by have:=p.hl;simp at this;exact this
 obtain⟨hcn,z,hz,hh⟩:=p.hd base.length c (by simp);rw[←hlen,gT (bY _)]at hz;simp at hz;subst hz;refine Pg hh rfl (by omega) fun H1 rows hr hl hn ho=>?_;have hLb:=PS.lt p.lb;have hxl:∀m,x≠.own Lb 0 m 6:=fun m e=>by
  subst e;rcases hh with⟨_,e⟩|⟨_,X',rows',e',g1,g2,_⟩
  ·cases e
  ·cases e';rw[p.lb]at g2;cases g2
 have hrl:=hr.len;have hro:=Dc hv.row;have hfl:=kO hr.rows;refine jm rfl rfl (by omega) ?_;refine aU (b:=⟨54,hb++[x]++e1,true⟩) (cs:=[.own H.length 0 (c.length+1) 6]) (h':=H1.set Lb (.ak ⟨54,hb++[.own H.length 0 (c.length+1) 6]++e1,true⟩)) rfl (by rw[ho Lb hLb hxl];exact p.lb) rfl rfl (by simp;omega) rfl rfl ?_ ?_
 ·congr 3
  simp only[bX];rw[show 0+base.length*1=hb.length by omega,To,IF _ _ (bY _)];simp
 ·refine jm rfl rfl (by omega) ?_;refine aU (b:=⟨74,(rows++[zeroV]).flatten,true⟩) (cs:=r) (h':=(H1.set Lb (.ak ⟨54,hb++[.own H.length 0 (c.length+1) 6]++e1,true⟩)).set H.length (.ak ⟨74,(rows++[r]).flatten,true⟩)) rfl (by rw[iF (by omega)];exact hn) rfl hy (by simp only[List.flatten_append,AT,hfl,hrl];simp;omega) hro (by have:=hv.row;simp only[dy,NO]at this;exact this.2) ?_ ?_
  ·congr 3
   show bX (rows++[zeroV]).flatten (0+c.length*6) r=_;rw[show 0+c.length*6=rows.flatten.length by omega];simp only[List.flatten_append,abq,List.flatten_nil,aaZ];exact vK r rows.flatten zeroV (by rw[hro];rfl)
  ·refine k _ (p.put (by omega) hr hv ?_ ?_ ?_) (by simp;omega)
   ·rw[iD (by simp;omega)]
   ·rw[iF (by omega),iD (by omega)]
   ·intro id h1 h2 h3;rw[iF (by omega),iF (Ne.symm h2)];exact ho id h1 h3
end
end
section
open Go Go.Aw Go.dD Go.RowKit
variable [Laid]
def ou(k:Int):bn p_ 30 [u1 k] (u1 (cw k)):=by
 refine (V30 _).bj (by simp) (by simp) ?_;unfold XC;rcases (by omega:k=2∨k=19∨k=21∨k=23∨(k≠2∧k≠19∧k≠21∧k≠23)) with rfl|rfl|rfl|rfl|⟨h1,h2,h3,h4⟩
 ·simp;exact .pure (by simp) rfl
 ·simp;exact .pure (by simp) rfl
 ·simp;exact .pure (by simp) rfl
 ·simp;exact .pure (by simp) rfl
 ·simp[h1,h2,h3,h4];exact .pure (by simp) (by simp[cw,h1,h2,h3,h4])
omit [Laid] in
def Ru{ob:List Tok}:(((cT (ob++[o])).flatten++e2).drop (ob.length*5)).take 5=o.row:=by
 have h:((cT ob).flatten).length=ob.length*5:=by rw[kO (pg ob)];simp
 have e:(cT (ob++[o])).flatten++e2=(cT ob).flatten++(o.row++e2):=by simp
 rw[e,←h,List.drop_left];rfl
omit [Laid] in
def sy:((cT l).flatten).length=l.length*5:=by rw[kO (pg l)];simp
omit [Laid] in
def lj(h:b=true)(q:X):cF b X:=by subst h;exact q
omit [Laid] in
def J9{m id len n:Nat}{K:AV→Prop}(ex:x=.own id 0 len m)(ey:y=i_ n)(hn:n≤len)(q:K (.own id 0 n m)):lr m x none (some y) K:=by
 subst ex;subst ey;rw[V1];simp only[eX];refine⟨trivial,⟨by omega,by omega,by omega⟩, ?_⟩;simpa using q
omit [Laid] in
def qa(h:i≠d):qD d (.op i o)=true:=by
 unfold qD;cases e:Nat.beq i d with
 | false=>simp[e]
 | true=>exact absurd (lE e) h
omit [Laid] in
def PS.free{a b N Lb:Nat}{F:Nat→Prop}{base:List (List Vl)}{os:List Tok}{hg e1:List AV}{y ho:AV}(p:PS a b F H N (base++[g]) os (hg++[y]) Lb e1 ho):∃d,qD d (.op a 0)=true∧vE d y=true:=by
 have hgl:hg.length=base.length:=by have:=p.hl;simp at this;omega
 obtain⟨_,z,hz,hh⟩:=p.hd base.length g (by simp);rw[←hgl]at hz;simp at hz;subst hz;rcases hh with⟨_,rfl⟩|⟨_,X,rows,rfl,_,h2,_⟩
 ·exact⟨a+1,qa (by omega),rfl⟩
 ·refine⟨X, ?_,by simp[vE]⟩;have:a≠X:=fun e=>by subst e;have:=p.la;rw[h2]at this;cases this
  exact qa this
def PX(a b:Nat)(H:aa)(N:Nat)(ls:List (List Vl))(os:List Tok):Prop:=∃F hs Lb e1 ho,PS a b F H N ls os hs Lb e1 ho
def KV{base:List (List Vl)}{ob:List Tok}{K:AV→aa→Prop}(p:PX a b H N (base++[g]++[c]) (ob++[o]))(hN:N<2^20)(hob:ob.length=base.length)(hbl:base.length<2^20)
 (k:∀H',PX a b H' (N+1) (base++[g++[gD o c]]) ob→H.length≤H'.length→K (.ay []) H'):bx p_ (.fn (.func 29) [] [.op b 0,.op a 0]) [] H K:=by
 have hb:dw p_ 29=true:=by kernel_rfl
 refine⟨hb, ?_⟩;show bW _ _ ([]++[]++[.op b 0,.op a 0]) _ _;refine bW.mono (K:=fun v H' => v=.ay []∧PX a b H' (N+1) (base++[g++[gD o c]]) ob∧H.length≤H'.length) ?_ (by rintro _ H' ⟨rfl,h1,h2⟩;exact k H' h1 h2);obtain⟨F,hs,Lb,e1,ho,p⟩:=p;have hal:=PS.lt p.la;have hbl2:=PS.lt p.ob;have hll:=PS.lt p.lb;have hab:a≠b:=fun e=>by subst e;have:=p.la;rw[p.ob]at this;cases this
 obtain⟨hb,x,rfl⟩:∃hb x,hs=hb++[x]:=by
  have h0:hs≠[]:=fun e=>by have:=p.hl;rw[e]at this;simp at this
  exact⟨hs.dropLast,hs.getLast h0,(List.dropLast_concat_getLast h0).symm⟩
 obtain⟨hg,y,rfl⟩:∃hg y,hb=hg++[y]:=by
  have h0:hb≠[]:=fun e=>by have:=p.hl;rw[e]at this;simp at this
  exact⟨hb.dropLast,hb.getLast h0,(List.dropLast_concat_getLast h0).symm⟩
 have hgl:hg.length=base.length:=by have:=p.hl;simp at this;omega
 obtain⟨Ob,e2,rfl,hO⟩:∃Ob e2,ho=.own Ob 0 (ob.length+1) 5∧H[Ob]?=some (.ak ⟨70,(cT (ob++[o])).flatten++e2,true⟩):=by
  rcases p.ol with⟨e,_⟩|⟨Ob,e2,q1,q2⟩
  ·exact absurd e (by simp)
  ·exact⟨Ob,e2,by simpa using q1,q2⟩
 refine (V29 _ _).bJ ?_;unfold XB;have cI:∀m:Nat,m<2^21→aJ (m:Int):=fun m hm=>by unfold aJ;omega
 refine zzU p.ob rfl ?_;rw[ur];intro _;refine zze (by unfold aJ;omega) ?_;rw[show ((ob.length+1:Nat):Int)-1=(base.length:Nat) by omega];refine zzU p.ob rfl (jm rfl rfl (by omega) ?_);rw[show 0+base.length*5=ob.length*5 by omega];refine zzV hO (by simp only[List.length_drop,AT,sy,aaP,abr];omega) ?_;rw[Ru];refine zzU p.la rfl (zzP (by unfold aJ;omega) ?_);rw[show ((base.length:Nat):Int)+1=((base.length+1:Nat):Int) by omega];refine jm rfl rfl (by simp) ?_;refine zzU (c:=x) p.lb (by simp;rw[gT (by omega)];simp[hgl]) ?_;have hxs:bG x=true:=by
  obtain⟨_,z,hz,hh⟩:=p.hd (base.length+1) c (by simp);rw[gT (by simp;omega)]at hz;simp[hgl]at hz;subst hz;rcases hh with⟨_,rfl⟩|⟨_,X,rows,rfl,_⟩<;>rfl
 refine ba (cs:=[u8 o.k,.str o.t,i_ o.n,.str o.u,b_ o.f,x]) (by
  cases x<;>first|(simp[dP,bh,bX,bG]at hxs ⊢;done)|(simp[bG]at hxs;done)|(simp[dP,bh,bX,bG]at hxs ⊢;assumption)) ?_
 obtain⟨R,hR⟩:∃R:List AV,R=[u8 o.k,.str o.t,i_ o.n,.str o.u,b_ o.f,x]:=⟨_,rfl⟩;have hRs:R.all bG=true:=by rw[hR];simp only[abg,List.all_nil,hxs];rfl
 have hRl:R.length=6:=by rw[hR];rfl
 rw[←hR];refine aU (id:=H.length+1+0) (b:=⟨74,zeroV,true⟩) (cs:=R) (h':=H++[.dead]++[.ak ⟨74,R,true⟩]) rfl (by rw[gT (by simp)];simp) rfl rfl (by rw[hRl];simp) hRl hRs (by rw[IF _ _ (by simp)];simp[kY (a:=zeroV) (b:=R) (by rw[hRl];rfl)]) ?_;have p3:=(p.app [.dead]).app [aK.ak ⟨74,R,true⟩];obtain⟨H3,h3⟩:∃H3,H3=H++[.dead]++[aK.ak ⟨74,R,true⟩]:=⟨_,rfl⟩;rw[←h3]at p3 ⊢;have l3:H3.length=H.length+2:=by rw[h3];simp
 have hv3:H3[H.length+1+0]?=some (.ak ⟨74,R,true⟩):=by rw[h3,gT (by simp)];simp
 refine⟨a, ?_⟩;refine zzU p3.la rfl (zzP (by unfold aJ;omega) ?_);rw[show ((base.length:Nat):Int)+1=((base.length+1:Nat):Int) by omega];refine J9 rfl rfl (by simp) (lj (qa (Ne.symm hab)) (zzU p3.ob rfl (J9 rfl rfl (by omega) (lj (by simp[xl]) (aU (b:=⟨72,_,true⟩) (cs:=[.own Lb 0 (base.length+1) 1]) (h':=H3.set a (.ak ⟨72,[.own Lb 0 (base.length+1) 1],true⟩)) rfl p3.la rfl rfl (by simp) rfl rfl rfl ?_)))));refine aU (b:=⟨51,_,true⟩) (cs:=[.own Ob 0 base.length 5]) (h':=(H3.set a (.ak ⟨72,[.own Lb 0 (base.length+1) 1],true⟩)).set b (.ak ⟨51,[.own Ob 0 base.length 5],true⟩)) rfl (by rw[iF hab];exact p3.ob) rfl rfl (by simp) rfl rfl rfl ?_;obtain⟨H5,h5⟩:∃H5,H5=(H3.set a (.ak ⟨72,[.own Lb 0 (base.length+1) 1],true⟩)).set b (.ak ⟨51,[.own Ob 0 base.length 5],true⟩):=⟨_,rfl⟩;rw[←h5];have l5:H5.length=H.length+2:=by rw[h5];simp[l3]
 obtain⟨F',p5,hv⟩:=p3.drop (H':=H5) (ho':=.own Ob 0 base.length 5) (by rw[h5,iF (Ne.symm hab),iD (by omega)];simp) (by rw[h5,iD (by simp;omega)]) (fun Ob' m e=>by cases e;rw[hob]) fun id q1 q2 q3=>by rw[h5,iF (Ne.symm q2),iF (Ne.symm q1)]
 rw[←hR]at hv;have hv5:H5[H.length+1+0]?=some (.ak ⟨74,R,true⟩):=by rw[h5,iF (by omega),iF (by omega)];exact hv3
 have hvm:∀j,VV F' (H5++j) R (gD o c):=fun j=>hv.mono fun X hX=>⟨hX,by obtain⟨cs,e⟩:=p5.fr X hX;rw[gO (PS.lt e)]⟩;have hy6:∀j:aa,(H5++j)[H.length+1+0]?=some (.ak ⟨74,R,true⟩):=fun j=>by rw[gO (by omega)];exact hv5
 refine aF ?_;refine Me ?_ ?_
 ·have p6:=p5.app [aK.ak ⟨4,[b_ false],true⟩];refine aq (zzK rfl ?_);obtain⟨d,hd1,hd2⟩:=p6.free;refine⟨d,lj hd1 ?_⟩;refine zzU p6.la rfl (zzU p6.la rfl (jm rfl rfl (by simp) ?_));refine zzU (c:=y) p6.lb (by simp;rw[gT (by omega)];simp[hgl]) ?_;refine zzV (hy6 _) (by simp[hRl]) (lD (cs:=R) (by simp only[List.drop_zero,bh];rw[MK (by omega)]) hRl rfl hRs (lj hd2 ?_));simp only[AT,aaP,abr,aa4];refine KQ p6 rfl hN (hvm _) fun H' p7 hl=>?_;exact⟨_,_,Wk.refl _ _ _ (by simp at hl;omega),rfl,⟨_,_,_,_,_,p7⟩,by simp at hl;omega⟩
 ·have p6:=p5.app [aK.ak ⟨4,[b_ true],true⟩];refine aq (zzL rfl (zzU p6.la rfl (jm rfl rfl (by simp) ?_)));refine zzU (c:=y) p6.lb (by simp;rw[gT (by omega)];simp[hgl]) ?_;refine zzV (hy6 _) (by simp[hRl]) ?_;have hlq:∀{K:AV→Prop},K (i_ g.length)→iZ y K:=by
   obtain⟨_,z,hz,hh⟩:=p6.hd base.length g (by simp);rw[←hgl]at hz;simp at hz;subst hz;intro K q;rcases hh with⟨rfl,rfl⟩|⟨_,X,rows,rfl,_⟩
   ·exact q
   ·exact q
  refine hlq (lD (cs:=zeroV) rfl rfl rfl rfl ?_);simp only[AT,aaP,abr,aa4];refine KR p6 rfl hN (hvm _) (by simp only[List.drop_zero,bh];rw[MK (by omega)]) fun H' p7 hl=>?_;exact⟨_,_,Wk.refl _ _ _ (by simp at hl;omega),rfl,⟨_,_,_,_,_,p7⟩,by simp at hl;omega⟩
end
section
open Go Go.Aw Go.dD
variable [Laid]
omit [Laid] in
def J4{K:AV→Prop}(ex:x=i_ a)(ey:y=i_ b)(q:K (i_ (max a b))):kA x y K:=by
 subst ex;subst ey;refine⟨rfl, ?_⟩;rw[show (if a<b then b else a)=max a b by omega];exact q
omit [Laid] in
def zzc{K:AV→Prop}(q:K (i_ (max a b))):kA (i_ a) (i_ b) K:=J4 rfl rfl q
def xN(c:Int)(l:List Vl):AV:=.agg [i_ (dp l),i_ (dh l),b_ (eL c l)]
def RV(n:Nat):Prop:=∀(l:List Vl) (c:Int),bV l≤n→bn p_ 45 [.sl 6 (cA l),u1 c] (xN c l)
def QL(hn:n<2^40)(hP:∀n',n'<n→RV n'):RV n:=by
 intro l c hz;refine (V45 _ _).bj (by simp[lz]) (by simp[xN]) ?_;unfold XQ;have hlen:(cA l).length=l.length:=by simp[eA]
 have hll:=mP l;refine fo (by simp) (fo (by simp) ?_);refine zzf (n:=l.length) hlen fun _=>?_;refine aZ (α:=Nat) (fun k=>k≤l.length) (fun k=>[i_ k]) (fun k=>[.ak ⟨104,[i_ 0,i_ 0,ff],true⟩,.ak ⟨104,[i_ (dp (l.take k)),i_ (dh (l.take k)),b_ (eL c (l.take k))],true⟩]) (fun k=>l.length-k) 0 (by simp) (by simpa[dp,dh,eL]using Wk.refl _ _ _ (by simp)) ?_;intro k hk;refine zzC ?_;rcases uP k l.length with q|q
 ·obtain⟨⟨kd,tx,nu,un',fl,l2⟩,hx⟩:∃x,l[k]?=some x:=⟨l[k],dO q⟩;have hin:aJ ((k:Int)+1):=by unfold aJ;omega
  have hzv:=uL (gE hx);rw[zV]at hzv;have hrec:=hP (bV l2) (by omega) l2 (cw kd) (bY _);have d1:=Gr hx;have d2:=IY hx;have d3:=IV c hx;rw[pF]at d1;rw[uZ]at d2;rw[wL]at d3;have b1:=sX (l.take k);have b2:=u2 (l.take k);have b0:=pP l k;have b3:=sX l2;have b4:=u2 l2;have h2len:(cA l2).length=l2.length:=by simp[eA]
  obtain⟨D,hD⟩:∃D,dp (l.take k)=D:=⟨_,rfl⟩;obtain⟨C,hC⟩:∃C,dh (l.take k)=C:=⟨_,rfl⟩;obtain⟨B,hB⟩:∃B,eL c (l.take k)=B:=⟨_,rfl⟩;obtain⟨D2,hD2⟩:∃D,dp l2=D:=⟨_,rfl⟩;obtain⟨C2,hC2⟩:∃C,dh l2=C:=⟨_,rfl⟩;obtain⟨B2,hB2⟩:∃B,eL (cw kd) l2=B:=⟨_,rfl⟩;rw[xN,hD2,hC2,hB2]at hrec;rw[hD]at d1 b1 ⊢;rw[hC]at d2 b2 ⊢;rw[hB]at d3 ⊢;rw[hD2]at d1 b3;rw[hC2]at d2 b4;rw[hB2]at d3;have i1:aJ ((C:Int)+1):=by unfold aJ;omega
  have i2:aJ ((D2:Int)+1):=by unfold aJ;omega
  have i3:aJ ((C:Int)+1+C2):=by unfold aJ;omega
  have i4:aJ ((C:Int)+1+C2+1):=by unfold aJ;omega
  have he:(l2=[])↔l2.length=0:=List.length_eq_zero_iff.symm;refine zzL (by simpa using q) (aF (zzb (eA l) rfl hx (zzY (by simp[lF]) (fo rfl ?_))));rw[jv];refine dT (cs:=[u1 kd,.str tx,i_ nu,.str un',b_ fl,.sl 6 (cA l2)]) rfl rfl rfl rfl (bY _) rfl rfl ?_
  by_cases hc0:cw kd=0
  ·have g0:decide (cw kd=0)=true:=by simpa using hc0
   rw[if_pos hc0]at d1 d2 d3;repeat' (first|(with_reducible first|apply aF|apply aq)|((with_reducible first|apply fc|apply bU|apply dB);rfl;rfl)|((with_reducible apply cm);rfl;rfl;first|assumption|(unfold aJ;omega))|((with_reducible apply aL);rfl)|((with_reducible apply aQ);rfl)|((with_reducible apply au);rfl;first|rfl|assumption)|((with_reducible apply bw);rfl;first|rfl|assumption)|((with_reducible apply bz);rfl;first|rfl|assumption)|((with_reducible apply dG);rfl)|((with_reducible apply fy);rfl)|((with_reducible apply aH);rfl)|((with_reducible apply aD);rfl;rfl;rfl)|((with_reducible apply dT);rfl;rfl;rfl;rfl;(first|exact bY _|simp);(first|rfl|simp);(first|rfl|simp))|((with_reducible apply cU);rfl;(first|rfl|simp);intro _)|(refine uCon (ou kd) ?_)|((with_reducible apply cq);rfl)|((with_reducible apply cD);rfl)|(with_reducible intro _))
   all_goals
    refine⟨k+1,q,Wk.back (M:=2) (by simp) (by simp) ?_ rfl (by simp[rQ];exact⟨kQ _ _ (by simp),kQ _ _ (by simp)⟩) (by simp[Bd]),by omega⟩;rw[d1,d2,d3];simp[bX]
    grind
  ·have g0:decide (cw kd=0)=false:=by simpa using hc0
   rw[if_neg hc0]at d1 d2 d3;repeat' (first|((with_reducible apply J4);rfl;rfl)|(with_reducible first|apply aF|apply aq)|((with_reducible first|apply bU|apply dB);rfl;rfl)|((with_reducible apply cm);rfl;rfl;first|assumption|(unfold aJ;omega))|((with_reducible apply aL);rfl)|((with_reducible apply aQ);rfl)|((with_reducible apply au);rfl;first|rfl|assumption)|((with_reducible apply aw);rfl;first|rfl|assumption)|((with_reducible apply bw);rfl;first|rfl|assumption)|((with_reducible apply bz);rfl;first|rfl|assumption)|((with_reducible apply dG);rfl)|((with_reducible apply fy);rfl)|((with_reducible apply aH);rfl)|((with_reducible apply aD);rfl;rfl;rfl)|((with_reducible apply fo);first|rfl|simp)|((with_reducible apply dT);rfl;rfl;rfl;rfl;(first|exact bY _|simp);(first|rfl|simp);(first|rfl|simp))|((with_reducible apply ba);rfl)|(refine uCon (ou kd) ?_)|(refine uCon (hrec) ?_)|((with_reducible apply cD);rfl)|(with_reducible intro _))
   all_goals
    refine⟨k+1,q,Wk.back (M:=2) (by simp) (by simp) ?_ rfl (by simp[rQ];exact⟨kQ _ _ (by simp),kQ _ _ (by simp)⟩) (by simp[Bd]),by omega⟩;rw[d1,d2,d3];simp[bX]
    grind
 ·have hk:k=l.length:=by omega
  subst hk;rw[BY];refine zzK (by simp) (zzV rfl (by simp) (dT (cs:=[i_ (dp l),i_ (dh l),b_ (eL c l)]) rfl rfl rfl rfl (by simp) (by simp) (by simp) (zzV rfl (by simp) ?_)));exact .pure (by simp) (by simp[xN])
def T7:∀n,n<2^40→RV n:=by
 intro n;induction n using Nat.strongRecOn with
 | _ n ih=>exact fun hn=>QL hn fun n' h=>ih n' h (by omega)
def Nd(l:List Vl)(c:Int)(hz:bV l<2^40):bn p_ 45 [.sl 6 (cA l),u1 c] (xN c l):=T7 _ hz l c (bY _)
def Am(l:List Vl)(hz:bV l<2^40):bn p_ 31 [.sl 6 (cA l)] (i_ (js l)):=by
 refine (V31 _).bj (by simp[lz]) (by simp) ?_;unfold XD;have hL:=Nd l 0 hz;rw[xN]at hL;repeat' (first|((with_reducible apply fc);rfl;rfl)|((with_reducible apply aH);rfl)|((with_reducible apply aD);rfl;rfl;rfl)|((with_reducible apply fo);first|rfl|simp)|((with_reducible apply dT);rfl;rfl;rfl;rfl;(first|exact bY _|simp);(first|rfl|simp);(first|rfl|simp))|(refine uCon (hL) ?_)|((with_reducible apply cq);rfl)|(with_reducible intro _))
 all_goals
  refine .pure (by simp) ?_;simp only[AV.v.injEq,Value.int.injEq,true_and];simp[bX]at *;unfold js;repeat' split
  all_goals first|rfl|omega|simp_all
end
section
open Go Go.Aw
variable [Laid]
def Yf(c d:AV)(h:aa)(K:AV→aa→Prop):Prop:=
 aV 70 (.agg [u8 0,.str [],i_ 0,.str [],ff]) h fun b a=>qLd p_ c 1 a fun g=>ag .add g d fun i=>qLd p_ c 0 a fun j=>iZ j fun k=>ag .lss i k fun l=>af l (qLd p_ c 0 a fun m=>qLd p_ c 1 a fun n=>ag .add n d fun o=>aI 6 m o fun p=>iFL 0 true 5 p a fun q=>ao 5 b q a fun e=>ah true 5 b e fun r23=>K r23 e) (aW (.agg [u8 0,.str [],i_ 0,.str [],ff]) [] fun r=>ao 5 b r a fun f=>ah true 5 b f fun r26=>K r26 f)
def V75(a b:AV):fx p_ 75 [a,b] (Yf a b):=mkM Tryz.func75 (sn (.seq (.seq (.draw 12 (oR 0 12 []) [] []) (.two (.seq (.draw 13 (oR 0 13 []) [.op 13 false] []) .nil) .nil)) .nil)) 31 [.cell 4 70]
def R9(a d:AV)(h:aa)(K:AV→aa→Prop):Prop:=
 qLd p_ a 0 h fun b=>qLd p_ a 1 h fun c=>ag .add c d fun e=>aI 6 b e fun f=>iFL 5 false 1 f h fun g=>K g h
def YN(a b:AV):fx p_ 105 [a,b] (R9 a b):=mkM Tryz.func105 (sn (.seq (.draw 14 (oR 0 14 []) [] []) .nil)) 18 [.tmp 4]
def Yj(a:AV)(h:aa)(K:AV→aa→Prop):Prop:=
 qLd p_ a 1 h fun b=>qLd p_ a 0 h fun c=>iZ c fun d=>ag .eql b d fun e=>K e h
def V79(a:AV):fx p_ 79 [a] (Yj a):=mkM Tryz.func79 (sn (.seq (.draw 11 (oR 0 11 []) [] []) .nil)) 13 [.tmp 2]
def Yd(a:AV)(h:aa)(K:AV→aa→Prop):Prop:=
 qLd p_ a 1 h fun c=>bN [] h fun d o e =>
 iC p_ 75 [a,i_ 0] e fun f b=>rU false 0 1 f fun g=>ag .eql g (u8 13) fun i=>af i (qLd p_ a 1 b fun j=>qBe .add j 1 fun k=>qSt p_ a 1 k b fun l=>eC [a,c] (d [] l)) (qLd p_ a 1 b fun m=>ag .gtr m c fun n=>K n b)
def V73(a:AV):fx p_ 73 [a] (Yd a):=mkM Tryz.func73 (sn (sn (.seq (.one (.loop [0,3] [] .nil)) .nil))) 25 [.tmp 2]
def Yh(a m:AV)(h:aa)(K:AV→aa→Prop):Prop:=
 iC p_ 75 [a,i_ 0] h fun e f=>aV 70 (.agg [u8 0,.str [],i_ 0,.str [],ff]) f fun c g=>ao 5 c e g fun b=>iFL 0 false 1 c b fun i=>ag .neq i (u8 9) fun j=>qJo j [a] b (fun k=>iFL 1 false 1 c b fun l=>ag .neq l m fun n=>k n b) fun o d=>af o (K ff d) (qLd p_ a 1 d fun p=>qBe .add p 1 fun q=>qSt p_ a 1 q d fun r=>K tt r)
def V77(a b:AV):fx p_ 77 [a,b] (Yh a b):=mkM Tryz.func77 (sn (sn (.seq (.seq (.aN (oR 0 4 (.aA 3 false (fR 4 4) [0] [11,15]::.op 8 false::[]))) .nil) .nil))) 24 [.tmp 4]
def Ye(b:AV)(h:aa)(K:AV→aa→Prop):Prop:=
 bN [i_ 0] h fun e a c =>
 qBe .lss (nx a 0) 3 fun f=>af f (qBe .add (nx a 0) 1 fun g=>eV (.str [62,43,126]) (some (nx a 0)) (some g) fun i=>iC p_ 77 [b,i] c fun j d=>af j (iC p_ 73 [b] d fun o k=>cy .u8 (nx a 0) fun l=>ag .add (u8 2) l fun m=>K m k) (qBe .add (nx a 0) 1 fun n=>eC [b] (e [n] d))) (K (u8 0) c)
def V74(a:AV):fx p_ 74 [a] (Ye a):=mkM Tryz.func74 (sn (.seq (sn (.one (.loop [0] [4] .nil))) .nil)) 19 [.tmp 2]
def Yi(a w:AV)(h:aa)(K:AV→aa→Prop):Prop:=
 aV 80 w h fun d x=>bN [qNs] x fun y e z =>
 aW (.agg [u8 0,.str [],u8 0,.str [],ff,i_ 0,i_ 0,ff,qNs]) [] fun A=>aV 46 (.agg [u8 0,.str [],u8 0,.str [],ff,i_ 0,i_ 0,ff,qNs]) z fun b B=>ao 9 b A B fun C=>iC p_ 75 [a,i_ 1] C fun D E=>aV 70 (.agg [u8 0,.str [],i_ 0,.str [],ff]) E fun i F=>ao 5 i D F fun G=>aG (fun j=>iC p_ 75 [a,i_ 0] G fun H I=>aV 70 (.agg [u8 0,.str [],i_ 0,.str [],ff]) I fun f J=>ao 5 f H J fun g=>iFL 0 false 1 f g fun L=>ag .eql L (u8 4) fun M=>af M ((∃d24:Nat,iFL 1 false 1 f g fun N=>aW (.agg [u8 0,.str [],u8 0,.str [],ff,i_ 0,i_ 0,ff,qNs]) [(0,1,(u8 1)),(1,1,N)] fun O=>bg 4 f fun m=>cF (qD d24 m) (ah false 1 m g fun P=>cF (xl d24 b) (ao 9 b O g fun n=>qLd p_ a 1 n fun Q=>qBe .add Q 1 fun R=>qSt p_ a 1 R n fun S=>eC [a,d,nx e 0,b] (j [P] S))))) (iFL 0 false 1 f g fun T=>ag .eql T (u8 9) fun U=>qJa U [a,d,nx e 0,b,ff,i,f] g (fun V=>iFL 1 false 1 f g fun W=>ag .eql W (.str [46]) fun X=>V X g) fun Y c=>af Y ((∃d48:Nat,iFL 1 false 1 i c fun Z=>aW (.agg [u8 0,.str [],u8 0,.str [],ff,i_ 0,i_ 0,ff,qNs]) [(0,1,(u8 2)),(1,1,Z)] fun a0=>bg 0 i fun o=>cF (qD d48 o) (ah false 1 o c fun a1=>ag .eql a1 (u8 1) fun a2=>cF (xl d48 b) (ao 9 b a0 c fun p=>qLd p_ a 1 p fun a3=>qBe .add a3 2 fun a4=>qSt p_ a 1 a4 p fun a5=>eC [a,d,nx e 0,b] (j [a2] a5))))) (iFL 0 false 1 f c fun a6=>ag .eql a6 (u8 19) fun a7=>af a7 (iC p_ 105 [a,i_ 0] c fun a8 a9=>iC p_ 104 [a8] a9 fun q b0=>aR 0 q fun b1=>aR 1 q fun b2=>ao 9 b b1 b0 fun r=>qLd p_ a 1 r fun b3=>qBe .add b3 1 fun b4=>qSt p_ a 1 b4 r fun b5=>eC [a,d,nx e 0,b] (j [b2] b5)) (iFL 0 false 1 f c fun b6=>ag .eql b6 (u8 16) fun b7=>af b7 (aG (fun k=>iFL 0 false 1 i c fun s=>ag .eql s (u8 1) fun b8=>af b8 (iFL 1 false 1 i c fun b9=>iC p_ 106 [b9] c fun t c0=>aR 0 t fun c1=>aR 1 t fun c2=>ao 9 b c1 c0 fun c3=>eC [a,d,nx e 0,b] (k [c2] c3)) (ag .eql s (u8 2) fun c4=>af c4 (iFL 1 false 1 i c fun c5=>iQ p_ 105 [a,i_ 1] c fun c6=>ah true 2 d c fun c7=>iQ p_ 107 [c5,c6,c7] c fun u=>aR 0 u fun c8=>aR 1 u fun c9=>ao 9 b c8 c fun d0=>eC [a,d,nx e 0,b] (k [c9] d0)) (eC [a,d,nx e 0,b] (k [ff] c)))) fun d1 v=>qLd p_ a 1 v fun d2=>qBe .add d2 2 fun d3=>qSt p_ a 1 d3 v fun d4=>eC [a,d,nx e 0,b] (j [nx d1 0] d4)) (K (.ay [nx e 0,tt]) c))))) fun d5 l=>cr (nx d5 0) fun d6=>af d6 (K (.ay [qNs,ff]) l) (ah true 9 b l fun d7=>bt 1 9 (.agg [u8 0,.str [],u8 0,.str [],ff,i_ 0,i_ 0,ff,qNs]) [(0,9,d7)] fun d8=>bR false 46 9 104 (nx e 0) d8 l fun d9 e0=>eC [a,d] (y [d9] e0))
def V78(a b:AV):fx p_ 78 [a,b] (Yi a b):=mkM Tryz.func78 (sn (sn (.one (.loop [0,3] [6] (.one (sn (sn (.join [0,3,6,7] [8] (sn (.one (sn (.two (.seq (.two (.jX [(0,0,false),(1,1,false),(2,0,false),(3,0,false),(4,3,false),(5,4,false),(6,0,false)]) .nil) .nil) (.seq (.aN (oR 0 4 (.aA 3 true (fR 4 3) [0,3,6,7,8,9,10] [37,40]::oR 7 2 []))) (.two (.seq (.two (.jX [(0,0,false),(1,1,false),(2,0,false),(3,0,false),(4,3,false),(5,0,false),(6,4,false),(7,0,false)]) .nil) .nil) (sn (.two .nil (sn (.two (.join [0,3,6,7] [8] (sn (.one (sn (.two .nil (sn (.two (.jX [(0,0,false),(1,1,false),(2,0,false),(3,1,false),(4,1,false),(5,1,false),(6,0,false),(7,0,false),(8,0,false),(9,2,false),(10,0,false)]) .nil)))))) .nil) .nil)))))))))) (sn (.aN (oR 0 2 (.op 2 true::oR 3 2 [])))))))))))) 110 [.tmp 4,.tmp 5]
def Sa(d:AV)(h:aa)(K:AV→aa→Prop):Prop:=
 aV 46 (.agg [u8 0,.str [],u8 0,.str [],ff,i_ 0,i_ 0,ff,qNs]) h fun a l=>iC p_ 76 [d] l fun e b=>ag .eql e (.str [102,105,114,115,116,45,99,104,105,108,100]) fun m=>af m (aW (.agg [i_ 0,i_ 0]) [(1,1,(i_ 1))] fun n=>aW (.agg [u8 0,.str [],u8 0,.str [],ff,i_ 0,i_ 0,ff,qNs]) [(0,1,(u8 9)),(5,2,n)] fun o=>ao 9 a o b fun f=>ah true 9 a f fun r9=>K (.ay [r9,tt]) f) (ag .eql e (.str [108,97,115,116,45,99,104,105,108,100]) fun p=>af p (aW (.agg [i_ 0,i_ 0]) [(1,1,(i_ 1))] fun q=>aW (.agg [u8 0,.str [],u8 0,.str [],ff,i_ 0,i_ 0,ff,qNs]) [(0,1,(u8 10)),(5,2,q)] fun r=>ao 9 a r b fun g=>ah true 9 a g fun r14=>K (.ay [r14,tt]) g) (iC p_ 53 [] b fun s t=>iC p_ 76 [d] t fun u v=>iC p_ 143 [s,u] v fun c i=>kA c (i_ 0) fun w=>cy .u8 w fun x=>ag .add (u8 4) x fun y=>aW (.agg [u8 0,.str [],u8 0,.str [],ff,i_ 0,i_ 0,ff,qNs]) [(0,1,y)] fun j=>qBe .geq c 0 fun z=>qJa z [a,j] i (fun A=>qBe .lss c 5 fun B=>A B i) fun C D=>ao 9 a j D fun k=>ah true 9 a k fun r32=>K (.ay [r32,C]) k))
def YP(a:AV):fx p_ 106 [a] (Sa a):=mkM Tryz.func106 (sn (sn (sn (.seq (.aN (oR 0 8 (.aA 7 true (fR 8 2) [2,23] [26,28]::oR 10 3 []))) .nil)))) 30 [.cell 2 46,.tmp 3]
def S6(h:aa)(K:AV→aa→Prop):Prop:=
 bt 11 1 (.str []) [(0,1,(.str [108,105,110,107])),(1,1,(.str [118,105,115,105,116,101,100])),(2,1,(.str [97,110,121,45,108,105,110,107])),(3,1,(.str [114,111,111,116])),(4,1,(.str [101,109,112,116,121])),(5,1,(.str [110,116,104,45,99,104,105,108,100])),(6,1,(.str [110,116,104,45,108,97,115,116,45,99,104,105,108,100])),(7,1,(.str [105,115])),(8,1,(.str [119,104,101,114,101])),(9,1,(.str [110,111,116])),(10,1,(.str [104,97,115]))] fun a=>K a h
def Xh:fx p_ 53 [] (S6):=mkM Tryz.func53 (sn (.seq (.aN [.op 0 true,.op 1 false]) .nil)) 2 [.tmp 0]
def SC(u c w:AV)(h:aa)(K:AV→aa→Prop):Prop:=
 aV 46 u h fun a v=>aV 80 w v fun x y=>aV 46 (.agg [u8 0,.str [],u8 0,.str [],ff,i_ 0,i_ 0,ff,qNs]) y fun b z=>iC p_ 174 [c,.fn (.func 175) [] []] z fun d e=>aG (fun j=>qBe .geq d 0 fun A=>af A (ah true 2 x e fun B=>iFL 0 false 1 a e fun C=>iC p_ 110 [B,C] e fun k D=>aR 0 k fun E=>aR 1 k fun F=>aV 80 (.agg [i_ 0,ff]) D fun l G=>ao 2 l E G fun f=>qBe .add d 1 fun H=>lr 6 c (some H) none fun I=>ah true 2 l f fun J=>iQ p_ 32 [I,J,ff,ff] f fun m=>aR 0 m fun n=>aR 1 m fun L=>cr F fun M=>qJo M [c,a,b,d,n] f (fun N=>cr L fun O=>N O f) fun P g=>af P (ah true 9 a g fun Q=>ao 9 b Q g fun o=>ah true 9 b o fun r35=>K (.ay [r35,ff]) o) (lr 6 c none (some d) fun R=>bg 7 a fun S=>ao 1 S tt g fun T=>bg 8 a fun U=>ao 1 U n T fun V=>eC [a,b] (j [R] V))) (eC [a,b] (j [c] e))) fun W X=>iC p_ 176 [nx W 0] X fun p i=>aR 0 p fun Y=>aR 1 p fun Z=>qBe .neq Z 0 fun a0=>af a0 (ah true 9 a i fun a1=>ao 9 b a1 i fun q=>ah true 9 b q fun r50=>K (.ay [r50,ff]) q) (iC p_ 177 [Y] i fun r a2=>aR 0 r fun a3=>aR 1 r fun a4=>bg 5 a fun a5=>ao 2 a5 a3 a2 fun s=>ah true 9 a s fun a6=>qBe .eql a4 0 fun a7=>ao 9 b a6 s fun t=>ah true 9 b t fun r60=>K (.ay [r60,a7]) t)
def Zc(a b c:AV):fx p_ 144 [a,b,c] (SC a b c):=mkM Tryz.func144 (sn (sn (.join [3,6] [1] (sn (.two (sn (.seq (.draw 11 (oR 0 11 []) [] []) (.seq (.seq (.aN (oR 0 3 (.aA 2 false (fR 3 2) [1,3,6,8,11] [37,39]::.op 5 false::[]))) .nil) (.jX [(0,0,false),(1,0,false),(2,0,false),(3,0,false),(4,0,false),(5,2,false),(6,0,false),(7,2,false),(8,0,false)])))) .nil)) .nil))) 65 [.cell 6 46,.tmp 7]
def SM(c:AV)(h:aa)(K:AV→aa→Prop):Prop:=
 aV 74 c h fun b a=>bg 0 b fun d=>iFL 0 false 1 d a fun e=>ag .eql e (u8 1) fun f=>qKa f a (fun g=>bg 0 b fun i=>iFL 1 false 1 i a fun j=>iC p_ 101 [j,.str [111,102]] a g) fun k l=>K k l
def Zm(a:AV):fx p_ 175 [a] (SM a):=mkM Tryz.func175 (sn (.seq (.aN (oR 0 5 (.aA 4 true (fR 5 4) [] [7,11]::oR 9 2 []))) .nil)) 13 [.tmp 2]
def Sb(x j s:AV)(h:aa)(K:AV→aa→Prop):Prop:=
 aV 80 s h fun e t=>aV 46 (.agg [u8 0,.str [],u8 0,.str [],ff,i_ 0,i_ 0,ff,qNs]) t fun b u=>iC p_ 53 [] u fun v w=>iC p_ 76 [x] w fun y z=>iC p_ 143 [v,y] z fun f g=>qBe .lss f 5 fun A=>af A (aW (.agg [u8 0,.str [],u8 0,.str [],ff,i_ 0,i_ 0,ff,qNs]) [] fun B=>ao 9 b B g fun i=>ah true 9 b i fun r14=>K (.ay [r14,ff]) i) (cy .u8 f fun C=>ag .add (u8 4) C fun D=>aW (.agg [u8 0,.str [],u8 0,.str [],ff,i_ 0,i_ 0,ff,qNs]) [(0,1,D)] fun E=>aV 46 (.agg [u8 0,.str [],u8 0,.str [],ff,i_ 0,i_ 0,ff,qNs]) g fun a F=>ao 9 a E F fun c=>iFL 0 false 1 a c fun G=>ag .leq G (u8 10) fun H=>af H (ah true 9 a c fun I=>ah true 2 e c fun J=>iC p_ 144 [I,j,J] c fun k L=>aR 0 k fun M=>aR 1 k fun N=>ao 9 b M L fun l=>ah true 9 b l fun r31=>K (.ay [r31,N]) l) (ah true 2 e c fun O=>iFL 0 false 1 a c fun P=>iC p_ 110 [O,P] c fun m Q=>aR 0 m fun R=>aR 1 m fun S=>aV 80 (.agg [i_ 0,ff]) Q fun n T=>ao 2 n R T fun d=>cr S fun U=>af U (ah true 9 a d fun V=>ao 9 b V d fun o=>ah true 9 b o fun r45=>K (.ay [r45,ff]) o) (ah true 2 n d fun W=>iFL 0 false 1 a d fun X=>ag .eql X (u8 14) fun Y=>iFL 0 false 1 a d fun Z=>ag .leq Z (u8 12) fun a0=>iC p_ 32 [j,W,Y,a0] d fun p a1=>aR 0 p fun a2=>aR 1 p fun a3=>bg 8 a fun a4=>ao 1 a4 a2 a1 fun q=>ah true 9 a q fun a5=>ao 9 b a5 q fun r=>ah true 9 b r fun r61=>K (.ay [r61,a3]) r)))
def YQ(a b c:AV):fx p_ 107 [a,b,c] (Sb a b c):=mkM Tryz.func107 .nil 57 [.cell 6 46,.tmp 7]
def XE(b p e f:AV)(h:aa)(K:AV→aa→Prop):Prop:=
 aV 80 p h fun c q=>bq b fun r=>qBe .add r 1 fun d=>bN [qNs,i_ 0,i_ 0] q fun s a g =>
 ag .lss (nx a 2) d fun t=>af t (aG (fun k=>bq b fun u=>ag .lss (nx a 2) u fun v=>qJa v [b,e,f,c,nx a 0,nx a 1,nx a 2,d,nx a 2] g (fun w=>aI 6 b (nx a 2) fun x=>bg 0 x fun y=>iFL 0 false 1 y g fun z=>ag .neq z (u8 18) fun A=>w A g) fun B j=>af B (eC [b,e,f,c,d,nx a 2] (k [nx a 0,nx a 1] j)) (aG (fun l=>lr 6 b (some (nx a 1)) (some (nx a 2)) fun C=>ah true 2 c j fun D=>wT p_ (.fn (.func 46) [] []) [C,D,e] [] fun m=>aR 0 m fun E=>aR 1 m fun F=>aV 39 (.agg [u8 0,qNs,qNs]) j fun n G=>ao 3 n E G fun i=>af F (ah true 3 n i fun H=>bt 1 3 (.agg [u8 0,qNs,qNs]) [(0,3,H)] fun I=>bR false 39 3 56 (nx a 0) I i fun J L=>eC [b,e,f,c,nx a 2,d,nx a 2] (l [J] L)) (cr f fun M=>af M (K (.ay [qNs,ff]) i) (eC [b,e,f,c,nx a 2,d,nx a 2] (l [nx a 0] i)))) fun N O=>qBe .add (nx a 2) 1 fun P=>eC [b,e,f,c,d,nx a 2] (k [nx N 0,P] O))) fun o Q=>qBe .add (nx a 2) 1 fun R=>eC [b,e,f,c,d] (s [nx o 0,nx o 1,R] Q)) (K (.ay [nx a 0,tt]) g)
def V32(a b c d:AV):fx p_ 32 [a,b,c,d] (XE a b c d):=mkM Tryz.func32 (sn (sn (sn (.seq (sn (.one (.loop [0,2,3,5,17] [10,11,18] (sn (sn (.join [0,2,3,5,17,18] [10,11] (.one (sn (.seq (.seq (.aN (oR 0 5 (.aA 4 true (fR 5 7) [0,2,3,5,10,11,12,17,18] [25,32]::.op 12 false::[]))) .nil) (.join [0,2,3,5,12,17,18] [10] (.seq (.jX [(0,0,false),(1,0,false),(2,0,false),(3,0,false),(4,3,false),(5,0,false),(6,0,false),(7,0,false),(8,0,false),(9,0,false),(10,2,false),(11,2,false),(12,0,false)]) (sn (.two (.aN (oR 0 2 (.op 2 true::oR 3 2 []))) .nil))) .nil)))) .nil)))))) .nil)))) 55 [.tmp 8,.tmp 9]
def Xs(a:AV)(h:aa)(K:AV→aa→Prop):Prop:=
 iC p_ 31 [a] h fun b c=>qBe .neq b 0 fun i=>af i (K (.ay [qNs,b]) c) (aW (.agg [i_ 0,ff]) [] fun j=>iC p_ 32 [a,j,ff,ff] c fun d e=>aR 0 d fun f=>aR 1 d fun k=>cr k fun l=>af l (K (.ay [qNs,i_ 12]) e) (iC p_ 26 [f] e fun m g=>qBe .gtr m 64 fun n=>af n (K (.ay [qNs,i_ 4]) g) (K (.ay [f,i_ 0]) g)))
def V19(a:AV):fx p_ 19 [a] (Xs a):=mkM Tryz.func19 .nil 26 [.tmp 2,.tmp 3]
def W8(i:AV)(h:aa)(K:AV→aa→Prop):Prop:=
 iC p_ 17 [i] h fun a b=>aR 0 a fun j=>aR 1 a fun c=>qBe .neq c 0 fun k=>af k (K (.ay [qNs,c]) b) (iC p_ 18 [j] b fun d e=>aR 0 d fun l=>aR 1 d fun f=>qBe .neq f 0 fun m=>af m (K (.ay [qNs,f]) e) (iC p_ 19 [l] e fun g n=>aR 0 g fun o=>aR 1 g fun p=>K (.ay [o,p]) n))
def V8(a:AV):fx p_ 8 [a] (W8 a):=mkM Tryz.func8 .nil 27 [.tmp 2,.tmp 3]
def SN(a:AV)(h:aa)(K:AV→aa→Prop):Prop:=
 iC p_ 31 [a] h fun b c=>qBe .neq b 0 fun d=>af d (K (.ay [qNs,b]) c) (iC p_ 198 [qNs,a] c fun e f=>K (.ay [e,i_ 0]) f)
def Zn(a:AV):fx p_ 176 [a] (SN a):=mkM Tryz.func176 .nil 12 [.tmp 2,.tmp 3]
def SS(m b:AV)(h:aa)(K:AV→aa→Prop):Prop:=
 bq b fun c=>bN [m,i_ 0] h fun n a e =>
 ag .lss (nx a 1) c fun o=>af o (aG (fun g=>aI 6 b (nx a 1) fun p=>ah true 6 p e fun q=>aV 74 (.agg [u8 0,.str [],i_ 0,.str [],ff,qNs]) e fun d r=>ao 6 d q r fun i=>iFL 0 true 5 d i fun s=>bt 1 5 (.agg [u8 0,.str [],i_ 0,.str [],ff]) [(0,5,s)] fun t=>bR false 70 5 56 (nx a 0) t i fun j k=>bg 0 d fun u=>iFL 0 false 1 u k fun v=>iC p_ 30 [v] k fun l f=>ag .neq l (u8 0) fun w=>af w (iFL 5 false 1 d f fun x=>iC p_ 198 [j,x] f fun y z=>aW (.agg [u8 0,.str [],i_ 0,.str [],ff]) [(0,1,l)] fun A=>bt 1 5 (.agg [u8 0,.str [],i_ 0,.str [],ff]) [(0,5,A)] fun B=>bR false 70 5 56 y B z fun C D=>eC [b,c,nx a 1] (g [C] D)) (eC [b,c,nx a 1] (g [j] f))) fun E F=>qBe .add (nx a 1) 1 fun G=>eC [b,c] (n [nx E 0,G] F)) (K (nx a 0) e)
def Zs(a b:AV):fx p_ 198 [a,b] (SS a b):=mkM Tryz.func198 (sn (.seq (sn (.one (.loop [8,9] [0,10] (sn (sn (.join [8,9,10] [0] (.one (sn (.seq (.aN (oR 0 3 (.op 3 true::oR 4 2 []))) (sn (sn (.two (.aN (oR 0 6 (.op 6 true::oR 7 2 []))) .nil)))))) .nil)))))) .nil)) 35 [.tmp 4]
def SU(a:AV)(h:aa)(K:AV→aa→Prop):Prop:=
 bN [] h fun d r b =>
 qLd p_ a 0 b fun e=>bq e fun f=>qBe .gtr f 0 fun g=>qJa g [a] b (fun i=>qLd p_ a 0 b fun j=>aI 5 j (i_ 0) fun k=>iFL 0 false 1 k b fun l=>ag .eql l (u8 13) fun m=>i m b) fun n c=>af n (qLd p_ a 0 c fun o=>lr 5 o (some (i_ 1)) none fun p=>qSt p_ a 0 p c fun q=>eC [a] (d [] q)) (K (.ay []) c)
def Zt(a:AV):Body p_ 199 [a] (SU a):=bC Tryz.func199 (.one (.loop [0] [] (.seq (.seq (.aN (oR 0 7 (.aA 6 true (fR 7 8) [0] [8,16]::.op 15 false::[]))) .nil) .nil))) 26 []
def MD(a r:AV)(h:aa)(K:AV→aa→Prop):Prop:=
 aV 70 (.agg [u8 0,.str [],i_ 0,.str [],ff]) h fun b c=>qLd p_ a 0 c fun k=>bq k fun l=>qBe .eql l 0 fun m=>qJo m [a,b] c (fun n=>qLd p_ a 0 c fun o=>aI 5 o (i_ 0) fun p=>iFL 0 false 1 p c fun q=>ag .neq q r fun s=>n s c) fun t d=>af t (aW (.agg [u8 0,.str [],i_ 0,.str [],ff]) [] fun u=>ao 5 b u d fun e=>ah true 5 b e fun r21=>K (.ay [r21,ff]) e) (qLd p_ a 0 d fun v=>aI 5 v (i_ 0) fun w=>ah true 5 w d fun x=>aV 70 (.agg [u8 0,.str [],i_ 0,.str [],ff]) d fun f y=>ao 5 f x y fun g=>qLd p_ a 0 g fun z=>lr 5 z (some (i_ 1)) none fun A=>qSt p_ a 0 A g fun i=>ah true 5 f i fun B=>ao 5 b B i fun j=>ah true 5 b j fun r39=>K (.ay [r39,tt]) j)
def R4(a b:AV):Body p_ 215 [a,b] (MD a b):=bC Tryz.func215 (sn (.seq (.seq (.aN (oR 0 7 (.aA 6 false (fR 7 9) [0,4] [13,22]::.op 16 false::[]))) .nil) .nil)) 40 [.cell 4 70,.tmp 5]
def IM(a:AV)(h:aa)(K:AV→aa→Prop):Prop:=
 qLd p_ a 0 h fun f=>bq f fun g=>qBe .eql g 0 fun i=>qJo i [a] h (fun j=>qLd p_ a 0 h fun k=>aI 5 k (i_ 0) fun l=>iFL 0 false 1 l h fun m=>ag .neq m (u8 9) fun n=>j n h) fun o c=>af o (K (i_ 0) c) (qLd p_ a 0 c fun p=>aI 5 p (i_ 0) fun q=>iFL 1 false 1 q c fun r=>iC p_ 60 [.str [45,32,43],r] c fun s b=>qBe .sub s 1 fun e=>qLd p_ a 0 b fun t=>aI 5 t (i_ 0) fun u=>iFL 1 false 1 u b fun v=>ag .eql v (.str [43]) fun w=>qJo w [a,e] b (fun x=>qLd p_ a 0 b fun y=>aI 5 y (i_ 0) fun z=>iFL 1 false 1 z b fun A=>ag .eql A (.str [45]) fun B=>x B b) fun C d=>af C (qLd p_ a 0 d fun D=>lr 5 D (some (i_ 1)) none fun E=>qSt p_ a 0 E d fun F=>K e F) (K (i_ 0) d))
def MA(a:AV):Body p_ 218 [a] (IM a):=bC Tryz.func218 (sn (.seq (.seq (.aN (oR 0 7 (.aA 6 false (fR 7 8) [0] [10,18]::.op 15 false::[]))) .nil) (sn (.seq (.seq (.aN (oR 0 9 (.aA 8 false (fR 9 8) [0,3] [37,45]::.op 17 false::[]))) .nil) .nil)))) 56 [.tmp 2]
def SX(m:AV)(h:aa)(K:AV→aa→Prop):Prop:=
 iC p_ 215 [m,u8 10] h fun c n=>aR 0 c fun o=>aR 1 c fun d=>aV 70 (.agg [u8 0,.str [],i_ 0,.str [],ff]) n fun b p=>ao 5 b o p fun a=>iFL 2 false 1 b a fun q=>qBe .quo q 1000 fun r=>aG (fun e=>aM d true (bg 4 b fun f=>ah false 1 f a fun s=>e [f,s] a) (e [un,un] a)) fun t _=>bQ d (nx t 1) ff fun g=>aG (fun i=>aM g true (bg 2 b fun j=>ah false 1 j a fun k=>qBe .rem k 1000 fun l=>qBe .eql l 0 fun u=>i [j,k,l,u] a) (i [un,un,un,un] a)) fun v _=>bQ g (nx v 3) ff fun w=>K (.ay [r,w]) a
def Zw(a:AV):Body p_ 214 [a] (SX a):=bC Tryz.func214 (sn (sn (.seq (.draw 16 (oR 0 5 (.aA 4 true (fR 5 2) [] [16,17]::oR 7 2 (.aA 8 true (fR 9 4) [] [20,21,22,23]::oR 13 3 []))) [] []) .nil))) 25 [.tmp 2,.tmp 3]
def SY(a b:AV)(h:aa)(K:AV→aa→Prop):Prop:=
 aG (fun i=>ag .eql b (.str [45]) fun u=>af u (eC [a] (i [i_ (-1)] h)) (ag .neq b (.str []) fun v=>af v (iC p_ 216 [b,.str [45]] h fun j k=>aR 0 j fun c=>aR 1 j fun w=>cr w fun x=>qJo x [c] k (fun y=>iC p_ 228 [c,.str [48,49,50,51,52,53,54,55,56,57]] k fun z A=>ag .neq z (.str []) fun B=>y B A) fun C l=>af C (K (.ay [i_ 0,ff]) l) (iC p_ 229 [c,i_ 10,i_ 64] l fun m n=>aR 0 m fun d=>aR 1 m fun D=>aG (fun o=>kI true (vv D) fun E=>qJo E [d] n (fun F=>qBe .gtr d 1000000000 fun G=>F G n) fun H p=>af H (o [i_ 1000000000] p) (o [d] p)) fun I J=>oX (nx I 0) fun L=>K (.ay [L,tt]) J)) (iC p_ 199 [a] h fun Y e=>qLd p_ a 0 e fun M=>bq M fun N=>qBe .eql N 0 fun O=>af O (K (.ay [i_ 0,tt]) e) (iC p_ 218 [a] e fun P Q=>eC [a] (i [P] Q))))) fun q R=>iC p_ 199 [a] R fun Z S=>iC p_ 214 [a] S fun r f=>aR 0 r fun g=>aR 1 r fun s=>qBe .eql (nx q 0) 0 fun T=>af T (K (.ay [g,s]) f) (ag .mul (nx q 0) g fun t=>qJa s [t] f (fun U=>qBe .geq g 0 fun V=>U V f) fun W X=>K (.ay [t,W]) X)
def Zx(a b:AV):Body p_ 217 [a,b] (SY a b):=bC Tryz.func217 (sn (sn (.join [0] [6] (.one (sn (.two .nil (sn (.two (sn (.seq (.seq (.aN (oR 0 3 (.aA 2 false (fR 3 3) [7] [36,39]::.op 6 false::[]))) .nil) (sn (.join [] [9] (.seq (.aN (oR 0 3 (.aA 2 false (fR 3 2) [9] [48,50]::.op 5 false::[]))) .nil) .nil)))) .nil))))) (sn (sn (sn (.seq (.aN (oR 0 5 (.aA 4 true (fR 5 2) [67] [69,71]::oR 7 3 []))) .nil))))))) 73 [.tmp 4,.tmp 5]
def SV(b:AV)(h:aa)(K:AV→aa→Prop):Prop:=
 aV 44 (.agg [i_ 0,i_ 0]) h fun a M=>iC p_ 214 [b] M fun o p=>aR 0 o fun N=>aR 1 o fun O=>af O (aW (.agg [i_ 0,i_ 0]) [(1,1,N)] fun P=>ao 2 a P p fun q=>ah true 2 a q fun r9=>K (.ay [r9,tt]) q) (iC p_ 215 [b,u8 12] p fun r Q=>aR 0 r fun R=>aR 1 r fun S=>aV 70 (.agg [u8 0,.str [],i_ 0,.str [],ff]) Q fun c T=>ao 5 c R T fun f=>af S (iFL 3 false 1 c f fun U=>iC p_ 76 [U] f fun V W=>iC p_ 216 [V,.str [110]] W fun s g=>aR 0 s fun i=>aR 1 s fun X=>cr X fun Y=>qJo Y [b,a,c,i] g (fun Z=>iFL 4 false 1 c g fun a0=>cr a0 fun a1=>Z a1 g) fun a2 j=>qJo a2 [b,a,c,i] j (fun a3=>iFL 2 false 1 c j fun a4=>qBe .rem a4 1000 fun a5=>qBe .neq a5 0 fun a6=>a3 a6 j) fun a7 t=>af a7 (aW (.agg [i_ 0,i_ 0]) [] fun a8=>ao 2 a a8 t fun u=>ah true 2 a u fun r43=>K (.ay [r43,ff]) u) (iC p_ 217 [b,i] t fun v w=>aR 0 v fun a9=>aR 1 v fun b0=>iFL 2 false 1 c w fun b1=>qBe .quo b1 1000 fun b2=>aW (.agg [i_ 0,i_ 0]) [(0,1,b2),(1,1,a9)] fun b3=>ao 2 a b3 w fun x=>ah true 2 a x fun r53=>K (.ay [r53,b0]) x)) (iC p_ 218 [b] f fun k b4=>iC p_ 215 [b,u8 1] b4 fun y b5=>aR 0 y fun b6=>aR 1 y fun b7=>aV 70 (.agg [u8 0,.str [],i_ 0,.str [],ff]) b5 fun l b8=>ao 5 l b6 b8 fun z=>cr b7 fun b9=>qJo b9 [b,a,k,l] z (fun c0=>qBe .lss k 0 fun c1=>c0 c1 z) fun c2 m=>af c2 (aW (.agg [i_ 0,i_ 0]) [] fun c3=>ao 2 a c3 m fun A=>ah true 2 a A fun r71=>K (.ay [r71,ff]) A) (iFL 1 false 1 l m fun c4=>iC p_ 76 [c4] m fun d e=>aG (fun n=>qBe .eql k 0 fun c5=>af c5 (ag .eql d (.str [111,100,100]) fun c6=>af c6 (aW (.agg [i_ 0,i_ 0]) [(0,1,(i_ 2)),(1,1,(i_ 1))] fun c7=>ao 2 a c7 e fun B=>ah true 2 a B fun r81=>K (.ay [r81,tt]) B) (ag .eql d (.str [101,118,101,110]) fun c8=>af c8 (aW (.agg [i_ 0,i_ 0]) [(0,1,(i_ 2))] fun c9=>ao 2 a c9 e fun C=>ah true 2 a C fun r85=>K (.ay [r85,tt]) C) (iC p_ 216 [d,.str [45]] e fun D E=>aR 0 D fun d0=>aR 1 D fun d1=>af d1 (eC [b,a] (n [d0,i_ (-1)] E)) (eC [b,a] (n [d,i_ 1] E))))) (eC [b,a] (n [d,i_ 1] e))) fun F d2=>iC p_ 216 [nx F 0,.str [110]] d2 fun G H=>aR 0 G fun d3=>aR 1 G fun d4=>cr d4 fun d5=>af d5 (aW (.agg [i_ 0,i_ 0]) [] fun d6=>ao 2 a d6 H fun I=>ah true 2 a I fun r99=>K (.ay [r99,ff]) I) (iC p_ 217 [b,d3] H fun J d7=>aR 0 J fun d8=>aR 1 J fun d9=>aW (.agg [i_ 0,i_ 0]) [(0,1,(nx F 1)),(1,1,d8)] fun e0=>ao 2 a e0 d7 fun L=>ah true 2 a L fun r106=>K (.ay [r106,d9]) L))))
def Zu(a:AV):Body p_ 200 [a] (SV a):=bC Tryz.func200 (sn (sn (.seq (sn (sn (.two (sn (.seq (.seq (.aN (oR 0 3 (.aA 2 false (fR 3 3) [0,2,6,8] [46,49]::oR 6 2 (.aA 7 false (fR 8 4) [0,2,6,8] [51,55]::.op 12 false::[])))) .nil) .nil)) .nil))) (sn (sn (.seq (.seq (.aN (oR 0 3 (.aA 2 false (fR 3 2) [0,2,12,13] [79,81]::.op 5 false::[]))) .nil) (sn (.join [0,2] [15,16] .nil .nil)))))))) 121 [.cell 2 44,.tmp 3]
def SO(l:AV)(h:aa)(K:AV→aa→Prop):Prop:=
 aV 44 (.agg [i_ 0,i_ 0]) h fun a k=>aW (.agg [qNs]) [(0,1,l)] fun m=>aV 261 m k fun c n=>iC p_ 199 [c] n fun I o=>iC p_ 200 [c] o fun g p=>aR 0 g fun q=>aR 1 g fun r=>aV 44 (.agg [i_ 0,i_ 0]) p fun b s=>ao 2 b q s fun t=>iC p_ 199 [c] t fun J d=>cr r fun u=>qJo u [a,b] d (fun v=>qLd p_ c 0 d fun w=>bq w fun x=>qBe .gtr x 0 fun y=>v y d) fun z e=>qJo z [a,b] e (fun A=>ah true 2 b e fun B=>iC p_ 86 [B] e fun C D=>qBe .neq C 0 fun E=>A E D) fun F f=>af F (aW (.agg [i_ 0,i_ 0]) [] fun G=>ao 2 a G f fun i=>ah true 2 a i fun r37=>K (.ay [r37,i_ 12]) i) (ah true 2 b f fun H=>ao 2 a H f fun j=>ah true 2 a j fun r40=>K (.ay [r40,i_ 0]) j)
def Zo(a:AV):Body p_ 177 [a] (SO a):=bC Tryz.func177 (sn (sn (sn (sn (sn (.seq (.seq (.aN (oR 0 3 (.aA 2 false (fR 3 6) [2,5] [21,27]::oR 9 2 (.aA 10 false (fR 11 3) [2,5] [29,32]::.op 14 false::[])))) .nil) .nil)))))) 36 [.cell 2 44,.tmp 3]
end
section
open Go Go.Aw Go.RowKit
abbrev mT(l:List Tok):aK:=.ak ⟨261,[.sl 5 (cT l)],true⟩
def Rd(id:Nat)(h:aa)(l:List Tok):Prop:=h[id]?=some (mT l)
def Rd.lt{id:Nat}(r:Rd id h l):id<h.length:=(eQ.1 r).1
def Rd.set{id:Nat}(r:Rd id h l)(m:List Tok):Rd id (h.set id (mT m)) m:=iD r.lt
def Rd.app{id:Nat}(r:Rd id h l)(j:aa):Rd id (h++j) l:=by
 unfold Rd;rw[gO r.lt];exact r
def Mr(id:Nat)(l:List Tok)(h h':aa):Prop:=∃j,h'=h.set id (mT l)++j
def Mr.len{id:Nat}(g:Mr id l h h'):h.length≤h'.length:=by obtain⟨j,rfl⟩:=g;simp
def Mr.rd{id:Nat}(r:Rd id h l0)(g:Mr id l h h'):Rd id h' l:=by
 obtain⟨j,rfl⟩:=g;exact (r.set l).app j
def Mr.trans{id:Nat}(hl:id<h.length)(x:Mr id l h h')(y:Mr id m h' h''):Mr id m h h'':=by
 obtain⟨j,rfl⟩:=x;obtain⟨k,rfl⟩:=y;exact⟨j++k,by rw[IN _ _ (by simpa using hl),aa0,To]⟩
def Mr.other{id:Nat}(g:Mr id l h h')(hi:i<h.length)(hne:i≠id):h'[i]?=h[i]?:=by
 obtain⟨j,rfl⟩:=g;rw[gO (by simpa using hi),iF (Ne.symm hne)]
def Mr.set(id:Nat)(l:List Tok)(h:aa):Mr id l h (h.set id (mT l)):=⟨[],by simp⟩
def Mr.tail{id:Nat}(g:Mr id l h h')(k:aa):Mr id l h (h'++k):=by
 obtain⟨j,rfl⟩:=g;exact⟨j++k,by rw[To]⟩
def Mr.refl{id:Nat}(r:Rd id h l):Mr id l h h:=⟨[],by rw[ku r];simp⟩
def Mr.vN{id T:Nat}(m:Mr id l h H)(hT:h.length≤T)(e:aK):Mr id l h (H.set T e):=by
 obtain⟨j,rfl⟩:=m;exact⟨j.set (T-h.length) e,by rw[IF _ _ (by simpa using hT)];simp⟩
def Mr.new{id:Nat}(hid:id<h.length)(m:Mr id l (h++k) H):Mr id l h H:=by
 obtain⟨j,rfl⟩:=m;exact⟨k++j,by rw[IN _ _ hid,To]⟩
def FZ{K:AV→Prop}(ex:x=.v (.int k a))(ey:y=.v (.int k b))(h0:b≠0)(hc:a.tmod b=c)(q:K (.v (.int k c))):ag .rem x y K:=by
 subst ex;subst ey;subst hc;exact⟨rfl,h0,q⟩
def FY{K:AV→Prop}(ex:x=.v (.int k a))(ey:y=.v (.int k b))(h0:b≠0)(hc:k.wrap (a.tdiv b)=c)(q:K (.v (.int k c))):ag .quo x y K:=by
 subst ex;subst ey;subst hc;exact⟨rfl,h0,q⟩
def tN{K:AV→Prop}(ex:x=.sl 5 (cT (t:: l)))(q:K (.ip t.row)):aI 5 x (i_ 0) K:=by
 refine Vw (n:=0) ex rfl (by simp) ?_;exact q
def MF{K:AV→Prop}(ex:x=.sl 5 (cT (t:: l)))(q:K (.sl 5 (cT l))):lr 5 x (some (i_ 1)) none K:=by
 refine VM ex (by simp) ?_;exact q
def Pp(k:Int):List Tok→Prop
 | []=>True
 | t:: _=>t.k≠k
variable [Laid]
theorem NW{id:Nat}{sp l:List Tok}{K:AV→aa→Prop}(r:Rd id h (sp++l))(ex:x=.op id 0)(hs:∀t∈sp,t.k=13)(hl:Pp 13 l)(hn:sp.length+l.length≤2^20)(k:K (.ay []) (h.set id (mT l))):
 bx p_ (.fn (.func 199) [] []) [x] h K:=by
 subst ex;refine cB (by kernel_rfl) rfl (K0:=fun v h' => v=.ay []∧h'=h.set id (mT l)) ?_ ?_
 ·refine (Zt _).bJ ?_;unfold SU;refine aZ (α:=List Tok×List Tok) (fun x=>sp=x.1++x.2) (fun _=>[]) (fun x=>h.set id (mT (x.2++l))) (fun x=>x.2.length) ([],sp) rfl (by rw[ku r];exact Wk.refl _ _ _ (bY _)) ?_;rintro⟨p,q⟩ e;have e:sp=p++q:=e;have r':=r.set (q++l);show ca _ _ _;refine bA (zzA (zzU r' rfl (qg rfl (zzE (aF ?_)))));cases q with
  | cons t q =>
    have ht:t.k=13:=hs t (by rw[e];simp);refine zzN (oF (by simp<;>omega)) (bA (zzA (zzU r' rfl (tN rfl (zzX (zzW (zzG (aq (zzR (zzL (oF ht) (bA (zzA (zzU r' rfl ?_)))))))))))));refine MF rfl (bA (zzA (aU (cs:=[.sl 5 (cT (q++l))]) (h':=h.set id (mT (q++l))) rfl r' rfl rfl (by simp) rfl rfl (by rw[aa0];rfl) (aq ?_))));exact⟨(p++[t],q),by rw[e];simp,Wk.refl _ _ _ (by simp),by simp⟩
  | nil =>
    have fin:∃r' h'',Wk h.length [AV.ay []] (h.set id (mT ([]++l))) [r'] h''∧r'=.ay []∧h''=h.set id (mT l):=⟨_,_,Wk.refl _ _ _ (by simp),rfl,rfl⟩;cases l with
    | nil =>
      refine zzM rfl (aq (zzQ (zzK rfl ?_)));exact fin
    | cons t l =>
      refine zzN (oF (by simp<;>omega)) (bA (zzA (zzU r' rfl (tN rfl (zzX (zzW (zzG (aq (zzR (zzK (nO hl) ?_))))))))));exact fin
 ·rintro _ _ ⟨rfl,rfl⟩;exact k
def QH{id:Nat}{kd:Int}{K:AV→aa→Prop}(r:Rd id h (t:: l))(ex:x=.op id 0)(ht:t.k=kd)(hn:l.length≤2^20)(k:∀H,Mr id l h H→K (.ay [t.av,tt]) H):
 bx p_ (.fn (.func 215) [] []) [x,u8 kd] h K:=by
 subst ex;have hid:=r.lt;refine cB (by kernel_rfl) rfl (K0:=fun v h' => v=.ay [t.av,tt]∧Mr id l h h') ?_ ?_
 ·refine (R4 _ _).bJ ?_;unfold MD;refine bT (cs:=[u8 0,.str [],i_ 0,.str [],ff]) (n:=h.length) (h':=h++[cx 0 [] 0 [] false]) rfl (by simp[bG]) rfl rfl ?_;have r2:=r.app [cx 0 [] 0 [] false];have hV:(h++[cx 0 [] 0 [] false])[h.length]?=some (cx 0 [] 0 [] false):=by simp
  have hL:(h++[cx 0 [] 0 [] false]).length=h.length+1:=by simp
  have m0:∀{H m},Mr id m (h++[cx 0 [] 0 [] false]) H→Mr id m h H:=fun m=>m.new hid;generalize h++[cx 0 [] 0 [] false]=H at r2 hV hL m0;refine bA (zzA (zzU r2 rfl (qg rfl (zzG (aF (zzN (nO (by simp<;>omega)) (bA (zzA (zzU r2 rfl (tN rfl (zzX (zzW (zzH ?_)))))))))))));refine aq (zzQ (zzK (by simp[ht]) (bA (zzA (zzU r2 rfl (tN rfl (zzY rfl (bT (cs:=[u8 0,.str [],i_ 0,.str [],ff]) (n:=H.length) (h':=H++[cx 0 [] 0 [] false]) rfl (by simp[bG]) rfl rfl (aU (cs:=t.row) (h':=H++[aK.ak ⟨70,t.row,true⟩]) rfl (b:=⟨70,[u8 0,.str [],i_ 0,.str [],ff],true⟩) (by simp) rfl rfl (by simp) rfl (by simp[bG]) (by rw[IF _ _ (bY _)];simp) ?_)))))))));have r3:=r2.app [aK.ak ⟨70,t.row,true⟩];refine bA (zzA (zzU r3 rfl (MF rfl (bA (zzA (aU (cs:=[.sl 5 (cT l)]) (h':=(H++[aK.ak ⟨70,t.row,true⟩]).set id (mT l)) rfl r3 rfl rfl (by simp) rfl rfl rfl ?_))))));refine zzV (b:=⟨70,t.row,true⟩) (by rw[iF (by omega)];simp) (by simp) ?_;refine qP (k:=t.k) (t:=t.t) (n:=t.n) (u:=t.u) (f:=t.f) (K:=fun r39 g38=>∃r' h'',Wk h.length [.ay [r39,tt]] g38 [r'] h''∧r'=.ay [t.av,tt]∧Mr id l h h'') (k0:=0) (t0:=[]) (n0:=0) (u0:=[]) (f0:=false) (by rw[iF (by omega),gO (by omega)];exact hV) ?_;have m1:Mr id l h ((H++[aK.ak ⟨70,t.row,true⟩]).set id (mT l)):=m0 ⟨[aK.ak ⟨70,t.row,true⟩],by rw[IN _ _ (by omega)]⟩;exact⟨_,_,Wk.refl _ _ _ (by simp;omega),rfl,m1.vN (bY _) _⟩
 ·rintro _ H ⟨rfl,m⟩;exact k H m
theorem HA{id:Nat}{kd:Int}{K:AV→aa→Prop}(r:Rd id h l)(ex:x=.op id 0)(ht:Pp kd l)(hn:l.length≤2^20)(k:∀H,Mr id l h H→K (.ay [vY 0 [] 0 [] false,ff]) H):
 bx p_ (.fn (.func 215) [] []) [x,u8 kd] h K:=by
 subst ex;have hid:=r.lt;refine cB (by kernel_rfl) rfl (K0:=fun v h' => v=.ay [vY 0 [] 0 [] false,ff]∧Mr id l h h') ?_ ?_
 ·refine (R4 _ _).bJ ?_;unfold MD;refine bT (cs:=[u8 0,.str [],i_ 0,.str [],ff]) (n:=h.length) (h':=h++[cx 0 [] 0 [] false]) rfl (by simp[bG]) rfl rfl ?_;have r2:=r.app [cx 0 [] 0 [] false];have hV:(h++[cx 0 [] 0 [] false])[h.length]?=some (cx 0 [] 0 [] false):=by simp
  have m1:Mr id l h (h++[cx 0 [] 0 [] false]):=(Mr.refl r).tail _;have fin:ao 5 (.op h.length 0) (vY 0 [] 0 [] false) (h++[cx 0 [] 0 [] false]) fun g20=>ah true 5 (.op h.length 0) g20 fun r21=>∃r' h'',Wk h.length [.ay [r21,ff]] g20 [r'] h''∧r'=.ay [vY 0 [] 0 [] false,ff]∧Mr id l h h'':=by
   refine qP hV ?_;exact⟨_,_,Wk.refl _ _ _ (by simp),rfl,m1.vN (bY _) _⟩
  refine bA (zzA (zzU r2 rfl (qg rfl (zzG (aF ?_)))));cases l with
  | nil =>
    refine zzM rfl (aq (zzR (zzL rfl (ba rfl ?_))));exact fin
  | cons t l =>
    refine zzN (nO (by simp<;>omega)) (bA (zzA (zzU r2 rfl (tN rfl (zzX (zzW (zzH (aq (zzQ ?_)))))))));have ht:¬t.k=kd:=ht;refine zzL (by simp[ht]) (ba rfl ?_);exact fin
 ·rintro _ H ⟨rfl,m⟩;exact k H m
end
section
open Go Go.Aw Go.RowKit
def EE(l:ae):∀a,a≤l.foldl (fun n b=>10*n+oM b) a:=by
 induction l with
 | nil=>intro a;exact bY _
 | cons b l ih=>intro a;rw[List.foldl_cons];exact aa7 (by omega) (ih _)
theorem yF:∀(l:ae) (a:Nat),(∀b∈l,48≤b.toNat∧b.toNat≤57)→a≤2^64-1→Lib.parseUintM (2^64-1) a l=if l.foldl (fun n b=>10*n+oM b) a≤2^64-1 then .ok (l.foldl (fun n b=>10*n+oM b) a) else .range
 | [],a,_,ha=>by rw[Lib.parseUintM,List.foldl_nil,if_pos ha]
 | b:: l,a,hd,ha=>by
   have hb:=hd b (abn ..);rw[List.foldl_cons];have hg:=EE l (10*a+oM b);have e:a*10+(b.toNat-48)=10*a+oM b:=by unfold oM;omega
   rw[Lib.parseUintM,if_pos hb,e]
   by_cases h1:1844674407370955162≤a
   ·rw[if_pos h1,if_neg (by omega)]
   ·rw[if_neg h1]
    by_cases h2:2^64-1<10*a+oM b
    ·rw[if_pos h2,if_neg (by omega)]
    ·rw[if_neg h2];exact yF l _ (fun x hx=>hd x (Lt _ hx)) (by omega)
def Gy(hd:qk d):Lib.parseIntB 64 d=if im d<2^63 then .ok (im d) else .range:=by
 obtain⟨hn,hd⟩:=hd;cases d with
 | nil=>exact absurd rfl hn
 | cons c r =>
   have hc:=hd c (abn ..);unfold Lib.parseIntB;have h1:¬(c.toNat=43∨c.toNat=45):=by omega
   have h2:¬c.toNat=45:=by omega
   simp only[if_neg h1];unfold Lib.parseUintB;rw[if_neg hn,yF (c:: r) 0 hd (by omega)];have h4:(c:: r).foldl (fun n b=>10*n+oM b) 0=im (c:: r):=rfl;rw[h4]
   by_cases h3:im (c:: r)<2^63
   ·rw[if_pos (by omega),if_pos h3];simp only[h2];rw[if_neg (by omega)];simp
   ·rw[if_neg h3]
    by_cases h5:im (c:: r)≤2^64-1
    ·rw[if_pos h5];simp only[h2];rw[if_pos ⟨by simp,by omega⟩]
    ·rw[if_neg h5]
theorem drop_nil{p:UInt8→Bool}:∀{l:ae},l.dropWhile p=[]→∀b∈l,p b=true
 | [],_,b,hb=>by cases hb
 | x:: l,h,b,hb=>by
   rw[List.dropWhile_cons]at h
   by_cases q:p x=true
   ·rw[if_pos q]at h;rcases ID.1 hb with rfl|hb
    ·exact q
    ·exact drop_nil h b hb
   ·rw[if_neg q]at h;cases h
def OG(h:Lib.trimS d jN=[]):∀b∈d,48≤b.toNat∧b.toNat≤57:=by
 unfold Lib.trimS Lib.trimRightS Lib.trimLeftS at h;have hin:∀b:UInt8,jN.contains b=true→48≤b.toNat∧b.toNat≤57:=fun b hb=>by
  have:b∈jN:=by simpa using hb
  simp[jN]at this;rcases this with rfl|rfl|rfl|rfl|rfl|rfl|rfl|rfl|rfl|rfl<;>decide
 have hall:=drop_nil h;have hnil:d.reverse.dropWhile (fun x=>jN.contains x)=[]:=by
  cases e:d.reverse.dropWhile (fun x=>jN.contains x) with
  | nil=>rfl
  | cons x r =>
    have h1:=hall x (by rw[e];simp);have h2:=List.head_dropWhile_not (fun x=>jN.contains x) (l:=d.reverse) (by rw[e];simp);simp only[e,List.head_cons]at h2;rw[h1]at h2;cases h2
 intro b hb;exact hin b (drop_nil hnil b (by simpa using hb))
variable [bp]
def Dw(l:ae)(hl:l.length≤2^31)(h:Lib.parseIntB 64 l=.range):bn p_ 229 [.str l,i_ 10,i_ 64] (.ay [i_ (Lib.intSat 64 l),.ib 296 .any]):=by
 refine⟨by simp[aO],by simp[aO,Aw.Pure], ?_⟩;intro base ι S w vs h1 h2;have hg:=(h2.gl 7 [.v bp.er] rfl).1.get 0 (.v bp.er) rfl;obtain⟨u,hu,_,hr⟩:=hg;rw[cz]at hr;subst hr;rw[aa4]at hu
 match vs,h1 with
 | [],h1=>simp at h1
 | [v],h1=>simp at h1
 | [v,u],h1=>simp at h1
 | v:: u:: x:: y:: vs,h1=>simp at h1
 | [v,u,x],h1 =>
   simp only[bP,dt,and_true,eF,cz]at h1;obtain⟨⟨rfl,_⟩,rfl,rfl⟩:=h1;refine (Any.strconv_ParseInt_10_at64_range laysC174 ⟨l.toArray⟩ (by simp[ByteArray.size];omega) (by simpa using h) bp.er w hu bp.TB).mono ?_;rintro e w' ⟨N,rfl,_,_,hB⟩;have hE:bS ι.length w.heap.size ι S w ι S w':=⟨fun _ _=>fX.refl _,fun _ _ q=>q,fun _ _ q=>.inl q,fun b o q=>hB.cell (h2.iK b o q),fun b x hx=>by
    unfold World.shape? at hx ⊢;have hb:b<w.heap.size:=by
     rcases uP b w.heap.size with k|k
     ·exact k
     ·rw[aby k]at hx;cases hx
    rw[hB.block b hb];exact hx,hB⟩
   refine⟨_,ι,S,_,[],rfl,hE.mono (by rw[h2.len];exact bY _) h2.kC, ?_,h2.over hE (fun b o q=>Up (h2.iK b o q) hB.size),bY _,rfl⟩;simp[ar]
   kernel_rfl
end
section
open Go Go.Aw Go.RowKit
def I7[Laid](s:ae)(c:UInt8):bn p_ 60 [.str s,.str [c]] (i_ (Lib.indexByte s c)):=by
 refine iy (v:=.int .i64 (Lib.indexByte s c)) (by simp[aO]) (by simp) (by simp) (fun w=>by simp) ?_;intro ι S w vs h1 hg
 match vs,h1 with
 | [],h1=>simp at h1
 | [v],h1=>simp at h1
 | v:: u:: x:: vs,h1=>simp at h1
 | [v,u],h1 =>
   simp only[bP,dt,and_true,eF]at h1;obtain⟨⟨rfl,_⟩,rfl,_⟩:=h1;refine (Any.strings_Index_one lays143 ⟨s.toArray⟩ c w).mono ?_;rintro e w' ⟨rfl,rfl⟩;exact⟨rfl,Below.refl _ _⟩
theorem Hy[Laid]{id:Nat}{K:AV→aa→Prop}(r:Rd id h l)(ex:x=.op id 0)(ht:Pp 9 l)(k:K (i_ 0) h):
 bx p_ (.fn (.func 218) [] []) [x] h K:=by
 subst ex;refine cB (by kernel_rfl) rfl (K0:=fun v h' => v=i_ 0∧h'=h) ?_ ?_
 ·refine (MA _).bJ ?_;unfold IM;have fin:∃r' h'',Wk h.length [i_ 0] h [r'] h''∧r'=i_ 0∧h''=h:=⟨_,_,Wk.refl _ _ _ (bY _),rfl,rfl⟩;refine bA (zzA (zzU r rfl (qg rfl (zzG (aF ?_)))));cases l with
  | nil =>
    refine zzM rfl (aq (zzR (zzL rfl ?_)));exact fin
  | cons t l =>
    refine zzN (nO (by simp<;>omega)) (bA (zzA (zzU r rfl (tN rfl (zzX (zzW (zzH (aq (zzQ ?_)))))))));have ht:¬t.k=9:=ht;refine zzL (by simp[ht]) ?_;exact fin
 ·rintro _ _ ⟨rfl,rfl⟩;exact k
def Hz[Laid]{id:Nat}{K:AV→aa→Prop}(r:Rd id h (⟨9,[c],n,u,f⟩:: l))(ex:x=.op id 0)(hc:c=43∨c=45)(k:K (i_ (if c=43 then 1 else -1)) (h.set id (mT l))):
 bx p_ (.fn (.func 218) [] []) [x] h K:=by
 subst ex;refine cB (by kernel_rfl) rfl (K0:=fun v h' => v=i_ (if c=43 then 1 else -1)∧h'=h.set id (mT l)) ?_ ?_
 ·refine (MA _).bJ ?_;unfold IM;have hd:∀{K:AV→Prop},K (.str [c])→ca p_ (.op id 0) fun v17=>bg 0 v17 fun v18=>ah false 1 v18 h fun v19=>aI 5 v19 (i_ 0) fun v20=>bg 1 v20 fun v21=>ah false 1 v21 h K:=by
   intro K q;refine bA (zzA (zzU r rfl (tN rfl (zzX ?_))));exact zzW q
  refine bA (zzA (zzU r rfl (qg rfl (zzG (aF (zzN (nO (by simp<;>omega)) (bA (zzA (zzU r rfl (tN rfl (zzX (zzW (zzH ?_)))))))))))));refine aq (zzQ (zzK rfl (hd (uCon (I7 _ c) ?_))));have hib:Lib.indexByte [45,32,43] c-1=(if c=43 then 1 else -1):=by rcases hc with rfl|rfl<;>decide
  refine zze (by rw[hib];split<;>(unfold aJ;decide)) ?_;rw[hib];have fin:ca p_ (.op id 0) fun v44=>bg 0 v44 fun v45=>ah false 1 v45 h fun v46=>lr 5 v46 (some (i_ 1)) none fun v47=>ca p_ (.op id 0) fun v48=>bg 0 v48 fun v49=>ao 1 v49 v47 h fun g50=>∃r' h'',Wk h.length [i_ (if c=43 then 1 else -1)] g50 [r'] h''∧r'=i_ (if c=43 then 1 else -1)∧h''=h.set id (mT l):=by
   refine bA (zzA (zzU r rfl (MF rfl (bA (zzA (aU (cs:=[.sl 5 (cT l)]) (h':=h.set id (mT l)) rfl r rfl rfl (by simp) rfl rfl rfl ?_))))));exact⟨_,_,Wk.refl _ _ _ (by simp),rfl,rfl⟩
  refine hd (zzI (aF ?_));rcases hc with rfl|rfl
  ·refine zzM rfl (aq (zzR (zzL rfl ?_)));exact fin
  ·refine zzN rfl (hd (zzI (aq (zzQ (zzL rfl ?_)))));exact fin
 ·rintro _ _ ⟨rfl,rfl⟩;exact k
end
section
open Go Go.Aw Go.RowKit
def Dg(l:List Tok):∃sp,l=sp++dK l∧(∀t∈sp,t.k=13)∧Pp 13 (dK l):=by
 induction l with
 | nil=>exact⟨[],rfl,by simp,trivial⟩
 | cons t r ih =>
   rw[dK]
   by_cases h:t.k=13
   ·rw[if_pos h];obtain⟨sp,h1,h2,h3⟩:=ih;refine⟨t:: sp, ?_, ?_,h3⟩
    ·rw[abv,←h1]
    ·intro x hx;rcases ID.1 hx with rfl|hx
     ·exact h
     ·exact h2 x hx
   ·rw[if_neg h];exact⟨[],rfl,by simp,h⟩
def index_le:∀(s p:ae),-1≤Lib.index s p∧Lib.index s p≤s.length:=by
 intro s p;induction s with
 | nil=>unfold Lib.index;split<;>simp
 | cons b s ih =>
   unfold Lib.index;split
   ·simp;omega
   ·split
    ·simp;omega
    ·simp;omega
def pQ(l:List Tok):Prop:=l.length≤2^16∧∀t∈l,(-10^15≤t.n∧t.n≤10^15)∧t.t.length≤2^20∧t.u.length≤2^20
def pQ.sub(h:pQ l)(hs:m.Sublist l):pQ m:=⟨aa7 hs.length_le h.1,fun t ht=>h.2 t (hs.subset ht)⟩
def rp(l:List Tok):(dK l).Sublist l:=by
 obtain⟨sp,h,_⟩:=Dg l;have:=List.sublist_append_right sp (dK l);rw[←h]at this;exact this
def lh{kd:Int}(h:lg kd l=some (t,l')):l=t:: l'∧t.k=kd:=by
 cases l with
 | nil=>cases h
 | cons x r =>
   rw[lg]at h;split at h
   ·cases h;exact⟨rfl,by assumption⟩
   ·cases h
def vO(l:List Tok):(iH l).2.Sublist l:=by
 cases l with
 | nil=>exact List.Sublist.refl _
 | cons t r =>
   rw[iH];split
   ·exact List.sublist_cons_self ..
   ·split
    ·exact List.sublist_cons_self ..
    ·exact List.Sublist.refl _
def Ov(l:List Tok):(iH l).1=0∨(iH l).1=1∨(iH l).1=-1:=by
 cases l with
 | nil=>exact .inl rfl
 | cons t r =>
   rw[iH];split
   ·exact .inr (.inl rfl)
   ·split
    ·exact .inr (.inr rfl)
    ·exact .inl rfl
def nL(l:List Tok):(cY l).2.Sublist l:=by
 unfold cY;cases h:lg 10 l with
 | none=>exact List.Sublist.refl _
 | some x =>
   obtain⟨t,r⟩:=x;rw[(lh h).1];exact List.sublist_cons_self ..
def Co(h:-10^15≤n∧n≤10^15):-10^12≤n.tdiv 1000∧n.tdiv 1000≤10^12:=by
 have h1:=Int.tdiv_mul_le n (b:=1000) (by decide);rcases Int.le_total 0 n with k|k
 ·rw[Int.tdiv_eq_ediv_of_nonneg k];omega
 ·have:n=-(-n):=by omega
  rw[this,Int.neg_tdiv,Int.tdiv_eq_ediv_of_nonneg (by omega)];omega
def RJ(h:pQ l):-10^12≤(cY l).1.1∧(cY l).1.1≤10^12:=by
 unfold cY;cases e:lg 10 l with
 | none=>simp
 | some x =>
   obtain⟨t,r⟩:=x;exact Co (h.2 t (by rw[(lh e).1];simp)).1
section
variable [Laid]
def tA{id:Nat}{K:AV→aa→Prop}(r:Rd id h l)(ex:x=.op id 0)(hn:l.length≤2^20)(k:K (.ay []) (h.set id (mT (dK l)))):
 bx p_ (.fn (.func 199) [] []) [x] h K:=by
 obtain⟨sp,h1,h2,h3⟩:=Dg l;have hl:=congrArg List.length h1;simp at hl;exact NW (by rw[←h1];exact r) ex h2 h3 (by omega) k
theorem BT{id:Nat}{kd:Int}{K:AV→aa→Prop}(r:Rd id h l)(ex:x=.op id 0)(hn:l.length≤2^20)
 (k1:∀t l',lg kd l=some (t,l')→∀H,Mr id l' h H→K (.ay [t.av,tt]) H) (k2:lg kd l=none→∀H,Mr id l h H→K (.ay [vY 0 [] 0 [] false,ff]) H) :
 bx p_ (.fn (.func 215) [] []) [x,u8 kd] h K:=by
 cases l with
 | nil=>exact HA r ex trivial hn (k2 rfl)
 | cons t l =>
   by_cases hk:t.k=kd
   ·exact QH r ex hk (by simp at hn;omega) (k1 t l (by rw[lg,if_pos hk]))
   ·exact HA r ex hk hn (k2 (by rw[lg,if_neg hk]))
theorem EU{id:Nat}{K:AV→aa→Prop}(r:Rd id h l)(ex:x=.op id 0)(hl:pQ l)(k:∀H,Mr id (cY l).2 h H→K (.ay [i_ (cY l).1.1,b_ (cY l).1.2]) H):
 bx p_ (.fn (.func 214) [] []) [x] h K:=by
 subst ex;refine cB (by kernel_rfl) rfl (K0:=fun v h' => v=.ay [i_ (cY l).1.1,b_ (cY l).1.2]∧Mr id (cY l).2 h h') ?_ (by rintro _ H ⟨rfl,m⟩;exact k H m);refine (Zw _).bJ ?_;unfold SX;have hn:=hl.1;refine BT r rfl (by omega) (fun t l' e H m1=>?_) (fun e H m1=>?_)
 ·have hb:=hl.2 t (by rw[(lh e).1];simp);have hd:=Co hb.1;have ew:cY l=((t.n.tdiv 1000,t.f&&decide (t.n.tmod 1000=0)),l'):=by unfold cY;rw[e]
  rw[ew];refine bl rfl rfl (bl rfl rfl (bT (cs:=[u8 0,.str [],i_ 0,.str [],ff]) (n:=H.length) (h':=H++[cx 0 [] 0 [] false]) rfl (by simp[bG]) rfl rfl (aU (cs:=t.row) (h':=H++[.ak ⟨70,t.row,true⟩]) rfl (b:=⟨70,[u8 0,.str [],i_ 0,.str [],ff],true⟩) (by simp) rfl rfl (by simp) rfl (by simp[bG]) (by rw[IF _ _ (bY _)];simp) ?_)));have hV:(H++[aK.ak ⟨70,t.row,true⟩])[H.length]?=some (.ak ⟨70,t.row,true⟩):=by simp
  refine zzA (zzU hV rfl (FY (c:=t.n.tdiv 1000) rfl rfl (by decide) (by rw[IntKind.wrap_i64];omega) ?_));have fin:∀b,b=(t.f&&decide (t.n.tmod 1000=0))→∃r' h'',Wk h.length [AV.ay [i_ (t.n.tdiv 1000),b_ b]] (H++[aK.ak ⟨70,t.row,true⟩]) [r'] h''∧r'=.ay [i_ (t.n.tdiv 1000),b_ (t.f&&decide (t.n.tmod 1000=0))]∧Mr id l' h h'':=by
   rintro _ rfl;exact⟨_,_,Wk.refl _ _ _ (by have:=m1.len;simp;omega),rfl,m1.tail _⟩
  refine aF (zzN rfl (zzA (zzU hV rfl (zzR (aF ?_)))));cases hf:t.f with
  | true =>
    rw[hf]at fin;refine zzN rfl (zzA (zzU hV rfl (FZ rfl rfl (by decide) rfl (zzG (zzR ?_)))));exact fin _ (by simp)
  | false =>
    rw[hf]at fin;refine zzM rfl (zzQ ?_);exact fin _ rfl
 ·have ew:cY l=((0,false),l):=by unfold cY;rw[e]
  rw[ew];refine bl rfl rfl (bl rfl rfl (bT (cs:=[u8 0,.str [],i_ 0,.str [],ff]) (n:=H.length) (h':=H++[cx 0 [] 0 [] false]) rfl (by simp[bG]) rfl rfl (aU (cs:=[u8 0,.str [],i_ 0,.str [],ff]) (h':=H++[cx 0 [] 0 [] false]) rfl (b:=⟨70,[u8 0,.str [],i_ 0,.str [],ff],true⟩) (by simp) rfl rfl (by simp) rfl (by simp[bG]) (by rw[IF _ _ (bY _)];simp) ?_)));have hV:(H++[cx 0 [] 0 [] false])[H.length]?=some (cx 0 [] 0 [] false):=by simp
  refine zzA (zzU hV rfl (FY (c:=0) rfl rfl (by decide) (by decide) (aF (zzM rfl (zzQ (aF (zzM rfl (zzQ ?_))))))));exact⟨_,_,Wk.refl _ _ _ (by have:=m1.len;simp;omega),rfl,m1.tail _⟩
end
variable [bp]
theorem Hx{id:Nat}{K:AV→aa→Prop}(r:Rd id h l)(ex:x=.op id 0)(hl:pQ l)(k:∀H,Mr id (iH l).2 h H→K (i_ (iH l).1) H):
 bx p_ (.fn (.func 218) [] []) [x] h K:=by
 cases l with
 | nil=>exact Hy r ex trivial (k h (Mr.refl r))
 | cons t l =>
   by_cases hk:t.k=9
   ·by_cases h1:t.t=[43]
    ·obtain⟨tk,tt',tn,tu,tf⟩:=t;subst hk;subst h1;exact Hz (c:=43) r ex (.inl rfl) (k _ (Mr.set _ _ _))
    by_cases h2:t.t=[45]
    ·obtain⟨tk,tt',tn,tu,tf⟩:=t;subst hk;subst h2;exact Hz (c:=45) r ex (.inr rfl) (k _ (Mr.set _ _ _))
    have e:iH (t:: l)=(0,t:: l):=by rw[iH,if_neg (by simp[h1]),if_neg (by simp[h2])]
    rw[e]at k;subst ex;refine cB (by kernel_rfl) rfl (K0:=fun v h' => v=i_ 0∧h'=h) ?_ (by rintro _ _ ⟨rfl,rfl⟩;exact k _ (Mr.refl r));refine (MA _).bJ ?_;unfold IM;have hd:∀{K:AV→Prop},K (.str t.t)→ca p_ (.op id 0) fun v17=>bg 0 v17 fun v18=>ah false 1 v18 h fun v19=>aI 5 v19 (i_ 0) fun v20=>bg 1 v20 fun v21=>ah false 1 v21 h K:=by
     intro K q;refine bA (zzA (zzU r rfl (tN rfl (zzX ?_))));exact zzW q
    refine bA (zzA (zzU r rfl (qg rfl (zzG (aF (zzN (nO (by simp<;>omega)) (bA (zzA (zzU r rfl (tN rfl (zzX (zzW (zzH ?_)))))))))))));refine aq (zzQ (zzK (by simp[hk]) (hd (cB (by kernel_rfl) rfl (BD [45,32,43] t.t (by simp) h) ?_))));rintro _ _ ⟨rfl,rfl⟩;have hi:=index_le [45,32,43] t.t;simp at hi;refine zze (by unfold aJ;omega) (hd (zzI (aF (zzN (nO h1) (hd (zzI (aq (zzQ (zzK (nO h2) ?_)))))))));exact⟨_,_,Wk.refl _ _ _ (bY _),rfl,rfl⟩
   ·have e:iH (t:: l)=(0,t:: l):=by rw[iH,if_neg (by simp[hk]),if_neg (by simp[hk])]
    rw[e]at k;exact Hy r ex hk (k h (Mr.refl r))
end
section
open Go Go.Aw Go.RowKit
variable [bp]
def Df(sg:Int)(l:List Tok):(Int×Bool)×List Tok:=if sg=0 then cY (dK l) else ((sg*(cY (dK l)).1.1,(cY (dK l)).1.2&&decide (0≤(cY (dK l)).1.1)),(cY (dK l)).2)
omit [bp] in
def pR(l:List Tok):fS [] l=match dK l with|[]=>((0,true),[])|t:: r=>Df (iH (t:: r)).1 (iH (t:: r)).2:=by
 unfold fS Ed;rw[if_neg (by decide),if_neg (by decide),if_neg (by simp)];cases dK l with
 | nil=>rfl
 | cons t r=>rfl
theorem CY{id:Nat}{K:AV→aa→Prop}(r:Rd id h l)(ex:x=.op id 0)(hl:pQ l)(hw:w.length≤2^20)(k:∀H,Mr id (fS w l).2 h H→K (.ay [i_ (fS w l).1.1,b_ (fS w l).1.2]) H):
 bx p_ (.fn (.func 217) [] []) [x,.str w] h K:=by
 subst ex;have hid:=r.lt;refine cB (by kernel_rfl) rfl (K0:=fun v h' => v=.ay [i_ (fS w l).1.1,b_ (fS w l).1.2]∧Mr id (fS w l).2 h h') ?_ (by rintro _ H ⟨rfl,m⟩;exact k H m);refine (Zx _ _).bJ ?_;unfold SY;refine cS (fun s H=>∃sg l1,s=[i_ sg]∧(sg=0∨sg=1∨sg=-1)∧pQ l1∧Mr id l1 h H∧fS w l=Df sg l1) ?_ ?_
 ·rintro _ H ⟨sg,l1,rfl,hsg,ol1,m1,e⟩;rw[e];have r1:=m1.rd r;refine tA r1 rfl (by have:=ol1.1;omega) ?_;have o2:pQ (dK l1):=ol1.sub (rp l1);have r2:=r1.set (dK l1);refine EU r2 rfl o2 fun H2 m2=>?_;have hwi:=RJ o2;have m:Mr id (cY (dK l1)).2 h H2:=m1.trans hid ((Mr.set id (dK l1) H).trans (by have:=m1.len;omega) m2);have hH2:=m.len;refine bl rfl rfl (bl rfl rfl (zzG ?_))
  by_cases hz:sg=0
  ·refine zzL (oF hz) ?_;have e2:Df sg l1=cY (dK l1):=if_pos hz;rw[e2];exact⟨_,_,Wk.refl _ _ _ hH2,rfl,m⟩
  ·refine zzK (nO hz) ?_;have e2:Df sg l1=((sg*(cY (dK l1)).1.1,(cY (dK l1)).1.2&&decide (0≤(cY (dK l1)).1.1)),(cY (dK l1)).2):=if_neg hz;rw[e2];refine JS rfl rfl (by unfold aJ;rcases hsg with rfl|rfl|rfl<;>omega) (aF ?_);have fin:∀b,b=((cY (dK l1)).1.2&&decide (0≤(cY (dK l1)).1.1))→∃r' h'',Wk h.length [AV.ay [i_ (sg*(cY (dK l1)).1.1),b_ b]] H2 [r'] h''∧r'=.ay [i_ (sg*(cY (dK l1)).1.1),b_ ((cY (dK l1)).1.2&&decide (0≤(cY (dK l1)).1.1))]∧Mr id (cY (dK l1)).2 h h'':=by
    rintro _ rfl;exact⟨_,_,Wk.refl _ _ _ hH2,rfl,m⟩
   cases hb:(cY (dK l1)).1.2 with
   | true =>
     rw[hb]at fin;refine zzN rfl (zzF (aq (zzR ?_)));exact fin _ (by simp)
   | false =>
     rw[hb]at fin;refine zzM rfl (aq (zzQ ?_));exact fin _ (by simp)
 ·intro F hF;refine zzI ?_
  by_cases h1:w=[45]
  ·refine zzL (oF h1) (aq ?_);refine hF _ _ ⟨-1,l,rfl,.inr (.inr rfl),hl,Mr.refl r, ?_⟩;unfold fS;rw[if_pos h1];rfl
  refine zzK (nO h1) (zzJ ?_)
  by_cases h2:w=[]
  ·subst h2;refine zzK rfl (tA r rfl (by have:=hl.1;omega) ?_);have o2:pQ (dK l):=hl.sub (rp l);have r2:=r.set (dK l);rw[pR];rw[pR]at hF;refine bA (zzA (zzU r2 rfl (qg rfl (zzG ?_))));cases hs:dK l with
   | nil =>
     rw[hs]at hF;refine zzL rfl ?_;exact⟨_,_,Wk.refl _ _ _ (by simp),rfl,Mr.set _ _ _⟩
   | cons t q =>
     rw[hs]at hF r2 o2;refine zzK (nO (by simp<;>omega)) ?_;refine Hx r2 rfl o2 fun H m=>?_;refine aq ?_;exact hF _ _ ⟨_,_,rfl,Ov _,o2.sub (vO _),(Mr.set id _ h).trans hid m,rfl⟩
  ·refine zzL (by simp[h2]) ?_;have hM:fS w l=(if Lib.hasPrefix w [45]=false∨Lib.trimS (Lib.trimPrefix w [45]) jN≠[] then ((0,false),l) else ((-((min (im (Lib.trimPrefix w [45])) 1000000000:Nat):Int),true),l)):=by
    unfold fS Ed;rw[if_neg h1,if_neg h1,if_pos h2]
   have hlen:(Lib.trimPrefix w [45]).length≤2^20:=by
    unfold Lib.trimPrefix;split
    ·rw[List.length_drop];omega
    ·exact hw
   refine uCon (u3 w [45] (by omega)) ?_;obtain⟨d,hd⟩:∃d,Lib.trimPrefix w [45]=d:=⟨_,rfl⟩;rw[hd]at hM hlen ⊢;refine bl rfl rfl (bl rfl rfl (zzO (aF ?_)));have bad:fS w l=((0,false),l)→∃r' h'',Wk h.length [AV.ay [i_ 0,ff]] h [r'] h''∧r'=.ay [i_ (fS w l).1.1,b_ (fS w l).1.2]∧Mr id (fS w l).2 h h'':=by
    intro e;rw[e];exact⟨_,_,Wk.refl _ _ _ (bY _),rfl,Mr.refl r⟩
   by_cases h3:Lib.hasPrefix w [45]=false
   ·rw[if_pos (.inl h3)]at hM;refine zzM (by simp[h3]) (aq (aL (by simp[h3]) (zzL rfl ?_)));exact bad hM
   have h3:Lib.hasPrefix w [45]=true:=by simpa using h3
   refine zzN (by simp[h3]) ?_;have hle:(Lib.trimS d jN).length≤d.length:=by
    unfold Lib.trimS Lib.trimLeftS Lib.trimRightS;have e1:=(List.dropWhile_sublist (fun x=>jN.contains x) (l:=(d.reverse.dropWhile (fun x=>jN.contains x)).reverse)).length_le;have e2:=(List.dropWhile_sublist (fun x=>jN.contains x) (l:=d.reverse)).length_le;simp at e1 e2 ⊢;omega
   refine uCon (Kr d jN (by omega) (by decide) (fun b hb=>by simp[jN]at hb;rcases hb with rfl|rfl|rfl|rfl|rfl|rfl|rfl|rfl|rfl|rfl<;>decide) (by omega)) (zzJ (aq (zzQ ?_)))
   by_cases h4:Lib.trimS d jN=[]
   ·refine zzK (by simp[h4]) ?_;rw[if_neg (fun z=>z.elim (fun z=>by rw[h3]at z;cases z) fun z=>z h4)]at hM;have hdg:qk d:=by
     refine⟨fun e=>?_,OG h4⟩;subst e;unfold Lib.trimPrefix at hd;rw[if_pos h3]at hd;unfold Lib.hasPrefix at h3;cases w with
     | nil=>exact h2 rfl
     | cons a w =>
       simp[List.isPrefixOf]at h3 hd;subst h3;subst hd;exact h1 rfl
    have fin:∀v:Int,v=((min (im d) 1000000000:Nat):Int)→oX (nx [i_ v] 0) fun v29=>∃r' h'',Wk h.length [AV.ay [v29,tt]] h [r'] h''∧r'=.ay [i_ (fS w l).1.1,b_ (fS w l).1.2]∧Mr id (fS w l).2 h h'':=by
     rintro _ rfl;rw[eg,EN,hM];refine⟨by unfold aJ;omega, ?_⟩;exact⟨_,_,Wk.refl _ _ _ (bY _),by rw[Int.zero_sub],Mr.refl r⟩
    have hp:=Gy hdg
    by_cases h5:im d<2^63
    ·rw[if_pos h5]at hp;refine uCon (Es d _ (by omega) hp) (bl rfl rfl (bl rfl rfl (aF ?_)));show kI true (some true) _;rw[CU];refine aF (zzN rfl (zzE (aq (zzQ ?_))))
     by_cases h6:(1000000000:Int)<im d
     ·refine zzL (oF h6) ?_;exact fin _ (by omega)
     ·refine zzK (nO h6) ?_;exact fin _ (by omega)
    ·rw[if_neg h5]at hp;refine uCon (Dw d (by omega) hp) (bl rfl rfl (bl rfl rfl (aF ?_)));show kI true (some false) _;rw[CU];refine aF (zzM rfl (aq (zzR (zzL rfl ?_))));exact fin _ (by omega)
   ·refine zzL (by simp[h4]) ?_;rw[if_pos (.inr h4)]at hM;exact bad hM
end
section
open Go Go.Aw Go.RowKit
abbrev kM(a b:Int):aK:=.ak ⟨44,[i_ a,i_ b],true⟩
def ET{K:AV→aa→Prop}(hV:H[B]?=some (kM a0 b0))(k:K (.agg [i_ a,i_ b]) (H.set B (kM a b))):
 ao 2 (.op B 0) (.agg [i_ a,i_ b]) H fun g=>ah true 2 (.op B 0) g fun r=>K r g:=by
 refine aU (cs:=[i_ a,i_ b]) (h':=H.set B (kM a b)) rfl hV rfl rfl (by simp) rfl rfl rfl ?_;refine zzV (b:=⟨44,[i_ a,i_ b],true⟩) (iD (eQ.1 hV).1) (by simp) ?_;exact k
def jy{t:Tok}{H:aa}{F:AV→aa→Prop}(k:F (.op H.length 0) (H++[.ak ⟨70,t.row,true⟩])):
 aV 70 (.agg [(u8 0),(.str []),(i_ 0),(.str []),ff]) H fun v g=>ao 5 v t.av g fun g2=>F v g2:=by
 refine bT (cs:=[u8 0,.str [],i_ 0,.str [],ff]) (n:=H.length) (h':=H++[cx 0 [] 0 [] false]) rfl (by simp[bG]) rfl rfl ?_;exact aU (cs:=t.row) (h':=H++[.ak ⟨70,t.row,true⟩]) rfl (b:=⟨70,[u8 0,.str [],i_ 0,.str [],ff],true⟩) (by simp) rfl rfl (by simp) rfl (by simp[bG]) (by rw[IF _ _ (bY _)];simp) k
def xp(w p:ae):(Lib.trimPrefix w p).length≤w.length:=by unfold Lib.trimPrefix;split<;>simp
variable [bp]
theorem QG{id:Nat}{h:aa}{l:List Tok}{x:AV}{K:AV→aa→Prop}(r:Rd id h l)(ex:x=.op id 0)(hl:pQ l)(k:∀H,Mr id (gV l).2 h H→K (.ay [.agg [i_ (gV l).1.1.1,i_ (gV l).1.1.2],b_ (gV l).1.2]) H):
 bx p_ (.fn (.func 200) [] []) [x] h K:=by
 subst ex;have hid:=r.lt;refine cB (by kernel_rfl) rfl (K0:=fun v h' => v=.ay [.agg [i_ (gV l).1.1.1,i_ (gV l).1.1.2],b_ (gV l).1.2]∧Mr id (gV l).2 h h') ?_ (by rintro _ H ⟨rfl,m⟩;exact k H m);refine (Zu _).bJ ?_;unfold SV;refine bT (cs:=[i_ 0,i_ 0]) (n:=h.length) (h':=h++[kM 0 0]) rfl rfl rfl rfl ?_;have r0:Rd id (h++[kM 0 0]) l:=r.app _;have hB0:(h++[kM 0 0])[h.length]?=some (kM 0 0):=by simp
 -- what is handed back
 have ret:∀(H:aa) (a b:Int) (c:Bool) (q:List Tok),gV l=(((a,b),c),q)→Mr id q (h++[kM 0 0]) H→H[h.length]?=some (kM 0 0) →
  ao 2 (.op h.length 0) (.agg [i_ a,i_ b]) H fun g8=>ah true 2 (.op h.length 0) g8 fun r9=>∃r' h'',Wk h.length [AV.ay [r9,b_ c]] g8 [r'] h''∧r'=.ay [.agg [i_ (gV l).1.1.1,i_ (gV l).1.1.2],b_ (gV l).1.2]∧Mr id (gV l).2 h h'':=by
  intro H a b c q e m hb;rw[e];refine ET (K:=fun r9 g8=>∃r' h'',Wk h.length [AV.ay [r9,b_ c]] g8 [r'] h''∧r'=.ay [.agg [i_ a,i_ b],b_ c]∧Mr id q h h'') hb ?_;have:=m.len;simp at this;exact⟨_,_,Wk.refl _ _ _ (by simp;omega),rfl,(m.new hid).vN (bY _) _⟩
 have fF:∀{H H':aa} {q:List Tok},Mr id q H H'→h.length<H.length→H[h.length]?=some (kM 0 0)→H'[h.length]?=some (kM 0 0):=fun m q1 q2=>by rw[m.other q1 (by omega)];exact q2
 refine EU r0 rfl hl fun H1 m1=>?_;have rd1:=m1.rd r0;have hb1:=fF m1 (by simp) hB0;have hl1:=m1.len;simp at hl1;have ow:=hl.sub (nL l);refine bl rfl rfl (bl rfl rfl ?_);cases hw:(cY l).1.2 with
 | true =>
   refine zzL rfl (ba rfl ?_);exact ret H1 0 (cY l).1.1 true (cY l).2 (by unfold gV;dsimp only;rw[if_pos hw]) m1 hb1
 | false =>
   refine zzK rfl ?_;have hT:∀{H:aa} {t:Tok},(H++[aK.ak ⟨70,t.row,true⟩])[H.length]?=some (.ak ⟨70,t.row,true⟩):=by simp
   have happ:∀{H j:aa} {i:Nat} {e:aK},H[i]?=some e→(H++j)[i]?=some e:=fun h=>by rw[gO (eQ.1 h).1];exact h
   refine BT rd1 rfl (by have:=ow.1;omega) (fun t l2 e H2 m2=>?_) (fun e H2 m2=>?_)
   ·-- a dimension
    have ht:=hl.2 t ((nL l).subset (by rw[(lh e).1];simp));have o2:pQ l2:=ow.sub (by rw[(lh e).1];exact List.sublist_cons_self ..);have hl2:=m2.len;have hb2:=fF m2 (by omega) hb1;have rd2:=m2.rd rd1;refine bl rfl rfl (bl rfl rfl (jy (zzL rfl (zzA (zzU hT rfl (uCon (jg _) ?_))))));have hlow:(cg t.u).length≤2^20:=by unfold cg;simp;exact ht.2.2
    have hr0:gV l=if Lib.hasPrefix (cg t.u) [110]=true∧t.f=true∧t.n.tmod 1000=0 then (let b:=fS (Lib.trimPrefix (cg t.u) [110]) l2;(((t.n.tdiv 1000,b.1.1),b.1.2),b.2)) else (((0,0),false),l2):=by
     unfold gV;dsimp only;rw[if_neg (by rw[hw];decide),e]
    have em:t.u.map bo.dX=cg t.u:=rfl;rw[em];refine uCon (u3 _ _ (by omega)) (bl rfl rfl (bl rfl rfl (zzO ?_)));have m2':Mr id l2 (h++[kM 0 0]) (H2++[aK.ak ⟨70,t.row,true⟩]):=(m1.trans (by simp;omega) m2).tail _;have bad:¬(Lib.hasPrefix (cg t.u) [110]=true∧t.f=true∧t.n.tmod 1000=0)→_:=fun z=>ret (H2++[aK.ak ⟨70,t.row,true⟩]) 0 0 false l2 (by rw[hr0,if_neg z]) m2' (happ hb2);refine aF ?_
    by_cases c1:Lib.hasPrefix (cg t.u) [110]=true
    ·refine zzN (by simp[c1]) (zzA (zzU hT rfl (zzO (aq (zzQ (aF ?_))))))
     by_cases c2:t.f=true
     ·refine zzN (by simp[c2]) (zzA (zzU hT rfl (FZ rfl rfl (by decide) rfl (zzH (aq (zzQ ?_))))))
      by_cases c3:t.n.tmod 1000=0
      ·refine zzK (by simp[c3]) ?_;rw[if_pos ⟨c1,c2,c3⟩]at hr0;have htl:(Lib.trimPrefix (cg t.u) [110]).length≤2^20:=aa7 (xp _ _) hlow;refine CY (rd2.app _) rfl o2 htl fun H3 m3=>?_;have hl3:=m3.len;simp at hl3;refine bl rfl rfl (bl rfl rfl (zzA (zzU (by rw[m3.other (by simp) (by omega)];exact hT) rfl ?_)));have htd:=Co ht.1;refine FY (c:=t.n.tdiv 1000) rfl rfl (by decide) (by rw[IntKind.wrap_i64];omega) (ba rfl ?_);exact ret H3 _ _ _ _ hr0 (m2'.trans (by simp;omega) m3) (fF m3 (by simp;omega) (happ hb2))
      ·refine zzL (by simp[c3]) (ba rfl ?_);exact bad fun z=>c3 z.2.2
     ·refine zzM (by simp[c2]) (aq (aL (by simp[c2]) (zzL rfl (ba rfl ?_))));exact bad fun z=>c2 z.2.1
    ·refine zzM (by simp[c1]) (aq (aL (by simp[c1]) (aF (zzM rfl (aq (zzR (zzL rfl (ba rfl ?_))))))));exact bad fun z=>c1 z.1
   ·-- none
    have hl2:=m2.len;have hb2:=fF m2 (by omega) hb1;have rd2:=m2.rd rd1;have m12:=m1.trans (by simp;omega) m2;refine bl rfl rfl (bl rfl rfl (jy (t:=⟨0,[],0,[],false⟩) (zzK rfl ?_)));refine Hx (rd2.app _) rfl ow fun H3 m3=>?_;have hl3:=m3.len;simp at hl3;have m13:=(m12.tail [aK.ak ⟨70,Tok.row ⟨0,[],0,[],false⟩,true⟩]).trans (by simp;omega) m3;have hb3:=fF m3 (by simp;omega) (happ hb2);have rd3:=m3.rd (rd2.app _);have os:=ow.sub (vO (cY l).2);have hr1:gV l=(let s:=iH (cY l).2
     match lg 1 s.2 with
     | none=>(((0,0),false),s.2)
     | some (t,r)=>if s.1<0 then (((0,0),false),r) else
       let m:=cg t.t
       if s.1=0∧m=[111,100,100] then (((2,1),true),r)
       else if s.1=0∧m=[101,118,101,110] then (((2,0),true),r)
       else
        let neg:Bool:=decide (s.1=0)&&Lib.hasPrefix m [45]
        let q:=if neg=true then Lib.trimPrefix m [45] else m
        if Lib.hasPrefix q [110]=true then (let b:=fS (Lib.trimPrefix q [110]) r;((((if neg=true then -1 else 1:Int),b.1.1),b.1.2),b.2)) else (((0,0),false),r)):=by
     unfold gV;dsimp only;rw[if_neg (by rw[hw];decide),e];rfl
    obtain⟨sg,hsg⟩:∃sg,iH (cY l).2=sg:=⟨_,rfl⟩;rw[hsg]at hr1 rd3 os m13;rw[hsg];dsimp only at hr1;refine BT rd3 rfl (by have:=os.1;omega) (fun t l4 e4 H4 m4=>?_) (fun e4 H4 m4=>?_)
    ·rw[e4]at hr1;dsimp only at hr1;have ht:=os.2 t (by rw[(lh e4).1];simp);have o4:pQ l4:=os.sub (by rw[(lh e4).1];exact List.sublist_cons_self ..);have hl4:=m4.len;have hb4:=fF m4 (by omega) hb3;have rd4:=m4.rd rd3;refine bl rfl rfl (bl rfl rfl (jy ?_));obtain⟨H5,h5⟩:∃H5,H5=H4++[aK.ak ⟨70,t.row,true⟩]:=⟨_,rfl⟩;have hT5:H5[H4.length]?=some (.ak ⟨70,t.row,true⟩):=by rw[h5];exact hT
     have hb5:H5[h.length]?=some (kM 0 0):=by rw[h5];exact happ hb4
     have rd5:Rd id H5 l4:=by rw[h5];exact rd4.app _
     have m15:Mr id l4 (h++[kM 0 0]) H5:=by rw[h5];exact (m13.trans (by simp;omega) m4).tail _
     have hl5:H5.length=H4.length+1:=by rw[h5];simp
     rw[←h5];clear h5;refine zzO (aF (zzN rfl (zzC (aq (zzQ ?_)))))
     by_cases c1:sg.1<0
     ·rw[if_pos c1]at hr1;refine zzL (oF c1) (ba rfl ?_);exact ret _ 0 0 false _ hr1 m15 hb5
     rw[if_neg c1]at hr1;refine zzK (nO c1) (zzA (zzU hT5 rfl (uCon (jg _) ?_)));have em:t.t.map bo.dX=cg t.t:=rfl;rw[em];obtain⟨m,hm⟩:∃m,cg t.t=m:=⟨_,rfl⟩;have hml:m.length≤2^20:=by rw[←hm];unfold cg;simp;exact ht.2.1
     rw[hm]at hr1 ⊢;refine cS (fun s H=>∃(q:ae) (a:Int),s=[.str q,i_ a]∧H=H5∧q.length≤2^20∧gV l=if Lib.hasPrefix q [110]=true then (((a,(fS (Lib.trimPrefix q [110]) l4).1.1),(fS (Lib.trimPrefix q [110]) l4).1.2),(fS (Lib.trimPrefix q [110]) l4).2) else (((0,0),false),l4)) ?_ ?_
     ·rintro _ _ ⟨q,a,rfl,rfl,hq,hr⟩;refine uCon (u3 _ _ (by show q.length≤_;omega)) (bl rfl rfl (bl rfl rfl (zzO ?_)))
      by_cases c2:Lib.hasPrefix q [110]=true
      ·rw[if_pos c2]at hr;refine zzK (by simp[c2]) ?_;refine CY rd5 rfl o4 (aa7 (xp _ _) hq) fun H6 m6=>?_;refine bl rfl rfl (bl rfl rfl (ba rfl ?_));exact ret H6 _ _ _ _ hr (m15.trans (by simp;omega) m6) (fF m6 (by omega) hb5)
      ·rw[if_neg c2]at hr;refine zzL (by simp[c2]) (ba rfl ?_);exact ret _ 0 0 false _ hr m15 hb5
     ·intro F hF;refine zzG ?_
      by_cases c2:sg.1=0
      ·refine zzL (oF c2) (zzI ?_)
       by_cases c3:m=[111,100,100]
       ·rw[if_pos ⟨c2,c3⟩]at hr1;refine zzL (oF c3) (ba rfl ?_);exact ret _ 2 1 true _ hr1 m15 hb5
       rw[if_neg (fun z=>c3 z.2)]at hr1;refine zzK (nO c3) (zzI ?_)
       by_cases c4:m=[101,118,101,110]
       ·rw[if_pos ⟨c2,c4⟩]at hr1;refine zzL (oF c4) (ba rfl ?_);exact ret _ 2 0 true _ hr1 m15 hb5
       rw[if_neg (fun z=>c4 z.2)]at hr1;refine zzK (nO c4) (uCon (u3 _ _ (by omega)) (bl rfl rfl (bl rfl rfl ?_)));simp only[c2,decide_true,Bool.true_and]at hr1
       by_cases c5:Lib.hasPrefix m [45]=true
       ·refine zzL c5 (aq ?_);refine hF _ _ ⟨_,-1,rfl,rfl,aa7 (xp _ _) hml, ?_⟩;rw[hr1];simp only[c5,if_true]
       ·have c5:Lib.hasPrefix m [45]=false:=by simpa using c5
        refine zzK c5 (aq ?_);refine hF _ _ ⟨_,1,rfl,rfl,hml, ?_⟩;rw[hr1];simp only[c5];rfl
      ·refine zzK (nO c2) (aq ?_);refine hF _ _ ⟨_,1,rfl,rfl,hml, ?_⟩;rw[hr1,if_neg (fun z=>c2 z.1),if_neg (fun z=>c2 z.1)];simp only[c2,decide_false,Bool.false_and];rfl
    ·rw[e4]at hr1;have hl4:=m4.len;refine bl rfl rfl (bl rfl rfl (jy (t:=⟨0,[],0,[],false⟩) (zzO (aF (zzM rfl (aq (zzR (zzL rfl (ba rfl ?_)))))))));exact ret _ 0 0 false _ hr1 ((m13.trans (by simp;omega) m4).tail _) (happ (fF m4 (by omega) hb3))
end
section
open Go Go.Aw Go.RowKit
def Ii(sg:Int)(l:List Tok):(Df sg l).2.Sublist l:=by
 unfold Df;split
 ·exact (nL _).trans (rp l)
 ·exact (nL _).trans (rp l)
def Ec(w:ae)(l:List Tok):(fS w l).2.Sublist l:=by
 by_cases h1:w=[45]
 ·have e:fS w l=Df (-1) l:=by unfold fS;rw[if_pos h1];rfl
  rw[e];exact Ii _ _
 by_cases h2:w=[]
 ·subst h2;rw[pR];cases e:dK l with
  | nil=>simp
  | cons t r=>exact ((Ii _ _).trans (vO _)).trans (by rw[←e];exact rp l)
 ·unfold fS Ed;rw[if_neg h1,if_neg h1,if_pos h2];split<;>exact List.Sublist.refl _
def Oh(l:List Tok):(gV l).2.Sublist l:=by
 unfold gV;dsimp only;split
 ·exact nL l
 ·cases e:lg 12 (cY l).2 with
  | some x =>
    obtain⟨t,r⟩:=x;dsimp only;have hr:r.Sublist l:=List.Sublist.trans (by rw[(lh e).1];exact List.sublist_cons_self ..) (nL l);split
    ·exact (Ec _ _).trans hr
    ·exact hr
  | none =>
    dsimp only;have hs:(iH (cY l).2).2.Sublist l:=(vO _).trans (nL l);cases e:lg 1 (iH (cY l).2).2 with
    | none=>exact hs
    | some x =>
      obtain⟨t,r⟩:=x;dsimp only;have hr:r.Sublist l:=List.Sublist.trans (by rw[(lh e).1];exact List.sublist_cons_self ..) hs;repeat' split
      all_goals first|exact hr|exact (Ec _ _).trans hr
variable [bp]
def qv(l:List Tok):AV×Int:=match wm l with|some (a,b)=>(.agg [i_ a,i_ b],0)|none=>(.agg [i_ 0,i_ 0],12)
def GX(l:List Tok)(hl:pQ l):bn p_ 177 [.sl 5 (cT l)] (.ay [(qv l).1,i_ (qv l).2]):=by
 refine (Zo _).bj (by simp only[aO,Aw.Pure,and_true];exact kX l) (by unfold qv;cases wm l<;>simp[aO,Aw.Pure]) ?_;unfold SO;refine bT (cs:=[i_ 0,i_ 0]) (n:=0) (h':=[kM 0 0]) rfl rfl rfl rfl (ba rfl (bT (cs:=[.sl 5 (cT l)]) (n:=1) (h':=[kM 0 0,mT l]) rfl rfl rfl rfl ?_));have r0:Rd 1 [kM 0 0,mT l] l:=rfl;refine tA r0 rfl (by have:=hl.1;omega) ?_;have o1:pQ (dK l):=hl.sub (rp l);refine QG (r0.set _) rfl o1 fun H1 m1=>?_;have hl1:=m1.len;simp at hl1;have rd1:=m1.rd (r0.set _);have hb1:H1[0]?=some (kM 0 0):=by rw[m1.other (by simp) (by decide)];rfl
 obtain⟨R,hR⟩:∃R,gV (dK l)=R:=⟨_,rfl⟩;have hF:wm l=if R.1.2=true∧dK R.2=[]∧kr R.1.1.1=true∧kr R.1.1.2=true then some R.1.1 else none:=by unfold wm;rw[hR]
 rw[hR]at rd1 m1 ⊢;refine bl rfl rfl (bl rfl rfl (bT (cs:=[i_ 0,i_ 0]) (n:=H1.length) (h':=H1++[kM 0 0]) rfl rfl rfl rfl (aU (cs:=[i_ R.1.1.1,i_ R.1.1.2]) (h':=H1++[kM R.1.1.1 R.1.1.2]) rfl (b:=⟨44,[i_ 0,i_ 0],true⟩) (by simp) rfl rfl (by simp) rfl rfl (by rw[IF _ _ (bY _)];simp) ?_)));have o2:R.2.length≤2^20:=by have:=(hR▸Oh (dK l)).length_le;have:=o1.1;omega
 refine tA (rd1.app _) rfl o2 ?_;have rd2:=(rd1.app [kM R.1.1.1 R.1.1.2]).set (dK R.2);have hA:((H1++[kM R.1.1.1 R.1.1.2]).set 1 (mT (dK R.2)))[H1.length]?=some (kM R.1.1.1 R.1.1.2):=by rw[iF (by omega)];simp
 have hb2:((H1++[kM R.1.1.1 R.1.1.2]).set 1 (mT (dK R.2)))[0]?=some (kM 0 0):=by rw[iF (by decide),gO (by omega)];exact hb1
 obtain⟨H2,h2⟩:∃H2,H2=(H1++[kM R.1.1.1 R.1.1.2]).set 1 (mT (dK R.2)):=⟨_,rfl⟩;rw[←h2]at hA hb2 rd2 ⊢;have bad:wm l=none→ao 2 (.op 0 0) (.agg [i_ 0,i_ 0]) H2 fun g=>ah true 2 (.op 0 0) g fun r=>dI (.ay [(qv l).1,i_ (qv l).2]) (.ay [r,i_ 12]) g:=by
  intro e;refine ET (K:=fun r g=>dI (.ay [(qv l).1,i_ (qv l).2]) (.ay [r,i_ 12]) g) hb2 ?_;unfold qv;rw[e];exact .pure (by simp[aO,Aw.Pure]) rfl
 have good:wm l=some R.1.1→ao 2 (.op 0 0) (.agg [i_ R.1.1.1,i_ R.1.1.2]) H2 fun g=>ah true 2 (.op 0 0) g fun r=>dI (.ay [(qv l).1,i_ (qv l).2]) (.ay [r,i_ 0]) g:=by
  intro e;refine ET (K:=fun r g=>dI (.ay [(qv l).1,i_ (qv l).2]) (.ay [r,i_ 0]) g) hb2 ?_;unfold qv;rw[e];exact .pure (by simp[aO,Aw.Pure]) rfl
 refine zzO (aF ?_)
 by_cases c1:R.1.2=true
 ·refine zzN (by simp[c1]) (bA (zzA (zzU rd2 rfl (qg rfl (zzE (aq (zzQ (aF ?_))))))))
  by_cases c2:dK R.2=[]
  ·refine zzN (by simp[c2]) (zzV hA (by simp) (uCon (ot R.1.1.1 R.1.1.2) (zzH (aq (zzQ ?_)))));have e9:∀n,kr n=bo.gu n:=fun n=>by unfold kr bo.gu;simp
   by_cases c3:kr R.1.1.1=true∧kr R.1.1.2=true
   ·rw[if_pos ⟨c1,c2,c3⟩]at hF;refine zzK (by rw[e9,e9]at c3;simp[c3]) (zzV hA (by simp) ?_);exact good hF
   ·rw[if_neg (fun z=>c3 z.2.2)]at hF;refine zzL (by rw[e9,e9]at c3;revert c3;cases bo.gu R.1.1.1<;>cases bo.gu R.1.1.2<;>simp) (ba rfl ?_);exact bad hF
  ·rw[if_neg (fun z=>c2 z.2.1)]at hF;have:0<(dK R.2).length:=List.length_pos_iff.2 c2;refine zzM (by simp;omega) (aq (aL (by simp<;>omega) (zzL rfl (ba rfl ?_))));exact bad hF
 ·rw[if_neg (fun z=>c1 z.1)]at hF;refine zzM (by simp[c1]) (aq (aL (by simp[c1]) (aF (zzM rfl (aq (zzR (zzL rfl (ba rfl ?_))))))));exact bad hF
end
section
open Go Go.Aw Go.dD Go.RowKit
variable [Laid]
def bn.arg{args args':List AV}(c:bn P f args' r)(d:kB args args')(p:aO args):bn P f args r:=by
 obtain⟨pa,pr,c⟩:=c;exact⟨p,pr,fun base ι S w vs h1 h2=>c base ι S w vs (aB.qx d vs h1) h2⟩
abbrev C6(c:List Vl)(s:List (Tok×List Vl)):List (List Vl):=(s.map (·.2)).reverse++[c]
abbrev oP(s:List (Tok×List Vl)):List Tok:=(s.map (·.1)).reverse
section
variable {a b N Lb:Nat} {F:Nat→Prop} {H:aa} {ls:List (List Vl)} {os:List Tok} {hs e1:List AV} {ho:AV}
omit [Laid] in
theorem PS.bq(p:PS a b F H N ls os hs Lb e1 ho){K:AV→Prop}(q:K (i_ os.length)):bq ho K:=by
 rcases p.ol with⟨rfl,rfl⟩|⟨Ob,e2,rfl,_⟩
 ·exact q
 ·rw[ur];exact fun _=>q
omit [Laid] in
def PS.ab(p:PS a b F H N ls os hs Lb e1 ho):a≠b∧b≠Lb∧a≠Lb:=by
 refine⟨fun e=>?_,fun e=>?_,fun e=>?_⟩
 ·subst e;have:=p.la;rw[p.ob]at this;cases this
 ·subst e;have:=p.ob;rw[p.lb]at this;cases this
 ·subst e;have:=p.la;rw[p.lb]at this;cases this
omit [Laid] in
def QS{h h':aa}{K:AV→aa→Prop}{own:Bool}{e sz bytes id len:Nat}{cells:List AV}{rows:List (List AV)}(ex:x=.own id 0 len sz)(hb:h[id]?=some (.ak ⟨e,cells,true⟩))(hl:len*sz≤cells.length)(hp:0<len+rows.length)(hs:jA h sz y=some rows)(hr:rows.all (dy sz)=true)(hm:jG bytes (len+rows.length))(hn:h.length=n)
 (hh:h.set id .dead++[.ak ⟨e,cells.take (len*sz)++rows.flatten,true⟩]=h') (q:K (.own n 0 (len+rows.length) sz) h'):bR own e sz bytes x y h K:=by
 subst ex;subst hn;subst hh;unfold bR eI;rw[hs];refine⟨hr, ?_⟩;simp only[w9];rw[hb];exact⟨by simp[hl],hp,hm,q⟩
omit [Laid] in
def TW{KN:aa→Prop}(p:PS a b F H N ls os hs Lb e1 ho)(hT:H[T]?=some (.ak ⟨70,t.row,true⟩))(hn:ls.length<2^20)(hno:os.length<2^20)(hls:0<ls.length)
 (k:∀H',PX a b H' N (ls++[[]]) (os++[t])→H.length≤H'.length→KN H') :
 ∃d45:Nat,ah false 1 (.op a 0) H fun v46=>bt 1 1 (.v (.slice none 0 0)) [(0,1,(.v (.slice none 0 0)))] fun v47=>cF (qD d45 (.op b 0)) (ah false 1 (.op b 0) H fun v48=>cF (qD d45 (.op T 0)) (ah true 5 (.op T 0) H fun v49=>bt 1 5 (.agg [(u8 0),(.str []),(i_ 0),(.str []),ff]) [(0,5,v49)] fun v50=>cF (vE d45 v46) (bR true 54 1 24 v46 v47 H fun v51 g52=>bR true 70 5 56 v48 v50 g52 fun v53 g54=>ao 1 (.op a 0) v51 g54 fun g55=>ao 1 (.op b 0) v53 g55 KN))):=by
 obtain⟨hab,hbL,haL⟩:=p.ab;have hl:=p.hl;have ha:=PS.lt p.la;have hb:=PS.lt p.ob;have hL:=PS.lt p.lb;have hTL:T≠Lb:=fun e=>by subst e;rw[p.lb]at hT;cases hT
 refine⟨Lb, ?_⟩;refine zzU p.la rfl (lD (cs:=[bI]) rfl rfl rfl rfl (lj (qa hbL) (zzU p.ob rfl (lj (qa hTL) (zzV hT (by simp) (lD (cs:=t.row) (by simp[bh]) rfl rfl (by simp[bG]) (lj (by simp[vE]) ?_)))))));have hl1:hs.length=ls.length:=hl;refine La (n:=H.length) (h':=H.set Lb .dead++[.ak ⟨54,hs++[bI],true⟩]) rfl p.lb (by simp;omega) hls gM rfl ⟨by unfold maxLen;simp;omega,by simp;omega⟩ rfl (by rw[Nat.mul_one,←hl,List.take_left];rfl) ?_;obtain⟨g,hg⟩:∃g,g=H.set Lb .dead++[aK.ak ⟨54,hs++[bI],true⟩]:=⟨_,rfl⟩;have gl:g.length=H.length+1:=by rw[hg];simp
 have gn:g[H.length]?=some (.ak ⟨54,hs++[bI],true⟩):=by rw[hg,gT (by simp)];simp
 have go:∀id,id<H.length→id≠Lb→g[id]?=H[id]?:=fun id h1 h2=>by rw[hg,gO (by simpa using h1),iF (Ne.symm h2)]
 rw[←hg];have fin:∀g2:aa,g2.length=H.length+2→g2[H.length]?=some (.ak ⟨54,hs++[bI],true⟩)→g2[H.length+1]?=some (.ak ⟨70,(cT (os++[t])).flatten,true⟩)→(∀(id t:Nat) (cs:List AV),H[id]?=some (aK.ak ⟨t,cs,true⟩)→t≠54→t≠70→g2[id]?=H[id]?) →
  ao 1 (.op a 0) (.own H.length 0 (ls.length+1) 1) g2 fun g55=>ao 1 (.op b 0) (.own (H.length+1) 0 (os.length+1) 5) g55 KN:=by
  intro g2 l2 q1 q2 q3;refine aU (b:=⟨72,_,true⟩) (cs:=[.own H.length 0 (ls.length+1) 1]) (h':=g2.set a (.ak ⟨72,[.own H.length 0 (ls.length+1) 1],true⟩)) rfl (by rw[q3 _ _ _ p.la (by decide) (by decide)];exact p.la) rfl rfl (by simp) rfl rfl rfl ?_;refine aU (b:=⟨51,_,true⟩) (cs:=[.own (H.length+1) 0 (os.length+1) 5]) (h':=(g2.set a (.ak ⟨72,[.own H.length 0 (ls.length+1) 1],true⟩)).set b (.ak ⟨51,[.own (H.length+1) 0 (os.length+1) 5],true⟩)) rfl (by rw[iF hab,q3 _ _ _ p.ob (by decide) (by decide)];exact p.ob) rfl rfl (by simp) rfl rfl rfl ?_;refine k _ ⟨_,_,_,_,_,p.push (L2:=H.length) (O2:=H.length+1) ?_ ?_ ?_ ?_ fun id cs h=>?_⟩ (by simp;omega)
  ·rw[iF (Ne.symm hab),iD (by omega)]
  ·rw[iF (by omega),iF (by omega)];exact q1
  ·rw[iD (by simp;omega)]
  ·rw[iF (by omega),iF (by omega)];exact q2
  ·have e1:id≠a:=fun e=>by subst e;rw[p.la]at h;cases h
   have e2:id≠b:=fun e=>by subst e;rw[p.ob]at h;cases h
   rw[iF (Ne.symm e2),iF (Ne.symm e1)];exact q3 id _ cs h (by decide) (by decide)
 have gk:∀(id t:Nat) (cs:List AV),H[id]?=some (aK.ak ⟨t,cs,true⟩)→t≠54→g[id]?=H[id]?:=fun id t cs h q=>go id (PS.lt h) fun e=>by subst e;rw[p.lb]at h;cases h;exact q rfl
 rcases p.ol with⟨rfl,rfl⟩|⟨Ob,e2,rfl,hO⟩
 ·unfold bR eI;rw[gM];refine⟨pg [t],by simp,⟨by simp[maxLen],by simp⟩, ?_⟩;have:=fin (g++[.ak ⟨70,t.row,true⟩]) (by simp[gl]) (by rw[gO (by omega)];exact gn) (by rw[gT (by omega),gl];simp) fun id t cs h q1 q2=>by
   have:=PS.lt h;rw[gO (by omega)];exact gk id t cs h q1
  rw[←gl]at this;exact this
 ·have hOL:Ob≠Lb:=fun e=>by subst e;rw[p.lb]at hO;cases hO
  refine QS (n:=H.length+1) (h':=g.set Ob .dead++[.ak ⟨70,(cT (os++[t])).flatten,true⟩]) (rows:=[t.row]) rfl (by rw[gk _ _ _ hO (by decide)];exact hO) (by simp only[AT,sy];omega) (by simp) gM (pg [t]) ⟨by unfold maxLen;simp;omega,by simp;omega⟩ gl (by
   congr 4
   rw[abt (by rw[sy];exact bY _),MK (by rw[sy];exact bY _)];simp) ?_
  ·have hOl:=PS.lt hO;refine fin _ (by simp[gl]) ?_ ?_ fun id t cs h q1 q2=>?_
   ·rw[gO (by simp;omega),iF (by omega)];exact gn
   ·rw[gT (by simp;omega)];simp[gl]
   ·have e1:id≠Ob:=fun e=>by subst e;rw[hO]at h;cases h;exact q2 rfl
    have:=PS.lt h;rw[gO (by simp;omega),iF (Ne.symm e1)];exact gk id t cs h q1
end
omit [Laid] in
def VV.leaf{F:Nat→Prop}(t:Tok):VV F H [u8 t.k,.str t.t,i_ t.n,.str t.u,b_ t.f,bI] (gD t []):=by
 show VV _ _ _ (.mk _ _ _ _ _ []);rw[VV];exact⟨bI,rfl,.inl ⟨rfl,rfl⟩⟩
omit [Laid] in
def PX.app{ls:List (List Vl)}{os:List Tok}(p:PX a b H N ls os)(j:aa):PX a b (H++j) N ls os:=by
 obtain⟨F,hs,Lb,e1,ho,p⟩:=p;exact⟨F,hs,Lb,e1,ho,p.app j⟩
omit [Laid] in
def PS.ZY{a b N Lb nb:Nat}{F:Nat→Prop}{base:List (List Vl)}{os:List Tok}{hg e1:List AV}{y ho:AV}(p:PS a b F H N (base++[g]) os (hg++[y]) Lb e1 ho)(hb:base.length=nb){K:AV→Prop}(q:K (i_ g.length)):iZ y K:=by
 have hgl:hg.length=base.length:=by have:=p.hl;simp at this;omega
 obtain⟨_,z,hz,hh⟩:=p.hd base.length g (by simp);rw[←hgl]at hz;simp at hz;subst hz;rcases hh with⟨rfl,rfl⟩|⟨_,X,rows,rfl,_⟩
 ·exact q
 ·exact q
def Eh(t:Tok):List (Tok×List Vl)→Bool
 | []=>false
 | (o,_):: _=>decide (t.k=cw o.k)
def CG(l:List Tok):bn p_ 18 [.sl 5 (cT l)] (.ay [wu (kK l).1,i_ (kK l).2]):=by
 refine (V18 _).bj (by simp only[aO,Aw.Pure,and_true];exact kX l) (by simp only[aO,Aw.Pure,and_true];exact EJ _) ?_;unfold Xr;have hrl:(cT l).length=l.length:=by simp
 refine zzf (n:=l.length) hrl fun _=>?_;refine zzE ?_
 by_cases q0:1500<l.length
 ·refine zzL (oF (by omega)) ?_;rw[show kK l=([],4) by unfold kK;rw[if_pos q0]];exact .pure (by simp[Aw.Pure,aO]) rfl
 refine zzK (nO (by omega)) ?_;have hpf:kK l=match iT l [] [] with|none=>([],20)|some (c,s)=>if 1500<l.length+s.length then ([],4) else (qn c s,0):=by unfold kK;rw[if_neg q0];rfl
 refine⟨by decide, ?_⟩;refine bT (cs:=[bI]) (n:=1) (h':=[.ak ⟨54,[bI],true⟩,.ak ⟨72,[bI],true⟩]) rfl rfl rfl rfl (bT (cs:=[bI]) (n:=2) (h':=[.ak ⟨54,[bI],true⟩,.ak ⟨72,[bI],true⟩,.ak ⟨51,[bI],true⟩]) rfl rfl rfl rfl (aU (cs:=[.own 0 0 1 1]) (h':=[.ak ⟨54,[bI],true⟩,.ak ⟨72,[.own 0 0 1 1],true⟩,.ak ⟨51,[bI],true⟩]) rfl rfl rfl rfl (by simp) rfl rfl rfl (aU (cs:=[bI]) (h':=[.ak ⟨54,[bI],true⟩,.ak ⟨72,[.own 0 0 1 1],true⟩,.ak ⟨51,[bI],true⟩]) rfl rfl rfl rfl (by simp) rfl rfl rfl ?_)));have p0:PX 1 2 [.ak ⟨54,[bI],true⟩,.ak ⟨72,[.own 0 0 1 1],true⟩,.ak ⟨51,[bI],true⟩] 0 [[]] []:=by
  refine⟨fun _=>False,[bI],0,[],bI,⟨rfl,rfl,rfl,fun i l q=>?_,fun i j X m m' q=>?_,rfl,.inl ⟨rfl,rfl⟩,fun X z=>z.elim⟩⟩
  ·have hi:i=0:=by have:=(eQ.1 q).1;simp at this;omega
   subst hi;simp at q;subst q;exact⟨aa2 _,bI,rfl,.inl ⟨rfl,rfl⟩⟩
  ·have hi:i=0:=by have:=(eQ.1 q).1;simp at this;omega
   subst hi;simp at q
 refine zzf (n:=l.length) hrl fun _=>?_;refine aZ (α:=Nat×List Vl×List (Tok×List Vl)×aa×Nat) (fun x=>x.1≤l.length∧iT l [] []=iT (l.drop x.1) x.2.1 x.2.2.1∧x.2.2.1.length≤16∧PX 1 2 x.2.2.2.1 x.2.2.2.2 (C6 x.2.1 x.2.2.1) (oP x.2.2.1)∧x.2.2.2.2≤x.1∧3≤x.2.2.2.1.length) (fun x=>[i_ x.1]) (fun x=>x.2.2.2.1) (fun x=>l.length-x.1) (0,[],[],[.ak ⟨54,[bI],true⟩,.ak ⟨72,[.own 0 0 1 1],true⟩,.ak ⟨51,[bI],true⟩],0) ⟨aa2 _,rfl,aa2 _,p0,bY _,bY _⟩ (Wk.refl _ _ _ (bY _)) ?_;rintro⟨i,c,s,H,N⟩ ⟨hi,hp,hs,p,hN,hH⟩;dsimp only at hi hp hs p hN hH ⊢;refine zzC ?_;rcases uP i l.length with q|q
 ·obtain⟨t,hx⟩:∃x,l[i]?=some x:=⟨l[i],dO q⟩;have hdr:l.drop i=t:: l.drop (i+1):=by rw[abo q];rw[(eQ.1 hx).2]
  rw[hdr,iT]at hp;refine zzL (by simpa using q) (aF (zzb (f:=Tok.row) rfl rfl hx (zzY (by simp) (bT (cs:=[u8 0,.str [],i_ 0,.str [],ff]) (n:=H.length) (h':=H++[.ak ⟨70,[u8 0,.str [],i_ 0,.str [],ff],true⟩]) rfl (by simp[bG]) rfl rfl (aU (cs:=t.row) (h':=H++[.ak ⟨70,t.row,true⟩]) (b:=⟨70,[u8 0,.str [],i_ 0,.str [],ff],true⟩) rfl (by simp) rfl rfl (by simp) rfl (by simp[bG]) (by rw[IF _ _ (bY _)];simp[bX]) ?_)))));have p1:=p.app [aK.ak ⟨70,t.row,true⟩];obtain⟨H1,h1⟩:∃H1,H1=H++[aK.ak ⟨70,t.row,true⟩]:=⟨_,rfl⟩;have hT:H1[H.length]?=some (.ak ⟨70,t.row,true⟩):=by rw[h1];simp
  have hH1:H1.length=H.length+1:=by rw[h1];simp
  rw[←h1]at p1 ⊢;have ps:=p1;obtain⟨F,hz,Lb,e1,ho,ps⟩:=ps
  -- what comes behind
  have next:∀(c':List Vl) (s':List (Tok×List Vl)) (H':aa) (N':Nat),iE t c s=some (c',s')→s'.length≤16→PX 1 2 H' N' (C6 c' s') (oP s')→N'≤i+1→3≤H'.length →
   ag .add (i_ i) (i_ 1) fun v95=>[AV.sl 5 (cT l),.op 1 0,.op 2 0,.fn (.func 29) [] [.op 2 0,.op 1 0],.sl 5 (cT l),i_ l.length]=[AV.sl 5 (cT l),.op 1 0,.op 2 0,.fn (.func 29) [] [.op 2 0,.op 1 0],.sl 5 (cT l),i_ l.length] ∧
    (∃y:Nat×List Vl×List (Tok×List Vl)×aa×Nat,(y.1≤l.length∧iT l [] []=iT (l.drop y.1) y.2.1 y.2.2.1∧y.2.2.1.length≤16∧PX 1 2 y.2.2.2.1 y.2.2.2.2 (C6 y.2.1 y.2.2.1) (oP y.2.2.1)∧y.2.2.2.2≤y.1∧3≤y.2.2.2.1.length)∧Wk [aK.ak ⟨54,[bI],true⟩,.ak ⟨72,[.own 0 0 1 1],true⟩,.ak ⟨51,[bI],true⟩].length [v95] H' [i_ y.1] y.2.2.2.1∧l.length-y.1<l.length-i):=by
   intro c' s' H' N' e1 e2 e3 e4 e5;refine zzP (by unfold aJ;omega) ?_;rw[e1]at hp;refine⟨rfl,(i+1,c',s',H',N'),⟨q,hp,e2,e3,e4,e5⟩,Wk.refl _ _ _ e5,by dsimp only;omega⟩
  have hosl:(oP s).length=s.length:=by simp
  refine zzU ps.ob rfl (ps.bq ?_);rw[hosl];refine zzE ?_;refine cS (fun v _=>∀K:AV→Prop,K (b_ (Eh t s))→bQ (.v (.bool (decide ((0:Int)<(s.length:Int))))) (nx v 9) ff K) (fun v _ hv=>?_) (fun J hJ=>?_)
  ·refine hv _ ?_
   by_cases hc:Eh t s=true
   ·-- it closes what is open
    obtain⟨o,g,s',rfl,hk⟩:∃o g s',s=(o,g):: s'∧t.k=cw o.k:=by
     cases s with
     | nil=>cases hc
     | cons x s' => exact⟨x.1,x.2,s',rfl,by simpa[Eh]using hc⟩
    rw[hc];refine zzL rfl ?_;refine KV (base:=(s'.map (·.2)).reverse) (g:=g) (c:=c) (ob:=oP s') (o:=o) (N:=N) (by simpa[C6,oP]using p1) (by omega) (by simp) (by simp at hs ⊢;omega) fun H' p2 hl=>?_;refine aq ?_;exact next (g++[gD o c]) s' H' (N+1) (by simp[iE,hk]) (by simp at hs;omega) p2 (by omega) (by omega)
   ·have hc:Eh t s=false:=by simpa using hc
    rw[hc];refine zzK rfl (zzA (zzU hT rfl (uCon (ou t.k) (zzH ?_))))
    by_cases hk:cw t.k=0
    ·refine zzK (by simp[hk]) ?_;have hst:iE t c s=some (c++[gD t []],s):=by
      cases s with
      | nil=>simp[iE,hk]
      | cons x s' =>
        have hcl:¬t.k=cw x.1.k:=by simpa[Eh]using hc
        simp only[iE];rw[if_neg hcl,if_neg (by simpa using hk)]
     obtain⟨hb,x,rfl⟩:∃hb x,hz=hb++[x]:=by
      have h0:hz≠[]:=fun e=>by have:=ps.hl;rw[e]at this;simp at this
      exact⟨hz.dropLast,hz.getLast h0,(List.dropLast_concat_getLast h0).symm⟩
     have hbl:hb.length=s.length:=by have:=ps.hl;simp at this;exact this
     have hT6:∀j:aa,(H1++j)[H.length]?=some (.ak ⟨70,t.row,true⟩):=fun j=>by rw[gO (by omega)];exact hT
     have hll:(C6 c s).length=s.length+1:=by simp
     have hbs:((s.map (·.2)).reverse).length=s.length:=by simp
     refine aF ?_;refine Me ?_ ?_
     ·have p6:=ps.app [aK.ak ⟨4,[b_ false],true⟩];refine aq (zzK rfl ?_);obtain⟨d,hd1,hd2⟩:=p6.free;refine⟨d,lj hd1 ?_⟩;refine zzU p6.la rfl (zzU p6.la rfl (jm rfl rfl (by omega) (zzU (c:=x) p6.lb (by simp[←hbl]) (zzV (hT6 _) (by simp) (ba (cs:=[u8 t.k,.str t.t,i_ t.n,.str t.u,b_ t.f,bI]) (by simp[dP,bh,bX,bG]) (lD (cs:=[u8 t.k,.str t.t,i_ t.n,.str t.u,b_ t.f,bI]) rfl rfl rfl (by simp[bG]) (lj hd2 ?_)))))));rw[hll];refine KQ (v:=gD t []) p6 hbs (by omega) (.leaf t) fun H' p7 hl=>?_;refine aq ?_;exact next (c++[gD t []]) s H' (N+1) hst hs ⟨_,_,_,_,_,p7⟩ (by omega) (by simp at hl;omega)
     ·have p6:=ps.app [aK.ak ⟨4,[b_ true],true⟩];refine aq (zzL rfl (zzU p6.la rfl (jm rfl rfl (by omega) (zzU (c:=x) p6.lb (by simp[←hbl]) (zzV (hT6 _) (by simp) (ba (cs:=[u8 t.k,.str t.t,i_ t.n,.str t.u,b_ t.f,bI]) (by simp[dP,bh,bX,bG]) (p6.ZY hbs (lD (cs:=zeroV) rfl rfl rfl rfl ?_))))))));rw[hll];refine KR (v:=gD t []) p6 hbs (by omega) (.leaf t) rfl fun H' p7 hl=>?_;refine aq ?_;exact next (c++[gD t []]) s H' (N+1) hst hs ⟨_,_,_,_,_,p7⟩ (by omega) (by simp at hl;omega)
    ·refine zzL (by simpa using hk) (zzG ?_)
     by_cases h16:s.length=16
     ·refine zzL (by simp;omega) ?_;have hn:iE t c s=none:=by
       cases s with
       | nil=>simp at h16
       | cons x s' =>
         have hcl:¬t.k=cw x.1.k:=by simpa[Eh]using hc
         simp only[iE];rw[if_neg hcl,if_pos hk,if_pos (by simpa using h16)]
      rw[hn]at hp;rw[hpf,hp];exact .pure (by simp[Aw.Pure,aO]) rfl
     ·refine zzK (by simp;omega) ?_;refine TW ps hT (by simp;omega) (by simp;omega) (by simp) fun H' p2 hl=>?_;refine aq ?_;refine next [] ((t,c):: s) H' N ?_ (by simp;omega) (by simpa[C6,oP]using p2) (by omega) (by omega)
      cases s with
      | nil=>simp[iE,hk]
      | cons x s' =>
        have hcl:¬t.k=cw x.1.k:=by simpa[Eh]using hc
        simp only[iE];rw[if_neg hcl,if_pos hk,if_neg (by simpa using h16)]
  ·cases s with
   | nil =>
     refine km rfl ?_;exact hJ _ _ fun K q=>aQ rfl q
   | cons x s' =>
     obtain⟨o,g⟩:=x;refine jk (by simp) (zzA (zzU hT rfl (zzU ps.ob rfl (zze (by simp at hs;unfold aJ;simp;omega) ?_))));obtain⟨Ob,e2,rfl,hO⟩:∃Ob e2,ho=.own Ob 0 (s'.length+1) 5∧H1[Ob]?=some (.ak ⟨70,(cT (oP s'++[o])).flatten++e2,true⟩):=by
      rcases ps.ol with⟨e,_⟩|⟨Ob,e2,q1,q2⟩
      ·exact absurd e (by simp)
      ·exact⟨Ob,e2,by simpa using q1,by simpa using q2⟩
     refine jm (n:=s'.length) rfl (by simp) (by omega) (zzA ?_);have hkc:((cT (oP s'++[o])).flatten++e2)[0+s'.length*5+0]?=some (u8 o.k):=by
      have h:((cT (oP s')).flatten).length=s'.length*5:=by rw[sy];simp
      have e:(cT (oP s'++[o])).flatten++e2=(cT (oP s')).flatten++(o.row++e2):=by simp
      rw[e,gT (by omega),show 0+s'.length*5+0-((cT (oP s')).flatten).length=0 by omega];rfl
     refine zzU hO hkc ?_;refine⟨_,uCon (ou o.k) ⟨rfl,rfl⟩, ?_⟩;refine zzG ?_;exact hJ _ _ fun K q=>aL (by simp) q
 ·have hil:i=l.length:=by omega
  subst hil;rw[List.drop_length,iT]at hp;rw[hp]at hpf;dsimp only at hpf;refine zzK (by simp) ?_;obtain⟨F,hz,Lb,e1,ho,ps⟩:=id p;have hosl:(oP s).length=s.length:=by simp
  refine zzf (n:=l.length) hrl fun _=>?_;refine zzU ps.ob rfl (ps.bq ?_);rw[hosl];refine zzP (by unfold aJ;omega) (zzE ?_)
  by_cases hm:1500<l.length+s.length
  ·rw[if_pos hm]at hpf;rw[hpf];refine zzL (oF (by omega)) ?_;exact .pure (by simp[Aw.Pure,aO]) rfl
  rw[if_neg hm]at hpf;rw[hpf];refine zzK (nO (by omega)) (aZ (α:=List Vl×List (Tok×List Vl)×aa×Nat) (fun x=>qn x.1 x.2.1=qn c s∧x.2.1.length≤16∧PX 1 2 x.2.2.1 x.2.2.2 (C6 x.1 x.2.1) (oP x.2.1)∧x.2.2.2+x.2.1.length≤2000∧H.length≤x.2.2.1.length) (fun _=>[]) (fun x=>x.2.2.1) (fun x=>x.2.1.length) (c,s,H,N) ⟨rfl,hs,p,by dsimp only;omega,bY _⟩ (Wk.refl _ _ _ (bY _)) ?_);rintro⟨c1,s1,H1,N1⟩ ⟨hp1,hs1,p1,hN1,hl1⟩;dsimp only at hp1 hs1 p1 hN1 hl1 ⊢;obtain⟨F1,hz1,Lb1,e11,ho1,ps1⟩:=id p1;have hosl1:(oP s1).length=s1.length:=by simp
  refine zzU ps1.ob rfl (ps1.bq ?_);rw[hosl1];refine zzE ?_;cases s1 with
  | nil =>
    refine zzK rfl (zzU ps1.la rfl (jm rfl rfl (by simp) ?_));obtain⟨_,z,hz,hh⟩:=ps1.hd 0 c1 rfl;refine zzU (c:=z) ps1.lb (by
     have:=(eQ.1 hz).1;rw[gO (by omega)];exact hz) ?_
    rw[←hp1];exact hh.bj
  | cons x s' =>
    obtain⟨o,g⟩:=x;refine zzL (by simp) ?_;refine KV (base:=(s'.map (·.2)).reverse) (g:=g) (c:=c1) (ob:=oP s') (o:=o) (N:=N1) (by simpa[C6,oP]using p1) (by omega) (by simp) (by simp at hs1 ⊢;omega) fun H' p2 hl=>?_;refine aq ?_;exact⟨(g++[gD o c1],s',H',N1+1),⟨by rw[←hp1];rfl,by simp at hs1;dsimp only;omega,p2,by simp at hN1;dsimp only;omega,by dsimp only;omega⟩,Wk.refl _ _ _ (by omega),by simp⟩
end
section
open Go Go.Aw Go.dD Go.RowKit
def tZ(e sz:Nat)(x:AV)(H:aa)(rows:List (List AV)):Prop:=(rows=[]∧x=bI)∨(rows≠[]∧∃id,x=.sb id sz rows∧H[id]?=some (.tok e sz rows.length))
def tZ.app{e sz:Nat}{rows:List (List AV)}(g:tZ e sz x H rows)(j:aa):tZ e sz x (H++j) rows:=by
 rcases g with g|⟨h,id,rfl,h2⟩
 ·exact .inl g
 ·exact .inr ⟨h,id,rfl,by rw[gO (eQ.1 h2).1];exact h2⟩
def oa(H H':aa):Prop:=H.length≤H'.length∧∀(j:Nat) (b:jJ),H[j]?=some (.ak b)→H'[j]?=some (.ak b)
def oa.refl(H:aa):oa H H:=⟨bY _,fun _ _ h=>h⟩
def oa.trans(x:oa a b)(y:oa b c):oa a c:=⟨aa7 x.1 y.1,fun j k h=>y.2 j k (x.2 j k h)⟩
def oa.app(H j:aa):oa H (H++j):=⟨by simp,fun i b h=>by rw[gO (eQ.1 h).1];exact h⟩
def Hl{e sz bytes:Nat}{rows:List (List AV)}(g:tZ e sz x H rows)(hr:dy sz r=true)(hb:bytes≤1000)(hl:rows.length<2^20){K:AV→aa→Prop}(q:∀x' H',tZ e sz x' H' (rows++[r])→oa H H'→K x' H'):bR false e sz bytes x (.sl sz [r]) H K:=by
 have hall:[r].all (dy sz)=true:=by rw[abg,hr];rfl
 rcases g with⟨rfl,rfl⟩|⟨hne,id,rfl,ht⟩
 ·unfold bR eI;rw[gM];refine⟨hall,⟨by simp[maxLen],by simp;omega⟩, ?_⟩;exact q _ _ (.inr ⟨by simp,_,rfl,by simp⟩) (oa.app _ _)
 ·refine D6 rfl ht rfl gM hall ⟨by unfold maxLen;simp;omega,by
   simp only[aaP,abr,aa4]
   calc (rows.length+1)*bytes≤(2^20)*1000:=Nat.mul_le_mul (by omega) hb
    _≤_:=by decide⟩ ?_
  have hlt:=(eQ.1 ht).1;refine q _ _ (.inr ⟨by simp,id,rfl,by rw[iD hlt];simp⟩) ⟨by simp,fun j b hj=>?_⟩;rw[iF (fun z=>by subst z;rw[ht]at hj;cases hj)];exact hj
def tZ.told{e sz:Nat}{rows:List (List AV)}(g:tZ e sz x H rows)(p:cG rows)(d:Nat):tl 0 H d x=if rows=[] then bI else .sl sz rows:=by
 rcases g with⟨rfl,rfl⟩|⟨h,id,rfl,_⟩
 ·rw[if_pos rfl];exact mr (by simp[Aw.Pure])
 ·rw[if_neg h];exact Rv p
theorem pJ:∀a b:List Vl,bu (a++b)=bu a++bu b
 | [],b=>by simp[bu]
 | v:: a,b=>by simp[bu,pJ a b]
mutual
theorem Rr:∀v,(iM v).length=uZ v
 | .mk k t n u f l=>by
   rw[iM,uZ];split
   ·rfl
   ·simp[mq l]
theorem mq:∀l,(bu l).length=dh l
 | []=>by simp[bu,dh]
 | v:: l=>by simp[bu,dh,Rr v,mq l]
end
def iq{id o n:Nat}{cs:List AV}{K:AV→Prop}(e:x=.op id o)(hb:h[id]?=some (.ak b))(hn:n≤(b.cells.drop o).length)(hc:(b.cells.drop o).take n=cs)(q:K (.agg cs)):ah true n x h K:=by
 subst hc;exact dr e hb hn q
variable [Laid]
def RT(n:Nat):Prop:=∀(v:List Vl),bV v≤n→∀(H:aa) (a:AV) (R:List (List AV)),tZ 70 5 a H R→R.length+dh v<2^20→bV v<2^40 →
 ∀K:AV→aa→Prop,(∀a' H',tZ 70 5 a' H' (R++cT (bu v))→oa H H'→K a' H')→bx p_ (.fn (.func 198) [] []) [a,.sl 6 (cA v)] H K
def Qr(hP:∀n',n'<n→RT n'):RT n:=by
 intro v hz H a R hg hn hbig K k;refine cB (by kernel_rfl) rfl (K0:=fun a' H' => tZ 70 5 a' H' (R++cT (bu v))∧oa H H') ?_ (fun a' H' h=>k a' H' h.1 h.2);refine (Zs _ _).bJ ?_;unfold SS;have hlen:(cA v).length=v.length:=by simp[eA]
 have hll:=mP v;refine zzf (n:=v.length) hlen fun _=>?_;refine aZ (α:=Nat×AV×aa) (fun x=>x.1≤v.length∧tZ 70 5 x.2.1 x.2.2 (R++cT (bu (v.take x.1)))∧oa H x.2.2) (fun x=>[x.2.1,i_ x.1]) (fun x=>x.2.2) (fun x=>v.length-x.1) (0,a,H) ⟨aa2 _,by simpa[bu]using hg,oa.refl _⟩ (Wk.refl _ _ _ (bY _)) ?_;rintro⟨j,b,H1⟩ ⟨hj,hgj,hB⟩;dsimp only at hj hgj hB ⊢;refine zzC ?_;rcases uP j v.length with q|q
 ·obtain⟨⟨kd,tx,nu,un',fl,l2⟩,hx⟩:∃x,v[j]?=some x:=⟨v[j],dO q⟩;have htk:v.take (j+1)=v.take j++[Vl.mk kd tx nu un' fl l2]:=by rw[By,hx];rfl
  have hzv:=uL (gE hx);have hzt:bV (v.take j)+zV (Vl.mk kd tx nu un' fl l2)≤bV v:=by
   have h1:=pP v (j+1);rw[htk,mO]at h1;simpa[bV]using h1
  have hRl:(cT (bu (v.take j))).length=dh (v.take j):=by simp only[aaQ,mq]
  have hct:dh (v.take j)+uZ (Vl.mk kd tx nu un' fl l2)≤dh v:=by
   have h1:dh (v.take (j+1))+dh (v.drop (j+1))=dh v:=by rw[←oq,List.take_append_drop]
   rw[htk,oq]at h1;simp only[dh]at h1;omega
  rw[uZ]at hct;rw[zV]at hzv hzt;have hc1:1≤(if cw kd=0 then 1 else dh l2+2):=by split<;>omega
  have next:∀b2 H2,tZ 70 5 b2 H2 (R++cT (bu (v.take (j+1))))→oa H1 H2→ag .add (i_ j) (i_ 1) fun v33=>[AV.sl 6 (cA v),i_ v.length]=[AV.sl 6 (cA v),i_ v.length] ∧
   ∃y:Nat×AV×aa,(y.1≤v.length∧tZ 70 5 y.2.1 y.2.2 (R++cT (bu (v.take y.1)))∧oa H y.2.2)∧Wk H.length [b2,v33] H2 [y.2.1,i_ y.1] y.2.2∧v.length-y.1<v.length-j:=by
   intro b2 H2 g2 k2;refine zzP (by unfold aJ;omega) ?_;exact⟨rfl,(j+1,b2,H2),⟨q,g2,hB.trans k2⟩,Wk.refl _ _ _ (hB.trans k2).1,by dsimp only;omega⟩
  refine zzL (by simpa using q) (aF (zzb (eA v) rfl hx (zzY (by simp[lF]) ?_)));obtain⟨row,hrow⟩:∃row,row=[u1 kd,.str tx,i_ nu,.str un',b_ fl,AV.sl 6 (cA l2)]:=⟨_,rfl⟩;have he:jv (Vl.mk kd tx nu un' fl l2)=row:=by rw[jv,hrow]
  rw[he];refine bT (cs:=zeroV) (n:=H1.length) (h':=H1++[.ak ⟨74,zeroV,true⟩]) rfl (by simp[bG]) rfl rfl (aU (cs:=row) (h':=H1++[.ak ⟨74,row,true⟩]) rfl (b:=⟨74,zeroV,true⟩) (by simp) rfl (by rw[hrow];rfl) (by rw[hrow];simp) (by rw[hrow];rfl) (by rw[hrow];simp[bG]) (by rw[IF _ _ (bY _)];simp[kY (a:=zeroV) (b:=row) (by rw[hrow];rfl)]) ?_);have hV:(H1++[aK.ak ⟨74,row,true⟩])[H1.length]?=some (.ak ⟨74,row,true⟩):=by simp
  have g1:=hgj.app [aK.ak ⟨74,row,true⟩];have k1:=oa.app H1 [aK.ak ⟨74,row,true⟩];refine zzA (iq (cs:=Tok.row ⟨kd,tx,nu,un',fl⟩) rfl hV (by rw[hrow];simp) (by rw[hrow];rfl) (lD (cs:=Tok.row ⟨kd,tx,nu,un',fl⟩) rfl rfl rfl (by simp[bG]) ?_));refine Hl g1 (by simp[dy,bG]) (by decide) (by simp only[AT];omega) fun b2 H2 g2 k2=>?_;refine zzA (zzA (zzU (k2.2 _ _ hV) (by rw[hrow];rfl) (uCon (ou kd) (zzH ?_))))
  by_cases hc:cw kd=0
  ·refine zzK (by simp[hc]) (aq ?_);refine next b2 H2 ?_ (k1.trans k2)
   rw[htk,pJ];simpa[bu,iM,hc]using g2
  ·refine zzL (by simp[hc]) ?_;rw[if_neg hc]at hct;refine zzA (zzU (k2.2 _ _ hV) (by rw[hrow];rfl) ?_);refine hP (bV l2) (by omega) l2 (bY _) H2 b2 _ g2 (by simp only[AT,aaP,abr];omega) (by omega) _ fun b3 H3 g3 k3=>?_;have hR3:(cT (bu l2)).length=dh l2:=by simp only[aaQ,mq]
   refine ba (cs:=Tok.row ⟨cw kd,[],0,[],false⟩) rfl (lD (cs:=Tok.row ⟨cw kd,[],0,[],false⟩) rfl rfl rfl (by simp[bG]) ?_);refine Hl g3 (by simp[dy,bG]) (by decide) (by simp only[AT,aaP,abr];omega) fun b4 H4 g4 k4=>?_;refine aq ?_;refine next b4 H4 ?_ (((k1.trans k2).trans k3).trans k4)
   rw[htk,pJ];simpa[bu,iM,hc]using g4
 ·obtain rfl:j=v.length:=by omega
  rw[BY]at hgj;refine zzK (by simp) ?_;exact⟨_,_,Wk.refl _ _ _ hB.1,hgj,hB⟩
def TF:∀n,RT n:=by
 intro n;induction n using Nat.strongRecOn with
 | _ n ih=>exact Qr fun n' h=>ih n' h
def EC(v:List Vl):AV×Int:=if js v=0 then (yz (bu v),0) else (bI,js v)
def M6(v:List Vl)(hz:bV v<2^40):bn p_ 176 [.sl 6 (cA v)] (.ay [(EC v).1,i_ (EC v).2]):=by
 have hp:Aw.Pure (EC v).1:=by
  unfold EC yz;split
  ·dsimp only;split
   ·simp[Aw.Pure]
   ·exact kX _
  ·simp[Aw.Pure]
 refine (Zn _).bj (by simp[lz]) (by simp only[aO,Aw.Pure,and_true];exact hp) ?_;unfold SN;refine uCon (Am v (by omega)) (zzH ?_)
 by_cases h:js v=0
 ·refine zzK (by simp[h]) ?_;have hc15:dh v≤1500:=by
   unfold js at h;split at h
   ·cases h
   ·split at h
    ·cases h
    ·omega
  refine TF _ v (bY _) [] bI [] (.inl ⟨rfl,rfl⟩) (by simp;omega) (by omega) _ fun a' H' g _=>?_;refine dI.YF 1 ?_;show AV.ay [Aw.tl 0 H' 1 a',i_ 0]=_;rw[g.told (by simpa using kX _)];unfold EC yz;rw[if_pos h];simp
 ·refine zzL (by simp[h]) ?_;unfold EC;rw[if_neg h];exact .pure (by simp[aO,Aw.Pure]) rfl
end
section
open Go Go.Aw Go.dD Go.RowKit
def Mo(id:Nat)(e:aK)(h h':aa):Prop:=∃j,h'=h.set id e++j
section
variable {id:Nat} {e e':aK} {h h' h'':aa}
def Mo.len(g:Mo id e h h'):h.length≤h'.length:=by obtain⟨j,rfl⟩:=g;simp
def Mo.at(g:Mo id e h h')(hid:id<h.length):h'[id]?=some e:=by
 obtain⟨j,rfl⟩:=g;rw[gO (by simpa using hid),iD hid]
def Mo.trans(hid:id<h.length)(x:Mo id e h h')(y:Mo id e' h' h''):Mo id e' h h'':=by
 obtain⟨j,rfl⟩:=x;obtain⟨k,rfl⟩:=y;exact⟨j++k,by rw[IN _ _ (by simpa using hid),aa0,To]⟩
def Mo.other(g:Mo id e h h')(hi:i<h.length)(hne:i≠id):h'[i]?=h[i]?:=by
 obtain⟨j,rfl⟩:=g;rw[gO (by simpa using hi),iF (Ne.symm hne)]
def Mo.refl(r:h[id]?=some e):Mo id e h h:=⟨[],by rw[ku r];simp⟩
def Mo.set(id:Nat)(e:aK)(h:aa):Mo id e h (h.set id e):=⟨[],by simp⟩
def Mo.tail(g:Mo id e h h')(k:aa):Mo id e h (h'++k):=by
 obtain⟨j,rfl⟩:=g;exact⟨j++k,by rw[To]⟩
def Mo.vN(m:Mo id e h h')(hT:h.length≤T)(x:aK):Mo id e h (h'.set T x):=by
 obtain⟨j,rfl⟩:=m;exact⟨j.set (T-h.length) x,by rw[IF _ _ (by simpa using hT)];simp⟩
end
abbrev LI(v:List Vl)(a:Nat):aK:=.ak ⟨131,[.sl 6 (cA v),i_ a],true⟩
abbrev dF(v r:List Vl):aK:=LI v (v.length-r.length)
def Ou(h:r <:+ v):v.drop (v.length-r.length)=r:=by
 obtain⟨p,rfl⟩:=h;simp
def Ih(h:r <:+ v)(n:Nat):v[v.length-r.length+n]?=r[n]?:=by
 rw[←aaU,Ou h]
def cf(r:List Vl)(n:Nat):Tok:=match r[n]? with|some x=>OE x|none=>⟨0,[],0,[],false⟩
def NI(x:Vl):(jv x).take 5=(OE x).row:=by rw[lF];rfl
def zN{cs ds:List AV}{K:AV→Prop}(e:x=.ip ds)(hn:n≤ds.length)(hc:ds.take n=cs)(q:K (.agg cs)):ah true n x h K:=by
 subst hc;exact ME e hn q
section
variable [Laid]
def nD{id:Nat}{K:AV→aa→Prop}(rd:h[id]?=some (dF v r))(hs:r <:+ v)(ex:x=.op id 0)(hv:v.length+n<2^40)(k:∀H,Mo id (dF v r) h H→K (cf r n).av H):
 bx p_ (.fn (.func 75) [] []) [x,i_ n] h K:=by
 subst ex;have hid:=(eQ.1 rd).1;have hle:=hs.length_le;refine cB (by kernel_rfl) rfl (K0:=fun w H=>w=(cf r n).av∧Mo id (dF v r) h H) ?_ (by rintro _ H ⟨rfl,m⟩;exact k H m);refine (V75 _ _).bJ ?_;unfold Yf;refine bT (cs:=[u8 0,.str [],i_ 0,.str [],ff]) (n:=h.length) (h':=h++[cx 0 [] 0 [] false]) rfl (by simp[bG]) rfl rfl ?_;have rd2:(h++[cx 0 [] 0 [] false])[id]?=some (dF v r):=by rw[gO hid];exact rd
 have hV:(h++[cx 0 [] 0 [] false])[h.length]?=some (cx 0 [] 0 [] false):=by simp
 have m0:Mo id (dF v r) h (h++[cx 0 [] 0 [] false]):=(Mo.refl rd).tail _;have fin:∀t:Tok,t=cf r n→ao 5 (.op h.length 0) t.av (h++[cx 0 [] 0 [] false]) fun g=>ah true 5 (.op h.length 0) g fun w=>∃r' h'',Wk h.length [w] g [r'] h''∧r'=(cf r n).av∧Mo id (dF v r) h h'':=by
  rintro t rfl;refine qP (K:=fun w g=>∃r' h'',Wk h.length [w] g [r'] h''∧r'=(cf r n).av∧Mo id (dF v r) h h'') hV ?_;exact⟨_,_,Wk.refl _ _ _ (by simp),rfl,m0.vN (bY _) _⟩
 have hadd:((v.length-r.length:Nat):Int)+(n:Int)=((v.length-r.length+n:Nat):Int):=by omega
 refine bA (zzA (zzU rd2 rfl (zzP (by unfold aJ;omega) ?_)));rw[hadd];refine bA (zzA (zzU rd2 rfl ?_));rw[Hq];refine zzC ?_;have hel:(cA v).length=v.length:=by simp[eA]
 rw[hel];have hg:=Ih hs n
 by_cases q:v.length-r.length+n<v.length
 ·obtain⟨y,hy⟩:∃y,v[v.length-r.length+n]?=some y:=⟨_,dO q⟩;rw[hy]at hg;refine zzL (oF (by omega)) (bA (zzA (zzU rd2 rfl (bA (zzA (zzU rd2 rfl (zzP (by unfold aJ;omega) ?_)))))));rw[hadd];refine zzb (eA v) rfl hy (zzX (zN rfl (by simp[lF]) (NI y) ?_));exact fin (OE y) (by unfold cf;rw[←hg])
 ·rw[iS (by omega)]at hg;refine zzK (nO (by omega)) (ba rfl ?_);exact fin ⟨0,[],0,[],false⟩ (by unfold cf;rw[←hg])
def Mq{id:Nat}{K:AV→aa→Prop}(rd:h[id]?=some (dF v r))(hs:r <:+ v)(ex:x=.op id 0)(hy:r[n]?=some y)(hv:v.length+n<2^40)(k:K (.sl 6 (cA y.list)) h):
 bx p_ (.fn (.func 105) [] []) [x,i_ n] h K:=by
 subst ex;have hle:=hs.length_le;refine cB (by kernel_rfl) rfl (K0:=fun w H=>w=.sl 6 (cA y.list)∧H=h) ?_ (by rintro _ H ⟨rfl,rfl⟩;exact k);refine (YN _ _).bJ ?_;unfold R9;have hadd:((v.length-r.length:Nat):Int)+(n:Int)=((v.length-r.length+n:Nat):Int):=by omega
 refine bA (zzA (zzU rd rfl (bA (zzA (zzU rd rfl (zzP (by unfold aJ;omega) ?_))))));rw[hadd];refine zzb (eA v) rfl (by rw[Ih hs];exact hy) (zzX ?_);have e:(jv y).drop 5=[.sl 6 (cA y.list)]:=by rw[lF,eA];rfl
 refine de (by rw[e]) ?_;exact⟨_,_,Wk.refl _ _ _ (bY _),rfl,rfl⟩
theorem Bv{id:Nat}{K:AV→aa→Prop}(rd:h[id]?=some (dF v r))(hs:r <:+ v)(ex:x=.op id 0)(k:K (b_ r.isEmpty) h):
 bx p_ (.fn (.func 79) [] []) [x] h K:=by
 subst ex;have hle:=hs.length_le;refine cB (by kernel_rfl) rfl (K0:=fun w H=>w=b_ r.isEmpty∧H=h) ?_ (by rintro _ H ⟨rfl,rfl⟩;exact k);refine (V79 _).bJ ?_;unfold Yj;refine bA (zzA (zzU rd rfl (bA (zzA (zzU rd rfl ?_)))));rw[Hq];refine zzG ?_;have hel:(cA v).length=v.length:=by simp[eA]
 have:decide (((v.length-r.length:Nat):Int)=((cA v).length:Int))=r.isEmpty:=by
  rw[hel];cases r with
  | nil=>simp
  | cons y r=>simp at hle ⊢;omega
 rw[this];exact⟨_,_,Wk.refl _ _ _ (bY _),rfl,rfl⟩
end
end
end Go.Proofs.YtpcnidmmkknndaaGreatDoor
end
