/-
 The matcher: a list.
 No conditions.
-/
import Derived.Test.YtkfakehconamoaaGreatDoorProg
import Derived.KernelRfl
import Derived.Test.YtkfakehconamoaaGreatDoorZg
import Derived.Test.YtkfakehconamoaaGreatDoorZe
import Derived.Test.YtkfakehconamoaaGreatDoorZf
import Derived.Test.YtkfakehconamoaaGreatDoorZc
set_option linter.unusedVariables false
set_option linter.unusedSimpArgs false
set_option linter.unusedSectionVars false
set_option linter.defProp false
set_option autoImplicit true
set_option maxRecDepth 1000000
set_option maxHeartbeats 16000000
open Go.Proofs.Tryz renaming prog→p_
noncomputable section
namespace Go.Proofs.YtkfakehconamoaaGreatDoor
section
open Go Go.Aw Go.Qt Go.RowKit
open Go.bE hiding u1 ao
variable [Laid]
structure Xg(t:bg)(M:Sm→Int→Bool)(P:Int→Int→List Int)(x:Cx):Prop where
 IU:aV p_ 73 [nY t,.agg (fL x)] (.sl 1 (fe (nQ t M P x.parts)))
 ba:It t x.rO (nQ t M P x.parts)
 par:∀c∈x.rO,CL t P c
omit [Laid] in
theorem NB(t:bg)(M:Sm→Int→Bool)(P:Int→Int→List Int)(x:Cx):mX t M P x=iq t P x.rO (nQ t M P x.parts) x.rO.length:=by cases x;rw[mX];rfl
theorem D4{t:bg}(hs:eH t)(ba:cU t=true){M:Sm→Int→Bool}{P:Int→Int→List Int}{l:List Cx}(hx:∀x∈l,Xg t M P x)(hll:l.length<2^40){H:aa}{K:AV→aa→Prop}
 (k:∀(id:Nat) (X:aa),H.length≤id→(H++X)[id]?=some (.ak ⟨4,(mL t M P l).map fun b=>b_ b,true⟩)→K (.own id 0 t.length 1) (H++X)) :
 bA p_ (.fn (.func 53) [] []) [nY t,.sl 3 (eR l)] H K:=by
 refine⟨by kernel_rfl, ?_⟩;refine (V53 _ _).bR ?_;unfold VX;obtain⟨l1,l64⟩:=gD ba;rw[ga];refine zM rfl rfl (zJ (t:=t) (by simp) (SL l64 ?_));obtain⟨O,hO⟩:∃O:Nat→Nat→aa→aa,O=fun k i Y=>H++eB t:: eB t:: .ak ⟨4,lS (rj ((mU t M P l).take k)) (rj ((mU t M P l).take (k+1))) t.length i,true⟩:: Y:=⟨_,rfl⟩;have oE:∀{k i:Nat} {Y:aa},(O k i Y)[H.length]?=some (eB t):=fun {k i Y} => by rw[hO];simp
 have oN:∀{k i:Nat} {Y:aa},(O k i Y)[H.length+2]?=some (.ak ⟨4,lS (rj ((mU t M P l).take k)) (rj ((mU t M P l).take (k+1))) t.length i,true⟩):=fun {k i Y} => by
  rw[hO];show (H++_)[H.length+2]?=_;rw[iD (by omega)];simp
 have oA:∀{k i:Nat} {Y Z:aa},O k i Y++Z=O k i (Y++Z):=fun {k i Y Z} => by rw[hO];simp
 have oL:∀{k i:Nat} {Y:aa},H.length+1≤(O k i Y).length:=fun {k i Y} => by rw[hO];simp
 have oS:∀{k i j:Nat} {Y:aa},(O k i Y).set (H.length+2) (.ak ⟨4,lS (rj ((mU t M P l).take k)) (rj ((mU t M P l).take (k+1))) t.length j,true⟩)=O k j Y:=fun {k i j Y} => by
  rw[hO];show (H++_).set _ _=_;rw[Lt _ _ (by omega)];simp
 have e0:H++[eB t]++[eB t,.ak ⟨4,List.replicate t.length ff,true⟩]=O 0 0 []:=by
  rw[hO];simp only[TO,aaQ,List.nil_append];rw[CW]
  congr 4
  simp only[aY.ak.injEq,jl.mk.injEq,true_and,and_true,List.take_zero];apply List.ext_getElem?;intro j;rw[List.getElem?_replicate,iS]
  by_cases h:j<t.length
  ·rw[if_pos h,aah h];rfl
  ·rw[if_neg h,lE (by simp;omega)];rfl
 rw[e0];have hid:(H++[eB t]).length+1=H.length+2:=by simp
 rw[hid];refine zzg (n:=l.length) (by simp) fun _=>?_;refine aG (α:=Nat×aa) (fun q=>q.1≤l.length) (fun q=>[i_ q.1]) (fun q=>O q.1 0 q.2) (fun q=>l.length-q.1) (0,[]) (aao _) (Wk.refl _ _ _ (aS _)) ?_;rintro⟨k1,Y⟩ hk;simp only at hk ⊢;refine zzC (aW rfl (fun q=>?_) fun q=>?_)
 ·have q:k1<l.length:=by have:=uP q;omega
  obtain⟨x,hxk⟩:∃x,l[k1]?=some x:=⟨_,bY q⟩;have hxx:=hx x (eQ hxk);have hrow:(mU t M P l)[k1]?=some (mX t M P x):=by rw[w7,iS,hxk];rfl
  have hrl:(mX t M P x).length=t.length:=by rw[NB];exact yp hxx.ba _
  refine Uc rfl hxk ?_;rw[oA];have hxb:(O k1 0 (Y++[xB x]))[(O k1 0 Y).length]?=some (xB x):=by rw[←oA];simp
  refine KM oE (T9 hxb (zJ oE (Vd hxb (zzT (by kernel_rfl) hxx.IU (zzT (by kernel_rfl) (I0 hs ba hxx.ba hxx.par) ?_)))));rw[←NB];refine zzB rfl (zzB rfl ?_);refine zzg (n:=(mX t M P x).length) (by simp[dH]) fun _=>?_;rw[hrl];refine aG (α:=Nat) (fun i=>i≤t.length) (fun i=>[i_ i]) (fun i=>O k1 i (Y++[xB x])) (fun i=>t.length-i) 0 (aao _) (Wk.refl _ _ _ (aS _)) ?_;rintro i hi;refine zzC (aW rfl (fun z=>?_) fun z=>?_)
  ·have z:i<t.length:=by have:=uP z;omega
   have hb:=qj (l:=mX t M P x) (i:=(i:Int)) (by omega) (by omega);rw[NO]at hb;refine zzc (l:=mX t M P x) (f:=fun b=>[b_ b]) rfl rfl hb (zzW ?_);refine dY (n:=i) rfl rfl z (zzU oN (by rw[aaq,Nat.mul_one];exact JJ _ _ z) (dJ (b2:=(mX t M P x).getD i false) rfl (by trivial) (fun _ F kF=>⟨(by trivial),kF⟩) ?_));rw[←ME hrow i];refine dY (n:=i) rfl rfl z ?_;refine aM (cs:=[b_ (rj ((mU t M P l).take (k1+1)) i)]) (h':=O k1 (i+1) (Y++[xB x])) rfl oN rfl rfl (by rw[w8];simp only[aab,aaN];omega) rfl rfl ?_ ?_
   ·rw[aaq,Nat.mul_one];have:∀(l:List AV) (n:Nat) (a:AV),bU l n [a]=l.set n a:=fun l n a=>rfl;rw[this,GD _ _ z,oS]
   refine zzP (by unfold aZ;omega) ?_;exact⟨(by trivial),i+1,z,Wk.refl _ _ _ (by rw[hO];simp),by omega⟩
  ·have z:¬i<t.length:=fun h=>by have:=At z;omega
   obtain rfl:i=t.length:=by omega
   refine zzP (by unfold aZ;omega) ?_;have e1:O k1 t.length (Y++[xB x])=O (k1+1) 0 (Y++[xB x]):=by rw[hO];simp only;rw[ND,CW]
   rw[e1];exact⟨(by trivial),(k1+1,Y++[xB x]),q,Wk.refl _ _ _ (by rw[hO];simp),by simp only;omega⟩
 ·have q:¬k1<l.length:=fun h=>by have:=At q;omega
  obtain rfl:k1=l.length:=by omega
  have hfin:=k (H.length+2) (eB t:: eB t:: .ak ⟨4,lS (rj ((mU t M P l).take l.length)) (rj ((mU t M P l).take (l.length+1))) t.length 0,true⟩:: Y) (by omega) (by
   have:=oN (k:=l.length) (i:=0) (Y:=Y);rw[hO]at this;rw[this,CW,mL,Cc,yF];have e:(mU t M P l).take l.length=mU t M P l:=Of (by rw[w7];simp);rw[e];simp only[NO])
  rw[hO];exact⟨_,_,Wk.refl _ _ _ (by simp),hfin⟩
end
end Go.Proofs.YtkfakehconamoaaGreatDoor
section
namespace Go.Qt
open Go Go.Aw Go.bE
theorem nn(t:bg)(M:Sm→Int→Bool)(P:Int→Int→List Int)(l:List Cx):(mL t M P l).length=t.length:=by rw[mL,Cc,qz]
theorem HW{t:bg}(h:1≤t.length)(M:Sm→Int→Bool)(P:Int→Int→List Int)(l:List Cx):mL t M P l≠[]:=fun e=>by have:=nn t M P l;rw[e]at this;simp at this;omega
theorem wZ(t:bg)(M:Sm→Int→Bool)(P:Int→Int→List Int)(s:Sm):mS t M P s=if s.kind=11∨s.kind=12 then mL t M P s.list else if s.kind=13 then (mL t M P s.list).map not else []:=by cases s;rw[mS];rfl
def k3(k:Int):Prop:=gA k=true→k=11∨k=12∨k=13
theorem UE{t:bg}{M:Sm→Int→Bool}{P:Int→Int→List Int}{s:Sm}(h:gA s.kind=false):mS t M P s=[]:=by
 rw[wZ];have h1:¬(s.kind=11∨s.kind=12):=by rintro (e|e)<;>rw[e]at h<;>exact absurd h (by decide)
 have h2:¬s.kind=13:=by intro e;rw[e]at h;exact absurd h (by decide)
 rw[if_neg h1,if_neg h2]
theorem S0{t:bg}{M:Sm→Int→Bool}{P:Int→Int→List Int}{s:Sm}(h:gA s.kind=true)(k:k3 s.kind):(mS t M P s).length=t.length:=by
 rw[wZ];rcases k h with e|e|e
 ·rw[if_pos (.inl e),nn]
 ·rw[if_pos (.inr e),nn]
 ·rw[if_neg (by omega),if_pos e,aac,nn]
end Go.Qt
namespace Go.Proofs.YtkfakehconamoaaGreatDoor
open Go Go.Aw Go.Qt Go.RowKit
open Go.bE hiding u1 ao
def nT(t:bg)(M:Sm→Int→Bool)(P:Int→Int→List Int)(s:Sm):AV:=if gA s.kind then .sl 1 (dH (mS t M P s)) else .v (.slice none 0 0)
theorem E4(t:bg)(M:Sm→Int→Bool)(P:Int→Int→List Int)(s:Sm):Aw.Pure (nT t M P s):=by
 unfold nT;split
 ·exact lp _
 ·simp[Aw.Pure]
theorem Nb(t:bg)(M:Sm→Int→Bool)(P:Int→Int→List Int)(s:Sm):bl (nT t M P s)=[nT t M P s]∧bw (nT t M P s)=true:=by
 unfold nT;split<;>exact⟨rfl,rfl⟩
variable [Laid]
theorem DF{t:bg}(hs:eH t)(ba:cU t=true){M:Sm→Int→Bool}{P:Int→Int→List Int}{s:Sm}(hk:k3 s.kind)(hx:gA s.kind=true→∀x∈s.list,Xg t M P x)(hll:s.list.length<2^40):
 aV p_ 119 [nY t,.agg (dv s)] (nT t M P s):=by
 refine (Xj _ _).aQ (by simp only[aq,Aw.Pure,and_true];exact⟨Ie t,p8 s⟩) (E4 _ _ _ _) ?_;unfold QH;obtain⟨l1,l64⟩:=gD ba;refine zM (h':=[eB t]) rfl rfl (tQ (n:=1) (h':=[eB t,sB s]) rfl rfl ?_);have ldK:∀{K:AV→Prop},K (bE.u1 s.kind)→aN 0 (.op 1 0) fun a=>ae false 1 a [eB t,sB s] K:=fun k=>aR rfl (zzU rfl (by rw[ia];rfl) k);have ldL:∀{K:AV→Prop},K (.sl 3 (eR s.list))→aN 8 (.op 1 0) fun a=>ae false 1 a [eB t,sB s] K:=fun k=>aR rfl (zzU rfl (by rw[ia,ga];rfl) k);refine ldK ?_;have orK:∀{a b:Int} {K:List AV→aa→Prop},K [b_ (decide (s.kind=a)||decide (s.kind=b))] [eB t,sB s]→aI (fun J=>ag .eql (bE.u1 s.kind) (.v (.int .u8 a)) fun v8=>af v8 ([AV.op 0 0,.op 1 0,bE.u1 s.kind]=[AV.op 0 0,.op 1 0,bE.u1 s.kind]∧J [tt] [eB t,sB s]) (ag .eql (bE.u1 s.kind) (.v (.int .u8 b)) fun v9=>[AV.op 0 0,.op 1 0,bE.u1 s.kind]=[AV.op 0 0,.op 1 0,bE.u1 s.kind]∧J [v9] [eB t,sB s])) K:=fun {a b K} k=>by
  refine aK (zzG (aW rfl (fun z=>⟨rfl, ?_⟩) fun z=>bK rfl rfl ⟨rfl, ?_⟩))
  ·rw[z,Bool.true_or]at k;exact k
  ·rw[z,Bool.false_or]at k;exact k
 refine orK ?_;have e9:gA s.kind=false→s.kind≠9∧s.kind≠10∧s.kind≠11∧s.kind≠12∧s.kind≠13∧s.kind≠14:=fun h=>by
  refine⟨?_, ?_, ?_, ?_, ?_, ?_⟩<;>intro e<;>rw[e]at h<;>exact absurd h (by decide)
 have l3:s.kind=11∨s.kind=12∨s.kind=13→gA s.kind=true:=by rintro (e|e|e)<;>rw[e]<;>decide
 refine aW rfl (fun z=>?_) fun z=>?_
 ·have z:s.kind=11∨s.kind=12:=by simpa using z
  have hl:=l3 (by omega);refine zJ rfl (ldL ?_);refine D4 hs ba (hx hl) hll fun id X _ hid=>?_;refine cf.sq 1 ?_;have tw:Tw ([eB t,sB s]++X) (.own id 0 t.length 1) (mL t M P s.list):=.inr ⟨HW l1 _ _ _,id,by rw[nn],hid⟩;rw[tw.tl 0];unfold nT;rw[if_pos hl,wZ,if_pos z]
 have z1:¬(s.kind=11∨s.kind=12):=by simpa using z
 refine zzG (aW rfl (fun z=>?_) fun z=>?_)
 ·have z:s.kind=13:=uP z;have hl:=l3 (by omega);refine zJ rfl (ldL ?_);refine D4 hs ba (hx hl) hll fun id X _ hid=>?_;refine (tz _ _ _ _ _).2 fun _=>?_;obtain⟨g,hg⟩:∃g:Nat→Bool,g=fun j=>rj (mU t M P s.list) j:=⟨_,rfl⟩;have hc:(mL t M P s.list).map (fun b=>Aw.b_ b)=lS g (fun j=>!g j) t.length 0:=by rw[CW,mL,Cc,yF,hg];simp only[NO]
  rw[hc]at hid;refine aG (α:=Nat×aa) (fun q=>q.1≤t.length∧q.2[id]?=some (.ak ⟨4,lS g (fun j=>!g j) t.length q.1,true⟩)∧q.2.length=([eB t,sB s]++X).length) (fun q=>[i_ q.1]) (fun q=>q.2) (fun q=>t.length-q.1) (0,_) ⟨aao _,hid,rfl⟩ (Wk.refl _ _ _ (aS _)) ?_;rintro⟨i,H⟩ ⟨hi,hH,hlen⟩;simp only at hi hH hlen ⊢;refine zzC (aW rfl (fun y=>?_) fun y=>?_)
  ·have y:i<t.length:=by have:=uP y;omega
   refine dY (n:=i) rfl rfl y (zzU hH (by rw[aaq,Nat.mul_one];exact JJ _ _ y) (zzO (dY (n:=i) rfl rfl y ?_)));refine aM (cs:=[b_ (!g i)]) (h':=H.set id (.ak ⟨4,lS g (fun j=>!g j) t.length (i+1),true⟩)) rfl hH rfl rfl (by rw[w8];simp only[aab,aaN];omega) rfl rfl ?_ ?_
   ·rw[aaq,Nat.mul_one];have:∀(l:List AV) (n:Nat) (a:AV),bU l n [a]=l.set n a:=fun l n a=>rfl;rw[this,GD g (fun j=>!g j) y]
   refine zzP (by unfold aZ;omega) ?_;refine⟨(by trivial),(i+1,_),⟨y, ?_,by rw[aan];exact hlen⟩,Wk.refl _ _ _ (by rw[aan,hlen];exact aS _),by simp only;omega⟩;rw[iF (dO.1 hH).1]
  ·have y:¬i<t.length:=fun h=>by have:=At y;omega
   obtain rfl:i=t.length:=by omega
   refine cf.sq 1 ?_;have hn:lS g (fun j=>!g j) t.length t.length=((mL t M P s.list).map not).map fun b=>Aw.b_ b:=by
    rw[ND,mL,Cc,List.map_map,hg,jM,List.map_map];apply List.map_congr_left;intro j _;simp
   rw[hn]at hH;have tw:Tw H (.own id 0 t.length 1) ((mL t M P s.list).map not):=.inr ⟨fun e=>HW l1 _ _ _ (List.map_eq_nil_iff.1 e),id,by rw[aac,nn],hH⟩;rw[tw.tl 0];unfold nT;rw[if_pos hl,wZ,if_neg z1,if_pos z]
 have z2:¬s.kind=13:=At z;have hno:gA s.kind=false:=by
  cases h:gA s.kind with
  | false=>rfl
  | true=>have:=hk h;omega
 have hn:=e9 hno;refine orK (zzK (by rw[oF hn.1,oF hn.2.1];rfl) ?_);refine zzG (zzK (oF hn.2.2.2.2.2) ?_);refine .pure (by simp[Aw.Pure]) ?_;unfold nT;rw[hno];rfl
end Go.Proofs.YtkfakehconamoaaGreatDoor
end
section
namespace Go.Aw
open Go
variable [Laid]
omit [Laid] in
theorem KE{h:aa}{L d id len sz:Nat}{b:jl}(hL:¬id<L)(hb:h[id]?=some (.ak b))(hl:len*sz≤b.cells.length):tl L h (d+1) (.own id 0 len sz)=.sl sz ((chunks sz len b.cells).map (List.map (tl L h d))):=by
 show dt (tl L h d) L h _=_;rw[dt,if_neg hL,hb];simp only[aaq];rw[if_pos hl,List.drop_zero]
end Go.Aw
namespace Go.Proofs.YtkfakehconamoaaGreatDoor
open Go Go.Aw Go.Qt Go.RowKit
open Go.bE hiding u1 ao
theorem FK:∀l:List AV,chunks 1 l.length l=l.map fun a=>[a]
 | []=>rfl
 | a:: l=>by
   simp only[aab,chunks,List.take_succ_cons,List.take_zero,List.drop_succ_cons,List.drop_zero,IF];rw[FK l]
variable [Laid]
structure Pg(t:bg)(M:Sm→Int→Bool)(P:Int→Int→List Int)(p:Cp):Prop where
 ok:Iv t M p
 k3:∀s∈p.bo,k3 s.kind
 IU:∀s∈p.bo,aV p_ 119 [nY t,.agg (dv s)] (nT t M P s)
theorem HB{t:bg}(hs:eH t)(ba:cU t=true){M:Sm→Int→Bool}{P:Int→Int→List Int}{x:Cx}(hp:∀p∈x.parts,Pg t M P p)(hn:x.parts≠[])(hl:x.parts.length≤64):
 aV p_ 73 [nY t,.agg (fL x)] (.sl 1 (fe (nQ t M P x.parts))):=by
 refine (V73 _ _).aQ (by simp only[aq,Aw.Pure,and_true];exact⟨Ie t,zx x⟩) (rk _) ?_;unfold Wj;obtain⟨l1,l64⟩:=gD ba;refine zM (h':=[eB t]) rfl rfl (Ua (n:=1) (h':=[eB t,xB x]) rfl rfl ?_);refine T8 rfl (zzg (n:=x.parts.length) (by simp) fun _=>?_);have hm:∀k,(nQ t M P (x.parts.take k)).length=min k x.parts.length:=fun k=>by rw[mT];simp
 refine aG (α:=Nat×AV×aa) (fun q=>q.1≤x.parts.length∧jE 53 1 q.2.1 q.2.2 (fe (nQ t M P (x.parts.take q.1)))∧2≤q.2.2.length∧q.2.2[0]?=some (eB t)) (fun q=>[q.2.1,i_ q.1]) (fun q=>q.2.2) (fun q=>x.parts.length-q.1) (0,.v (.slice none 0 0),[eB t,xB x]) ⟨aao _,.inl ⟨by simp[nQ,fe],rfl⟩,aS _,rfl⟩ (Wk.refl _ _ _ (aS _)) ?_;rintro⟨k,a,H⟩ ⟨hk,hg,hH2,hH0⟩;simp only at hk hg hH2 hH0 ⊢;refine zzC (aW rfl (fun q=>?_) fun q=>?_)
 ·have q:k<x.parts.length:=by have:=uP q;omega
  obtain⟨p,hpk⟩:∃p,x.parts[k]?=some p:=⟨_,bY q⟩;have pg:=hp p (eQ hpk);have hpl:=pg.ok.len;refine Ub rfl hpk ?_;have gp:∀X:aa,(H++[pB p]++X)[H.length]?=some (pB p):=fun X=>by simp
  have ge:∀X:aa,(H++X)[0]?=some (eB t):=fun X=>by rw[gE (by omega)];exact hH0
  have gp0:(H++[pB p])[H.length]?=some (pB p):=by simp
  refine pz gp0 (zzg (n:=p.bo.length) (by simp) fun _=>?_);refine KQ rfl (by omega) (by decide) ?_;refine pz (gp _) (zzg (n:=p.bo.length) (by simp) fun _=>?_);obtain⟨C,hC⟩:∃C:Nat→List AV,C=fun j=>(p.bo.take j).map (nT t M P)++List.replicate (p.bo.length-j) (.v (.slice none 0 0)):=⟨_,rfl⟩;have hCl:∀j,j≤p.bo.length→(C j).length=p.bo.length:=fun j hj=>by rw[hC];simp;omega
  have hid:(H++[pB p]).length=H.length+1:=by simp
  rw[hid];have e0:List.replicate p.bo.length (.v (.slice none 0 0))=C 0:=by rw[hC];simp
  rw[e0];have gC:∀{j:Nat} {Y:aa},(H++pB p:: .ak ⟨53,C j,true⟩:: Y)[H.length+1]?=some (.ak ⟨53,C j,true⟩):=fun {j Y} => by rw[iD (by omega)];simp
  have gP:∀{e:aY} {Y:aa},(H++pB p:: e:: Y)[H.length]?=some (pB p):=fun {j Y} => by simp
  rw[TO];refine aG (α:=Nat×aa) (fun q=>q.1≤p.bo.length) (fun q=>[i_ q.1]) (fun q=>H++pB p:: .ak ⟨53,C q.1,true⟩:: q.2) (fun q=>p.bo.length-q.1) (0,[]) (aao _) (Wk.refl _ _ _ (by simp)) ?_;rintro⟨j,Y⟩ hj;simp only at hj ⊢;refine zzC (aW rfl (fun z=>?_) fun z=>?_)
  ·have z:j<p.bo.length:=by have:=uP z;omega
   obtain⟨s,hsj⟩:∃s,p.bo[j]?=some s:=⟨_,bY z⟩;have hsm:=eQ hsj;refine wx rfl hsj ?_;have eA:H++pB p:: .ak ⟨53,C j,true⟩:: Y++[sB s]=H++pB p:: .ak ⟨53,C j,true⟩:: (Y++[sB s]):=by simp
   have gs:(H++pB p:: .ak ⟨53,C j,true⟩:: (Y++[sB s]))[(H++pB p:: .ak ⟨53,C j,true⟩:: Y).length]?=some (sB s):=by rw[←eA];simp
   rw[eA];refine zJ (ge _) (nI gs (uCon (pg.IU s hsm) (dY (n:=j) rfl rfl z ?_)));have hw:=Nb t M P s;refine aM (cs:=[nT t M P s]) (h':=H++pB p:: .ak ⟨53,C (j+1),true⟩:: (Y++[sB s])) rfl gC rfl hw.1 (by rw[hCl j hj];simp only[aab,aaN];omega) rfl (by rw[aaC,hw.2];rfl) ?_ ?_
   ·have:∀(l:List AV) (n:Nat) (a:AV),bU l n [a]=l.set n a:=fun l n a=>rfl;rw[this,Lt _ _ (by omega)];have e:H.length+1-H.length=1:=by omega
    rw[e];simp only[List.set_cons_succ,List.set_cons_zero,aaq,Nat.mul_one]
    congr 4
    rw[hC];simp only;rw[Lt _ _ (by simp;omega),DO,hsj];obtain⟨m,hm⟩:∃m,p.bo.length-j=m+1:=⟨p.bo.length-j-1,by omega⟩;rw[hm,show p.bo.length-(j+1)=m by omega,List.replicate_succ];simp[Nat.min_eq_left hj]
   refine zzP (by unfold aZ;omega) ?_;exact⟨(by trivial),(j+1,Y++[sB s]),z,Wk.refl _ _ _ (by simp),by simp only;omega⟩
  ·have z:¬j<p.bo.length:=fun h=>by have:=At z;omega
   obtain rfl:j=p.bo.length:=by omega
   refine KM (ge _) (C7 gP (T6 (ge _) ?_));obtain⟨G,hG⟩:∃G:aa,G=H++pB p:: .ak ⟨53,C p.bo.length,true⟩:: Y:=⟨_,rfl⟩;have hGC:G[H.length+1]?=some (.ak ⟨53,C p.bo.length,true⟩):=by rw[hG];exact gC
   have hGl:H.length≤G.length:=by rw[hG];simp
   rw[←hG];have hCn:C p.bo.length=p.bo.map (nT t M P):=by rw[hC];simp
   have hLok:Ql t p (vT t M P p.bo):=by
    refine⟨by rw[w6];simp,fun k s hks hl=>?_⟩;have:(vT t M P p.bo).getD k []=mS t M P s:=by rw[w6,nO,iS,hks];rfl
    rw[this];exact S0 hl (pg.k3 s (eQ hks))
   refine HN H.length 1 hGl (by kernel_rfl) (Lz hs ba pg.ok hLok) ?_ ?_
   ·have p1:tl H.length G 2 (cV t)=cV t:=rA (dh t);have p2:tl H.length G 2 (.agg (fD p))=.agg (fD p):=rA (by simp only[Aw.Pure];exact uG p);have p3:tl H.length G 2 (i_ (-1))=i_ (-1):=rA (by simp[Aw.Pure]);simp only[IF,List.map_nil];rw[p1,p2,p3,KE (by omega) hGC (by rw[hCl _ (aS _)];omega)];refine .cons (.refl _) (.cons (.refl _) (.cons (.refl _) (.cons (.sl ?_) .nil)));have hlen:p.bo.length=(C p.bo.length).length:=(hCl _ (aS _)).symm;show lI ((chunks 1 p.bo.length (C p.bo.length)).map _) _;rw[show chunks 1 p.bo.length (C p.bo.length)=chunks 1 (C p.bo.length).length (C p.bo.length) by rw[←hlen],FK,hCn,w6];have:∀l:List Sm,lI ((((l.map (nT t M P)).map fun a=>[a]).map (List.map (tl H.length G 1)))) (fe (l.map (mS t M P))):=fun l=>by
     induction l with
     | nil=>exact .nil
     | cons s l ih =>
       simp only[IF,List.map_nil,fe];refine .cons (.cons ?_ .nil) ih;rw[rA (E4 t M P s)];unfold nT;cases h:gA s.kind with
       | true=>exact .refl _
       | false=>rw[UE h];exact .nil 1
    exact this p.bo
   have hrow:mP t M P p=jM t (vD t M (oq (vT t M P p.bo)) p):=by cases p;rw[mP];rfl
   rw[←hrow];have hgB:gB (mP t M P p)=.sl 1 (dH (mP t M P p)):=by unfold gB;rw[if_neg (by rw[hrow];exact FG l1 _)]
   rw[hgB];refine zzB rfl (zzB rfl ?_);have mk:∀{K:AV→Prop} {r:List (List AV)},K (.sl 1 [[.sl 1 r]])→bz 1 1 (.v (.slice none 0 0)) [(0,1,.sl 1 r)] K:=fun q=>q;refine mk ?_;have hg':jE 53 1 a (xz H.length G) (fe (nQ t M P (x.parts.take k))):=by
    rcases hg with h|⟨h1,id,h2,h3⟩
    ·exact .inl h
    ·have hlt:=(dO.1 h3).1;exact .inr ⟨h1,id,h2,Jm hlt (by rw[hG,gE hlt];exact h3) (fun b e=>by cases e) (fun c es e=>by cases e) (fun a b c d e=>by cases e)⟩
   have h0':(xz H.length G)[0]?=some (eB t):=Jm (by omega) (by rw[hG];exact ge _) (fun b e=>by
    cases e;have:=Ie t;unfold nY at this;simpa[Aw.Pure]using this) (fun c es e=>by cases e) (fun a b c d e=>by cases e)
   refine mQ hg' rfl (by decide) (by simp only[fe,aac,hm];omega) fun a' H' g' b' => ?_;refine zzP (by unfold aZ;omega) ?_;have hle:(xz H.length G).length≤H'.length:=b'.1;rw[Gi hGl]at hle;refine⟨(by trivial),(k+1,a',H'),⟨q, ?_,by simp only;omega,b'.2 0 _ h0'⟩,Wk.refl _ _ _ (by simp only[aab,aaN];omega),by simp only;omega⟩;simp only;rw[DO,hpk,mT]at *;simpa[fe,mT]using g'
 ·have q:¬k<x.parts.length:=fun h=>by have:=At q;omega
  obtain rfl:k=x.parts.length:=by omega
  rw[Gt]at hg;refine cf.sq 1 ?_;show Aw.tl 0 H 1 a=_;rw[hg.told (rk _),if_neg];intro e;have:=congrArg List.length e;simp[fe,mT]at this;exact hn this
end Go.Proofs.YtkfakehconamoaaGreatDoor
end
namespace Go.Proofs.YtkfakehconamoaaGreatDoor
section
open Go Go.Aw Go.bE
variable [Laid]
def Lq(hn:n<2^60)(hS:Qh n):Nh (n+1):=by
 rintro⟨t,ss⟩ hz d has hd;rw[zP]at hz;refine (W0 _ _).aQ (by simp[uG]) (by simp) ?_;unfold Qu;rw[fD];have hlen:(kx ss).length=ss.length:=by simp[mN]
 have hsl:=Bw ss;repeat' (first|(with_reducible apply aK)|(with_reducible apply ar)|((with_reducible apply cS);rfl;rfl)|((with_reducible apply nL);rfl;rfl)|((with_reducible apply dC);rfl)|((with_reducible apply bu);rfl)|((with_reducible apply bt);rfl)|((with_reducible apply aF);rfl;first|rfl|assumption)|((with_reducible apply cd);rfl;first|rfl|assumption)|((with_reducible apply bV);rfl;first|rfl|assumption)|((with_reducible apply jL);rfl)|((with_reducible apply aR);rfl)|((with_reducible apply aE);rfl;rfl;rfl)|((with_reducible apply gi);first|rfl|simp)|((with_reducible apply cr);rfl;(first|rfl|simp);intro _)|(refine uCon (vC _) ?_)|((with_reducible apply aW);rfl)|((with_reducible apply eG);rfl)|(with_reducible intro _))
 all_goals first
  | (refine .pure (by simp) ?_
     have:fi d has (.mk t ss)=false:=by rw[fi];grind
     rw[this])
  | (have b1:(decide (t=[])||decide (t=[42])||small t)=true:=by grind
     have b2:ss.length≤64:=by grind
     refine aG (α:=Nat) (fun k=>k≤ss.length∧(ss.take k).all (nq d has)=true) (fun k=>[i_ k]) (fun _=>[.ak ⟨121,[.str t,.sl 9 (kx ss)],true⟩,.ak ⟨93,[i_ d,b_ has],true⟩]) (fun k=>ss.length-k) 0 (by simp) (Wk.refl _ _ _ (by simp)) ?_;rintro k ⟨hk,hI⟩;rcases AS k ss.length with q|q
     ·obtain⟨s,hx⟩:∃s,ss[k]?=some s:=⟨ss[k],bY q⟩;have hin:aZ ((k:Int)+1):=by unfold aZ;omega
      have nxt:(ss.take (k+1)).all (nq d has)=nq d has s:=by
       rw[DO,hx,List.all_append,hI];simp
      have bad:nq d has s=false→fi d has (.mk t ss)=false:=by
       intro hb;rw[fi,yg];have:ss.all (nq d has)=false:=by
        rw[List.all_eq_false];exact⟨s,eQ hx,by simp[hb]⟩
       rw[this];simp
      have hzs:zS s≤n:=by have:=Bx (eQ hx);omega
      refine zzC (zzL (by rw[hlen];simpa using q) (zzc (mN ss) rfl hx (zzY (by simp[ia]) (gi rfl (gd (cs:=dv s) rfl rfl rfl rfl (by simp[ia]) (by simp[ia]) (by simp[ia]) ?_)))));have hset:bU (bl (.agg [(u8 0),(.str []),(u8 0),(.str []),ff,(i_ 0),(i_ 0),ff,(.v (.slice none 0 0))])) 0 (dv s)=dv s:=by rw[ia];rfl
      rw[hset];refine zzV rfl (by simp[ia]) (zzV rfl (aS _) (wv (by simp[ia]) (by kernel_rfl) (hS s hzs d has hd) ?_));repeat' (first|(with_reducible apply ar)|((with_reducible apply bQ);rfl;rfl;first|assumption|(unfold aZ;omega))|((with_reducible apply dC);rfl)|((with_reducible apply sX);rfl)|((with_reducible apply aW);rfl)|(with_reducible intro _))
      all_goals first
       | exact .pure (by simp) (by rw[bad (by simp_all)])
       | exact⟨k+1,⟨q,by rw[nxt];simp_all⟩,Wk.back (M:=2) (by simp) (by simp) rfl (by simp) (by simp[mr];exact⟨jK _ _ (by simp[zw]),jK _ _ (by simp)⟩) (by simp[Bd]),by omega⟩
     ·have hk:k=ss.length:=by omega
      subst hk;rw[Gt]at hI;refine zzC (zzK (by rw[hlen];simp) ?_);repeat' (first|(with_reducible apply aK)|((with_reducible apply cS);rfl;rfl)|((with_reducible apply nL);rfl;rfl)|((with_reducible apply bu);rfl)|((with_reducible apply bt);rfl)|((with_reducible apply cd);rfl;first|rfl|assumption)|((with_reducible apply bV);rfl;first|rfl|assumption)|((with_reducible apply jL);rfl)|((with_reducible apply aR);rfl)|((with_reducible apply aE);rfl;rfl;rfl)|((with_reducible apply cr);rfl;(first|rfl|simp);intro _))
      all_goals refine .pure (by simp) ?_
      all_goals rw[fi,yg,hI,b1]
      all_goals cases ss<;>simp_all [kx])
def OK(d:Nat)(has:Bool)(k:Int)(hd:d≤3)(hq:kQ d has k=true):aV p_ 211 [.agg [i_ d,b_ has],u1 k] (.aw [.agg [i_ (d+1),b_ (has||decide (k=14))],tt]):=by
 have:=yN d has k hd;rw[hq]at this;simpa using this
def OJ(d:Nat)(has:Bool)(k:Int)(hd:d≤3)(hq:kQ d has k=false):aV p_ 211 [.agg [i_ d,b_ has],u1 k] (.aw [.agg [i_ 0,ff],ff]):=by
 have:=yN d has k hd;rw[hq]at this;simpa using this
def Fg(hX:Iq n)(x:Cx)(hz:zX x≤n)(d:Nat)(has:Bool)(hd:d≤3)(k:Int)(r:List AV)(pr:aq r):aV p_ 214 [.agg (fL x),.ip [i_ d,b_ has],.ip (u1 k:: r)] (b_ (!lF d has (decide (k=14)) x)):=by
 refine (X9 _ _ _).aQ (by simp[zx,pr]) (by simp) ?_;unfold RB;refine gi (by rw[iM];rfl) (zzV rfl (by simp[iM]) (zzY rfl (zzX (zzW (zzG (wv (by simp[iM]) (by kernel_rfl) (hX x hz d has (decide (k=14)) hd) (zzO ?_)))))));exact .pure (by simp) rfl
def Fh(hX:Iq n)(l:List Cx)(hz:ft l≤n)(d:Nat)(has:Bool)(hd:d≤3)(k:Int)(r:List AV)(pr:aq r):aV p_ 114 [.sl 3 (eR l),.fn (.func 214) [] [.ip [i_ d,b_ has],.ip (u1 k:: r)]] (b_ (!mA d has (decide (k=14)) l)):=by
 have:=u3 l 214 [.ip [i_ d,b_ has],.ip (u1 k:: r)] (fun x=>!lF d has (decide (k=14)) x) (by simp[aq,Aw.Pure,pr]) (by kernel_rfl) (fun x hx=>Fg hX x (by have:=xo hx;omega) d has hd k r pr);rw[yi,show (!l.all (lF d has (decide (k=14))))=l.any (fun x=>!lF d has (decide (k=14)) x) by simp[List.any_eq_not_all_not]];exact this
omit [Laid] in
def Tg(d:Nat)(has:Bool)(k:Int)(n:ao)(o:Int)(v:ao)(f:Bool)(a b:Int)(w:Bool)(l:List Cx):nq d has (.mk k n o v f a b w l)=(jn k n o v f a b w&&(if my k w then kQ d has k&&(lh k||!decide (l.length=0))&&mA (d+1) (has||decide (k=14)) (decide (k=14)) l else decide (l.length=0))):=by
 rw[nq];have:l.isEmpty=decide (l.length=0):=by cases l<;>simp
 rw[this];unfold kQ
 grind
def Lr(hX:Iq n):Qh (n+1):=by
 rintro⟨k,na,o,v,f,a,b,w,l⟩ hz d has hd;rw[zS]at hz;refine (XF _ _).aQ (by simp[p8]) (by simp) ?_;unfold Q4;rw[dv,Tg];have hlen:(eR l).length=l.length:=by simp[ga]
 have pX:=nv l;cases hq:kQ d has k
 ·repeat' (first|(with_reducible apply aK)|(with_reducible apply ar)|((with_reducible first|apply kv|apply cS|apply fk|apply bK|apply cz);rfl;rfl)|((with_reducible first|apply gy|apply nL);rfl;rfl)|((with_reducible apply dC);rfl)|((with_reducible apply bu);rfl)|((with_reducible apply bt);rfl)|((with_reducible apply aF);rfl;first|rfl|assumption)|((with_reducible apply az);rfl;first|rfl|assumption)|((with_reducible apply cd);rfl;first|rfl|assumption)|((with_reducible apply bV);rfl;first|rfl|assumption)|((with_reducible apply cX);rfl)|((with_reducible apply sX);rfl)|((with_reducible apply jL);rfl)|((with_reducible apply aR);rfl)|((with_reducible apply aE);rfl;rfl;rfl)|((with_reducible apply cK);rfl;rfl;first|exact aS _|exact nE rfl)|((with_reducible apply Hc);rfl;rfl;rfl)|((with_reducible apply gi);first|rfl|simp)|((with_reducible apply gd);rfl;rfl;rfl;rfl;(first|exact aS _|simp);(first|rfl|simp);(first|rfl|simp))|((with_reducible apply cr);rfl;(first|rfl|simp);intro _)|((with_reducible apply bp);rfl)|((with_reducible apply cN);rfl;rfl)|(refine uCon (BH k na o v f a b w (eR l) pX) ?_)|(refine uCon (OJ d has k hd hq) ?_)|(refine uCon (vA _) ?_)|(refine uCon (vC _) ?_)|(refine uCon (xS _ _) ?_)|(refine uCon (qI _ _) ?_)|((with_reducible apply aW);rfl)|((with_reducible apply eG);rfl)|(with_reducible intro _))
  all_goals refine .pure (by simp) ?_
  all_goals simp only[kq,pt,AV.v.injEq,Value.bool.injEq,Value.int.injEq,true_and,hlen]at *
  all_goals grind [my,y5,jQ,jn,lh,ij]
 ·have hd':d+1≤3:=by unfold kQ at hq;grind
  repeat' (first|(with_reducible apply aK)|(with_reducible apply ar)|((with_reducible first|apply kv|apply cS|apply fk|apply bK|apply cz);rfl;rfl)|((with_reducible first|apply gy|apply nL);rfl;rfl)|((with_reducible apply dC);rfl)|((with_reducible apply bu);rfl)|((with_reducible apply bt);rfl)|((with_reducible apply aF);rfl;first|rfl|assumption)|((with_reducible apply az);rfl;first|rfl|assumption)|((with_reducible apply cd);rfl;first|rfl|assumption)|((with_reducible apply bV);rfl;first|rfl|assumption)|((with_reducible apply cX);rfl)|((with_reducible apply sX);rfl)|((with_reducible apply jL);rfl)|((with_reducible apply aR);rfl)|((with_reducible apply aE);rfl;rfl;rfl)|((with_reducible apply cK);rfl;rfl;first|exact aS _|exact nE rfl)|((with_reducible apply Hc);rfl;rfl;rfl)|((with_reducible apply gi);first|rfl|simp)|((with_reducible apply gd);rfl;rfl;rfl;rfl;(first|exact aS _|simp);(first|rfl|simp);(first|rfl|simp))|((with_reducible apply cr);rfl;(first|rfl|simp);intro _)|((with_reducible apply bp);rfl)|((with_reducible apply cN);rfl;rfl)|(refine uCon (BH k na o v f a b w (eR l) pX) ?_)|(refine uCon (OK d has k hd hq) ?_)|(refine qR (by kernel_rfl) (Fh hX l (by omega) (d+1) (has||decide (k=14)) hd' k [.str na,u1 o,.str v,b_ f,i_ a,i_ b,b_ w,.sl 3 (eR l)] (by simp[pX])) (by simp only[IF,List.map_nil,iz];exact⟨by rw[Bo _ _ _ _ (by simp[pX])];exact Le.refl _,by simp[tl,dt,lH,yv _ _ _ _ pX],trivial⟩) (by simp) ?_)|(refine uCon (vA _) ?_)|(refine uCon (vC _) ?_)|(refine uCon (xS _ _) ?_)|(refine uCon (qI _ _) ?_)|((with_reducible apply aW);rfl)|((with_reducible apply eG);rfl)|(with_reducible intro _))
  all_goals refine .pure (by simp) ?_
  all_goals simp only[kq,pt,AV.v.injEq,Value.bool.injEq,Value.int.injEq,true_and,hlen]at *
  all_goals grind [my,y5,jQ,jn,lh,ij]
end
end Go.Proofs.YtkfakehconamoaaGreatDoor
section
namespace Go.bE
open Go Go.Aw
mutual
theorem UI:∀x:Cx,nX x+1≤zX x
 | .mk _ ps _=>by rw[nX,zX];have:=JL ps;omega
theorem JL:∀l:List Cp,fE l≤lZ l
 | []=>by simp[fE]
 | p:: l=>by rw[fE,lZ];have:=UG p;have:=JL l;omega
theorem UG:∀p:Cp,nP p≤zP p
 | .mk _ ss=>by rw[nP,zP];have:=JM ss;omega
theorem JM:∀l:List Sm,dA l≤nU l
 | []=>by simp[dA]
 | s:: l=>by rw[dA,nU];have:=UH s;have:=JM l;omega
theorem UH:∀s:Sm,nS s≤zS s
 | .mk _ _ _ _ _ _ _ _ l=>by rw[nS,zS];have:=Ej l;omega
theorem Ej:∀l:List Cx,l.length+dR l≤ft l
 | []=>by simp[dR]
 | x:: l=>by rw[dR,ft];have:=UI x;have:=Ej l;simp;omega
end
def Mt{l:List Cx}{k:Nat}{x:Cx}(h:l[k]?=some x):dR (l.take (k+1))=dR (l.take k)+nX x:=by
 induction l generalizing k with
 | nil=>simp at h
 | cons y l ih =>
   cases k with
   | zero=>simp at h;subst h;simp[dR]
   | succ k=>simp at h;rw[List.take_succ_cons,dR,ih h,List.take_succ_cons,dR];omega
def Mp{l:List Cp}{k:Nat}{x:Cp}(h:l[k]?=some x):fE (l.take (k+1))=fE (l.take k)+nP x:=by
 induction l generalizing k with
 | nil=>simp at h
 | cons y l ih =>
   cases k with
   | zero=>simp at h;subst h;simp[fE]
   | succ k=>simp at h;rw[List.take_succ_cons,fE,ih h,List.take_succ_cons,fE];omega
def Mq{l:List Sm}{k:Nat}{x:Sm}(h:l[k]?=some x):dA (l.take (k+1))=dA (l.take k)+nS x:=by
 induction l generalizing k with
 | nil=>simp at h
 | cons y l ih =>
   cases k with
   | zero=>simp at h;subst h;simp[dA]
   | succ k=>simp at h;rw[List.take_succ_cons,dA,ih h,List.take_succ_cons,dA];omega
def Fp(l:List Cx)(k:Nat):dR (l.take k)≤dR l:=by
 induction l generalizing k with
 | nil=>simp
 | cons y l ih=>cases k with
   | zero=>simp[dR]
   | succ k=>rw[List.take_succ_cons,dR,dR];have:=ih k;omega
def Fm(l:List Cp)(k:Nat):fE (l.take k)≤fE l:=by
 induction l generalizing k with
 | nil=>simp
 | cons y l ih=>cases k with
   | zero=>simp[fE]
   | succ k=>rw[List.take_succ_cons,fE,fE];have:=ih k;omega
def Fo(l:List Sm)(k:Nat):dA (l.take k)≤dA l:=by
 induction l generalizing k with
 | nil=>simp
 | cons y l ih=>cases k with
   | zero=>simp[dA]
   | succ k=>rw[List.take_succ_cons,dA,dA];have:=ih k;omega
end Go.bE
namespace Go.Proofs.YtkfakehconamoaaGreatDoor
open Go Go.Aw Go.bE
variable [Laid]
theorem Dr:∀n,n<2^60→Iq n∧Nh n∧Qh n
 | 0,_=>⟨fun x hz=>by have:=K4 x;omega,fun x hz=>by have:=KY x;omega,fun x hz=>by have:=KZ x;omega⟩
 | n+1,hn=>by
   obtain⟨hX,hP,hS⟩:=Dr n (by omega);exact⟨Ls (by omega) hP,Lq (by omega) hS,Lr hX⟩
def I7(x:Cx)(hz:zX x<2^60)(d:Nat)(has rel:Bool)(hd:d≤3):aV p_ 116 [.agg (fL x),.agg [i_ d,b_ has],b_ rel] (b_ (lF d has rel x)):=
 (Dr (zX x) hz).1 x (aS _) d has rel hd
def Qi(n:Nat):Prop:=∀l:List Cx,ft l<n→aV p_ 49 [.sl 3 (eR l)] (i_ (number l))
def OT{n:Nat}(hn:n<2^60)(hC:Qi n):Qi (n+1):=by
 intro l hz;refine (V49 _).aQ (by simp[nv]) (by simp) ?_;unfold VS;have hl:=Ej l;refine zzg (n:=l.length) (by simp[ga]) fun _=>?_;refine zzg (n:=l.length) (by simp[ga]) fun _=>?_;refine aG (α:=Nat) (fun k=>k≤l.length) (fun k=>[i_ ((l.length+dR (l.take k):Nat):Int),i_ k]) (fun _=>[]) (fun k=>l.length-k) 0 (by simp) (by simpa[dR]using Wk.refl _ _ _ (by simp)) ?_;intro k hk;rcases AS k l.length with q|q
 ·obtain⟨⟨le,ps,cs⟩,hx⟩:∃x,l[k]?=some x:=⟨l[k],bY q⟩;have hin:aZ ((k:Int)+1):=by unfold aZ;omega
  have hzx:=xo (eQ hx);rw[zX]at hzx;have hnx:=Mt hx;rw[nX]at hnx;have hle:=Fp l (k+1);refine zzC (zzL (by simpa using q) (zzc (ga l) rfl hx (zzY (by simp[iM]) (gi rfl ?_))));rw[fL];refine gd (cs:=[u1 le,.sl 2 (jk ps),.sl 1 (cs.map fun c=>[u1 c])]) rfl rfl rfl rfl (aS _) rfl rfl (zzA (zzU rfl rfl ?_));refine zzg (n:=ps.length) (by simp[kL]) fun _=>?_;refine aG (α:=Nat) (fun i=>i≤ps.length) (fun i=>[i_ ((l.length+dR (l.take k)+fE (ps.take i):Nat):Int),i_ i]) (fun _=>[.ak ⟨118,[u1 le,.sl 2 (jk ps),.sl 1 (cs.map fun c=>[u1 c])],true⟩]) (fun i=>ps.length-i) 0 (by simp) (by simpa[fE]using Wk.refl _ _ _ (by simp)) ?_;intro i hi;rcases AS i ps.length with q2|q2
  ·obtain⟨⟨t,ss⟩,hp⟩:∃x,ps[i]?=some x:=⟨ps[i],bY q2⟩;have hin2:aZ ((i:Int)+1):=by have:=G6 ps;unfold aZ;omega
   have hzp:=Bv (eQ hp);rw[zP]at hzp;have hnp:=Mp hp;rw[nP]at hnp;have hle2:=Fm ps (i+1);refine zzC (zzL (by simpa using q2) (zzc (kL ps) rfl hp (zzY (by simp[kX]) (gi rfl ?_))));rw[fD];refine gd (cs:=[.str t,.sl 9 (kx ss)]) rfl rfl rfl rfl (aS _) rfl rfl (zzA (zzU rfl rfl ?_));refine zzg (n:=ss.length) (by simp[mN]) fun _=>?_;refine aG (α:=Nat) (fun j=>j≤ss.length) (fun j=>[i_ ((l.length+dR (l.take k)+fE (ps.take i)+dA (ss.take j):Nat):Int),i_ j]) (fun _=>[.ak ⟨118,[u1 le,.sl 2 (jk ps),.sl 1 (cs.map fun c=>[u1 c])],true⟩,.ak ⟨121,[.str t,.sl 9 (kx ss)],true⟩]) (fun j=>ss.length-j) 0 (by simp) (by simpa[dA]using Wk.refl _ _ _ (by simp)) ?_;intro j hj;rcases AS j ss.length with q3|q3
   ·obtain⟨⟨kd,na,o,v,f,a,b,w,l2⟩,hs⟩:∃x,ss[j]?=some x:=⟨ss[j],bY q3⟩;have hin3:aZ ((j:Int)+1):=by have:=Bw ss;unfold aZ;omega
    have hzs:=Bx (eQ hs);rw[zS]at hzs;have hns:=Mq hs;rw[nS]at hns;have hle3:=Fo ss (j+1);have hin4:aZ (((l.length+dR (l.take k)+fE (ps.take i)+dA (ss.take j):Nat):Int)+(number l2:Int)):=by unfold number aZ;omega
    refine zzC (zzL (by simpa using q3) (zzc (mN ss) rfl hs (zzY (by simp[ia]) (gi rfl ?_))));rw[dv];refine gd (cs:=[u1 kd,.str na,u1 o,.str v,b_ f,i_ a,i_ b,b_ w,.sl 3 (eR l2)]) rfl rfl rfl rfl (aS _) rfl rfl (zzA (zzU rfl rfl (uCon (hC l2 (by omega)) (zzP hin4 (zzP hin3 (ar ?_))))));refine⟨j+1,q3, ?_,by omega⟩;have e:((l.length+dR (l.take k)+fE (ps.take i)+dA (ss.take j):Nat):Int)+(number l2:Int)=((l.length+dR (l.take k)+fE (ps.take i)+dA (ss.take (j+1)):Nat):Int):=by rw[hns];unfold number;omega
    rw[e];exact Wk.back (M:=2) (by simp) (by simp) rfl (by simp) (by simp[mr];exact⟨jK _ _ (by simp[rm,su]),jK _ _ (by simp[zw])⟩) (by simp[Bd])
   ·have hj:j=ss.length:=by omega
    subst hj;rw[Gt];refine zzC (zzK (by simp) (zzP hin2 (ar ?_)));refine⟨i+1,q2, ?_,by omega⟩;rw[hnp];exact Wk.back (M:=1) (by simp) (by simp) rfl (by simp[Nat.add_assoc]) (by simp[mr];exact jK _ _ (by simp[rm,su])) (by simp[Bd])
  ·have hi:i=ps.length:=by omega
   subst hi;rw[Gt];refine zzC (zzK (by simp) (zzP hin (ar ?_)));refine⟨k+1,q, ?_,by omega⟩;rw[hnx];exact Wk.back (M:=0) (by simp) (by simp) rfl (by simp[Nat.add_assoc]) (by simp) (by simp[Bd])
 ·have hk:k=l.length:=by omega
  subst hk;rw[Gt];refine zzC (zzK (by simp) ?_);exact .pure (by simp) rfl
theorem I9:∀n,n<2^60→Qi n
 | 0,_=>fun l hz=>by omega
 | n+1,hn=>OT (by omega) (I9 n (by omega))
def BF(l:List Cx)(hz:ft l<2^59):aV p_ 49 [.sl 3 (eR l)] (i_ (number l)):=
 I9 (ft l+1) (by omega) l (by omega)
def Ht(x:Cx)(hz:zX x<2^60):aV p_ 115 [.agg (fL x)] (b_ (!lF 0 false false x)):=by
 refine (Xe _).aQ (by simp[zx]) (by simp) ?_;unfold QD;refine gi (by rw[iM];rfl) (zzV rfl (by simp[iM]) (bp rfl (wv (by simp[iM]) (by kernel_rfl) (I7 x hz 0 false false (by omega)) (zzO ?_))));exact .pure (by simp) rfl
def IW(l:List Cx)(hz:ft l<2^59):aV p_ 70 [.sl 3 (eR l)] (i_ (jo l)):=by
 refine (V70 _).aQ (by simp[nv]) (by simp) ?_;unfold Wg;have hlen:(eR l).length=l.length:=by simp[ga]
 have hany:=u3 l 115 [] (fun x=>!lF 0 false false x) (by simp[aq]) (by kernel_rfl) (fun x hx=>Ht x (by have:=xo hx;omega));have he:l.isEmpty=decide (l.length=0):=by cases l<;>simp
 rw[show l.any (fun x=>!lF 0 false false x)=!mA 0 false false l by rw[yi];simp[List.any_eq_not_all_not]]at hany;repeat' (first|(with_reducible apply aK)|(with_reducible apply ar)|((with_reducible first|apply cS|apply bK);rfl;rfl)|((with_reducible apply bu);rfl)|((with_reducible apply bt);rfl)|((with_reducible apply aF);rfl;first|rfl|assumption)|((with_reducible apply sX);rfl)|((with_reducible apply cr);rfl;(first|rfl|simp);intro _)|(refine uCon (hany) ?_)|(refine uCon (BF l hz) ?_)|((with_reducible apply aW);rfl)|((with_reducible apply eG);rfl)|(with_reducible intro _))
 all_goals refine .pure (by simp) ?_
 all_goals simp only[kq,pt,AV.v.injEq,Value.bool.injEq,Value.int.injEq,true_and,hlen,he,jo]at *
 all_goals grind
end Go.Proofs.YtkfakehconamoaaGreatDoor
end
section
namespace Go.Qt
open Go Go.Aw Go.bE
mutual
def wX:Cx→Bool
 | .mk _ ps cs=>decide (cs.length+1=ps.length)&&decide (ps.length≤64)&&cs.all (fun c=>decide (c=1))&&Cl ps
def Cl:List Cp→Bool
 | []=>true
 | p:: l=>wP p&&Cl l
def wP:Cp→Bool
 | .mk g ss=>decide (g.length≤64)&&decide (ss.length≤64)&&!(decide (g=[])&&ss.isEmpty)&&Cm ss
def Cm:List Sm→Bool
 | []=>true
 | s:: l=>wS s&&Cm l
def wS:Sm→Bool
 | .mk k n o v f a b w l=>if gA k then (decide (k=11)||decide (k=12)||decide (k=13))&&decide (l.length≤64)&&tP l
   else decide (4≤k)&&decide (k≤8)&&decide (n=[])&&decide (o=0)&&decide (v=[])&&!f&&decide (a=0)&&decide (b=0)&&!w&&l.isEmpty
def tP:List Cx→Bool
 | []=>true
 | x:: l=>wX x&&tP l
end
theorem FE{t:bg}(h:cU t=true):∀(n:Nat) (k:Int),k<t.length→(qy t n k).length≤n∧∀p∈qy t n k,0≤p∧p<t.length
 | 0,k,_=>by simp[qy]
 | n+1,k,hk=>by
   rw[qy];split
   ·simp
   ·rename_i q;have hp:=ri (lW h) (c:=k) (by omega) hk;obtain⟨h1,h2⟩:=FE h n _ hp.2;refine⟨by simp only[aab];omega,fun p hp=>?_⟩;rcases IS.1 hp with rfl|hp
    ·omega
    ·exact h2 p hp
theorem FF{t:bg}(h:cU t=true){i:Int}(h0:0≤i)(h1:i<t.length):(vq t i).length<2^20∧∀p∈vq t i,0≤p∧p<t.length:=by
 have hp:=ri (lW h) h0 h1;have hl:=gD h;unfold vq;split
 ·have:=FE h (t.length-1) _ hp.2;exact⟨by omega,this.2⟩
 ·simp
end Go.Qt
namespace Go.Proofs.YtkfakehconamoaaGreatDoor
open Go Go.Aw Go.Qt Go.RowKit
open Go.bE hiding u1 ao
abbrev kM(t:bg):Sm→Int→Bool:=fun s i=>sh t s.kind i
abbrev aP(t:bg):Int→Int→List Int:=fun _ i=>vq t i
variable [Laid]
theorem UK{t:bg}(hs:eH t)(ba:cU t=true):CL t (aP t) 1:=fun i h0 h1=>⟨LH hs,FF ba h0 h1⟩
mutual
theorem Vf{t:bg}(hs:eH t)(ba:cU t=true):∀x:Cx,wX x=true→Xg t (kM t) (aP t) x
 | .mk l ps cs,h=>by
   rw[wX]at h;simp only[On,OF,AT]at h;obtain⟨⟨⟨h1,h2⟩,h3⟩,h4⟩:=h;have hp:=J3 hs ba ps h4;have hn:ps≠[]:=by rintro rfl;simp at h1
   refine⟨HB hs ba hp hn h2,⟨by rw[mT,aac];exact h1.symm,by rw[mT,aac];exact h2,fun c hc=>by rw[h3 c hc];decide,fun r hr=>?_⟩,fun c hc=>by rw[h3 c hc];exact UK hs ba⟩;rw[mT]at hr;obtain⟨p,_,rfl⟩:=aaf.1 hr;cases p with
   | mk g ss=>rw[mP,qz]
theorem J3{t:bg}(hs:eH t)(ba:cU t=true):∀l:List Cp,Cl l=true→∀p∈l,Pg t (kM t) (aP t) p
 | [],_,p,hp=>by cases hp
 | q:: l,h,p,hp=>by
   rw[Cl,On]at h;rcases IS.1 hp with e|hp
   ·rw[e];exact UL hs ba q h.1
   ·exact J3 hs ba l h.2 p hp
theorem UL{t:bg}(hs:eH t)(ba:cU t=true):∀p:Cp,wP p=true→Pg t (kM t) (aP t) p
 | .mk g ss,h=>by
   rw[wP]at h;simp only[On,OF,aaI,Bool.and_eq_false_iff,decide_eq_false_iff_not]at h;obtain⟨⟨⟨h1,h2⟩,h3⟩,h4⟩:=h;have hss:=Ks hs ba ss h4;refine⟨⟨h1,h2,fun e=>?_,fun s hsm hl=>(hss s hsm).2.2 hl⟩,fun s hsm=>(hss s hsm).1,fun s hsm=>(hss s hsm).2.1⟩;rcases h3 with h3|h3
   ·exact h3 e.1
   ·have e2:ss=[]:=e.2;rw[e2]at h3;cases h3
theorem Ks{t:bg}(hs:eH t)(ba:cU t=true):∀l:List Sm,Cm l=true→∀s∈l,k3 s.kind∧aV p_ 119 [nY t,.agg (dv s)] (nT t (kM t) (aP t) s)∧(gA s.kind=false→FB t (kM t) s)
 | [],_,s,hsm=>by cases hsm
 | q:: l,h,s,hsm=>by
   rw[Cm,On]at h;rcases IS.1 hsm with e|hsm
   ·rw[e];exact U5 hs ba q h.1
   ·exact Ks hs ba l h.2 s hsm
theorem U5{t:bg}(hs:eH t)(ba:cU t=true):∀s:Sm,wS s=true→k3 s.kind∧aV p_ 119 [nY t,.agg (dv s)] (nT t (kM t) (aP t) s)∧(gA s.kind=false→FB t (kM t) s)
 | .mk k n o v f a b w l,h=>by
   rw[wS]at h
   by_cases hl:gA k=true
   ·rw[if_pos hl]at h;simp only[On,aaH,OF]at h;obtain⟨⟨h1,h2⟩,h3⟩:=h;have hk:k3 k:=fun _=>by omega
    exact⟨hk,DF hs ba hk (fun _=>E5 hs ba l h3) (show l.length<2^40 by omega),fun e=>by have:gA k=false:=e;rw[hl]at this;cases this⟩
   ·rw[if_neg hl]at h;simp only[On,OF,aaI,List.isEmpty_iff]at h;obtain⟨⟨⟨⟨⟨⟨⟨⟨⟨h1,h2⟩,rfl⟩,rfl⟩,rfl⟩,rfl⟩,rfl⟩,rfl⟩,rfl⟩,rfl⟩:=h;have hk:k3 k:=fun e=>absurd e hl;exact⟨hk,DF hs ba hk (fun e=>absurd e hl) (show (0:Nat)<2^40 by decide),fun _=>EL hs ba ⟨h1,h2⟩ fun _=>rfl⟩
theorem E5{t:bg}(hs:eH t)(ba:cU t=true):∀l:List Cx,tP l=true→∀x∈l,Xg t (kM t) (aP t) x
 | [],_,x,hx=>by cases hx
 | q:: l,h,x,hx=>by
   rw[tP,On]at h;rcases IS.1 hx with e|hx
   ·rw[e];exact Vf hs ba q h.1
   ·exact E5 hs ba l h.2 x hx
end
theorem Lw{t:bg}(hs:eH t)(ba:cU t=true){M:Sm→Int→Bool}{P:Int→Int→List Int}{l:List Cx}(hx:∀x∈l,Xg t M P x)(hz:ft l<2^39)(hc:jo l=0):
 aV p_ 33 [cV t,.sl 3 (eR l),i_ (-1)] (.aw [.sl 1 (dH (mL t M P l)),i_ 0]):=by
 refine (ZY _ _ _).aQ (by simp only[aq,Aw.Pure,and_true];exact⟨dh t,nv l⟩) (by simp only[aq,Aw.Pure,and_true];exact lp _) ?_;unfold VC;obtain⟨l1,l64⟩:=gD ba;refine eE (h':=[tB t]) rfl rfl (db rfl (bp (cs:=[bE.u1 7,.str [],bE.u1 0,.str [],ff,i_ 0,i_ 0,ff,.v (.slice none 0 0)]) rfl (uCon (xw hs) ?_)));rw[wI ba];refine zzB rfl (zzB rfl ?_);refine zzH (zzK rfl ?_);have hck:aV p_ 52 [.sl 3 (eR l)] (i_ (jo l)):=by
  refine (V52 _).aQ (by simp only[aq,Aw.Pure,and_true];exact nv l) (by simp) ?_;unfold VW;exact uCon (IW l (by omega)) (.pure (by simp) rfl)
 refine uCon hck ?_;rw[hc];refine zzH (zzK rfl ?_);refine db rfl (bp (cs:=[.sl 4 (t.map Qt.bx),i_ (-1)]) rfl ?_);have hll:=G7 l;refine D4 hs ba hx (by omega) fun id X _ hid=>?_;refine cf.sq 1 ?_;have tw:Tw ([tB t]++X) (.own id 0 t.length 1) (mL t M P l):=.inr ⟨HW l1 _ _ _,id,by rw[nn],hid⟩;show AV.aw [Aw.tl 0 ([tB t]++X) 1 (.own id 0 t.length 1),i_ 0]=_;rw[tw.tl 0]
end Go.Proofs.YtkfakehconamoaaGreatDoor
end
namespace Go.Proofs.YtkfakehconamoaaGreatDoor
section
open Go Go.Aw Go.jh Go.RowKit
def Mo(id:Nat)(e:aY)(h h':aa):Prop:=∃j,h'=h.set id e++j
section
variable {id:Nat} {e e':aY} {h h' h'':aa}
def Mo.len(g:Mo id e h h'):h.length≤h'.length:=by obtain⟨j,rfl⟩:=g;simp
def Mo.at(g:Mo id e h h')(hid:id<h.length):h'[id]?=some e:=by
 obtain⟨j,rfl⟩:=g;rw[gE (by simpa using hid),iF hid]
def Mo.trans(hid:id<h.length)(x:Mo id e h h')(y:Mo id e' h' h''):Mo id e' h h'':=by
 obtain⟨j,rfl⟩:=x;obtain⟨k,rfl⟩:=y;exact⟨j++k,by rw[Mk _ _ (by simpa using hid),aam,TO]⟩
def Mo.other(g:Mo id e h h')(hi:i<h.length)(hne:i≠id):h'[i]?=h[i]?:=by
 obtain⟨j,rfl⟩:=g;rw[gE (by simpa using hi),iN (Ne.symm hne)]
def Mo.refl(r:h[id]?=some e):Mo id e h h:=⟨[],by rw[jV r];simp⟩
def Mo.set(id:Nat)(e:aY)(h:aa):Mo id e h (h.set id e):=⟨[],by simp⟩
def Mo.tail(g:Mo id e h h')(k:aa):Mo id e h (h'++k):=by
 obtain⟨j,rfl⟩:=g;exact⟨j++k,by rw[TO]⟩
def Mo.uK(m:Mo id e h h')(hT:h.length≤T)(x:aY):Mo id e h (h'.set T x):=by
 obtain⟨j,rfl⟩:=m;exact⟨j.set (T-h.length) x,by rw[Lt _ _ (by simpa using hT)];simp⟩
end
abbrev Kg(v:List Vl)(a:Nat):aY:=.ak ⟨160,[.sl 6 (ct v),i_ a],true⟩
abbrev dc(v r:List Vl):aY:=Kg v (v.length-r.length)
def MQ(h:r <:+ v):v.drop (v.length-r.length)=r:=by
 obtain⟨p,rfl⟩:=h;simp
def GW(h:r <:+ v)(n:Nat):v[v.length-r.length+n]?=r[n]?:=by
 rw[←aag,MQ h]
def bX(r:List Vl)(n:Nat):Tok:=match r[n]? with|some x=>MZ x|none=>⟨0,[],0,[],false⟩
def L3(x:Vl):(ig x).take 5=(MZ x).row:=by rw[kn];rfl
def M7{cs ds:List AV}{K:AV→Prop}(e:x=.ip ds)(hn:n≤ds.length)(hc:ds.take n=cs)(q:K (.agg cs)):ae true n x h K:=by
 subst hc;exact jb e hn q
section
variable [Laid]
def lY{id:Nat}{K:AV→aa→Prop}(rd:h[id]?=some (dc v r))(hs:r <:+ v)(ex:x=.op id 0)(hv:v.length+n<2^40)(k:∀H,Mo id (dc v r) h H→K (bX r n).av H):
 bA p_ (.fn (.func 100) [] []) [x,i_ n] h K:=by
 subst ex;have hid:=(dO.1 rd).1;have hle:=hs.length_le;refine cu (by kernel_rfl) rfl (K0:=fun w H=>w=(bX r n).av∧Mo id (dc v r) h H) ?_ (by rintro _ H ⟨rfl,m⟩;exact k H m);refine (WW _ _).bR ?_;unfold Qp;refine bq (cs:=[u8 0,.str [],i_ 0,.str [],ff]) (n:=h.length) (h':=h++[cm 0 [] 0 [] false]) rfl (by simp[bw]) rfl rfl ?_;have rd2:(h++[cm 0 [] 0 [] false])[id]?=some (dc v r):=by rw[gE hid];exact rd
 have hV:(h++[cm 0 [] 0 [] false])[h.length]?=some (cm 0 [] 0 [] false):=by simp
 have m0:Mo id (dc v r) h (h++[cm 0 [] 0 [] false]):=(Mo.refl rd).tail _;have fin:∀t:Tok,t=bX r n→ah 5 (.op h.length 0) t.av (h++[cm 0 [] 0 [] false]) fun g=>ae true 5 (.op h.length 0) g fun w=>∃r' h'',Wk h.length [w] g [r'] h''∧r'=(bX r n).av∧Mo id (dc v r) h h'':=by
  rintro t rfl;refine pY (K:=fun w g=>∃r' h'',Wk h.length [w] g [r'] h''∧r'=(bX r n).av∧Mo id (dc v r) h h'') hV ?_;exact⟨_,_,Wk.refl _ _ _ (by simp),rfl,m0.uK (aS _) _⟩
 have hadd:((v.length-r.length:Nat):Int)+(n:Int)=((v.length-r.length+n:Nat):Int):=by omega
 refine bD (zzA (zzU rd2 rfl (zzP (by unfold aZ;omega) ?_)));rw[hadd];refine bD (zzA (zzU rd2 rfl ?_));rw[qm];refine zzC ?_;have hel:(ct v).length=v.length:=by simp[dz]
 rw[hel];have hg:=GW hs n
 by_cases q:v.length-r.length+n<v.length
 ·obtain⟨y,hy⟩:∃y,v[v.length-r.length+n]?=some y:=⟨_,bY q⟩;rw[hy]at hg;refine zzL (tO (by omega)) (bD (zzA (zzU rd2 rfl (bD (zzA (zzU rd2 rfl (zzP (by unfold aZ;omega) ?_)))))));rw[hadd];refine zzc (dz v) rfl hy (zzX (M7 rfl (by simp[kn]) (L3 y) ?_));exact fin (MZ y) (by unfold bX;rw[←hg])
 ·rw[lE (by omega)]at hg;refine zzK (oF (by omega)) (bp rfl ?_);exact fin ⟨0,[],0,[],false⟩ (by unfold bX;rw[←hg])
def KW{id:Nat}{K:AV→aa→Prop}(rd:h[id]?=some (dc v r))(hs:r <:+ v)(ex:x=.op id 0)(hy:r[n]?=some y)(hv:v.length+n<2^40)(k:K (.sl 6 (ct y.list)) h):
 bA p_ (.fn (.func 152) [] []) [x,i_ n] h K:=by
 subst ex;have hle:=hs.length_le;refine cu (by kernel_rfl) rfl (K0:=fun w H=>w=.sl 6 (ct y.list)∧H=h) ?_ (by rintro _ H ⟨rfl,rfl⟩;exact k);refine (XB _ _).bR ?_;unfold QZ;have hadd:((v.length-r.length:Nat):Int)+(n:Int)=((v.length-r.length+n:Nat):Int):=by omega
 refine bD (zzA (zzU rd rfl (bD (zzA (zzU rd rfl (zzP (by unfold aZ;omega) ?_))))));rw[hadd];refine zzc (dz v) rfl (by rw[GW hs];exact hy) (zzX ?_);have e:(ig y).drop 5=[.sl 6 (ct y.list)]:=by rw[kn,dz];rfl
 refine cv (by rw[e]) ?_;exact⟨_,_,Wk.refl _ _ _ (aS _),rfl,rfl⟩
theorem zR{id:Nat}{K:AV→aa→Prop}(rd:h[id]?=some (dc v r))(hs:r <:+ v)(ex:x=.op id 0)(k:K (b_ r.isEmpty) h):
 bA p_ (.fn (.func 105) [] []) [x] h K:=by
 subst ex;have hle:=hs.length_le;refine cu (by kernel_rfl) rfl (K0:=fun w H=>w=b_ r.isEmpty∧H=h) ?_ (by rintro _ H ⟨rfl,rfl⟩;exact k);refine (W2 _).bR ?_;unfold Qv;refine bD (zzA (zzU rd rfl (bD (zzA (zzU rd rfl ?_)))));rw[qm];refine zzG ?_;have hel:(ct v).length=v.length:=by simp[dz]
 have:decide (((v.length-r.length:Nat):Int)=((ct v).length:Int))=r.isEmpty:=by
  rw[hel];cases r with
  | nil=>simp
  | cons y r=>simp at hle ⊢;omega
 rw[this];exact⟨_,_,Wk.refl _ _ _ (aS _),rfl,rfl⟩
end
def NW{t:Tok}{K:AV→Prop}(q:K (u8 t.k)):qT false 0 1 t.av K:=q
theorem kr:∀r:List Vl,cR r <:+ r
 | []=>List.suffix_refl _
 | x:: r=>by
   rw[cR];split
   ·exact (kr r).trans (List.suffix_cons _ _)
   ·exact List.suffix_refl _
def ud(h:iA c r=some r'):∃x,r=x:: r'∧x.kind=9∧x.text=[c]:=by
 cases r with
 | nil=>cases h
 | cons x r =>
   rw[iA]at h;split at h
   ·rename_i q;cases h;exact⟨x,rfl,q⟩
   ·cases h
def FM(r:List Vl):(jG r).2 <:+ r:=by
 have key:∀{c:UInt8} {r':List Vl},iA c r=some r'→cR r' <:+ r:=fun h=>by
  obtain⟨x,rfl,_⟩:=ud h;exact (kr _).trans (List.suffix_cons _ _)
 unfold jG;split
 ·rename_i h;exact key h
 ·split
  ·rename_i h;exact key h
  ·split
   ·rename_i h;exact key h
   ·exact List.suffix_refl _
section
variable [Laid]
omit [Laid] in
def qe{id:Nat}{F:aa→Prop}(rd:h[id]?=some (dc v (y:: r)))(hs:(y:: r) <:+ v)(hv:v.length<2^40)(k:F (h.set id (dc v r))):
 ca p_ (.op id 0) fun v11=>aN 1 v11 fun v12=>ae false 1 v12 h fun v13=>ag .add v13 (i_ 1) fun v14=>ca p_ (.op id 0) fun v15=>aN 1 v15 fun v16=>ah 1 v16 v14 h F:=by
 have hle:=hs.length_le;simp at hle;refine bD (zzA (zzU rd rfl (zzP (by unfold aZ;simp;omega) (bD (zzA ?_)))));have e:((v.length-(y:: r).length:Nat):Int)+1=((v.length-r.length:Nat):Int):=by simp;omega
 rw[e];exact aM (cs:=[i_ ((v.length-r.length:Nat):Int)]) (h':=h.set id (dc v r)) rfl rd rfl rfl (by simp) rfl rfl rfl k
theorem kV{id:Nat}{K:AV→aa→Prop}(rd:h[id]?=some (dc v r))(hs:r <:+ v)(ex:x=.op id 0)(hv:v.length<2^30)(k:∀H,Mo id (dc v (cR r)) h H→K (b_ (decide ((cR r).length<r.length))) H):
 bA p_ (.fn (.func 98) [] []) [x] h K:=by
 subst ex;have hid:=(dO.1 rd).1;have hle:=hs.length_le;refine cu (by kernel_rfl) rfl (K0:=fun w H=>w=b_ (decide ((cR r).length<r.length))∧Mo id (dc v (cR r)) h H) ?_ (by rintro _ H ⟨rfl,m⟩;exact k H m);refine (V98 _).bR ?_;unfold WH;refine bD (zzA (zzU rd rfl (aG (α:=List Vl×aa) (fun x=>x.1 <:+ r∧cR x.1=cR r∧Mo id (dc v x.1) h x.2) (fun _=>[]) (fun x=>x.2) (fun x=>x.1.length) (r,h) ⟨List.suffix_refl _,rfl,Mo.refl rd⟩ (Wk.refl _ _ _ (aS _)) ?_)));rintro⟨r1,H1⟩ ⟨hs1,hk,m1⟩;dsimp only at hs1 hk m1 ⊢;have rd1:=m1.at hid;have sv:=hs1.trans hs;have hl1:=m1.len;refine lY (n:=0) rd1 sv rfl (by omega) fun H2 m2=>?_;have rd2:=m2.at (by omega);have hl2:=m2.len;have m12:=m1.trans hid m2;refine NW (zzG ?_);have stop:cR r1=r1→(bX r1 0).k≠13→af (.v (.bool (decide ((bX r1 0).k=13)))) (ca p_ (.op id 0) fun v11=>aN 1 v11 fun v12=>ae false 1 v12 H2 fun v13=>ag .add v13 (i_ 1) fun v14=>ca p_ (.op id 0) fun v15=>aN 1 v15 fun v16=>ah 1 v16 v14 H2 fun g17=>[AV.op id 0,i_ ((v.length-r.length:Nat):Int)]=[AV.op id 0,i_ ((v.length-r.length:Nat):Int)]∧∃y:List Vl×aa,(y.1 <:+ r∧cR y.1=cR r∧Mo id (dc v y.1) h y.2)∧Wk h.length [] g17 [] y.2∧y.1.length<r1.length)
  (ca p_ (.op id 0) fun v18=>aN 1 v18 fun v19=>ae false 1 v19 H2 fun v20=>ag .gtr v20 (i_ ((v.length-r.length:Nat):Int)) fun v21=>∃r' h'',Wk h.length [v21] H2 [r'] h''∧r'=b_ (decide ((cR r).length<r.length))∧Mo id (dc v (cR r)) h h''):=by
  intro e hne;refine zzK (oF hne) (bD (zzA (zzU rd2 rfl (zzE ?_))));have e2:cR r=r1:=by rw[←hk];exact e
  have hl:=hs1.length_le;have:decide (((v.length-r.length:Nat):Int)<((v.length-r1.length:Nat):Int))=decide ((cR r).length<r.length):=by
   rw[e2];exact decide_eq_decide.2 (by omega)
  rw[this];exact⟨_,_,Wk.refl _ _ _ (by omega),rfl,by rw[e2];exact m12⟩
 cases r1 with
 | nil=>exact stop rfl (by decide)
 | cons y r1 =>
   by_cases hy:y.kind=13
   ·refine zzL (tO hy) (qe rd2 sv (by omega) (ar ?_));have m3:=m12.trans hid (Mo.set id (dc v r1) H2);exact⟨(r1,H2.set id (dc v r1)),⟨(List.suffix_cons _ _).trans hs1,by rw[←hk,cR,if_pos hy],m3⟩,Wk.refl _ _ _ m3.len,by simp⟩
   ·exact stop (by rw[cR,if_neg hy]) hy
theorem zQ{id:Nat}{c:UInt8}{K:AV→aa→Prop}(rd:h[id]?=some (dc v r))(hs:r <:+ v)(ex:x=.op id 0)(hv:v.length<2^30)
 (k1:∀r' H,iA c r=some r'→Mo id (dc v r') h H→K tt H) (k2:∀H,iA c r=none→Mo id (dc v r) h H→K ff H) :
 bA p_ (.fn (.func 102) [] []) [x,.str [c]] h K:=by
 subst ex;have hid:=(dO.1 rd).1;refine cu (by kernel_rfl) rfl (K0:=fun w H=>(∃r',iA c r=some r'∧Mo id (dc v r') h H∧w=tt)∨(iA c r=none∧Mo id (dc v r) h H∧w=ff)) ?_ (fun w H z=>z.elim (fun⟨r',e,m,q⟩=>by subst q;exact k1 r' H e m) fun⟨e,m,q⟩=>by subst q;exact k2 H e m);refine (WY _ _).bR ?_;unfold Qr;refine lY (n:=0) rd hs rfl (by omega) fun H1 m1=>?_;have hl1:=m1.len;have rd1:=m1.at hid;refine il ?_;obtain⟨H2,h2⟩:∃H2,H2=H1++[aY.ak ⟨83,(bX r 0).row,true⟩]:=⟨_,rfl⟩;have hT:H2[H1.length]?=some (.ak ⟨83,(bX r 0).row,true⟩):=by rw[h2];simp
 have m2:Mo id (dc v r) h H2:=by rw[h2];exact m1.tail _
 have rd2:=m2.at hid;have hl2:=m2.len;rw[←h2];clear h2;refine zzA (zzU hT rfl (zzH ?_));have no:iA c r=none→∃r' h'',Wk h.length [ff] H2 [r'] h''∧((∃q,iA c r=some q∧Mo id (dc v q) h h''∧r'=tt)∨(iA c r=none∧Mo id (dc v r) h h''∧r'=ff)):=fun e=>⟨_,_,Wk.refl _ _ _ hl2,.inr ⟨e,m2,rfl⟩⟩;refine aK ?_
 by_cases c1:(bX r 0).k=9
 ·refine zzN (by simp[c1]) (zzA (zzU hT rfl (zzJ (ar (zzQ ?_)))));cases r with
  | nil=>exact absurd c1 (by decide)
  | cons y r =>
    by_cases c2:y.text=[c]
    ·refine zzK (by show (!decide (y.text=[c]))=false;simp[c2]) (qe rd2 hs (by omega) ?_);have m3:=m2.trans hid (Mo.set id (dc v r) H2);exact⟨_,_,Wk.refl _ _ _ m3.len,.inl ⟨r,by rw[iA,if_pos ⟨c1,c2⟩],m3,rfl⟩⟩
    ·refine zzL (by show (!decide (y.text=[c]))=true;simp[c2]) ?_;exact no (by rw[iA,if_neg (fun z=>c2 z.2)])
 ·refine zzM (by simp[c1]) (ar (zzR (zzL rfl (no ?_))));cases r with
  | nil=>rfl
  | cons y r=>rw[iA,if_neg (fun z=>c1 z.1)]
def KV{id:Nat}{K:AV→aa→Prop}(rd:h[id]?=some (dc v r))(hs:r <:+ v)(ex:x=.op id 0)(hv:v.length<2^30)(k:∀H,Mo id (dc v (jG r).2) h H→K (u8 (jG r).1) H):
 bA p_ (.fn (.func 99) [] []) [x] h K:=by
 subst ex;have hid:=(dO.1 rd).1;refine cu (by kernel_rfl) rfl (K0:=fun w H=>w=u8 (jG r).1∧Mo id (dc v (jG r).2) h H) ?_ (by rintro _ H ⟨rfl,m⟩;exact k H m);refine (V99 _).bR ?_;unfold WI
 let cs:List UInt8:=[62,43,126]
 refine aG (α:=Nat×aa) (fun x=>x.1≤3∧(∀j c,cs[j]?=some c→j<x.1→iA c r=none)∧Mo id (dc v r) h x.2) (fun x=>[i_ x.1]) (fun x=>x.2) (fun x=>3-x.1) (0,h) ⟨aao _,fun j c _ z=>absurd z (aap _),Mo.refl rd⟩ (Wk.refl _ _ _ (aS _)) ?_;rintro⟨i,H1⟩ ⟨hi,hb,m1⟩;dsimp only at hi hb m1 ⊢;have rd1:=m1.at hid;have hl1:=m1.len;refine zzC ?_;rcases AS i 3 with q|q
 ·obtain⟨c,hc⟩:∃c,cs[i]?=some c:=⟨_,bY q⟩;refine zzL (tO (by omega)) (zzP (by unfold aZ;omega) ?_);have hsl:(cs.take (i+1)).drop i=[c]:=by
   rcases (by omega:i=0∨i=1∨i=2) with rfl|rfl|rfl<;>(cases hc;rfl)
  refine oO (l:=cs) (a:=i) (b:=i+1) (r:=[c]) rfl rfl rfl (by omega) (by show i+1≤3;omega) hsl ?_;refine zQ rd1 hs rfl hv (fun r' H2 e m2=>?_) (fun H2 e m2=>?_)
  ·have hl2:=m2.len;obtain⟨y,hy,_⟩:=ud e;have hs':r' <:+ v:=List.IsSuffix.trans (by rw[hy];exact List.suffix_cons _ _) hs;refine zzL rfl ?_;refine kV (m2.at (by omega)) hs' rfl hv fun H3 m3=>?_;have m13:=(m1.trans hid m2).trans hid m3;have hcm:jG r=(2+(i:Int),cR r'):=by
    unfold jG;rcases (by omega:i=0∨i=1∨i=2) with rfl|rfl|rfl
    ·cases hc;rw[e];rfl
    ·cases hc;rw[hb 0 62 rfl (by decide),e];rfl
    ·cases hc;rw[hb 0 62 rfl (by decide),hb 1 43 rfl (by decide),e];rfl
   rw[hcm];refine eD (m:=(i:Int)) rfl (by rw[IntKind.wrap_u8];omega) (wm (c:=2+(i:Int)) (by decide) rfl rfl (by rw[IntKind.wrap_u8];omega) ?_);exact⟨_,_,Wk.refl _ _ _ m13.len,rfl,m13⟩
  ·refine zzK rfl (zzP (by unfold aZ;omega) (ar ?_));refine⟨(i+1,H2),⟨q,fun j c' hj hlt=>?_,m1.trans hid m2⟩,Wk.refl _ _ _ (by have:=m2.len;omega),by dsimp only;omega⟩;rcases AS j i with k|k
   ·exact hb j c' hj k
   ·obtain rfl:j=i:=by simp at hlt;omega
    rw[hj]at hc;cases hc;exact e
 ·obtain rfl:i=3:=by omega
  refine zzK rfl ?_;have hcm:jG r=(0,r):=by unfold jG;rw[hb 0 62 rfl (by decide),hb 1 43 rfl (by decide),hb 2 126 rfl (by decide)]
  rw[hcm];exact⟨_,_,Wk.refl _ _ _ hl1,rfl,m1⟩
end
end
section
open Go Go.Aw
variable [Laid]
def QY(O:AV)(h:aa)(K:AV→aa→Prop):Prop:=
 aB 99 (.agg [u8 0,.str [],u8 0,.str [],ff,i_ 0,i_ 0,ff,qNs]) h fun b N=>bf (.agg [qNs,i_ 0]) [(0,1,O)] fun P=>aB 160 P N fun a Q=>iC p_ 98 [a] Q fun i1 R=>iC p_ 100 [a,i_ 0] R fun S T=>qT false 1 1 S fun U=>iC p_ 101 [U] T fun V W=>bf (.agg [u8 0,.str [],u8 0,.str [],ff,i_ 0,i_ 0,ff,qNs]) [(0,1,(u8 3)),(1,1,V)] fun X=>aB 99 (.agg [u8 0,.str [],u8 0,.str [],ff,i_ 0,i_ 0,ff,qNs]) W fun c Y=>ah 9 c X Y fun Z=>iC p_ 100 [a,i_ 0] Z fun a0 g=>qT false 0 1 a0 fun a1=>ag .neq a1 (u8 1) fun a2=>af a2 (ae true 9 c g fun a3=>ah 9 b a3 g fun s=>ae true 9 b s fun r23=>K (.aw [r23,ff]) s) (qLd p_ a 1 g fun a4=>qBe .add a4 1 fun a5=>qSt p_ a 1 a5 g fun a6=>iC p_ 98 [a] a6 fun i2 a7=>iC p_ 105 [a] a7 fun a8 m=>af a8 (ae true 9 c m fun a9=>ah 9 b a9 m fun t=>ae true 9 b t fun r37=>K (.aw [r37,tt]) t) (aI (fun u=>iC p_ 102 [a,.str [61]] m fun b0 v=>af b0 (aN 2 c fun b1=>ah 1 b1 (u8 1) v fun b2=>eC [b,a,c] (u [] b2)) (iC p_ 100 [a,i_ 0] v fun b3 b4=>aB 83 (.agg [u8 0,.str [],i_ 0,.str [],ff]) b4 fun n b5=>ah 5 n b3 b5 fun w=>iFL 1 false 1 n w fun b6=>iC p_ 85 [.str [126,124,94,36,42],b6] w fun o p=>iFL 0 false 1 n p fun b7=>ag .neq b7 (u8 9) fun b8=>qJo b8 [b,a,c,o] p (fun b9=>qBe .lss o 0 fun c0=>b9 c0 p) fun c1 i=>af c1 (ae true 9 c i fun c2=>ah 9 b c2 i fun x=>ae true 9 b x fun r62=>K (.aw [r62,ff]) x) (qLd p_ a 1 i fun c3=>qBe .add c3 1 fun c4=>qSt p_ a 1 c4 i fun c5=>iC p_ 102 [a,.str [61]] c5 fun c6 q=>bT c6 fun c7=>af c7 (ae true 9 c q fun c8=>ah 9 b c8 q fun y=>ae true 9 b y fun r75=>K (.aw [r75,ff]) y) (cH .u8 o fun c9=>ag .add (u8 2) c9 fun d0=>aN 2 c fun d1=>ah 1 d1 d0 q fun d2=>eC [b,a,c] (u [] d2))))) fun i3 d3=>iC p_ 98 [a] d3 fun i4 d4=>iC p_ 100 [a,i_ 0] d4 fun d5 d6=>aB 83 (.agg [u8 0,.str [],i_ 0,.str [],ff]) d6 fun f d7=>ah 5 f d5 d7 fun j=>iFL 0 false 1 f j fun d8=>ag .neq d8 (u8 1) fun d9=>qJa d9 [b,a,c,f] j (fun e0=>iFL 0 false 1 f j fun e1=>ag .neq e1 (u8 5) fun e2=>e0 e2 j) fun e3 k=>af e3 (ae true 9 c k fun e4=>ah 9 b e4 k fun z=>ae true 9 b z fun r101=>K (.aw [r101,ff]) z) (iFL 1 false 1 f k fun e5=>aN 3 c fun e6=>ah 1 e6 e5 k fun A=>qLd p_ a 1 A fun e7=>qBe .add e7 1 fun e8=>qSt p_ a 1 e8 A fun e9=>iC p_ 98 [a] e9 fun i5 f0=>iC p_ 100 [a,i_ 0] f0 fun f1 f2=>aB 83 (.agg [u8 0,.str [],i_ 0,.str [],ff]) f2 fun l f3=>ah 5 l f1 f3 fun e=>iFL 0 false 1 l e fun f4=>ag .eql f4 (u8 1) fun f5=>af f5 (qLd p_ a 1 e fun f6=>qBe .add f6 1 fun f7=>qSt p_ a 1 f7 e fun f8=>iC p_ 98 [a] f8 fun i6 B=>iFL 1 false 1 l B fun f9=>iC p_ 148 [f9,.str [105]] B fun g0 g1=>aN 4 c fun g2=>ah 1 g2 g0 g1 fun d=>ae true 9 c d fun g3=>iQ p_ 105 [a] d fun r=>aI (fun C=>aL r true (aN 4 c fun D=>ae false 1 D d fun E=>C [D,E,E] d) (C [un,un,un] d)) fun F _=>aI (fun G=>aL (nx F 2) false (aN 1 l fun H=>ae false 1 H d fun I=>iQ p_ 148 [I,.str [115]] d fun g4=>G [H,I,g4] d) (G [un,un,un] d)) fun g5 _=>aI (fun J=>aL r true (bG (nx F 2) tt (nx g5 2) fun g6=>J [g6] d) (J [un] d)) fun g7 _=>bG r (nx g7 0) ff fun g8=>ah 9 b g3 d fun L=>ae true 9 b L fun r154=>K (.aw [r154,g8]) L) (ae true 9 c e fun g9=>iQ p_ 105 [a] e fun i0=>ah 9 b g9 e fun M=>ae true 9 b M fun r158=>K (.aw [r158,i0]) M))))
def XA(a:AV):ej p_ 151 [a] (QY a):=mkM Tryz.func151 (sn (sn (sn (sn (sn (sn (sn (sn (.join [2,4,5] [] (sn (.two .nil (sn (sn (.seq (.seq (.aO (oR 0 4 (.aA 3 false (fR 4 2) [2,4,5,7] [48,50]::.op 6 false::[]))) .nil) .nil))))) (sn (sn (.seq (.seq (.aO (oR 0 4 (.aA 3 true (fR 4 3) [2,4,5,8] [75,78]::.op 7 false::[]))) .nil) (sn (sn (sn (.seq (sn (sn (.two (sn (sn (sn (.seq (.two (.draw 12 (oR 0 4 (.aA 3 true (fR 4 3) [] [115,116,117]::.aA 6 false (fR 7 3) [] [118,119,120]::.aA 3 true [(10,false)] [] [121]::.op 11 false::[])) [] []) (.fF [(12,2,false),(13,0,false)])) .nil)))) .nil))) (.seq (.draw 3 (oR 0 3 []) (oR 3 2 []) []) .nil))))))))))))))))) 126 [.cell 2 99,.tmp 3]
def Wc(a2 Z a6:AV)(h:aa)(K:AV→aa→Prop):Prop:=
 aB 93 Z h fun c a0=>aB 118 (.agg [u8 0,qNs,qNs]) a0 fun a A=>Aq A (fun a1=>bf (.agg [qNs,i_ 0]) [(0,1,a2)] fun a3=>aB 160 a3 A fun e a4=>iC p_ 98 [e] a4 fun o4 a5=>aB 118 (.agg [u8 0,qNs,qNs]) a5 fun d B=>aI (fun u=>af a6 (iC p_ 99 [e] B fun a7 a8=>aN 0 d fun a9=>ah 1 a9 a7 a8 fun v=>iFL 0 false 1 d v fun b0=>ag .eql b0 (u8 0) fun b1=>af b1 (aN 0 d fun b2=>ah 1 b2 (u8 1) v fun b3=>eC [c,a,e,d] (u [] b3)) (eC [c,a,e,d] (u [] v))) (eC [c,a,e,d] (u [] B))) fun o5 b4=>bc [] b4 fun b5 o6 b6 =>
 aB 121 (.agg [.str [],qNs]) b6 fun f b7=>aI (fun w=>iC p_ 100 [e,i_ 0] b7 fun b8 b9=>aB 83 (.agg [u8 0,.str [],i_ 0,.str [],ff]) b9 fun x c0=>ah 5 x b8 c0 fun k=>iFL 0 false 1 x k fun c1=>ag .eql c1 (u8 1) fun c2=>af c2 (iFL 1 false 1 x k fun c3=>iC p_ 101 [c3] k fun c4 c5=>aN 0 f fun c6=>ah 1 c6 c4 c5 fun C=>qLd p_ e 1 C fun c7=>qBe .add c7 1 fun c8=>qSt p_ e 1 c8 C fun c9=>eC [c,a,e,d,f] (w [] c9)) (iC p_ 102 [e,.str [42]] k fun d0 D=>af d0 (aN 0 f fun d1=>ah 1 d1 (.str [42]) D fun d2=>eC [c,a,e,d,f] (w [] d2)) (eC [c,a,e,d,f] (w [] D)))) fun o7 E=>ae true 2 c E fun d3=>iC p_ 103 [e,d3] E fun F d4=>ay 0 F fun d5=>ay 1 F fun d6=>aN 1 f fun d7=>ah 1 d7 d5 d4 fun l=>bT d6 fun d8=>qJo d8 [c,a,e,d,f] l (fun d9=>ae true 2 f l fun e0=>ae true 2 c l fun e1=>iC p_ 104 [e0,e1] l fun e2 e3=>bT e2 fun e4=>d9 e4 e3) fun e5 i=>af e5 (ae true 3 d i fun e6=>ah 3 a e6 i fun G=>ae true 3 a G fun r79=>K (.aw [r79,ff]) G) (iFL 1 false 1 d i fun e7=>ae true 2 f i fun e8=>bz 1 2 (.agg [.str [],qNs]) [(0,2,e8)] fun e9=>bN false 121 2 40 e7 e9 i fun f0 f1=>aN 1 d fun f2=>ah 1 f2 f0 f1 fun f3=>iC p_ 98 [e] f3 fun f4 f5=>iC p_ 105 [e] f5 fun f6 m=>af f6 ((∃d92:Nat,ae true 3 d m fun f7=>aN 1 d fun H=>cG (pQ d92 H) (ae false 1 H m fun f8=>dX f8 fun f9=>qBe .leq f9 64 fun g0=>cG (wj d92 a) (ah 3 a f7 m fun I=>ae true 3 a I fun r99=>K (.aw [r99,g0]) I)))) (iC p_ 99 [e] m fun n J=>aI (fun L=>ag .eql n (u8 0) fun g1=>qJa g1 [c,a,e,d,n] J (fun g2=>bT f4 fun g3=>g2 g3 J) fun g4 o=>af g4 (ae true 3 d o fun g5=>ah 3 a g5 o fun M=>ae true 3 a M fun r111=>K (.aw [r111,ff]) M) (ag .eql n (u8 0) fun g6=>af g6 (eC [c,a,e,d] (L [u8 1] o)) (eC [c,a,e,d] (L [n] o)))) fun g7 N=>iFL 2 false 1 d N fun g8=>bz 1 1 (u8 0) [(0,1,(nx g7 0))] fun g9=>bN false 5 1 1 g8 g9 N fun i0 i1=>aN 2 d fun i2=>ah 1 i2 i0 i1 fun i3=>eC [c,a,e,d] (b5 [] i3)))) fun a1 b i4 =>
 bc [] i4 fun i5 o8 i6 =>
 aB 121 (.agg [.str [],qNs]) i6 fun g i7=>aI (fun y=>iC p_ 100 [nx b 0,i_ 0] i7 fun i8 i9=>aB 83 (.agg [u8 0,.str [],i_ 0,.str [],ff]) i9 fun z j0=>ah 5 z i8 j0 fun p=>iFL 0 false 1 z p fun j1=>ag .eql j1 (u8 1) fun j2=>af j2 (iFL 1 false 1 z p fun j3=>iC p_ 101 [j3] p fun j4 j5=>aN 0 g fun j6=>ah 1 j6 j4 j5 fun O=>qLd p_ (nx b 0) 1 O fun j7=>qBe .add j7 1 fun j8=>qSt p_ (nx b 0) 1 j8 O fun j9=>eC [c,a,nx b 0,nx b 1,g] (y [] j9)) (iC p_ 102 [nx b 0,.str [42]] p fun k0 P=>af k0 (aN 0 g fun k1=>ah 1 k1 (.str [42]) P fun k2=>eC [c,a,nx b 0,nx b 1,g] (y [] k2)) (eC [c,a,nx b 0,nx b 1,g] (y [] P)))) fun o9 Q=>ae true 2 c Q fun k3=>iC p_ 103 [nx b 0,k3] Q fun R k4=>ay 0 R fun k5=>ay 1 R fun k6=>aN 1 g fun k7=>ah 1 k7 k5 k4 fun q=>bT k6 fun k8=>qJo k8 [c,a,nx b 0,nx b 1,g] q (fun k9=>ae true 2 g q fun l0=>ae true 2 c q fun l1=>iC p_ 104 [l0,l1] q fun l2 l3=>bT l2 fun l4=>k9 l4 l3) fun l5 j=>af l5 (ae true 3 (nx b 1) j fun l6=>ah 3 a l6 j fun S=>ae true 3 a S fun r174=>K (.aw [r174,ff]) S) (iFL 1 false 1 (nx b 1) j fun l7=>ae true 2 g j fun l8=>bz 1 2 (.agg [.str [],qNs]) [(0,2,l8)] fun l9=>bN false 121 2 40 l7 l9 j fun m0 m1=>aN 1 (nx b 1) fun m2=>ah 1 m2 m0 m1 fun m3=>iC p_ 98 [nx b 0] m3 fun m4 m5=>iC p_ 105 [nx b 0] m5 fun m6 r=>af m6 ((∃d187:Nat,ae true 3 (nx b 1) r fun m7=>aN 1 (nx b 1) fun T=>cG (pQ d187 T) (ae false 1 T r fun m8=>dX m8 fun m9=>qBe .leq m9 64 fun n0=>cG (wj d187 a) (ah 3 a m7 r fun U=>ae true 3 a U fun r194=>K (.aw [r194,n0]) U)))) (iC p_ 99 [nx b 0] r fun s V=>aI (fun W=>ag .eql s (u8 0) fun n1=>qJa n1 [c,a,nx b 0,nx b 1,s] V (fun n2=>bT m4 fun n3=>n2 n3 V) fun n4 t=>af n4 (ae true 3 (nx b 1) t fun n5=>ah 3 a n5 t fun X=>ae true 3 a X fun r206=>K (.aw [r206,ff]) X) (ag .eql s (u8 0) fun n6=>af n6 (eC [c,a,nx b 0,nx b 1] (W [u8 1] t)) (eC [c,a,nx b 0,nx b 1] (W [s] t)))) fun n7 Y=>iFL 2 false 1 (nx b 1) Y fun n8=>bz 1 1 (u8 0) [(0,1,(nx n7 0))] fun n9=>bN false 5 1 1 n8 n9 Y fun o0 o1=>aN 2 (nx b 1) fun o2=>ah 1 o2 o0 o1 fun o3=>eC [c,a,nx b 0,nx b 1] (i5 [] o3)))
def V66(a b c:AV):ej p_ 66 [a,b,c] (Wc a b c):=mkM Tryz.func66 (sn (.seq (.loop [0] [] .nil) (.join [4,6] [8,9] (sn (sn (sn (.join [4,6,8,9] [] .nil (sn (.seq (.one (.loop [4,6,8,9] [] (.one (sn (.join [4,6,8,9,10] [] .nil (sn (.seq (sn (.seq (.aO (oR 0 3 (.aA 2 false (fR 3 4) [4,6,8,9,10] [56,60]::.op 7 false::[]))) .nil)) (.seq (.aO (oR 0 3 (.op 3 true::oR 4 3 []))) (sn (sn (sn (.join [4,6,8,9] [14] (.one (.seq (.aO (oR 0 3 (.aA 2 true (fR 3 2) [4,6,8,9,14] [78,80]::oR 5 2 []))) .nil)) (.aO (oR 0 3 (.op 3 true::oR 4 3 []))))))))))))))) (.seq (.two (.fF [(0,1,false),(1,0,false),(2,3,false),(3,0,false),(4,0,false),(5,4,false),(6,0,false)]) .nil) .nil))))))) (sn (.seq (.one (.loop [4,6,8,9] [] (.one (sn (.join [4,6,8,9,10] [] .nil (sn (.seq (sn (.seq (.aO (oR 0 3 (.aA 2 false (fR 3 4) [4,6,8,9,10] [56,60]::.op 7 false::[]))) .nil)) (.seq (.aO (oR 0 3 (.op 3 true::oR 4 3 []))) (sn (sn (sn (.join [4,6,8,9] [14] (.one (.seq (.aO (oR 0 3 (.aA 2 true (fR 3 2) [4,6,8,9,14] [78,80]::oR 5 2 []))) .nil)) (.aO (oR 0 3 (.op 3 true::oR 4 3 []))))))))))))))) (.seq (.two (.fF [(0,1,false),(1,0,false),(2,3,false),(3,0,false),(4,0,false),(5,4,false),(6,0,false)]) .nil) .nil)))))) 97 [.cell 6 118,.tmp 7]
end
section
open Go Go.Aw Go.jh Go.RowKit
open Go.bE hiding u1 ao
def gg(sz:Nat)(rows:List (List AV)):AV:=match rows with|[]=>bC|r:: l=>.sl sz (r:: l)
def jt{sz:Nat}{rows:List (List AV)}(h:aX rows):Aw.Pure (gg sz rows):=by
 cases rows with
 | nil=>simp[gg,Aw.Pure]
 | cons r l=>simpa[gg,Aw.Pure]using h
def nZ(sz:Nat)(rows:List (List AV)):bw (gg sz rows)=true:=by cases rows<;>rfl
def tq{sz:Nat}{rows rows':List (List AV)}(h:lI rows rows'):Bz (gg sz rows) (.sl sz rows'):=by
 cases h with
 | nil=>exact .nil sz
 | cons a b=>exact .sl (.cons a b)
mutual
def nX:Cx→List AV
 | .mk l ps cs=>[u1 l,gg 2 (fE ps),gg 1 (cs.map fun c=>[u1 c])]
def fE:List Cp→List (List AV)
 | []=>[]
 | p:: ps=>nP p:: fE ps
def nP:Cp→List AV
 | .mk t ss=>[.str t,gg 9 (dA ss)]
def dA:List Sm→List (List AV)
 | []=>[]
 | s:: ss=>nS s:: dA ss
def nS:Sm→List AV
 | .mk k n o v f a b w l=>[u1 k,.str n,u1 o,.str v,b_ f,i_ a,i_ b,b_ w,gg 3 (dR l)]
def dR:List Cx→List (List AV)
 | []=>[]
 | x:: xs=>nX x:: dR xs
end
theorem A8:∀l,dR l=l.map nX
 | []=>by simp[dR]
 | p:: l=>by simp[dR,A8 l]
theorem w9:∀l,fE l=l.map nP
 | []=>by simp[fE]
 | p:: l=>by simp[fE,w9 l]
theorem A6:∀l,dA l=l.map nS
 | []=>by simp[dA]
 | p:: l=>by simp[dA,A6 l]
mutual
theorem GI:∀x:Cx,aq (nX x)
 | .mk l ps cs=>by simp only[nX,aq,Aw.Pure,true_and,and_true];exact⟨jt (Eh ps),jt (bE.su cs)⟩
theorem Eh:∀l:List Cp,aX (fE l)
 | []=>by simp[fE,aX]
 | p:: l=>by simp[fE,aX,GF p,Eh l]
theorem GF:∀p:Cp,aq (nP p)
 | .mk t ss=>by simp only[nP,aq,Aw.Pure,true_and,and_true];exact jt (Ei ss)
theorem Ei:∀l:List Sm,aX (dA l)
 | []=>by simp[dA,aX]
 | s:: l=>by simp[dA,aX,iO s,Ei l]
theorem iO:∀s:Sm,aq (nS s)
 | .mk k n o v f a b w l=>by simp only[nS,aq,Aw.Pure,true_and,and_true];exact jt (jS l)
theorem jS:∀l:List Cx,aX (dR l)
 | []=>by simp[dR,aX]
 | x:: l=>by simp[dR,aX,GI x,jS l]
end
theorem BN:∀r:List (List AV),lI r r
 | []=>.nil
 | x:: r=>.cons (gG.refl x) (BN r)
mutual
theorem S6:∀x:Cx,gG (nX x) (fL x)
 | .mk l ps cs=>by rw[nX,fL];exact .cons (.refl _) (.cons (tq (GG ps)) (.cons (tq (BN _)) .nil))
theorem GG:∀l:List Cp,lI (fE l) (jk l)
 | []=>.nil
 | p:: l=>.cons (JK p) (GG l)
theorem JK:∀p:Cp,gG (nP p) (fD p)
 | .mk t ss=>by rw[nP,fD];exact .cons (.refl _) (.cons (tq (GH ss)) .nil)
theorem GH:∀l:List Sm,lI (dA l) (kx l)
 | []=>.nil
 | s:: l=>.cons (S5 s) (GH l)
theorem S5:∀s:Sm,gG (nS s) (dv s)
 | .mk k n o v f a b w l=>by
   rw[nS,dv];exact .cons (.refl _) (.cons (.refl _) (.cons (.refl _) (.cons (.refl _) (.cons (.refl _) (.cons (.refl _) (.cons (.refl _) (.cons (.refl _) (.cons (tq (xa l)) .nil))))))))
theorem xa:∀l:List Cx,lI (dR l) (eR l)
 | []=>.nil
 | x:: l=>.cons (S6 x) (xa l)
end
abbrev cx_(s:Sm):aY:=.ak ⟨99,nS s,true⟩
def eV(s:Sm):(nS s).length=9:=by cases s;rfl
def qo(s:Sm):(nS s).all bw=true:=by cases s;simp only[nS,aaC,List.all_nil,nZ];rfl
def cF:Sm:=.mk 0 [] 0 [] false 0 0 false []
def tC{K:AV→aa→Prop}(hV:H[V]?=some (cx_ s0))(k:K (.agg (nS s)) (H.set V (cx_ s))):
 ah 9 (.op V 0) (.agg (nS s)) H fun g=>ae true 9 (.op V 0) g fun r=>K r g:=by
 refine aM (cs:=nS s) (h':=H.set V (cx_ s)) rfl hV rfl rfl (by simp[eV]) (eV s) (qo s) (by rw[fY (by simp[eV])]) ?_;refine fU (cs:=nS s) (b:=⟨99,nS s,true⟩) rfl (iF (dO.1 hV).1) (by simp[eV]) (by rw[List.drop_zero,Of (by simp[eV])]) ?_;exact k
def jx{K:AV→Prop}(hV:H[V]?=some (cx_ s))(k:K (.agg (nS s))):ae true 9 (.op V 0) H K:=
 fU (cs:=nS s) rfl hV (by simp[eV]) (by rw[List.drop_zero,Of (by simp[eV])]) k
def Ug{t:Tok}{K:AV→Prop}(q:K (.str t.t)):qT false 1 1 t.av K:=q
structure kE(v:List Vl)(H:aa)(B:Nat)(s:Sm)(r:List Vl):Prop where
 z:H[0]?=some (cx_ cF)
 rd:H[1]?=some (dc v r)
 x:H[B]?=some (cx_ s)
 b:1<B
 sf:r <:+ v
section
variable {v r r':List Vl} {H H':aa} {B:Nat} {s s':Sm}
def kE.lt(a:kE v H B s r):B<H.length:=(dO.1 a.x).1
def kE.mo(a:kE v H B s r)(m:Mo 1 (dc v r') H H')(h:r' <:+ v):kE v H' B s r':=by
 have:=a.lt;have:=a.b;exact⟨by rw[m.other (by omega) (by decide)];exact a.z,m.at (by omega),by rw[m.other (by omega) (by omega)];exact a.x,a.b,h⟩
def kE.app(a:kE v H B s r)(j:aa):kE v (H++j) B s r:=by
 have q:∀{i:Nat} {e:aY},H[i]?=some e→(H++j)[i]?=some e:=fun h=>by rw[gE (dO.1 h).1];exact h
 exact⟨q a.z,q a.rd,q a.x,a.b,a.sf⟩
def kE.set(a:kE v H B s r)(s':Sm):kE v (H.set B (cx_ s')) B s' r:=by
 have:=a.b;exact⟨by rw[iN (by omega)];exact a.z,by rw[iN (by omega)];exact a.rd,iF a.lt,a.b,a.sf⟩
def kE.st{F:aa→Prop}(a:kE v H B (eg n o w f) r)(k:kE v (H.set B (cx_ (eg n o' w f))) B (eg n o' w f) r→F (H.set B (cx_ (eg n o' w f)))):
 ah 1 (.op B (0+2)) (u8 o') H F:=aM (cs:=[u8 o']) rfl a.x rfl rfl (by simp[eV]) rfl rfl rfl (k (a.set _))
def kE.stV{F:aa→Prop}(a:kE v H B (eg n o w f) r)(k:kE v (H.set B (cx_ (eg n o w' f))) B (eg n o w' f) r→F (H.set B (cx_ (eg n o w' f)))):
 ah 1 (.op B (0+3)) (.str w') H F:=aM (cs:=[.str w']) rfl a.x rfl rfl (by simp[eV]) rfl rfl rfl (k (a.set _))
def kE.stF{F:aa→Prop}(a:kE v H B (eg n o w f) r)(k:kE v (H.set B (cx_ (eg n o w f'))) B (eg n o w f') r→F (H.set B (cx_ (eg n o w f')))):
 ah 1 (.op B (0+4)) (b_ f') H F:=aM (cs:=[b_ f']) rfl a.x rfl rfl (by simp[eV]) rfl rfl rfl (k (a.set _))
end
def Lm:List Vl→Sm×Bool
 | []=>(eg [] 0 [] false,false)
 | t:: r=>if t.kind=1 then Dm (cq t.text) (cR r) else (eg (cq t.text) 0 [] false,false)
def Uo(v:List Vl):mH v=Lm (cR v):=by unfold mH;cases cR v<;>rfl
section
variable [bB]
abbrev atR(o:Sm×Bool):AV:=.aw [.agg (nS o.1),b_ o.2]
def Ly(v:List Vl)(hv:v.length<2^30):aV p_ 151 [.sl 6 (ct v)] (atR (mH v)):=by
 refine (XA _).aQ (by simp[ki]) (by simp only[aq,Aw.Pure,and_true];exact iO _) ?_;unfold QY;refine bq (cs:=nS cF) (n:=0) (h':=[cx_ cF]) rfl rfl rfl rfl (bp rfl (bq (cs:=[.sl 6 (ct v),i_ 0]) (n:=1) (h':=[cx_ cF,Kg v 0]) rfl rfl rfl rfl ?_));obtain⟨h,hh⟩:∃h,h=[cx_ cF,Kg v 0]:=⟨_,rfl⟩;have rd0:h[1]?=some (dc v v):=by rw[hh];simp
 have z0:h[0]?=some (cx_ cF):=by rw[hh];rfl
 have l0:h.length=2:=by rw[hh];rfl
 rw[←hh];clear hh
 -- what is handed back
 have retB:∀(H:aa) (B:Nat) (s:Sm) (r:List Vl) (b:Bool),kE v H B s r→(s,b)=mH v→ae true 9 (.op B 0) H fun v21=>ah 9 (.op 0 0) v21 H fun g=>ae true 9 (.op 0 0) g fun r=>cf (atR (mH v)) (.aw [r,b_ b]) g:=by
  intro H B s r b a e;refine jx a.x (tC (K:=fun r g=>cf (atR (mH v)) (.aw [r,b_ b]) g) a.z ?_);rw[←e];exact .pure (by simp only[aq,Aw.Pure,and_true];exact iO _) rfl
 refine kV rd0 (List.suffix_refl _) rfl hv fun H1 m1=>?_;have s1:=kr v;have l1:=m1.len;have z1:H1[0]?=some (cx_ cF):=by rw[m1.other (by omega) (by decide)];exact z0
 have hat:=Uo v;obtain⟨r1,hr1⟩:∃r1,cR v=r1:=⟨_,rfl⟩;rw[hr1]at m1 s1 hat;refine lY (n:=0) (m1.at (by omega)) s1 rfl (by omega) fun H2 m2=>?_;have m2:=m1.trans (by omega) m2;have z2:H2[0]?=some (cx_ cF):=by rw[m2.other (by omega) (by decide)];exact z0
 have l2:=m2.len;refine Ug (uCon (gW _) ?_);have em:(bX r1 0).t.map eI=cq (bX r1 0).t:=rfl;rw[em];refine bp (cs:=nS (eg (cq (bX r1 0).t) 0 [] false)) rfl (bq (cs:=nS cF) (n:=H2.length) (h':=H2++[cx_ cF]) rfl rfl rfl rfl (aM (cs:=nS (eg (cq (bX r1 0).t) 0 [] false)) (h':=H2++[cx_ (eg (cq (bX r1 0).t) 0 [] false)]) rfl (b:=⟨99,nS cF,true⟩) (by simp) rfl rfl (by simp[eV]) rfl rfl (by rw[Lt _ _ (aS _)];simp;rfl) ?_));have a2:kE v (H2++[cx_ (eg (cq (bX r1 0).t) 0 [] false)]) H2.length (eg (cq (bX r1 0).t) 0 [] false) r1:=⟨by rw[gE (by omega)];exact z2,by rw[gE (by omega)];exact m2.at (by omega),by simp,by omega,s1⟩;obtain⟨B,hB⟩:∃B,H2.length=B:=⟨_,rfl⟩;obtain⟨H3,h3⟩:∃H3,H2++[cx_ (eg (cq (bX r1 0).t) 0 [] false)]=H3:=⟨_,rfl⟩;rw[hB,h3]at a2;rw[hB,h3];clear h3 hB m1 m2 z1 z2 l1 l2;refine lY (n:=0) a2.rd s1 rfl (by omega) fun H4 m4=>?_;have a4:=a2.mo m4 s1;refine NW (zzH ?_);cases r1 with
 | nil=>exact zzL rfl (retB _ _ _ _ _ a4 (by rw[hat];rfl))
 | cons t r =>
   by_cases c1:t.kind=1
   ·rw[Lm,if_pos c1]at hat;refine zzK (by show (!decide (t.kind=1))=false;simp[c1]) (qe a4.rd s1 (by omega) ?_);have sr:=(List.suffix_cons t r).trans s1;have a5:=a4.mo (Mo.set 1 (dc v r) H4) sr;refine kV a5.rd sr rfl hv fun H6 m6=>?_;have s2:=(kr r).trans sr;have a6:=a5.mo m6 s2;obtain⟨r2,hr2⟩:∃r2,cR r=r2:=⟨_,rfl⟩;rw[hr2]at hat s2 a6;refine zR a6.rd s2 rfl ?_;obtain⟨n,hn⟩:∃n,cq (bX (t:: r) 0).t=n:=⟨_,rfl⟩;have hn':cq t.text=n:=hn;rw[hn]at a6;rw[hn']at hat;cases r2 with
    | nil=>exact zzL rfl (retB _ _ _ _ _ a6 (by rw[hat];rfl))
    | cons t2 r3 =>
      refine zzK rfl ?_;have s3:=(List.suffix_cons t2 r3).trans s2;refine cL (fun s H=>s=[]∧∃o r4,kE v H B (eg n o [] false) r4∧mH v=BC n o (cR r4)) ?_ ?_
      ·rintro _ H ⟨rfl,o,r4,a,hat⟩;refine kV a.rd a.sf rfl hv fun H7 m7=>?_;have s5:=(kr r4).trans a.sf;have a7:=a.mo m7 s5;obtain⟨r5,hr5⟩:∃r5,cR r4=r5:=⟨_,rfl⟩;rw[hr5]at hat s5 a7;refine lY (n:=0) a7.rd s5 rfl (by omega) fun H8 m8=>?_;have a8:=a7.mo m8 s5;refine il ?_;have hT:(H8++[aY.ak ⟨83,(bX r5 0).row,true⟩])[H8.length]?=some (.ak ⟨83,(bX r5 0).row,true⟩):=by simp
       have a9:=a8.app [aY.ak ⟨83,(bX r5 0).row,true⟩];obtain⟨T,hTl⟩:∃T,H8.length=T:=⟨_,rfl⟩;obtain⟨H9,h9⟩:∃H9,H8++[aY.ak ⟨83,(bX r5 0).row,true⟩]=H9:=⟨_,rfl⟩;have hTB:T≠B:=by have:=a8.lt;omega
       rw[h9,hTl]at hT;rw[h9]at a9;rw[hTl,h9];clear h9 hTl m8 m7;refine zzA (zzU hT rfl (zzH ?_));have bad:mH v=(eg n o [] false,false)→ae true 9 (.op B 0) H9 fun v21=>ah 9 (.op 0 0) v21 H9 fun g=>ae true 9 (.op 0 0) g fun r=>cf (atR (mH v)) (.aw [r,ff]) g:=fun e=>retB _ _ _ _ _ a9 e.symm;refine kU (!decide ((bX r5 0).k=1)&&!decide ((bX r5 0).k=5)) rfl (fun z=>by rw[z];rfl) (fun z F hF=>?_) (fun s hs=>kf hs ?_)
       ·refine zzA (zzU hT rfl (zzH (ar ?_)));rw[z,Bool.true_and]at hF;exact hF
       by_cases c2:(bX r5 0).k=1∨(bX r5 0).k=5
       ·have c3:(!decide ((bX r5 0).k=1)&&!decide ((bX r5 0).k=5))=false:=by rcases c2 with z|z<;>simp[z]
        refine zzK c3 ?_;cases r5 with
        | nil=>exact absurd c2 (by decide)
        | cons t5 r6 =>
          have c2:t5.kind=1∨t5.kind=5:=c2;rw[BC,if_pos c2]at hat;refine zzA (zzU hT rfl (zzA ?_));refine a9.stV fun a10=>?_;have s6:=(List.suffix_cons t5 r6).trans s5;refine qe a10.rd s5 (by omega) ?_;have a11:=a10.mo (Mo.set 1 (dc v r6) _) s6;refine kV a11.rd s6 rfl hv fun H12 m12=>?_;have s7:=(kr r6).trans s6;have a12:=a11.mo m12 s7;obtain⟨r7,hr7⟩:∃r7,cR r6=r7:=⟨_,rfl⟩;rw[hr7]at hat s7 a12;obtain⟨w,hw⟩:∃w,t5.text=w:=⟨_,rfl⟩;have hw':(bX (t5:: r6) 0).t=w:=hw;rw[hw']at a12;rw[hw]at hat;refine lY (n:=0) a12.rd s7 rfl (by omega) fun H13 m13=>?_;have a13:=a12.mo m13 s7;refine il ?_;have hU:(H13++[aY.ak ⟨83,(bX r7 0).row,true⟩])[H13.length]?=some (.ak ⟨83,(bX r7 0).row,true⟩):=by simp
          have a14:=a13.app [aY.ak ⟨83,(bX r7 0).row,true⟩];obtain⟨U,hUl⟩:∃U,H13.length=U:=⟨_,rfl⟩;obtain⟨H14,h14⟩:∃H14,H13++[aY.ak ⟨83,(bX r7 0).row,true⟩]=H14:=⟨_,rfl⟩;have hUB:U≠B∧U≠1:=by have:=a13.lt;have:=a13.b;omega
          rw[h14,hUl]at hU;rw[h14]at a14;rw[hUl,h14];clear h14 hUl m13 m12;refine zzA (zzU hU rfl (zzG ?_));have last:(bX r7 0).k≠1→mH v=(eg n o w false,r7.isEmpty)→ae true 9 (.op B 0) H14 fun v155=>u7 p_ (.fn (.func 105) [] []) [.op 1 0] H14 fun v156=>ah 9 (.op 0 0) v155 H14 fun g157=>ae true 9 (.op 0 0) g157 fun r158=>cf (atR (mH v)) (.aw [r158,v156]) g157:=by
           intro _ e;refine jx a14.x ?_;refine⟨_,zR a14.rd s7 rfl ⟨rfl,rfl⟩, ?_⟩;refine tC (K:=fun r g=>cf (atR (mH v)) (.aw [r,b_ r7.isEmpty]) g) a14.z ?_;rw[e];exact .pure (by simp only[aq,Aw.Pure,and_true];exact iO _) rfl
          cases r7 with
          | nil=>exact zzK rfl (last (by decide) (by rw[hat];rfl))
          | cons f r8 =>
            by_cases c4:f.kind=1
            ·rw[IK,if_pos c4]at hat;refine zzL (tO c4) ?_;have s8:=(List.suffix_cons f r8).trans s7;refine qe a14.rd s7 (by omega) ?_;have a15:=a14.mo (Mo.set 1 (dc v r8) _) s8;have hU15:(H14.set 1 (dc v r8))[U]?=some (.ak ⟨83,(bX (f:: r8) 0).row,true⟩):=by rw[iN (Ne.symm hUB.2)];exact hU
             refine kV a15.rd s8 rfl hv fun H16 m16=>?_;have s9:=(kr r8).trans s8;have a16:=a15.mo m16 s9;have hU16:H16[U]?=some (.ak ⟨83,(bX (f:: r8) 0).row,true⟩):=by rw[m16.other (dO.1 hU15).1 hUB.2];exact hU15
             obtain⟨r9,hr9⟩:∃r9,cR r8=r9:=⟨_,rfl⟩;rw[hr9]at hat s9 a16;refine zzA (zzU hU16 rfl (uCon (rP _ [105]) ?_));have ei:decide ((bX (f:: r8) 0).t.map eI=([105]:ao).map eI)=decide (cq f.text=[105]):=rfl;rw[ei];refine zzA ?_;refine a16.stF fun a17=>?_;obtain⟨H17,h17⟩:∃H17,H16.set B (cx_ (eg n o w (decide (cq f.text=[105]))))=H17:=⟨_,rfl⟩;have hU17:H17[U]?=some (.ak ⟨83,(bX (f:: r8) 0).row,true⟩):=by rw[←h17,iN (Ne.symm hUB.1)];exact hU16
             rw[h17]at a17 ⊢;clear h17;refine jx a17.x ?_;refine⟨_,zR a17.rd s9 rfl ⟨rfl,rfl⟩, ?_⟩;have fin:∀b,b=(r9.isEmpty&&(decide (cq f.text=[105])||decide (cq f.text=[115])))→ah 9 (.op 0 0) (.agg (nS (eg n o w (decide (cq f.text=[105]))))) H17 fun g153=>ae true 9 (.op 0 0) g153 fun r154=>cf (atR (mH v)) (.aw [r154,b_ b]) g153:=by
              intro b e;refine tC (K:=fun r g=>cf (atR (mH v)) (.aw [r,b_ b]) g) a17.z ?_;rw[e,hat];exact .pure (by simp only[aq,Aw.Pure,and_true];exact iO _) rfl
             refine aK ?_;cases r9 with
             | cons x9 r10 =>
               refine iZ rfl (aK (cX rfl (aK (iZ rfl (zzQ ?_)))));exact fin false rfl
             | nil =>
               refine gZ rfl (zzA (zzU a17.x rfl (aK ?_)))
               by_cases c5:cq f.text=[105]
               ·refine iZ (by simp[nx,c5]) (aK (gZ rfl (bu (by simp[nx,c5]) (zzR ?_))));exact fin true (by simp[c5])
               ·refine gZ (by simp[nx,c5]) (zzA (zzU hU17 rfl ?_));refine⟨_,uCon (rP _ [115]) ⟨rfl,rfl⟩, ?_⟩;have es:decide ((bX (f:: r8) 0).t.map eI=([115]:ao).map eI)=decide (cq f.text=[115]):=rfl;rw[es];refine aK (gZ rfl (bt (by simp[nx,c5]) (zzR ?_)));exact fin _ (by simp[nx,c5])
            ·rw[IK,if_neg c4]at hat;exact zzK (oF c4) (last c4 hat)
       ·have c3:(!decide ((bX r5 0).k=1)&&!decide ((bX r5 0).k=5))=true:=by simp only[not_or]at c2;simp[c2]
        refine zzL c3 (bad ?_);rw[hat];cases r5 with
        | nil=>rfl
        | cons t5 r6 =>
          have c2:¬(t5.kind=1∨t5.kind=5):=c2;rw[BC,if_neg c2]
      ·intro F hF;refine zQ (c:=61) a6.rd s2 rfl hv (fun r' H7 e m7=>?_) (fun H7 e m7=>?_)
       ·obtain⟨y,hy,_⟩:=ud e;have s':r' <:+ v:=List.IsSuffix.trans (by rw[hy];exact List.suffix_cons _ _) s2;have a7:=a6.mo m7 s';refine zzL rfl (zzA ?_);refine a7.st fun a8=>?_;refine ar ?_;refine hF _ _ ⟨rfl,1,r',a8, ?_⟩;rw[hat,Dm,e]
       ·have a7:=a6.mo m7 s2;refine zzK rfl ?_;rw[Dm,e]at hat;dsimp only at hat;refine lY (n:=0) a7.rd s2 rfl (by omega) fun H8 m8=>?_;have a8:=a7.mo m8 s2;refine il ?_;have hT:(H8++[aY.ak ⟨83,(bX (t2:: r3) 0).row,true⟩])[H8.length]?=some (.ak ⟨83,(bX (t2:: r3) 0).row,true⟩):=by simp
        have a9:=a8.app [aY.ak ⟨83,(bX (t2:: r3) 0).row,true⟩];obtain⟨T,hTl⟩:∃T,H8.length=T:=⟨_,rfl⟩;obtain⟨H9,h9⟩:∃H9,H8++[aY.ak ⟨83,(bX (t2:: r3) 0).row,true⟩]=H9:=⟨_,rfl⟩;rw[h9,hTl]at hT;rw[h9]at a9;rw[hTl,h9];clear h9 hTl m8 m7;refine zzA (zzU hT rfl (cu (by kernel_rfl) rfl (zY pG t2.text (by decide) H9) ?_));rintro _ _ ⟨rfl,rfl⟩;have hi:=index_le pG t2.text;have hi5:(pG.length:Int)=5:=rfl;refine zzA (zzU hT rfl (zzH ?_));refine lv (!decide (t2.kind=9)||decide (Lib.index pG t2.text<0)) rfl (fun z=>by rw[show (!decide (t2.kind=9))=true from z];rfl) (fun z F2 hF2=>?_) (fun s hs=>kB hs ?_)
        ·refine zzC (ar ?_);rw[show (!decide (t2.kind=9))=false from z,Bool.false_or]at hF2;exact hF2
        by_cases c2:t2.kind=9∧0≤Lib.index pG t2.text
        ·rw[if_pos c2]at hat;refine zzK (by simp[c2.1];omega) (qe a9.rd s2 (by omega) ?_);have a10:=a9.mo (Mo.set 1 (dc v r3) _) s3;refine zQ (c:=61) a10.rd s3 rfl hv (fun r' H11 e2 m11=>?_) (fun H11 e2 m11=>?_)
         ·obtain⟨y,hy,_⟩:=ud e2;have s':r' <:+ v:=List.IsSuffix.trans (by rw[hy];exact List.suffix_cons _ _) s3;have a11:=a10.mo m11 s';refine zzO (zzK rfl (eD (m:=Lib.index pG t2.text) rfl (by rw[IntKind.wrap_u8];omega) (wm (c:=2+Lib.index pG t2.text) (by decide) rfl rfl (by rw[IntKind.wrap_u8];omega) (zzA ?_))));refine a11.st fun a12=>?_;refine ar ?_;refine hF _ _ ⟨rfl,_,r',a12, ?_⟩;rw[hat,e2]
         ·have a11:=a10.mo m11 s3;refine zzO ?_;exact zzL rfl (retB _ _ _ _ _ a11 (by rw[hat,e2]))
        ·rw[if_neg c2]at hat;refine zzL ?_ (retB _ _ _ _ _ a9 (by rw[hat]))
         by_cases c3:t2.kind=9
         ·have:Lib.index pG t2.text<0:=by
           rcases Int.lt_or_le (Lib.index pG t2.text) 0 with z|z
           ·exact z
           ·exact absurd ⟨c3,z⟩ c2
          simp[this]
         ·simp[c3]
   ·rw[Lm,if_neg c1]at hat;exact zzL (by show (!decide (t.kind=1))=true;simp[c1]) (retB _ _ _ _ _ a4 (by rw[hat];rfl))
end
end
section
open Go Go.Aw
variable [Laid]
def Rv(c e:AV)(h:aa)(K:AV→aa→Prop):Prop:=
 aU c fun d=>bc [i_ 0] h fun f a b =>
 ag .lss (nx a 0) d fun g=>af g (au 1 c (nx a 0) fun i=>ae false 1 i b fun j=>ag .eql e j fun k=>af k (K (nx a 0) b) (qBe .add (nx a 0) 1 fun l=>eC [c,e,d] (f [l] b))) (K (i_ (-1)) b)
def X3(a b:AV):Body p_ 208 [a,b] (Rv a b):=mkB Tryz.func208 (sn (.seq (sn (.one (.loop [0,1,7] [8] .nil))) .nil)) 19 [.tmp 4]
def RQ(b e:AV)(h:aa)(K:AV→aa→Prop):Prop:=
 aU b fun d=>bc [i_ 0] h fun g a c =>
 ag .lss (nx a 0) d fun i=>af i (au 6 b (nx a 0) fun j=>ae true 6 j c fun k=>bA p_ e [k] c fun l f=>af l (K (nx a 0) f) (qBe .add (nx a 0) 1 fun m=>eC [b,e,d] (g [m] f))) (K (i_ (-1)) c)
def Ym(a b:AV):Body p_ 265 [a,b] (RQ a b):=mkB Tryz.func265 (sn (.seq (sn (.one (.loop [0,1,7] [8] .nil))) .nil)) 19 [.tmp 4]
end
section
open Go Go.Aw Go.jh Go.RowKit
open Go.bE hiding u1 ao
abbrev Kx(l:List ao):List (List AV):=l.map fun s=>[.str s]
theorem uN:∀l:List ao,aX (Kx l)
 | []=>by simp[aX]
 | s:: l=>by
   have:=uN l;show aX ([.str s]:: Kx l);simp[aX,aq,Aw.Pure,this]
def Pr{k:Nat}(h:l[k]?=some s)(hb:∀j,j<k→l[j]?≠some s):jv l s=k:=by
 have hk:=(dO.1 h).1;have:l.idxOf? s=some k:=by
  unfold List.idxOf?;rw[List.findIdx?_eq_some_iff_getElem];refine⟨hk,by simpa using (dO.1 h).2,fun j hj=>?_⟩;have:=hb j hj;rw[bY (by omega)]at this;simpa using this
 unfold jv;rw[this]
def Ps(hb:∀j,j<l.length→l[j]?≠some s):jv l s=-1:=by
 have:l.idxOf? s=none:=by
  unfold List.idxOf?;rw[List.findIdx?_eq_none_iff];intro x hx;obtain⟨j,hj,rfl⟩:=List.getElem_of_mem hx;have:=hb j hj;rw[bY hj]at this;simpa using this
 unfold jv;rw[this]
def Gn(l:List ao)(s:ao):-1≤jv l s∧jv l s<l.length:=by
 unfold jv;cases h:l.idxOf? s with
 | none=>simp;omega
 | some k =>
   unfold List.idxOf? at h;rw[List.findIdx?_eq_some_iff_getElem]at h;obtain⟨hk,_⟩:=h;simp;omega
section
variable [Laid]
def DB(l:List ao)(s:ao)(hl:l.length<2^40):aV p_ 208 [.sl 1 (Kx l),.str s] (i_ (jv l s)):=by
 refine (X3 _ _).aQ (by simp only[aq,Aw.Pure,and_true];exact uN l) (by simp) ?_;unfold Rv;refine zzg (n:=l.length) (by simp) fun _=>?_;refine aG (α:=Nat) (fun k=>k≤l.length∧∀j,j<k→l[j]?≠some s) (fun k=>[i_ k]) (fun _=>[]) (fun k=>l.length-k) 0 ⟨aao _,fun j z=>absurd z (aap _)⟩ (Wk.refl _ _ _ (aS _)) ?_;rintro k ⟨hk,hb⟩;refine zzC ?_;rcases AS k l.length with q|q
 ·obtain⟨y,hy⟩:∃y,l[k]?=some y:=⟨_,bY q⟩;refine zzL (tO (by omega)) (zzc rfl rfl hy (zzW (zzI ?_)))
  by_cases e:s=y
  ·subst e;refine zzL (tO rfl) ?_;rw[Pr hy hb];exact .pure (by simp) rfl
  ·refine zzK (oF e) (zzP (by unfold aZ;omega) (ar ?_));refine⟨k+1,⟨q,fun j hj=>?_⟩,Wk.refl _ _ _ (aS _),by omega⟩;rcases AS j k with z|z
   ·exact hb j z
   ·obtain rfl:j=k:=by omega
    rw[hy];exact fun z=>e (GO z).symm
 ·obtain rfl:k=l.length:=by omega
  refine zzK (by simp) ?_;rw[Ps hb];exact .pure (by simp) rfl
def BI:aV p_ 209 [] (.sl 1 (Kx iI)):=by
 refine (X4).aQ (by simp[aq]) (uN _) ?_;unfold Rw;have e:dD (eZ 11 (bl (.str []))) [(0,1,(.str [108,105,110,107])),(1,1,(.str [118,105,115,105,116,101,100])),(2,1,(.str [97,110,121,45,108,105,110,107])),(3,1,(.str [114,111,111,116])),(4,1,(.str [101,109,112,116,121])),(5,1,(.str [110,116,104,45,99,104,105,108,100])),(6,1,(.str [110,116,104,45,108,97,115,116,45,99,104,105,108,100])),(7,1,(.str [105,115])),(8,1,(.str [119,104,101,114,101])),(9,1,(.str [110,111,116])),(10,1,(.str [104,97,115]))]=some (iI.map fun s=>.str s):=rfl;unfold bz;rw[e];show cf _ (.sl 1 (Kx iI)) _;exact .pure (uN iI) rfl
end
variable [bB]
def LG(y:Vl):aV p_ 266 [.agg (ig y)] (b_ (oc y)):=by
 refine (Yn _).aQ (by simp only[aq,Aw.Pure,and_true];exact NJ y) (by simp) ?_;unfold RR;have hsc:(ig y).all bw=true:=by rw[kn];simp[bw]
 refine bq (cs:=ig y) (n:=0) (h':=[.ak ⟨87,ig y,true⟩]) rfl hsc rfl rfl ?_;have h0:(ig y)[0+0+0]?=some (u8 y.kind):=by rw[kn];rfl
 have h1:(ig y)[0+0+1]?=some (.str y.text):=by rw[kn];rfl
 refine zzA (zzA (zzU (b:=⟨87,ig y,true⟩) rfl h0 (zzG (aK ?_))))
 by_cases c:y.kind=1
 ·refine zzN (tO c) (zzA (zzA (zzU (b:=⟨87,ig y,true⟩) rfl h1 (uCon (rP _ [111,102]) (zzR (.pure (by simp) ?_))))));have:decide (y.text.map bE.eI=([111,102]:ao).map bE.eI)=oc y:=by unfold oc;rw[tO c,Bool.true_and];rfl
  rw[←this];rfl
 ·refine zzM (oF c) (bt (by simp[c]) (.pure (by simp) ?_));unfold oc;rw[oF c];rfl
def ofI(v:List Vl):Int:=match v.findIdx? oc with|some i=>(i:Int)|none=>-1
def OO(v:List Vl)(hl:v.length<2^40):aV p_ 265 [.sl 6 (ct v),.fn (.func 266) [] []] (i_ (ofI v)):=by
 refine (Ym _ _).aQ (by simp[aq,Aw.Pure,ki]) (by simp) ?_;unfold RQ;refine zzg (n:=v.length) (by simp[dz]) fun _=>?_;refine aG (α:=Nat) (fun k=>k≤v.length∧∀j y,j<k→v[j]?=some y→oc y=false) (fun k=>[i_ k]) (fun _=>[]) (fun k=>v.length-k) 0 ⟨aao _,fun j y z=>absurd z (aap _)⟩ (Wk.refl _ _ _ (aS _)) ?_;rintro k ⟨hk,hb⟩;refine zzC ?_;rcases AS k v.length with q|q
 ·obtain⟨y,hy⟩:∃y,v[k]?=some y:=⟨_,bY q⟩;refine zzL (tO (by omega)) (zzc (dz v) rfl hy (zzY (by simp[kn]) (uCon (LG y) ?_)));cases c:oc y with
  | true =>
    refine zzL rfl ?_;have:v.findIdx? oc=some k:=by
     rw[List.findIdx?_eq_some_iff_getElem];refine⟨q,by rw[(dO.1 hy).2];exact c,fun j hj=>?_⟩;have:=hb j v[j] hj (bY (by omega));rw[this];decide
    unfold ofI;rw[this];exact .pure (by simp) rfl
  | false =>
    refine zzK rfl (zzP (by unfold aZ;omega) (ar ?_));refine⟨k+1,⟨q,fun j z hj hz=>?_⟩,Wk.refl _ _ _ (aS _),by omega⟩;rcases AS j k with w|w
    ·exact hb j z w hz
    ·obtain rfl:j=k:=by omega
     rw[hy]at hz;cases hz;exact c
 ·obtain rfl:k=v.length:=by omega
  refine zzK (by simp) ?_;have:v.findIdx? oc=none:=by
   rw[List.findIdx?_eq_none_iff];intro y hy;obtain⟨j,hj,rfl⟩:=List.getElem_of_mem hy;exact hb j _ hj (bY hj)
  unfold ofI;rw[this];exact .pure (by simp) rfl
def LL(s:ao):aV p_ 153 [.str s] (atR (nJ s)):=by
 refine (XC _).aQ (by simp) (by simp only[aq,Aw.Pure,and_true];exact iO _) ?_;unfold Q0;refine bq (cs:=nS cF) (n:=0) (h':=[cx_ cF]) rfl rfl rfl rfl ?_;have ret:∀(s':Sm) (b:Bool),(s',b)=nJ s→ah 9 (.op 0 0) (.agg (nS s')) [cx_ cF] fun g=>ae true 9 (.op 0 0) g fun r=>cf (atR (nJ s)) (.aw [r,b_ b]) g:=by
  intro s' b e;refine tC (K:=fun r g=>cf (atR (nJ s)) (.aw [r,b_ b]) g) rfl ?_;rw[←e];exact .pure (by simp only[aq,Aw.Pure,and_true];exact iO _) rfl
 refine uCon (gW s) ?_;have em:s.map eI=cq s:=rfl;rw[em];refine zzI ?_
 by_cases c1:cq s=[102,105,114,115,116,45,99,104,105,108,100]
 ·refine zzL (tO c1) (bp rfl (bp (cs:=nS (.mk 9 [] 0 [] false 0 1 false [])) rfl ?_));exact ret _ true (by unfold nJ;rw[if_pos c1])
 refine zzK (oF c1) (zzI ?_)
 by_cases c2:cq s=[108,97,115,116,45,99,104,105,108,100]
 ·refine zzL (tO c2) (bp rfl (bp (cs:=nS (.mk 10 [] 0 [] false 0 1 false [])) rfl ?_));exact ret _ true (by unfold nJ;rw[if_neg c1,if_pos c2])
 refine zzK (oF c2) ?_;have hw:nJ s=(dq (4+max (jv iI (cq s)) 0) [],decide (0≤jv iI (cq s))&&decide (jv iI (cq s)<5)):=by unfold nJ;rw[if_neg c1,if_neg c2]
 refine uCon BI (uCon (gW s) ?_);rw[em];refine uCon (DB iI (cq s) (by decide)) ?_;have hi:=Gn iI (cq s);have h11:(iI.length:Int)=11:=rfl;obtain⟨i,he⟩:∃i,jv iI (cq s)=i:=⟨_,rfl⟩;rw[he]at hw hi ⊢;refine zzd (eD (m:=max i 0) rfl (by rw[IntKind.wrap_u8];omega) (wm (c:=4+max i 0) (by decide) rfl rfl (by rw[IntKind.wrap_u8];omega) (bp (cs:=nS (dq (4+max i 0) [])) rfl (zzF ?_))));refine kU (decide (0≤i)&&decide (i<5)) rfl (fun z=>by rw[z];rfl) (fun z F hF=>?_) (fun s hs=>kf hs ?_)
 ·refine zzC (ar ?_);rw[z,Bool.true_and]at hF;exact hF
 exact ret _ _ hw.symm
end
section
open Go Go.Aw Go.jh Go.RowKit
open Go.bE hiding u1 ao
def fb(d:Nat)(has:Bool):Sub:=fun kd v rel forg=>if kQ d has kd=true then some (iG (3-(d+1)) (has||decide (kd=14)) v rel forg) else none
def EC(hd:d≤3)(has:Bool)(v:List Vl)(rel forg:Bool):iG (3-d) has v rel forg=iJ (nN (kP (fb d has)) (fi d has) rel) forg (fv v) []:=by
 by_cases h:d=3
 ·subst h;have:fb 3 has=fun _ _ _ _=>none:=by
   funext kd v rel forg
   unfold fb kQ;simp
  rw[this];rfl
 ·obtain⟨k,hk⟩:∃k,3-d=k+1:=⟨3-d-1,by omega⟩;have hs:(fun kd v rel forg=>if has=true∧kd=14 then none else some (iG k (has||decide (kd=14)) v rel forg))=fb d has:=by
   funext kd v rel forg
   unfold fb kQ;have e:3-(d+1)=k:=by omega
   rw[e]
   by_cases q:has=true∧kd=14
   ·rw[if_pos q,if_neg (by simp[q.1,q.2])]
   ·rw[if_neg q,if_pos];cases hb:has with
    | false=>simp[h]
    | true =>
      have:¬kd=14:=fun a=>q ⟨hb,a⟩;simp[h,this]
  rw[hk,iG,hs];have e2:3-(k+1)=d:=by omega
  rw[e2]
/-! ### How great -/
def dK(v:Vl)(l:List Vl):bP (v:: l)=zV v+bP l:=by rw[bP]
def sD(v:Vl):zV v=1+v.text.length+v.unit.length+bP v.list:=by cases v;rw[zV];rfl
def qw(h:r <:+ v):bP r≤bP v:=by
 obtain⟨p,rfl⟩:=h;rw[lz];omega
def tR(h:x∈v):zV x≤bP v:=by
 obtain⟨a,b,rfl⟩:=List.append_of_mem h;rw[lz,dK];omega
def A4(s:ao):(cq s).length=s.length:=by unfold cq;simp
def Dg(sub:Sub):Prop:=∀kd v rel forg r,sub kd v rel forg=some r→ft r.1≤3*bP v
def qv(k:Int)(n:ao):zS (dq k n)=1+n.length:=by unfold dq;rw[zS,ft];simp
def Ta{sub:Sub}(hs:Dg sub)(k:Int)(v:List Vl):zS (vX sub k v).1≤1+3*bP v:=by
 have hB:∀w l q,zS (uC k w l q).1=1+ft l:=fun w l q=>by
  unfold uC;split
  ·split<;>(rw[zS];simp)
  ·rw[zS];simp
 unfold vX;split
 ·rename_i i _;split
  ·rename_i l h;rw[hB];have:=hs _ _ _ _ _ h;have h2:=qw (List.drop_suffix (i+1) v);dsimp only at this;omega
  ·dsimp only;rw[qv];simp<;>omega
 ·rw[hB];simp[ft]<;>omega
def HJ{sub:Sub}(hs:Dg sub)(s:ao)(v:List Vl):zS (kP sub s v).1≤1+3*bP v:=by
 unfold kP;dsimp only;split
 ·rw[qv];simp<;>omega
 ·split
  ·exact Ta hs _ v
  ·split
   ·dsimp only;rw[qv];simp<;>omega
   ·rename_i l b h;have:=hs _ _ _ _ _ h;rw[zS];simp at this ⊢;omega
def tK(r:List Vl):bP (cR r)≤bP r:=by
 induction r with
 | nil=>exact aS _
 | cons x r ih =>
   rw[cR];split
   ·rw[dK];omega
   ·exact aS _
def Uq(v:List Vl):zS (mH v).1≤1+2*bP v:=by
 have hA:∀n o w f,zS (eg n o w f)=1+n.length+w.length:=fun n o w f=>by unfold eg;rw[zS,ft];omega
 have h3:∀n o w q,zS (IK n o w q).1=1+n.length+w.length:=fun n o w q=>by
  cases q with
  | nil=>exact hA _ _ _ _
  | cons f r=>rw[IK];split<;>exact hA _ _ _ _
 have h2:∀n o q,zS (BC n o q).1≤1+n.length+bP q:=fun n o q=>by
  cases q with
  | nil=>rw[BC,hA];simp
  | cons t r =>
    rw[BC];have:=sD t;split
    ·rw[h3,dK];omega
    ·rw[hA];simp<;>omega
 have hb:∀c q r,iA c q=some r→bP r≤bP q:=fun c q r h=>by
  cases q with
  | nil=>cases h
  | cons x q =>
    rw[iA]at h;split at h
    ·cases h;rw[dK];omega
    ·cases h
 have h1:∀n q,zS (Dm n q).1≤1+n.length+bP q:=fun n q=>by
  cases q with
  | nil=>rw[Dm,hA];simp
  | cons t r =>
    rw[Dm];split
    ·rename_i r' e;have:=h2 n 1 (cR r');have:=tK r';have:=hb _ _ _ e;omega
    ·split
     ·split
      ·rename_i r' e;have:=h2 n (2+Lib.index pG t.text) (cR r');have:=tK r';have:=hb _ _ _ e;rw[dK];omega
      ·rw[hA];simp<;>omega
     ·rw[hA];simp<;>omega
 unfold mH;have hsk:=tK v;cases e:cR v with
 | nil=>dsimp only;rw[hA];simp<;>omega
 | cons t r =>
   rw[e,dK]at hsk;have:=sD t;dsimp only;split
   ·have h:=h1 (cq t.text) (cR r);have:=tK r;rw[A4]at h;omega
   ·rw[hA,A4];simp<;>omega
def Ve(s:ao):zS (nJ s).1=1:=by
 unfold nJ;split
 ·rw[zS,ft];rfl
 ·split
  ·rw[zS,ft];rfl
  ·rw[qv];rfl
theorem NP{fn:ao→List Vl→Sm×Bool}(hf:∀s v,zS (fn s v).1≤1+3*bP v):∀(n:Nat) (v:List Vl) (ss:List Sm) (r:List Vl),v.length≤n→ef fn v=some (ss,r)→nU ss+3*bP r+(if ss=[] then 0 else 2)≤3*bP v∧r <:+ v
 | n,[],ss,r,_,h=>by rw[ef]at h;cases h;exact⟨by simp[nU],List.suffix_refl _⟩
 | 0,t:: q,ss,r,hn,h=>by simp at hn
 | n+1,t:: q,ss,r,hn,h=>by
   have hzt:=sD t;have step:∀(x:Sm) (q':List Vl),q' <:+ (t:: q)→q'.length≤n→gJ x (ef fn q')=some (ss,r)→zS x+2+3*bP q'≤3*bP (t:: q)→nU ss+3*bP r+(if ss=[] then 0 else 2)≤3*bP (t:: q)∧r <:+ (t:: q):=by
    intro x q' hs hl e hz;cases e2:ef fn q' with
    | none=>rw[e2]at e;cases e
    | some y =>
      obtain⟨s2,r2⟩:=y;rw[e2]at e;cases e;have ih:=NP hf n q' s2 r hl e2;rw[if_neg (by simp),nU];exact⟨by omega,ih.2.trans hs⟩
   have hq1:q.length≤n:=by simp at hn;omega
   have hsq:q <:+ (t:: q):=List.suffix_cons _ _;rw[ef.eq_def]at h;dsimp only at h;split at h
   ·split at h
    ·exact step _ q hsq hq1 h (by rw[qv,dK];omega)
    ·cases h
   ·split at h
    ·cases q with
     | nil=>cases h
     | cons u q2 =>
       have hzu:=sD u;dsimp only at h;split at h
       ·exact step _ q2 ((List.suffix_cons _ _).trans hsq) (by simp at hq1;omega) h (by rw[qv,dK,dK];omega)
       ·cases h
    ·split at h
     ·split at h
      ·have:=Uq t.list;exact step _ q hsq hq1 h (by rw[dK];omega)
      ·cases h
     ·split at h
      ·cases q with
       | nil=>cases h
       | cons u q2 =>
         have hzu:=sD u;dsimp only at h;have hs2:q2 <:+ (t:: u:: q2):=(List.suffix_cons _ _).trans hsq;split at h
         ·split at h
          ·exact step _ q2 hs2 (by simp at hq1;omega) h (by rw[Ve,dK,dK];omega)
          ·cases h
         ·split at h
          ·split at h
           ·have:=hf u.text u.list;exact step _ q2 hs2 (by simp at hq1;omega) h (by rw[dK,dK];omega)
           ·cases h
          ·cases h
      ·cases h;exact⟨by simp[nU],List.suffix_refl _⟩
def Du(r:List Vl):(jG r).2 <:+ r:=by
 have hs:∀r:List Vl,cR r <:+ r:=fun r=>by
  induction r with
  | nil=>exact List.suffix_refl _
  | cons x r ih =>
    rw[cR];split
    ·exact ih.trans (List.suffix_cons _ _)
    ·exact List.suffix_refl _
 have key:∀{c:UInt8} {r':List Vl},iA c r=some r'→cR r' <:+ r:=fun {c r'} h=>by
  cases r with
  | nil=>cases h
  | cons x q =>
    rw[iA]at h;split at h
    ·cases h;exact (hs _).trans (List.suffix_cons _ _)
    ·cases h
 unfold jG;split
 ·rename_i h;exact key h
 ·split
  ·rename_i h;exact key h
  ·split
   ·rename_i h;exact key h
   ·exact List.suffix_refl _
def KD(v:List Vl):(eL v).1.length+3*bP (eL v).2+(if (eL v).1=[] then 0 else 2)≤3*bP v∧(eL v).2 <:+ v:=by
 cases v with
 | nil=>exact⟨by simp[eL],List.suffix_refl _⟩
 | cons t r =>
   have hz:=sD t;rw[eL];split
   ·refine⟨?_,List.suffix_cons _ _⟩;dsimp only;rw[A4,dK];split<;>omega
   ·split
    ·rename_i r' e;rw[iA]at e;split at e
     ·rename_i q;cases e;refine⟨?_,List.suffix_cons _ _⟩;dsimp only;have:=congrArg List.length q.2;rw[dK];simp at this ⊢;omega
     ·cases e
    ·exact⟨by simp,List.suffix_refl _⟩
def yz(ps:List Cp)(p:Cp):lZ (ps++[p])=lZ ps+zP p:=by
 induction ps with
 | nil=>simp[lZ]
 | cons q ps ih=>rw[aaQ,lZ,lZ,ih];omega
def Ep{has:Bool}{ss:List Sm}(h:fi d has (.mk t ss)=true):t≠[]∨ss≠[]:=by
 rw[fi]at h
 by_cases ht:t=[]
 ·right;intro e;subst ht;subst e;simp at h
 ·exact .inl ht
def NI{fn:ao→List Vl→Sm×Bool}(hf:∀s v,zS (fn s v).1≤1+3*bP v){ss:List Sm}(h:ef fn (eL v).2=some (ss,r)):zP (.mk (eL v).1 ss)+3*bP r+(if (eL v).1=[]∧ss=[] then 0 else 1)≤3*bP v+1∧r <:+ v∧((eL v).1≠[]∨ss≠[]→zP (.mk (eL v).1 ss)+3*bP r+1≤3*bP v):=by
 obtain⟨h1,h2⟩:=KD v;obtain⟨h3,h4⟩:=NP hf _ _ _ _ (aS _) h;rw[zP];refine⟨?_,h4.trans h2,fun q=>?_⟩
 ·by_cases a:(eL v).1=[]<;>by_cases b:ss=[]<;>simp only[a,b,if_true,if_false,and_true,true_and,and_false,false_and]at h1 h3⊢<;> omega
 ·by_cases a:(eL v).1=[]
  ·have b:ss≠[]:=q.resolve_left fun z=>z a;rw[if_pos a]at h1;rw[if_neg b]at h3;omega
  ·rw[if_neg a]at h1;omega
theorem yU{fn:ao→List Vl→Sm×Bool}(hf:∀s v,zS (fn s v).1≤1+3*bP v){has:Bool}(lead:Int):∀(n:Nat) (ps:List Cp) (cs:List Int) (v:List Vl),(jr fn (fi d has) lead n ps cs v).2=true→zX (jr fn (fi d has) lead n ps cs v).1≤3*bP v+cs.length+lZ ps
 | 0,ps,cs,v,h=>by rw[jr]at h;cases h
 | n+1,ps,cs,v,h=>by
   rw[jr]at h ⊢;cases e:ef fn (eL v).2 with
   | none=>rw[e]at h;cases h
   | some y =>
     obtain⟨ss,r⟩:=y;rw[e]at h;dsimp only at h ⊢
     by_cases ho:fi d has (.mk (eL v).1 ss)=true
     ·rw[if_pos ho]at h ⊢;have h1:=(NI hf e).2.2 (Ep ho)
      by_cases q:cR r=[]
      ·rw[if_pos q]at h ⊢;dsimp only;rw[zX,yz];omega
      ·rw[if_neg q]at h ⊢;have hc:=qw (Du (cR r));have hs:=tK r
       by_cases q2:(jG (cR r)).1=0
       ·rw[if_pos q2]at h ⊢
        by_cases q3:(cR r).length=r.length
        ·rw[if_pos q3]at h;cases h
        ·rw[if_neg q3]at h ⊢;have:=yU hf lead n _ _ _ h;rw[yz]at this;simp only[BY,aab,aaN]at this;omega
       ·rw[if_neg q2]at h ⊢;have:=yU hf lead n _ _ _ h;rw[yz]at this;simp only[BY,aab,aaN]at this;omega
     ·rw[if_neg ho]at h;cases h
def Nl{fn:ao→List Vl→Sm×Bool}(hf:∀s v,zS (fn s v).1≤1+3*bP v){has:Bool}(rel:Bool)(v:List Vl)(h:(nN fn (fi d has) rel v).2=true):zX (nN fn (fi d has) rel v).1≤3*bP v:=by
 have hs:=tK v;have hc:=qw (Du (cR v));unfold nN at h ⊢;dsimp only at h ⊢;split
 ·rename_i q;rw[if_pos q]at h;have:=yU hf _ _ _ _ _ h;simp[lZ]at this;omega
 ·rename_i q;rw[if_neg q]at h;have:=yU hf _ _ _ _ _ h;simp[lZ]at this;omega
def uV(l:List (List Vl)):Nat:=(l.map bP).sum
theorem wi:∀v:List Vl,uV (fv v)≤bP v∧fv v≠[]
 | []=>by simp[fv,uV,bP]
 | x:: v=>by
   obtain⟨h1,h2⟩:=wi v;rw[fv];split
   ·refine⟨?_,by simp⟩;show bP []+uV (fv v)≤_;rw[dK,bP];omega
   ·cases e:fv v with
    | nil=>exact absurd e h2
    | cons a t =>
      rw[e]at h1;refine⟨?_,by simp⟩;have h1:bP a+uV t≤bP v:=h1;show bP (x:: a)+uV t≤_;rw[dK,dK];omega
def Nf(l:List Cx)(x:Cx):ft (l++[x])=ft l+zX x:=by
 induction l with
 | nil=>simp[ft]
 | cons y l ih=>rw[aaQ,ft,ft,ih];omega
theorem zt{cp:List Vl→Cx×Bool}(hc:∀v,(cp v).2=true→zX (cp v).1≤3*bP v)(forg:Bool):∀(ps:List (List Vl)) (acc:List Cx),ft (iJ cp forg ps acc).1≤ft acc+3*uV ps
 | [],acc=>by rw[iJ];simp[uV]
 | p:: ps,acc=>by
   have e:uV (p:: ps)=bP p+uV ps:=rfl;rw[iJ];split
   ·rename_i q;have:=zt hc forg ps (acc++[(cp p).1]);have:=hc p q;rw[Nf]at *;omega
   ·split
    ·have:=zt hc forg ps acc;omega
    ·simp[ft]
def NK:∀(k:Nat) (has:Bool) (v:List Vl) (rel forg:Bool),k≤3→ft (iG k has v rel forg).1≤3*bP v:=by
 intro k;induction k with
 | zero =>
   intro has v rel forg _;have h:=EC (d:=3) (aS _) has v rel forg;rw[show 3-3=0 from rfl]at h;rw[h];have hsb:Dg (fb 3 has):=fun kd v rel forg r hr=>by unfold fb kQ at hr;simp at hr
   have:=zt (cp:=nN (kP (fb 3 has)) (fi 3 has) rel) (fun v hv=>Nl (fun s v=>HJ hsb s v) rel v hv) forg (fv v) [];have h2:=(wi v).1;simp[ft]at this;omega
 | succ k ih =>
   intro has v rel forg hk;have h:=EC (d:=3-(k+1)) (by omega) has v rel forg;rw[show 3-(3-(k+1))=k+1 by omega]at h;rw[h];have hsb:Dg (fb (3-(k+1)) has):=fun kd v rel forg r hr=>by
    unfold fb at hr;split at hr
    ·cases hr;rw[show 3-(3-(k+1)+1)=k by omega];exact ih _ _ _ _ (by omega)
    ·cases hr
   have:=zt (cp:=nN (kP (fb (3-(k+1)) has)) (fi (3-(k+1)) has) rel) (fun v hv=>Nl (fun s v=>HJ hsb s v) rel v hv) forg (fv v) [];have h2:=(wi v).1;simp only[ft,aaq]at this;omega
def TU(d:Nat)(has:Bool):Dg (fb d has):=fun kd v rel forg r hr=>by
 unfold fb at hr;split at hr
 ·cases hr;exact NK _ _ _ _ _ (by omega)
 ·cases hr
end
section
open Go Go.Aw Go.jh Go.RowKit
open Go.bE hiding u1 ao
mutual
def vB:Vl→Prop
 | .mk _ t n u _ l=>(-10^15≤n∧n≤10^15)∧t.length≤2^20∧u.length≤2^20∧gF l
def gF:List Vl→Prop
 | []=>True
 | v:: l=>vB v∧gF l
end
theorem xm:∀{l:List Vl} {x:Vl},gF l→x∈l→vB x
 | y:: l,x,h,hx=>by
   rw[gF]at h;rcases IS.1 hx with rfl|hx
   ·exact h.1
   ·exact xm h.2 hx
theorem Bt:∀{l:List Vl},(∀x∈l,vB x)→gF l
 | [],_=>trivial
 | y:: l,h=>⟨h y (by simp),Bt fun x hx=>h x (by simp[hx])⟩
def Bu(h:gF l)(hs:∀x∈m,x∈l):gF m:=Bt fun x hx=>xm h (hs x hx)
def P8(h:vB x):gF x.list:=by cases x;rw[vB]at h;exact h.2.2.2
mutual
theorem Va:∀(x:Vl),vB x→∀t∈zF x,(-10^15≤t.n∧t.n≤10^15)∧t.t.length≤2^20∧t.u.length≤2^20
 | .mk k t n u f l,h,x,hx=>by
   rw[vB]at h;rw[zF]at hx;rcases IS.1 hx with rfl|hx
   ·exact⟨h.1,h.2.1,h.2.2.1⟩
   ·split at hx
    ·cases hx
    ·rcases IN.1 hx with hx|hx
     ·exact EV l h.2.2.2 x hx
     ·simp at hx;subst hx;exact⟨⟨by show (-10^15:Int)≤0;decide,by show (0:Int)≤10^15;decide⟩,aao _,aao _⟩
theorem EV:∀(l:List Vl),gF l→∀t∈dV l,(-10^15≤t.n∧t.n≤10^15)∧t.t.length≤2^20∧t.u.length≤2^20
 | [],_,x,hx=>by rw[dV]at hx;cases hx
 | v:: l,h,x,hx=>by
   rw[gF]at h;rw[dV]at hx;rcases IN.1 hx with hx|hx
   ·exact Va v h.1 x hx
   ·exact EV l h.2 x hx
end
def P4(h:gF v)(hc:ic v=0):oU (dV v):=by
 refine⟨?_,EV v h⟩;rw[mC];unfold ic at hc;split at hc
 ·cases hc
 ·split at hc
  ·cases hc
  ·omega
def Nc{a b:Nat}{lo hi:Option AV}{K:AV→Prop}(ha:dS lo 0=some (a:Int))(hb:dS hi v.length=some (b:Int))(h1:a≤b)(h2:b≤v.length)(q:K (.sl 6 (ct ((v.take b).drop a)))):iB 6 (.sl 6 (ct v)) lo hi K:=by
 have hl:(ct v).length=v.length:=by simp[dz]
 rw[Nt,ha,hl,hb];refine⟨rfl,⟨by omega,by omega,by omega⟩, ?_⟩;have:((ct v).take (b:Int).toNat).drop (a:Int).toNat=ct ((v.take b).drop a):=by simp[dz]
 rw[this];exact q
abbrev Tp(o:List Cx×Bool):AV:=.aw [gg 3 (dR o.1),b_ o.2]
def MG(o:List Cx×Bool):Aw.Pure (Tp o):=by simp only[aq,Aw.Pure,and_true];exact jt (jS _)
abbrev vg(d:Nat)(has:Bool):AV:=.agg [i_ d,b_ has]
variable [bB]
def Oh(l:List Tok)(hl:oU l):aV p_ 268 [xy l] (.aw [(pO l).1,i_ (pO l).2]):=by
 unfold xy;split
 ·rename_i e;subst e;exact aV.arg (FQ [] hl) (.cons (.nil 5) .nil) (by simp[aq,Aw.Pure])
 ·exact FQ l hl
def De(n:Nat):Prop:=∀(v:List Vl),bP v<n→gF v→∀(d:Nat) (has rel forg:Bool),d≤3→aV p_ 48 [.sl 6 (ct v),vg d has,b_ rel,b_ forg] (Tp (iG (3-d) has v rel forg))
omit [bB] in
def MA(v:List Vl):(v.findIdx? oc=none∧ofI v=-1)∨∃i,v.findIdx? oc=some i∧ofI v=(i:Int)∧i<v.length:=by
 unfold ofI;cases h:v.findIdx? oc with
 | none=>exact .inl ⟨rfl,rfl⟩
 | some i =>
   rw[List.findIdx?_eq_some_iff_getElem]at h;exact .inr ⟨i,rfl,rfl,h.1⟩
def OM{n:Nat}(hn:n≤2^30)(hP:De n)(v:List Vl)(hz:bP v<n)(hb:gF v)(d:Nat)(has:Bool)(hd:d≤3)(k:Int):aV p_ 210 [.agg (nS (dq k [])),.sl 6 (ct v),vg d has] (atR (vX (fb d has) k v)):=by
 have hlv:=lA v;refine (X5 _ _ _).aQ (by simp only[aq,Aw.Pure,and_true,true_and];exact⟨iO _,ki v⟩) (by simp only[aq,Aw.Pure,and_true];exact iO _) ?_;unfold Rx;obtain⟨plE,hplE⟩:∃plE:aY,plE=.ak ⟨93,[i_ d,b_ has],true⟩:=⟨_,rfl⟩;refine bq (cs:=nS (dq k [])) (n:=0) (h':=[cx_ (dq k [])]) rfl (qo _) rfl rfl (bq (cs:=[i_ d,b_ has]) (n:=1) (h':=[cx_ (dq k []),plE]) rfl rfl rfl (by rw[hplE];rfl) (bq (cs:=nS cF) (n:=2) (h':=[cx_ (dq k []),plE,cx_ cF]) rfl rfl rfl rfl (uCon (OO v (by omega)) ?_)));obtain⟨R,hR⟩:∃R,vX (fb d has) k v=R:=⟨_,rfl⟩;rw[hR]
 -- what is handed back
 have ret:∀(H:aa) (s:Sm) (b:Bool),H[2]?=some (cx_ cF)→R=(s,b)→ah 9 (.op 2 0) (.agg (nS s)) H fun g=>ae true 9 (.op 2 0) g fun r=>cf (atR R) (.aw [r,b_ b]) g:=by
  intro H s b h2 e;refine tC (K:=fun r g=>cf (atR R) (.aw [r,b_ b]) g) h2 ?_;rw[e];exact .pure (by simp only[aq,Aw.Pure,and_true];exact iO _) rfl
 refine cL (fun s H=>∃(w:Bool) (l:List Cx) (q:List Vl),s=[.sl 6 (ct q)]∧H[0]?=some (cx_ (.mk k [] 0 [] false 0 0 w l))∧H[2]?=some (cx_ cF)∧bP q<n∧gF q∧R=uC k w l q) ?_ ?_
 ·rintro _ H ⟨w,l,q,rfl,h0,h2,hzq,hbq,e⟩;refine uCon (Lv q (by omega)) (br rfl rfl (br rfl rfl (zzH ?_)));unfold DR
  by_cases hc:ic q=0
  ·rw[if_pos hc];refine zzK rfl (uCon (Oh _ (P4 hbq hc)) ?_);have hN:uC k w l q=match yH (dV q) with|some (a,b)=>(.mk k [] 0 [] false a b w l,true)|none=>(.mk k [] 0 [] false 0 0 w l,false):=by unfold uC;rw[if_pos hc];rfl
   rw[hN]at e;refine br rfl rfl (br rfl rfl (zzA ?_));have st:∀(a b:Int) (z:Int) (c:Bool),decide (z=0)=c→R=(.mk k [] 0 [] false a b w l,c)→ah 2 (.op 0 (0+5)) (.agg [i_ a,i_ b]) H fun g56=>ae true 9 (.op 0 0) g56 fun v57=>ag .eql (i_ z) (i_ 0) fun v58=>ah 9 (.op 2 0) v57 g56 fun g59=>ae true 9 (.op 2 0) g59 fun r60=>cf (atR R) (.aw [r60,v58]) g59:=by
    intro a b z c hzc e;refine aM (cs:=[i_ a,i_ b]) (h':=H.set 0 (cx_ (.mk k [] 0 [] false a b w l))) rfl h0 rfl rfl (by simp[eV]) rfl rfl rfl ?_;have hl2:=(dO.1 h2).1;refine jx (iF (by omega)) ?_;refine zzG ?_;rw[hzc];exact ret _ _ c (by rw[iN (by decide)];exact h2) e
   unfold pO;cases ha:yH (dV q) with
   | none=>rw[ha]at e;exact st 0 0 12 false rfl e
   | some ab =>
     obtain⟨a,b⟩:=ab;rw[ha]at e;exact st a b 0 true rfl e
  ·rw[if_neg hc];refine zzL (by simp[hc]) (jx h0 ?_);exact ret _ _ false h2 (by rw[e];unfold uC;rw[if_neg hc])
 ·intro F hF;refine zzF ?_;rcases MA v with⟨h1,h2⟩|⟨i,h1,h2,h3⟩
  ·rw[h2];refine zzK rfl (ar ?_);refine hF _ _ ⟨false,[],v,rfl,rfl,rfl,hz,hb, ?_⟩;rw[←hR];unfold vX;rw[h1]
  ·rw[h2];refine zzL (by simp) ?_;have hRi:R=match fb d has k (v.drop (i+1)) false false with|some (l,true)=>uC k true l (v.take i)|_=>(dq k [],false):=by rw[←hR];unfold vX;rw[h1];rfl
   refine fU (cs:=[i_ d,b_ has]) (b:=⟨93,[i_ d,b_ has],true⟩) rfl (by rw[hplE];rfl) (by simp) rfl (zzA (zzU (c:=u8 k) rfl rfl ?_));have hdrop:∀x∈v.drop (i+1),x∈v:=fun x hx=>List.mem_of_mem_drop hx;have hzd:bP (v.drop (i+1))≤bP v:=qw (List.drop_suffix _ _);have hzt:bP (v.take i)≤bP v:=oT v i
   -- the place,and the list in it
   have tail:∀(qd:Nat) (qh fine:Bool),qd≤3→(fine=true→fb d has k (v.drop (i+1)) false false=some (iG (3-qd) qh (v.drop (i+1)) false false))→(fine=false→fb d has k (v.drop (i+1)) false false=none) →
    ay 0 (.aw [vg qd qh,b_ fine]) fun v16=>ay 1 (.aw [vg qd qh,b_ fine]) fun v17=>aB 93 (.agg [(i_ 0),ff]) [cx_ (dq k []),plE,cx_ cF] fun v18 g19=>ah 2 v18 v16 g19 fun g20=>ag .add (i_ i) (i_ 1) fun v21=>iB 6 (.sl 6 (ct v)) (some v21) none fun v22=>ae true 2 v18 g20 fun v23=>u7 p_ (.fn (.func 48) [] []) [v22,v23,ff,ff] g20 fun v24=>ay 0 v24 fun v25=>ay 1 v24 fun v26=>bT v17 fun v27=>aI (fun J28=>aL v27 false (bT v26 fun v29=>[AV.sl 6 (ct v),.op 0 0,.op 2 0,i_ i,v25]=[AV.sl 6 (ct v),.op 0 0,.op 2 0,i_ i,v25]∧J28 [ff,v29] g20) ([AV.sl 6 (ct v),.op 0 0,.op 2 0,i_ i,v25]=[AV.sl 6 (ct v),.op 0 0,.op 2 0,i_ i,v25]∧J28 [(bO false v27),un] g20)) fun s30 g31=>bG (nx s30 0) tt (nx s30 1) fun v32=>af v32 (ae true 9 (.op 0 0) g31 fun v33=>ah 9 (.op 2 0) v33 g31 fun g34=>ae true 9 (.op 2 0) g34 fun r35=>cf (atR R) (.aw [r35,ff]) g34) (iB 6 (.sl 6 (ct v)) none (some (i_ i)) fun v36=>aN 7 (.op 0 0) fun v37=>ah 1 v37 tt g31 fun g38=>aN 8 (.op 0 0) fun v39=>ah 1 v39 v25 g38 fun g40=>[AV.op 0 0,.op 2 0]=[AV.op 0 0,.op 2 0]∧F [v36] g40):=by
    intro qd qh fine hqd hs1 hs0;refine br rfl rfl (br rfl rfl (bq (cs:=[i_ 0,ff]) (n:=3) (h':=[cx_ (dq k []),plE,cx_ cF,.ak ⟨93,[i_ 0,ff],true⟩]) rfl rfl rfl rfl (aM (cs:=[i_ qd,b_ qh]) (h':=[cx_ (dq k []),plE,cx_ cF,.ak ⟨93,[i_ qd,b_ qh],true⟩]) rfl rfl rfl rfl (by simp) rfl rfl rfl (zzP (by unfold aZ;omega) (Nc (a:=i+1) (b:=v.length) rfl rfl (by omega) (aS _) ?_)))));rw[Gt];refine fU (cs:=[i_ qd,b_ qh]) (b:=⟨93,[i_ qd,b_ qh],true⟩) rfl rfl (by simp) rfl ?_;refine⟨_,uCon (hP (v.drop (i+1)) (by omega) (Bu hb hdrop) qd qh false false hqd) ⟨rfl,rfl⟩, ?_⟩;obtain⟨o,ho⟩:∃o,iG (3-qd) qh (v.drop (i+1)) false false=o:=⟨_,rfl⟩;rw[ho]at hs1 ⊢;refine br rfl rfl (br rfl rfl (zzO ?_));refine lv (!fine||!o.2) rfl (fun z=>by rw[z];rfl) (fun z F2 hF2=>?_) (fun s hs=>kB hs ?_)
    ·refine zzO (ar ?_);rw[z,Bool.false_or]at hF2;exact hF2
    cases hf:fine with
    | false =>
      refine zzL (by simp) (jx (H:=[cx_ (dq k []),plE,cx_ cF,.ak ⟨93,[i_ qd,b_ qh],true⟩]) rfl ?_);exact ret _ _ false rfl (by rw[hRi,hs0 hf])
    | true =>
      have hs1:=hs1 hf;rw[hs1]at hRi;cases ho2:o.2 with
      | false =>
        refine zzL (by simp) (jx (H:=[cx_ (dq k []),plE,cx_ cF,.ak ⟨93,[i_ qd,b_ qh],true⟩]) rfl ?_);exact ret _ _ false rfl (by rw[hRi,show o=(o.1,false) from by rw[←ho2]])
      | true =>
        refine zzK (by simp) (Nc (a:=0) (b:=i) rfl rfl (aao _) (by omega) ?_);rw[List.drop_zero];refine zzA (aM (cs:=[tt]) (h':=[cx_ (.mk k [] 0 [] false 0 0 true []),plE,cx_ cF,.ak ⟨93,[i_ qd,b_ qh],true⟩]) rfl rfl rfl rfl (by simp[eV]) rfl rfl rfl (zzA (aM (cs:=[gg 3 (dR o.1)]) (h':=[cx_ (.mk k [] 0 [] false 0 0 true o.1),plE,cx_ cF,.ak ⟨93,[i_ qd,b_ qh],true⟩]) rfl rfl rfl (by cases dR o.1<;>rfl) (by simp[eV]) rfl (by simp only[aaC,List.all_nil,nZ];rfl) rfl (ar ?_))));exact hF _ _ ⟨true,o.1,v.take i,rfl,rfl,rfl,by omega,Bu hb fun x hx=>List.mem_of_mem_take hx,by rw[hRi,show o=(o.1,true) from by rw[←ho2]]⟩
   refine uCon (yN d has k hd) ?_;cases hq:kQ d has k with
   | true =>
     have hd3:d+1≤3:=by
      unfold kQ at hq;simp at hq;omega
     exact tail (d+1) (has||decide (k=14)) true hd3 (fun _=>by unfold fb;rw[if_pos hq]) (fun z=>by cases z)
   | false =>
     exact tail 0 false false (by omega) (fun z=>by cases z) (fun _=>by unfold fb;rw[if_neg (by rw[hq];decide)])
end
section
open Go Go.Aw Go.jh Go.RowKit
open Go.bE hiding u1 ao
variable [bB]
def Dz(hn:n≤2^30)(hP:De n)(s:ao)(v:List Vl)(hz:bP v<n)(hb:gF v)(d:Nat)(has:Bool)(hd:d≤3):aV p_ 154 [.str s,.sl 6 (ct v),vg d has] (atR (kP (fb d has) s v)):=by
 refine (XD _ _ _).aQ (by simp only[aq,Aw.Pure,and_true,true_and];exact ki v) (by simp only[aq,Aw.Pure,and_true];exact iO _) ?_;unfold Q1;obtain⟨plE,hplE⟩:∃plE:aY,plE=.ak ⟨93,[i_ d,b_ has],true⟩:=⟨_,rfl⟩;have ldP0:∀{H:aa} {i:Nat} {K:AV→Prop},H[i]?=some plE→K (vg d has)→ae true 2 (.op i 0) H K:=fun h q=>fU (cs:=[i_ d,b_ has]) (b:=⟨93,[i_ d,b_ has],true⟩) rfl (by rw[h,hplE]) (by simp) rfl q;obtain⟨R,hR⟩:∃R,kP (fb d has) s v=R:=⟨_,rfl⟩;rw[hR];refine bq (cs:=[i_ d,b_ has]) (n:=0) (h':=[plE]) rfl rfl rfl (by rw[hplE];rfl) (bq (cs:=nS cF) (n:=1) (h':=[plE,cx_ cF]) rfl rfl rfl rfl ?_);have ret:∀(H:aa) (s:Sm) (b:Bool),H[1]?=some (cx_ cF)→R=(s,b)→ah 9 (.op 1 0) (.agg (nS s)) H fun g=>ae true 9 (.op 1 0) g fun r=>cf (atR R) (.aw [r,b_ b]) g:=by
  intro H s b h2 e;refine tC (K:=fun r g=>cf (atR R) (.aw [r,b_ b]) g) h2 ?_;rw[e];exact .pure (by simp only[aq,Aw.Pure,and_true];exact iO _) rfl
 refine uCon BI (uCon (gW s) ?_);have em:s.map eI=cq s:=rfl;rw[em];refine uCon (DB iI (cq s) (by decide)) ?_;have hi:=Gn iI (cq s);have h11:(iI.length:Int)=11:=rfl;have hF:R=(let i:=jv iI (cq s)
  if i<5 then (dq 0 [],false)
  else if i<7 then vX (fb d has) (4+i) v
  else match fb d has (4+i) v (decide (4+i=14)) (decide (4+i≤12)) with
   | none=>(dq (4+i) [],false)
   | some (l,b)=>(.mk (4+i) [] 0 [] false 0 0 false l,b)):=by rw[←hR];rfl
 obtain⟨i,he⟩:∃i,jv iI (cq s)=i:=⟨_,rfl⟩;rw[he]at hF hi ⊢;dsimp only at hF;refine zzC ?_
 by_cases c1:i<5
 ·rw[if_pos c1]at hF;refine zzL (tO c1) (bp (cs:=nS cF) rfl ?_);exact ret _ _ false rfl hF
 rw[if_neg c1]at hF;refine zzK (oF c1) (eD (m:=i) rfl (by rw[IntKind.wrap_u8];omega) (wm (c:=4+i) (by decide) rfl rfl (by rw[IntKind.wrap_u8];omega) ?_));obtain⟨k,hk⟩:∃k,4+i=k:=⟨_,rfl⟩;rw[hk]at hF ⊢;refine bp (cs:=nS (dq k [])) rfl (bq (cs:=nS cF) (n:=2) (h':=[plE,cx_ cF,cx_ cF]) rfl rfl rfl rfl (aM (cs:=nS (dq k [])) (h':=[plE,cx_ cF,cx_ (dq k [])]) rfl rfl rfl rfl (by simp[eV]) rfl (qo _) rfl (zzA (zzU (c:=u8 k) rfl rfl (zzD ?_)))))
 by_cases c2:i<7
 ·rw[if_pos c2]at hF;refine zzL (tO (by omega)) (jx (H:=[plE,cx_ cF,cx_ (dq k [])]) rfl (ldP0 rfl (uCon (OM hn hP v hz hb d has hd k) ?_)));rw[←hF];refine br rfl rfl (br rfl rfl ?_);exact ret _ _ _ rfl rfl
 rw[if_neg c2]at hF;refine zzK (oF (by omega)) (ldP0 rfl (zzA (zzU (c:=u8 k) rfl rfl (uCon (yN d has k hd) ?_))));unfold fb at hF;cases hq:kQ d has k with
 | false =>
   rw[if_neg (by rw[hq];decide)]at hF;refine br rfl rfl (br rfl rfl (bq (cs:=[i_ 0,ff]) (n:=3) (h':=[plE,cx_ cF,cx_ (dq k []),.ak ⟨93,[i_ 0,ff],true⟩]) rfl rfl rfl rfl (aM (cs:=[i_ 0,ff]) (h':=[plE,cx_ cF,cx_ (dq k []),.ak ⟨93,[i_ 0,ff],true⟩]) rfl rfl rfl rfl (by simp) rfl rfl rfl (zzO (zzL rfl (jx (s:=dq k []) rfl ?_))))));exact ret _ _ false rfl hF
 | true =>
   rw[if_pos hq]at hF;have hd3:d+1≤3:=by
    unfold kQ at hq;simp at hq;omega
   refine br rfl rfl (br rfl rfl (bq (cs:=[i_ 0,ff]) (n:=3) (h':=[plE,cx_ cF,cx_ (dq k []),.ak ⟨93,[i_ 0,ff],true⟩]) rfl rfl rfl rfl (aM (cs:=[i_ ((d:Int)+1),b_ (has||decide (k=14))]) (h':=[plE,cx_ cF,cx_ (dq k []),.ak ⟨93,[i_ ((d:Int)+1),b_ (has||decide (k=14))],true⟩]) rfl rfl rfl rfl (by simp) rfl rfl rfl (zzO (zzK rfl (fU (cs:=[i_ ((d:Int)+1),b_ (has||decide (k=14))]) (b:=⟨93,[i_ ((d:Int)+1),b_ (has||decide (k=14))],true⟩) rfl rfl (by simp) rfl (zzA (zzU (c:=u8 k) rfl rfl (zzG (zzA (zzU (c:=u8 k) rfl rfl (zzD (uCon (hP v hz hb (d+1) (has||decide (k=14)) (decide (k=14)) (decide (k≤12)) hd3) ?_)))))))))))));obtain⟨o,ho⟩:∃o,iG (3-(d+1)) (has||decide (k=14)) v (decide (k=14)) (decide (k≤12))=o:=⟨_,rfl⟩;rw[ho]at hF ⊢;refine br rfl rfl (br rfl rfl (zzA (aM (cs:=[gg 3 (dR o.1)]) (h':=[plE,cx_ cF,cx_ (.mk k [] 0 [] false 0 0 false o.1),.ak ⟨93,[i_ ((d:Int)+1),b_ (has||decide (k=14))],true⟩]) rfl rfl rfl (by cases dR o.1<;>rfl) (by simp[eV]) rfl (by simp only[aaC,List.all_nil,nZ];rfl) rfl (jx (s:=.mk k [] 0 [] false 0 0 false o.1) rfl ?_))));exact ret _ _ _ rfl hF
end
section
open Go Go.Aw Go.jh Go.RowKit
open Go.bE hiding u1 ao
def kb(m e sz:Nat)(x:AV)(H:aa)(rows:List (List AV)):Prop:=(rows=[]∧x=bC)∨(rows≠[]∧∃tid,m≤tid∧x=.sb tid sz rows∧H[tid]?=some (.tok e sz rows.length))
section
variable {m e sz:Nat} {x:AV} {H H':aa} {rows:List (List AV)}
def kb.app(g:kb m e sz x H rows)(j:aa):kb m e sz x (H++j) rows:=by
 rcases g with g|⟨h,id,hm,rfl,h2⟩
 ·exact .inl g
 ·exact .inr ⟨h,id,hm,rfl,by rw[gE (dO.1 h2).1];exact h2⟩
def kb.set(g:kb m e sz x H rows)(hi:H[i]?=some (.ak b)):kb m e sz x (H.set i y) rows:=by
 rcases g with g|⟨h,id,hm,rfl,h2⟩
 ·exact .inl g
 ·exact .inr ⟨h,id,hm,rfl,by rw[iN (fun q=>by subst q;rw[h2]at hi;cases hi)];exact h2⟩
def kb.le(g:kb m e sz x H rows):iz [x] [gg sz rows]:=by
 rcases g with⟨rfl,rfl⟩|⟨h,id,hm,rfl,h2⟩
 ·exact⟨Le.refl _,trivial⟩
 ·cases rows with
  | nil=>exact absurd rfl h
  | cons r l=>exact⟨⟨rfl,rfl⟩,trivial⟩
def kb.NA(g:kb m e sz x H rows):Le x (gg sz rows):=g.le.1
def wQ{bytes:Nat}(g:kb m e sz x H rows)(hm:m≤H.length)(hr:da sz r=true)(hb:bytes≤1000)(hl:rows.length<2^36){K:AV→aa→Prop}
 (q:∀x' H',kb m e sz x' H' (rows++[r])→gw H H'→(∀(id:Nat) (en:aY) (h:aa),h.length≤m→Mo id en h H→Mo id en h H')→(∀(e2 sz2:Nat) (x2:AV) (rows2:List (List AV)),e2≠e→kb m e2 sz2 x2 H rows2→kb m e2 sz2 x2 H' rows2)→K x' H'):bN false e sz bytes x (.sl sz [r]) H K:=by
 have hall:[r].all (da sz)=true:=by rw[aaC,hr];rfl
 rcases g with⟨rfl,rfl⟩|⟨hne,id,hmi,rfl,ht⟩
 ·unfold bN ep;rw[fT];refine⟨hall,⟨by simp[maxLen],by simp;omega⟩, ?_⟩;exact q _ _ (.inr ⟨by simp,_,hm,rfl,by simp⟩) (gw.app _ _) (fun id en h _ mo=>mo.tail _) fun e2 sz2 x2 rows2 _ g2=>g2.app _
 ·refine Dj rfl ht rfl fT hall ⟨by unfold maxLen;simp;omega,by
   simp only[aab,aaN,aaq]
   calc (rows.length+1)*bytes≤(2^36)*1000:=Nat.mul_le_mul (by omega) hb
    _≤_:=by decide⟩ ?_
  have hlt:=(dO.1 ht).1;refine q _ _ (.inr ⟨by simp,id,hmi,rfl,by rw[iF hlt];simp⟩) ⟨by simp,fun j b hj=>?_⟩ (fun i en h hle mo=>mo.uK (by omega) _) fun e2 sz2 x2 rows2 hne g2=>?_
  ·rw[iN (fun z=>by subst z;rw[ht]at hj;cases hj)];exact hj
  ·rcases g2 with g2|⟨h3,id2,hm2,rfl,h4⟩
   ·exact .inl g2
   ·exact .inr ⟨h3,id2,hm2,rfl,by rw[iN (fun z=>by subst z;rw[ht]at h4;injection (GO h4) with q1;exact hne q1.symm)];exact h4⟩
end
def kb.mv{m e sz id:Nat}{rows:List (List AV)}{en:aY}(g:kb m e sz x H rows)(hid:id<m)(mo:Mo id en H H'):kb m e sz x H' rows:=by
 rcases g with g|⟨h,tid,hm,rfl,h2⟩
 ·exact .inl g
 ·exact .inr ⟨h,tid,hm,rfl,by rw[mo.other (dO.1 h2).1 (by omega)];exact h2⟩
structure nc(h:aa)(id P X:Nat)(pl e:aY)(x:Sm)(a:AV)(rows:List (List AV))(H:aa):Prop where
 mo:Mo id e h H
 p:H[P]?=some pl
 x:H[X]?=some (cx_ x)
 g:kb h.length 99 9 a H rows
 l:id<h.length∧h.length≤P∧P<X
section
variable {h H H':aa} {id P X:Nat} {pl e e':aY} {x x':Sm} {a:AV} {rows:List (List AV)}
def nc.lt(s:nc h id P X pl e x a rows H):X<H.length:=(dO.1 s.x).1
def nc.rd(s:nc h id P X pl e x a rows H):H[id]?=some e:=s.mo.at s.l.1
def nc.mv(s:nc h id P X pl e x a rows H)(m:Mo id e' H H'):nc h id P X pl e' x a rows H':=by
 have h1:=s.lt;have h2:=s.l;exact⟨s.mo.trans s.l.1 m,by rw[m.other (by omega) (by omega)];exact s.p,by rw[m.other h1 (by omega)];exact s.x,s.g.mv s.l.1 m,s.l⟩
def nc.app(s:nc h id P X pl e x a rows H)(j:aa):nc h id P X pl e x a rows (H++j):=by
 have q:∀{i:Nat} {en:aY},H[i]?=some en→(H++j)[i]?=some en:=fun h=>by rw[gE (dO.1 h).1];exact h
 exact⟨s.mo.tail j,q s.p,q s.x,s.g.app j,s.l⟩
def nc.Y7(s:nc h id P X pl e x a rows H)(x':Sm):nc h id P X pl e x' a rows (H.set X (cx_ x')):=by
 have h1:=s.lt;have h2:=s.l;exact⟨s.mo.uK (by omega) _,by rw[iN (by omega)];exact s.p,iF h1,s.g.set s.x,s.l⟩
def nc.st{F:aa→Prop}(s:nc h id P X pl e x a rows H)(x':Sm)(k:nc h id P X pl e x' a rows (H.set X (cx_ x'))→F (H.set X (cx_ x'))):ah 9 (.op X 0) (.agg (nS x')) H F:=
 aM (cs:=nS x') rfl s.x rfl rfl (by simp[eV]) (eV x') (qo x') (by rw[fY (by simp[eV])]) (k (s.Y7 x'))
end
theorem KU[Laid]{id:Nat}{F:aa→Prop}(rd:h[id]?=some (dc v (y:: r)))(hs:(y:: r) <:+ v)(hv:v.length<2^40)(k1:∀z q,r=z:: q→F (h.set id (dc v q)))(k2:r=[]→∀e,F (h.set id e)):
 ca p_ (.op id 0) fun v11=>aN 1 v11 fun v12=>ae false 1 v12 h fun v13=>ag .add v13 (i_ 2) fun v14=>ca p_ (.op id 0) fun v15=>aN 1 v15 fun v16=>ah 1 v16 v14 h F:=by
 have hle:=hs.length_le;simp at hle;refine bD (zzA (zzU rd rfl (zzP (by unfold aZ;simp;omega) (bD (zzA ?_)))));cases r with
 | nil=>exact aM (cs:=[i_ (((v.length-([y]:List Vl).length:Nat):Int)+2)]) rfl rd rfl rfl (by simp) rfl rfl rfl (k2 rfl _)
 | cons z q =>
   have e:((v.length-(y:: z:: q).length:Nat):Int)+2=((v.length-q.length:Nat):Int):=by simp at hle ⊢;omega
   rw[e];exact aM (cs:=[i_ ((v.length-q.length:Nat):Int)]) (h':=h.set id (dc v q)) rfl rd rfl rfl (by simp) rfl rfl rfl (k1 z q rfl)
def Ey(l:List Sm):Option (List Sm×List Vl)→Option (List Sm×List Vl)
 | some (m,r)=>some (l++m,r)
 | none=>none
def Ka(l:List Sm)(x:Sm)(o:Option (List Sm×List Vl)):Ey l (gJ x o)=Ey (l++[x]) o:=by
 cases o with
 | none=>rfl
 | some y=>simp[Ey,gJ]
section
variable {fn:ao→List Vl→Sm×Bool} {t u:Vl} {q:List Vl}
def MV(h4:¬t.kind=4)(h9:t.kind=9∧t.text=[46]):ef fn [t]=none:=by rw[ef.eq_def];dsimp only;rw[if_neg h4,if_pos h9]
def EK(h4:¬t.kind=4)(h9:t.kind=9∧t.text=[46]):ef fn (t:: u:: q)=if u.kind=1 then gJ (dq 2 u.text) (ef fn q) else none:=by rw[ef.eq_def];dsimp only;rw[if_neg h4,if_pos h9]
def Ku(h4:¬t.kind=4)(h9:¬(t.kind=9∧t.text=[46]))(h19:t.kind=19):ef fn (t:: q)=if (mH t.list).2=true then gJ (mH t.list).1 (ef fn q) else none:=by rw[ef.eq_def];dsimp only;rw[if_neg h4,if_neg h9,if_pos h19]
def MU(h4:¬t.kind=4)(h9:¬(t.kind=9∧t.text=[46]))(h19:¬t.kind=19)(h16:t.kind=16):ef fn [t]=none:=by rw[ef.eq_def];dsimp only;rw[if_neg h4,if_neg h9,if_neg h19,if_pos h16]
def rq(h4:¬t.kind=4)(h9:¬(t.kind=9∧t.text=[46]))(h19:¬t.kind=19)(h16:t.kind=16):ef fn (t:: u:: q)=if u.kind=1 then (if (nJ u.text).2=true then gJ (nJ u.text).1 (ef fn q) else none)
 else if u.kind=2 then (if (fn u.text u.list).2=true then gJ (fn u.text u.list).1 (ef fn q) else none) else none:=by rw[ef.eq_def];dsimp only;rw[if_neg h4,if_neg h9,if_neg h19,if_pos h16]
end
end
section
open Go Go.Aw Go.jh Go.RowKit
open Go.bE hiding u1 ao
def H0(a b:List Sm):dA (a++b)=dA a++dA b:=by simp[A6]
def ZD(fn:ao→List Vl→Sm×Bool)(h:aa)(id P X:Nat)(pl:aY)(v rest:List Vl)(a:AV)(rows:List (List AV))(s:List AV)(H:aa):Prop:=
 ∃(x:Sm) (b:Bool) (e:aY),s=[b_ b]∧nc h id P X pl e x a rows H∧(b=true→∃rest',e=dc v rest'∧ef fn rest=gJ x (ef fn rest')∧rest' <:+ v∧rest'.length<rest.length)∧(b=false→ef fn rest=none)
variable [bB]
theorem KX(hn:n≤2^30)(hP:De n){id:Nat}{has:Bool}{K:AV→aa→Prop}(rd:h[id]?=some (dc v r))(hs:r <:+ v)(hz:bP v≤n)(hb:gF v)(hd:d≤3)(ex:x=.op id 0)
 (k1:∀ss r' H,ef (kP (fb d has)) r=some (ss,r')→Mo id (dc v r') h H→K (.aw [gg 9 (dA ss),tt]) H)
 (k2:∀e H,ef (kP (fb d has)) r=none→Mo id e h H→K (.aw [bC,ff]) H) :
 bA p_ (.fn (.func 103) [] []) [x,vg d has] h K:=by
 subst ex;have hid:=(dO.1 rd).1;have hlv:=lA v;obtain⟨fn,hfn⟩:∃fn,kP (fb d has)=fn:=⟨_,rfl⟩;rw[hfn]at k1 k2;refine cu (by kernel_rfl) rfl (K0:=fun w H=>(∃ss r',ef fn r=some (ss,r')∧Mo id (dc v r') h H∧w=.aw [gg 9 (dA ss),tt])∨(∃e,ef fn r=none∧Mo id e h H∧w=.aw [bC,ff])) ?_ (fun w H z=>z.elim (fun⟨ss,r',a,b,c⟩=>by subst c;exact k1 ss r' H a b) fun⟨e,a,b,c⟩=>by subst c;exact k2 e H a b);refine (WZ _ _).bR ?_;unfold Qs;obtain⟨plE,hplE⟩:∃plE:aY,plE=.ak ⟨93,[i_ d,b_ has],true⟩:=⟨_,rfl⟩;have ky:∀{H:aa} {i:Nat} {K:AV→Prop},H[i]?=some plE→K (vg d has)→ae true 2 (.op i 0) H K:=fun h q=>fU (cs:=[i_ d,b_ has]) (b:=⟨93,[i_ d,b_ has],true⟩) rfl (by rw[h,hplE]) (by simp) rfl q;refine bq (cs:=[i_ d,b_ has]) (n:=h.length) (h':=h++[plE]) rfl rfl rfl (by rw[hplE]) ?_;have m0:Mo id (dc v r) h (h++[plE]):=(Mo.refl rd).tail _;refine aG (α:=List Sm×List Vl×AV×aa) (fun x=>ef fn r=Ey x.1 (ef fn x.2.1)∧x.2.1 <:+ v∧x.1.length+x.2.1.length≤r.length∧Mo id (dc v x.2.1) h x.2.2.2∧x.2.2.2[h.length]?=some plE∧kb h.length 99 9 x.2.2.1 x.2.2.2 (dA x.1)) (fun x=>[x.2.2.1]) (fun x=>x.2.2.2) (fun x=>x.2.1.length) ([],r,bC,h++[plE]) ⟨by cases ef fn r<;>rfl,hs,by simp,m0,by simp,.inl ⟨rfl,rfl⟩⟩ (Wk.refl _ _ _ (aS _)) ?_;rintro⟨done,rest,a,H1⟩ ⟨hpre,hsr,hlen,mo,hp,hg⟩;dsimp only at hpre hsr hlen mo hp hg ⊢;have hle:=hs.length_le;have hlr:=hsr.length_le;have hH1:=mo.len;have hP1:=(dO.1 hp).1;refine bp (cs:=nS cF) rfl (bq (cs:=nS cF) (n:=H1.length) (h':=H1++[cx_ cF]) rfl rfl rfl rfl (aM (cs:=nS cF) (h':=H1++[cx_ cF]) (b:=⟨99,nS cF,true⟩) rfl (by simp) rfl rfl (by simp[eV]) rfl rfl (by rw[Lt _ _ (aS _)];simp;rfl) ?_));have s2:nc h id h.length H1.length plE (dc v rest) cF a (dA done) (H1++[cx_ cF]):=⟨mo.tail _,by rw[gE hP1];exact hp,by simp,hg.app _,hid,aS _,hP1⟩;obtain⟨X,hX⟩:∃X,H1.length=X:=⟨_,rfl⟩;obtain⟨H2,h2⟩:∃H2,H1++[cx_ cF]=H2:=⟨_,rfl⟩;rw[hX,h2]at s2;rw[hX,h2];clear h2;refine lY (n:=1) s2.rd hsr rfl (by omega) fun H3 m3=>?_;have s3:=s2.mv m3;refine il ?_;have hT1:(H3++[aY.ak ⟨83,(bX rest 1).row,true⟩])[H3.length]?=some (.ak ⟨83,(bX rest 1).row,true⟩):=by simp
 have s4:=s3.app [aY.ak ⟨83,(bX rest 1).row,true⟩];obtain⟨T1,hT1l⟩:∃T1,H3.length=T1:=⟨_,rfl⟩;obtain⟨H4,h4⟩:∃H4,H3++[aY.ak ⟨83,(bX rest 1).row,true⟩]=H4:=⟨_,rfl⟩;have hT1X:X<T1:=by have:=s3.lt;omega
 rw[h4,hT1l]at hT1;rw[h4]at s4;rw[hT1l,h4];clear h4 hT1l;have hidT:id<T1:=by have:=s4.l;omega
 refine cL (ZD fn h id h.length X plE v rest a (dA done)) ?_ ?_
 ·-- what comes behind
  rintro _ H ⟨y,b,e,rfl,s,hy1,hy0⟩;refine zzO ?_;cases b with
  | false =>
    refine zzL rfl ?_;exact⟨_,_,Wk.refl _ _ _ s.mo.len,.inr ⟨e,by rw[hpre,hy0 rfl];rfl,s.mo,rfl⟩⟩
  | true =>
    obtain⟨rest',rfl,hc,hs',hl'⟩:=hy1 rfl;refine zzK rfl (jx s.x (km (cs:=nS y) rfl (eV y) rfl (qo y) ?_));refine wQ s.g s.mo.len (by unfold da;rw[eV,qo];rfl) (by decide) (by simp[A6];omega) fun a' H' g' bk mv _=>?_;refine ar ?_;refine⟨(done++[y],rest',a',H'),⟨by rw[hpre,hc,Ka],hs',by simp;omega,mv id _ h (aS _) s.mo, ?_,by rw[H0];simpa[dA]using g'⟩,Wk.refl _ _ _ (by have:=s.mo.len;have:=bk.1;have:=hplE;have h9:=(dO.1 s.p).1;simp;omega),hl'⟩;rw[hplE];exact bk.2 _ _ (by rw[s.p,hplE])
 ·intro F hF;refine lY (n:=0) s4.rd hsr rfl (by omega) fun H5 m5=>?_;have s5:=s4.mv m5;have hT15:H5[T1]?=some (.ak ⟨83,(bX rest 1).row,true⟩):=by rw[m5.other (dO.1 hT1).1 (by omega)];exact hT1
  refine il ?_;have hT0:(H5++[aY.ak ⟨83,(bX rest 0).row,true⟩])[H5.length]?=some (.ak ⟨83,(bX rest 0).row,true⟩):=by simp
  have hT16:(H5++[aY.ak ⟨83,(bX rest 0).row,true⟩])[T1]?=some (.ak ⟨83,(bX rest 1).row,true⟩):=by rw[gE (dO.1 hT15).1];exact hT15
  have s6:=s5.app [aY.ak ⟨83,(bX rest 0).row,true⟩];obtain⟨T0,hT0l⟩:∃T0,H5.length=T0:=⟨_,rfl⟩;obtain⟨H6,h6⟩:∃H6,H5++[aY.ak ⟨83,(bX rest 0).row,true⟩]=H6:=⟨_,rfl⟩;have hT0X:X<T0:=by have:=s5.lt;omega
  rw[h6,hT0l]at hT0;rw[h6]at hT16 s6;rw[hT0l,h6];clear h6 hT0l hT15 m5 s5;refine zzA (zzU hT0 rfl (zzG ?_))
  by_cases c4:(bX rest 0).k=4
  ·-- an identifier
   refine zzL (tO c4) ?_;cases rest with
   | nil=>exact absurd c4 (by decide)
   | cons t q =>
     have c4:t.kind=4:=c4;refine⟨X, ?_⟩;refine zzA (zzU hT0 rfl (bp (cs:=nS (dq 1 t.text)) rfl (zzA (jZ (po (by omega)) (zzU hT0 rfl (jZ (by simp[wj]) ?_))))));refine s6.st (dq 1 t.text) fun s7=>?_;refine qe s7.rd hsr (by omega) (ar ?_);refine hF _ _ ⟨_,t.flag,_,rfl,s7.mv (Mo.set id (dc v q) _),fun z=>⟨q,rfl, ?_,(List.suffix_cons _ _).trans hsr,by simp⟩,fun z=>?_⟩
     ·rw[ef.eq_def];dsimp only;rw[if_pos c4,if_pos z]
     ·rw[ef.eq_def];dsimp only;rw[if_pos c4,if_neg (by rw[z];decide)]
  refine zzK (oF c4) (zzA (zzU hT0 rfl (zzG ?_)));refine kU (decide ((bX rest 0).k=9)&&decide ((bX rest 0).t=[46])) rfl (fun z=>by rw[z];rfl) (fun z F2 hF2=>?_) (fun s hs2=>kf hs2 ?_)
  ·refine zzA (zzU hT0 rfl (zzI (ar ?_)));rw[z,Bool.true_and]at hF2;exact hF2
  by_cases c9:(bX rest 0).k=9∧(bX rest 0).t=[46]
  ·-- a class
   refine zzL (by simp[c9.1,c9.2]) ?_;cases rest with
   | nil=>exact absurd c9.1 (by decide)
   | cons t q =>
     have c4:¬t.kind=4:=c4;have c9:t.kind=9∧t.text=[46]:=c9;refine⟨X, ?_⟩;refine zzA (zzU hT16 rfl (bp (cs:=nS (dq 2 (bX (t:: q) 1).t)) rfl (zzA (jZ (po (by omega)) (zzU hT16 rfl (zzG (jZ (by simp[wj]) ?_)))))));refine s6.st _ fun s7=>?_;refine KU s7.rd hsr (by omega) (fun u q2 hq=>?_) (fun hq e=>?_)
     ·subst hq;refine ar ?_;refine hF _ _ ⟨_,_,_,rfl,s7.mv (Mo.set id (dc v q2) _),fun z=>⟨q2,rfl, ?_,((List.suffix_cons _ _).trans (List.suffix_cons _ _)).trans hsr,by simp;omega⟩,fun z=>?_⟩
      ·have z:u.kind=1:=uP z;rw[EK c4 c9,if_pos z];rfl
      ·have z:¬u.kind=1:=At z;rw[EK c4 c9,if_neg z]
     ·subst hq;refine ar ?_;exact hF _ _ ⟨_,_,_,rfl,s7.mv (Mo.set id e _),(fun z=>by cases z),fun z=>MV c4 c9⟩
  refine zzK (by
   by_cases z:(bX rest 0).k=9
   ·have:¬(bX rest 0).t=[46]:=fun w=>c9 ⟨z,w⟩;simp[this]
   ·simp[z]) ?_
  refine zzA (zzU hT0 rfl (zzG ?_))
  by_cases nM:(bX rest 0).k=19
  ·-- what is in square brackets
   refine zzL (tO nM) ?_;cases rest with
   | nil=>exact absurd nM (by decide)
   | cons t q =>
     have c4:¬t.kind=4:=c4;have c9:¬(t.kind=9∧t.text=[46]):=c9;have nM:t.kind=19:=nM;have hzt:=tR (hsr.subset (aaJ (a:=t) (l:=q)));have hzt2:=sD t;have hll:=lA t.list;refine KW (n:=0) (y:=t) s6.rd hsr rfl rfl (by omega) (uCon (Ly t.list (by omega)) (br rfl rfl (br rfl rfl ?_)));refine s6.st _ fun s7=>?_;refine qe s7.rd hsr (by omega) (ar ?_);refine hF _ _ ⟨_,_,_,rfl,s7.mv (Mo.set id (dc v q) _),fun z=>⟨q,rfl, ?_,(List.suffix_cons _ _).trans hsr,by simp⟩,fun z=>?_⟩
     ·rw[Ku c4 c9 nM,if_pos z]
     ·rw[Ku c4 c9 nM,if_neg (by rw[z];decide)]
  refine zzK (oF nM) (zzA (zzU hT0 rfl (zzG ?_)))
  by_cases rL:(bX rest 0).k=16
  ·-- a pseudo-class
   refine zzL (tO rL) ?_;cases rest with
   | nil=>exact absurd rL (by decide)
   | cons t q =>
     have c4:¬t.kind=4:=c4;have c9:¬(t.kind=9∧t.text=[46]):=c9;have nM:¬t.kind=19:=nM;have rL:t.kind=16:=rL;refine cL (fun s H=>∃(y:Sm) (b:Bool),s=[Aw.b_ b]∧nc h id h.length X plE (dc v (t:: q)) y a (dA done) H∧(b=true→∃u q2,q=u:: q2∧ef fn (t:: q)=gJ y (ef fn q2))∧(b=false→ef fn (t:: q)=none)) ?_ ?_
     ·rintro _ H ⟨y,b,rfl,s7,hy1,hy0⟩;refine KU s7.rd hsr (by omega) (fun u q2 hq=>?_) (fun hq e=>?_)
      ·subst hq;refine ar ?_;refine hF _ _ ⟨y,b,_,rfl,s7.mv (Mo.set id (dc v q2) _),fun z=>⟨q2,rfl, ?_,((List.suffix_cons _ _).trans (List.suffix_cons _ _)).trans hsr,by simp;omega⟩,hy0⟩;obtain⟨u',q',e1,e2⟩:=hy1 z;cases e1;exact e2
      ·subst hq;refine ar ?_;refine hF _ _ ⟨y,b,_,rfl,s7.mv (Mo.set id e _),fun z=>?_,hy0⟩;obtain⟨u',q',e1,e2⟩:=hy1 z;cases e1
     ·intro F2 hF2;refine zzA (zzU hT16 rfl (zzG ?_))
      by_cases k1':(bX (t:: q) 1).k=1
      ·refine zzL (tO k1') ?_;cases q with
       | nil=>exact absurd k1' (show ¬(0:Int)=1 by decide)
       | cons u q2 =>
         have k1':u.kind=1:=k1';refine zzA (zzU hT16 rfl (uCon (LL _) (br rfl rfl (br rfl rfl ?_))));refine s6.st _ fun s7=>?_;refine ar ?_;refine hF2 _ _ ⟨_,_,rfl,s7,fun z=>⟨u,q2,rfl, ?_⟩,fun z=>?_⟩
         ·rw[rq c4 c9 nM rL,if_pos k1',if_pos (show (nJ u.text).2=true from z)];rfl
         ·rw[rq c4 c9 nM rL,if_pos k1',if_neg (by show ¬(nJ u.text).2=true;rw[show (nJ u.text).2=false from z];decide)]
      refine zzK (oF k1') (zzG ?_)
      by_cases k2':(bX (t:: q) 1).k=2
      ·refine zzL (tO k2') ?_;cases q with
       | nil=>exact absurd k2' (show ¬(0:Int)=2 by decide)
       | cons u q2 =>
         have k1':¬u.kind=1:=k1';have k2':u.kind=2:=k2';have humem:u∈v:=hsr.subset (by simp);have hzt:=tR humem;have hzt2:=sD u;refine zzA (zzU hT16 rfl ?_);refine⟨_,KW (n:=1) (y:=u) s6.rd hsr rfl rfl (by omega) ⟨rfl,rfl⟩, ?_⟩;refine ky s6.p ?_;refine⟨_,uCon (Dz hn hP u.text u.list (by omega) (P8 (xm hb humem)) d has hd) ⟨rfl,rfl⟩, ?_⟩;rw[hfn];refine br rfl rfl (br rfl rfl ?_);refine s6.st _ fun s7=>?_;refine ar ?_;refine hF2 _ _ ⟨_,_,rfl,s7,fun z=>⟨u,q2,rfl, ?_⟩,fun z=>?_⟩
         ·rw[rq c4 c9 nM rL,if_neg k1',if_pos k2',if_pos z]
         ·rw[rq c4 c9 nM rL,if_neg k1',if_pos k2',if_neg (by rw[z];decide)]
      refine zzK (oF k2') (ar ?_);refine hF2 _ _ ⟨_,false,rfl,s6,(fun z=>by cases z),fun _=>?_⟩;cases q with
      | nil=>exact MU c4 c9 nM rL
      | cons u q2 =>
        have k1':¬u.kind=1:=k1';have k2':¬u.kind=2:=k2';rw[rq c4 c9 nM rL,if_neg k1',if_neg k2']
  refine zzK (oF rL) ?_;have hsm:ef fn rest=some ([],rest):=by
   cases rest with
   | nil=>rw[ef.eq_def]
   | cons t q =>
     have c4:¬t.kind=4:=c4;have c9:¬(t.kind=9∧t.text=[46]):=c9;have nM:¬t.kind=19:=nM;have rL:¬t.kind=16:=rL;rw[ef.eq_def];dsimp only;rw[if_neg c4,if_neg c9,if_neg nM,if_neg rL]
  rw[hsm]at hpre;refine⟨_,_,Wk.le (s':=[.aw [gg 9 (dA done),tt]]) s6.mo.len ⟨⟨s6.g.NA,Le.refl _,trivial⟩,trivial⟩,.inl ⟨done,rest, ?_,s6.mo,rfl⟩⟩;rw[hpre];simp[Ey]
end
section
open Go Go.Aw Go.jh Go.RowKit
open Go.bE hiding u1 ao
def aV.Hf[Laid]{xs ys rest:List AV}(c:aV P f (.agg ys:: rest) r)(d:gG xs ys)(p:aq xs):aV P f (.agg xs:: rest) r:=by
 obtain⟨pa,pr,c⟩:=c;refine⟨?_,pr,fun base ι S w vs h1 h2=>c base ι S w vs ?_ h2⟩
 ·simp only[aq,Aw.Pure]at pa ⊢;exact⟨p,pa.2⟩
 ·rw[aD]at h1 ⊢;obtain⟨v,vs',rfl,h3,h4⟩:=h1;refine⟨v,vs',rfl, ?_,h4⟩;rw[ax]at h3 ⊢;obtain⟨us,e,h5⟩:=h3;exact⟨us,e,aD.pP d _ h5⟩
def Dy[Laid](p:Cp)(hz:zP p<2^60)(d:Nat)(has:Bool)(hd:d≤3):aV p_ 104 [.agg (nP p),vg d has] (b_ (fi d has p)):=
 aV.Hf ((Dr (zP p) hz).2.1 p (aS _) d has hd) (JK p) (GF p)
abbrev Nn(cs:List Int):List (List AV):=cs.map fun c=>[u1 c]
abbrev yk(lead:Int)(aP aC:AV):aY:=.ak ⟨118,[u8 lead,aP,aC],true⟩
abbrev jH(t:ao)(a:AV):aY:=.ak ⟨121,[.str t,a],true⟩
abbrev qg:aY:=yk 0 bC bC
structure gx(d:Nat)(has:Bool)(B:Nat)(lead:Int)(re:aY)(ps:List Cp)(cs:List Int)(aP aC:AV)(H:aa):Prop where
 p:H[0]?=some (.ak ⟨93,[i_ d,b_ has],true⟩)
 z:H[1]?=some qg
 rd:H[2]?=some re
 o:H[B]?=some (yk lead aP aC)
 gP:kb 3 121 2 aP H (fE ps)
 gC:kb 3 5 1 aC H (Nn cs)
 b:2<B
section
variable {d:Nat} {has:Bool} {re re':aY} {B:Nat} {lead:Int} {ps:List Cp} {cs:List Int} {aP aC:AV} {H H':aa}
def gx.lt(c:gx d has B lead re ps cs aP aC H):B<H.length:=(dO.1 c.o).1
def gx.mv(c:gx d has B lead re ps cs aP aC H)(m:Mo 2 re' H H'):gx d has B lead re' ps cs aP aC H':=by
 have h1:=c.lt;have h2:=c.b;exact⟨by rw[m.other (by omega) (by decide)];exact c.p,by rw[m.other (by omega) (by decide)];exact c.z,m.at (by omega),by rw[m.other h1 (by omega)];exact c.o,c.gP.mv (by decide) m,c.gC.mv (by decide) m,c.b⟩
def gx.app(c:gx d has B lead re ps cs aP aC H)(j:aa):gx d has B lead re ps cs aP aC (H++j):=by
 have q:∀{i:Nat} {en:aY},H[i]?=some en→(H++j)[i]?=some en:=fun h=>by rw[gE (dO.1 h).1];exact h
 exact⟨q c.p,q c.z,q c.rd,q c.o,c.gP.app j,c.gC.app j,c.b⟩
def gx.MP{i:Nat}{b:jl}{y:aY}(c:gx d has B lead re ps cs aP aC H)(hi:H[i]?=some (.ak b))(h2:2<i)(hB:i≠B):gx d has B lead re ps cs aP aC (H.set i y):=by
 exact⟨by rw[iN (by omega)];exact c.p,by rw[iN (by omega)];exact c.z,by rw[iN (by omega)];exact c.rd,by rw[iN hB];exact c.o,c.gP.set hi,c.gC.set hi,c.b⟩
def gx.WR{lead':Int}{F:aa→Prop}(c:gx d has B lead re ps cs aP aC H)(k:gx d has B lead' re ps cs aP aC (H.set B (yk lead' aP aC))→F (H.set B (yk lead' aP aC))):ah 1 (.op B (0+0)) (u8 lead') H F:=by
 have h1:=c.b;refine aM (cs:=[u8 lead']) rfl c.o rfl rfl (by simp) rfl rfl rfl (k ⟨by rw[iN (by omega)];exact c.p,by rw[iN (by omega)];exact c.z,by rw[iN (by omega)];exact c.rd,iF c.lt,c.gP.set c.o,c.gC.set c.o,c.b⟩)
def gx.Y0{rb:jl}{p:Cp}{KA:aa→Prop}(c:gx d has B lead (.ak rb) ps cs aP aC H)(hl:ps.length<2^36)(k:∀aP' H',gx d has B lead (.ak rb) (ps++[p]) cs aP' aC H'→H.length≤H'.length→KA H'):
 bN false 121 2 40 aP (.sl 2 [nP p]) H fun v84 g85=>aN 1 (.op B 0) fun v86=>ah 1 v86 v84 g85 KA:=by
 have h1:=c.lt;have h2:=c.b;have hps:(fE ps).length=ps.length:=by simp[w9]
 refine wQ c.gP (by omega) (by cases p;unfold da;simp only[nP,aab,aaN,aaC,List.all_nil,nZ];rfl) (by decide) (by omega) fun a' H' g' bk _ im=>?_;have gs:bw a'=true:=by rcases g' with⟨_,rfl⟩|⟨_,t,_,rfl,_⟩<;>rfl
 have gv:bl a'=[a']:=by rcases g' with⟨_,rfl⟩|⟨_,t,_,rfl,_⟩<;>rfl
 have ho:=bk.2 _ _ c.o;refine zzA (aM (cs:=[a']) (h':=H'.set B (yk lead a' aC)) rfl ho rfl gv (by simp) rfl (by simp only[aaC,List.all_nil,gs];rfl) rfl ?_);have hl':=bk.1;refine k a' _ ⟨by rw[iN (by omega)];exact bk.2 _ _ c.p,by rw[iN (by omega)];exact bk.2 _ _ c.z,by rw[iN (by omega)];exact bk.2 _ _ c.rd,iF (by omega), ?_,(im _ _ _ _ (by decide) c.gC).set ho,c.b⟩ (by simp;omega);have:fE (ps++[p])=fE ps++[nP p]:=by simp[w9]
 rw[this];exact g'.set ho
def gx.YZ{rb:jl}{cc:Int}{KA:aa→Prop}(c:gx d has B lead (.ak rb) ps cs aP aC H)(hl:cs.length<2^36)(k:∀aC' H',gx d has B lead (.ak rb) ps (cs++[cc]) aP aC' H'→H.length≤H'.length→KA H'):
 bN false 5 1 1 aC (.sl 1 [[u8 cc]]) H fun v84 g85=>aN 2 (.op B 0) fun v86=>ah 1 v86 v84 g85 KA:=by
 have h1:=c.lt;have h2:=c.b;have hps:(Nn cs).length=cs.length:=by simp
 refine wQ c.gC (by omega) rfl (by decide) (by omega) fun a' H' g' bk _ im=>?_;have gs:bw a'=true:=by rcases g' with⟨_,rfl⟩|⟨_,t,_,rfl,_⟩<;>rfl
 have gv:bl a'=[a']:=by rcases g' with⟨_,rfl⟩|⟨_,t,_,rfl,_⟩<;>rfl
 have ho:=bk.2 _ _ c.o;refine zzA (aM (cs:=[a']) (h':=H'.set B (yk lead aP a')) rfl ho rfl gv (by simp) rfl (by simp only[aaC,List.all_nil,gs];rfl) rfl ?_);have hl':=bk.1;refine k a' _ ⟨by rw[iN (by omega)];exact bk.2 _ _ c.p,by rw[iN (by omega)];exact bk.2 _ _ c.z,by rw[iN (by omega)];exact bk.2 _ _ c.rd,iF (by omega),(im _ _ _ _ (by decide) c.gP).set ho, ?_,c.b⟩ (by simp;omega);have:Nn (cs++[cc])=Nn cs++[[u8 cc]]:=by simp
 rw[this];exact g'.set ho
def gx.ld{K:AV→Prop}(c:gx d has B lead re ps cs aP aC H)(k:K (.agg [u8 lead,aP,aC])):ae true 3 (.op B 0) H K:=
 fU (cs:=[u8 lead,aP,aC]) rfl c.o (by simp) rfl k
def gx.ky{K:AV→Prop}(c:gx d has B lead re ps cs aP aC H)(k:K (vg d has)):ae true 2 (.op 0 0) H K:=
 fU (cs:=[i_ d,b_ has]) rfl c.p (by simp) rfl k
def gx.ret[Laid]{b:Bool}(c:gx d has B lead re ps cs aP aC H):
 ah 3 (.op 1 0) (.agg [u8 lead,aP,aC]) H fun g=>ae true 3 (.op 1 0) g fun r=>cf (.aw [.agg (nX (.mk lead ps cs)),b_ b]) (.aw [r,b_ b]) g:=by
 have h1:=c.lt;have h2:=c.b;have sP:bw aP=true:=by rcases c.gP with⟨_,rfl⟩|⟨_,t,_,rfl,_⟩<;>rfl
 have sC:bw aC=true:=by rcases c.gC with⟨_,rfl⟩|⟨_,t,_,rfl,_⟩<;>rfl
 refine aM (cs:=[u8 lead,aP,aC]) (h':=H.set 1 (yk lead aP aC)) rfl c.z rfl rfl (by simp) rfl (by simp only[aaC,List.all_nil,sP,sC];rfl) rfl ?_;refine fU (cs:=[u8 lead,aP,aC]) (b:=⟨118,[u8 lead,aP,aC],true⟩) rfl (iF (by omega)) (by simp) rfl ?_;refine⟨_,_,Wk.le (s':=[.aw [.agg (nX (.mk lead ps cs)),b_ b]]) (aao _) ⟨⟨?_,Le.refl _,trivial⟩,trivial⟩,rfl⟩;rw[nX];exact⟨Le.refl _,c.gP.NA,c.gC.NA,trivial⟩
end
end
section
open Go Go.Aw Go.jh Go.RowKit
open Go.bE hiding u1 ao
abbrev cxR(o:Cx×Bool):AV:=.aw [.agg (nX o.1),b_ o.2]
variable [bB]
def Fb(hn:n<2^30)(hP:De n)(v:List Vl)(hz:bP v≤n)(hb:gF v)(d:Nat)(has rel:Bool)(hd:d≤3):aV p_ 66 [.sl 6 (ct v),vg d has,b_ rel] (cxR (nN (kP (fb d has)) (fi d has) rel v)):=by
 refine (V66 _ _ _).aQ (by simp only[aq,Aw.Pure,and_true,true_and];exact ki v) (by simp only[aq,Aw.Pure,and_true];exact GI _) ?_;have hlv:=lA v;have hfz:∀s v,zS (kP (fb d has) s v).1≤1+3*bP v:=fun s v=>HJ (TU d has) s v;unfold Wc;refine bq (cs:=[i_ d,b_ has]) (n:=0) (h':=[.ak ⟨93,[i_ d,b_ has],true⟩]) rfl rfl rfl rfl (bq (cs:=[u8 0,bC,bC]) (n:=1) (h':=[.ak ⟨93,[i_ d,b_ has],true⟩,qg]) rfl rfl rfl rfl ?_);refine Ar (α:=Unit) (fun _=>False) (fun _=>[]) (fun _=>[]) (fun _=>0) ?_ (fun _ z=>z.elim);refine bp rfl (bq (cs:=[.sl 6 (ct v),i_ 0]) (n:=2) (h':=[.ak ⟨93,[i_ d,b_ has],true⟩,qg,Kg v 0]) rfl rfl rfl rfl ?_);obtain⟨h,hh⟩:∃h,h=[aY.ak ⟨93,[i_ d,b_ has],true⟩,qg,Kg v 0]:=⟨_,rfl⟩;have hl3:h.length=3:=by rw[hh];rfl
 have rd0:h[2]?=some (dc v v):=by rw[hh];simp
 have p0:h[0]?=some (.ak ⟨93,[i_ d,b_ has],true⟩):=by rw[hh];rfl
 have z0:h[1]?=some qg:=by rw[hh];rfl
 rw[←hh];clear hh;refine kV rd0 (List.suffix_refl _) rfl (by omega) fun H1 m1=>?_;have l1:=m1.len;refine bq (cs:=[u8 0,bC,bC]) (n:=H1.length) (h':=H1++[qg]) rfl rfl rfl rfl ?_;have c1:gx d has H1.length 0 (dc v (cR v)) [] [] bC bC (H1++[qg]):=⟨by rw[gE (by omega),m1.other (by omega) (by decide)];exact p0,by rw[gE (by omega),m1.other (by omega) (by decide)];exact z0,by rw[gE (by omega)];exact m1.at (by omega),by simp,.inl ⟨rfl,rfl⟩,.inl ⟨rfl,rfl⟩,by omega⟩;obtain⟨B,hB⟩:∃B,H1.length=B:=⟨_,rfl⟩;obtain⟨H2,h2⟩:∃H2,H1++[qg]=H2:=⟨_,rfl⟩;rw[hB,h2]at c1;rw[hB,h2];clear h2 hB m1 l1;have sv:=kr v;obtain⟨fn,hfn⟩:∃fn,kP (fb d has)=fn:=⟨_,rfl⟩;obtain⟨R,hR⟩:∃R,nN (kP (fb d has)) (fi d has) rel v=R:=⟨_,rfl⟩;have hRd:R=(let c:=jG (cR v)
  if rel=true then jr fn (fi d has) (if c.1=0 then 1 else c.1) (c.2.length+1) [] [] c.2 else jr fn (fi d has) 0 ((cR v).length+1) [] [] (cR v)):=by rw[←hR,hfn];rfl
 rw[hR];rw[hfn]at hfz;dsimp only at hRd;refine cL (fun s H=>s=[]∧∃lead rest,gx d has B lead (dc v rest) [] [] bC bC H∧rest <:+ v∧R=jr fn (fi d has) lead (rest.length+1) [] [] rest) ?_ ?_
 ·rintro _ Hs ⟨rfl,lead,rest0,c0,sf0,hR0⟩;have le0:=sf0.length_le;refine aG (α:=List Cp×List Int×List Vl×AV×AV×aa×Nat) (fun x=>R=jr fn (fi d has) lead x.2.2.2.2.2.2 x.1 x.2.1 x.2.2.1∧x.2.2.1.length<x.2.2.2.2.2.2∧x.1.length+x.2.2.1.length≤v.length∧x.2.1.length≤x.1.length∧gx d has B lead (dc v x.2.2.1) x.1 x.2.1 x.2.2.2.1 x.2.2.2.2.1 x.2.2.2.2.2.1∧x.2.2.1 <:+ v∧Hs.length≤x.2.2.2.2.2.1.length) (fun _=>[]) (fun x=>x.2.2.2.2.2.1) (fun x=>x.2.2.1.length) ([],[],rest0,bC,bC,Hs,rest0.length+1) ⟨hR0,Nat.lt_succ_self _,by simpa using le0,aS _,c0,sf0,aS _⟩ (Wk.refl _ _ _ (aS _)) ?_;rintro⟨ps,cs,rest,aP,aC,H,fuel⟩ ⟨hRl,hfu,hps,hcs,c,sf,hHs⟩;dsimp only at hRl hfu hps hcs c sf hHs ⊢;have ler:=sf.length_le;have hcl:=c.lt;have hcb:=c.b;obtain⟨fuel,rfl⟩:∃k,fuel=k+1:=⟨fuel-1,by omega⟩;rw[jr]at hRl;refine bq (cs:=[.str [],bC]) (n:=H.length) (h':=H++[jH [] bC]) rfl rfl rfl rfl ?_;have c2:=c.app [jH [] bC];have hC2:(H++[jH [] bC])[H.length]?=some (jH [] bC):=by simp
  obtain⟨C,hC⟩:∃C,H.length=C:=⟨_,rfl⟩;obtain⟨H2,h2⟩:∃H2,H++[jH [] bC]=H2:=⟨_,rfl⟩;have hH2:H2.length=C+1:=by rw[←h2,←hC];simp
  rw[h2]at c2 hC2;rw[hC]at hC2;rw[hC,h2];clear h2;have hCB:C≠B:=by omega
  have hC3:2<C:=by omega
  refine cL (fun s H=>s=[]∧gx d has B lead (dc v (eL rest).2) ps cs aP aC H∧H[C]?=some (jH (eL rest).1 bC)∧H2.length≤H.length) ?_ ?_
  ·rintro _ H3 ⟨rfl,c3,hC3',hl3'⟩;obtain⟨tg,htg⟩:∃tg,eL rest=tg:=⟨_,rfl⟩;have sft:tg.2 <:+ rest:=by rw[←htg];exact (KD rest).2
   rw[htg]at hRl c3 hC3';refine c3.ky ?_;refine KX (Nat.le_of_lt hn) hP c3.rd (sft.trans sf) hz hb hd rfl (fun ss r' H4 hsm m4=>?_) (fun e H4 hsm m4=>?_)
   ·rw[hfn]at hsm;rw[hsm]at hRl;dsimp only at hRl;have hone:=NI hfz (v:=rest) (r:=r') (ss:=ss) (by rw[htg];exact hsm);rw[htg]at hone;have sfr:r' <:+ v:=hone.2.1.trans sf;have c4:=c3.mv m4;have hC4:H4[C]?=some (jH tg.1 bC):=by rw[m4.other (by omega) (by omega)];exact hC3'
    have l4:=m4.len;have hgv:bl (gg 9 (dA ss))=[gg 9 (dA ss)]:=by cases dA ss<;>rfl
    have hzr:=qw sf;refine br rfl rfl (br rfl rfl (zzA (aM (cs:=[gg 9 (dA ss)]) (h':=H4.set C (jH tg.1 (gg 9 (dA ss)))) rfl hC4 rfl hgv (by simp) rfl (by simp only[aaC,List.all_nil,nZ];rfl) rfl ?_)));have c5:=c4.MP (y:=jH tg.1 (gg 9 (dA ss))) hC4 hC3 hCB;have hC5:(H4.set C (jH tg.1 (gg 9 (dA ss))))[C]?=some (jH tg.1 (gg 9 (dA ss))):=iF (dO.1 hC4).1;have l5:(H4.set C (jH tg.1 (gg 9 (dA ss)))).length=H4.length:=by simp
    obtain⟨H5,h5⟩:∃H5,H4.set C (jH tg.1 (gg 9 (dA ss)))=H5:=⟨_,rfl⟩;rw[h5]at c5 hC5 l5 ⊢;clear h5;obtain⟨p,hp⟩:∃p,Cp.mk tg.1 ss=p:=⟨_,rfl⟩;have hnp:[AV.str tg.1,gg 9 (dA ss)]=nP p:=by rw[←hp,nP]
    rw[hp]at hone hRl;refine zzO (aK (zzN rfl (fU (cs:=nP p) rfl hC5 (by simp) (by rw[←hnp];rfl) (c5.ky (uCon (Dy p (by have:=hone.1;omega) d has hd) (zzO (ar (zzQ ?_))))))));cases ba:fi d has p with
    | false =>
      rw[if_neg (by rw[ba];decide)]at hRl;refine zzL rfl (c5.ld ?_);rw[hRl];exact c5.ret
    | true =>
      rw[if_pos ba]at hRl;have hlt:r'.length<rest.length:=by
       have h1:=hone.2.2 (Ep (by rw[hp];exact ba));rcases AS r'.length rest.length with k|k
       ·exact k
       ·have:r'=rest:=hone.2.1.eq_of_length (Nat.le_antisymm hone.2.1.length_le k);subst this;omega
      refine zzK rfl (zzA (zzU c5.o rfl (fU (cs:=nP p) rfl hC5 (by simp) (by rw[←hnp];rfl) (km (cs:=nP p) rfl (by rw[←hnp];rfl) rfl (by rw[←hnp];simp only[aaC,List.all_nil,nZ];rfl) ?_))));refine c5.Y0 (by omega) fun aP' H6 c6 l6=>?_;refine kV c6.rd sfr rfl (by omega) fun H7 m7=>?_;have c7:=c6.mv m7;have l7:=m7.len;have sf7:=(kr r').trans sfr;refine zR c7.rd sf7 rfl ?_;obtain⟨q,hq⟩:∃q,cR r'=q:=⟨_,rfl⟩;have hql:q.length≤r'.length:=by rw[←hq];exact (kr r').length_le
      rw[hq]at hRl c7 sf7 ⊢;cases q with
      | nil =>
        rw[if_pos rfl]at hRl;refine zzL rfl ?_;have hcb7:=c7.b;refine⟨1, ?_⟩;refine c7.ld (zzA (jZ (po (by omega)) (zzU c7.o rfl ?_)));have hlen:∀{K:AV→Prop},K (i_ ((ps++[p]).length:Nat))→dX aP' K:=by
         intro K k;have e:(fE (ps++[p])).length=(ps++[p]).length:=by simp[w9]
         rw[←e]at k;rcases c7.gP with⟨e2,rfl⟩|⟨_,t,_,rfl,_⟩
         ·rw[e2]at k;exact k
         ·exact k
        refine hlen (zzD (jZ (by simp[wj]) ?_));have hdec:decide ((((ps++[p]).length:Nat):Int)≤64)=decide (ps.length+1≤64):=by
         simp only[BY,aab,aaN];exact decide_eq_decide.2 (by omega)
        rw[hdec,hRl];exact c7.ret
      | cons q0 q1 =>
        rw[if_neg (by simp)]at hRl;refine zzK rfl ?_;refine KV c7.rd sf7 rfl (by omega) fun H8 m8=>?_;have c8:=c7.mv m8;have l8:=m8.len;obtain⟨cb,hcb'⟩:∃cb,jG (q0:: q1)=cb:=⟨_,rfl⟩;have sfc:cb.2 <:+ (q0:: q1):=by rw[←hcb'];exact FM _
        have hcl2:=sfc.length_le;rw[hcb']at hRl c8 ⊢;refine cL (fun s H=>H=H8∧∃by':Int,s=[u8 by']∧R=jr fn (fi d has) lead fuel (ps++[p]) (cs++[by']) cb.2) ?_ ?_
        ·rintro _ _ ⟨rfl,by',rfl,hR9⟩;refine zzA (zzU c8.o rfl (km (cs:=[u8 by']) rfl rfl rfl rfl ?_));refine c8.YZ (by omega) fun aC' H9 c9 l9=>?_;refine ar ?_;exact⟨(ps++[p],cs++[by'],cb.2,aP',aC',H9,fuel),⟨hR9,by dsimp only;omega,by simp;omega,by simp;omega,c9,sfc.trans sf7,by dsimp only;omega⟩,Wk.refl _ _ _ (by omega),by dsimp only;omega⟩
        ·intro F hF;refine zzG ?_;refine kU (decide (cb.1=0)&&!decide ((q0:: q1).length<r'.length)) rfl (fun z=>by rw[z];rfl) (fun z F2 hF2=>?_) (fun s hs2=>kf hs2 ?_)
         ·refine zzO (ar ?_);rw[z,Bool.true_and]at hF2;exact hF2
         by_cases z1:cb.1=0
         ·rw[if_pos z1]at hRl
          by_cases z2:(q0:: q1).length=r'.length
          ·rw[if_pos z2]at hRl;refine zzL (by rw[z2];simp[z1]) (c8.ld ?_);rw[hRl];exact c8.ret
          ·rw[if_neg z2]at hRl;have:(q0:: q1).length<r'.length:=by omega
           refine zzK (by rw[tO this];simp) (zzG (zzL (tO z1) (ar ?_)));exact hF _ _ ⟨rfl,1,rfl,hRl⟩
         ·rw[if_neg z1]at hRl;refine zzK (by simp[z1]) (zzG (zzK (oF z1) (ar ?_)));exact hF _ _ ⟨rfl,cb.1,rfl,hRl⟩
   ·rw[hfn]at hsm;rw[hsm]at hRl;dsimp only at hRl;have c4:=c3.mv m4;have hC4:H4[C]?=some (jH tg.1 bC):=by rw[m4.other (by omega) (by omega)];exact hC3'
    refine br rfl rfl (br rfl rfl (zzA (aM (cs:=[bC]) (h':=H4.set C (jH tg.1 bC)) rfl hC4 rfl rfl (by simp) rfl rfl rfl ?_)));have c5:=c4.MP (y:=jH tg.1 bC) hC4 hC3 hCB;refine zzO (aK (zzM rfl (ar (zzR (zzL rfl (c5.ld ?_))))));rw[hRl];exact c5.ret
  ·intro F hF;have stT:∀(H:aa) (r:List Vl) (tg:ao) (G:aa→Prop),gx d has B lead (dc v r) ps cs aP aC H→H[C]?=some (jH [] bC)→(gx d has B lead (dc v r) ps cs aP aC (H.set C (jH tg bC))→(H.set C (jH tg bC))[C]?=some (jH tg bC)→G (H.set C (jH tg bC)))→ah 1 (.op C (0+0)) (.str tg) H G:=by
    intro H r tg G c hC k;exact aM (cs:=[.str tg]) rfl hC rfl rfl (by simp) rfl rfl rfl (k (c.MP (y:=jH tg bC) hC hC3 hCB) (iF (dO.1 hC).1))
   refine lY (n:=0) c2.rd sf rfl (by omega) fun H3 m3=>?_;have c3:=c2.mv m3;have l3:=m3.len;have hC3':H3[C]?=some (jH [] bC):=by rw[m3.other (by omega) (by omega)];exact hC2
   refine il ?_;have hT:(H3++[aY.ak ⟨83,(bX rest 0).row,true⟩])[H3.length]?=some (.ak ⟨83,(bX rest 0).row,true⟩):=by simp
   have c4:=c3.app [aY.ak ⟨83,(bX rest 0).row,true⟩];have hC4:(H3++[aY.ak ⟨83,(bX rest 0).row,true⟩])[C]?=some (jH [] bC):=by rw[gE (by omega)];exact hC3'
   have l4:(H3++[aY.ak ⟨83,(bX rest 0).row,true⟩]).length=H3.length+1:=by simp
   obtain⟨T,hTl⟩:∃T,H3.length=T:=⟨_,rfl⟩;obtain⟨H4,h4⟩:∃H4,H3++[aY.ak ⟨83,(bX rest 0).row,true⟩]=H4:=⟨_,rfl⟩;rw[h4,hTl]at hT;rw[h4]at c4 hC4 l4;rw[hTl,h4];clear h4;refine zzA (zzU hT rfl (zzG ?_))
   by_cases k1':(bX rest 0).k=1
   ·refine zzL (tO k1') ?_;cases rest with
    | nil=>exact absurd k1' (show ¬(0:Int)=1 by decide)
    | cons t q =>
      have k1':t.kind=1:=k1';have htg:eL (t:: q)=(cq t.text,q):=by rw[eL,if_pos k1']
      rw[htg]at hF;refine zzA (zzU hT rfl (uCon (gW _) ?_));have em:(bX (t:: q) 0).t.map eI=cq t.text:=rfl;rw[em];refine zzA ?_;refine stT H4 _ _ _ c4 hC4 fun c5 hC5=>?_;refine qe c5.rd sf (by omega) ?_;have c6:=c5.mv (Mo.set 2 (dc v q) _);refine ar ?_;exact hF _ _ ⟨rfl,c6,by rw[iN (by omega)];exact hC5,by simp;omega⟩
   ·refine zzK (oF k1') ?_;refine zQ (c:=42) c4.rd sf rfl (by omega) (fun r' H5 e m5=>?_) (fun H5 e m5=>?_)
    ·have c5:=c4.mv m5;have l5:=m5.len;have hC5:H5[C]?=some (jH [] bC):=by rw[m5.other (by omega) (by omega)];exact hC4
     have htg:eL rest=([42],r'):=by
      cases rest with
      | nil=>cases e
      | cons t q =>
        have k1':¬t.kind=1:=k1';rw[eL,if_neg k1',e]
     rw[htg]at hF;refine zzL rfl (zzA ?_);refine stT H5 _ _ _ c5 hC5 fun c6 hC6=>?_;refine ar ?_;exact hF _ _ ⟨rfl,c6,hC6,by simp;omega⟩
    ·have c5:=c4.mv m5;have l5:=m5.len;have hC5:H5[C]?=some (jH [] bC):=by rw[m5.other (by omega) (by omega)];exact hC4
     have htg:eL rest=([],rest):=by
      cases rest with
      | nil=>rfl
      | cons t q =>
        have k1':¬t.kind=1:=k1';rw[eL,if_neg k1',e]
     rw[htg]at hF;refine zzK rfl (ar ?_);exact hF _ _ ⟨rfl,c5,hC5,by omega⟩
 ·intro F hF;have em:∀lead rest H,gx d has B lead (dc v rest) [] [] bC bC H→rest <:+ v→R=jr fn (fi d has) lead (rest.length+1) [] [] rest→F [] H:=fun lead rest H c s e=>hF _ _ ⟨rfl,lead,rest,c,s,e⟩;cases rel with
  | false =>
    refine zzK rfl (ar ?_);exact em _ _ _ c1 sv (by rw[hRd,if_neg (by decide)])
  | true =>
    rw[if_pos rfl]at hRd;refine zzL rfl ?_;have sc:=(FM (cR v)).trans sv;refine KV c1.rd sv rfl (by omega) fun H3 m3=>?_;have c3:=c1.mv m3;refine zzA ?_;refine c3.WR fun c4=>?_;refine zzA (zzU c4.o rfl (zzG ?_))
    by_cases q:(jG (cR v)).1=0
    ·rw[if_pos q]at hRd;refine zzL (tO q) (zzA ?_);refine c4.WR fun c5=>?_;refine ar ?_;exact em _ _ _ c5 sc hRd
    ·rw[if_neg q]at hRd;refine zzK (oF q) (ar ?_);exact em _ _ _ c4 sc hRd
end
section
open Go Go.Aw Go.jh Go.RowKit
open Go.bE hiding u1 ao
def ox(pre:List Vl)(rest:List Vl):List (List Vl):=match fv rest with|h:: t=>(pre++h):: t|[]=>[pre]
def MX(pre:List Vl):ox pre []=[pre]:=by unfold ox;rw[fv];simp
def Kv(rest:List Vl):ox [] rest=fv rest:=by
 unfold ox;cases h:fv rest with
 | nil=>exact absurd h (wi rest).2
 | cons a t=>simp
def Ih(h:x.kind=18)(pre rest:List Vl):ox pre (x:: rest)=pre:: fv rest:=by unfold ox;rw[fv,if_pos h];simp
def Kw(h:¬x.kind=18)(pre rest:List Vl):ox pre (x:: rest)=ox (pre++[x]) rest:=by
 unfold ox;rw[fv,if_neg h];cases e:fv rest with
 | nil=>exact absurd e (wi rest).2
 | cons a t=>simp
def Ms(l:List Cx)(x:Cx):dR (l++[x])=dR l++[nX x]:=by simp[A8]
def qZ(x:Cx):(nX x).length=3:=by cases x;rfl
def A7(x:Cx):(nX x).all bw=true:=by cases x;simp only[nX,aaC,List.all_nil,nZ];rfl
variable [bB]
def PO(hn:n<2^30)(hP:De n):De (n+1):=by
 intro v hz hb d has rel forg hd;have hlv:=lA v;have hlen:(ct v).length=v.length:=by simp[dz]
 refine (V48 _ _ _ _).aQ (by simp only[aq,Aw.Pure,and_true,true_and];exact ki v) (MG _) ?_;unfold VQ;obtain⟨cp,hcp⟩:∃cp,nN (kP (fb d has)) (fi d has) rel=cp:=⟨_,rfl⟩;obtain⟨R,hR⟩:∃R,iG (3-d) has v rel forg=R:=⟨_,rfl⟩;have hR0:R=iJ cp forg (fv v) []:=by rw[←hR,←hcp];exact EC hd has v rel forg
 rw[hR];refine bq (cs:=[i_ d,b_ has]) (n:=0) (h':=[.ak ⟨93,[i_ d,b_ has],true⟩]) rfl rfl rfl rfl ?_;refine zzg (n:=v.length) hlen fun _=>?_;refine zzP (by unfold aZ;omega) ?_;refine aG (α:=List Cx×Nat×Nat×AV×aa) (fun x=>x.2.2.1≤v.length+1∧x.2.1≤x.2.2.1∧(x.2.2.1≤v.length→R=iJ cp forg (ox ((v.take x.2.2.1).drop x.2.1) (v.drop x.2.2.1)) x.1)∧(x.2.2.1=v.length+1→R=(x.1,true))∧kb 1 118 3 x.2.2.2.1 x.2.2.2.2 (dR x.1)∧x.2.2.2.2[0]?=some (.ak ⟨93,[i_ d,b_ has],true⟩)∧x.1.length≤x.2.2.1) (fun x=>[x.2.2.2.1,i_ x.2.1,i_ x.2.2.1]) (fun x=>x.2.2.2.2) (fun x=>v.length+1-x.2.2.1) ([],0,0,bC,[.ak ⟨93,[i_ d,b_ has],true⟩])
  ⟨aao _,aS _,fun _=>by rw[hR0];simp[Kv],(fun z=>by simp at z),.inl ⟨rfl,rfl⟩,rfl,aS _⟩ (Wk.refl _ _ _ (aS _)) ?_
 rintro⟨acc,from',i,a,H⟩ ⟨hi,hfr,hRi,hRe,hg,hp,hal⟩;dsimp only at hi hfr hRi hRe hg hp hal ⊢;have hH:=(dO.1 hp).1;refine zzC ?_;rcases AS i (v.length+1) with q|q
 ·have hRi:=hRi (by omega);refine zzL (tO (by omega)) ?_
  -- what comes behind
  have next:∀(acc':List Cx) (fr':Nat) (a':AV) (H':aa),fr'≤i+1→(i+1≤v.length→R=iJ cp forg (ox ((v.take (i+1)).drop fr') (v.drop (i+1))) acc')→(i+1=v.length+1→R=(acc',true))→kb 1 118 3 a' H' (dR acc')→H'[0]?=some (.ak ⟨93,[i_ d,b_ has],true⟩)→acc'.length≤i+1 →
   ag .add (i_ i) (i_ 1) fun v40=>[AV.sl 6 (ct v),b_ rel,b_ forg,.op 0 0,i_ ((v.length:Int)+1)]=[AV.sl 6 (ct v),b_ rel,b_ forg,.op 0 0,i_ ((v.length:Int)+1)] ∧
    ∃y:List Cx×Nat×Nat×AV×aa,(y.2.2.1≤v.length+1∧y.2.1≤y.2.2.1∧(y.2.2.1≤v.length→R=iJ cp forg (ox ((v.take y.2.2.1).drop y.2.1) (v.drop y.2.2.1)) y.1)∧(y.2.2.1=v.length+1→R=(y.1,true))∧kb 1 118 3 y.2.2.2.1 y.2.2.2.2 (dR y.1)∧y.2.2.2.2[0]?=some (.ak ⟨93,[i_ d,b_ has],true⟩)∧y.1.length≤y.2.2.1)∧Wk [aY.ak ⟨93,[i_ d,b_ has],true⟩].length [a',i_ fr',v40] H' [y.2.2.2.1,i_ y.2.1,i_ y.2.2.1] y.2.2.2.2∧v.length+1-y.2.2.1<v.length+1-i:=by
   intro acc' fr' a' H' e1 e2 e3 e4 e5 e6;have hH':=(dO.1 e5).1;refine zzP (by unfold aZ;omega) ?_;exact⟨rfl,(acc',fr',i+1,a',H'),⟨by dsimp only;omega,e1,e2,e3,e4,e5,e6⟩,Wk.refl _ _ _ (by simp;omega),by dsimp only;omega⟩
  refine aK ?_;refine zzg (n:=v.length) hlen fun _=>?_;refine zzC ?_;obtain⟨pre,hpre⟩:∃pre,(v.take i).drop from'=pre:=⟨_,rfl⟩;rw[hpre]at hRi;refine kU (match v[i]? with|some x=>!decide (x.kind=18)|none=>false) rfl (fun z=>?_) (fun z F2 hF2=>?_) (fun s hs=>kf hs ?_)
  ·rw[lE (by simp at z;omega)]
  ·have hlt:i<v.length:=by simp at z;omega
   obtain⟨x,hx⟩:∃x,v[i]?=some x:=⟨_,bY hlt⟩;rw[hx]at hF2;refine zzc (dz v) rfl hx (zzX (zzX (cv (c:=u8 x.kind) (by rw[kn];rfl) (zzH (ar ?_)))));exact hF2
  by_cases hX:(match v[i]? with|some x=>!decide (x.kind=18)|none=>false)=true
  ·-- it goes on
   refine zzL hX (ar ?_);have hlt:i<v.length:=by
    rcases AS i v.length with k|k
    ·exact k
    ·rw[lE k]at hX;cases hX
   obtain⟨x,hx⟩:∃x,v[i]?=some x:=⟨_,bY hlt⟩;rw[hx]at hX;have hk:¬x.kind=18:=by simpa using hX
   have hdr:v.drop i=x:: v.drop (i+1):=by rw[aaK hlt,(dO.1 hx).2]
   refine next acc from' a H (by omega) (fun _=>?_) (fun z=>by omega) hg hp (by omega)
   rw[hRi,hdr,Kw hk];have:(v.take (i+1)).drop from'=pre++[x]:=by
    rw[DO,hx,List.drop_append_of_le_length (by simp;omega),hpre];rfl
   rw[this]
  ·-- a part that is whole
   have hX:(match v[i]? with|some x=>!decide (x.kind=18)|none=>false)=false:=by simpa using hX
   refine zzK hX ?_;obtain⟨ps,e1,e2,e3⟩:∃ps,ox pre (v.drop i)=pre:: ps∧(i+1≤v.length→ps=fv (v.drop (i+1)))∧(i+1=v.length+1→ps=[]):=by
    rcases AS i v.length with k|k
    ·obtain⟨x,hx⟩:∃x,v[i]?=some x:=⟨_,bY k⟩;rw[hx]at hX;have hk:x.kind=18:=by simpa using hX
     have hdr:v.drop i=x:: v.drop (i+1):=by rw[aaK k,(dO.1 hx).2]
     exact⟨fv (v.drop (i+1)),by rw[hdr,Ih hk],fun _=>rfl,fun z=>by omega⟩
    ·exact⟨[],by rw[List.drop_of_length_le k,MX],fun z=>by omega,fun _=>rfl⟩
   rw[e1,iJ]at hRi;refine cL (fun s H' => ∃acc' a',s=[a']∧R=iJ cp forg ps acc'∧kb 1 118 3 a' H' (dR acc')∧H'[0]?=some (.ak ⟨93,[i_ d,b_ has],true⟩)∧acc'.length≤i+1) ?_ ?_
   ·rintro _ H' ⟨acc',a',rfl,hR',hg',hp',hal'⟩;refine zzP (by unfold aZ;omega) (ar ?_);refine next acc' (i+1) a' H' (aS _) (fun z=>?_) (fun z=>?_) hg' hp' hal'
    ·have:(v.take (i+1)).drop (i+1)=[]:=List.drop_of_length_le (by simp;omega);rw[this,Kv,hR',e2 z]
    ·rw[hR',e3 z,iJ]
   ·intro F hF;refine Nc (a:=from') (b:=i) rfl rfl hfr (by omega) ?_;rw[hpre];refine fU (cs:=[i_ d,b_ has]) rfl hp (by simp) rfl ?_;have hzp:bP pre≤n:=by
     have h1:=oT v i;have h2:=qw (List.drop_suffix from' (v.take i));rw[hpre]at h2;omega
    have hbp:gF pre:=Bu hb fun x hx=>by rw[←hpre]at hx;exact List.mem_of_mem_take (List.mem_of_mem_drop hx)
    have hcx:=Fb hn hP pre hzp hbp d has rel hd;rw[hcp]at hcx;refine KL rfl (by kernel_rfl) hcx (br rfl rfl (br rfl rfl (bq (cs:=[u8 0,bC,bC]) (n:=H.length) (h':=H++[qg]) rfl rfl rfl rfl (aM (cs:=nX (cp pre).1) (h':=H++[.ak ⟨118,nX (cp pre).1,true⟩]) (b:=⟨118,[u8 0,bC,bC],true⟩) rfl (by simp) rfl rfl (by simp[qZ]) (qZ _) (A7 _) (by rw[Lt _ _ (aS _)];simp[fY (a:=[u8 0,bC,bC]) (b:=nX (cp pre).1) (by rw[qZ];rfl)]) ?_))));have hg2:=hg.app [aY.ak ⟨118,nX (cp pre).1,true⟩];have hp2:(H++[aY.ak ⟨118,nX (cp pre).1,true⟩])[0]?=some (.ak ⟨93,[i_ d,b_ has],true⟩):=by rw[gE hH];exact hp
    have hV:(H++[aY.ak ⟨118,nX (cp pre).1,true⟩])[H.length]?=some (.ak ⟨118,nX (cp pre).1,true⟩):=by simp
    cases hb2:(cp pre).2 with
    | true =>
      rw[if_pos hb2]at hRi;refine zzL rfl (fU (cs:=nX (cp pre).1) rfl hV (by simp[qZ]) (by rw[List.drop_zero,Of (by simp[qZ])]) (km (cs:=nX (cp pre).1) rfl (qZ _) rfl (A7 _) ?_));refine wQ hg2 (by simp) (by unfold da;rw[qZ,A7];rfl) (by decide) (by simp[A8];omega) fun a' H' g' bk _ _=>?_;refine ar ?_;exact hF _ _ ⟨acc++[(cp pre).1],a',rfl,hRi,by rw[Ms];exact g',bk.2 _ _ hp2,by simp;omega⟩
    | false =>
      rw[if_neg (by rw[hb2];decide)]at hRi;refine zzK rfl (zzO ?_);cases forg with
      | false =>
        rw[if_neg (by decide)]at hRi;refine zzL rfl ?_;rw[hRi];exact .pure (by simp[aq,Aw.Pure]) rfl
      | true =>
        rw[if_pos rfl]at hRi;refine zzK rfl (ar ?_);exact hF _ _ ⟨acc,a,rfl,hRi,hg2,hp2,by omega⟩
 ·obtain rfl:i=v.length+1:=by omega
  rw[hRe rfl];refine zzK (by simp) ?_;exact⟨_,_,Wk.le (s':=[.aw [gg 3 (dR acc),tt]]) (aao _) ⟨⟨hg.NA,Le.refl _,trivial⟩,trivial⟩,rfl⟩
theorem Kc:∀n,n≤2^30→De n
 | 0,_=>fun v hz=>absurd hz (aap _)
 | n+1,hn=>PO (by omega) (Kc n (by omega))
def I1(v:List Vl)(hz:bP v<2^30)(hb:gF v)(d:Nat)(has rel forg:Bool)(hd:d≤3):aV p_ 48 [.sl 6 (ct v),vg d has,b_ rel,b_ forg] (Tp (iG (3-d) has v rel forg)):=Kc _ (aS _) v hz hb d has rel forg hd
abbrev Te(o:List Cx×Int):AV:=.aw [gg 3 (dR o.1),i_ o.2]
def Oi(v:List Vl)(hz:bP v<2^30)(hb:gF v):aV p_ 30 [.sl 6 (ct v)] (Te (JR v)):=by
 refine (ZV _).aQ (by simp only[aq,Aw.Pure,and_true];exact ki v) (by simp only[aq,Aw.Pure,and_true];exact jt (jS _)) ?_;unfold Vz;refine uCon (yQ v (by omega)) (zzH ?_);unfold JR
 by_cases hc:ic v=0
 ·rw[if_pos hc];refine zzK (by simp[hc]) (bp rfl (uCon (I1 v hz hb 0 false false false (by omega)) ?_));have hzr:=NK 3 false v false false (aS _);rw[show 3-0=3 from rfl];obtain⟨o,ho⟩:∃o,iG 3 false v false false=o:=⟨_,rfl⟩;rw[ho]at hzr ⊢;dsimp only;refine br rfl rfl (br rfl rfl (zzO ?_));cases h2:o.2 with
  | false =>
    rw[if_neg (by decide)];refine zzL rfl ?_;exact .pure (by simp[aq,Aw.Pure]) rfl
  | true =>
    rw[if_pos rfl];refine zzK rfl ?_;have hcc:aV p_ 49 [gg 3 (dR o.1)] (i_ (number o.1)):=aV.arg (BF o.1 (by omega)) (.cons (tq (xa _)) .nil) (by simp only[aq,and_true];exact jt (jS _));refine uCon hcc (zzE ?_)
    by_cases h3:64<number o.1
    ·rw[if_pos h3];refine zzL (tO (by omega)) ?_;exact .pure (by simp[aq,Aw.Pure]) rfl
    ·rw[if_neg h3];refine zzK (oF (by omega)) ?_;exact .pure (by simp only[aq,Aw.Pure,and_true];exact jt (jS _)) rfl
 ·rw[if_neg hc];refine zzL (by simp[hc]) ?_;exact .pure (by simp[aq,Aw.Pure]) rfl
end
end Go.Proofs.YtkfakehconamoaaGreatDoor
end
