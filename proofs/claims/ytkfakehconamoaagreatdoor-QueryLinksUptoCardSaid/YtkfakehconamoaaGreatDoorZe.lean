/-
 The value of a number: a sign and digits.
 No conditions.
-/
import Derived.Shelf.Small.Strs
import Derived.Test.YtkfakehconamoaaGreatDoorProg
import Derived.ScopeJumps
import Derived.KernelRfl
import Derived.Shelf.LaysM
import Derived.Shelf.Strings.Search3
import Derived.Shelf.Strings.Shaped
import Derived.Test.YtkfakehconamoaaGreatDoorZd
import Derived.Test.YtkfakehconamoaaGreatDoorZa
import Derived.Test.YtkfakehconamoaaGreatDoorZc
set_option linter.unusedVariables false
set_option linter.unusedSimpArgs false
set_option linter.unusedSectionVars false
set_option linter.defProp false
set_option autoImplicit true
set_option maxRecDepth 1000000
set_option maxHeartbeats 16000000
open Go.Proofs.Tryz renaming prog→p_
noncomputable section
namespace Go.Proofs.YtkfakehconamoaaGreatDoor
section
open Go Go.Aw Go.RowKit
/-! ### Plain -/
def yX(b:UInt8):Nat:=b.toNat-48
def sU(l:ao):Nat:=l.foldl (fun n b=>10*n+yX b) 0
/-! ### The walk -/
def Im{K:AV→Prop}(ex:x=i_ a)(ey:y=i_ b)(c:aZ (a*b))(q:K (i_ (a*b))):ag .mul x y K:=by subst ex;subst ey;simpa using⟨c,q⟩
def TV{K:AV→Prop}(hk:k≠.i64)(ex:x=.v (.int k a))(ey:y=.v (.int k b))(hc:k.wrap (a-b)=c)(q:K (.v (.int k c))):ag .sub x y K:=by
 subst ex;subst ey;subst hc;refine⟨rfl, ?_⟩;unfold sO u9;cases k<;>first|exact q|exact absurd rfl hk
def R6{K:AV→Prop}(ex:x=.str a)(ey:y=.str b)(h:a.length+b.length≤2^40)(q:K (.str (a++b))):ag .add x y K:=by
 subst ex;subst ey;rw[Pm];exact⟨by unfold maxLen;omega,q⟩
def Nk{KH:AV→aa→Prop}(ex:x=.str l)(q:KH (.own h.length 0 l.length 1) (h++[.ak ⟨e,l.map bS,true⟩])):jP e x h KH:=by subst ex;exact q
def IA{K:AV→Prop}{id off len sz:Nat}(ex:x=.own id off len sz)(q:K (i_ len)):aU x K:=by subst ex;rw[tz];exact fun _=>q
variable [bB]
end
section
open Go.Shelf
theorem uSo3{α:Type}{a b:α}(h:a=b:=by kernel_rfl):some a=some b:=congrArg some h
def lays137_ren:Go.Shelf.Ren:=⟨fun|137=>97|217=>150|266=>207|n=>n,fun|9=>9|5=>5|3=>3|n=>n,fun|n=>n⟩
theorem lays137:Go.Proofs.Lays.n137 p_ lays137_ren:={
 mixed:=by kernel_rfl
 f137:=Tryz.func97.trans uSo3
 f217:=Tryz.func150.trans uSo3
 f266:=Tryz.func207.trans uSo3
 t3:=Tryz.underlying3
 a3:=Tryz.isAgg3
 z3:=Tryz.sizeOf3
 v3:=Tryz.zeroValue3
 t5:=Tryz.underlying5
 a5:=Tryz.isAgg5
 z5:=Tryz.sizeOf5
 v5:=Tryz.zeroValue5
 t9:=Tryz.underlying9
 a9:=Tryz.isAgg9
 z9:=Tryz.sizeOf9
 v9:=Tryz.zeroValue9 }
end
section
open Go Go.Aw Go.RowKit
abbrev uS(k:Int)(t:ao)(n:Int)(u:ao)(f:Bool):AV:=.agg [u8 k,.str t,i_ n,.str u,b_ f]
abbrev cm(k:Int)(t:ao)(n:Int)(u:ao)(f:Bool):aY:=.ak ⟨83,[u8 k,.str t,i_ n,.str u,b_ f],true⟩
def oO{lo hi:Option AV}{a b:Nat}{K:AV→Prop}(ex:x=.str l)(ha:dS lo 0=some (a:Int))(hb:dS hi l.length=some (b:Int))(hab:a≤b)(hl:b≤l.length)(hr:(l.take b).drop a=r)(q:K (.str r)):eS x lo hi K:=by
 subst ex;subst hr;unfold eS;simp only[ha,hb];exact⟨⟨by omega,by omega,by omega⟩,by simpa using q⟩
def pY[Laid]{K:AV→aa→Prop}(hv:H[V]?=some (cm k0 t0 n0 u0 f0))(q:K (uS k t n u f) (H.set V (cm k t n u f))):
 ah 5 (.op V 0) (uS k t n u f) H fun g=>ae true 5 (.op V 0) g fun r=>K r g:=by
 have hlt:=(dO.1 hv).1;refine aM (cs:=[u8 k,.str t,i_ n,.str u,b_ f]) (h':=H.set V (cm k t n u f)) rfl hv rfl rfl (by simp) rfl (by simp[bw]) rfl ?_;refine zzV (iF hlt) (by simp) ?_;exact q
def I3[Laid](s:ao)(b:UInt8):aV p_ 97 [.str s,bS b] (i_ (Lib.indexByte s b)):=by
 refine gV (v:=.int .i64 (Lib.indexByte s b)) (by simp[aq,bS]) (by simp) (by simp) (fun w=>by simp) ?_;intro ι S w vs h1 hg
 match vs,h1 with
 | [],h1=>simp at h1
 | [v],h1=>simp at h1
 | v:: u:: x:: vs,h1=>simp at h1
 | [v,u],h1 =>
   simp only[bL,di,and_true,dG,bS,cE]at h1;obtain⟨⟨rfl,_⟩,rfl⟩:=h1;refine (Any.strings_IndexByte lays137 ⟨s.toArray⟩ (b.toNat:Int) w).mono ?_;rintro e w' ⟨rfl,rfl⟩;exact⟨by simp,Below.refl _ _⟩
def bD{id o:Nat}{K:AV→Prop}(q:K (.op id o)):ca P (.op id o) K:=q
structure Tok where
 k:Int
 t:ao
 n:Int
 u:ao
 f:Bool
abbrev Tok.row(x:Tok):List AV:=[u8 x.k,.str x.t,i_ x.n,.str x.u,b_ x.f]
abbrev Tok.av(x:Tok):AV:=uS x.k x.t x.n x.u x.f
abbrev cM(l:List Tok):List (List AV):=l.map Tok.row
def ot(l:List Tok):(cM l).all (da 5)=true:=Bg (f:=Tok.row) (fun x=>⟨rfl,by simp[bw]⟩) l
theorem jU:∀l:List Tok,aX (cM l)
 | []=>by simp[aX]
 | x:: l=>by show aX (x.row:: cM l);rw[aX];exact⟨by simp[aq],jU l⟩
end
end Go.Proofs.YtkfakehconamoaaGreatDoor
namespace Go.Rt
section
open Go
abbrev ao:=List UInt8
def aJ(s:ao)(i:Nat):UInt8:=s.getD i 0
def de(c:UInt8):Bool:=decide (48≤c.toNat)&&decide (c.toNat≤57)
def wg(c:UInt8):UInt8:=if 65≤c.toNat∧c.toNat≤90 then c+32 else c
def gK(c:UInt8):Int:=if de c=true then (c.toNat:Int)-48 else if 97≤(wg c).toNat∧(wg c).toNat≤102 then ((wg c).toNat:Int)-97+10 else -1
def je(c:UInt8):Bool:=decide (c=10)||decide (c=9)||decide (c=32)
def uQ(c:UInt8):Bool:=(decide (97≤(wg c).toNat)&&decide ((wg c).toNat≤122))||decide (c=95)||decide (128≤c.toNat)
def fN(c:UInt8):Bool:=uQ c||de c||decide (c=45)
def dP(s:ao)(i:Nat):Bool:=decide (aJ s i=92)&&!decide (aJ s (i+1)=10)
def kz:ao:=[239,191,189]
def rE(n:Nat):ao:=if n=0∨(55296≤n∧n≤57343)∨1114111<n then kz else if n<128 then [UInt8.ofNat n] else if n<2048 then [UInt8.ofNat (192+n/64),UInt8.ofNat (128+n%64)] else if n<65536 then [UInt8.ofNat (224+n/4096),UInt8.ofNat (128+n/64%64),UInt8.ofNat (128+n%64)] else [UInt8.ofNat (240+n/262144),UInt8.ofNat (128+n/4096%64),UInt8.ofNat (128+n/64%64),UInt8.ofNat (128+n%64)]
def ju(s:ao):Nat→Nat→Nat→Nat×Nat
 | 0,i,n=>(n,i)
 | k+1,i,n=>match s[i]? with
   | some c=>if 0≤gK c then ju s k (i+1) (16*n+(gK c).toNat) else (n,i)
   | none=>(n,i)
theorem Gj(s:ao):∀k i n,i≤(ju s k i n).2
 | 0,i,n=>Nat.le_refl _
 | k+1,i,n=>by
   rw[ju];split
   ·split
    ·exact Nat.le_trans (Nat.le_succ _) (Gj s k _ _)
    ·exact Nat.le_refl _
   ·exact Nat.le_refl _
def cP(s:ao)(i:Nat):ao×Nat:=match s[i+1]? with
 | none=>(kz,i+1)
 | some c=>if gK c<0 then ([c],i+2) else
   let r:=ju s 6 (i+1) 0
   (rE r.1,if je (aJ s r.2)=true then r.2+1 else r.2)
def fw(s:ao)(i:Nat):i<(cP s i).2:=by
 unfold cP;split
 ·exact Nat.lt_succ_self _
 ·split
  ·exact Nat.lt_succ_of_lt (Nat.lt_succ_self _)
  ·have:=Gj s 6 (i+1) 0;dsimp only;split<;>omega
def jz(s:ao)(i:Nat):Bool:=if aJ s i=45 then uQ (aJ s (i+1))||decide (aJ s (i+1)=45)||dP s (i+1) else uQ (aJ s i)||dP s i
def cW(s:ao)(i:Nat):ao×Nat:=
 if h:i<s.length then
  if fN s[i]=true then let r:=cW s (i+1);(s[i]:: r.1,r.2)
  else if dP s i=true then let r:=cW s (cP s i).2;((cP s i).1++r.1,r.2)
  else ([],i)
 else ([],i)
termination_by s.length-i
decreasing_by
 ·omega
 ·have:=fw s i;omega
def lN(s:ao)(i:Nat):Bool:=
 let j:=if aJ s i=43∨aJ s i=45 then i+1 else i
 de (aJ s (if aJ s j=46 then j+1 else j))
def gm(s:ao)(i:Nat):Nat:=i+((s.drop i).takeWhile de).length
def gL(s:ao)(i:Nat):Nat×Bool:=
 let i1:=gm s (if aJ s i=43∨aJ s i=45 then i+1 else i)
 let r:=if aJ s i1=46∧de (aJ s (i1+1))=true then (gm s (i1+1),false) else (i1,true)
 if aJ s r.1=101∨aJ s r.1=69 then
  let k:=if aJ s (r.1+1)=43∨aJ s (r.1+1)=45 then r.1+2 else r.1+1
  if de (aJ s k)=true then (gm s k,false) else r
 else r
def zI(most:Nat):Nat→Nat→Nat
 | 0,n=>n
 | p+1,n=>if 0<n∧n<most then zI most p (min most (10*n)) else n
def jC(x:ao)(r:Option ao×Nat):Option ao×Nat:=(r.1.map (x++·),r.2)
def iK(mark:UInt8)(s:ao)(i:Nat):Option ao×Nat:=
 if h:i<s.length then
  if s[i]=mark then (some [],i+1)
  else if s[i]=10 then (none,i)
  else if s[i]=92 then
   if i+1=s.length then (some [],i+1)
   else if aJ s (i+1)=10 then iK mark s (i+2)
   else jC (cP s i).1 (iK mark s (cP s i).2)
  else jC [s[i]] (iK mark s (i+1))
 else (some [],i)
termination_by s.length-i
decreasing_by
 ·omega
 ·have:=fw s i;omega
 ·omega
def dU(s:ao)(i:Nat):Nat:=i+((s.drop i).takeWhile je).length
def lJ(s:ao)(i:Nat):Nat:=
 if h:i<s.length then
  if s[i]=41 then i+1
  else if dP s i=true then lJ s (cP s i).2 else lJ s (i+1)
 else min s.length (i+1)
termination_by s.length-i
decreasing_by
 ·have:=fw s i;omega
 ·omega
def EY(c:UInt8):Bool:=decide (c.toNat≤8)||decide (c.toNat=11)||(decide (14≤c.toNat)&&decide (c.toNat≤31))||decide (c.toNat=127)
def gQ(s:ao)(i:Nat):Option ao×Nat:=
 if h:i<s.length then
  if s[i]=41 then (some [],i+1)
  else if je s[i]=true then
   if dU s i<s.length∧aJ s (dU s i)≠41 then (none,lJ s (dU s i)) else (some [],min s.length (dU s i+1))
  else if s[i]=34∨s[i]=39∨s[i]=40∨EY s[i]=true∨(s[i]=92∧dP s i=false) then (none,lJ s i)
  else if s[i]=92 then jC (cP s i).1 (gQ s (cP s i).2)
  else jC [s[i]] (gQ s (i+1))
 else (some [],min s.length (i+1))
termination_by s.length-i
decreasing_by
 ·have:=fw s i;omega
 ·omega
def yy:ao:=[117,114,108]
def np:ao:=[58,59,44,91,93,40,41,123,125]
def hasB(s:ao)(i:Nat)(x:ao):Bool:=decide ((s.drop i).take x.length=x)
def lM(s:ao)(i:Nat):Nat:=if h:i<s.length then (if hasB s i [42,47]=true then i+2 else lM s (i+1)) else s.length
termination_by s.length-i
theorem wM(s:ao)(i:Nat):min s.length i≤lM s i:=by
 rw[lM];split
 ·split
  ·omega
  ·have:=wM s (i+1);omega
 ·omega
termination_by s.length-i
def fI(s:ao)(i:Nat):Nat:=if h:i<s.length∧hasB s i [47,42]=true then fI s (lM s (i+2)) else i
termination_by s.length-i
decreasing_by
 have:=wM s (i+2);omega
end
end Go.Rt
namespace Go.jh
section
open Go Go.Aw
abbrev ao:=List UInt8
inductive Vl where
 | mk (kind:Int) (text:ao) (num:Int) (unit:ao) (flag:Bool) (list:List Vl)
def Vl.kind:Vl→Int|.mk k _ _ _ _ _=>k
def Vl.text:Vl→ao|.mk _ t _ _ _ _=>t
def Vl.num:Vl→Int|.mk _ _ n _ _ _=>n
def Vl.unit:Vl→ao|.mk _ _ _ u _ _=>u
def Vl.flag:Vl→Bool|.mk _ _ _ _ f _=>f
def Vl.list:Vl→List Vl|.mk _ _ _ _ _ l=>l
abbrev u1(n:Int):AV:=.v (.int .u8 n)
mutual
def ig:Vl→List AV
 | .mk k t n u f l=>[u1 k,.str t,i_ n,.str u,b_ f,.sl 6 (ct l)]
def ct:List Vl→List (List AV)
 | []=>[]
 | v:: l=>ig v:: ct l
end
theorem dz:∀l,ct l=l.map ig
 | []=>by simp[ct]
 | p:: l=>by simp[ct,dz l]
def cV(v:Vl):List AV:=[u1 v.kind,.str v.text,i_ v.num,.str v.unit,b_ v.flag]
def kn(v:Vl):ig v=[u1 v.kind,.str v.text,i_ v.num,.str v.unit,b_ v.flag,.sl 6 (v.list.map ig)]:=by
 cases v;simp[ig,dz,Vl.kind,Vl.text,Vl.num,Vl.unit,Vl.flag,Vl.list]
mutual
theorem NJ:∀x:Vl,aq (ig x)
 | .mk k t n u f l=>by simp[ig,aq,Aw.Pure,ki l]
theorem ki:∀l:List Vl,aX (ct l)
 | []=>by simp[ct,aX]
 | v:: l=>by simp[ct,aX,NJ v,ki l]
end
def dE(k:Int):Int:=if k=2 then 22 else if k=19∨k=21∨k=23 then k+1 else 0
mutual
def ui:Vl→Nat
 | .mk k _ _ _ _ l=>if dE k=0 then 0 else dr l+1
def dr:List Vl→Nat
 | []=>0
 | v:: l=>max (ui v) (dr l)
end
mutual
def uf:Vl→Nat
 | .mk k _ _ _ _ l=>if dE k=0 then 1 else cT l+2
def cT:List Vl→Nat
 | []=>0
 | v:: l=>uf v+cT l
end
mutual
def Dn(c:Int):Vl→Bool
 | .mk k _ _ _ _ l=>!decide (c=0)&&decide (k=c)||(if dE k=0 then !l.isEmpty else fc (dE k) l)
def fc(c:Int):List Vl→Bool
 | []=>false
 | v:: l=>Dn c v||fc c l
end
def ic(l:List Vl):Int:=if 16<dr l then 20 else if 1500<cT l then 4 else if fc 0 l then 8 else 0
/-! ### A size -/
mutual
def zV:Vl→Nat
 | .mk _ t _ u _ l=>1+t.length+u.length+bP l
def bP:List Vl→Nat
 | []=>0
 | v:: l=>zV v+bP l
end
theorem Uh:∀v,0<zV v
 | .mk _ _ _ _ _ _=>by rw[zV];omega
def tR(h:v∈l):zV v≤bP l:=by
 induction l with
 | nil=>cases h
 | cons y l ih =>
   rw[bP];rcases IS.1 h with rfl|h
   ·omega
   ·have:=ih h;omega
theorem lA:∀l:List Vl,l.length≤bP l
 | []=>by simp
 | v:: l=>by have:=lA l;have:=Uh v;rw[bP,aab];omega
mutual
theorem Oe:∀v,uf v≤2*zV v
 | .mk k t n u f l=>by
   have:=ug l;rw[uf,zV];split<;>omega
theorem ug:∀l,cT l≤2*bP l
 | []=>by simp[cT]
 | v:: l=>by have:=Oe v;have:=ug l;rw[cT,bP];omega
end
mutual
theorem LM:∀v,ui v≤zV v
 | .mk k t n u f l=>by
   have:=rR l;rw[ui,zV];split<;>omega
theorem rR:∀l,dr l≤bP l
 | []=>by simp[dr]
 | v:: l=>by have:=LM v;have:=rR l;rw[dr,bP];omega
end
theorem u4:∀a b:List Vl,dr (a++b)=max (dr a) (dr b)
 | [],b=>by simp[dr]
 | v:: a,b=>by simp[dr,u4 a b,Nat.max_assoc]
theorem ni:∀a b:List Vl,cT (a++b)=cT a+cT b
 | [],b=>by simp[cT]
 | v:: a,b=>by simp[cT,ni a b,Nat.add_assoc]
theorem vv(c:Int):∀a b:List Vl,fc c (a++b)=(fc c a||fc c b)
 | [],b=>by simp[fc]
 | v:: a,b=>by simp[fc,vv c a b,Bool.or_assoc]
theorem lz:∀a b:List Vl,bP (a++b)=bP a+bP b
 | [],b=>by simp[bP]
 | v:: a,b=>by simp[bP,lz a b,Nat.add_assoc]
section
variable {l:List Vl} {k:Nat} {v:Vl}
def Fi(h:l[k]?=some v):dr (l.take (k+1))=max (dr (l.take k)) (ui v):=by
 rw[DO,h,u4];simp[dr]
def Hm(h:l[k]?=some v):cT (l.take (k+1))=cT (l.take k)+uf v:=by
 rw[DO,h,ni];simp[cT]
def Hh(c:Int)(h:l[k]?=some v):fc c (l.take (k+1))=(fc c (l.take k)||Dn c v):=by
 rw[DO,h,vv];simp[fc]
end
def oT(l:List Vl)(k:Nat):bP (l.take k)≤bP l:=by
 have:=lz (l.take k) (l.drop k);rw[List.take_append_drop]at this;omega
end
end Go.jh
namespace Go.bE
section
open Go Go.Aw
abbrev ao:=List UInt8
mutual
inductive Cx where
 | mk (lead:Int) (parts:List Cp) (rO:List Int)
inductive Cp where
 | mk (tag:ao) (bo:List Sm)
inductive Sm where
 | mk (kind:Int) (name:ao) (op:Int) (value:ao) (fold:Bool) (a b:Int) (of:Bool) (list:List Cx)
end
def Cx.lead:Cx→Int|.mk l _ _=>l
def Cx.parts:Cx→List Cp|.mk _ p _=>p
def Cx.rO:Cx→List Int|.mk _ _ c=>c
def Cp.tag:Cp→ao|.mk t _=>t
def Cp.bo:Cp→List Sm|.mk _ s=>s
def Sm.kind:Sm→Int|.mk k _ _ _ _ _ _ _ _=>k
def Sm.name:Sm→ao|.mk _ n _ _ _ _ _ _ _=>n
def Sm.op:Sm→Int|.mk _ _ o _ _ _ _ _ _=>o
def Sm.value:Sm→ao|.mk _ _ _ v _ _ _ _ _=>v
def Sm.fold:Sm→Bool|.mk _ _ _ _ f _ _ _ _=>f
def Sm.a:Sm→Int|.mk _ _ _ _ _ a _ _ _=>a
def Sm.b:Sm→Int|.mk _ _ _ _ _ _ b _ _=>b
def Sm.of:Sm→Bool|.mk _ _ _ _ _ _ _ o _=>o
def Sm.list:Sm→List Cx|.mk _ _ _ _ _ _ _ _ l=>l
abbrev u1(n:Int):AV:=.v (.int .u8 n)
/-! ### In memory -/
mutual
def fL:Cx→List AV
 | .mk l ps cs=>[u1 l,.sl 2 (jk ps),.sl 1 (cs.map fun c=>[u1 c])]
def jk:List Cp→List (List AV)
 | []=>[]
 | p:: ps=>fD p:: jk ps
def fD:Cp→List AV
 | .mk t ss=>[.str t,.sl 9 (kx ss)]
def kx:List Sm→List (List AV)
 | []=>[]
 | s:: ss=>dv s:: kx ss
def dv:Sm→List AV
 | .mk k n o v f a b w l=>[u1 k,.str n,u1 o,.str v,b_ f,i_ a,i_ b,b_ w,.sl 3 (eR l)]
def eR:List Cx→List (List AV)
 | []=>[]
 | x:: xs=>fL x:: eR xs
end
theorem kL:∀l,jk l=l.map fD
 | []=>by simp[jk]
 | p:: l=>by simp[jk,kL l]
theorem mN:∀l,kx l=l.map dv
 | []=>by simp[kx]
 | p:: l=>by simp[kx,mN l]
theorem ga:∀l,eR l=l.map fL
 | []=>by simp[eR]
 | p:: l=>by simp[eR,ga l]
def iM(x:Cx):fL x=[u1 x.lead,.sl 2 (x.parts.map fD),.sl 1 (x.rO.map fun c=>[u1 c])]:=by
 cases x;simp[fL,kL,Cx.lead,Cx.parts,Cx.rO]
def kX(p:Cp):fD p=[.str p.tag,.sl 9 (p.bo.map dv)]:=by
 cases p;simp[fD,mN,Cp.tag,Cp.bo]
def ia(s:Sm):dv s=[u1 s.kind,.str s.name,u1 s.op,.str s.value,b_ s.fold,i_ s.a,i_ s.b,b_ s.of,.sl 3 (s.list.map fL)]:=by
 cases s;simp[dv,ga,Sm.kind,Sm.name,Sm.op,Sm.value,Sm.fold,Sm.a,Sm.b,Sm.of,Sm.list]
theorem su:∀cs:List Int,aX (cs.map fun c=>[u1 c])
 | []=>by simp[aX]
 | c:: cs=>by simp[aX,aq,Aw.Pure,su cs]
mutual
theorem zx:∀x:Cx,aq (fL x)
 | .mk l ps cs=>by simp[fL,aq,Aw.Pure,su,rm ps]
theorem rm:∀l:List Cp,aX (jk l)
 | []=>by simp[jk,aX]
 | p:: l=>by simp[jk,aX,uG p,rm l]
theorem uG:∀p:Cp,aq (fD p)
 | .mk t ss=>by simp[fD,aq,Aw.Pure,zw ss]
theorem zw:∀l:List Sm,aX (kx l)
 | []=>by simp[kx,aX]
 | s:: l=>by simp[kx,aX,p8 s,zw l]
theorem p8:∀s:Sm,aq (dv s)
 | .mk k n o v f a b w l=>by simp[dv,aq,Aw.Pure,nv l]
theorem nv:∀l:List Cx,aX (eR l)
 | []=>by simp[eR,aX]
 | x:: l=>by simp[eR,aX,zx x,nv l]
end
/-! ### What is valid -/
def pq(s:ao):Bool:=s.all fun b=>!(b == 0)
def named(s:ao):Bool:=!decide (s=[])&&decide ((s.length:Int)≤64)&&pq s
def eI(b:UInt8):UInt8:=if 65≤b∧b≤90 then b ||| 32 else b
def small(s:ao):Bool:=named s&&decide (s.map eI=s)
def jQ(k:Int):Bool:=decide (k=9)||decide (k=10)
def ma(n:Int):Bool:=decide (-1000000000≤n∧n≤1000000000)
def jn(k:Int)(n:ao)(o:Int)(v:ao)(f:Bool)(a b:Int)(w:Bool):Bool:=
 if k=1∨k=2 then named n&&decide (o=0)&&decide (v=[])&&!f&&decide (a=0)&&decide (b=0)&&!w
 else if k=3 then small n&&decide (o≤6)&&pq v&&decide ((v.length:Int)≤400)&&(!decide (o=0)||decide (v=[])&&!f)&&decide (a=0)&&decide (b=0)&&!w
 else decide (n=[])&&decide (o=0)&&decide (v=[])&&!f&&decide (4≤k∧k≤14)&&(if jQ k then ma a&&ma b else decide (a=0)&&decide (b=0)&&!w)
def my(k:Int)(w:Bool):Bool:=jQ k&&w||decide (11≤k∧k≤14)
def lh(k:Int):Bool:=decide (k=11)||decide (k=12)
mutual
def lF(d:Nat)(has rel:Bool):Cx→Bool
 | .mk l ps cs=>(rel == !decide (l=0))&&decide (l≤4)&&decide (cs.length+1=ps.length)&&decide (ps.length≤64)&&cs.all (fun c=>decide (1≤c∧c≤4))&&rh d has ps
def rh(d:Nat)(has:Bool):List Cp→Bool
 | []=>true
 | p:: l=>fi d has p&&rh d has l
def fi(d:Nat)(has:Bool):Cp→Bool
 | .mk t ss=>(decide (t=[])||decide (t=[42])||small t)&&decide (ss.length≤64)&&!(decide (t=[])&&ss.isEmpty)&&nr d has ss
def nr(d:Nat)(has:Bool):List Sm→Bool
 | []=>true
 | s:: l=>nq d has s&&nr d has l
def nq(d:Nat)(has:Bool):Sm→Bool
 | .mk k n o v f a b w l=>jn k n o v f a b w&&(if my k w then decide (d≠3)&&!(has&&decide (k=14))&&(lh k||!l.isEmpty)&&mA (d+1) (has||decide (k=14)) (decide (k=14)) l else l.isEmpty)
def mA(d:Nat)(has rel:Bool):List Cx→Bool
 | []=>true
 | x:: l=>lF d has rel x&&mA d has rel l
end
theorem Er(d:Nat)(has:Bool):∀l,rh d has l=l.all (fi d has)
 | []=>by simp[rh]
 | p:: l=>by simp[rh,Er d has l]
theorem yg(d:Nat)(has:Bool):∀l,nr d has l=l.all (nq d has)
 | []=>by simp[nr]
 | p:: l=>by simp[nr,yg d has l]
theorem yi(d:Nat)(has rel:Bool):∀l,mA d has rel l=l.all (lF d has rel)
 | []=>by simp[mA]
 | p:: l=>by simp[mA,yi d has rel l]
/-! ### How many -/
mutual
def nX:Cx→Nat
 | .mk _ ps _=>fE ps
def fE:List Cp→Nat
 | []=>0
 | p:: l=>nP p+fE l
def nP:Cp→Nat
 | .mk _ ss=>dA ss
def dA:List Sm→Nat
 | []=>0
 | s:: l=>nS s+dA l
def nS:Sm→Nat
 | .mk _ _ _ _ _ _ _ _ l=>l.length+dR l
def dR:List Cx→Nat
 | []=>0
 | x:: l=>nX x+dR l
end
def number(l:List Cx):Nat:=l.length+dR l
def jo(l:List Cx):Int:=if !l.isEmpty&&mA 0 false false l then (if number l≤64 then 0 else 4) else 8
/-! ### How great -/
mutual
def zX:Cx→Nat
 | .mk _ ps cs=>1+cs.length+lZ ps
def lZ:List Cp→Nat
 | []=>0
 | p:: l=>zP p+lZ l
def zP:Cp→Nat
 | .mk t ss=>1+t.length+nU ss
def nU:List Sm→Nat
 | []=>0
 | s:: l=>zS s+nU l
def zS:Sm→Nat
 | .mk _ n _ v _ _ _ _ l=>1+n.length+v.length+ft l
def ft:List Cx→Nat
 | []=>0
 | x:: l=>zX x+ft l
end
end
end Go.bE
namespace Go.Proofs.YtkfakehconamoaaGreatDoor
section
open Go Go.Aw Go.jh Go.bE
/-! ### Blocks -/
def lD(o:Tok)(l:List Vl):Vl:=.mk o.k o.t o.n o.u o.f l
def gb(t:Tok)(c:List Vl):List (Tok×List Vl)→Option (List Vl×List (Tok×List Vl))
 | []=>if dE t.k≠0 then some ([],[(t,c)]) else some (c++[lD t []],[])
 | (o,b):: s=>if t.k=dE o.k then some (b++[lD o c],s)
  else if dE t.k≠0 then (if s.length+1=16 then none else some ([],(t,c):: (o,b):: s)) else some (c++[lD t []],(o,b):: s)
def pH(c:List Vl):List (Tok×List Vl)→List Vl
 | []=>c
 | (o,b):: s=>pH (b++[lD o c]) s
def gr:List Tok→List Vl→List (Tok×List Vl)→Option (List Vl×List (Tok×List Vl))
 | [],c,s=>some (c,s)
 | t:: l,c,s=>match gb t c s with|some (c,s)=>gr l c s|none=>none
def jB(l:List Tok):List Vl×Int:=if 1500<l.length then ([],4) else match gr l [] [] with
 | none=>([],20)
 | some (c,s)=>if 1500<l.length+s.length then ([],4) else (pH c s,0)
/-! ### Progressions -/
def dT:List Tok→List Tok
 | []=>[]
 | t:: r=>if t.k=13 then dT r else t:: r
def nD(k:Int):List Tok→Option (Tok×List Tok)
 | []=>none
 | t:: r=>if t.k=k then some (t,r) else none
def jD:List Tok→Int×List Tok
 | []=>(0,[])
 | t:: r=>if t.k=9∧t.t=[43] then (1,r) else if t.k=9∧t.t=[45] then (-1,r) else (0,t:: r)
def dm(l:List Tok):(Int×Bool)×List Tok:=match nD 10 l with
 | some (t,r)=>((t.n.tdiv 1000,t.f&&decide (t.n.tmod 1000=0)),r)
 | none=>((0,false),l)
def lL:ao:=[48,49,50,51,52,53,54,55,56,57]
def cq(s:ao):ao:=s.map bE.eI
def Hi(w:ao)(l:List Tok):(Int×Bool)×List Tok:=
 if w=[45] then dm (dT l)
 else if w≠[] then (if Lib.hasPrefix w [45]=false∨Lib.trimS (Lib.trimPrefix w [45]) lL≠[] then ((0,false),l) else ((-((min (sU (Lib.trimPrefix w [45])) 1000000000:Nat):Int),true),l))
 else match dT l with
  | []=>((0,true),[])
  | t:: r=>let s:=jD (t:: r);let w:=dm (dT s.2)
    if s.1=0 then w else ((s.1*w.1.1,w.1.2&&decide (0≤w.1.1)),w.2)
def fC(w:ao)(l:List Tok):(Int×Bool)×List Tok:=
 if w=[45] then (let r:=dm (dT l);((-1*r.1.1,r.1.2&&decide (0≤r.1.1)),r.2)) else Hi w l
def ir(l:List Tok):((Int×Int)×Bool)×List Tok:=
 let w:=dm l
 if w.1.2=true then (((0,w.1.1),true),w.2)
 else match nD 12 w.2 with
  | some (t,r)=>if Lib.hasPrefix (cq t.u) [110]=true∧t.f=true∧t.n.tmod 1000=0 then
   (let b:=fC (Lib.trimPrefix (cq t.u) [110]) r;(((t.n.tdiv 1000,b.1.1),b.1.2),b.2)) else (((0,0),false),r)
  | none=>let s:=jD w.2
    match nD 1 s.2 with
    | none=>(((0,0),false),s.2)
    | some (t,r)=>if s.1<0 then (((0,0),false),r) else
      let m:=cq t.t
      if s.1=0∧m=[111,100,100] then (((2,1),true),r)
      else if s.1=0∧m=[101,118,101,110] then (((2,0),true),r)
      else
       let neg:Bool:=decide (s.1=0)&&Lib.hasPrefix m [45]
       let q:=if neg=true then Lib.trimPrefix m [45] else m
       if Lib.hasPrefix q [110]=true then (let b:=fC (Lib.trimPrefix q [110]) r;((((if neg=true then -1 else 1:Int),b.1.1),b.1.2),b.2)) else (((0,0),false),r)
def vZ(n:Int):Bool:=decide (-1000000000≤n)&&decide (n≤1000000000)
def yH(l:List Tok):Option (Int×Int):=
 let r:=ir (dT l)
 if r.1.2=true∧dT r.2=[]∧vZ r.1.1.1=true∧vZ r.1.1.2=true then some r.1.1 else none
/-! ### Selectors -/
def cR:List Vl→List Vl
 | []=>[]
 | v:: r=>if v.kind=13 then cR r else v:: r
def iA(c:UInt8):List Vl→Option (List Vl)
 | []=>none
 | v:: r=>if v.kind=9∧v.text=[c] then some r else none
def jG(v:List Vl):Int×List Vl:=match iA 62 v with
 | some r=>(2,cR r)
 | none=>match iA 43 v with
   | some r=>(3,cR r)
   | none=>match iA 126 v with
     | some r=>(4,cR r)
     | none=>(0,v)
def dq(k:Int)(n:ao):Sm:=.mk k n 0 [] false 0 0 false []
def eg(n:ao)(o:Int)(w:ao)(f:Bool):Sm:=.mk 3 n o w f 0 0 false []
def pG:ao:=[126,124,94,36,42]
def IK(n:ao)(o:Int)(w:ao):List Vl→Sm×Bool
 | []=>(eg n o w false,true)
 | f:: r=>if f.kind=1 then (eg n o w (decide (cq f.text=[105])),(cR r).isEmpty&&(decide (cq f.text=[105])||decide (cq f.text=[115]))) else (eg n o w false,false)
def BC(n:ao)(o:Int):List Vl→Sm×Bool
 | []=>(eg n o [] false,false)
 | t:: r=>if t.kind=1∨t.kind=5 then IK n o t.text (cR r) else (eg n o [] false,false)
def Dm(n:ao)(q:List Vl):Sm×Bool:=match q with
 | []=>(eg n 0 [] false,true)
 | t:: r=>match iA 61 (t:: r) with
   | some r=>BC n 1 (cR r)
   | none=>if t.kind=9∧0≤Lib.index pG t.text then (match iA 61 r with
     | some r=>BC n (2+Lib.index pG t.text) (cR r)
     | none=>(eg n 0 [] false,false)) else (eg n 0 [] false,false)
def mH(v:List Vl):Sm×Bool:=match cR v with
 | []=>(eg [] 0 [] false,false)
 | t:: r=>if t.kind=1 then Dm (cq t.text) (cR r) else (eg (cq t.text) 0 [] false,false)
def iI:List ao:=[[108,105,110,107],[118,105,115,105,116,101,100],[97,110,121,45,108,105,110,107],[114,111,111,116],[101,109,112,116,121],[110,116,104,45,99,104,105,108,100],[110,116,104,45,108,97,115,116,45,99,104,105,108,100],[105,115],[119,104,101,114,101],[110,111,116],[104,97,115]]
def jv(l:List ao)(s:ao):Int:=match l.idxOf? s with|some i=>(i:Int)|none=>-1
def nJ(s:ao):Sm×Bool:=
 if cq s=[102,105,114,115,116,45,99,104,105,108,100] then (.mk 9 [] 0 [] false 0 1 false [],true)
 else if cq s=[108,97,115,116,45,99,104,105,108,100] then (.mk 10 [] 0 [] false 0 1 false [],true)
 else (dq (4+max (jv iI (cq s)) 0) [],decide (0≤jv iI (cq s))&&decide (jv iI (cq s)<5))
def MZ(v:Vl):Tok:=⟨v.kind,v.text,v.num,v.unit,v.flag⟩
mutual
def zF:Vl→List Tok
 | .mk k t n u f l=>⟨k,t,n,u,f⟩:: (if dE k=0 then [] else dV l++[⟨dE k,[],0,[],false⟩])
def dV:List Vl→List Tok
 | []=>[]
 | v:: l=>zF v++dV l
end
abbrev Sub:=Int→List Vl→Bool→Bool→Option (List Cx×Bool)
def uC(k:Int)(w:Bool)(l:List Cx)(v:List Vl):Sm×Bool:=if ic v=0 then (match yH (dV v) with
 | some (a,b)=>(.mk k [] 0 [] false a b w l,true)
 | none=>(.mk k [] 0 [] false 0 0 w l,false)) else (.mk k [] 0 [] false 0 0 w l,false)
def oc(v:Vl):Bool:=decide (v.kind=1)&&decide (cq v.text=[111,102])
def vX(sub:Sub)(k:Int)(v:List Vl):Sm×Bool:=match v.findIdx? oc with
 | some i=>(match sub k (v.drop (i+1)) false false with
   | some (l,true)=>uC k true l (v.take i)
   | _=>(dq k [],false))
 | none=>uC k false [] v
def kP(sub:Sub)(s:ao)(v:List Vl):Sm×Bool:=
 let i:=jv iI (cq s)
 if i<5 then (dq 0 [],false)
 else if i<7 then vX sub (4+i) v
 else match sub (4+i) v (decide (4+i=14)) (decide (4+i≤12)) with
  | none=>(dq (4+i) [],false)
  | some (l,b)=>(.mk (4+i) [] 0 [] false 0 0 false l,b)
def gJ(x:Sm):Option (List Sm×List Vl)→Option (List Sm×List Vl)
 | some (l,r)=>some (x:: l,r)
 | none=>none
def ef(fn:ao→List Vl→Sm×Bool):List Vl→Option (List Sm×List Vl)
 | []=>some ([],[])
 | t:: r =>
   if t.kind=4 then (if t.flag=true then gJ (dq 1 t.text) (ef fn r) else none)
   else if t.kind=9∧t.text=[46] then (match r with
    | []=>none
    | u:: q=>if u.kind=1 then gJ (dq 2 u.text) (ef fn q) else none)
   else if t.kind=19 then (if (mH t.list).2=true then gJ (mH t.list).1 (ef fn r) else none)
   else if t.kind=16 then (match r with
    | []=>none
    | u:: q=>if u.kind=1 then (if (nJ u.text).2=true then gJ (nJ u.text).1 (ef fn q) else none)
      else if u.kind=2 then (if (fn u.text u.list).2=true then gJ (fn u.text u.list).1 (ef fn q) else none) else none)
   else some ([],t:: r)
def eL:List Vl→ao×List Vl
 | []=>([],[])
 | t:: r=>if t.kind=1 then (cq t.text,r) else match iA 42 (t:: r) with|some r=>([42],r)|none=>([],t:: r)
def jr(fn:ao→List Vl→Sm×Bool)(ok:Cp→Bool)(lead:Int):Nat→List Cp→List Int→List Vl→Cx×Bool
 | 0,ps,cs,_=>(.mk lead ps cs,false)
 | n+1,ps,cs,v=>match ef fn (eL v).2 with
   | none=>(.mk lead ps cs,false)
   | some (ss,r)=>if ok (.mk (eL v).1 ss)=true then
    (if cR r=[] then (.mk lead (ps++[.mk (eL v).1 ss]) cs,decide (ps.length+1≤64))
    else if (jG (cR r)).1=0 then
     (if (cR r).length=r.length then (.mk lead (ps++[.mk (eL v).1 ss]) cs,false) else jr fn ok lead n (ps++[.mk (eL v).1 ss]) (cs++[1]) (jG (cR r)).2)
    else jr fn ok lead n (ps++[.mk (eL v).1 ss]) (cs++[(jG (cR r)).1]) (jG (cR r)).2)
    else (.mk lead ps cs,false)
def nN(fn:ao→List Vl→Sm×Bool)(ok:Cp→Bool)(rel:Bool)(v:List Vl):Cx×Bool:=
 let c:=jG (cR v)
 if rel=true then jr fn ok (if c.1=0 then 1 else c.1) (c.2.length+1) [] [] c.2 else jr fn ok 0 ((cR v).length+1) [] [] (cR v)
def fv:List Vl→List (List Vl)
 | []=>[[]]
 | v:: r=>if v.kind=18 then []:: fv r else match fv r with
   | h:: t=>(v:: h):: t
   | []=>[[v]]
def iJ(cp:List Vl→Cx×Bool)(forg:Bool):List (List Vl)→List Cx→List Cx×Bool
 | [],acc=>(acc,true)
 | p:: ps,acc=>if (cp p).2=true then iJ cp forg ps (acc++[(cp p).1]) else if forg=true then iJ cp forg ps acc else ([],false)
def iG:Nat→Bool→List Vl→Bool→Bool→List Cx×Bool
 | 0,has,v,rel,forg=>iJ (nN (kP fun _ _ _ _=>none) (fi 3 has) rel) forg (fv v) []
 | k+1,has,v,rel,forg=>iJ (nN (kP fun kd v rel forg=>if has=true∧kd=14 then none else some (iG k (has||decide (kd=14)) v rel forg)) (fi (3-(k+1)) has) rel) forg (fv v) []
def JR(v:List Vl):List Cx×Int:=if ic v=0 then (let r:=iG 3 false v false false
 if r.2=true then (if 64<number r.1 then ([],4) else (r.1,0)) else ([],12)) else ([],ic v)
end
end Go.Proofs.YtkfakehconamoaaGreatDoor
namespace Go.Aw
section
open Go Go.RowKit
def D8{p:Nat→Prop}(h:∃k,p k):∃k,p k∧∀j,p j→k≤j:=by
 obtain⟨k,hk⟩:=h;induction k using Nat.strongRecOn with
 | _ k ih =>
   by_cases q:∃j,j<k∧p j
   ·obtain⟨j,hj,pj⟩:=q;exact ih j hj pj
   ·exact⟨k,hk,fun j pj=>Nat.le_of_not_lt fun z=>q ⟨j,z,pj⟩⟩
open Classical in
def zf(p:Nat→Prop):Nat:=if h:∃k,p k then Classical.choose (D8 h) else 0
def xA{p:Nat→Prop}(h:∃k,p k):p (zf p)∧∀j,p j→zf p≤j:=by
 unfold zf;rw[dif_pos h];exact Classical.choose_spec (D8 h)
theorem CK{Q:Exit→Act→World→Prop}{c rest:Code}(l:Nat)(J:Nat→Act→World→Prop)(hf:findLabel c l=some rest)(first:c.wp P (Exit.jump l (fun a w=>∃k,J k a w) Q) a w)
 (pass:∀k a w,J k a w→rest.wp P (Exit.jump l (fun a' w' => ∃k',k'<k∧J k' a' w') Q) a w):(Code.scope c).wp P Q a w:=by
 refine wp_scope_jumps l (fun a w=>∃k,J k a w) (fun a w=>zf fun k=>J k a w) hf first fun a w h=>?_
 obtain⟨h1,h2⟩:=xA h;refine wp_mono (pass _ a w h1) fun e a' w' z=>?_;cases e with
 | goto l' =>
   obtain⟨rfl,k',hk,hJ⟩:=z;exact⟨rfl,⟨k',hJ⟩,Nat.lt_of_le_of_lt ((xA (p:=fun k=>J k a' w') ⟨k',hJ⟩).2 k' hJ) hk⟩
 | normal=>exact z
 | exit id=>exact z
 | ret=>exact z
 | panic ch=>exact z
 | outgrown=>exact z
end
section
open Go Go.RowKit
variable [Laid]
section
variable {P:Program} {ops:Array Oper} {n:Nat} {Lo Fe Ee Ge:Nat→Bool} {B:Nat→Prop}
def L5(e:mZ f f'):aH f=aH f':=by
 funext x
 cases x with
 | tmp t=>exact e t
 | _=>rfl
theorem A1{Z:Fr→aa→Prop}(hZ:∀f f' h,mZ f f'→Z f h→Z f' h):∀(l:List Nat) {f f':Fr} {h:aa},mZ f f'→ja P ops n Lo Fe Ee Ge B Z l f h→ja P ops n Lo Fe Ee Ge B Z l f' h
 | [],f,f',h,e,q=>hZ _ _ _ e q
 | i:: l,f,f',h,e,q=>by
   simp only[ja]at q ⊢;cases ho:ops[i]? with
   | none=>rw[ho]at q;exact q.elim
   | some o =>
     rw[ho]at q;simp only at q ⊢;rcases q with⟨hl,hg,own,K0,q,k⟩|⟨hl,x,hy,hf,hee,q⟩
     ·exact .inl ⟨hl,hg,own,K0,by rw[←L5 e];exact q,fun v h' z=>⟨(k v h' z).1,A1 hZ l (e.set n o.dst v) (k v h' z).2⟩⟩
     ·exact .inr ⟨hl,x,hy.same fun t _=>(e t).symm,fun z h' => (hf z h').same fun t _=>(e t).symm,fun z h' hl=>(hee z h' hl).same fun t _=>(e t).symm,A1 hZ l (e.set n o.dst x) q⟩
def CO(P:Program)(ops:Array Oper)(i:Nat):Bool:=match ops[i]? with|some o=>uu P false o.op&&uu P true o.op|none=>false
def Qe{fr:Fr}(ho:ops[i]?=some o)(hf:CO P ops i=true)(hy:YA P ops h o x fr)(h':aa):YA P ops h' o x fr:=by
 unfold CO at hf;rw[ho]at hf;simp only[On]at hf;rcases hy with⟨w,own,q⟩|r
 ·refine .inl ⟨w,own,vH ?_ q⟩;cases own
  ·exact hf.1
  ·exact hf.2
 ·exact .inr r
theorem JC{Z:Fr→aa→Prop}:∀(l:List Nat) (fr:Fr),(∀i∈l,i<ops.size∧Lo i=false∧Ee i=false∧(Fe i=true→CO P ops i=true))→kG P ops n h (fun fr=>ja P ops n Lo Fe Ee Ge B Z r fr h) (iW ops l) fr→ja P ops n Lo Fe Ee Ge B Z (l++r) fr h
 | [],fr,_,q=>q
 | i:: l,fr,hl,q=>by
   obtain⟨h1,h2,h3,h4⟩:=hl i (by simp);have ho:ops[i]?=some ops[i]:=aaa h1;rw[nt ho]at q;obtain⟨x,hy,q⟩:=q;simp only[aaQ,ja,ho];exact .inr ⟨h2,x,hy,fun z h' => Qe ho (h4 z) hy h',fun (z:Ee i=true)=>(by rw[h3]at z;cases z),JC l _ (fun j hj=>hl j (by simp[hj])) q⟩
theorem kJ{K:Fr→aa→Prop}:∀(l:List (Nat×Nat×Bool)) (fr:Fr) (h:aa),(∀p∈l,(∀o,ops[p.1]?=some o→o.guard=none)∧(Lo p.1=(match p.2.1 with|0=>false|1=>false|3=>false|_=>true))∧(Fe p.1=true→p.2.1=0)∧(Ee p.1=true→p.2.1=3)∧(Ge p.1=true→p.2.1=4∨(p.2.1≠4∧∃o,ops[p.1]?=some o∧y6 o.op=true))) →
 qG P ops n l fr h K→ja P ops n Lo Fe Ee Ge (fun _=>True) K (l.map (·.1)) fr h
 | [],fr,h,_,q=>q
 | (i,k,own):: l,fr,h,hk,q=>by
  obtain⟨hg,hlo,hfe,hee,hge⟩:=hk (i,k,own) (by simp);dsimp only at hg hlo hfe hee hge;have hk':=fun p (hp:p∈l)=>hk p (by simp[hp]);simp only[qG]at q;simp only[IF,ja];cases ho:ops[i]? with
  | none=>rw[ho]at q;exact q.elim
  | some o =>
    rw[ho]at q;simp only at q ⊢;have hw:∀fr,fG ops o fr=some true:=fun fr=>by unfold fG;rw[hg o ho]
    split at q
    ·obtain⟨x,q1,q2⟩:=tj q;refine .inr ⟨hlo,x,.inl ⟨hw fr,own,by simpa using q1 h⟩,fun _ h' => .inl ⟨hw fr,own,by simpa using q1 h'⟩,fun (z:Ee i=true)=>(by have:=hee z;cases this),kJ l _ h hk' q2⟩
    ·obtain⟨x,q1,q2⟩:=ql q;refine .inr ⟨hlo,x,.inl ⟨hw fr,own,q1⟩,fun (z:Fe i=true)=>(by have:=hfe z;cases this),fun (z:Ee i=true)=>(by have:=hee z;cases this),kJ l _ h hk' q2⟩
    ·obtain⟨x,q1,q2⟩:=uy (B:=fun _=>True) (own:=own) (fun _ _ _ _ _ _=>trivial) q;refine .inr ⟨hlo,x,.inl ⟨hw fr,own,q1 h (eM.refl _)⟩,fun (z:Fe i=true)=>(by have:=hfe z;cases this),fun _ h' hl=>.inl ⟨hw fr,own,q1 h' hl⟩,kJ l _ h hk' q2⟩
    ·obtain⟨hgr,q⟩:=bh q;exact .inl ⟨hlo,hg o ho,own,_,FH hgr q,fun v h' k=>⟨fun _=>k.1,kJ l _ h' hk' k.2⟩⟩
    ·rename_i h0 h1 h3 h4;have hlo:Lo i=true:=by
      rw[hlo];split
      ·exact absurd rfl h0
      ·exact absurd rfl h1
      ·exact absurd rfl h3
      ·rfl
     cases hex:y6 o.op with
     | true=>exact .inl ⟨hlo,hg o ho,own,_,uO hex q,fun v h' k=>⟨fun _=>by obtain⟨⟨e,rfl⟩,_⟩:=k;exact eM.ext _ _,kJ l _ h' hk' k.2⟩⟩
     | false =>
       have hge:Ge i=true→False:=fun z=>by
        rcases hge z with z|⟨_,o2,z1,z2⟩
        ·exact absurd z h4
        ·rw[ho]at z1;cases z1;rw[hex]at z2;cases z2
       exact .inl ⟨hlo,hg o ho,own,_,q,fun v h' k=>⟨fun z=>(hge z).elim,kJ l _ h' hk' k⟩⟩
theorem vR{Z Z':Fr→aa→Prop}(hZ:∀f h,Z f h→Z' f h):∀(l:List Nat) {f:Fr} {h:aa},ja P ops n Lo Fe Ee Ge B Z l f h→ja P ops n Lo Fe Ee Ge B Z' l f h
 | [],f,h,q=>hZ _ _ q
 | i:: l,f,h,q=>by
   simp only[ja]at q ⊢;cases ho:ops[i]? with
   | none=>rw[ho]at q;exact q.elim
   | some o =>
     rw[ho]at q;simp only at q ⊢;rcases q with⟨hl,hg,own,K0,q,k⟩|⟨hl,x,hy,hf,hee,q⟩
     ·exact .inl ⟨hl,hg,own,K0,q,fun v h' z=>⟨(k v h' z).1,vR hZ l (k v h' z).2⟩⟩
     ·exact .inr ⟨hl,x,hy,hf,hee,vR hZ l q⟩
theorem sH{m:Nat}{Z:Fr→aa→Prop}{Q':Exit→St→Prop}(hZ:∀fr h,Z fr h→∃f2,mZ fr f2∧Q' .normal ⟨n,f2,h⟩):∀(fuel:Nat) (listed:Array Bool) (base:Nat) (ι:List Ix) (S:bj) (a:Act) (w:World) (fr:Fr) (h:aa),
 m≤h.length→bW base ι S a w ⟨n,fr,h⟩→sE P ops n Lo Ge B Z fuel listed fr h→wpAny P .any ops (cY m base ι S w Q') fuel listed a w
 | 0,listed,base,ι,S,a,w,fr,h,hm,hr,q=>by
   rw[q.1];obtain⟨f2,e,k⟩:=hZ fr h q.2;exact⟨rX,ι,S,⟨n,f2,h⟩,bM.refl _ _ _ _ _,hm,⟨hr.df,hr.sz,fun u=>by rw[←e u];exact hr.fr u,hr.hp⟩,k⟩
 | fuel+1,listed,base,ι,S,a,w,fr,h,hm,hr,q=>by
   have hm':m≤ι.length:=by rw[hr.hp.len];exact hm
   refine⟨fun e=>absurd e q.1,fun i hi=>?_⟩;rcases q.2 i hi with⟨_,k⟩|⟨_,k⟩
   ·refine EB (m:=m) hm' hr (fun ι' S' a' w' fr' h' hl hE hr' k=>?_) k;have:=sH (m:=m) (Q':=Q') hZ fuel (listed.setIfInBounds i true) base ι' S' a' w' fr' h' (by omega) hr' k;exact du (fun e a w z=>cY.trans hE z) _ _ _ _ this
   ·refine yo (m:=m) hm' hr (fun ι' S' a' w' fr' hE hr' k=>?_) k;have:=sH (m:=m) (Q':=Q') hZ fuel (listed.setIfInBounds i true) base ι' S' a' w' fr' h hm hr' k;exact du (fun e a w z=>cY.trans hE z) _ _ _ _ this
end
def vP(l:List cQ):List Nat:=(l.map cQ.ix).flatten
def Gz(l:List cQ)(s:List (Nat×Nat×Bool))(j:Nat):Bool:=match (vP l).contains j with|true=>false|false=>jJ s j
def Gd(P:Program)(ops:Array Oper)(l:List cQ)(s:List (Nat×Nat×Bool))(j:Nat):Bool:=match (vP l).contains j with|true=>CO P ops j|false=>rU s j
def F9(l:List cQ)(s:List (Nat×Nat×Bool))(j:Nat):Bool:=match (vP l).contains j with|true=>false|false=>rS s j
def Jk(ops:Array Oper)(l:List cQ)(s:List (Nat×Nat×Bool))(j:Nat):Bool:=match (vP l).contains j with|true=>false|false=>rY ops s j
def F4(P:Program)(ops:Array Oper)(n:Nat)(l:List cQ)(s:List (Nat×Nat×Bool)):Bool:=
 P.follows .mixedOrders&&l.all (kC ops)&&l.all (qN ops n)&&(vP l).all (fun i=>decide (i<ops.size))&&s.all (fun p=>!(vP l).contains p.1&&(match ops[p.1]? with|some o=>o.guard.isNone|none=>false)&&Nat.beq (iv s p.1) p.2.1) &&
  decide ((vP l++s.map (·.1)).length=ops.size)&&Eo ops (Gz l s) (Gd P ops l s) (F9 l s) (Jk ops l s) (vP l++s.map (·.1)) (Array.replicate ops.size false)
def F5(P:Program)(ops:Array Oper)(l:List cQ)(s:List (Nat×Nat×Bool))(Q:Exit→St→Prop)(st:St):Prop:=
 cG (F4 P ops st.n l s) (oP P ops st.n st.h l st.fr fun fr=>qG P ops st.n s fr st.h fun fr h=>Q .normal ⟨st.n,fr,h⟩)
def Fv{m id:Nat}{ops:Array Oper}{Q:Exit→St→Prop}{st:St}(hm:m≤st.h.length)(hq:F5 P ops l s Q st):AW P m (.region id ops true) Q st:=by
 intro base ι S a w _ hr;obtain⟨ba,hq⟩:=bh hq;simp only[F4,On,OF]at ba;obtain⟨⟨⟨⟨⟨⟨k1,k2⟩,k3⟩,k4⟩,k5⟩,k6⟩,k7⟩:=ba;obtain⟨hE,hr'⟩:=hr.drew;refine wp_region_any k1 (du (fun e a w z=>cY.trans (hE.mono (by rw[hr.hp.len];exact hm) (aS _)) z) _ _ _ _ ?_);have down0:Down ops (Array.replicate ops.size false):=fun i o ho hl=>by
  have hlt:=(By.1 ho).1;simp[hlt]at hl
 obtain⟨n,fr0,h0⟩:=st;dsimp only at hq hm hr hr' k3
 let Z:Fr→aa→Prop:=fun fr h=>∃f2,mZ fr f2∧Q .normal ⟨n,f2,h⟩
 have hZ:∀f f' h,mZ f f'→Z f h→Z f' h:=fun f f' h e ⟨f2,e2,q⟩=>⟨f2,fun t=>by rw[←e t];exact e2 t,q⟩;have hk:∀p∈s,(∀o,ops[p.1]?=some o→o.guard=none)∧(Gz l s p.1=(match p.2.1 with|0=>false|1=>false|3=>false|_=>true))∧(Gd P ops l s p.1=true→p.2.1=0)∧(F9 l s p.1=true→p.2.1=3)∧(Jk ops l s p.1=true→p.2.1=4∨(p.2.1≠4∧∃o,ops[p.1]?=some o∧y6 o.op=true)):=by
  intro p hp;have:=AT.1 k5 p hp;simp only[On]at this;obtain⟨⟨c1,c2⟩,c3⟩:=this;have c1:(vP l).contains p.1=false:=by simpa using c1
  have c3:=lT c3;refine⟨fun o ho=>?_, ?_, ?_, ?_, ?_⟩
  ·rw[ho]at c2;simpa using c2
  ·unfold Gz;rw[c1];show jJ s p.1=_;unfold jJ;rw[c3];rfl
  ·unfold Gd;rw[c1];show rU s p.1=true→_;unfold rU;rw[c3];intro z;split at z
   ·rename_i e;exact e
   ·cases z
  ·unfold F9;rw[c1];show rS s p.1=true→_;unfold rS;rw[c3];intro z;split at z
   ·rename_i e;exact e
   ·cases z
  ·unfold Jk;rw[c1];show rY ops s p.1=true→_;unfold rY;rw[c3];intro z;split at z
   ·rename_i e;exact .inl e
   ·rename_i e;split at z
    ·rename_i o ho;exact .inr ⟨by rw[e];decide,o,ho,z⟩
    ·cases z
   ·cases z
 have q2:jN P ops n h0 l fr0 (fun fr=>ja P ops n (Gz l s) (Gd P ops l s) (F9 l s) (Jk ops l s) (fun _=>True) Z (s.map (·.1)) fr h0):=
  yV l fr0 _ _ (fun fr hfr=>vR (fun f h z=>⟨f,fun _=>rfl,z⟩) _ (kJ s fr h0 hk hfr)) (qu _ _ _ hq)
 have q3:=si (fun f f' e z=>A1 hZ _ e z) l fr0 k2 k3 q2;have q4:ja P ops n (Gz l s) (Gd P ops l s) (F9 l s) (Jk ops l s) (fun _=>True) Z (vP l++s.map (·.1)) fr0 h0:=JC _ _ (fun i hi=>by
  have c:(vP l).contains i=true:=by simpa using hi
  refine⟨uP (AT.1 k4 i hi), ?_, ?_, ?_⟩
  ·unfold Gz;rw[c]
  ·unfold F9;rw[c]
  ·unfold Gd;rw[c];exact fun z=>z) q3
 have q5:=qE _ _ _ _ down0 k7 q4;rw[k6]at q5;exact sH (m:=m) (Q':=Q) (fun fr h z=>z) ops.size _ base ι S a _ fr0 h0 hm hr' q5
def pQ(d:Nat)(x:AV):Bool:=match x with|.op id _=>!Nat.beq id d|_=>true
def uE(d:Nat)(x:AV):Bool:=match x with|.own id _ _ _=>Nat.beq id d|_=>true
def wj(d:Nat)(x:AV):Bool:=match x with|.op id _=>Nat.beq id d|_=>false
def DX(d:Nat)(ev:Operand→AV)(op:Op):Bool:=match op with
 | .store _ x _=>wj d (ev x)
 | .call c=>(match c.callee,c.args.toList with|.builtin .append,[x,_]=>uE d (ev x)|_,_=>false)
 | _=>false
def HU(P:Program)(d:Nat)(ev:Operand→AV)(h:aa)(op:Op)(K:AV→Prop):Prop:=match op with
 | .load t x=>cG (pQ d (ev x)) (cG (fo P t) (ae (eK P t) (P.cellsOf t) (ev x) h K))
 | _=>False
def Jz{own:Bool}{ev:Operand→AV}{op:Op}{K:AV→Prop}(q:HU P d ev h op K):∃x,(∀h',eM (·≠d) h h'→bH P own ev h' op fun v h2=>v=x∧h2=h')∧K x:=by
 unfold HU at q;split at q
 ·rename_i t x;obtain⟨hb,q⟩:=bh q;refine uy (B:=(·≠d)) (own:=own) (fun t' x' id o e1 e2=>?_) (op:=.load t x) (by unfold D7;exact q);cases e1;unfold pQ at hb;rw[e2]at hb;intro e;subst e;simp at hb
 ·exact q.elim
omit [Laid] in
def Ij{d sz:Nat}{K:aa→Prop}(hx:wj d x=true)(q:ah sz x v h K):ah sz x v h fun h' => eM (·≠d) h h'∧K h':=by
 cases x<;>simp only[ah]at q⊢<;> first|exact q.elim|skip
 rename_i id o;cases e:h[id]? with
 | none=>rw[e]at q;exact q.elim
 | some en =>
   rw[e]at q;cases en with
   | ak b=>exact⟨q.1,eM.Uy (fun z=>z (lT hx)),q.2⟩
   | tok=>exact q.elim
   | dead=>exact q.elim
   | mp=>exact q.elim
   | it=>exact q.elim
def Lj{own:Bool}{ev:Operand→AV}{op:Op}{K:AV→aa→Prop}(hg:DX d ev op=true)(q:bH P own ev h op K):bH P own ev h op fun v h' => eM (·≠d) h h'∧K v h':=by
 unfold DX at hg;split at hg
 ·simp only[bH]at q ⊢;obtain⟨hr,q⟩:=bh q;rw[hr];exact Ij hg q
 ·rename_i c;split at hg
  ·rename_i x y hc ha;have hno:∀id o l s,ev x=.own id o l s→¬id≠d:=fun id o l s e=>by
    unfold uE at hg;rw[e]at hg;have:=lT hg;omega
   simp only[bH,hc]at q ⊢;split at q
   ·rename_i t tx x' y' hat hxy;rw[ha]at hxy;simp only[List.cons.injEq,and_true]at hxy;obtain⟨rfl,rfl⟩:=hxy;cases h1:P.underlying t with
    | none=>rw[h1]at q;exact q.elim
    | some d =>
      cases h2:P.underlying tx with
      | none=>rw[h1,h2]at q;cases d<;>exact q.elim
      | some d2 =>
        rw[h1,h2]at q;cases d<;>cases d2<;>simp only at q⊢<;> first|exact q.elim|(obtain⟨hr,q⟩:=bh q;rw[hr];exact vt hno q)
   ·exact q.elim
  ·cases hg
 ·cases hg
def rM(P:Program)(ops:Array Oper)(n d:Nat):List (Nat×Nat×Bool)→Fr→aa→(Fr→aa→Prop)→Prop
 | [],fr,h,K=>K fr h
 | (i,k,own):: r,fr,h,K=>match ops[i]? with
  | none=>False
  | some o=>(match k with
    | 0=>F8 P own (aH fr) [] o.op fun v=>rM P ops n d r (bJ n fr o.dst v) h K
    | 1=>DG P own (aH fr) h o.op fun v=>rM P ops n d r (bJ n fr o.dst v) h K
    | 3=>HU P d (aH fr) h o.op fun v=>rM P ops n d r (bJ n fr o.dst v) h K
    | 4=>cG (DX d (aH fr) o.op) (bH P own (aH fr) h o.op fun v h' => rM P ops n d r (bJ n fr o.dst v) h' K)
    | _=>bH P own (aH fr) h o.op fun v h' => rM P ops n d r (bJ n fr o.dst v) h' K)
def F3(P:Program)(ops:Array Oper)(l:List (Nat×Nat×Bool))(Q:Exit→St→Prop)(st:St):Prop:=
 cG (wL P ops l) (∃d:Nat,rM P ops st.n d l st.fr st.h fun fr h=>Q .normal ⟨st.n,fr,h⟩)
theorem kI{ops:Array Oper}{K:Fr→aa→Prop}(hg:∀(i:Nat) (o:Oper),ops[i]?=some o→o.guard=none):∀(l:List (Nat×Nat×Bool)) (fr:Fr) (h:aa),(∀p∈l,iv L p.1=p.2.1)→rM P ops n d l fr h K→ja P ops n (jJ L) (rU L) (rS L) (rY ops L) (·≠d) K (l.map (·.1)) fr h
 | [],fr,h,_,q=>q
 | (i,k,own):: l,fr,h,hk,q=>by
  have hk0:iv L i=k:=hk (i,k,own) (by simp);have hk':∀p∈l,iv L p.1=p.2.1:=fun p hp=>hk p (by simp[hp]);simp only[rM]at q;simp only[IF,ja];cases ho:ops[i]? with
  | none=>rw[ho]at q;exact q.elim
  | some o =>
    rw[ho]at q;simp only at q ⊢;have hw:∀fr,fG ops o fr=some true:=fun fr=>by unfold fG;rw[hg i o ho]
    split at q
    ·obtain⟨x,q1,q2⟩:=tj q;refine .inr ⟨by simp[jJ,hk0],x,.inl ⟨hw fr,own,by simpa using q1 h⟩,fun _ h' => .inl ⟨hw fr,own,by simpa using q1 h'⟩,fun z=>by simp[rS,hk0]at z,kI hg l _ h hk' q2⟩
    ·obtain⟨x,q1,q2⟩:=ql q;refine .inr ⟨by simp[jJ,hk0],x,.inl ⟨hw fr,own,q1⟩,fun z=>by simp[rU,hk0]at z,fun z=>by simp[rS,hk0]at z,kI hg l _ h hk' q2⟩
    ·obtain⟨x,q1,q2⟩:=Jz (own:=own) q;refine .inr ⟨by simp[jJ,hk0],x,.inl ⟨hw fr,own,q1 h (eM.refl _)⟩,fun z=>by simp[rU,hk0]at z,fun _ h' hl=>.inl ⟨hw fr,own,q1 h' hl⟩,kI hg l _ h hk' q2⟩
    ·obtain⟨hgr,q⟩:=bh q;exact .inl ⟨by simp[jJ,hk0],hg i o ho,own,_,Lj hgr q,fun v h' k=>⟨fun _=>k.1,kI hg l _ h' hk' k.2⟩⟩
    ·rename_i h0 h1 h3 h4;have hlo:jJ L i=true:=by
      unfold jJ;rw[hk0];split
      ·exact absurd rfl h0
      ·exact absurd rfl h1
      ·exact absurd rfl h3
      ·rfl
     cases hex:y6 o.op with
     | true=>exact .inl ⟨hlo,hg i o ho,own,_,uO hex q,fun v h' k=>⟨fun _=>by obtain⟨⟨e,rfl⟩,_⟩:=k;exact eM.ext _ _,kI hg l _ h' hk' k.2⟩⟩
     | false =>
       have hge:rY ops L i=true→False:=fun z=>by
        unfold rY at z;rw[hk0]at z;split at z
        ·exact absurd rfl h4
        ·rw[ho]at z;simp[hex]at z
        ·exact absurd z (by simp)
       exact .inl ⟨hlo,hg i o ho,own,_,q,fun v h' k=>⟨fun z=>(hge z).elim,kI hg l _ h' hk' k⟩⟩
def Fu{m id:Nat}{ops:Array Oper}{Q:Exit→St→Prop}{st:St}(hm:m≤st.h.length)(hq:F3 P ops l Q st):AW P m (.region id ops true) Q st:=by
 intro base ι S a w _ hr;obtain⟨ba,hq⟩:=bh hq;simp only[wL,On,OF]at ba;obtain⟨⟨⟨⟨k1,k2⟩,k3⟩,k4⟩,k5⟩:=ba;obtain⟨hE,hr'⟩:=hr.drew;refine wp_region_any k1 (du (fun e a w z=>cY.trans (hE.mono (by rw[hr.hp.len];exact hm) (aS _)) z) _ _ _ _ ?_);have down0:Down ops (Array.replicate ops.size false):=fun i o ho hl=>by
  have hlt:=(By.1 ho).1;simp[hlt]at hl
 have hg:∀(i:Nat) (o:Oper),ops[i]?=some o→o.guard=none:=fun i o ho=>by
  have:=Array.all_eq_true_iff_forall_mem.1 k2 o (Array.mem_of_getElem? ho);simpa using this
 have hk:∀p∈l,iv l p.1=p.2.1:=fun p hp=>lT (AT.1 k4 p hp);obtain⟨d,hq⟩:=hq;have q2:=kI hg l st.fr st.h hk hq;have q3:=qE _ _ _ _ down0 k5 q2;rw[aac,k3]at q3;obtain⟨n,fr,h⟩:=st;exact nf (m:=m) (Q':=Q) (fun fr h z=>z) ops.size _ base ι S a _ fr h hm hr' q3
/-! ### Jumps back to a label -/
def CP(l:Nat)(J:St→Prop)(Q:Exit→St→Prop):Exit→St→Prop
 | .goto l',st=>cG (Nat.beq l' l) (J st)
 | e,st=>Q e st
def Aq(h:aa)(first:(List AV→aa→Prop)→Prop)(body:(List AV→aa→Prop)→List AV→aa→Prop):Prop:=
 ∃(α:Type) (I:α→Prop) (f:α→List AV) (g:α→aa) (μ:α→Nat),first (fun s' h' => ∃y,I y∧Wk h.length s' h' (f y) (g y)) ∧
  ∀x,I x→body (fun s' h' => ∃y,I y∧Wk h.length s' h' (f y) (g y)∧μ y<μ x) (f x) (g x)
def Ar{α:Type}(I:α→Prop)(f:α→List AV)(g:α→aa)(μ:α→Nat){first:(List AV→aa→Prop)→Prop}{body:(List AV→aa→Prop)→List AV→aa→Prop}(h0:first (fun s' h' => ∃y,I y∧Wk h.length s' h' (f y) (g y)))
 (step:∀x,I x→body (fun s' h' => ∃y,I y∧Wk h.length s' h' (f y) (g y)∧μ y<μ x) (f x) (g x)):Aq h first body:=⟨α,I,f,g,μ,h0,step⟩
def kR(P:Program):Nat→Code→An→(Exit→St→Prop)→St→Prop
 | 0,_,_,_,_=>False
 | n+1,c,t,Q,st=>match c with
   | .skip=>Q .normal st
   | .ret=>Q .ret st
   | .exit id=>Q (.exit id) st
   | .label _=>Q .normal st
   | .goto l=>Q (.goto l) st
   | .seq a b=>(match t with
     | .join cs ms _ _=>aI (fun J=>kR P n a t.l (gh (fun st' => cG (Nat.beq st'.n st.n) (jmp cs ms st.fr st'.fr st'.h J)) Q) st) fun s h=>kR P n b t.r Q ⟨st.n,join cs ms st.fr s,h⟩
     | _=>kR P n a t.l (gh (fun st=>kR P n b t.r Q st) Q) st)
   | .block id c=>kR P n c t.l (yL id Q) st
   | .cond c a b=>(match c with
     | .tmp x=>af (bF st.fr x) (kR P n a t.l Q ⟨st.n,dQ st.fr x (.v (.bool true)),st.h⟩) (kR P n b t.r Q ⟨st.n,dQ st.fr x (.v (.bool false)),st.h⟩)
     | c=>af (aH st.fr c) (kR P n a t.l Q st) (kR P n b t.r Q st))
   | .region id ops draw=>(match draw with
     | false=>lC P (.region id ops false) t Q st
     | true=>(match t with
       | .two (.draw _ l _ _) (.fF s)=>F5 P ops l s Q st
       | .two (.fF s) .nil=>F3 P ops s Q st
       | _=>lC P (.region id ops true) t Q st))
   | .loop c=>(match t with
     | .loop cs ms a=>bc (dy st.fr ms) st.h fun next s h=>kR P n c a (gh (fun st' => cG (Nat.beq st'.n st.n) (jmp cs ms st.fr st'.fr st'.h next)) Q) ⟨st.n,join cs ms st.fr s,h⟩
     | _=>False)
   | .scope c=>(match t.l.j,t.r.j with
     | some ([l],_),some (cs,ms)=>(match findLabel c l with
       | some rest=>Aq st.h (fun N=>kR P n c t.r.l (CP l (fun st' => cG (Nat.beq st'.n st.n) (jmp cs ms st.fr st'.fr st'.h N)) Q) st)
        fun N s h=>kR P n rest t.r.r (CP l (fun st' => cG (Nat.beq st'.n st.n) (jmp cs ms st.fr st'.fr st'.h N)) Q) ⟨st.n,join cs ms st.fr s,h⟩
       | none=>False)
     | _,_=>False)
   | _=>False
theorem NY{P:Program}{Q:Exit→St→Prop}{c rest:Code}{st:St}{cs ms:List Nat}(hm:m≤st.h.length)(hl:findLabel c l=some rest)(first:(List AV→aa→Prop)→Prop)(body:(List AV→aa→Prop)→List AV→aa→Prop)
 (hf:∀next,first next→AW P st.h.length c (CP l (fun st' => cG (Nat.beq st'.n st.n) (jmp cs ms st.fr st'.fr st'.h next)) Q) st)
 (hb:∀next s h,st.h.length≤h.length→body next s h→AW P st.h.length rest (CP l (fun st' => cG (Nat.beq st'.n st.n) (jmp cs ms st.fr st'.fr st'.h next)) Q) ⟨st.n,join cs ms st.fr s,h⟩)
 (hs:Aq st.h first body):AW P m (.scope c) Q st:=by
 obtain⟨α,I,f,g,μ,h0,round⟩:=hs;intro base ι S a w _ hr
 let Inv:α→Act→World→Prop:=fun x a' w' => I x∧∃ι' S',bM st.h.length base ι S w ι' S' w'∧st.h.length≤(g x).length∧bW base ι' S' a' w' ⟨st.n,join cs ms st.fr (f x),g x⟩∧dd ι' S' w' (iV cs st.fr) a'.tmps
 have enter:∀{x:α} {a':Act} {w':World} {ι1:List Ix} {S1:bj} {s:List AV} {h':aa},bM st.h.length base ι S w ι1 S1 w'→a'.defers=[]→a'.tmps.size=st.n→cy base ι1 S1 w' h'→dd ι1 S1 w' (iV cs st.fr) a'.tmps→aD ι1 S1 w' s (ms.map fun t=>a'.tmps.getD t undef) →
  I x→Wk st.h.length s h' (f x) (g x)→Inv x a' w':=by
  intro x a' w' ι1 S1 s h' hE hdf hsz hp hc hs hI hw;obtain⟨hw1,hw2,hw3⟩:=hw;obtain⟨ι2,S2,hE2,hs2,hp2⟩:=hw3 base ι1 S1 w' _ hs hp;have hc2:dd ι2 S2 w' (iV cs st.fr) a'.tmps:=by
   intro t;have hbd:Bd st.h.length (bF (iV cs st.fr) t):=by
    rcases mb cs st.fr t with q|⟨_,q⟩
    ·rw[q];simp[Bd]
    ·rw[q];exact ax.bd (by rw[hr.hp.len];exact aS _) _ _ (hr.fr t)
   exact ax.fM hE2 _ _ hbd (hc t)
  exact⟨hI,ι2,S2,hE.trans hE2,hw1,⟨hdf,hsz,dd.lO ms _ _ 0 hc2 fun i t e=>by rw[aaq];exact hs2.nx (by rw[iS,e];rfl),hp2⟩,hc2⟩
 refine CK l (fun k a' w' => ∃x,μ x=k∧Inv x a' w') hl ?_ ?_
 ·refine wp_mono (hf _ h0 base ι S a w (aS _) hr) ?_;intro e a'' w'' k;obtain⟨ι'',S'',st'',h1,h2,h3,h4⟩:=k;have out:Q e st''→cY m base ι S w Q e a'' w'':=fun q=>⟨ι'',S'',st'',h1.mono hm (aS _),aat hm h2,h3,q⟩;cases e with
  | goto l' =>
    obtain⟨hll,h4⟩:=bh h4;obtain⟨hn,q⟩:=bh h4;obtain⟨e1,y,hy,hw⟩:=qn q;have hn:st''.n=st.n:=lT hn;exact⟨lT hll,_,y,rfl,enter h1 h3.df (by rw[←hn];exact h3.sz) h3.hp (h3.fr.eT e1) (aD.rF h3.fr ms) hy hw⟩
  | normal=>exact out h4
  | exit id=>exact out h4
  | ret=>exact out h4
  | panic ch=>exact out h4
  | outgrown=>exact out h4
 ·rintro k a' w' ⟨x,rfl,hx,ι',S',hE,hm',hr',_⟩;refine wp_mono (hb _ _ _ hm' (round x hx) base ι' S' a' w' hm' hr') ?_;intro e a'' w'' k;obtain⟨ι'',S'',st'',h1,h2,h3,h4⟩:=k;have out:Q e st''→cY m base ι S w Q e a'' w'':=fun q=>⟨ι'',S'',st'',(hE.trans h1).mono hm (aS _),aat hm h2,h3,q⟩;cases e with
  | goto l' =>
    obtain⟨hll,h4⟩:=bh h4;obtain⟨hn,q⟩:=bh h4;obtain⟨e1,y,hy,hw,hlt⟩:=qn q;have hn:st''.n=st.n:=lT hn;exact⟨lT hll,_,hlt,y,rfl,enter (hE.trans h1) h3.df (by rw[←hn];exact h3.sz) h3.hp (h3.fr.eT e1) (aD.rF h3.fr ms) hy hw⟩
  | normal=>exact out h4
  | exit id=>exact out h4
  | ret=>exact out h4
  | panic ch=>exact out h4
  | outgrown=>exact out h4
theorem Ch:∀(n:Nat) (c:Code) (t:An) (Q:Exit→St→Prop) (st:St) (m:Nat),m≤st.h.length→kR P n c t Q st→AW P m c Q st
 | 0,_,_,_,_,_,_,h=>h.elim
 | n+1,c,t,Q,st,m,hm,h=>by
   have ih:=Ch (P:=P) n;cases c with
   | skip=>exact Fz h
   | ret=>exact Ip h
   | exit id=>exact Fx h
   | label l=>exact Db h
   | goto l=>exact Fy h
   | seq a b =>
     simp only[kR]at h;split at h
     ·rename_i cs ms a' b';refine yA (AW.CV (ih a _ _ st m hm h) fun e st' hm' k=>?_);cases e with
      | normal =>
        obtain⟨hn,q⟩:=bh k;obtain⟨e1,k⟩:=qn q;have hn:st'.n=st.n:=lT hn;intro base ι S ac w _ hr;exact ih b _ Q ⟨st.n,join cs ms st.fr (dy st'.fr ms),st'.h⟩ m hm' k base ι S ac w hm' ⟨hr.df,by rw[←hn];exact hr.sz,hr.fr.join e1,hr.hp⟩
      | _=>exact k
     ·refine yA (AW.CV (ih a _ _ st m hm h) fun e st' hm' k=>?_);cases e with
      | normal=>exact ih b _ Q _ m hm' k
      | _=>exact k
   | block id c=>exact C9 (ih c t.l _ st m hm h)
   | cond c a b =>
     intro base ι S ac w hm' hr;simp only[kR]at h;have other:∀{x:AV},ax ι S w x (ac.eval c)→af x (kR P n a t.l Q st) (kR P n b t.r Q st)→(Code.cond c a b).wp P (cY m base ι S w Q) ac w:=by
      rintro x rx ⟨b',rfl,h1,h2⟩;rw[cE]at rx;cases b' with
      | true=>exact wp_cond_true rx (ih a t.l Q st m hm (h1 rfl) base ι S ac w hm hr)
      | false=>exact wp_cond_false rx (ih b t.r Q st m hm (h2 rfl) base ι S ac w hm hr)
     split at h
     ·rename_i x;have rv:=hr.get x;obtain⟨b',e,h1,h2⟩:=h;rw[e]at rv;have he:ac.eval (.tmp x)=.bool b':=by rw[cE]at rv;exact rv
      cases b' with
      | true=>exact wp_cond_true he (ih a t.l Q ⟨st.n,dQ st.fr x (.v (.bool true)),st.h⟩ m hm (h1 rfl) base ι S ac w hm ⟨hr.df,hr.sz,dd.Cf hr.fr rv,hr.hp⟩)
      | false=>exact wp_cond_false he (ih b t.r Q ⟨st.n,dQ st.fr x (.v (.bool false)),st.h⟩ m hm (h2 rfl) base ι S ac w hm ⟨hr.df,hr.sz,dd.Cf hr.fr rv,hr.hp⟩)
     ·exact other (hr.eval _) h
   | region id ops draw =>
     cases draw with
     | false=>exact fx _ t Q st m hm h
     | true =>
       simp only[kR]at h;split at h
       ·exact Fv hm h
       ·exact Fu hm h
       ·exact fx _ t Q st m hm h
   | loop c =>
     simp only[kR]at h;split at h
     ·rename_i cs ms a;exact Da (cs:=cs) (ms:=ms) hm _ (fun next s h' hl k=>ih c a _ _ st.h.length hl k) h
     ·exact h.elim
   | scope c =>
     simp only[kR]at h;split at h
     ·rename_i l x cs ms _ _;split at h
      ·rename_i rest hl;exact NY (cs:=cs) (ms:=ms) hm hl _ _ (fun next k=>ih c _ _ _ st.h.length (aS _) k) (fun next s h' hle k=>ih rest _ _ _ st.h.length hle k) h
      ·exact h.elim
     ·exact h.elim
   | rangeFunc _ _ _ _=>exact h.elim
   | refuse _=>exact h.elim
theorem vp.Sa{rs:List ResultVar}{F:Nat}(G:vp P f c n rs)(t:An){args:List AV}{h:aa}{K:AV→aa→Prop}(hl:args.length≤n)
 (q:kR P F c t (wH P rs fun r h' => ∃r' h'',Wk h.length [r] h' [r'] h''∧K r' h'') ⟨n,ng args 0,h⟩):cw P f args h K:=by
 obtain⟨fn,hf,hb,hrs,hn,_⟩:=G;subst hrs;intro base ι S w vs h1 h2;have hlen:=h1.length;refine calls_of_wp hf hb (wp_mono (Ch _ _ _ _ _ h.length (aS _) q base ι S _ w (aS _) ⟨rfl,by simp[hn];omega,FI h1 _,h2⟩) ?_);rintro e a' w' ⟨ι',S',st',hE,hm,hr,hq⟩;have fin:yq P st' fn.results.toList (fun l=>∃r' h'',Wk h.length [pJ l] st'.h [r'] h''∧K r' h'')→a'.defers=[]∧∃v,(results fn a'.tmps).run P w'=.ok v w' ∧
  ∃u ι'' S'' r h',Ending.returned v=.returned u∧bM h.length base ι S w ι'' S'' w'∧ax ι'' S'' w' r u∧cy base ι'' S'' w' h'∧h.length≤h'.length∧K r h':=by
  intro hq;obtain⟨l,us,e1,rl,r',h'',⟨wk1,wk2,wk3⟩,k⟩:=oM (P:=P) hr fn.results.toList _ hq;have hv:ax ι' S' w' (pJ l) (if hh:us.length=1 then us[0] else .tuple us.toArray):=by
   have hl:=rl.length
   match l,us,hl,rl with
   | [],[],_,_=>simp only[pJ];rw[ax];exact⟨[],rfl,by simp⟩
   | [x],[u],_,rl=>simp at rl;simpa[pJ]using rl
   | x:: y:: l,u:: v:: us,_,rl=>simp only[pJ];rw[ax];exact⟨u:: v:: us,by simp,rl⟩
  obtain⟨ι2,S2,hE2,hs2,hp2⟩:=wk3 base ι' S' w' [_] ((bL _ _ _ _).2 ⟨hv,by simp⟩) hr.hp;refine⟨hr.df,if hh:us.length=1 then us[0] else .tuple us.toArray, ?_,_,ι2,S2,r',h'',rfl,hE.trans hE2,((bL _ _ _ _).1 hs2).1,hp2,wk1,k⟩;rw[zy,←Array.toArray_toList (xs:=fn.results),List.mapM_toArray];simp only[aaE,Sem.run_map,e1,aaD,aaF]
  by_cases hh:us.length=1<;>simp[hh]
 cases e with
 | normal=>exact fin hq
 | ret=>exact fin hq
 | _=>exact hq.elim
def ej(P:Program)(f:FuncId)(args:List AV)(W:aa→(AV→aa→Prop)→Prop):Prop:=
 ∃F c t n rs,vp P f c n rs∧args.length≤n∧∀h K,kR P F c t (wH P rs K) ⟨n,ng args 0,h⟩=W h K
def mkM{args:List AV}{W:aa→(AV→aa→Prop)→Prop}{fn:Func}(e:P.funcs[f]?=some fn)(t:An)(n:Nat)(rs:List ResultVar)(q:(fn.results.toList,fn.ntmps,cJ P f,fn.body.isSome,Nat.ble args.length n)=(rs,n,true,true,true):=by kernel_rfl)(k:∀h K,kR P 1000 (fn.body.getD .skip) t (wH P rs K) ⟨n,ng args 0,h⟩=W h K:=by intro _ _;kernel_rfl):ej P f args W:=by
 simp only[aak]at q;refine⟨1000,fn.body.getD .skip,t,n,rs,⟨fn,e,?_,q.1,q.2.1,q.2.2.1⟩,nE q.2.2.2.2,k⟩;cases hb:fn.body with
 | none=>rw[hb]at q;cases q.2.2.2.1
 | some c=>rfl
def ej.bR{args:List AV}{W:aa→(AV→aa→Prop)→Prop}(b:ej P f args W){K:AV→aa→Prop}(q:W h fun r h' => ∃r' h'',Wk h.length [r] h' [r'] h''∧K r' h''):cw P f args h K:=
 let ⟨_,_,t,_,_,F,hl,e⟩:=b;F.Sa t hl ((e h _).symm▸q)
def ej.aQ{args:List AV}{W:aa→(AV→aa→Prop)→Prop}(b:ej P f args W)(pa:aq args)(pr:Pure r)(q:W [] (cf r)):aV P f args r:=
 ⟨pa,pr,b.bR q⟩
end
end Go.Aw
namespace Go.Proofs.YtkfakehconamoaaGreatDoor
section
open Go Go.Aw
variable [Laid]
def Vy(c:AV)(h:aa)(K:AV→aa→Prop):Prop:=
 aU c fun I=>qBe .gtr I 1500 fun J=>af J (K (.aw [qNs,i_ 4]) h) (jO 61 1 24 qNs (i_ 1) (i_ 1) h fun L M=>aB 85 qNs M fun a N=>aB 58 qNs N fun b O=>ah 1 a L O fun P=>ah 1 b qNs P fun Q=>aU c fun j=>bc [i_ 0] Q fun R f m =>
 ag .lss (nx f 0) j fun S=>af S (aI (fun o=>au 5 c (nx f 0) fun T=>ae true 5 T m fun U=>aB 83 (.agg [u8 0,.str [],i_ 0,.str [],ff]) m fun g V=>ah 5 g U V fun d=>ae false 1 b d fun W=>aU W fun e=>qBe .gtr e 0 fun p=>aI (fun q=>aL p true (aN 0 g fun r=>ae false 1 r d fun s=>ae false 1 b d fun t=>qBe .sub e 1 fun u=>au 5 t u fun v=>aN 0 v fun w=>ae false 1 w d fun x=>iQ p_ 46 [x] d fun y=>ag .eql s y fun X=>q [r,s,t,e,u,v,w,x,y,X] d) (q [un,un,un,un,un,un,un,un,un,un] d)) fun Y _=>bG p (nx Y 9) ff fun Z=>af Z (bA p_ (.fn (.func 45) [] [b,a]) [] d fun f5 a0=>eC [c,a,b,(.fn (.func 45) [] [b,a]),c,j,nx f 0] (o [] a0)) (iFL 0 false 1 g d fun a1=>iC p_ 46 [a1] d fun a2 k=>ag .neq a2 (u8 0) fun a3=>af a3 (qBe .eql e 16 fun a4=>af a4 (K (.aw [qNs,i_ 20]) k) ((∃d45:Nat,ae false 1 a k fun z=>bz 1 1 qNs [(0,1,qNs)] fun a5=>cG (pQ d45 b) (ae false 1 b k fun a6=>cG (pQ d45 g) (ae true 5 g k fun a7=>bz 1 5 (.agg [u8 0,.str [],i_ 0,.str [],ff]) [(0,5,a7)] fun a8=>cG (uE d45 z) (bN true 61 1 24 z a5 k fun a9 b0=>bN true 83 5 56 a6 a8 b0 fun b1 b2=>ah 1 a a9 b2 fun b3=>ah 1 b b1 b3 fun b4=>eC [c,a,b,(.fn (.func 45) [] [b,a]),c,j,nx f 0] (o [] b4))))))) (aI (fun A=>aB 4 ff k fun l B=>(ah 1 l tt B fun b5=>ah 1 l ff b5 fun C=>ae false 1 l C fun b6=>eC [c,a,b,(.fn (.func 45) [] [b,a]),g,e,c,j,nx f 0] (A [b6] C))∧(ah 1 l ff B fun b7=>ah 1 l tt b7 fun D=>ae false 1 l D fun b8=>eC [c,a,b,(.fn (.func 45) [] [b,a]),g,e,c,j,nx f 0] (A [b8] D))) fun b9 i=>af (nx b9 0) (ae false 1 a i fun E=>au 1 E e fun c0=>ae false 1 c0 i fun F=>ae true 5 g i fun c1=>bf (.agg [u8 0,.str [],i_ 0,.str [],ff,qNs]) [(0,5,c1)] fun c2=>dX F fun c3=>bz 1 6 (.agg [u8 0,.str [],i_ 0,.str [],ff,qNs]) [(0,6,(.agg [u8 0,.str [],i_ 0,.str [],ff,qNs]))] fun c4=>bN true 87 6 80 F c4 i fun G c5=>au 1 E e fun c6=>ah 1 c6 G c5 fun c7=>au 6 G c3 fun c8=>ah 6 c8 c2 c7 fun c9=>eC [c,a,b,(.fn (.func 45) [] [b,a]),c,j,nx f 0] (o [] c9)) ((∃d81:Nat,cG (pQ d81 a) (ae false 1 a i fun d0=>ae false 1 a i fun d1=>au 1 d1 e fun d2=>ae false 1 d2 i fun H=>ae true 5 g i fun d3=>bf (.agg [u8 0,.str [],i_ 0,.str [],ff,qNs]) [(0,5,d3)] fun d4=>bz 1 6 (.agg [u8 0,.str [],i_ 0,.str [],ff,qNs]) [(0,6,d4)] fun d5=>cG (uE d81 H) (bN true 87 6 80 H d5 i fun d6 d7=>au 1 d0 e fun d8=>ah 1 d8 d6 d7 fun d9=>eC [c,a,b,(.fn (.func 45) [] [b,a]),c,j,nx f 0] (o [] d9)))))))) fun f6 e0=>qBe .add (nx f 0) 1 fun e1=>eC [c,a,b,(.fn (.func 45) [] [b,a]),c,j] (R [e1] e0)) (aU c fun e2=>ae false 1 b m fun e3=>aU e3 fun e4=>ag .add e2 e4 fun e5=>qBe .gtr e5 1500 fun e6=>af e6 (K (.aw [qNs,i_ 4]) m) (bc [] m fun e7 f7 n =>
 ae false 1 b n fun e8=>aU e8 fun e9=>qBe .gtr e9 0 fun f0=>af f0 (bA p_ (.fn (.func 45) [] [b,a]) [] n fun f8 f1=>eC [a,b,(.fn (.func 45) [] [b,a])] (e7 [] f1)) (ae false 1 a n fun f2=>au 1 f2 (i_ 0) fun f3=>ae false 1 f3 n fun f4=>K (.aw [f4,i_ 0]) n))))
def ZU(a:AV):ej p_ 29 [a] (Vy a):=mkM Tryz.func29 (sn (sn (sn (sn (.seq (sn (.one (.loop [0,4,5,6,15,16] [17] (sn (sn (.join [0,4,5,6,15,16,17] [] (.one (sn (sn (.one (.seq (.draw 15 (oR 0 3 (.aA 2 true (fR 3 10) [] [51,52,53,54,55,56,57,58,59,60]::oR 13 2 [])) [] []) (.two .nil (sn (.two (sn (.two (.fF [(0,1,false),(1,0,true),(3,3,false),(4,3,false),(5,0,true),(2,4,true),(6,2,true),(7,2,false),(8,2,false)]) .nil)) (.join [0,4,5,6,8,9,15,16,17] [24] (.CN (.one 0 2 false (.two (.one 1 2 false (.one 2 2 false (.one 3 1 false .nil))) (.one 2 2 false (.one 1 2 false (.one 3 1 false .nil)))))) (.two (.seq (.draw 8 (oR 0 7 (.op 7 true::[])) (.op 8 true::oR 9 2 []) []) .nil) (.two (.fF [(0,3,false),(1,0,false),(2,1,false),(3,0,false),(4,0,false),(5,1,false),(6,1,false),(7,0,false),(8,0,true),(9,4,true),(10,0,false),(11,2,false)]) .nil))))))))))) .nil)))))) (sn (.seq (.one (.loop [4,5,6] [] .nil)) .nil))))))) 93 [.tmp 2,.tmp 3]
def VN(e b:AV)(h:aa)(K:AV→aa→Prop):Prop:=
 ae false 1 e h fun p=>aU p fun q=>qBe .sub q 1 fun a=>ae false 1 e h fun r=>au 5 r a fun s=>ae true 5 s h fun t=>ae false 1 b h fun u=>qBe .add a 1 fun v=>au 1 u v fun w=>ae false 1 w h fun x=>bf (.agg [u8 0,.str [],i_ 0,.str [],ff,qNs]) [(0,5,t),(5,1,x)] fun y=>(fun (z:aa)=>ah 6 (AV.op (h.length+1+0) 0) y z fun f=>(∃d14:Nat,ae false 1 b f fun A=>qBe .add a 1 fun B=>iB 1 A none (some B) fun C=>cG (pQ d14 e) (ae false 1 e f fun D=>iB 5 D none (some a) fun E=>cG (wj d14 b) (ah 1 b C f fun F=>ah 1 e E F fun G=>aI (fun g=>aB 4 ff G fun d i=>(ah 1 d tt i fun H=>ah 1 d ff H fun j=>ae false 1 d j fun I=>eC [b,a,(AV.op (h.length+1+0) 0)] (g [I] j))∧(ah 1 d ff i fun J=>ah 1 d tt J fun k=>ae false 1 d k fun L=>eC [b,a,(AV.op (h.length+1+0) 0)] (g [L] k))) fun M c=>af (nx M 0) (ae false 1 b c fun l=>au 1 l a fun N=>ae false 1 N c fun m=>ae true 6 (AV.op (h.length+1+0) 0) c fun O=>dX m fun P=>bz 1 6 (.agg [u8 0,.str [],i_ 0,.str [],ff,qNs]) [(0,6,(.agg [u8 0,.str [],i_ 0,.str [],ff,qNs]))] fun Q=>bN true 87 6 80 m Q c fun n R=>au 1 l a fun S=>ah 1 S n R fun T=>au 6 n P fun U=>ah 6 U O T fun V=>K (.aw []) V) ((∃d45:Nat,cG (pQ d45 b) (ae false 1 b c fun W=>ae false 1 b c fun X=>au 1 X a fun Y=>ae false 1 Y c fun o=>ae true 6 (AV.op (h.length+1+0) 0) c fun Z=>bz 1 6 (.agg [u8 0,.str [],i_ 0,.str [],ff,qNs]) [(0,6,Z)] fun a0=>cG (uE d45 o) (bN true 87 6 80 o a0 c fun a1 a2=>au 1 W a fun a3=>ah 1 a3 a1 a2 fun a4=>K (.aw []) a4)))))))) (h++[.dead]++[.ak ⟨87,[u8 0,.str [],i_ 0,.str [],ff,qNs],true⟩])
def Z9(a b:AV):ej p_ 45 [a,b] (VN a b):=mkM Tryz.func45 (sn (.seq (.HH 11 [10] (fR 0 11) [.op 11 false] []) (.seq (.two (.fF [(0,1,false),(1,0,false),(2,0,false),(3,0,false),(4,3,false),(5,0,false),(6,0,false),(7,4,false),(8,2,false)]) .nil) (.join [1,2,3] [25] (.CN (.one 0 2 false (.two (.one 1 2 false (.one 2 2 false (.one 3 1 false .nil))) (.one 2 2 false (.one 1 2 false (.one 3 1 false .nil)))))) (.two (.seq (.draw 7 (oR 0 6 (.op 6 true::[])) (.op 7 true::oR 8 2 []) []) .nil) (.two (.fF [(0,3,false),(1,0,false),(2,1,false),(3,0,false),(4,0,false),(5,1,false),(6,1,false),(7,0,true),(8,4,true),(9,0,false),(10,2,false)]) .nil)))))) 46 []
def VO(a:AV)(h:aa)(K:AV→aa→Prop):Prop:=
 ag .eql a (u8 2) fun d=>af d (K (u8 22) h) (aI (fun b=>ag .eql a (u8 19) fun e=>af e (eC [a] (b [tt] h)) (ag .eql a (u8 21) fun f=>af f (eC [a] (b [tt] h)) (ag .eql a (u8 23) fun g=>eC [a] (b [g] h)))) fun i c=>af (nx i 0) (ag .add a (u8 1) fun j=>K j c) (K (u8 0) c))
def V46(a:AV):ej p_ 46 [a] (VO a):=mkM Tryz.func46 (sn (.seq (sn (.one (sn (.two .nil (.join [0] [6] .nil .nil))))) .nil)) 12 [.tmp 2]
end
section
open Go Go.Aw Go.Rt Go.RowKit
def nW{p:Nat→Bool}(h:((List.range 256).all p)=true)(c:UInt8):p c.toNat=true:=AT.1 h c.toNat (ID.2 c.toNat_lt)
def oJ(h:i<s.length):pk s i=((aJ s i).toNat:Int):=by
 unfold pk aJ;rw[bY h,nO,bY h];rfl
def C0(h:¬i<s.length):pk s i=-1:=GN (by omega)
def wF(h:¬i<s.length):aJ s i=0:=by unfold aJ;rw[nO,lE (by omega)];rfl
def ib(h:i<s.length):aJ s i=s[i]:=by unfold aJ;rw[nO,bY h];rfl
def zp{p:Int→Bool}{q:UInt8→Bool}(h1:p (-1)=q 0)(h2:((List.range 256).all fun n=>p (n:Int) == q (UInt8.ofNat n))=true)(s:Rt.ao)(i:Nat):p (pk s i)=q (aJ s i):=by
 by_cases h:i<s.length
 ·rw[oJ h];have:=nW h2 (aJ s i);rw[UInt8.ofNat_toNat]at this;exact eq_of_beq this
 ·rw[C0 h,wF h];exact h1
def J5(s:Rt.ao)(i:Nat):ek_ (pk s i)=uQ (aJ s i):=zp (by decide) (by kernel_rfl) s i
def J4(s:Rt.ao)(i:Nat):SV (pk s i)=fN (aJ s i):=zp (by decide) (by kernel_rfl) s i
def tH(s:Rt.ao)(i:Nat):ik (pk s i) 48 57=de (aJ s i):=zp (p:=fun n=>ik n 48 57) (by decide) (by kernel_rfl) s i
def zr(s:Rt.ao)(i:Nat):tM (pk s i)=je (aJ s i):=zp (by decide) (by kernel_rfl) s i
def zq(hc:c≠0)(s:Rt.ao)(i:Nat):(pk s i=(c.toNat:Int))↔aJ s i=c:=by
 by_cases h:i<s.length
 ·rw[oJ h];exact⟨fun e=>UInt8.toNat_inj.1 (by omega),fun e=>by rw[e]⟩
 ·rw[C0 h,wF h];exact⟨fun e=>by omega,fun e=>absurd e.symm hc⟩
def iX:(pk s i=-1)↔¬i<s.length:=by
 by_cases h:i<s.length
 ·rw[oJ h];exact⟨fun e=>by omega,fun e=>absurd h e⟩
 ·rw[C0 h];exact⟨fun _=>h,fun _=>rfl⟩
def yW(hc:c≠0)(s:Rt.ao)(i:Nat):decide (pk s i=(c.toNat:Int))=decide (aJ s i=c):=decide_eq_decide.2 (zq hc s i)
def tm(s:Rt.ao)(i:Nat):vF s i=dP s i:=by
 unfold vF dP;rw[←yW (c:=92) (by decide),←yW (c:=10) (by decide)];rfl
def zi(s:Rt.ao)(i:Nat):uz s i=jz s i:=by
 unfold uz jz;rw[J5,J5,tm,tm];have h1:(pk s i=45)↔aJ s i=45:=zq (c:=45) (by decide) s i;have h2:decide (pk s (i+1)=45)=decide (aJ s (i+1)=45):=yW (c:=45) (by decide) s (i+1);rw[h2]
 by_cases h:aJ s i=45
 ·rw[if_pos h,if_pos (h1.2 h)]
 ·rw[if_neg h,if_neg (fun e=>h (h1.1 e))]
def Td(s:Rt.ao)(i:Nat):Ek s i=lN s i:=by
 unfold Ek lN;have h1:(pk s i=43)↔aJ s i=43:=zq (c:=43) (by decide) s i;have h2:(pk s i=45)↔aJ s i=45:=zq (c:=45) (by decide) s i;have e1:i+(if pk s i=43∨pk s i=45 then 1 else 0)=(if aJ s i=43∨aJ s i=45 then i+1 else i):=by
  by_cases h:aJ s i=43∨aJ s i=45
  ·rw[if_pos h,if_pos (by rw[h1,h2];exact h)]
  ·rw[if_neg h,if_neg (by rw[h1,h2];exact h)];rfl
 simp only[];rw[e1];obtain⟨j,hj⟩:∃j,(if aJ s i=43∨aJ s i=45 then i+1 else i)=j:=⟨_,rfl⟩;rw[hj];have h3:(pk s j=46)↔aJ s j=46:=zq (c:=46) (by decide) s j
 by_cases h:aJ s j=46
 ·rw[if_pos h,if_pos (h3.2 h),←tH]
  congr 2
  rw[←Nat.add_assoc,e1,hj]
 ·rw[if_neg h,if_neg (fun e=>h (h3.1 e)),←tH,e1,hj]
def GR{p:Int→Bool}{q:UInt8→Bool}(h2:((List.range 256).all fun n=>p (n:Int) == q (UInt8.ofNat n))=true)(s:Rt.ao)(i:Nat):lP p s i=((s.drop i).takeWhile q).length:=by
 unfold lP;have:(fun b:UInt8=>p (b.toNat:Int))=q:=by
  funext b
  have:=nW h2 b;rw[UInt8.ofNat_toNat]at this;exact eq_of_beq this
 rw[this]
def Bh(s:Rt.ao)(i:Nat):i+lP (fun n=>ik n 48 57) s i=gm s i:=by unfold gm;rw[GR (q:=de) (by kernel_rfl)]
def GS(s:Rt.ao)(i:Nat):i+lP tM s i=dU s i:=by unfold dU;rw[GR (q:=je) (by kernel_rfl)]
end
section
open Go Go.Aw Go.RowKit
def Gb(n:Nat)(x:AV)(h:aa)(l:ao):Prop:=(l=[]∧x=.v (.slice none 0 0))∨∃tid,n≤tid∧x=.sb tid 1 (xR l)∧h[tid]?=some (.tok 5 1 l.length)
def Gb.eT(g:Gb n x h l)(k:∀i e,n≤i→h[i]?=some (.tok 5 1 e)→h'[i]?=h[i]?):Gb n x h' l:=by
 rcases g with g|⟨t,h1,h2,h3⟩
 ·exact .inl g
 ·exact .inr ⟨t,h1,h2,by rw[k t _ h1 h3];exact h3⟩
def yE{len sz:Nat}{ps:List (Nat×Nat×AV)}{cs:List AV}{K:AV→Prop}(e:dD (eZ len (bl z)) ps=some cs)(q:K (.sl sz (chunks sz len cs))):bz len sz z ps K:=by
 unfold bz;rw[e];exact q
def pd(g:Gb n x h l)(hn:n≤h.length)(hl:l.length+m.length≤2^40)(ey:y=.sl 1 (xR m)){K:AV→aa→Prop}
 (k:∀x' h',Gb n x' h' (l++m)→h.length≤h'.length→(∀i,i<n→h'[i]?=h[i]?)→K x' h'):bN false 5 1 1 x y h K:=by
 subst ey;rcases g with⟨rfl,rfl⟩|⟨t,h1,rfl,h3⟩
 ·unfold bN ep;rw[fT];refine⟨FJ _,⟨by unfold maxLen;simp at hl ⊢;omega,by simp at hl ⊢;omega⟩, ?_⟩;refine k _ _ (.inr ⟨h.length,hn,by simp,by simp⟩) (by simp) fun i hi=>?_;rw[gE (by omega)]
 ·have ht:=(dO.1 h3).1;refine JN (rows:=xR m) (k:=l.length) rfl h3 (by simp) fT (FJ _) ⟨by unfold maxLen;simp;omega,by simp;omega⟩ rfl ?_;refine k _ _ (.inr ⟨t,h1,by simp, ?_⟩) (by simp) fun i hi=>?_
  ·rw[iF ht];simp
  ·rw[iN (by omega)]
def DU{K:AV→Prop}(g:Gb n x h l)(q:K (.str l)):dk x h K:=by
 rcases g with⟨rfl,rfl⟩|⟨t,h1,rfl,h3⟩
 ·exact q
 ·exact R9 rfl q
def gu(n:Nat):ao:=if n<128 then [UInt8.ofNat n] else if n<2048 then [UInt8.ofNat (192+n/64),UInt8.ofNat (128+n%64)] else if (55296≤n∧n≤57343)∨1114111<n then Rt.kz else if n<65536 then [UInt8.ofNat (224+n/4096),UInt8.ofNat (128+n/64%64),UInt8.ofNat (128+n%64)] else [UInt8.ofNat (240+n/262144),UInt8.ofNat (128+n/4096%64),UInt8.ofNat (128+n/64%64),UInt8.ofNat (128+n%64)]
def MJ(n:Nat):gu (if n=0 then 65533 else n)=Rt.rE n:=by
 by_cases h0:n=0
 ·subst h0;rfl
 ·rw[if_neg h0];unfold gu Rt.rE
  by_cases h1:n<128
  ·simp only[if_pos h1,if_neg (show ¬(n=0∨(55296≤n∧n≤57343)∨1114111<n) by omega)]
  ·by_cases h2:n<2048
   ·simp only[if_neg h1,if_pos h2,if_neg (show ¬(n=0∨(55296≤n∧n≤57343)∨1114111<n) by omega)]
   ·by_cases h3:(55296≤n∧n≤57343)∨1114111<n
    ·simp only[if_neg h1,if_neg h2,if_pos h3,if_pos (show n=0∨(55296≤n∧n≤57343)∨1114111<n from .inr h3)]
    ·simp only[if_neg h1,if_neg h2,if_neg h3,if_neg (show ¬(n=0∨(55296≤n∧n≤57343)∨1114111<n) by rintro (e|e);exact h0 e;exact h3 e)]
def cL{k:(List AV→aa→Prop)→Prop}{f:List AV→aa→Prop}(P:List AV→aa→Prop)(q:∀s h,P s h→f s h)(hk:∀F:List AV→aa→Prop,(∀s h,P s h→F s h)→k F):aI k f:=hk f q
def qk(m:Nat):dn .or .u8 128 (dn .and .u8 (IntKind.u8.wrap (m:Int)) 63)=((128+m%64:Nat):Int):=by
 have key:∀c:Fin 256,dn .or .u8 128 (dn .and .u8 ((c.val:Nat):Int) 63)=((128+c.val%64:Nat):Int):=by decide +kernel
 have e:IntKind.u8.wrap (m:Int)=((m%256:Nat):Int):=by rw[IntKind.wrap_u8];omega
 rw[e];have:=key ⟨m%256,Nat.mod_lt _ (by decide)⟩;rw[this];show ((128+m%256%64:Nat):Int)=_;rw[Nat.mod_mod_of_dvd _ (by decide)]
def YE{m:Nat}(h:m<32):dn .or .u8 192 (IntKind.u8.wrap (m:Int))=((192+m:Nat):Int):=by
 have key:∀c:Fin 32,dn .or .u8 192 (IntKind.u8.wrap ((c.val:Nat):Int))=((192+c.val:Nat):Int):=by decide +kernel
 exact key ⟨m,h⟩
def YF{m:Nat}(h:m<16):dn .or .u8 224 (IntKind.u8.wrap (m:Int))=((224+m:Nat):Int):=by
 have key:∀c:Fin 16,dn .or .u8 224 (IntKind.u8.wrap ((c.val:Nat):Int))=((224+c.val:Nat):Int):=by decide +kernel
 exact key ⟨m,h⟩
def YG{m:Nat}(h:m<8):dn .or .u8 240 (IntKind.u8.wrap (m:Int))=((240+m:Nat):Int):=by
 have key:∀c:Fin 8,dn .or .u8 240 (IntKind.u8.wrap ((c.val:Nat):Int))=((240+c.val:Nat):Int):=by decide +kernel
 exact key ⟨m,h⟩
def xK(h:m<256):((UInt8.ofNat m).toNat:Int)=(m:Int):=by rw[UInt8.toNat_ofNat'];omega
def oD{K:AV→Prop}(ex:x=.v (.int k a))(ey:y=.v (.int k b))(q:K (.v (.int k (dn .or k a b)))):ag .or x y K:=by
 subst ex;subst ey;refine⟨rfl, ?_⟩;exact q
def sW{K:AV→Prop}(ex:x=.v (.int k a))(ey:y=.v (.int k b))(q:K (.v (.int k (dn .and k a b)))):ag .and x y K:=by
 subst ex;subst ey;refine⟨rfl, ?_⟩;exact q
def xk{K:AV→Prop}(ex:x=.v (.int k a))(ey:y=.v (.int k' b))(h0:0≤b)(hc:a.fdiv (2^(min b.toNat k.bits))=c)(q:K (.v (.int k c))):ag .shr x y K:=by
 subst ex;subst ey;subst hc;unfold ag;simp only[kp,if_true];exact⟨h0,q⟩
def Ul{K:AV→Prop}(ex:x=.v (.int k a))(ey:y=.v (.int k' b))(h0:0≤b)(hc:k.wrap (a*2^(min b.toNat k.bits))=c)(q:K (.v (.int k c))):ag .shl x y K:=by
 subst ex;subst ey;subst hc;unfold ag;simp only[kp,if_true];exact⟨h0,q⟩
def TR(n:Nat):(n:Int).fdiv (2^(min (6:Int).toNat IntKind.i32.bits))=((n/64:Nat):Int):=by
 show (n:Int).fdiv ((64:Nat):Int)=_;exact Int.ofNat_fdiv n 64 |>.symm
def TQ(n:Nat):(n:Int).fdiv (2^(min (12:Int).toNat IntKind.i32.bits))=((n/4096:Nat):Int):=by
 show (n:Int).fdiv ((4096:Nat):Int)=_;exact Int.ofNat_fdiv n 4096 |>.symm
def Y8(n:Nat):(n:Int).fdiv (2^(min (18:Int).toNat IntKind.i32.bits))=((n/262144:Nat):Int):=by
 show (n:Int).fdiv ((262144:Nat):Int)=_;exact Int.ofNat_fdiv n 262144 |>.symm
def T3{n:Nat}(h:n<2^24):IntKind.u32.wrap (n:Int)=(n:Int):=by simp[IntKind.wrap,IntKind.bits,IntKind.signed];omega
abbrev i32(n:Int):AV:=.v (.int .i32 n)
abbrev u32(n:Int):AV:=.v (.int .u32 n)
variable [Laid]
def Mf{n0:Nat}(g:Gb n0 x h l)(hn:n0≤h.length)(hl:l.length≤2^39){n:Nat}(h0:128≤n)(h1:n<2^24){K:AV→aa→Prop}
 (k:∀x' h',Gb n0 x' h' (l++gu n)→h.length≤h'.length→(∀i,i<n0→h'[i]?=h[i]?)→K x' h'):bA p_ (.fn (.func 256) [] []) [x,i32 n] h K:=by
 refine cu (by kernel_rfl) rfl (K0:=fun r h' => Gb n0 r h' (l++gu n)∧h.length≤h'.length∧(∀i,i<n0→h'[i]?=h[i]?)) ?_ (fun r h' ⟨a,b,c⟩=>k r h' a b c);refine (Yl _ _).bR ?_;unfold RP;have fin:∀(x':AV) (h':aa),Gb n0 x' h' (l++gu n)→h.length≤h'.length→(∀i,i<n0→h'[i]?=h[i]?)→∃r' h'',Wk h.length [x'] h' [r'] h''∧Gb n0 r' h'' (l++gu n)∧h.length≤h''.length∧(∀i,i<n0→h''[i]?=h[i]?):=fun x' h' a b c=>⟨_,_,Wk.refl _ _ _ b,a,b,c⟩;have lost:2048≤n→((55296≤n∧n≤57343)∨1114111<n)→gu n=Rt.kz:=fun a b=>by
  unfold gu;rw[if_neg (by omega),if_neg (by omega),if_pos b]
 refine eD rfl (T3 h1) (zzD ?_)
 by_cases c1:n<2048
 ·have e:gu n=[UInt8.ofNat (192+n/64),UInt8.ofNat (128+n%64)]:=by unfold gu;rw[if_neg (by omega),if_pos c1]
  refine zzL (tO (by omega)) (xk rfl rfl (by decide) (TR n) (eD rfl rfl (oD rfl rfl (eD rfl rfl (sW rfl rfl (oD rfl rfl (yE rfl ?_)))))));refine pd g hn (m:=gu n) (by rw[e];simp;omega) ?_ fin;rw[e];show AV.sl 1 [[u8 _],[u8 _]]=AV.sl 1 [[bS _],[bS _]];rw[YE (by omega),qk,bS,bS,xK (by omega),xK (by omega)]
 ·refine zzK (oF (by omega)) ?_;refine cL (fun t H=>H=h∧nx t 0=b_ (decide (n<55296∨(57343<n∧n≤65535)))) (fun t H ht=>?_) fun F hF=>?_
  ·obtain⟨rfl,ht⟩:=ht;rw[ht]
   by_cases c2:n<55296∨(57343<n∧n≤65535)
   ·have e:gu n=[UInt8.ofNat (224+n/4096),UInt8.ofNat (128+n/64%64),UInt8.ofNat (128+n%64)]:=by unfold gu;rw[if_neg (by omega),if_neg c1,if_neg (by omega),if_pos (by omega)]
    refine zzL (tO c2) (xk rfl rfl (by decide) (TQ n) (eD rfl rfl (oD rfl rfl (xk rfl rfl (by decide) (TR n) (eD rfl rfl (sW rfl rfl (oD rfl rfl (eD rfl rfl (sW rfl rfl (oD rfl rfl (yE rfl ?_)))))))))));refine pd g hn (m:=gu n) (by rw[e];simp;omega) ?_ fin;rw[e];show AV.sl 1 [[u8 _],[u8 _],[u8 _]]=AV.sl 1 [[bS _],[bS _],[bS _]];rw[YF (by omega),qk,qk,bS,bS,bS,xK (by omega),xK (by omega),xK (by omega)]
   ·refine zzK (oF c2) (zzE ?_);have rest:∀b:Bool,b=decide (65535<n∧n≤1114111)→af (b_ b) (ag .shr (i32 n) (.v (.int .u64 18)) fun v41=>cH .u8 v41 fun v42=>ag .or (u8 240) v42 fun v43=>ag .shr (i32 n) (.v (.int .u64 12)) fun v44=>cH .u8 v44 fun v45=>ag .and v45 (u8 63) fun v46=>ag .or (u8 128) v46 fun v47=>ag .shr (i32 n) (.v (.int .u64 6)) fun v48=>cH .u8 v48 fun v49=>ag .and v49 (u8 63) fun v50=>ag .or (u8 128) v50 fun v51=>cH .u8 (i32 n) fun v52=>ag .and v52 (u8 63) fun v53=>ag .or (u8 128) v53 fun v54=>bz 4 1 (u8 0) [(0,1,v43),(1,1,v47),(2,1,v51),(3,1,v54)] fun v55=>bN false 5 1 1 x v55 H fun v56 g57=>∃r' h'',Wk H.length [v56] g57 [r'] h''∧Gb n0 r' h'' (l++gu n)∧H.length≤h''.length∧(∀i,i<n0→h''[i]?=H[i]?)) (bz 3 1 (u8 0) [(0,1,(u8 239)),(1,1,(u8 191)),(2,1,(u8 189))] fun v58=>bN false 5 1 1 x v58 H fun v59 g60=>∃r' h'',Wk H.length [v59] g60 [r'] h''∧Gb n0 r' h'' (l++gu n)∧H.length≤h''.length∧(∀i,i<n0→h''[i]?=H[i]?)):=by
     rintro b rfl
     by_cases c3:65535<n∧n≤1114111
     ·have e:gu n=[UInt8.ofNat (240+n/262144),UInt8.ofNat (128+n/4096%64),UInt8.ofNat (128+n/64%64),UInt8.ofNat (128+n%64)]:=by unfold gu;rw[if_neg (by omega),if_neg c1,if_neg (by omega),if_neg (by omega)]
      refine zzL (tO c3) (xk rfl rfl (by decide) (Y8 n) (eD rfl rfl (oD rfl rfl (xk rfl rfl (by decide) (TQ n) (eD rfl rfl (sW rfl rfl (oD rfl rfl (xk rfl rfl (by decide) (TR n) (eD rfl rfl (sW rfl rfl (oD rfl rfl (eD rfl rfl (sW rfl rfl ?_)))))))))))));refine oD rfl rfl (yE rfl ?_);refine pd g hn (m:=gu n) (by rw[e];simp;omega) ?_ fin;rw[e];show AV.sl 1 [[u8 _],[u8 _],[u8 _],[u8 _]]=AV.sl 1 [[bS _],[bS _],[bS _],[bS _]];rw[YG (by omega),qk,qk,qk,bS,bS,bS,bS,xK (by omega),xK (by omega),xK (by omega),xK (by omega)]
     ·have e:=lost (by omega) (by omega);refine zzK (oF c3) (yE rfl ?_);refine pd g hn (m:=gu n) (by rw[e];unfold Rt.kz;simp;omega) ?_ fin;rw[e];rfl
    refine aK ?_
    by_cases c3:65535<n
    ·refine zzN (tO (by omega)) (zzD (ar (zzR ?_)));exact rest _ (by rw[decide_eq_decide];omega)
    ·refine zzM (oF (by omega)) (ar (bt (by rw[oF (by omega)];rfl) ?_));exact rest false (by rw[eq_comm,decide_eq_false_iff_not];omega)
  ·refine zzC ?_
   by_cases c2:n<55296
   ·refine zzL (tO (by omega)) ?_;refine ar (hF _ _ ⟨rfl, ?_⟩);rw[tO (.inl c2)];rfl
   ·refine zzK (oF (by omega)) (zzC (aK ?_))
    by_cases c3:57343<n
    ·refine zzN (tO (by omega)) (zzD (ar (zzR ?_)));refine ar (hF _ _ ⟨rfl, ?_⟩);exact congrArg Aw.b_ (decide_eq_decide.2 (by omega))
    ·refine zzM (oF (by omega)) (ar (bt (by rw[oF (by omega)];rfl) ?_));refine ar (hF _ _ ⟨rfl, ?_⟩);rw[oF (by omega)];rfl
def Jw{n0:Nat}(g:Gb n0 x h l)(hn:n0≤h.length)(hl:l.length≤2^39){n:Nat}(h1:n<2^24){K:AV→aa→Prop}
 (k:∀x' h',Gb n0 x' h' (l++gu n)→h.length≤h'.length→(∀i,i<n0→h'[i]?=h[i]?)→K x' h'):bA p_ (.fn (.func 200) [] []) [x,i32 n] h K:=by
 refine cu (by kernel_rfl) rfl (K0:=fun r h' => Gb n0 r h' (l++gu n)∧h.length≤h'.length∧(∀i,i<n0→h'[i]?=h[i]?)) ?_ (fun r h' ⟨a,b,c⟩=>k r h' a b c);refine (XZ _ _).bR ?_;unfold Rq;refine eD rfl (T3 h1) (zzD ?_)
 by_cases c1:n<128
 ·have e:gu n=[UInt8.ofNat n]:=by unfold gu;rw[if_pos c1]
  refine zzL (tO (by omega)) (eD (m:=(n:Int)) rfl (by rw[IntKind.wrap_u8];omega) (yE rfl ?_));refine pd g hn (m:=gu n) (by rw[e];simp;omega) ?_ fun x' h' a b c=>⟨_,_,Wk.refl _ _ _ b,a,b,c⟩;rw[e];show AV.sl 1 [[u8 _]]=AV.sl 1 [[bS _]];rw[bS,xK (by omega)]
 ·refine zzK (oF (by omega)) ?_;exact Mf g hn hl (by omega) h1 fun x' h' a b c=>⟨_,_,Wk.refl _ _ _ b,a,b,c⟩
end
section
open Go Go.Aw Go.RowKit
structure Mw(id:Nat)(s:ao)(a:Nat)(h H:aa):Prop where
 len:h.length≤H.length
 sc:Sc id H s a
 im:∀i,i<h.length→i≠id→H[i]?=h[i]?
def Mw.mv{id a:Nat}(hid:id<h.length)(m:Mw id s a h H):Mv id s a h H:=by
 refine⟨H.drop h.length,List.ext_getElem? fun i=>?_⟩
 by_cases q:i<h.length
 ·rw[gE (by simpa using q)]
  by_cases q2:i=id
  ·subst q2;rw[iF q];exact m.sc
  ·rw[iN (Ne.symm q2)];exact m.im i q q2
 ·rw[iD (by simp;omega),aag]
  congr 1;simp;omega
def Mw.refl{id a:Nat}(sc:Sc id h s a):Mw id s a h h:=⟨aS _,sc,fun _ _ _=>rfl⟩
def Mw.trans{id a b:Nat}(x:Mw id s a h H)(y:Mw id s b H H2):Mw id s b h H2:=⟨aat x.len y.len,y.sc,fun i hi hn=>by rw[y.im i (UP hi x.len) hn,x.im i hi hn]⟩
def Mw.ext{id a:Nat}(x:Mw id s a h H)(hid:id<h.length)(hl:H.length≤H2.length)(k:∀i,i<h.length→H2[i]?=H[i]?):Mw id s a h H2:=⟨aat x.len hl,by unfold Sc;rw[k id hid];exact x.sc,fun i hi hn=>by rw[k i hi,x.im i hi hn]⟩
def Mw.pre{id a:Nat}(x:Mw id s a (h++j) H):Mw id s a h H:=⟨aat (by simp) x.len,x.sc,fun i hi hn=>by rw[x.im i (by simp;omega) hn,gE hi]⟩
def Mw.set{id a:Nat}(x:Mw id s a h H)(b:Nat):Mw id s b h (H.set id (dB s b)):=⟨by simpa using x.len,iF x.sc.lt,fun i hi hn=>by rw[iN (Ne.symm hn),x.im i hi hn]⟩
def Gb.mv{n id b a0:Nat}(g:Gb n x H l)(hid:id<n)(sc:Sc id H s a0):Gb n x (H.set id (dB s b)) l:=g.eT fun i e hi _=>by rw[iN (by omega)]
def iU[Laid]{id:Nat}(sc:Sc id H s a)(ha:a≤2^40)(ex:x=.op id 0){K:aa→Prop}(k:K (H.set id (dB s (a+1)))):ca P x fun v1=>aN 1 v1 fun v2=>ae false 1 v2 H fun v3=>ag .add v3 (i_ 1) fun v4=>ca P x fun v5=>aN 1 v5 fun v6=>ah 1 v6 v4 H fun g7=>K g7:=by
 subst ex;refine bD (zzA (zzU sc rfl (zzP (by unfold aZ;omega) (bD (zzA ?_)))));refine aM (cs:=[i_ ((a:Int)+1)]) (h':=H.set id (dB s (a+1))) rfl sc rfl rfl (by simp) rfl rfl ?_ k;show _=List.set H id (.ak ⟨126,[.str s,i_ ((a+1:Nat):Int)],true⟩);rw[show ((a+1:Nat):Int)=(a:Int)+1 by omega];rfl
def Am(n:Int):Int:=if ik n 48 57=true then n-48 else if n≠-1∧ik (dn .or .i64 n 32) 97 102=true∧64<n∧n<128 then dn .or .i64 n 32-97+10 else -1
def Tm(s:ao)(i:Nat):Am (pk s i)=Rt.gK (Rt.aJ s i):=by
 have h2:((List.range 256).all fun n=>Am (n:Int) == Rt.gK (UInt8.ofNat n))=true:=by kernel_rfl
 by_cases h:i<s.length
 ·rw[oJ h];have:=nW h2 (Rt.aJ s i);rw[UInt8.ofNat_toNat]at this;exact eq_of_beq this
 ·rw[C0 h,wF h];rfl
def Sx(c:UInt8):Rt.gK c<16:=by
 have h2:((List.range 256).all fun n=>decide (Rt.gK (UInt8.ofNat n)<16))=true:=by kernel_rfl
 have:=nW h2 c;rw[UInt8.ofNat_toNat]at this;exact uP this
variable [Laid]
def LD(n:Int)(h1:-1≤n)(h2:n<256):aV p_ 201 [i_ n] (i_ (Am n)):=by
 refine (X0 _).aQ (by simp) (by simp) ?_;unfold Rr;refine uCon (mJ n) ?_;cases c1:ik n 48 57 with
 | true =>
   refine zzL rfl ?_;have:48≤n:=by unfold ik at c1;simp at c1;omega
   refine zzf (by unfold aZ;omega) ?_;exact .pure (by simp) (by unfold Am;rw[if_pos c1])
 | false =>
   refine zzK rfl ?_;have hb:∀n:Int,-1≤n→n<256→-1≤dn .or .i64 n 32∧dn .or .i64 n 32<512:=by
    have key:∀c:Fin 257,-1≤dn .or .i64 (((c.val:Nat):Int)-1) 32∧dn .or .i64 (((c.val:Nat):Int)-1) 32<512:=by decide +kernel
    intro n h1 h2;have:=key ⟨(n+1).toNat,by omega⟩
    rwa [show (((n+1).toNat:Nat):Int)-1=n by omega]at this
   obtain⟨b1,b2⟩:=hb n h1 h2;refine zzH ?_;refine cL (fun t H=>H=[]∧((nx t 0=ff∧n=-1)∨(nx t 0=tt∧nx t 1=b_ (ik (dn .or .i64 n 32) 97 102)∧n≠-1))) (fun t H ht=>?_) fun F hF=>?_;rotate_left
   ·by_cases q:n=-1
    ·refine zzM (by simp[q]) ?_;exact ar (hF _ _ ⟨rfl,.inl ⟨by rw[tO q];rfl,q⟩⟩)
    ·refine zzN (by rw[oF q];rfl) (M8 rfl rfl (uCon (oG _ _ _) ?_));exact ar (hF _ _ ⟨rfl,.inr ⟨rfl,rfl,q⟩⟩)
   obtain⟨rfl,ht⟩:=ht;obtain⟨b,hb1,hb2⟩:∃b:Bool,(∀K:AV→Prop,K (b_ b)→bG (nx t 0) (nx t 1) ff K)∧b=decide (n≠-1∧ik (dn .or .i64 n 32) 97 102=true):=by
    rcases ht with⟨h1,h2⟩|⟨h1,h2,h3⟩
    ·exact⟨false,fun K q=>bt h1 q,by simp[h2]⟩
    ·exact⟨ik (dn .or .i64 n 32) 97 102,fun K q=>bu h1 (by rw[h2];exact q),by simp[h3]⟩
   refine hb1 _ ?_;refine cL (fun t H=>H=[]∧((nx t 0=ff∧b=false)∨(nx t 0=tt∧nx t 1=Aw.b_ (decide (64<n))∧b=true))) (fun t H ht=>?_) fun F hF=>?_;rotate_left
   ·cases hbb:b with
    | false=>exact zzM rfl (ar (hF _ _ ⟨rfl,.inl ⟨rfl,hbb⟩⟩))
    | true =>
      refine zzN rfl (zzE ?_);exact ar (hF _ _ ⟨rfl,.inr ⟨rfl,rfl,hbb⟩⟩)
   obtain⟨rfl,ht⟩:=ht;obtain⟨c,hc1,hc2⟩:∃c:Bool,(∀K:AV→Prop,K (b_ c)→bG (nx t 0) (nx t 1) ff K)∧c=(b&&decide (64<n)):=by
    rcases ht with⟨h1,h2⟩|⟨h1,h2,h3⟩
    ·exact⟨false,fun K q=>bt h1 q,by simp[h2]⟩
    ·exact⟨decide (64<n),fun K q=>bu h1 (by rw[h2];exact q),by simp[h3]⟩
   refine hc1 _ ?_;refine cL (fun t H=>H=[]∧((nx t 0=ff∧c=false)∨(nx t 0=tt∧nx t 1=Aw.b_ (decide (n<128))∧c=true))) (fun t H ht=>?_) fun F hF=>?_;rotate_left
   ·cases hcc:c with
    | false=>exact zzM rfl (ar (hF _ _ ⟨rfl,.inl ⟨rfl,hcc⟩⟩))
    | true =>
      refine zzN rfl (zzC ?_);exact ar (hF _ _ ⟨rfl,.inr ⟨rfl,rfl,hcc⟩⟩)
   obtain⟨rfl,ht⟩:=ht;obtain⟨d,hd1,hd2⟩:∃d:Bool,(∀K:AV→Prop,K (b_ d)→bG (nx t 0) (nx t 1) ff K)∧d=(c&&decide (n<128)):=by
    rcases ht with⟨h1,h2⟩|⟨h1,h2,h3⟩
    ·exact⟨false,fun K q=>bt h1 q,by simp[h2]⟩
    ·exact⟨decide (n<128),fun K q=>bu h1 (by rw[h2];exact q),by simp[h3]⟩
   refine hd1 _ ?_;have e:d=decide (n≠-1∧ik (dn .or .i64 n 32) 97 102=true∧64<n∧n<128):=by
    rw[hd2,hc2,hb2,Bool.eq_iff_iff];simp only[On,OF,and_assoc]
   by_cases q:n≠-1∧ik (dn .or .i64 n 32) 97 102=true∧64<n∧n<128
   ·refine zzL (by rw[e];exact tO q) (M8 rfl rfl (zzf (by unfold aZ;omega) (zzP (by unfold aZ;omega) ?_)));exact .pure (by simp) (by unfold Am;rw[if_neg (by rw[c1];decide),if_pos q])
   ·refine zzK (by rw[e];exact oF q) ?_;exact .pure (by simp) (by unfold Am;rw[if_neg (by rw[c1];decide),if_neg q])
def KO{K:AV→aa→Prop}(q:K (i_ (Rt.gK (Rt.aJ s i))) H):bA p_ (.fn (.func 201) [] []) [i_ (pk s i)] H K:=by
 refine uCon (LD _ (UM s i) (UN s i)) ?_;rw[Tm];exact q
end
section
open Go Go.Aw Go.RowKit
theorem Gk(s:ao):∀k i n,(Rt.ju s k i n).2≤i+k
 | 0,i,n=>aS _
 | k+1,i,n=>by
   rw[Rt.ju];split
   ·split
    ·have:=Gk s k (i+1) (16*n+(Rt.gK ‹_›).toNat);omega
    ·simp
   ·simp
def Sd{n d:Nat}(hn:n<2^28)(hd:d<16):dn .or .i64 ((16*n:Nat):Int) (d:Int)=((16*n+d:Nat):Int):=by
 have e1:(BitVec.ofInt 64 ((16*n:Nat):Int)).toNat=16*n:=by rw[BitVec.toNat_ofInt];omega
 have e2:(BitVec.ofInt 64 ((d:Nat):Int)).toNat=d:=by rw[BitVec.toNat_ofInt];omega
 have e3:(16*n) ||| d=16*n+d:=by
  have:=Nat.shiftLeft_add_eq_or_of_lt (i:=4) (b:=d) (by omega) n;rw[Nat.shiftLeft_eq]at this;rw[Nat.mul_comm 16 n];exact this.symm
 show IntKind.i64.wrap ((BitVec.ofInt 64 ((16*n:Nat):Int) ||| BitVec.ofInt 64 ((d:Nat):Int)).toNat:Int)=_;rw[BitVec.toNat_or,e1,e2,e3,IntKind.wrap_i64];omega
def ko(ha:a<s.length):(Rt.cP s a).2≤s.length:=by
 unfold Rt.cP;split
 ·omega
 ·rename_i c hc;have hlt:=(dO.1 hc).1;split
  ·dsimp only;omega
  ·have key:∀k i n,i≤s.length→(Rt.ju s k i n).2≤s.length:=by
    intro k;induction k with
    | zero=>intro i n hi;exact hi
    | succ k ih =>
      intro i n hi;rw[Rt.ju];split
      ·rename_i c2 hc2;have:=(dO.1 hc2).1;split
       ·exact ih _ _ (by omega)
       ·exact hi
      ·exact hi
   have h6:=key 6 (a+1) 0 (by omega);dsimp only;split
   ·rename_i hs;have:(Rt.ju s 6 (a+1) 0).2<s.length:=by
     by_cases z:(Rt.ju s 6 (a+1) 0).2<s.length
     ·exact z
     ·rw[wF z]at hs;exact absurd hs (by decide)
    omega
   ·exact h6
def oe(s:ao):∀n i,s.length-i≤n→i≤s.length→i≤(Rt.cW s i).2∧(Rt.cW s i).2≤s.length:=by
 intro n;induction n with
 | zero =>
   intro i hi h2;rw[Rt.cW,dif_neg (by omega)];exact⟨aS _,h2⟩
 | succ n ih =>
   intro i hi h2;rw[Rt.cW];split
   ·rename_i h;split
    ·have:=ih (i+1) (by omega) h;dsimp only;omega
    ·split
     ·have h1:=Rt.fw s i;have:=ih (Rt.cP s i).2 (by omega) (ko h);dsimp only;omega
     ·exact⟨aS _,h2⟩
   ·exact⟨aS _,h2⟩
variable [Laid]
theorem sd{id a:Nat}{K:AV→aa→Prop}(m:Mw id s a h H)(hid:id<h.length)(ey:y=.op id 0)(g:Gb h.length x H l)(hs:s.length≤2^20)(hl:l.length≤2^30)(ha:a<s.length)
 (k:∀z H',Mw id s (Rt.cP s a).2 h H'→Gb h.length z H' (l++(Rt.cP s a).1)→K z H'):bA p_ (.fn (.func 143) [] []) [y,x] H K:=by
 subst ey;refine cu (by kernel_rfl) rfl (K0:=fun r H' => Mw id s (Rt.cP s a).2 h H'∧Gb h.length r H' (l++(Rt.cP s a).1)) ?_ (fun r h' ⟨a,b⟩=>k r h' a b);refine (Xt _ _).bR ?_;unfold QR;have hH:=m.len;have fin:∀(z:AV) (H':aa),H.length≤H'.length→Mw id s (Rt.cP s a).2 h H'→Gb h.length z H' (l++(Rt.cP s a).1)→∃r' h'',Wk H.length [z] H' [r'] h''∧Mw id s (Rt.cP s a).2 h h''∧Gb h.length r' h'' (l++(Rt.cP s a).1):=fun z H' c a b=>⟨_,_,Wk.refl _ _ _ c,a,b⟩;refine iU m.sc (by omega) rfl ?_;have m1:=m.set (a+1);have g1:=g.mv (s:=s) (b:=a+1) hid m.sc;refine cZ 0 m1.sc rfl rfl (by omega) ?_;rw[Nat.add_zero];refine zzG ?_;have hL1:h.length≤(H.set id (dB s (a+1))).length:=by simpa using hH
 by_cases q:a+1<s.length
 ·have e1:s[a+1]?=some s[a+1]:=bY q;have hat:=ib q;refine zzK (oF (by rw[iX];simpa using q)) (KO (zzC ?_))
  by_cases q2:Rt.gK s[a+1]<0
  ·have ee:Rt.cP s a=([s[a+1]],a+2):=by unfold Rt.cP;rw[e1];simp only[if_pos q2]
   refine zzL (by rw[hat];exact tO q2) (iU m1.sc (by omega) rfl ?_);rw[aam];refine eD (m:=(s[a+1].toNat:Int)) rfl (by rw[oJ q,hat,IntKind.wrap_u8];have:=s[a+1].toNat_lt;omega) (ER ?_);refine pd (n:=h.length) (l:=l) (m:=[s[a+1]]) (g.mv (s:=s) (b:=a+1+1) hid m.sc) (by simpa using hH) (by simp;omega) rfl fun z H' gz hz oz=>?_;refine fin z H' (by simpa using hz) ?_ (by rw[ee];exact gz);rw[ee];exact (m.set (a+2)).ext hid hz oz
  ·obtain⟨R,hR⟩:∃R,Rt.ju s 6 (a+1) 0=R:=⟨_,rfl⟩;have ee:Rt.cP s a=(Rt.rE R.1,if Rt.je (Rt.aJ s R.2)=true then R.2+1 else R.2):=by unfold Rt.cP;rw[e1];simp only[if_neg q2,hR]
   have hRl:R.2≤a+7:=by rw[←hR];have:=Gk s 6 (a+1) 0;omega
   refine zzK (by rw[hat];exact oF q2) ?_;refine cL (fun t T=>nx t 0=i_ R.1∧T=H.set id (dB s R.2)∧R.1<16^6) (fun t T ht=>?_) fun F hF=>?_
   ·obtain⟨ht,rfl,hb⟩:=ht;have m2:=m.set R.2;refine cL (fun _ T=>T=H.set id (dB s (Rt.cP s a).2)) (fun _ T hT=>?_) fun F hF=>?_
    ·subst hT;rw[ht];refine cL (fun t T=>nx t 0=i_ ((if R.1=0 then 65533 else R.1:Nat):Int)∧T=H.set id (dB s (Rt.cP s a).2)) (fun t T hT=>?_) fun F hF=>?_
     ·obtain⟨ht2,rfl⟩:=hT;rw[ht2];have hb2:(if R.1=0 then 65533 else R.1)<2^24:=by split<;>omega
      refine eD (m:=((if R.1=0 then 65533 else R.1:Nat):Int)) rfl (by simp[IntKind.wrap,IntKind.bits,IntKind.signed];split<;>omega) ?_;refine Jw (n0:=h.length) (g.mv (s:=s) (b:=(Rt.cP s a).2) hid m.sc) (by simpa using hH) (by omega) hb2 fun z H' gz hz oz=>?_;refine fin z H' (by simpa using hz) ((m.set _).ext hid hz oz) ?_;rw[MJ]at gz;rw[show (Rt.cP s a).1=Rt.rE R.1 by rw[ee]];exact gz
     ·refine zzG ?_
      by_cases z:R.1=0
      ·refine zzL (tO (by omega)) ?_;exact ar (hF _ _ ⟨by rw[if_pos z];rfl,rfl⟩)
      ·refine zzK (oF (by omega)) ?_;exact ar (hF _ _ ⟨by rw[if_neg z];rfl,rfl⟩)
    ·refine cZ 0 m2.sc rfl rfl (by omega) ?_;rw[Nat.add_zero];refine uCon (rQ _) ?_;rw[zr];cases z:Rt.je (Rt.aJ s R.2) with
     | true =>
       refine zzL rfl (iU m2.sc (by omega) rfl ?_);refine ar (hF _ _ ?_);rw[aam,ee];simp only[z,if_true]
     | false =>
       refine zzK rfl ?_;refine ar (hF _ _ ?_);rw[ee];simp only[z,aaj,if_false]
   ·refine aG (α:=Nat×Nat) (fun p=>p.1≤6∧p.2<16^p.1∧Rt.ju s (6-p.1) (a+1+p.1) p.2=R) (fun p=>[i_ p.2,i_ p.1]) (fun p=>H.set id (dB s (a+1+p.1))) (fun p=>6-p.1) (0,0) ⟨by omega,by decide,hR⟩ (Wk.refl _ _ _ (by simp)) ?_;rintro⟨j,n⟩ ⟨hj,hn,hr⟩;dsimp only at hj hn hr ⊢;have m2:=m.set (a+1+j);have hn28:n<2^28:=UP hn (aat (Nat.pow_le_pow_right (by decide) hj) (by decide));have hn6:n<16^6:=UP hn (Nat.pow_le_pow_right (by decide) hj);refine zzC ?_
    by_cases c:j<6
    ·refine zzL (tO (by omega)) (cZ 0 m2.sc rfl rfl (by omega) ?_);rw[Nat.add_zero];refine KO (zzC ?_);have e6:6-j=(5-j)+1:=by omega
     rw[e6,Rt.ju]at hr;have stop:Rt.gK (Rt.aJ s (a+1+j))<0→R=(n,a+1+j):=fun z=>by
      cases z2:s[a+1+j]? with
      | none=>rw[z2]at hr;exact hr.symm
      | some c =>
        rw[z2]at hr;have:Rt.aJ s (a+1+j)=c:=by unfold Rt.aJ;rw[nO,z2];rfl
        rw[this]at z;simp only[if_neg (show ¬0≤Rt.gK c by omega)]at hr;exact hr.symm
     by_cases z:Rt.gK (Rt.aJ s (a+1+j))<0
     ·refine zzL (tO z) ?_;obtain rfl:=stop z;exact ar (hF _ _ ⟨rfl,rfl,hn6⟩)
     ·refine zzK (oF z) ?_;obtain⟨d,hd⟩:∃d:Nat,Rt.gK (Rt.aJ s (a+1+j))=(d:Int):=⟨(Rt.gK (Rt.aJ s (a+1+j))).toNat,by omega⟩;have hd16:d<16:=by have:=Sx (Rt.aJ s (a+1+j));omega
      rw[hd];have hnx:Rt.ju s (5-j) (a+1+(j+1)) (16*n+d)=R:=by
       cases z2:s[a+1+j]? with
       | none =>
         exfalso;have:Rt.aJ s (a+1+j)=0:=by unfold Rt.aJ;rw[nO,z2];rfl
         rw[this]at hd;have:Rt.gK 0=-1:=by decide
         omega
       | some c =>
         rw[z2]at hr;have:Rt.aJ s (a+1+j)=c:=by unfold Rt.aJ;rw[nO,z2];rfl
         rw[this]at hd;simp only[if_pos (show 0≤Rt.gK c by omega)]at hr;rw[hd]at hr;exact hr
      refine Ul (c:=((16*n:Nat):Int)) rfl rfl (by decide) ?_ ?_
      ·show IntKind.i64.wrap ((n:Int)*16)=_;rw[IntKind.wrap_i64];omega
      refine oD rfl rfl ?_;rw[Sd hn28 hd16];refine iU m2.sc (by omega) rfl ?_;rw[aam];refine zzP (by unfold aZ;omega) ?_;refine ar ⟨(j+1,16*n+d),⟨c, ?_, ?_⟩,Wk.refl _ _ _ (by simp),by dsimp only;omega⟩
      ·dsimp only;rw[Nat.pow_succ];omega
      ·dsimp only;rw[show 6-(j+1)=5-j by omega];exact hnx
    ·refine zzK (oF (by omega)) ?_;obtain rfl:j=6:=by omega
     rw[show 6-6=0 from rfl,Rt.ju]at hr;subst hr;exact ar (hF _ _ ⟨rfl,rfl,hn6⟩)
 ·have ee:Rt.cP s a=(Rt.kz,a+1):=by unfold Rt.cP;rw[lE (by omega)]
  refine zzL (tO (by rw[iX];exact q)) ?_;refine Jw (n0:=h.length) (n:=65533) g1 (by simpa using hH) (by omega) (by decide) fun z H' gz hz oz=>?_;refine fin z H' (by simpa using hz) ?_ (by rw[ee];exact gz);rw[ee];exact m1.ext hid hz oz
theorem wV{id a:Nat}{K:AV→aa→Prop}(sc:Sc id h s a)(ey:y=.op id 0)(hs:s.length≤2^20)(ha:a≤s.length)
 (k:∀H,Mw id s (Rt.cW s a).2 h H→K (.str (Rt.cW s a).1) H):bA p_ (.fn (.func 93) [] []) [y] h K:=by
 subst ey;have hid:=sc.lt;refine cu (by kernel_rfl) rfl (K0:=fun r H=>r=.str (Rt.cW s a).1∧Mw id s (Rt.cW s a).2 h H) ?_ (by rintro r H ⟨rfl,m⟩;exact k H m);refine (V93 _).bR ?_;unfold WC;obtain⟨R,hR⟩:∃R,Rt.cW s a=R:=⟨_,rfl⟩;rw[hR];refine aG (α:=Nat×AV×aa×ao) (fun p=>p.1≤s.length∧Mw id s p.1 h p.2.2.1∧Gb h.length p.2.1 p.2.2.1 p.2.2.2∧p.2.2.2.length≤4*p.1∧(p.2.2.2++(Rt.cW s p.1).1,(Rt.cW s p.1).2)=R) (fun p=>[p.2.1]) (fun p=>p.2.2.1) (fun p=>s.length-p.1) (a,.v (.slice none 0 0),h,[]) ⟨ha,Mw.refl sc,.inl ⟨rfl,rfl⟩,by simp,by simpa using hR⟩ (Wk.refl _ _ _ (aS _)) ?_;rintro⟨i,x,H,l⟩ ⟨hi,m,g,hl,hr⟩;dsimp only at hi m g hl hr ⊢;have hH:=m.len;refine cZ 0 m.sc rfl rfl (by omega) ?_;rw[Nat.add_zero];refine uCon (yP _) ?_;show af (b_ (SV (pk s i))) _ _;rw[J4];rw[Rt.cW]at hr;cases c:Rt.fN (Rt.aJ s i) with
 | true =>
   have hlt:i<s.length:=by
    by_cases z:i<s.length
    ·exact z
    ·rw[wF z]at c;exact absurd c (by decide)
   have hat:=ib hlt;rw[hat]at c;simp only[dif_pos hlt,if_pos c]at hr;refine zzL rfl (eD (m:=(s[i].toNat:Int)) rfl (by rw[oJ hlt,hat,IntKind.wrap_u8];have:=s[i].toNat_lt;omega) (ER ?_));refine pd (n:=h.length) (l:=l) (m:=[s[i]]) g hH (by simp;omega) rfl fun z H' gz hz oz=>?_;have m2:=m.ext hid hz oz;refine iU m2.sc (by omega) rfl ?_;refine ar ⟨(i+1,z,H'.set id (dB s (i+1)),l++[s[i]]),⟨hlt,m2.set _,gz.mv hid m2.sc,by simp;omega,by rw[TO];exact hr⟩,Wk.refl _ _ _ (by simpa using m2.len),by dsimp only;omega⟩
 | false =>
   refine zzK rfl (zzH ?_);refine cL (fun t T=>T=H∧((nx t 0=ff∧¬i<s.length)∨(nx t 0=tt∧nx t 1=b_ (Rt.dP s i)∧i<s.length))) (fun t T ht=>?_) fun F hF=>?_
   ·obtain⟨rfl,ht⟩:=ht;have hend:(¬i<s.length∨Rt.dP s i=false)→R=(l,i):=fun z=>by
     by_cases z1:i<s.length
     ·have z2:=z.resolve_left (by simpa using z1);rw[ib z1]at c;simp only[dif_pos z1,c,z2,aaj,if_false]at hr;rw[←hr];simp
     ·simp only[dif_neg z1]at hr;rw[←hr];simp
    have stop:R=(l,i)→dk x T fun v28=>∃r' h'',Wk h.length [v28] T [r'] h''∧r'=.str R.1∧Mw id s R.2 h h'':=fun z=>by
     subst z;exact DU g ⟨_,_,Wk.refl _ _ _ hH,rfl,m⟩
    rcases ht with⟨t1,t2⟩|⟨t1,t2,t3⟩
    ·rw[t1];refine zzQ ?_;exact zzK rfl (stop (hend (.inl t2)))
    ·rw[t1,t2];refine zzR ?_;cases z:Rt.dP s i with
     | false=>exact zzK rfl (stop (hend (.inr z)))
     | true =>
       rw[ib t3]at c;simp only[dif_pos t3,c,z,aaj,if_false,if_true]at hr;refine zzL rfl ?_;have h1:=Rt.fw s i;have h2:(Rt.cP s i).1.length≤4:=by
        unfold Rt.cP;split
        ·simp[Rt.kz]
        ·split
         ·simp
         ·simp only[Rt.rE];repeat' split
          all_goals simp[Rt.kz]
       refine sd m hid rfl g hs (by omega) t3 fun z H' mz gz=>?_;refine ar ⟨((Rt.cP s i).2,z,H',l++(Rt.cP s i).1),⟨ko t3,mz,gz,by simp;omega,by rw[TO];exact hr⟩,Wk.refl _ _ _ mz.len,by dsimp only;omega⟩
   ·by_cases z:i<s.length
    ·refine zzN (by rw[oF (by rw[iX];simpa using z)];rfl) (wU 0 m.sc rfl rfl (by omega) ?_);rw[Nat.add_zero,tm];exact ar (hF _ _ ⟨rfl,.inr ⟨rfl,rfl,z⟩⟩)
    ·refine zzM (by rw[tO (iX.2 z)]) ?_;refine ar (hF _ _ ⟨rfl,.inl ⟨?_,z⟩⟩);rw[tO (iX.2 z)];rfl
end
section
open Go.Shelf
theorem uSo4{α:Type}{a b:α}(h:a=b:=by kernel_rfl):some a=some b:=congrArg some h
def lays143_ren:Go.Shelf.Ren:=⟨fun|143=>85|219=>142|217=>150|225=>197|224=>198|267=>199|266=>207|314=>255|n=>n,fun|9=>9|3=>3|4=>4|5=>5|46=>240|146=>289|51=>191|n=>n,fun|1=>0|n=>n⟩
theorem lays143:Go.Proofs.Lays.n143 p_ lays143_ren:={
 mixed:=by kernel_rfl
 f143:=Tryz.func85.trans uSo4
 f217:=Tryz.func150.trans uSo4
 f219:=Tryz.func142.trans uSo4
 f224:=Tryz.func198.trans uSo4
 f225:=Tryz.func197.trans uSo4
 f266:=Tryz.func207.trans uSo4
 f267:=Tryz.func199.trans uSo4
 f314:=Tryz.func255.trans uSo4
 t3:=Tryz.underlying3
 a3:=Tryz.isAgg3
 z3:=Tryz.sizeOf3
 v3:=Tryz.zeroValue3
 t4:=Tryz.underlying4
 a4:=Tryz.isAgg4
 z4:=Tryz.sizeOf4
 v4:=Tryz.zeroValue4
 t5:=Tryz.underlying5
 a5:=Tryz.isAgg5
 z5:=Tryz.sizeOf5
 v5:=Tryz.zeroValue5
 t9:=Tryz.underlying9
 a9:=Tryz.isAgg9
 z9:=Tryz.sizeOf9
 v9:=Tryz.zeroValue9
 t46:=Tryz.underlying240
 a46:=Tryz.isAgg240
 z46:=Tryz.sizeOf240
 v46:=Tryz.zeroValue240
 t51:=Tryz.underlying191
 a51:=Tryz.isAgg191
 z51:=Tryz.sizeOf191
 v51:=Tryz.zeroValue191
 t146:=Tryz.underlying289
 a146:=Tryz.isAgg289
 z146:=Tryz.sizeOf289
 v146:=Tryz.zeroValue289
 g1:=by kernel_rfl }
def laysM143_ren:Go.Shelf.Ren:=⟨fun|143=>85|219=>142|217=>150|225=>197|224=>198|267=>199|266=>207|314=>255|n=>n,fun|9=>9|3=>3|4=>4|5=>5|46=>240|146=>289|51=>191|n=>n,fun|1=>0|n=>n⟩
theorem laysM143:Go.Proofs.LaysM.n143 p_ laysM143_ren:={
 mixed:=by kernel_rfl
 f143:=Tryz.func85.trans uSo4
 f217:=Tryz.func150.trans uSo4
 f219:=Tryz.func142.trans uSo4
 f224:=Tryz.func198.trans uSo4
 f225:=Tryz.func197.trans uSo4
 f266:=Tryz.func207.trans uSo4
 f267:=Tryz.func199.trans uSo4
 f314:=Tryz.func255.trans uSo4
 t3:=Tryz.underlying3
 a3:=Tryz.isAgg3
 z3:=Tryz.sizeOf3
 v3:=Tryz.zeroValue3
 t4:=Tryz.underlying4
 a4:=Tryz.isAgg4
 z4:=Tryz.sizeOf4
 v4:=Tryz.zeroValue4
 t5:=Tryz.underlying5
 a5:=Tryz.isAgg5
 z5:=Tryz.sizeOf5
 v5:=Tryz.zeroValue5
 t9:=Tryz.underlying9
 a9:=Tryz.isAgg9
 z9:=Tryz.sizeOf9
 v9:=Tryz.zeroValue9
 t46:=Tryz.underlying240
 a46:=Tryz.isAgg240
 z46:=Tryz.sizeOf240
 v46:=Tryz.zeroValue240
 t51:=Tryz.underlying191
 a51:=Tryz.isAgg191
 z51:=Tryz.sizeOf191
 v51:=Tryz.zeroValue191
 t146:=Tryz.underlying289
 a146:=Tryz.isAgg289
 z146:=Tryz.sizeOf289
 v146:=Tryz.zeroValue289
 g1:=by kernel_rfl
 i3:=by kernel_rfl
 i4:=by kernel_rfl
 i5:=by kernel_rfl
 i9:=by kernel_rfl
 i46:=by kernel_rfl
 i51:=by kernel_rfl
 i146:=by kernel_rfl
 m1:=by kernel_rfl
 s1_3:=fun w h=>Go.Proofs.cell_of_shapedOpen_int (zero:=#[.int .i64 0]) (t:=3) h (of_decide_eq_true (by kernel_rfl)) (by kernel_rfl) rfl (by kernel_rfl) (by kernel_rfl) Tryz.underlying3 }
end
section
open Go Go.Aw Go.RowKit
variable [bB]
def zY(l m:List UInt8)(hl:l.length<4294967281)(h:aa):cw p_ 85 [.str l,.str m] h fun r hh=>r=i_ (Lib.index l m)∧hh=h:=by
 intro base ι S w vs h1 h2;have hg:=(h2.gl 0 [i_ bB.m] rfl).1.get 0 (i_ bB.m) rfl;obtain⟨u,hu,_,hr⟩:=hg;rw[cE]at hr;subst hr;rw[aaq]at hu
 match vs,h1 with
 | [],h1=>simp at h1
 | [v],h1=>simp at h1
 | v:: u:: x:: vs,h1=>simp at h1
 | [v,u],h1 =>
   simp only[bL,di,and_true,dG]at h1;obtain⟨⟨rfl,_⟩,rfl,_⟩:=h1;refine (Any.strings_Index lays143 ⟨l.toArray⟩ ⟨m.toArray⟩ bB.m w (by simp[ByteArray.size];omega) hu).mono ?_;rintro e w' ⟨rfl,rfl⟩;exact⟨_,ι,S,i_ (Lib.index l m),h,rfl,bM.refl _ _ _ _ _,by simp,h2,aS _,rfl,rfl⟩
end
section
open Go Go.Aw Go.RowKit
def Qm(b:Bool)(s:List AV):Prop:=(nx s 0=tt∧b=true)∨(nx s 0=ff∧nx s 1=Aw.b_ b)
def K5(b:Bool)(s:List AV):Prop:=(nx s 0=ff∧b=false)∨(nx s 0=tt∧nx s 1=Aw.b_ b)
def kB(h:Qm b s){K:AV→Prop}(q:K (Aw.b_ b)):bG (nx s 0) tt (nx s 1) K:=by
 rcases h with⟨h1,rfl⟩|⟨h1,h2⟩
 ·exact bu h1 q
 ·exact bt h1 (by rw[h2];exact q)
def kf(h:K5 b s){K:AV→Prop}(q:K (Aw.b_ b)):bG (nx s 0) (nx s 1) ff K:=by
 rcases h with⟨h1,rfl⟩|⟨h1,h2⟩
 ·exact bt h1 q
 ·exact bu h1 (by rw[h2];exact q)
def lv(b:Bool){vs:List AV}{A:(List AV→aa→Prop)→Prop}{f:List AV→aa→Prop}(ec:c=.v (.bool b1))(hb:b1=true→b=true)(hA:b1=false→∀F:List AV→aa→Prop,F [ff,Aw.b_ b] H→A F)(q:∀s,Qm b s→f s H):aI (fun J=>aL c false (A J) (vs=vs∧J [bO false c,un] H)) f:=by
 subst ec;show aL _ _ _ _;cases b1 with
 | true=>exact zzM rfl (ar (q _ (.inl ⟨rfl,hb rfl⟩)))
 | false=>exact zzN rfl (hA rfl _ (q _ (.inr ⟨rfl,rfl⟩)))
def kU(b:Bool){vs:List AV}{A:(List AV→aa→Prop)→Prop}{f:List AV→aa→Prop}(ec:c=.v (.bool b1))(hb:b1=false→b=false)(hA:b1=true→∀F:List AV→aa→Prop,F [tt,Aw.b_ b] H→A F)(q:∀s,K5 b s→f s H):aI (fun J=>aL c true (A J) (vs=vs∧J [bO true c,un] H)) f:=by
 subst ec;show aL _ _ _ _;cases b1 with
 | false=>exact zzM rfl (ar (q _ (.inl ⟨rfl,hb rfl⟩)))
 | true=>exact zzN rfl (hA rfl _ (q _ (.inr ⟨rfl,rfl⟩)))
def ti(hi:i≤s.length):i≤Rt.gm s i∧Rt.gm s i≤s.length:=by
 unfold Rt.gm;have:=(List.takeWhile_sublist (l:=s.drop i) Rt.de).length_le;rw[List.length_drop]at this;omega
def at_lt(h:Rt.aJ s i≠0):i<s.length:=by
 by_cases q:i<s.length
 ·exact q
 ·exact absurd (wF q) h
def yY(h:Rt.de (Rt.aJ s i)=true):i<s.length:=at_lt fun e=>by rw[e]at h;exact absurd h (by decide)
def fA(n:Int)(hn:n=(c.toNat:Int))(hc:c≠0)(s:ao)(i:Nat):decide (pk s i=n)=decide (Rt.aJ s i=c):=by subst hn;exact yW hc s i
def gY(s:ao)(i:Nat):Nat:=if Rt.aJ s i=43∨Rt.aJ s i=45 then i+1 else i
def EH(hi:i≤s.length):i≤gY s i∧gY s i≤s.length:=by
 unfold gY;split
 ·rename_i h;have:i<s.length:=at_lt (by rcases h with h|h<;>rw[h]<;>decide);omega
 ·exact⟨aS _,hi⟩
def pv(s:ao)(i1:Nat):Nat×Bool:=if Rt.aJ s i1=46∧Rt.de (Rt.aJ s (i1+1))=true then (Rt.gm s (i1+1),false) else (i1,true)
def u5(s:ao)(r:Nat×Bool):Nat×Bool:=if Rt.aJ s r.1=101∨Rt.aJ s r.1=69 then (if Rt.de (Rt.aJ s (gY s (r.1+1)))=true then (Rt.gm s (gY s (r.1+1)),false) else r) else r
def Ba(s:ao)(i:Nat):Rt.gL s i=u5 s (pv s (Rt.gm s (gY s i))):=by
 unfold Rt.gL u5 pv gY;rfl
def Kb(hi:i≤s.length):i≤(pv s i).1∧(pv s i).1≤s.length:=by
 unfold pv;split
 ·rename_i h;have:=yY h.2;have:=ti (s:=s) (i:=i+1) (by omega);dsimp only;omega
 ·exact⟨aS _,hi⟩
def Sq(hi:r.1≤s.length):r.1≤(u5 s r).1∧(u5 s r).1≤s.length:=by
 unfold u5;split
 ·split
  ·rename_i h;have h2:=yY h;have h1:r.1+1≤gY s (r.1+1):=by unfold gY;split<;>omega
   have:=ti (s:=s) (i:=gY s (r.1+1)) (by omega);dsimp only;omega
  ·exact⟨aS _,hi⟩
 ·exact⟨aS _,hi⟩
def A9(hi:i≤s.length):i≤(Rt.gL s i).1∧(Rt.gL s i).1≤s.length:=by
 rw[Ba];have h1:=EH hi;have h2:=ti h1.2;have h3:=Kb h2.2;have h4:=Sq (r:=pv s (Rt.gm s (gY s i))) h3.2;omega
section
variable [Laid]
def D3{id:Nat}{K:AV→aa→Prop}(sc:Sc id h s a)(ex:x=.op id 0)(ha:a≤s.length)(hl:s.length≤2^20)(k:K (.aw []) (h.set id (dB s (Rt.gm s a)))):bA p_ (.fn (.func 88) [] []) [x,.fn (.func 145) [] []] h K:=by
 refine Gx (f:=145) (p:=fun n=>ik n 48 57) sc ex (by kernel_rfl) mJ (by decide) ha (by omega) ?_;rw[Bh];exact k
def ze{id:Nat}{K:AV→aa→Prop}(sc:Sc id h s a)(ex:x=.op id 0)(ha:a≤s.length)(hl:s.length≤2^20)(k:K (.aw []) (h.set id (dB s (Rt.dU s a)))):bA p_ (.fn (.func 88) [] []) [x,.fn (.func 87) [] []] h K:=by
 refine Gx (f:=87) (p:=tM) sc ex (by kernel_rfl) rQ (by decide) ha (by omega) ?_;rw[GS];exact k
def SK{id a:Nat}{K:AV→aa→Prop}(sc:Sc id h s a)(ey:y=.op id 0)(hs:s.length≤2^20)(ha:a≤s.length)(k:K (Aw.b_ (Rt.gL s a).2) (h.set id (dB s (Rt.gL s a).1))):bA p_ (.fn (.func 146) [] []) [y] h K:=by
 subst ey;refine cu (by kernel_rfl) rfl (K0:=fun r H=>r=Aw.b_ (Rt.gL s a).2∧H=h.set id (dB s (Rt.gL s a).1)) ?_ (by rintro r H ⟨rfl,rfl⟩;exact k);refine (Xw _).bR ?_;unfold QU;rw[Ba];have h1:=EH ha;have h2:=ti h1.2;have h3:=Kb h2.2;obtain⟨r,hr⟩:∃r,pv s (Rt.gm s (gY s a))=r:=⟨_,rfl⟩;rw[hr]at h3 ⊢;have fin:∀(b:Bool) (i:Nat),u5 s r=(i,b)→∃r' h'',Wk h.length [Aw.b_ b] (h.set id (dB s i)) [r'] h''∧r'=Aw.b_ (u5 s r).2∧h''=h.set id (dB s (u5 s r).1):=fun b i e=>⟨_,_,Wk.refl _ _ _ (by simp),by rw[e],by rw[e]⟩;refine cL (fun _ T=>T=h.set id (dB s (gY s a))) (fun _ T hT=>?_) fun F hF=>?_
 ·subst hT;refine D3 (sc.set _) rfl h1.2 hs ?_;rw[aam];refine cL (fun t T=>nx t 0=Aw.b_ r.2∧T=h.set id (dB s r.1)) (fun t T hT=>?_) fun F hF=>?_
  ·obtain⟨ht,rfl⟩:=hT;rw[ht];have sc3:=sc.set r.1;refine cZ 0 sc3 rfl rfl (by omega) ?_;rw[Nat.add_zero];refine zzG ?_;rw[fA (c:=101) 101 rfl (by decide)];refine lv (decide (Rt.aJ s r.1=101∨Rt.aJ s r.1=69)) rfl (fun z=>by simp at z;simp[z]) (fun z F hF=>?_) fun t ht=>?_
   ·refine cZ 0 sc3 rfl rfl (by omega) ?_;rw[Nat.add_zero];refine zzG ?_;rw[fA (c:=69) 69 rfl (by decide)];have z:=At z;simp only[z,false_or]at hF;exact ar hF
   refine kB ht ?_
   by_cases q:Rt.aJ s r.1=101∨Rt.aJ s r.1=69
   ·refine zzL (tO q) ?_;have hlt:r.1<s.length:=at_lt (by rcases q with q|q<;>rw[q]<;>decide);have e:u5 s r=if Rt.de (Rt.aJ s (gY s (r.1+1)))=true then (Rt.gm s (gY s (r.1+1)),false) else r:=by unfold u5;rw[if_pos q]
    obtain⟨n,hn⟩:∃n:Nat,gY s (r.1+1)=r.1+n∧(n=1∨n=2):=by
     unfold gY;split
     ·exact⟨2,by omega,.inr rfl⟩
     ·exact⟨1,rfl,.inl rfl⟩
    rw[hn.1]at e;refine cL (fun t T=>nx t 0=i_ n∧T=h.set id (dB s r.1)) (fun t T hT=>?_) fun F hF=>?_
    ·obtain⟨ht,rfl⟩:=hT;rw[ht];refine cZ n sc3 rfl rfl (by omega) (uCon (mJ _) ?_);rw[tH];cases z:Rt.de (Rt.aJ s (r.1+n)) with
     | true =>
       rw[if_pos z]at e;have hlt2:=yY z;refine zzL rfl (bD (zzA (zzU sc3 rfl (zzP (by unfold aZ;omega) (bD (zzA ?_))))));refine aM (cs:=[i_ ((r.1:Int)+n)]) (h':=h.set id (dB s (r.1+n))) rfl sc3 rfl rfl (by simp) rfl rfl ?_ ?_
       ·show (h.set id (dB s r.1)).set id (.ak ⟨126,[.str s,i_ ((r.1:Int)+n)],true⟩)=_;rw[aam];show _=List.set h id (.ak ⟨126,[.str s,i_ ((r.1+n:Nat):Int)],true⟩);rw[show ((r.1+n:Nat):Int)=(r.1:Int)+n by omega]
       refine D3 (sc.set _) rfl (by omega) hs ?_;rw[aam];exact fin false _ e
     | false =>
       rw[if_neg (by rw[z];decide)]at e;refine zzK rfl ?_;exact fin r.2 r.1 e
    ·refine cZ 1 sc3 rfl rfl (by omega) (zzG ?_);rw[fA (c:=43) 43 rfl (by decide)];refine lv (decide (Rt.aJ s (r.1+1)=43∨Rt.aJ s (r.1+1)=45)) rfl (fun z=>by simp at z;simp[z]) (fun z F hF=>?_) fun t ht=>?_
     ·refine zzG ?_;rw[fA (c:=45) 45 rfl (by decide)];have z:=At z;simp only[z,false_or]at hF;exact ar hF
     refine kB ht ?_
     by_cases z:Rt.aJ s (r.1+1)=43∨Rt.aJ s (r.1+1)=45
     ·have hn1:=hn.1;unfold gY at hn1;rw[if_pos z]at hn1;refine zzL (tO z) (zzP (by unfold aZ;omega) ?_);refine ar (hF _ _ ⟨?_,rfl⟩);show i_ ((1:Int)+1)=_;rw[show (1:Int)+1=(n:Int) by omega]
     ·have hn1:=hn.1;unfold gY at hn1;rw[if_neg z]at hn1;refine zzK (oF z) ?_;refine ar (hF _ _ ⟨?_,rfl⟩);show i_ (1:Int)=_;rw[show (1:Int)=(n:Int) by omega]
   ·refine zzK (oF q) ?_;exact fin r.2 r.1 (by unfold u5;rw[if_neg q])
  ·have sc3:=sc.set (Rt.gm s (gY s a));refine cZ 0 sc3 rfl rfl (by omega) ?_;rw[Nat.add_zero];refine zzG ?_;rw[fA (c:=46) 46 rfl (by decide)];obtain⟨i1,hi1⟩:∃i1,Rt.gm s (gY s a)=i1:=⟨_,rfl⟩;rw[hi1]at sc3 h2 hr ⊢;refine kU (decide (Rt.aJ s i1=46∧Rt.de (Rt.aJ s (i1+1))=true)) rfl (fun z=>by simp at z;simp[z]) (fun z F hF=>?_) fun t ht=>?_
   ·refine cZ 1 sc3 rfl rfl (by omega) (uCon (mJ _) ?_);rw[tH];have z:=uP z;simp only[z,true_and,Bool.decide_eq_true]at hF;exact ar hF
   refine kf ht ?_
   by_cases q:Rt.aJ s i1=46∧Rt.de (Rt.aJ s (i1+1))=true
   ·have hlt:=yY q.2;refine zzL (tO q) (iU sc3 (by omega) rfl ?_);rw[aam];refine D3 (sc.set _) rfl (by omega) hs ?_;rw[aam];unfold pv at hr;rw[if_pos q]at hr;subst hr;exact ar (hF _ _ ⟨rfl,rfl⟩)
   ·refine zzK (oF q) ?_;unfold pv at hr;rw[if_neg q]at hr;subst hr;exact ar (hF _ _ ⟨rfl,rfl⟩)
 ·refine cZ 0 sc rfl rfl (by omega) ?_;rw[Nat.add_zero];refine zzG ?_;rw[fA (c:=43) 43 rfl (by decide)];refine lv (decide (Rt.aJ s a=43∨Rt.aJ s a=45)) rfl (fun z=>by simp at z;simp[z]) (fun z F hF=>?_) fun t ht=>?_
  ·refine zzG ?_;rw[fA (c:=45) 45 rfl (by decide)];have z:=At z;simp only[z,false_or]at hF;exact ar hF
  refine kB ht ?_
  by_cases q:Rt.aJ s a=43∨Rt.aJ s a=45
  ·refine zzL (tO q) (iU sc (by omega) rfl ?_);refine ar (hF _ _ ?_);unfold gY;rw[if_pos q]
  ·refine zzK (oF q) ?_;refine ar (hF _ _ ?_);unfold gY;rw[if_neg q,jV sc]
end
/-! ### Comments -/
def xY(s:ao)(i:Nat)(m:ao):(decide (m.length≤(s.drop i).length)&&decide ((s.drop i).take m.length=m))=Rt.hasB s i m:=by
 unfold Rt.hasB
 by_cases h:(s.drop i).take m.length=m
 ·have:m.length≤(s.drop i).length:=by
   have:=congrArg List.length h;rw[aai]at this;omega
  rw[tO h,tO this];rfl
 ·rw[oF h,Bool.and_false]
def L4(s:ao):∀n j,s.length-j≤n→j≤s.length→Rt.lM s j=if Lib.index (s.drop j) [42,47]<0 then s.length else j+(Lib.index (s.drop j) [42,47]).toNat+2:=by
 intro n;induction n with
 | zero =>
   intro j hn hj;have:s.drop j=[]:=List.drop_eq_nil_of_le (by omega);rw[this,Rt.lM,dif_neg (by omega)];rfl
 | succ n ih =>
   intro j hn hj
   by_cases h:j<s.length
   ·have hd:s.drop j=s[j]:: s.drop (j+1):=aaK h;rw[Rt.lM,dif_pos h];have hp:([42,47]:ao).isPrefixOf (s.drop j)=Rt.hasB s j [42,47]:=by
     unfold Rt.hasB;rw[Bool.eq_iff_iff,List.isPrefixOf_iff_prefix,List.prefix_iff_eq_take,decide_eq_true_iff];exact eq_comm
    have hi:Lib.index (s.drop j) [42,47]=if Rt.hasB s j [42,47]=true then 0 else if Lib.index (s.drop (j+1)) [42,47] == -1 then -1 else Lib.index (s.drop (j+1)) [42,47]+1:=by
     rw[←hp,hd];rfl
    rw[hi]
    by_cases q:Rt.hasB s j [42,47]=true
    ·rw[if_pos q,if_pos q];simp
    ·rw[if_neg q,if_neg q,ih (j+1) (by omega) h];have hg:=Lib.index_ge (s.drop (j+1)) [42,47]
     by_cases z:Lib.index (s.drop (j+1)) [42,47]=-1
     ·rw[z];simp
     ·have e:(if (Lib.index (s.drop (j+1)) [42,47] == -1)=true then (-1:Int) else Lib.index (s.drop (j+1)) [42,47]+1)=Lib.index (s.drop (j+1)) [42,47]+1:=if_neg (by simpa using z);rw[e,if_neg (show ¬Lib.index (s.drop (j+1)) [42,47]<0 by omega),if_neg (by omega)];omega
   ·have:s.drop j=[]:=List.drop_eq_nil_of_le (by omega);rw[this,Rt.lM,dif_neg h];rfl
def qQ(h:Rt.hasB s i x=true)(hx:0<x.length):i+x.length≤s.length:=by
 unfold Rt.hasB at h;have:=congrArg List.length (uP h);rw[aai,List.length_drop]at this;omega
theorem Ai(s:ao):∀n j,s.length-j≤n→j≤s.length→Rt.lM s j≤s.length
 | 0,j,hn,hj=>by rw[Rt.lM,dif_neg (by omega)];exact aS _
 | n+1,j,hn,hj=>by
   rw[Rt.lM];split
   ·rename_i h;split
    ·rename_i q;exact qQ (x:=[42,47]) q (by decide)
    ·exact Ai s n (j+1) (by omega) h
   ·exact aS _
theorem tG(s:ao):∀n j,s.length-j≤n→j≤s.length→j≤Rt.fI s j∧Rt.fI s j≤s.length
 | 0,j,hn,hj=>by rw[Rt.fI,dif_neg (by omega)];exact⟨aS _,hj⟩
 | n+1,j,hn,hj=>by
   rw[Rt.fI];split
   ·rename_i h;have h1:=Rt.wM s (j+2);have h3:=qQ (x:=[47,42]) h.2 (by decide);have h2:=Ai s s.length (j+2) (by omega) h3;have:=tG s n (Rt.lM s (j+2)) (by simp at h3;omega) h2;simp at h3;exact⟨by omega,this.2⟩
   ·exact⟨aS _,hj⟩
variable [bB]
def Gq{id a:Nat}{K:AV→aa→Prop}(sc:Sc id h s a)(ey:y=.op id 0)(hs:s.length≤2^20)(ha:a≤s.length)(k:K (.aw []) (h.set id (dB s (Rt.fI s a)))):bA p_ (.fn (.func 63) [] []) [y] h K:=by
 subst ey;refine cu (by kernel_rfl) rfl (K0:=fun r H=>r=.aw []∧H=h.set id (dB s (Rt.fI s a))) ?_ (by rintro r H ⟨rfl,rfl⟩;exact k);refine (V63 _).bR ?_;unfold V6;obtain⟨R,hR⟩:∃R,Rt.fI s a=R:=⟨_,rfl⟩;rw[hR];refine aG (α:=Nat) (fun j=>j≤s.length∧Rt.fI s j=R) (fun _=>[]) (fun j=>h.set id (dB s j)) (fun j=>s.length-j) a ⟨ha,hR⟩ (by rw[jV sc];exact Wk.refl _ _ _ (aS _)) ?_;rintro j ⟨hj,hp⟩;have sc2:=sc.set j;refine bD (zzA (zzU sc2 rfl (bD (zzA (zzU sc2 rfl (oO (a:=j) (b:=s.length) (r:=s.drop j) rfl rfl rfl (by omega) (aS _) (by rw[Gt]) ?_))))));refine⟨_,uCon (qJ _ _) ⟨rfl,rfl⟩, ?_⟩;rw[xY];rw[Rt.fI]at hp;cases q:Rt.hasB s j [47,42] with
 | false =>
   rw[dif_neg (by rw[q];simp)]at hp;subst hp;refine zzK rfl ?_;exact⟨_,_,Wk.refl _ _ _ (by simp),rfl,rfl⟩
 | true =>
   have h3:=qQ (x:=[47,42]) q (by decide);simp only[aab,aaN]at h3;rw[dif_pos ⟨by omega,q⟩]at hp;have he:=L4 s s.length (j+2) (by omega) (by omega);have hin:=Ai s s.length (j+2) (by omega) (by omega);have hge:=Lib.index_ge (s.drop (j+2)) [42,47];refine zzL rfl (bD (zzA (zzU sc2 rfl (bD (zzA (zzU sc2 rfl (zzP (by unfold aZ;omega) (oO (a:=j+2) (b:=s.length) (r:=s.drop (j+2)) rfl (by simp[dS]) rfl (by omega) (aS _) (by rw[Gt]) ?_))))))));refine⟨_,cu (by kernel_rfl) rfl (zY _ _ (by simp;omega) _) fun r h' z=>z, ?_⟩;refine zzC ?_
   by_cases z:Lib.index (s.drop (j+2)) [42,47]<0
   ·rw[if_pos z]at he;rw[he,Rt.fI,dif_neg (by omega)]at hp;subst hp;refine zzL (tO z) (bD (zzA (zzU sc2 rfl ?_)));refine zzZ fun _=>?_;refine bD (zzA (aM (cs:=[i_ (s.length:Int)]) (h':=h.set id (dB s s.length)) rfl sc2 rfl rfl (by simp) rfl rfl (by rw[aam];rfl) ?_));exact⟨_,_,Wk.refl _ _ _ (by simp),rfl,rfl⟩
   ·rw[if_neg z]at he;refine zzK (oF z) (bD (zzA (zzU sc2 rfl (zzP (by unfold aZ;omega) (zzP (by unfold aZ;omega) (bD (zzA (aM (cs:=[i_ ((Rt.lM s (j+2):Nat):Int)]) (h':=h.set id (dB s (Rt.lM s (j+2)))) rfl sc2 rfl (by show [i_ ((j:Int)+(Lib.index (s.drop (j+2)) [42,47]+4))]=_;rw[show (j:Int)+(Lib.index (s.drop (j+2)) [42,47]+4)=((Rt.lM s (j+2):Nat):Int) by omega]) (by simp) rfl rfl (by rw[aam];rfl) ?_))))))));have hge2:=Rt.wM s (j+2);exact ar ⟨Rt.lM s (j+2),⟨hin,hp⟩,Wk.refl _ _ _ (by simp),by omega⟩
end
section
open Go Go.Aw Go.RowKit
def vE(c:UInt8):Nat:=(c.toNat+208)%256
def jm(most:Nat)(l:ao):Nat:=l.foldl (fun n c=>min (10*n+vE c) most) 0
def wE(most:Nat)(l:ao):jm most l≤most:=by
 unfold jm;have key:∀(l:ao) (a:Nat),a≤most→l.foldl (fun n c=>min (10*n+vE c) most) a≤most:=by
  intro l;induction l with
  | nil=>intro a h;exact h
  | cons c l ih=>intro a h;exact ih _ (Nat.min_le_right _ _)
 exact key l 0 (aao _)
def IH{most:Nat}{l:ao}{k:Nat}(h:k<l.length):jm most (l.take (k+1))=min (10*jm most (l.take k)+vE l[k]) most:=by
 unfold jm;rw[List.take_succ_eq_append_getElem h,aas];rfl
def lU:Nat:=1000000000000
def rT(t:ao):Int:=if 0≤Lib.indexAny t [101,69] then (if Rt.aJ t ((Lib.indexAny t [101,69]).toNat+1)=45 then -(jm 1048576 (Lib.trimLeftS (t.drop ((Lib.indexAny t [101,69]).toNat+1)) [43,45]):Int) else (jm 1048576 (Lib.trimLeftS (t.drop ((Lib.indexAny t [101,69]).toNat+1)) [43,45]):Int)) else 0
def qY(t:ao):ao:=if 0≤Lib.indexAny t [101,69] then t.take (Lib.indexAny t [101,69]).toNat else t
def pI(t:ao):Int:=3+rT t-((Lib.cut (qY t) [46]).2.1.length:Int)
def xW(t:ao):ao:=(Lib.cut (qY t) [46]).1++(Lib.cut (qY t) [46]).2.1
def pC(t:ao):ao:=if pI t<0 then (xW t).take (max 0 ((xW t).length+pI t)).toNat else xW t
def x8(t:ao):Nat:=Rt.zI lU (pI t).toNat (jm lU (pC t))
def nF(x:ao):Int:=if Rt.aJ x 0=45 then -(x8 (Lib.trimLeftS x [43,45]):Int) else (x8 (Lib.trimLeftS x [43,45]):Int)
theorem KI:∀p n,n≤lU→Rt.zI lU p n≤lU
 | 0,n,h=>h
 | p+1,n,h=>by
   rw[Rt.zI];split
   ·exact KI p _ (Nat.min_le_left _ _)
   ·exact h
def P2(x:ao):-1000000000000≤nF x∧nF x≤1000000000000:=by
 have:=KI (pI (Lib.trimLeftS x [43,45])).toNat _ (wE lU (pC (Lib.trimLeftS x [43,45])));have h:x8 (Lib.trimLeftS x [43,45])≤1000000000000:=this;unfold nF;split<;>omega
def Cj(l m:ao):(Lib.trimLeftS l m).length≤l.length:=(List.dropWhile_sublist _).length_le
def KF(h:c∈Lib.trimLeftS l m):c∈l:=(List.dropWhile_sublist _).subset h
def FT(l m:ao):(Lib.cut l m).1.length+(Lib.cut l m).2.1.length≤l.length:=by
 unfold Lib.cut;split
 ·simp;omega
 ·simp
def Uk{K:AV→Prop}(ex:x=i_ a)(ey:y=i_ b)(q:K (i_ (max a b))):iy x y K:=by
 subst ex;subst ey;rw[Jq]
 by_cases h:b > a
 ·rw[if_pos h];rwa [Int.max_eq_right (by omega)]at q
 ·rw[if_neg h];rwa [Int.max_eq_left (by omega)]at q
def IC{K:AV→Prop}(ex:x=i_ a)(ey:y=i_ b)(q:K (i_ (min a b))):kD x y K:=by
 subst ex;subst ey;rw[Jr]
 by_cases h:b<a
 ·rw[if_pos h];rwa [Int.min_eq_right (by omega)]at q
 ·rw[if_neg h];rwa [Int.min_eq_left (by omega)]at q
def zze{K:AV→Prop}(q:K (i_ (min a b))):kD (i_ a) (i_ b) K:=IC rfl rfl q
def Qc(c:UInt8):IntKind.u8.wrap ((c.toNat:Int)-48)=((vE c:Nat):Int):=by
 rw[IntKind.wrap_u8];unfold vE;have:=c.toNat_lt;omega
def Sl(c:UInt8):vE c<256:=Nat.mod_lt _ (by decide)
variable [bB]
def LB(l m:ao)(hl:l.length≤2^31):aV p_ 205 [.str l,.str m] (.aw [.str (Lib.cut l m).1,.str (Lib.cut l m).2.1,Aw.b_ (Lib.cut l m).2.2]):=by
 have hc:=FT l m;refine gV (v:=.tuple #[.string ⟨(Lib.cut l m).1.toArray⟩,.string ⟨(Lib.cut l m).2.1.toArray⟩,.bool (Lib.cut l m).2.2]) (by simp[aq]) (by simp) (by simp[aq]) (fun w=>by rw[ax];exact⟨[.string ⟨(Lib.cut l m).1.toArray⟩,.string ⟨(Lib.cut l m).2.1.toArray⟩,.bool (Lib.cut l m).2.2],rfl,by simp[maxLen];omega⟩) ?_;intro ι S w vs h1 hg;have hg:=(hg 0 [i_ bB.m] rfl).1.get 0 (i_ bB.m) rfl;obtain⟨u,hu,_,hr⟩:=hg;rw[cE]at hr;subst hr;rw[aaq]at hu
 match vs,h1 with
 | [],h1=>simp at h1
 | [v],h1=>simp at h1
 | v:: u:: x:: vs,h1=>simp at h1
 | [v,u],h1 =>
   simp only[bL,di,and_true,dG]at h1;obtain⟨⟨rfl,_⟩,rfl,_⟩:=h1;refine (Any.strings_Cut lays145 ⟨l.toArray⟩ ⟨m.toArray⟩ bB.m w (by simp[ByteArray.size];omega) hu).mono ?_;rintro e w' ⟨rfl,n,rfl⟩;exact⟨by simp,(Below.refl _ _).trans ⟨rfl,rfl,rfl,aS _,fun _ _=>rfl⟩⟩
def Nw{most:Nat}{M:Int}(hM:M=(most:Int))(hm:most≤2^50){l:ao}(hl:l.length≤2^31){id:Nat}{T:aa}(ht:T[id]?=some (.ak ⟨5,l.map bS,true⟩)){vs:List AV}{f:List AV→aa→Prop}(q:f [i_ (jm most l),i_ l.length] T):
 bc [i_ 0,i_ 0] T fun N s g=>ag .lss (nx s 1) (i_ l.length) fun v19=>af v19 (au 1 (.own id 0 l.length 1) (nx s 1) fun v20=>ae false 1 v20 g fun v21=>ag .mul (i_ 10) (nx s 0) fun v22=>ag .sub v21 (u8 48) fun v23=>cH .i64 v23 fun v24=>ag .add v22 v24 fun v25=>kD v25 (i_ M) fun v26=>ag .add (nx s 1) (i_ 1) fun v27=>vs=vs∧N [v26,v27] g) (f s g):=by
 subst hM;refine aG (α:=Nat) (fun k=>k≤l.length) (fun k=>[i_ (jm most (l.take k)),i_ k]) (fun _=>T) (fun k=>l.length-k) 0 (aao _) (Wk.refl _ _ _ (aS _)) ?_;intro k hk;refine zzC ?_
 by_cases c:k<l.length
 ·have h1:=wE most (l.take k);have h2:=IH (most:=most) c;have h3:=Sl l[k];refine zzL (tO (by omega)) (dY rfl rfl c ?_);refine zzU (c:=bS l[k]) ht (by simp[bY c]) ?_;refine Im rfl rfl (by unfold aZ;omega) (TV (c:=((vE l[k]:Nat):Int)) (by decide) rfl rfl (Qc _) (eD (m:=((vE l[k]:Nat):Int)) rfl (by rw[IntKind.wrap_i64];omega) (zzP (by unfold aZ;omega) (zze (zzP (by unfold aZ;omega) ?_)))));refine ar ⟨k+1,c, ?_,by omega⟩;show Wk _ [i_ (min ((10:Int)*(jm most (l.take k):Int)+((vE l[k]:Nat):Int)) (most:Int)),i_ ((k:Int)+1)] T _ T;rw[h2,show min ((10:Int)*(jm most (l.take k):Int)+((vE l[k]:Nat):Int)) (most:Int)=((min (10*jm most (l.take k)+vE l[k]) most:Nat):Int) by omega];exact Wk.refl _ _ _ (aS _)
 ·refine zzK (oF (by omega)) ?_;obtain rfl:k=l.length:=by omega
  rw[Gt];exact q
def I5(x:ao)(h0:x≠[])(hl:x.length≤2^20)(ha:rK x)(hE:0≤Lib.indexAny (Lib.trimLeftS x [43,45]) [101,69]→(Lib.indexAny (Lib.trimLeftS x [43,45]) [101,69]).toNat+1<(Lib.trimLeftS x [43,45]).length):aV p_ 147 [.str x] (i_ (nF x)):=by
 refine (Xx _).aQ (by simp) (by simp) ?_;unfold QV;obtain⟨t,ht⟩:∃t,Lib.trimLeftS x [43,45]=t:=⟨_,rfl⟩;have htl:t.length≤x.length:=by rw[←ht];exact Cj _ _
 have hta:rK t:=fun b hb=>ha b (KF (by rw[ht];exact hb));have hlx:0<x.length:=List.length_pos_iff.2 h0;have sg:∀c∈([43,45]:ao),c.toNat<128:=fun b hb=>by simp at hb;rcases hb with rfl|rfl<;>decide
 rw[ht]at hE;refine qx (n:=0) (b:=x[0]) rfl rfl (bY hlx) ?_;refine zzG ?_;have hat:Rt.aJ x 0=x[0]:=ib hlx;have hdec:decide ((x[0].toNat:Int)=45)=decide (Rt.aJ x 0=45):=by
  rw[hat];exact decide_eq_decide.2 ⟨fun e=>UInt8.toNat_inj.1 (by show x[0].toNat=45;omega),fun e=>by rw[e];rfl⟩
 rw[hdec];refine uCon (BK x [43,45] (by omega) (by decide) sg) ?_;rw[ht];have hex:rT t=rT t:=rfl;refine cL (fun v T=>nx v 0=.str (qY t)∧nx v 1=i_ (3+rT t)∧-1048576≤rT t∧rT t≤1048576) (fun v T hv=>?_) fun F hF=>?_
 ·obtain⟨v0,v1,e1,e2⟩:=hv;have hml:(qY t).length≤t.length:=by unfold qY;split<;>simp;omega
  have hcl:=FT (qY t) [46];rw[v0,v1];refine uCon (LB (qY t) [46] (by omega)) (br rfl rfl (br rfl rfl (br rfl rfl ?_)));refine zzZ fun _=>?_;refine zzf (by unfold aZ;omega) (R6 rfl rfl (by omega) ?_);have hp:(3+rT t-((Lib.cut (qY t) [46]).2.1.length:Int))=pI t:=rfl;have hd:(Lib.cut (qY t) [46]).1++(Lib.cut (qY t) [46]).2.1=xW t:=rfl;have hdl:(xW t).length≤2^20:=by rw[←hd,BY];omega
  have hpl:-2^22≤pI t∧pI t≤2^22:=by rw[←hp];omega
  rw[hp,hd];refine cL (fun v H=>nx v 0=.str (pC t)) (fun v H hv=>?_) fun F hF=>?_
  ·rw[hv];have hcl2:(pC t).length≤2^20:=by unfold pC;split<;>simp<;>omega
   refine Nk rfl (IA rfl ?_);have hblk:(H++[aY.ak ⟨5,(pC t).map bS,true⟩]:aa)[H.length]?=some (.ak ⟨5,(pC t).map bS,true⟩):=by simp
   refine Nw (M:=1000000000000) (most:=lU) rfl (by decide) (by omega) hblk ?_;obtain⟨n0,hn0⟩:∃n0,jm lU (pC t)=n0:=⟨_,rfl⟩;have hn1:n0≤lU:=by rw[←hn0];exact wE _ _
   rw[hn0];have hmag:x8 t=Rt.zI lU (pI t).toNat n0:=by unfold x8;rw[hn0]
   refine aG (α:=Int×Nat) (fun p=>p.2≤lU∧-2^22≤p.1∧p.1≤2^22∧Rt.zI lU p.1.toNat p.2=x8 t) (fun p=>[i_ p.1,i_ p.2]) (fun _=>H++[aY.ak ⟨5,(pC t).map bS,true⟩]) (fun p=>p.1.toNat) (pI t,n0) ⟨hn1,hpl.1,hpl.2,hmag.symm⟩ (Wk.refl _ _ _ (aS _)) ?_;rintro⟨p,n⟩ ⟨hn,hp1,hp2,hu⟩;dsimp only at hn hp1 hp2 hu ⊢;unfold lU at hn;refine zzE ?_;refine kU (decide (0<p∧0<n)) rfl (fun z=>by have z:=At z;simp;omega) (fun z F hF=>?_) fun v hv=>?_
   ·refine zzE ?_;have z:=uP z;have e:decide ((0:Int)<(n:Int))=decide (0<p∧0<n):=decide_eq_decide.2 (by omega);rw[e];exact ar hF
   refine kf hv ?_;refine kU (decide (0<p∧0<n∧n<lU)) rfl (fun z=>by have z:=At z;simp;omega) (fun z F hF=>?_) fun v hv=>?_
   ·refine zzC ?_;have z:=uP z;have e:decide ((n:Int)<1000000000000)=decide (0<p∧0<n∧n<lU):=decide_eq_decide.2 (by unfold lU;omega);rw[e];exact ar hF
   refine kf hv ?_
   by_cases q:0<p∧0<n∧n<lU
   ·refine zzL (tO q) ?_;have q3:=q.2.2;unfold lU at q3;refine Im rfl rfl (by unfold aZ;omega) (zze (zzf (by unfold aZ;omega) ?_));refine ar ⟨(p-1,min lU (10*n)),⟨Nat.min_le_left _ _,by dsimp only;omega,by dsimp only;omega, ?_⟩, ?_,by dsimp only;omega⟩
    ·dsimp only;rw[show p.toNat=(p-1).toNat+1 by omega,Rt.zI,if_pos q.2]at hu;exact hu
    ·show Wk _ [i_ (p-1),i_ (min ((10:Int)*n) 1000000000000)] _ _ _;rw[show min ((10:Int)*n) 1000000000000=((min lU (10*n):Nat):Int) by unfold lU;omega];exact Wk.refl _ _ _ (aS _)
   ·refine zzK (oF q) ?_;have e:x8 t=n:=by
     rw[←hu]
     by_cases z:0<p
     ·rw[show p.toNat=(p-1).toNat+1 by omega,Rt.zI,if_neg (fun y=>q ⟨z,y⟩)]
     ·rw[show p.toNat=0 by omega,Rt.zI]
    unfold nF;rw[ht,e]
    by_cases z:Rt.aJ x 0=45
    ·refine zzL (tO z) ?_;rw[if_pos z];show sQ (i_ (n:Int)) _;rw[D1];exact⟨by unfold aZ;omega,.pure (by simp) (by rw[show (0:Int)-(n:Int)=-(n:Int) by omega])⟩
    ·refine zzK (oF z) ?_;rw[if_neg z];exact .pure (by simp) rfl
  ·refine zzC ?_
   by_cases q:pI t<0
   ·refine zzL (tO q) ?_;refine zzZ fun _=>?_;refine zzP (by unfold aZ;omega) (Uk rfl rfl (oO (a:=0) (b:=(max 0 (((xW t).length:Int)+pI t)).toNat) (r:=pC t) rfl rfl (by show some (max 0 (((xW t).length:Int)+pI t))=_;congr 1;omega) (by omega) (by omega) (by unfold pC;rw[if_pos q,List.drop_zero]) ?_));exact ar (hF _ _ rfl)
   ·refine zzK (oF q) ?_;refine ar (hF _ _ ?_);unfold pC;rw[if_neg q];rfl
 ·refine uCon (DC t [101,69] (by omega) (by decide) hta (fun b hb=>by simp at hb;rcases hb with rfl|rfl<;>decide)) (zzF ?_);obtain⟨i,hi⟩:∃i,Lib.indexAny t [101,69]=i:=⟨_,rfl⟩;rw[hi]at hE ⊢
  by_cases q:0≤i
  ·have hE:=hE q;refine zzL (tO q) (zzP (by unfold aZ;omega) (oO (a:=i.toNat+1) (b:=t.length) (r:=t.drop (i.toNat+1)) rfl (by show some (i+1)=_;congr 1;omega) rfl (by omega) (aS _) (by rw[Gt]) (uCon (BK (t.drop (i.toNat+1)) [43,45] (by simp;omega) (by decide) sg) ?_)));obtain⟨d,hd⟩:∃d,Lib.trimLeftS (t.drop (i.toNat+1)) [43,45]=d:=⟨_,rfl⟩;have hdl:d.length≤2^20:=by have:=Cj (t.drop (i.toNat+1)) [43,45];rw[hd]at this;simp at this;omega
   rw[hd];refine Nk rfl (IA rfl ?_);have hblk:([]++[aY.ak ⟨5,d.map bS,true⟩]:aa)[([]:aa).length]?=some (.ak ⟨5,d.map bS,true⟩):=rfl;refine Nw (M:=1048576) (most:=1048576) rfl (by decide) (by omega) hblk ?_;have hle:=wE 1048576 d;have e:rT t=if Rt.aJ t (i.toNat+1)=45 then -(jm 1048576 d:Int) else (jm 1048576 d:Int):=by unfold rT;rw[hi,if_pos q,hd]
   have em:qY t=t.take i.toNat:=by unfold qY;rw[hi,if_pos q]
   refine cL (fun v T=>nx v 0=i_ (rT t)) (fun v T hv=>?_) fun G hG=>?_
   ·have hb:-1048576≤rT t∧rT t≤1048576:=by rw[e];split<;>omega
    rw[hv];refine zzP (by unfold aZ;omega) (oO (a:=0) (b:=i.toNat) (r:=t.take i.toNat) rfl rfl (by show some i=_;congr 1;omega) (by omega) (by omega) (by rw[List.drop_zero]) ?_);exact ar (hF _ _ ⟨by rw[em];rfl,rfl,hb.1,hb.2⟩)
   ·refine zzP (by unfold aZ;omega) ?_;refine qx (n:=i.toNat+1) (b:=t[i.toNat+1]) rfl (by show i_ (i+1)=_;rw[show i+1=((i.toNat+1:Nat):Int) by omega]) (bY hE) ?_;refine zzG ?_;have hat2:Rt.aJ t (i.toNat+1)=t[i.toNat+1]:=ib hE
    by_cases z:Rt.aJ t (i.toNat+1)=45
    ·refine zzL (tO (by rw[←hat2,z];rfl)) ?_;show sQ (i_ (jm 1048576 d:Int)) _;rw[D1];refine⟨by unfold aZ;omega, ?_⟩;refine ar (hG _ _ ?_);rw[e,if_pos z];show i_ (0-(jm 1048576 d:Int))=_;rw[show (0:Int)-(jm 1048576 d:Int)=-(jm 1048576 d:Int) by omega]
    ·refine zzK (oF (fun y=>z (by rw[hat2];exact UInt8.toNat_inj.1 (by show _=45;omega)))) ?_;refine ar (hG _ _ ?_);rw[e,if_neg z];rfl
  ·refine zzK (oF q) ?_;have e:rT t=0:=by unfold rT;rw[hi,if_neg q]
   have em:qY t=t:=by unfold qY;rw[hi,if_neg q]
   exact ar (hF _ _ ⟨by rw[em];rfl,by rw[e];rfl,by rw[e];decide,by rw[e];decide⟩)
end
section
open Go Go.Aw Go.RowKit
def qM(h1:k≤j)(h2:j<Rt.gm s k):j<s.length∧Rt.de (Rt.aJ s j)=true:=by
 have hr:j-k<lP (fun n=>ik n 48 57) s k:=by rw[←Bh]at h2;omega
 have:=Kj hr;rw[show k+(j-k)=j by omega]at this;exact⟨this.1,by rw[←tH];exact this.2⟩
def xV(h:Rt.de (Rt.aJ s k)=true):k<Rt.gm s k:=by
 have he:=Bi (p:=fun n=>ik n 48 57) (by decide) s k;rw[Bh]at he;have he:ik (pk s (Rt.gm s k)) 48 57=false:=he;rw[tH]at he;rcases AS k (Rt.gm s k) with q|q
 ·exact q
 ·have:Rt.gm s k=k:=by unfold Rt.gm at q ⊢;omega
  rw[this,h]at he;cases he
def wK(h:Rt.de c=true):c.toNat<128:=by unfold Rt.de at h;simp at h;omega
def zm(ha:a<s.length)(hn:Rt.lN s a=true):a<(Rt.gL s a).1∧Rt.de (Rt.aJ s ((Rt.gL s a).1-1))=true∧∀j,a≤j→j<(Rt.gL s a).1→(Rt.aJ s j).toNat<128:=by
 rw[Ba];have s1:=EH (Nat.le_of_lt ha);have h1:∀j,a≤j→j<gY s a→(Rt.aJ s j).toNat<128:=by
  intro j x y;unfold gY at y;split at y
  ·rename_i q;obtain rfl:j=a:=by omega
   rcases q with q|q<;>rw[q]<;>decide
  ·omega
 obtain⟨i0,hi0⟩:∃i0,gY s a=i0:=⟨_,rfl⟩;rw[hi0]at s1 h1 ⊢;have d1:=ti (s:=s) (i:=i0) s1.2;obtain⟨i1,hi1⟩:∃i1,Rt.gm s i0=i1:=⟨_,rfl⟩;have g1:∀j,i0≤j→j<i1→j<s.length∧Rt.de (Rt.aJ s j)=true:=fun j x y=>qM x (by rw[hi1];exact y);rw[hi1]at d1 ⊢;have hn':Rt.de (Rt.aJ s (if Rt.aJ s i0=46 then i0+1 else i0))=true:=by
  unfold Rt.lN at hn;have e:(if Rt.aJ s a=43∨Rt.aJ s a=45 then a+1 else a)=i0:=hi0;simp only[e]at hn;exact hn
 -- behind the point
 have p:a<(pv s i1).1∧Rt.de (Rt.aJ s ((pv s i1).1-1))=true∧∀j,a≤j→j<(pv s i1).1→(Rt.aJ s j).toNat<128:=by
  by_cases q:Rt.aJ s i1=46∧Rt.de (Rt.aJ s (i1+1))=true
  ·have e:pv s i1=(Rt.gm s (i1+1),false):=by unfold pv;rw[if_pos q]
   rw[e];have g:=xV q.2;refine⟨by dsimp only;omega,(qM (s:=s) (k:=i1+1) (by dsimp only;omega) (by dsimp only;omega)).2,fun j x y=>?_⟩;dsimp only at y
   by_cases c1:j<i0
   ·exact h1 j x c1
   ·by_cases c2:j<i1
    ·exact wK (g1 j (by omega) c2).2
    ·by_cases c3:j=i1
     ·rw[c3,q.1];decide
     ·exact wK (qM (s:=s) (k:=i1+1) (by omega) y).2
  ·have e:pv s i1=(i1,true):=by unfold pv;rw[if_neg q]
   rw[e];have hlt:i0<i1:=by
    by_cases c:Rt.aJ s i0=46
    ·rw[if_pos c]at hn';exfalso;have:i1=i0:=by
      rcases AS i0 i1 with z|z
      ·have:=(g1 i0 (aS _) z).2;rw[c]at this;exact absurd this (by decide)
      ·omega
     exact q ⟨by rw[this];exact c,by rw[this];exact hn'⟩
    ·rw[if_neg c]at hn';rw[←hi1];exact xV hn'
   refine⟨by dsimp only;omega,(g1 (i1-1) (by omega) (by omega)).2,fun j x y=>?_⟩;dsimp only at y
   by_cases c1:j<i0
   ·exact h1 j x c1
   ·exact wK (g1 j (by omega) y).2
 obtain⟨r,hr⟩:∃r,pv s i1=r:=⟨_,rfl⟩;rw[hr]at p ⊢;unfold u5;split
 ·rename_i q;split
  ·rename_i q2;have g:=xV q2;have k1:r.1+1≤gY s (r.1+1):=by unfold gY;split<;>omega
   refine⟨by dsimp only;omega,(qM (s:=s) (k:=gY s (r.1+1)) (by dsimp only;omega) (by dsimp only;omega)).2,fun j x y=>?_⟩;dsimp only at y
   by_cases c1:j<r.1
   ·exact p.2.2 j x c1
   ·by_cases c2:j=r.1
    ·rw[c2];rcases q with q|q<;>rw[q]<;>decide
    ·by_cases c3:j<gY s (r.1+1)
     ·unfold gY at c3;split at c3
      ·rename_i q3;obtain rfl:j=r.1+1:=by omega
       rcases q3 with q3|q3<;>rw[q3]<;>decide
      ·omega
     ·exact wK (qM (s:=s) (k:=gY s (r.1+1)) (by omega) y).2
  ·exact p
 ·exact p
theorem BX{p:UInt8→Bool}:∀{l:ao} {b:UInt8},l.getLast?=some b→p b=false→(l.dropWhile p).getLast?=some b
 | [],b,h,_=>by simp at h
 | c:: l,b,h,hp=>by
   rw[List.dropWhile_cons];split
   ·rename_i hc;cases l with
    | nil=>simp at h;subst h;rw[hp]at hc;cases hc
    | cons d l=>exact BX (by simpa[List.getLast?_cons_cons]using h) hp
   ·exact h
theorem indexAny_hit:∀{l:ao},0≤Lib.indexAny l m→∃b,l[(Lib.indexAny l m).toNat]?=some b∧m.contains b=true
 | [],h=>by simp[Lib.indexAny]at h
 | c:: l,h=>by
   unfold Lib.indexAny at h ⊢
   by_cases q:m.contains c=true
   ·rw[if_pos q];exact⟨c,rfl,q⟩
   ·rw[if_neg q]at h ⊢
    by_cases z:(Lib.indexAny l m == -1)=true
    ·rw[if_pos z]at h;exact absurd h (by decide)
    ·rw[if_neg z]at h ⊢;have hg:=Lib.indexAny_ge m l;have h0:0≤Lib.indexAny l m:=by have:Lib.indexAny l m≠-1:=(by simpa using z);omega
     obtain⟨b,hb,hm⟩:=indexAny_hit h0;refine⟨b, ?_,hm⟩;rw[show (Lib.indexAny l m+1).toNat=(Lib.indexAny l m).toNat+1 by omega,List.getElem?_cons_succ];exact hb
def fP(s:ao)(a:Nat):ao:=(s.take (Rt.gL s a).1).drop a
def S9(ha:a<s.length)(hn:Rt.lN s a=true):fP s a≠[]∧(fP s a).length≤s.length∧rK (fP s a)∧(0≤Lib.indexAny (Lib.trimLeftS (fP s a) [43,45]) [101,69]→(Lib.indexAny (Lib.trimLeftS (fP s a) [43,45]) [101,69]).toNat+1<(Lib.trimLeftS (fP s a) [43,45]).length):=by
 obtain⟨h1,h2,h3⟩:=zm ha hn;have h4:=A9 (s:=s) (i:=a) (by omega);have hl:(fP s a).length=(Rt.gL s a).1-a:=by unfold fP;rw[List.length_drop,aai];omega
 have hg:∀j,j<(fP s a).length→(fP s a)[j]?=some (Rt.aJ s (a+j)):=fun j hj=>by
  unfold fP;rw[aag,To,if_pos (by omega),ib (show a+j<s.length by omega)];exact bY _
 refine⟨fun e=>by rw[e]at hl;simp at hl;omega,by omega, ?_, ?_⟩
 ·intro b hb;obtain⟨j,hj,e⟩:=List.getElem_of_mem hb;have:=hg j hj;rw[bY hj]at this;rw[e]at this;rw[GO this];exact h3 _ (by omega) (by omega)
 ·have hlast:(fP s a).getLast?=some (Rt.aJ s ((Rt.gL s a).1-1)):=by
   rw[List.getLast?_eq_getElem?,hg _ (by omega)]
   congr 2;omega
  have hp:([43,45]:ao).contains (Rt.aJ s ((Rt.gL s a).1-1))=false:=by
   have key:((List.range 256).all fun n=>!(Rt.de (UInt8.ofNat n))||!(([43,45]:ao).contains (UInt8.ofNat n)))=true:=by kernel_rfl
   have:=nW key (Rt.aJ s ((Rt.gL s a).1-1));rw[UInt8.ofNat_toNat,h2]at this;simpa using this
  have hl2:(Lib.trimLeftS (fP s a) [43,45]).getLast?=some (Rt.aJ s ((Rt.gL s a).1-1)):=BX hlast hp;intro h0;obtain⟨b,hb,hm⟩:=indexAny_hit h0;have hlt:=(dO.1 hb).1;rcases AS ((Lib.indexAny (Lib.trimLeftS (fP s a) [43,45]) [101,69]).toNat+1) (Lib.trimLeftS (fP s a) [43,45]).length with q|q
  ·exact q
  ·exfalso;rw[List.getLast?_eq_getElem?,show (Lib.trimLeftS (fP s a) [43,45]).length-1=(Lib.indexAny (Lib.trimLeftS (fP s a) [43,45]) [101,69]).toNat by omega,hb]at hl2;have:b=Rt.aJ s ((Rt.gL s a).1-1):=GO hl2;rw[←this]at h2;have key:((List.range 256).all fun n=>!(Rt.de (UInt8.ofNat n))||!(([101,69]:ao).contains (UInt8.ofNat n)))=true:=by kernel_rfl
   have:=nW key b;rw[UInt8.ofNat_toNat,h2,hm]at this;cases this
def ku(s:ao)(i:Nat):Tok×Nat:=
 let r:=Rt.gL s i
 if Rt.jz s r.1=true then (⟨12,[],nF (fP s i),(Rt.cW s r.1).1,r.2⟩,(Rt.cW s r.1).2)
 else if Rt.aJ s r.1=37 then (⟨11,[],nF (fP s i),[],false⟩,r.1+1) else (⟨10,[],nF (fP s i),[],r.2⟩,r.1)
abbrev sx(t:Tok):aY:=cm t.k t.t t.n t.u t.f
def CU{KS:aa→Prop}(hv:H[V]?=some (sx t))(hc:bU [u8 t.k,.str t.t,i_ t.n,.str t.u,Aw.b_ t.f] o [c]=[u8 t'.k,.str t'.t,i_ t'.n,.str t'.u,Aw.b_ t'.f])(ho:o<5)(hs:bw c=true)(hk:bl c=[c])(q:KS (H.set V (sx t'))):ah 1 (.op V o) c H KS:=by
 refine aM (cs:=[c]) (h':=H.set V (sx t')) rfl hv rfl hk (by simp;omega) rfl (by rw[aaC,hs];rfl) ?_ q;show H.set V (.ak ⟨_,bU _ o [c],true⟩)=_;rw[hc]
def KL[Laid]{args args':List AV}{K:AV→Prop}(e:args=args')(hb:cJ P f=true)(c:aV P f args' r)(k:K r):pf P (.fn (.func f) [] []) args h K:=by
 subst e;exact⟨r,hb,fun ext=>by simpa using c.call (h:=h++ext) (K:=fun v h' => v=r∧h'=h++ext) ⟨rfl,rfl⟩,k⟩
variable [bB]
def SM{id a:Nat}{K:AV→aa→Prop}(sc:Sc id h s a)(ey:y=.op id 0)(hs:s.length≤2^20)(ha:a<s.length)(hn:Rt.lN s a=true)(k:∀H,Mw id s (ku s a).2 h H→K (ku s a).1.av H):bA p_ (.fn (.func 95) [] []) [y] h K:=by
 subst ey;have hid:=sc.lt;refine cu (by kernel_rfl) rfl (K0:=fun r H=>r=(ku s a).1.av∧Mw id s (ku s a).2 h H) ?_ (by rintro r H ⟨rfl,m⟩;exact k H m);refine (V95 _).bR ?_;unfold WE;obtain⟨x1,x2,x3,x4⟩:=S9 ha hn;have hE:=A9 (s:=s) (i:=a) (by omega);obtain⟨E,b,hEb⟩:∃E b,Rt.gL s a=(E,b):=⟨_,_,rfl⟩;have hN:ku s a=if Rt.jz s E=true then (⟨12,[],nF (fP s a),(Rt.cW s E).1,b⟩,(Rt.cW s E).2) else if Rt.aJ s E=37 then (⟨11,[],nF (fP s a),[],false⟩,E+1) else (⟨10,[],nF (fP s a),[],b⟩,E):=by unfold ku;rw[hEb]
 have hx:fP s a=(s.take E).drop a:=by unfold fP;rw[hEb]
 obtain⟨v,hv⟩:∃v,nF (fP s a)=v:=⟨_,rfl⟩;rw[hv]at hN;rw[hEb]at hE;dsimp only at hE;refine bq (cs:=[u8 0,.str [],i_ 0,.str [],ff]) (n:=h.length) (h':=h++[cm 0 [] 0 [] false]) rfl (by simp[bw]) rfl rfl ?_;have sc2:Sc id (h++[cm 0 [] 0 [] false]) s a:=sc.app _;refine bD (zzA (zzU sc2 rfl (SK sc2 rfl hs (by omega) ?_)));rw[hEb];have m1:Mw id s E (h++[cm 0 [] 0 [] false]) ((h++[cm 0 [] 0 [] false]).set id (dB s E)):=(Mw.refl sc2).set E;have hV1:((h++[cm 0 [] 0 [] false]).set id (dB s E))[h.length]?=some (cm 0 [] 0 [] false):=by rw[m1.im _ (by simp) (by omega)];simp
 have hL1:((h++[cm 0 [] 0 [] false]).set id (dB s E)).length=h.length+1:=by simp
 obtain⟨H1,hH1⟩:∃H1,(h++[cm 0 [] 0 [] false]).set id (dB s E)=H1:=⟨_,rfl⟩;rw[hH1]at m1 hV1 hL1 ⊢;refine bD (zzA (zzU m1.sc rfl (bD (zzA (zzU m1.sc rfl (oO (a:=a) (b:=E) (r:=fP s a) rfl rfl rfl (by omega) hE.2 hx.symm (KL rfl (by kernel_rfl) (I5 _ x1 (by omega) x3 x4) ?_)))))));rw[hv];refine bp rfl ?_;show ah _ _ _ _ _;obtain⟨T,hT⟩:∃T,H1.length+1+0=T:=⟨_,rfl⟩;rw[hT];have hgT:(H1++[aY.dead]++[cm 0 [] 0 [] false])[T]?=some (cm 0 [] 0 [] false):=by
  rw[←hT,iD (by simp)];simp
 have hlt:=(dO.1 hgT).1;have hLx:(H1++[aY.dead]++[cm 0 [] 0 [] false]).length=T+1:=by simp;omega
 refine aM (cs:=[u8 10,.str [],i_ v,.str [],Aw.b_ b]) (h':=(H1++[aY.dead]++[cm 0 [] 0 [] false]).set T (sx ⟨10,[],v,[],b⟩)) rfl hgT rfl rfl (by simp) rfl (by simp[bw]) rfl ?_;have oth2:∀i,i<h.length+1→((H1++[aY.dead]++[cm 0 [] 0 [] false]).set T (sx ⟨10,[],v,[],b⟩))[i]?=H1[i]?:=fun i hi=>by
  rw[iN (by omega),TO,gE (by omega)]
 have m2:Mw id s E (h++[cm 0 [] 0 [] false]) ((H1++[aY.dead]++[cm 0 [] 0 [] false]).set T (sx ⟨10,[],v,[],b⟩)):=m1.ext (by first|(simp;done)|(simp;omega)) (by first|(simp;done)|(simp;omega)) fun i hi=>oth2 i (by simpa using hi);have hV2:((H1++[aY.dead]++[cm 0 [] 0 [] false]).set T (sx ⟨10,[],v,[],b⟩))[h.length]?=some (cm 0 [] 0 [] false):=by rw[oth2 _ (by omega)];exact hV1
 have hT2:((H1++[aY.dead]++[cm 0 [] 0 [] false]).set T (sx ⟨10,[],v,[],b⟩))[T]?=some (sx ⟨10,[],v,[],b⟩):=iF hlt;have hL2:((H1++[aY.dead]++[cm 0 [] 0 [] false]).set T (sx ⟨10,[],v,[],b⟩)).length=T+1:=by simp;omega
 obtain⟨H2,hH2⟩:∃H2,(H1++[aY.dead]++[cm 0 [] 0 [] false]).set T (sx ⟨10,[],v,[],b⟩)=H2:=⟨_,rfl⟩;rw[hH2]at m2 hV2 hT2 hL2 ⊢;refine cL (fun _ H=>Mw id s (ku s a).2 h H∧H[h.length]?=some (cm 0 [] 0 [] false)∧H[T]?=some (sx (ku s a).1)) (fun _ H hH=>?_) fun F hF=>?_
 ·obtain⟨mm,q1,q2⟩:=hH;refine zzV q2 (by simp) (pY (k:=(ku s a).1.k) (n:=(ku s a).1.n) (t:=(ku s a).1.t) (u:=(ku s a).1.u) (f:=(ku s a).1.f) q1 ?_);refine⟨_,_,Wk.refl _ _ _ (by simpa using mm.len),rfl, ?_⟩;exact mm.ext hid (by simp) fun i hi=>iN (by omega)
 ·refine zd 0 m2.sc rfl rfl (by omega) ?_;rw[Nat.add_zero,zi];cases c1:Rt.jz s E with
  | true =>
    rw[if_pos c1]at hN;refine zzL rfl ?_;refine wV m2.sc rfl hs hE.2 fun H3 m3=>?_;have hT3:H3[T]?=some (sx ⟨10,[],v,[],b⟩):=by rw[m3.im _ (by omega) (by omega)];exact hT2
    have hV3:H3[h.length]?=some (cm 0 [] 0 [] false):=by rw[m3.im _ (by omega) (by omega)];exact hV2
    have hl3:=(dO.1 hT3).1;refine zzA (CU (t':=⟨12,[],v,[],b⟩) hT3 rfl (by decide) rfl rfl (zzA ?_));refine CU (t':=⟨12,[],v,(Rt.cW s E).1,b⟩) (iF hl3) rfl (by decide) rfl rfl ?_;rw[aam];refine ar (hF _ _ ⟨?_, ?_, ?_⟩)
    ·rw[hN];exact (m2.trans ⟨by simpa using m3.len,m3.sc,fun i hi hne=>m3.im i hi hne⟩).pre.ext hid (by simp) fun i hi=>iN (by omega)
    ·rw[iN (by omega)];exact hV3
    ·rw[hN];exact iF hl3
  | false =>
    rw[if_neg (by rw[c1];decide)]at hN;refine zzK rfl (cZ 0 m2.sc rfl rfl (by omega) ?_);rw[Nat.add_zero];refine zzG ?_;rw[fA (c:=37) 37 rfl (by decide)]
    by_cases c2:Rt.aJ s E=37
    ·rw[if_pos c2]at hN;have hlt2:E<s.length:=at_lt (by rw[c2];decide);refine zzL (tO c2) (iU m2.sc (by omega) rfl ?_);have hT3:(H2.set id (dB s (E+1)))[T]?=some (sx ⟨10,[],v,[],b⟩):=by rw[iN (by omega)];exact hT2
     have hl3:=(dO.1 hT3).1;refine zzA (CU (t':=⟨11,[],v,[],b⟩) hT3 rfl (by decide) rfl rfl (zzA ?_));refine CU (t':=⟨11,[],v,[],false⟩) (iF hl3) rfl (by decide) rfl rfl ?_;rw[aam];refine ar (hF _ _ ⟨?_, ?_, ?_⟩)
     ·rw[hN];exact (m2.set (E+1)).pre.ext hid (by simp) fun i hi=>iN (by omega)
     ·rw[iN (by omega),iN (by omega)];exact hV2
     ·rw[hN];exact iF hl3
    ·rw[if_neg c2]at hN;refine zzK (oF c2) ?_;refine ar (hF _ _ ⟨by rw[hN];exact m2.pre,hV2,by rw[hN];exact hT2⟩)
end
section
open Go Go.Aw
variable [Laid]
def Wx(a:AV)(h:aa)(K:AV→aa→Prop):Prop:=
 aB 83 (.agg [u8 0,.str [],i_ 0,.str [],ff]) h fun b r=>Aq r (fun Q=>iC p_ 86 [a,i_ 0] r fun i s=>qLd p_ a 1 s fun R=>qBe .add R 1 fun S=>qSt p_ a 1 S s fun T=>aI (fun t=>bc [qNs] T fun p e U =>
 iC p_ 86 [a,i_ 0] U fun c j=>qBe .eql c (-1) fun V=>af V (eC [b] (t [nx e 0] j)) (ag .eql c i fun W=>af W (qLd p_ a 1 j fun X=>qBe .add X 1 fun Y=>qSt p_ a 1 Y j fun Z=>eC [b] (t [nx e 0] Z)) (qBe .eql c 10 fun a0=>af a0 (bf (.agg [u8 0,.str [],i_ 0,.str [],ff]) [(0,1,(u8 6))] fun a1=>ah 5 b a1 j fun u=>ae true 5 b u fun r33=>K r33 u) (qBe .eql c 92 fun v=>aI (fun w=>aL v true (iC p_ 86 [a,i_ 1] j fun a2 a3=>qBe .eql a2 (-1) fun a4=>eC [a,b,i,nx e 0,c] (w [tt,a4] a3)) (eC [a,b,i,nx e 0,c] (w [bO true v,un] j))) fun l x=>aI (fun y=>aL (nx l 1) false (iC p_ 86 [a,i_ 1] x fun a5 a6=>qBe .eql a5 10 fun a7=>eC [a,b,i,nx e 0,c,nx l 0] (y [ff,a7] a6)) (eC [a,b,i,nx e 0,c,nx l 0] (y [(bO false (nx l 1)),un] x))) fun z A=>qJa (nx l 0) [a,b,i,nx e 0,c] A (fun a8=>bG (nx z 0) tt (nx z 1) fun a9=>a8 a9 A) fun b0 m=>af b0 (qLd p_ a 1 m fun b1=>qBe .add b1 2 fun b2=>qLd p_ a 0 m fun b3=>iT b3 fun b4=>kD b2 b4 fun b5=>qSt p_ a 1 b5 m fun b6=>eC [a,b,i] (p [nx e 0] b6)) (qBe .eql c 92 fun b7=>af b7 (iC p_ 143 [a,nx e 0] m fun b8 b9=>eC [a,b,i] (p [b8] b9)) (cH .u8 c fun c0=>bz 1 1 (u8 0) [(0,1,c0)] fun c1=>bN false 5 1 1 (nx e 0) c1 m fun c2 B=>qLd p_ a 1 B fun c3=>qBe .add c3 1 fun c4=>qSt p_ a 1 c4 B fun c5=>eC [a,b,i] (p [c2] c5))))))) fun c6 C=>dk (nx c6 0) C fun c7=>bf (.agg [u8 0,.str [],i_ 0,.str [],ff]) [(0,1,(u8 5)),(1,1,c7)] fun c8=>ah 5 b c8 C fun D=>ae true 5 b D fun r83=>K r83 D) fun Q f c9 =>
 aI (fun E=>bc [nx f 1] c9 fun q g d0 =>
 iC p_ 86 [a,i_ 0] d0 fun d k=>qBe .eql d (-1) fun d1=>af d1 (eC [b] (E [nx g 0] k)) (ag .eql d (nx f 0) fun d2=>af d2 (qLd p_ a 1 k fun d3=>qBe .add d3 1 fun d4=>qSt p_ a 1 d4 k fun d5=>eC [b] (E [nx g 0] d5)) (qBe .eql d 10 fun d6=>af d6 (bf (.agg [u8 0,.str [],i_ 0,.str [],ff]) [(0,1,(u8 6))] fun d7=>ah 5 b d7 k fun F=>ae true 5 b F fun r102=>K r102 F) (qBe .eql d 92 fun G=>aI (fun H=>aL G true (iC p_ 86 [a,i_ 1] k fun d8 d9=>qBe .eql d8 (-1) fun e0=>eC [a,b,nx f 0,nx g 0,d] (H [tt,e0] d9)) (eC [a,b,nx f 0,nx g 0,d] (H [bO true G,un] k))) fun n I=>aI (fun J=>aL (nx n 1) false (iC p_ 86 [a,i_ 1] I fun e1 e2=>qBe .eql e1 10 fun e3=>eC [a,b,nx f 0,nx g 0,d,nx n 0] (J [ff,e3] e2)) (eC [a,b,nx f 0,nx g 0,d,nx n 0] (J [(bO false (nx n 1)),un] I))) fun L M=>qJa (nx n 0) [a,b,nx f 0,nx g 0,d] M (fun e4=>bG (nx L 0) tt (nx L 1) fun e5=>e4 e5 M) fun e6 o=>af e6 (qLd p_ a 1 o fun e7=>qBe .add e7 2 fun e8=>qLd p_ a 0 o fun e9=>iT e9 fun f0=>kD e8 f0 fun f1=>qSt p_ a 1 f1 o fun f2=>eC [a,b,nx f 0] (q [nx g 0] f2)) (qBe .eql d 92 fun f3=>af f3 (iC p_ 143 [a,nx g 0] o fun f4 f5=>eC [a,b,nx f 0] (q [f4] f5)) (cH .u8 d fun f6=>bz 1 1 (u8 0) [(0,1,f6)] fun f7=>bN false 5 1 1 (nx g 0) f7 o fun f8 N=>qLd p_ a 1 N fun f9=>qBe .add f9 1 fun g0=>qSt p_ a 1 g0 N fun g1=>eC [a,b,nx f 0] (q [f8] g1))))))) fun g2 O=>dk (nx g2 0) O fun g3=>bf (.agg [u8 0,.str [],i_ 0,.str [],ff]) [(0,1,(u8 5)),(1,1,g3)] fun g4=>ah 5 b g4 O fun P=>ae true 5 b P fun r152=>K r152 P
def V89(a:AV):ej p_ 89 [a] (Wx a):=mkM Tryz.func89 (sn (.seq (.loop [0] [] .nil) (.join [0,2] [3,4] (sn (sn (sn (sn (.join [2] [4] (.one (.loop [0,2,3] [4] (.one (sn (.one (sn (.two .nil (sn (.two .nil (sn (.two .nil (.seq (.aO (oR 0 3 (.aA 2 true (fR 3 4) [0,2,3,4,5] [50,54]::.aA 6 false (fR 7 3) [0,2,3,4,5,50] [54,57]::.aA 2 true [(10,false)] [0,2,3,4,5] [50,58]::oR 11 2 []))) (.two (.draw 14 (oR 0 14 []) [.op 14 false] []) (sn (.two .nil (.seq (.aO (oR 0 3 (.op 3 true::oR 4 2 []))) .nil)))))))))))))))) .nil))))) (sn (.join [2] [4] (.one (.loop [0,2,3] [4] (.one (sn (.one (sn (.two .nil (sn (.two .nil (sn (.two .nil (.seq (.aO (oR 0 3 (.aA 2 true (fR 3 4) [0,2,3,4,5] [50,54]::.aA 6 false (fR 7 3) [0,2,3,4,5,50] [54,57]::.aA 2 true [(10,false)] [0,2,3,4,5] [50,58]::oR 11 2 []))) (.two (.draw 14 (oR 0 14 []) [.op 14 false] []) (sn (.two .nil (.seq (.aO (oR 0 3 (.op 3 true::oR 4 2 []))) .nil)))))))))))))))) .nil))))) 83 [.cell 2 83]
end
section
open Go Go.Aw Go.RowKit
def DP(s:ao)(i:Nat):(Rt.cP s i).1.length≤4:=by
 unfold Rt.cP;split
 ·simp[Rt.kz]
 ·split
  ·simp
  ·simp only[Rt.rE];repeat' split
   all_goals simp[Rt.kz]
def uF(a b:ao)(r:Option ao×Nat):Rt.jC a (Rt.jC b r)=Rt.jC (a++b) r:=by
 obtain⟨o,n⟩:=r;cases o<;>simp[Rt.jC]
def Ew(r:Option ao×Nat):Rt.jC [] r=r:=by
 obtain⟨o,n⟩:=r;cases o<;>simp[Rt.jC]
def EP:Option ao→Tok
 | some t=>⟨5,t,0,[],false⟩
 | none=>⟨6,[],0,[],false⟩
def rD:Option ao→Tok
 | some t=>⟨7,t,0,[],false⟩
 | none=>⟨8,[],0,[],false⟩
def Oa(h:i<s.length):IntKind.u8.wrap (pk s i)=(s[i].toNat:Int):=by
 rw[oJ h,ib h,IntKind.wrap_u8];have:=s[i].toNat_lt;omega
def Jv[Laid]{id i:Nat}{P:Program}(m:Mw id s i h H)(hid:id<h.length)(g:Gb h.length x H l)(hi:i<s.length)(hs:s.length≤2^20)(hl:l.length≤2^30)(ey:y=.op id 0){K:AV→aa→Prop}
 (k:∀z H',Mw id s (i+1) h H'→Gb h.length z H' (l++[s[i]])→K z H'):cH .u8 (i_ (pk s i)) fun v1=>bz 1 1 (u8 0) [(0,1,v1)] fun v2=>bN false 5 1 1 x v2 H fun v3 g4=>ca P y fun v5=>aN 1 v5 fun v6=>ae false 1 v6 g4 fun v7=>ag .add v7 (i_ 1) fun v8=>ca P y fun v9=>aN 1 v9 fun v10=>ah 1 v10 v8 g4 fun g5=>K v3 g5:=by
 refine eD (m:=(s[i].toNat:Int)) rfl (Oa hi) (ER ?_);refine pd (n:=h.length) (l:=l) (m:=[s[i]]) g m.len (by simp;omega) rfl fun z H' gz hz oz=>?_;have m2:=m.ext hid hz oz;exact iU m2.sc (by omega) ey (k _ _ (m2.set _) (gz.mv hid m2.sc))
variable [Laid]
def SO{id a:Nat}{K:AV→aa→Prop}(sc:Sc id h s a)(ey:y=.op id 0)(hs:s.length≤2^20)(ha:a<s.length)(hm:Rt.aJ s a=34∨Rt.aJ s a=39)(k:∀H,Mw id s (Rt.iK (Rt.aJ s a) s (a+1)).2 h H→K (EP (Rt.iK (Rt.aJ s a) s (a+1)).1).av H):bA p_ (.fn (.func 89) [] []) [y] h K:=by
 subst ey;have hid:=sc.lt;obtain⟨R,hR⟩:∃R,Rt.iK (Rt.aJ s a) s (a+1)=R:=⟨_,rfl⟩;rw[hR]at k;refine cu (by kernel_rfl) rfl (K0:=fun r H=>r=(EP R.1).av∧Mw id s R.2 h H) ?_ (by rintro r H ⟨rfl,m⟩;exact k H m);refine (V89 _).bR ?_;unfold Wx;refine bq (cs:=[u8 0,.str [],i_ 0,.str [],ff]) (n:=h.length) (h':=h++[cm 0 [] 0 [] false]) rfl (by simp[bw]) rfl rfl ?_;obtain⟨hB,hhB⟩:∃hB,h++[cm 0 [] 0 [] false]=hB:=⟨_,rfl⟩;have hBl:hB.length=h.length+1:=by rw[←hhB];simp
 have scB':Sc id hB s a:=by rw[←hhB];exact sc.app _
 have hV:hB[h.length]?=some (cm 0 [] 0 [] false):=by rw[←hhB];simp
 have pre:∀{b H},Mw id s b hB H→Mw id s b h H:=fun m=>by rw[←hhB]at m;exact m.pre
 rw[hhB]
 -- a token is handed back
 have ret:∀(t:Tok) (b:Nat) (T:aa),Mw id s b hB T→R.2=b→(EP R.1)=t→ah 5 (.op h.length 0) t.av T fun g=>ae true 5 (.op h.length 0) g fun r=>∃r' h'',Wk h.length [r] g [r'] h''∧r'=(EP R.1).av∧Mw id s R.2 h h'':=by
  intro t b T m e1 e2;refine pY (k:=t.k) (n:=t.n) (t:=t.t) (u:=t.u) (f:=t.f) (by rw[m.im _ (by omega) (by omega)];exact hV) ?_;refine⟨_,_,Wk.refl _ _ _ (by have:=m.len;simp;omega),by rw[e2], ?_⟩;rw[e1];exact (pre m).ext hid (by simp) fun i hi=>iN (by omega)
 refine Ar (α:=Empty) (fun _=>True) (fun _=>[]) (fun _=>[]) (fun _=>0) ?_ (fun x=>x.elim);refine cZ 0 scB' rfl rfl (by omega) ?_;rw[Nat.add_zero];refine iU scB' (by omega) rfl ?_;have m0:=(Mw.refl scB').set (a+1);have hmn:Rt.aJ s a≠0:=by rcases hm with h|h<;>rw[h]<;>decide
 have hpm:pk s a=((Rt.aJ s a).toNat:Int):=oJ ha;obtain⟨mk,hmk⟩:∃mk,Rt.aJ s a=mk:=⟨_,rfl⟩;rw[hmk]at hR hmn hpm;refine cL (fun v T=>∃l i,Gb hB.length (nx v 0) T l∧Mw id s i hB T∧R=(some l,i)) (fun v T hT=>?_) fun F hF=>?_
 ·obtain⟨l,i,g,m,e⟩:=hT;refine DU g (bp rfl ?_);exact ret ⟨5,l,0,[],false⟩ i T m (by rw[e]) (by rw[e];rfl)
 ·refine aG (α:=Nat×AV×aa×ao) (fun p=>p.1≤s.length∧Mw id s p.1 hB p.2.2.1∧Gb hB.length p.2.1 p.2.2.1 p.2.2.2∧p.2.2.2.length≤4*p.1∧Rt.jC p.2.2.2 (Rt.iK mk s p.1)=R) (fun p=>[p.2.1]) (fun p=>p.2.2.1) (fun p=>s.length-p.1) (a+1,.v (.slice none 0 0),hB.set id (dB s (a+1)),[]) ⟨ha,m0,.inl ⟨rfl,rfl⟩,by simp,by rw[Ew];exact hR⟩ (Wk.refl _ _ _ (by simp)) ?_;rintro⟨i,x,H,l⟩ ⟨hi,m,g,hl,hr⟩;dsimp only at hi m g hl hr ⊢;have hH:=m.len;have hLn:(hB.set id (dB s (a+1))).length=hB.length:=by simp
  refine cZ 0 m.sc rfl rfl (by omega) ?_;rw[Nat.add_zero];refine zzG ?_;rw[Rt.iK]at hr
  by_cases q:i<s.length
  ·rw[dif_pos q]at hr;have hat:=ib q;refine zzK (oF (by rw[iX];simpa using q)) (zzG ?_);rw[fA (c:=mk) _ hpm hmn]
   by_cases q1:Rt.aJ s i=mk
   ·rw[if_pos (by rw[←hat];exact q1)]at hr;refine zzL (tO q1) (iU m.sc (by omega) rfl ?_);refine ar (hF _ _ ⟨l,i+1,g.mv (by omega) m.sc,m.set _,by rw[←hr];simp[Rt.jC]⟩)
   ·rw[if_neg (by rw[←hat];exact q1)]at hr;refine zzK (oF q1) (zzG ?_);rw[fA (c:=10) 10 rfl (by decide)]
    by_cases q2:Rt.aJ s i=10
    ·rw[if_pos (by rw[←hat];exact q2)]at hr;refine zzL (tO q2) (bp rfl ?_);exact ret ⟨6,[],0,[],false⟩ i H m (by rw[←hr];rfl) (by rw[←hr];rfl)
    ·rw[if_neg (by rw[←hat];exact q2)]at hr;refine zzK (oF q2) (zzG ?_);rw[fA (c:=92) 92 rfl (by decide)]
     by_cases q3:Rt.aJ s i=92
     ·rw[if_pos (by rw[←hat];exact q3)]at hr;rw[tO q3];refine aK (zzN rfl (cZ 1 m.sc rfl rfl (by omega) (zzG (ar ?_))));refine lv (decide (¬i+1<s.length∨Rt.aJ s (i+1)=10)) (b1:=decide (pk s (i+1)=-1)) rfl (fun z=>by have z:=uP z;rw[iX]at z;simp[z]) (fun z F hF=>?_) fun v hv=>?_
      ·have z:=At z;rw[iX]at z;refine cZ 1 m.sc rfl rfl (by omega) (zzG ?_);rw[fA (c:=10) 10 rfl (by decide)];simp only[z,false_or]at hF;exact ar hF
      refine aK (zzN rfl (kB hv (ar (zzR ?_))))
      by_cases q4:¬i+1<s.length∨Rt.aJ s (i+1)=10
      ·refine zzL (tO q4) (bD (zzA (zzU m.sc rfl (zzP (by unfold aZ;omega) (bD (zzA (zzU m.sc rfl (G1 rfl (zze (bD (zzA (aM (cs:=[i_ ((min (i+2) s.length:Nat):Int)]) (h':=H.set id (dB s (min (i+2) s.length))) rfl m.sc rfl (by show [i_ (min ((i:Int)+2) (s.length:Int))]=_;rw[show min ((i:Int)+2) (s.length:Int)=((min (i+2) s.length:Nat):Int) by omega]) (by simp) rfl rfl rfl ?_))))))))))));refine ar ⟨(min (i+2) s.length,x,H.set id (dB s (min (i+2) s.length)),l),⟨Nat.min_le_right _ _,m.set _,g.mv (by omega) m.sc,by dsimp only;omega, ?_⟩,Wk.refl _ _ _ (by simp;omega),by dsimp only;omega⟩;dsimp only;rw[←hr]
       by_cases q5:i+1=s.length
       ·rw[if_pos q5,show min (i+2) s.length=i+1 by omega,Rt.iK,dif_neg (by omega)]
       ·rw[if_neg q5,show min (i+2) s.length=i+2 by omega];rw[if_pos (q4.resolve_left (by omega))]
      ·refine zzK (oF q4) ?_;have q5:i+1≠s.length:=by omega
       have q6:Rt.aJ s (i+1)≠10:=fun z=>q4 (.inr z);rw[if_neg q5,if_neg q6]at hr;refine zzG ?_;rw[fA (c:=92) 92 rfl (by decide)];refine zzL (tO q3) ?_;have hel:=DP s i;have heg:=Rt.fw s i;refine sd m (by omega) rfl g hs (by omega) q fun z H' mz gz=>?_;refine ar ⟨((Rt.cP s i).2,z,H',l++(Rt.cP s i).1),⟨ko q,mz,gz,by simp;omega, ?_⟩,Wk.refl _ _ _ (by have:=mz.len;omega),by dsimp only;omega⟩;dsimp only;rw[←hr,uF]
     ·rw[if_neg (by rw[←hat];exact q3)]at hr;rw[oF q3];refine aK (zzM rfl (ar (aK (cX rfl (ar (aK (zzM rfl (ar (zzQ (zzK rfl (zzG ?_)))))))))));rw[fA (c:=92) 92 rfl (by decide)];refine zzK (oF q3) ?_;refine Jv m (by omega) g q hs (by omega) rfl fun z H' mz gz=>?_;refine ar ⟨(i+1,z,H',l++[s[i]]),⟨q,mz,gz,by simp;omega, ?_⟩,Wk.refl _ _ _ (by have:=mz.len;omega),by dsimp only;omega⟩;dsimp only;rw[←hr,uF]
  ·rw[dif_neg q]at hr;refine zzL (tO (iX.2 q)) ?_;exact ar (hF _ _ ⟨l,i,g,m,by rw[←hr];simp[Rt.jC]⟩)
def SJ{id a:Nat}{K:AV→aa→Prop}(sc:Sc id h s a)(ey:y=.op id 0)(hs:s.length≤2^20)(ha:a≤s.length)(k:∀H,Mw id s (Rt.lJ s a) h H→K (rD none).av H):bA p_ (.fn (.func 206) [] []) [y] h K:=by
 subst ey;have hid:=sc.lt;obtain⟨R,hR⟩:∃R,Rt.lJ s a=R:=⟨_,rfl⟩;rw[hR]at k;refine cu (by kernel_rfl) rfl (K0:=fun r H=>r=(rD none).av∧Mw id s R h H) ?_ (by rintro r H ⟨rfl,m⟩;exact k H m);refine (X2 _).bR ?_;unfold Ru;refine bq (cs:=[u8 0,.str [],i_ 0,.str [],ff]) (n:=h.length) (h':=h++[cm 0 [] 0 [] false]) rfl (by simp[bw]) rfl rfl ?_;obtain⟨hB,hhB⟩:∃hB,h++[cm 0 [] 0 [] false]=hB:=⟨_,rfl⟩;have hBl:hB.length=h.length+1:=by rw[←hhB];simp
 have scB':Sc id hB s a:=by rw[←hhB];exact sc.app _
 have hV:hB[h.length]?=some (cm 0 [] 0 [] false):=by rw[←hhB];simp
 have pre:∀{b H},Mw id s b hB H→Mw id s b h H:=fun m=>by rw[←hhB]at m;exact m.pre
 rw[hhB];have ret:∀(b:Nat) (T:aa),Mw id s b hB T→R=b→ah 5 (.op h.length 0) (uS 8 [] 0 [] false) T fun g=>ae true 5 (.op h.length 0) g fun r=>∃r' h'',Wk h.length [r] g [r'] h''∧r'=(rD none).av∧Mw id s R h h'':=by
  intro b T m e1;refine pY (k:=8) (n:=0) (t:=[]) (u:=[]) (f:=false) (by rw[m.im _ (by omega) (by omega)];exact hV) ?_;refine⟨_,_,Wk.refl _ _ _ (by have:=m.len;simp;omega),rfl, ?_⟩;rw[e1];exact (pre m).ext hid (by simp) fun i hi=>iN (by omega)
 refine aG (α:=Nat×aa) (fun p=>p.1≤s.length∧Mw id s p.1 hB p.2∧Rt.lJ s p.1=R) (fun p=>[]) (fun p=>p.2) (fun p=>s.length-p.1) (a,hB) ⟨ha,Mw.refl scB',hR⟩ (Wk.refl _ _ _ (aS _)) ?_;rintro⟨i,H⟩ ⟨hi,m,hr⟩;dsimp only at hi m hr ⊢;have hH:=m.len;refine cZ 0 m.sc rfl rfl (by omega) ?_;rw[Nat.add_zero];refine zzG ?_;rw[Rt.lJ]at hr
 by_cases q:i<s.length
 ·rw[dif_pos q]at hr;have hat:=ib q;refine zzK (oF (by rw[iX];simpa using q)) (wU 0 m.sc rfl rfl (by omega) ?_);rw[Nat.add_zero,tm];cases q1:Rt.dP s i with
  | true =>
    have n41:s[i]≠41:=by
     rw[←hat];unfold Rt.dP at q1;simp at q1;rw[q1.1];decide
    rw[if_neg n41,if_pos q1]at hr;have heg:=Rt.fw s i;refine zzL rfl ?_;refine sd (l:=[]) m (by omega) rfl (.inl ⟨rfl,rfl⟩) hs (by simp) q fun z H' mz gz=>?_;exact ar ⟨((Rt.cP s i).2,H'),⟨ko q,mz,hr⟩,Wk.refl _ _ _ mz.len,by dsimp only;omega⟩
  | false =>
    refine zzK rfl (iU m.sc (by omega) rfl ?_);have m2:=m.set (i+1);refine bD (zzA (zzU m2.sc rfl (bD (zzA (zzU m2.sc rfl (zzf (by unfold aZ;omega) ?_))))));refine qx (n:=i) (b:=s[i]) rfl (by show i_ (((i+1:Nat):Int)-1)=_;rw[show ((i+1:Nat):Int)-1=(i:Int) by omega]) (bY q) ?_;refine zzG ?_
    by_cases q2:s[i]=41
    ·rw[if_pos q2]at hr;refine zzL (tO (by rw[q2];rfl)) (bp rfl ?_);exact ret (i+1) _ m2 hr.symm
    ·rw[if_neg q2,if_neg (by rw[q1];decide)]at hr;refine zzK (oF (fun z=>q2 (UInt8.toNat_inj.1 (by show s[i].toNat=41;omega)))) ?_;exact ar ⟨(i+1,H.set id (dB s (i+1))),⟨q,m2,hr⟩,Wk.refl _ _ _ (by simpa using hH),by dsimp only;omega⟩
 ·rw[dif_neg q]at hr;refine zzL (tO (iX.2 q)) (bp rfl ?_);exact ret i H m (by omega)
end
section
open Go Go.Aw Go.RowKit
def Tn(h:i<s.length):(decide (pk s i≤8)||decide (pk s i=11)||ik (pk s i) 14 31||decide (pk s i=127))=Rt.EY s[i]:=by
 rw[oJ h,ib h];unfold Rt.EY ik;have e1:decide (((s[i].toNat:Nat):Int)≤8)=decide (s[i].toNat≤8):=decide_eq_decide.2 (by omega);have e2:decide (((s[i].toNat:Nat):Int)=11)=decide (s[i].toNat=11):=decide_eq_decide.2 (by omega);have e3:decide (14≤((s[i].toNat:Nat):Int))=decide (14≤s[i].toNat):=decide_eq_decide.2 (by omega);have e4:decide (((s[i].toNat:Nat):Int)≤31)=decide (s[i].toNat≤31):=decide_eq_decide.2 (by omega);have e5:decide (((s[i].toNat:Nat):Int)=127)=decide (s[i].toNat=127):=decide_eq_decide.2 (by omega);rw[e1,e2,e3,e4,e5]
def qq(hi:i≤s.length):i≤Rt.dU s i∧Rt.dU s i≤s.length:=by
 unfold Rt.dU;have:=(List.takeWhile_sublist (l:=s.drop i) Rt.je).length_le;rw[List.length_drop]at this;omega
theorem uc(s:ao):∀n i,s.length-i≤n→i≤s.length→Rt.lJ s i≤s.length
 | 0,i,hn,hi=>by rw[Rt.lJ,dif_neg (by omega)];omega
 | n+1,i,hn,hi=>by
   rw[Rt.lJ];split
   ·rename_i h;split
    ·omega
    ·split
     ·have:=Rt.fw s i;exact uc s n _ (by omega) (ko h)
     ·exact uc s n _ (by omega) h
   ·omega
variable [Laid]
def SQ{id a:Nat}{K:AV→aa→Prop}(sc:Sc id h s a)(ey:y=.op id 0)(hs:s.length≤2^20)(ha:a≤s.length)(k:∀H,Mw id s (Rt.gQ s (Rt.dU s a)).2 h H→K (rD (Rt.gQ s (Rt.dU s a)).1).av H):bA p_ (.fn (.func 149) [] []) [y] h K:=by
 subst ey;have hid:=sc.lt;obtain⟨R,hR⟩:∃R,Rt.gQ s (Rt.dU s a)=R:=⟨_,rfl⟩;rw[hR]at k;refine cu (by kernel_rfl) rfl (K0:=fun r H=>r=(rD R.1).av∧Mw id s R.2 h H) ?_ (by rintro r H ⟨rfl,m⟩;exact k H m);refine (Xz _).bR ?_;unfold QX;refine bq (cs:=[u8 0,.str [],i_ 0,.str [],ff]) (n:=h.length) (h':=h++[cm 0 [] 0 [] false]) rfl (by simp[bw]) rfl rfl ?_;obtain⟨hB,hhB⟩:∃hB,h++[cm 0 [] 0 [] false]=hB:=⟨_,rfl⟩;have hBl:hB.length=h.length+1:=by rw[←hhB];simp
 have scB':Sc id hB s a:=by rw[←hhB];exact sc.app _
 have hV:hB[h.length]?=some (cm 0 [] 0 [] false):=by rw[←hhB];simp
 have pre:∀{b H},Mw id s b hB H→Mw id s b h H:=fun m=>by rw[←hhB]at m;exact m.pre
 rw[hhB];have ret:∀(t:Tok) (b:Nat) (T:aa),Mw id s b hB T→R.2=b→(rD R.1)=t→ah 5 (.op h.length 0) t.av T fun g=>ae true 5 (.op h.length 0) g fun r=>∃r' h'',Wk h.length [r] g [r'] h''∧r'=(rD R.1).av∧Mw id s R.2 h h'':=by
  intro t b T m e1 e2;refine pY (k:=t.k) (n:=t.n) (t:=t.t) (u:=t.u) (f:=t.f) (by rw[m.im _ (by omega) (by omega)];exact hV) ?_;refine⟨_,_,Wk.refl _ _ _ (by have:=m.len;simp;omega),by rw[e2], ?_⟩;rw[e1];exact (pre m).ext hid (by simp) fun i hi=>iN (by omega)
 refine ze scB' rfl ha hs ?_;have hsp:=qq ha;have m0:=(Mw.refl scB').set (Rt.dU s a);refine aG (α:=Nat×AV×aa×ao) (fun p=>p.1≤s.length∧Mw id s p.1 hB p.2.2.1∧Gb hB.length p.2.1 p.2.2.1 p.2.2.2∧p.2.2.2.length≤4*p.1∧Rt.jC p.2.2.2 (Rt.gQ s p.1)=R) (fun p=>[p.2.1]) (fun p=>p.2.2.1) (fun p=>s.length-p.1) (Rt.dU s a,.v (.slice none 0 0),hB.set id (dB s (Rt.dU s a)),[]) ⟨hsp.2,m0,.inl ⟨rfl,rfl⟩,by simp,by rw[Ew];exact hR⟩ (Wk.refl _ _ _ (by simp)) ?_;rintro⟨i,x,H,l⟩ ⟨hi,m,g,hl,hr⟩;dsimp only at hi m g hl hr ⊢;have hH:=m.len;refine cZ 0 m.sc rfl rfl (by omega) ?_;rw[Nat.add_zero]
 -- the ends
 have endU:∀(j:Nat) (T:aa),Mw id s j hB T→Gb hB.length x T l→R=(some l,j)→dk x T fun v30=>bf (.agg [(u8 0),(.str []),(i_ 0),(.str []),ff]) [(0,1,(u8 7)),(1,1,v30)] fun v31=>ah 5 (.op h.length 0) v31 T fun g32=>ae true 5 (.op h.length 0) g32 fun r33=>∃r' h'',Wk h.length [r33] g32 [r'] h''∧r'=(rD R.1).av∧Mw id s R.2 h h'':=fun j T mj gj e=>by
  refine DU gj (bp rfl ?_);exact ret ⟨7,l,0,[],false⟩ j T mj (by rw[e]) (by rw[e];rfl)
 have endB:∀(j:Nat) (T:aa),j≤s.length→Mw id s j hB T→R=(none,Rt.lJ s j)→bA p_ (.fn (.func 206) [] []) [.op id 0] T fun v23 g24=>ah 5 (.op h.length 0) v23 g24 fun g25=>ae true 5 (.op h.length 0) g25 fun r26=>∃r' h'',Wk h.length [r26] g25 [r'] h''∧r'=(rD R.1).av∧Mw id s R.2 h h'':=fun j T hj mj e=>by
  refine SJ mj.sc rfl hs hj fun T2 m2=>?_;have m3:Mw id s (Rt.lJ s j) hB T2:=mj.trans m2;exact ret ⟨8,[],0,[],false⟩ _ T2 m3 (by rw[e]) (by rw[e];rfl)
 -- behind spaces
 refine cL (fun v T=>∃j,nx v 0=i_ (pk s j)∧j≤s.length∧i≤j∧Mw id s j hB T∧Gb hB.length x T l∧((j=i∧Rt.je (Rt.aJ s i)=false)∨(R=(some l,min s.length (j+1))∧(¬j<s.length∨Rt.aJ s j=41)))) (fun v T hT=>?_) fun F hF=>?_
 ·obtain⟨j,hv,hj,hij,mj,gj,hc⟩:=hT;rw[hv];refine zzG ?_
  by_cases q:j<s.length
  ·have hat:=ib q;refine zzK (oF (by rw[iX];simpa using q)) (zzG ?_);rw[fA (c:=41) 41 rfl (by decide)]
   by_cases q1:Rt.aJ s j=41
   ·have e:R=(some l,j+1):=by
     rcases hc with⟨rfl,hc⟩|⟨hc,_⟩
     ·rw[←hr,Rt.gQ,dif_pos q,if_pos (by rw[←hat];exact q1)];simp[Rt.jC]
     ·rw[hc,show min s.length (j+1)=j+1 by omega]
    refine zzL (tO q1) (iU mj.sc (by omega) rfl ?_);exact endU (j+1) _ (mj.set _) (gj.mv (by omega) mj.sc) e
   ·rcases hc with⟨rfl,hc⟩|⟨_,hc⟩;rotate_left
    ·rcases hc with hc|hc
     ·exact absurd q hc
     ·exact absurd hc q1
    rw[Rt.gQ,dif_pos q,if_neg (by rw[←hat];exact q1),if_neg (by rw[←hat,hc];decide)]at hr;refine zzK (oF q1) (zzG ?_);rw[fA (c:=34) 34 rfl (by decide)];have tr:∀(b c:Bool),decide (b=true∨c=true)=(b||c):=fun b c=>by cases b<;>cases c<;>rfl
    refine lv (decide (Rt.aJ s j=34)||decide (Rt.aJ s j=39)) rfl (fun z=>by rw[z];rfl) (fun z F hF=>?_) fun v1 hv1=>?_
    ·refine zzG ?_;rw[fA (c:=39) 39 rfl (by decide)];rw[z,Bool.false_or]at hF;exact ar hF
    refine kB hv1 ?_;refine lv (decide (Rt.aJ s j=34)||decide (Rt.aJ s j=39)||decide (Rt.aJ s j=40)) rfl (fun z=>by rw[z];rfl) (fun z F hF=>?_) fun v1 hv1=>?_
    ·refine zzG ?_;rw[fA (c:=40) 40 rfl (by decide)];rw[z,Bool.false_or]at hF;exact ar hF
    refine kB hv1 ?_;refine lv (decide (Rt.aJ s j=34)||decide (Rt.aJ s j=39)||decide (Rt.aJ s j=40)||decide (pk s j≤8)) rfl (fun z=>by rw[z];rfl) (fun z F hF=>?_) fun v1 hv1=>?_
    ·refine zzD ?_;rw[z,Bool.false_or]at hF;exact ar hF
    refine kB hv1 ?_;refine lv (decide (Rt.aJ s j=34)||decide (Rt.aJ s j=39)||decide (Rt.aJ s j=40)||decide (pk s j≤8)||decide (pk s j=11)) rfl (fun z=>by rw[z];rfl) (fun z F hF=>?_) fun v1 hv1=>?_
    ·refine zzG ?_;rw[z,Bool.false_or]at hF;exact ar hF
    refine kB hv1 ?_;refine lv (decide (Rt.aJ s j=34)||decide (Rt.aJ s j=39)||decide (Rt.aJ s j=40)||decide (pk s j≤8)||decide (pk s j=11)||ik (pk s j) 14 31) rfl (fun z=>by rw[z];rfl) (fun z F hF=>?_) fun v1 hv1=>?_
    ·refine uCon (oG _ _ _) ?_;rw[z,Bool.false_or]at hF;exact ar hF
    refine kB hv1 ?_;refine lv (decide (Rt.aJ s j=34)||decide (Rt.aJ s j=39)||decide (Rt.aJ s j=40)||decide (pk s j≤8)||decide (pk s j=11)||ik (pk s j) 14 31||decide (pk s j=127)) rfl (fun z=>by rw[z];rfl) (fun z F hF=>?_) fun v1 hv1=>?_
    ·refine zzG ?_;rw[z,Bool.false_or]at hF;exact ar hF
    refine kB hv1 ?_;have hb:(decide (Rt.aJ s j=34)||decide (Rt.aJ s j=39)||decide (Rt.aJ s j=40)||decide (pk s j≤8)||decide (pk s j=11)||ik (pk s j) 14 31||decide (pk s j=127))=decide (s[j]=34∨s[j]=39∨s[j]=40∨Rt.EY s[j]=true):=by
     rw[←Tn q,hat,Bool.eq_iff_iff];simp only[aaH,OF];simp only[or_assoc]
    rw[hb]
    by_cases q2:s[j]=34∨s[j]=39∨s[j]=40∨Rt.EY s[j]=true
    ·rw[if_pos (by rcases q2 with h|h|h|h<;>simp[h])]at hr;refine zzL (tO q2) ?_;exact endB j T hj mj (by rw[←hr];rfl)
    ·refine zzK (oF q2) (zzH ?_);rw[fA (c:=92) 92 rfl (by decide)];have hH2:=mj.len
     by_cases q3:Rt.aJ s j=92
     ·refine zzK (by rw[tO q3];rfl) (wU 0 mj.sc rfl rfl (by omega) ?_);rw[Nat.add_zero,tm];cases q4:Rt.dP s j with
      | true =>
        rw[if_neg (by simp only[q4];rintro (z|z|z|z|⟨_,z⟩);exact q2 (.inl z);exact q2 (.inr (.inl z));exact q2 (.inr (.inr (.inl z)));exact q2 (.inr (.inr (.inr z)));cases z),if_pos (by rw[←hat];exact q3)]at hr;refine zzL rfl ?_;have hel:=DP s j;have heg:=Rt.fw s j;refine sd mj (by omega) rfl gj hs (by omega) q fun z H' mz gz=>?_;refine ar ⟨((Rt.cP s j).2,z,H',l++(Rt.cP s j).1),⟨ko q,mz,gz,by simp;omega, ?_⟩,Wk.refl _ _ _ (by have:=mz.len;simp;omega),by dsimp only;omega⟩;dsimp only;rw[←hr,uF]
      | false =>
        rw[if_pos (.inr (.inr (.inr (.inr ⟨by rw[←hat];exact q3,q4⟩))))]at hr;refine zzK rfl ?_;exact endB j T hj mj (by rw[←hr];rfl)
     ·rw[if_neg (by rintro (z|z|z|z|⟨z,_⟩);exact q2 (.inl z);exact q2 (.inr (.inl z));exact q2 (.inr (.inr (.inl z)));exact q2 (.inr (.inr (.inr z)));exact q3 (by rw[hat];exact z)),if_neg (by rw[←hat];exact q3)]at hr;refine zzL (by rw[oF q3];rfl) ?_;refine Jv mj (by omega) gj q hs (by omega) rfl fun z H' mz gz=>?_;refine ar ⟨(j+1,z,H',l++[s[j]]),⟨q,mz,gz,by simp;omega, ?_⟩,Wk.refl _ _ _ (by have:=mz.len;simp;omega),by dsimp only;omega⟩;dsimp only;rw[←hr,uF]
  ·have e:R=(some l,j):=by
    rcases hc with⟨rfl,hc⟩|⟨hc,_⟩
    ·rw[←hr,Rt.gQ,dif_neg q];simp[Rt.jC];omega
    ·rw[hc,show min s.length (j+1)=j by omega]
   refine zzL (tO (iX.2 q)) ?_;exact endU j T mj gj e
 ·refine uCon (rQ _) ?_;rw[zr];cases c:Rt.je (Rt.aJ s i) with
  | false =>
    refine zzK rfl ?_;exact ar (hF _ _ ⟨i,rfl,hi,aS _,m,g,.inl ⟨rfl,c⟩⟩)
  | true =>
    have q:i<s.length:=at_lt fun e=>by rw[e]at c;exact absurd c (by decide)
    have hat:=ib q;have n41:s[i]≠41:=fun e=>by rw[hat,e]at c;exact absurd c (by decide)
    rw[Rt.gQ,dif_pos q,if_neg n41,if_pos (by rw[←hat];exact c)]at hr;refine zzL rfl (ze m.sc rfl hi hs ?_);have hsp:=qq hi;obtain⟨j,hj⟩:∃j,Rt.dU s i=j:=⟨_,rfl⟩;rw[hj]at hsp hr ⊢;have mj:=m.set j;have gj:=g.mv (s:=s) (b:=j) (by omega) m.sc;refine cZ 0 mj.sc rfl rfl (by omega) ?_;rw[Nat.add_zero];refine zzH ?_;rw[fA (c:=41) 41 rfl (by decide)];refine kU (decide (j<s.length∧Rt.aJ s j≠41)) (b1:=!decide (Rt.aJ s j=41)) rfl (fun z=>by simp at z;simp[z]) (fun z F hF=>?_) fun v hv=>?_
    ·refine zzH ?_;have z:Rt.aJ s j≠41:=by simpa using z
     have e:(!decide (pk s j=-1))=decide (j<s.length∧Rt.aJ s j≠41):=by
      rw[Bool.eq_iff_iff];simp only[aaI,decide_eq_false_iff_not,OF,iX];exact⟨fun y=>⟨by omega,z⟩,fun y=>by omega⟩
     rw[e];exact ar hF
    refine kf hv ?_
    by_cases q2:j<s.length∧Rt.aJ s j≠41
    ·rw[if_pos q2]at hr;refine zzL (tO q2) ?_;exact endB j _ hsp.2 mj (by rw[←hr];rfl)
    ·rw[if_neg q2]at hr;refine zzK (oF q2) ?_;refine ar (hF _ _ ⟨j,rfl,hsp.2,hsp.1,mj,gj,.inr ⟨by rw[←hr];simp[Rt.jC], ?_⟩⟩)
     by_cases z:j<s.length
     ·right
      by_cases z2:Rt.aJ s j=41
      ·exact z2
      ·exact absurd ⟨z,z2⟩ q2
     ·exact .inl z
end
end Go.Proofs.YtkfakehconamoaaGreatDoor
end
