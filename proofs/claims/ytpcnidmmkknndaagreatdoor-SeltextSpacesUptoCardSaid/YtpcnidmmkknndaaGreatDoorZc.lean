/-
 A statement whose order is open,with new variables among the first operations: whatever order is taken,behind them they stand in one order.
 No conditions.
-/
import Derived.ProofKit
import Derived.OpenShut
import Derived.OpenVars
import Derived.Test.YtpcnidmmkknndaaGreatDoorRows
import Derived.Test.YtpcnidmmkknndaaGreatDoorProg
import Derived.KernelRfl
import Derived.Test.YtpcnidmmkknndaaGreatDoorZb
set_option linter.unusedVariables false
set_option linter.unusedSimpArgs false
set_option maxRecDepth 1000000
set_option maxHeartbeats 16000000
open Go.Proofs.Tryz renaming prog→p_
noncomputable section
namespace Go.Aw
section
open Go Go.RowKit
variable [Laid]
variable{P:Program}{B:Nat→Prop}{ev:Operand→AV}{K:AV→aa→Prop}{own g:Bool}{args:List AV}{h:aa}{ops:Array Oper}{Q:Exit→St→Prop}{op:Op}{f:FuncId}{st:St}{ι:List Ix}{x:AV}{w:World}{m base id sz:Nat}{S:ba}{c:Code}
theorem cL.move(hh:cL base ι S w h){id b:Nat}{x:jH}(e:h[id]?=some (.ah x))(hb:ι[id]?=some (.ah b)):cL base (ι++[.ah b]) S w (h.set id .dead++[.ah x]):=by
 have hlt:id<h.length:=(eQ.1 e).1;have hl:=hh.len;have hE:bS ι.length base ι S w (ι++[.ah b]) S w:=bS.grow [.ah b];have old:∀{j:Nat} {en:aL},en≠.dead→j<h.length→(h.set id .dead++[aL.ah x])[j]?=some en→j≠id∧h[j]?=some en∧(ι++[Ix.ah b])[j]?=ι[j]?:=by
  intro j en hne hj q;rw[gO (by simpa using hj)]at q
  by_cases hji:j=id
  ·subst hji;rw[iD hlt]at q;exact absurd (DO q).symm hne
  ·rw[iF (Ne.symm hji)]at q;exact⟨hji,q,gO (by omega)⟩
 have new:∀{en:aL},(h.set id .dead++[aL.ah x])[h.length]?=some en→en=.ah x:=by
  intro en q;rw[gT (by simp)]at q;simp at q;exact q.symm
 have beyond:∀{j:Nat} {en:aL},(h.set id .dead++[aL.ah x])[j]?=some en→j<h.length∨j=h.length:=by
  intro j en q;have:=(eQ.1 q).1;simp at this;omega
 have ixn:(ι++[Ix.ah b])[h.length]?=some (.ah b):=by rw[←hl];simp
 refine⟨by simp[hl],fun j y q=>?_,fun j t sz n q=>?_,fun j en q=>?_,fun i j c ai aj ci cj=>?_,hh.iM,hh.kx,hh.gl⟩;rotate_left 2
 ·by_cases hd:en=.dead
  ·subst hd;trivial
  ·rcases beyond q with hj|rfl
   ·obtain⟨_,q1,q2⟩:=old hd hj q;exact (hh.kq j en q1).step hE (bY _) q2 fun _ _ _=>⟨rfl,fun _ z=>z⟩
   ·rw[new q];trivial
 rotate_left 1
 ·rcases beyond q with hj|rfl
  ·obtain⟨_,q1,q2⟩:=old (by simp) hj q;obtain⟨c,arr,fz,k1,k2,k3,k4,k5,k6,k7⟩:=hh.live j y q1;exact⟨c,arr,fz,q2.trans k1,k2,k3,k4,k5,fun i d ed=>let ⟨v,e1,e2⟩:=k6 i d ed;⟨v,e1,au.fV hE (bY _) d v e2⟩,k7⟩
  ·have:=new q;cases this;obtain⟨c,arr,fz,k1,k2,k3,k4,k5,k6,k7⟩:=hh.live id x e;rw[hb]at k1;cases k1;exact⟨b,arr,fz,ixn,k2,k3,k4,k5,fun i d ed=>let ⟨v,e1,e2⟩:=k6 i d ed;⟨v,e1,au.fV hE (bY _) d v e2⟩,k7⟩
 ·rcases beyond q with hj|rfl
  ·obtain⟨_,q1,q2⟩:=old (by simp) hj q;obtain⟨v,k1,k2⟩:=hh.tok j t sz n q1;exact⟨v,q2.trans k1,k2⟩
  ·cases new q
 ·have av:∀{j:Nat},alive ((h.set id .dead++[aL.ah x])[j]?)→(j≠id∧alive h[j]?∧(ι++[Ix.ah b])[j]?=ι[j]?)∨j=h.length:=by
   intro j aj;cases q:(h.set id .dead++[aL.ah x])[j]? with
   | none=>rw[q]at aj;exact aj.elim
   | some en =>
     rcases beyond q with hj|hj
     ·left;have hne:en≠.dead:=by rintro rfl;rw[q]at aj;exact aj
      obtain⟨q1,q2,q3⟩:=old hne hj q;exact⟨q1,by rw[q2,←q];exact aj,q3⟩
     ·exact .inr hj
  have aid:alive h[id]?:=by rw[e];exact trivial
  rcases av ai with⟨i1,i2,i3⟩|rfl<;>rcases av aj with⟨j1,j2,j3⟩|rfl
  ·rw[i3]at ci;rw[j3]at cj;exact hh.inj i j c i2 j2 ci cj
  ·exfalso;rw[i3]at ci;rw[ixn]at cj;have:b=c:=cj;subst this;exact i1 (hh.inj i id b i2 aid ci (by rw[hb];rfl))
  ·exfalso;rw[j3]at cj;rw[ixn]at ci;have:b=c:=ci;subst this;exact j1 (hh.inj j id b j2 aid cj (by rw[hb];rfl))
  ·rfl
/-! ### Words that hold beside whatever else there is -/
def wU(P:Program)(x:AV)(args:List AV)(h:aa)(K:AV→Prop):Prop:=
 match x with
 | .fn (.func f) xs ys=>∃r,dr P f=true∧(∀ext,bV P f (xs++args++ys) (h++ext) fun v h' => v=r∧h'=h++ext)∧K r
 | _=>False
def vc(P:Program)(own:Bool):Op→Bool
 | .buildSlice .. => own
 | .makeInterface .. | .typeAssert .. | .move _|.assign _|.pick .. | .binOp .. | .extract .. | .field .. | .index .. | .indexAddr .. | .fieldAddr .. | .nilCheck _|.build .. | .makeFunc .. | .unOp .. => true
 | .slice t .. => (match P.underlying t with|some .string|some (.slice _)=>true|_=>false)
 | .convert s d _=>(match P.underlying s,P.underlying d with|some (.int _),some (.int _)=>true|some .string,some .string=>true|_,_=>false)
 | .call c=>(match c.callee with|.builtin .min|.builtin .max=>true|_=>false)
 | _=>false
theorem wS{h g:aa}(hf:vc P own op=true)(q:bE P own ev h op fun v h' => v=x∧h'=h):bE P own ev g op fun v h' => v=x∧h'=g:=by
 cases op<;>simp only[vc,aaJ]at hf<;>simp only[bE,and_true]at q ⊢
 case buildSlice=>subst hf;exact q
 case slice t x lo hi mx =>
  cases mx with
  | some m=>exact q.elim
  | none =>
    simp only at q ⊢;cases ht:P.underlying t with
    | none=>rw[ht]at q;exact q.elim
    | some d =>
      rw[ht]at q hf;cases d<;>simp only[aaJ]at q hf⊢<;> exact q
 case convert s d x =>
  cases hs:P.underlying s with
  | none=>rw[hs]at q;exact q.elim
  | some a =>
    cases hd:P.underlying d with
    | none=>rw[hs,hd]at q;cases a<;>exact q.elim
    | some b =>
      rw[hs,hd]at q hf;cases a<;>cases b<;>simp only[aaJ]at q hf⊢<;> exact q
 case call c =>
  cases hc:c.callee with
  | value f=>rw[hc]at hf;cases hf
  | invoke r m=>rw[hc]at hf;cases hf
  | builtin b =>
    rw[hc]at hf q;cases b<;>simp only[aaJ]at hf q⊢<;> exact q
 case unOp o t x=>cases o<;>simp only at q⊢<;> first|exact q|exact q.elim|(cases hu:P.underlying t with|none=>rw[hu]at q;exact q.elim|some d=>rw[hu]at q;cases d<;>simp only at q⊢<;> first|exact q|exact q.elim)
 case typeAssert y xT a ok=>cases ok<;>simp only at q⊢<;> first|exact q|exact q.elim
 all_goals exact q
omit [Laid] in
theorem N9{h ext:aa}{K:AV→Prop}(q:ak g sz x h K):ak g sz x (h++ext) K:=by
 cases x<;>simp only[ak]at q⊢<;> first|exact q|skip
 rename_i id o;cases e:h[id]? with
 | none=>rw[e]at q;exact q.elim
 | some en=>rw[gO (eQ.1 e).1,e];rw[e]at q;exact q
def Ht(P:Program)(own:Bool)(ev:Operand→AV)(h:aa)(op:Op)(K:AV→Prop):Prop:=
 match op with
 | .call c=>(match c.callee with
   | .value x=>wU P (ev x) (c.args.toList.map ev) h K
   | .builtin .len=>(match c.argTypes[0]?,c.args[0]? with
     | some t,some x=>(match P.underlying t with
       | some .string=>kZ (ev x) K
       | some (.slice _)=>ja (ev x) K
       | _=>False)
     | _,_=>False)
   | _=>cM (vc P own (.call c)) (bE P own ev h (.call c) fun v _=>K v))
 | .load t x=>cM (fT P t) (ak (fx P t) (P.cellsOf t) (ev x) h K)
 | op=>cM (vc P own op&&sa P own op) (bE P own ev h op fun v _=>K v)
theorem ue{K:AV→Prop}(q:Ht P own ev h op K):∃x,(∀ext,bE P own ev (h++ext) op fun v h' => v=x∧h'=h++ext)∧K x:=by
 unfold Ht at q;split at q
 ·rename_i c;split at q
  ·rename_i y hc;unfold wU at q;split at q
   ·rename_i f xs ys e;obtain⟨r,hb,c1,k⟩:=q;refine⟨r,fun ext=>?_,k⟩;simp only[bE,hc];unfold bz;rw[e];exact⟨hb,c1 ext⟩
   ·exact q.elim
  ·rename_i hc;simp only[bE,hc];cases h1:c.argTypes[0]? with
   | none=>rw[h1]at q;exact q.elim
   | some t =>
     cases h2:c.args[0]? with
     | none=>rw[h1,h2]at q;exact q.elim
     | some x =>
       rw[h1,h2]at q;simp only at q ⊢;cases ht:P.underlying t with
       | none=>rw[ht]at q;exact q.elim
       | some d =>
         rw[ht]at q;cases d<;>first|exact q.elim|skip
         ·obtain⟨y,q1,q2⟩:=Da q;exact⟨y,fun ext=>by simpa using q1,q2⟩
         ·obtain⟨y,q1,q2⟩:=Fc q;exact⟨y,fun ext=>by simpa using q1,q2⟩
  ·obtain⟨hf,q⟩:=aZ q;have hq:sa P own (.call c)=true:=by
    unfold vc at hf;unfold sa
    revert hf
    cases c.callee<;>intro hf<;>first|(cases hf;done)|exact hf
   obtain⟨x,q1,q2⟩:=u2 hq q;exact⟨x,fun ext=>wS hf q1,q2⟩
 ·obtain⟨ht,q⟩:=aZ q;obtain⟨x,q1,q2⟩:=zz _ _ _ _ K q;refine⟨x,fun ext=>?_,q2⟩;simp only[bE,ht,cM];have:=N9 (ext:=ext) q1;simpa using this
 ·obtain⟨hf,q⟩:=aZ q;simp only[NO]at hf;obtain⟨x,q1,q2⟩:=u2 hf.2 q;exact⟨x,fun ext=>wS hf.1 q1,q2⟩
/-! ### The first operations: some make new variables -/
def I8(P:Program)(ops:Array Oper)(i:Nat):Option (TypeId×AV×Tmp):=
 match ops[i]? with
 | some o=>(match o.op,o.dst,o.guard with
   | .alloc t,some d,none=>(match jG P t with|some z=>(match (bl z).all bQ with|true=>some (t,z,d)|false=>none)|none=>none)
   | _,_,_=>none)
 | none=>none
def fN(P:Program)(ops:Array Oper)(i:Nat):aL:=match I8 P ops i with|some (t,z,_)=>.ah ⟨t,bl z,true⟩|none=>.dead
section
variable (P:Program) (ops:Array Oper) (n:Nat) (h:aa) (A:List Nat)
def BM:List (Nat×Bool)→Fr→(Fr→Prop)→Prop
 | [],fr,K=>K fr
 | (i,own):: r,fr,K=>match ops[i]? with
  | some o=>(match A.contains i with
    | true=>BM r (bN n fr o.dst .any) K
    | false=>Ht P own (aG fr) h o.op fun v=>BM r (bN n fr o.dst v) K)
  | none=>False
end
section
variable {P:Program} {ops:Array Oper} {n:Nat} {h:aa} {A:List Nat}
omit [Laid] in
theorem JC{V V':Nat→AV}{fr0:Fr}{L:Nat→Bool}:∀k,(∀j,j<k→V' j=V j)→fO ops n V' fr0 L k=fO ops n V fr0 L k
 | 0,_=>rfl
 | k+1,hv=>by
   rw[fO,fO,JC k fun j hj=>hv j (by omega),hv k (by omega)]
theorem KV{K:Fr→Prop}{fr0:Fr}:∀(l:List (Nat×Bool)) (k:Nat) (V:Nat→AV) (O:Nat→Bool),l.map (·.1)=List.range' k l.length→BM P ops n h A l (fO ops n V fr0 (fun _=>true) k) K →
 ∃(V':Nat→AV) (O':Nat→Bool),(∀j,j<k→V' j=V j∧O' j=O j)∧(∀i,k≤i→i<k+l.length→(A.contains i=true∧V' i=.any)∨(A.contains i=false∧∃o,ops[i]?=some o∧∀ext,bE P (O' i) (aG (fO ops n V' fr0 (fun _=>true) i)) (h++ext) o.op fun v h' => v=V' i∧h'=h++ext)) ∧
  K (fO ops n V' fr0 (fun _=>true) (k+l.length))
 | [],k,V,O,_,q=>⟨V,O,fun _ _=>⟨rfl,rfl⟩,fun i h1 h2=>by simp at h2;omega,q⟩
 | (i,own):: l,k,V,O,hi,q=>by
  simp only[GO,aaB,List.range'_succ,List.cons.injEq]at hi;obtain⟨rfl,hi⟩:=hi;simp only[BM]at q;cases ho:ops[i]? with
  | none=>rw[ho]at q;exact q.elim
  | some o =>
    rw[ho]at q;simp only at q;have hdst:eJ ops i=o.dst:=by unfold eJ;rw[ho];rfl
    have step:∀x,bN n (fO ops n V fr0 (fun _=>true) i) o.dst x=fO ops n (fun j=>if j=i then x else V j) fr0 (fun _=>true) (i+1):=by
     intro x;rw[fO];simp only[if_true,hdst];rw[JC (V':=fun j=>if j=i then x else V j) (V:=V) i (fun j hj=>by simp[show j≠i by omega])]
    have go:∀x ow,BM P ops n h A l (bN n (fO ops n V fr0 (fun _=>true) i) o.dst x) K→((A.contains i=true∧x=.any)∨(A.contains i=false∧∀ext,bE P ow (aG (fO ops n V fr0 (fun _=>true) i)) (h++ext) o.op fun v h' => v=x∧h'=h++ext)) →
     ∃(V':Nat→AV) (O':Nat→Bool),(∀j,j<i→V' j=V j∧O' j=O j)∧(∀i',i≤i'→i'<i+(l.length+1)→(A.contains i'=true∧V' i'=.any)∨(A.contains i'=false∧∃o,ops[i']?=some o∧∀ext,bE P (O' i') (aG (fO ops n V' fr0 (fun _=>true) i')) (h++ext) o.op fun v h' => v=V' i'∧h'=h++ext)) ∧
      K (fO ops n V' fr0 (fun _=>true) (i+(l.length+1))):=by
     intro x ow q2 hx;rw[step x]at q2;obtain⟨V',O',v1,v2,v3⟩:=KV l (i+1) (fun j=>if j=i then x else V j) (fun j=>if j=i then ow else O j) hi q2;have vi:V' i=x∧O' i=ow:=by have:=v1 i (by omega);simpa using this
     have vlt:∀j,j<i→V' j=V j∧O' j=O j:=fun j hj=>by have:=v1 j (by omega);simpa[show j≠i by omega]using this
     refine⟨V',O',vlt,fun i' h1 h2=>?_,by rw[show i+(l.length+1)=i+1+l.length by omega];exact v3⟩
     by_cases e:i'=i
     ·subst e;rw[vi.1,vi.2,JC (V:=V) i' fun j hj=>(vlt j hj).1];exact hx.imp id fun hx=>⟨hx.1,o,ho,hx.2⟩
     ·exact v2 i' (by omega) (by omega)
    cases hA:A.contains i with
    | true=>rw[hA]at q;exact go .any false q (.inl ⟨hA,rfl⟩)
    | false =>
      rw[hA]at q;obtain⟨x,q1,q2⟩:=ue q;exact go x own q2 (.inr ⟨hA,q1⟩)
def iq(P:Program)(ops:Array Oper)(i:Nat):Option Tmp:=(I8 P ops i).map (·.2.2)
omit [Laid] in
theorem CK{i:Nat}{ty:TypeId}{z:AV}{d:Tmp}(e:I8 P ops i=some (ty,z,d)):∃o,ops[i]?=some o∧o.op=.alloc ty∧o.dst=some d∧o.guard=none∧jG P ty=some z∧(bl z).all bQ=true:=by
 unfold I8 at e;split at e
 ·rename_i o ho;split at e
  ·rename_i t' d' h1 h2 h3;split at e
   ·rename_i z' hz;split at e
    ·rename_i hs;simp only[On,aaK]at e;obtain⟨rfl,rfl,rfl⟩:=e;exact⟨o,ho,h1,h2,h3,hz,hs⟩
    ·cases e
   ·cases e
  ·cases e
 ·cases e
structure Kf(P:Program)(ops:Array Oper)(n:Nat)(h:aa)(A:List Nat)(V:Nat→AV)(O:Nat→Bool)(fr0:Fr)(t:Nat):Prop where
 ung:∀i o,i<t→ops[i]?=some o→o.guard=none
 quiet:∀i,i<t→A.contains i=false→∃o,ops[i]?=some o∧∀ext,bE P (O i) (aG (fO ops n V fr0 (fun _=>true) i)) (h++ext) o.op fun v h' => v=V i∧h'=h++ext
 al:∀i,i<t→A.contains i=true→∃d,iq P ops i=some d∧d<n∧V i=.any∧∀j oj,j<t→ops[j]?=some oj→d∉oj.looksAt ops∧(j≠i→oj.dst≠some d)
def Eb(P:Program)(ops:Array Oper)(h:aa)(fr frV:Fr)(σ:List Nat):Prop:=
 (∀u,(∀i∈σ,iq P ops i≠some u)→bA fr u=bA frV u)∧∀(k i:Nat) (d:Tmp),σ[k]?=some i→iq P ops i=some d→bA fr d=.op (h.length+k) 0
theorem NW{V:Nat→AV}{O:Nat→Bool}{fr0:Fr}{an:Nat→Nat→Bool}{t m more:Nat}{Q:Exit→St→Prop}(hE:sF ops (fun _=>false) an)(hF:Kf P ops n h A V O fr0 t)(hg:qM ops t=true)(ht:t≤ops.size)(hm:m≤h.length)
 (hZ:∀base ι S a w fr σ,bX base ι S a w ⟨n,fr,h++σ.map (fN P ops)⟩→Eb P ops h fr (fO ops n V fr0 (fun _=>true) t) σ→σ.Nodup→(∀i,i∈σ↔i<t∧A.contains i=true)→wpAny P .any ops (dv m base ι S w Q) more (full ops t) a w) :
 ∀(fuel:Nat) (L:Array Bool) (base:Nat) (ι:List Ix) (S:ba) (a:Act) (w:World) (fr:Fr) (σ:List Nat),L.size=ops.size→Down ops L→(∀i,t≤i→L.getD i false=false)→bX base ι S a w ⟨n,fr,h++σ.map (fN P ops)⟩ →
  Eb P ops h fr (fO ops n V fr0 (fun i=>L.getD i false) ops.size) σ→σ.Nodup→(∀i,i∈σ↔L.getD i false=true∧A.contains i=true)→lR (fun _=>true) (fun i=>L.getD i false) t+fuel=t →
  wpAny P .any ops (dv m base ι S w Q) (fuel+more) L a w:=by
 intro fuel;induction fuel with
 | zero =>
   intro L base ι S a w fr σ hsz hd hlt hr hI hN hσ hn;have all:∀i,i<t→L.getD i false=true:=Ev (L:=fun i=>L.getD i false) t (by omega);have hL:L=full ops t:=by
    refine Array.ext (by simp[full,hsz]) fun i h1 h2=>?_;have e:L.getD i false=L[i]:=by simp[h1]
    rw[←e];have hf:(full ops t)[i]=decide (i<t):=by simp[full]
    rw[hf]
    by_cases q:i<t
    ·rw[all i q];simp[q]
    ·rw[hlt i (by omega)];simp[q]
   rw[aaQ,hL];refine hZ base ι S a w fr σ hr ⟨fun u hu=>?_,hI.2⟩ hN fun i=>?_
   ·rw[hI.1 u hu,u9 (k:=t) _ ht fun j h1 h2 _=>hlt j h1];exact qb _ fun j hj _=>all j hj
   ·rw[hσ i];refine and_congr_left fun _=>⟨fun q=>?_,fun q=>all i q⟩;rcases uP i t with z|z
    ·exact z
    ·rw[hlt i z]at q;cases q
 | succ fuel ih =>
   intro L base ι S a w fr σ hsz hd hlt hr hI hN hσ hn;have unl:∃i,i<t∧L.getD i false=false:=by
    refine Classical.byContradiction fun hno=>?_;have all:∀i,i<t→L.getD i false=true:=fun i hi=>by
     cases q:L.getD i false with
     | true=>rfl
     | false=>exact absurd ⟨i,hi,q⟩ hno
    rw[G9 (L:=fun i=>L.getD i false) t all]at hn;omega
   rw[show fuel+1+more=(fuel+more)+1 by omega];refine⟨fun hnone=>?_,fun i hi=>?_⟩
   ·exfalso;obtain⟨i,hi⟩:=unl
    revert hi
    induction i using Nat.strongRecOn with
    | _ i ihi =>
      rintro⟨hi,hl⟩
      by_cases q:∃e∈dS ops i,L.getD e false=false
      ·obtain⟨e,h1,h2⟩:=q;have:=hE.back i (by omega) e h1;exact ihi e this ⟨by omega,h2⟩
      ·have hmem:i∈Region.ready .any ops L:=by
        have hsi:i<ops.size:=by omega
        refine mem_ready.2 ⟨?_,ops[i],UP hsi,fun e he hb=>?_⟩
        ·have hlt:i<L.size:=by omega
         simp[hlt]at hl ⊢;exact hl
        ·cases z:L.getD e.on false with
         | true=>rfl
         | false =>
           exact absurd ⟨e.on,by unfold dS;rw[UP hsi];simp only[aaF,aaY];exact⟨e,⟨by simpa using he,hb⟩,rfl⟩,z⟩ q
       rw[hnone]at hmem;cases hmem
   ·obtain⟨h0,o,ho,hall⟩:=mem_ready.1 hi;have his:i<ops.size:=(AS.1 ho).1;have hit:i<t:=by
     rcases uP i t with q|q
     ·exact q
     ·obtain⟨j,j1,j2⟩:=unl;rw[vf hd hg q hi j j1]at j2;cases j2
    have hl0:L.getD i false=false:=by
     have:i<L.size:=by omega
     simp[this]at h0 ⊢;exact h0
    have hset:∀j,(L.setIfInBounds i true).getD j false=(L.getD j false||j == i):=by
     intro j
     by_cases q:j=i
     ·subst q;have:j<L.size:=by omega
      simp[this]
     ·rw[getD_set_ne false (Ne.symm q)];have:(j == i)=false:=by simpa using q
      rw[this,Bool.or_false]
    have hlt':∀j,t≤j→(L.setIfInBounds i true).getD j false=false:=fun j hj=>by
     rw[hset,hlt j hj];simp;omega
    have hn':lR (fun _=>true) (fun j=>(L.setIfInBounds i true).getD j false) t+fuel=t:=by
     rw[Eu (l1:=fun j=>L.getD j false) hl0 hset t];simp only[hit,and_self,if_true];omega
    have hdst:eJ ops i=o.dst:=by unfold eJ;rw[ho];rfl
    -- slots that are looked at,or written,by this one
    have at':∀u,(u∈o.looksAt ops∨o.dst=some u)→bA (fO ops n V fr0 (fun j=>L.getD j false) ops.size) u=bA (fO ops n V fr0 (fun _=>true) i) u:=by
     intro u hu;have hst:bA (fO ops n V fr0 (fun j=>L.getD j false) ops.size) u=bA (fO ops n V fr0 (fun j=>L.getD j false) i) u:=by
      refine u9 _ (by omega) fun j h1 h2 h3=>?_
      by_cases q:j=i
      ·subst q;exact hl0
      ·obtain⟨oj,hoj⟩:∃oj,ops[j]?=some oj:=⟨ops[j],UP h2⟩;have ha:an j i=true:=by
        rcases hu with hu|hu
        ·exact hE.apart j i h2 (by omega) oj o hoj ho ⟨u,.inr ⟨h3,hu⟩⟩
        ·exact hE.apart j i h2 (by omega) oj o hoj ho ⟨u,.inl ⟨by rw[hdst];exact hu,.inr h3⟩⟩
       cases z:L.getD j false with
       | false=>rfl
       | true=>have:=hE.Di hd h2 z ha;rw[hl0]at this;cases this
     rw[hst];refine qb _ fun j hj hdj=>?_;obtain⟨oj,hoj⟩:∃oj,ops[j]?=some oj:=⟨ops[j],UP (by omega)⟩;refine hE.FC hd his hi (hE.apart i j his hj o oj ho hoj ?_);rcases hu with hu|hu
     ·exact⟨u,.inl ⟨hdj,.inl hu⟩⟩
     ·exact⟨u,.inl ⟨hdj,.inr (by rw[hdst];exact hu)⟩⟩
    have later:∀u,o.dst=some u→∀(l:Nat→Bool),(∀j,i<j→l j=true→L.getD j false=true)→bA (fO ops n V fr0 l ops.size) u=bA (fO ops n V fr0 l (i+1)) u:=by
     intro u hu l hl;refine u9 _ (by omega) fun j h1 h2 h3=>?_;cases z:l j with
     | false=>rfl
     | true =>
       obtain⟨oj,hoj⟩:∃oj,ops[j]?=some oj:=⟨ops[j],UP h2⟩;have ha:=hE.apart j i h2 (by omega) oj o hoj ho ⟨u,.inl ⟨by rw[hdst];exact hu,.inr h3⟩⟩;have:=hE.Di hd h2 (hl j (by omega) z) ha;rw[hl0]at this;cases this
    have grown:∀u,bA (fO ops n V fr0 (fun j=>(L.setIfInBounds i true).getD j false) ops.size) u=if o.dst=some u∧u<n then V i else bA (fO ops n V fr0 (fun j=>L.getD j false) ops.size) u:=by
     intro u
     by_cases q:o.dst=some u
     ·rw[later u q _ fun j h1 h2=>by rw[hset]at h2;simpa[show j≠i by omega]using h2,fO,hset,beq_self_eq_true,Bool.or_true];simp only;rw[hdst,q];have e2:bA (fO ops n V fr0 (fun j=>(L.setIfInBounds i true).getD j false) i) u=bA (fO ops n V fr0 (fun j=>L.getD j false) ops.size) u:=by
       rw[at' u (.inr q)];refine qb _ fun j hj hdj=>?_;rw[hset];obtain⟨oj,hoj⟩:∃oj,ops[j]?=some oj:=⟨ops[j],UP (by omega)⟩;rw[hE.FC hd his hi (hE.apart i j his hj o oj ho hoj ⟨u,.inl ⟨hdj,.inr (by rw[hdst];exact q)⟩⟩)];simp
      unfold bN;simp only
      by_cases hu:u<n
      ·rw[if_pos hu,fI,if_pos rfl];simp[hu]
      ·rw[if_neg hu,e2];simp[hu]
     ·have:¬(o.dst=some u∧u<n):=fun z=>q z.1;rw[if_neg this];refine qb _ fun j hj hdj=>?_;rw[hset]
      by_cases e:j=i
      ·subst e;rw[hdst]at hdj;exact absurd hdj q
      ·have:(j == i)=false:=by simpa using e
       rw[this,Bool.or_false]
    have want:∀fr',gG ops o fr'=some true:=fun fr' => by unfold gG;rw[hF.ung i o hit ho]
    have slots:∀j∈σ,∀d,iq P ops j=some d→d∉o.looksAt ops∧(i≠j→o.dst≠some d):=by
     intro j hj d hd';obtain⟨l1,l2⟩:=(hσ j).1 hj;have hjt:j<t:=by
      rcases uP j t with z|z
      ·exact z
      ·rw[hlt j z]at l1;cases l1
     obtain⟨d',e1,_,_,e4⟩:=hF.al j hjt l2;rw[hd']at e1;cases e1;exact⟨(e4 i o hit ho).1,fun hne=>(e4 i o hit ho).2 hne⟩
    have ine:i∉σ:=fun q=>by rw[(hσ i).1 q |>.1]at hl0;cases hl0
    unfold wpOp;rw[ho];simp only;rw[if_pos (tz hr (want fr))];left;cases hA:A.contains i with
    | true =>
      obtain⟨d,e1,e2,e3,e4⟩:=hF.al i hit hA;unfold iq at e1;obtain⟨⟨ty,z,d0⟩,e5,e6⟩:=aaE.1 e1;obtain rfl:d0=d:=e6;obtain⟨o',ho',k1,k2,k3,k4,k5⟩:=CK e5;rw[ho]at ho';cases ho';have hstep:bE P false (aG fr) (h++σ.map (fN P ops)) o.op fun v h' => v=.op (h.length+σ.length) 0∧h'=h++(σ++[i]).map (fN P ops):=by
       rw[k1];simp only[bE,k4];unfold aW;refine⟨k5,by simp, ?_⟩;simp[fN,e5]
      refine nF (fun a' w' k=>?_) (fun _ _ _ k=>k) (oE (st:=⟨n,fr,h++σ.map (fN P ops)⟩) hr hstep _);obtain⟨ι',S',v,h',hEv,hR,_,rfl,rfl⟩:=k;have hinv:Eb P ops h (bN n fr o.dst (.op (h.length+σ.length) 0)) (fO ops n V fr0 (fun j=>(L.setIfInBounds i true).getD j false) ops.size) (σ++[i]):=by
       refine⟨fun u hu=>?_,fun k j dj hk hj=>?_⟩
       ·have hud:o.dst≠some u:=fun z=>hu i (by simp) (by rw[show iq P ops i=some d0 from e1,←k2,z]);rw[fJ fun e he q=>hud (by rw[he,q]),hI.1 u fun j hj=>hu j (by simp[hj]),grown u,if_neg fun z=>hud z.1]
       ·rcases uP k σ.length with q|q
        ·rw[gO q]at hk;have hjm:=gE hk;rw[fJ fun e he q' => (slots j hjm dj hj).2 (fun z=>ine (z▸hjm)) (by rw[he,q'])];exact hI.2 k j dj hk hj
        ·have:k=σ.length:=by
          have:=(eQ.1 hk).1;simp at this;omega
         subst this;simp at hk;subst hk;rw[show iq P ops i=some d0 from e1]at hj;cases hj;unfold bN;rw[k2];simp only;rw[if_pos e2,fI,if_pos rfl]
      have:=ih (L.setIfInBounds i true) base ι' S' a' w' _ (σ++[i]) (by simp[hsz]) (hd.set hi) hlt' hR hinv (by
       rw[List.nodup_append];refine⟨hN,by simp,fun x hx y hy=>?_⟩;simp at hy;subst hy;rintro rfl;exact ine hx) (fun j=>by
       rw[Is,hσ j,hset]
       by_cases e:j=i
       ·subst e;rw[hA];simp
       ·simp[e]) hn'
      exact dR (fun e a w z=>dv.trans (hEv.mono (by rw[hr.hp.len];simp;omega) (bY _)) z) _ _ _ _ this
    | false =>
      obtain⟨o',ho',hq⟩:=hF.quiet i hit hA;rw[ho]at ho';cases ho';have he:∀y∈o.op.operands,aG (fO ops n V fr0 (fun _=>true) i) y=aG fr y:=by
       intro y hy;cases y with
       | tmp u =>
         have hu:u∈o.looksAt ops:=by
          unfold Oper.looksAt;refine List.mem_append_left _ ?_;simp only[aa0];exact⟨.tmp u,by simpa using hy,rfl⟩
         simp only[aG];rw[hI.1 u fun j hj z=>(slots j hj u z).1 hu,at' u (.inl hu)]
       | _=>rfl
      refine nF (fun a' w' k=>?_) (fun _ _ _ k=>k) (oE (st:=⟨n,fr,h++σ.map (fN P ops)⟩) hr (oG he (hq _)) _);obtain⟨ι',S',v,h',hEv,hR,_,rfl,rfl⟩:=k;have hinv:Eb P ops h (bN n fr o.dst (V i)) (fO ops n V fr0 (fun j=>(L.setIfInBounds i true).getD j false) ops.size) σ:=by
       refine⟨fun u hu=>?_,fun k j dj hk hj=>?_⟩
       ·rw[grown u]
        by_cases q:o.dst=some u
        ·unfold bN;rw[q];simp only
         by_cases z:u<n
         ·rw[if_pos z,fI,if_pos rfl,if_pos ⟨trivial,z⟩]
         ·rw[if_neg z,if_neg fun x=>z x.2,hI.1 u hu]
        ·rw[fJ fun e he q' => q (by rw[he,q']),if_neg fun x=>q x.1,hI.1 u hu]
       ·have hjm:=gE hk;rw[fJ fun e he q' => (slots j hjm dj hj).2 (fun z=>ine (z▸hjm)) (by rw[he,q'])];exact hI.2 k j dj hk hj
      have:=ih (L.setIfInBounds i true) base ι' S' a' w' _ σ (by simp[hsz]) (hd.set hi) hlt' hR hinv hN (fun j=>by
       rw[hσ j,hset]
       by_cases e:j=i
       ·subst e;rw[hA];simp
       ·simp[e]) hn'
      exact dR (fun e a w z=>dv.trans (hEv.mono (by rw[hr.hp.len];simp;omega) (bY _)) z) _ _ _ _ this
/-! ### Behind them -/
omit [Laid] in
theorem B3:∀(l m:List Nat),l.Nodup→(∀x∈l,x∈m)→l.length≤m.length
 | [],_,_,_=>aaO _
 | x:: l,m,hn,hs=>by
   have hx:x∈m:=hs x (by simp);rw[List.nodup_cons]at hn;have:=B3 l (m.erase x) hn.2 fun y hy=>(List.mem_erase_of_ne (fun q:y=x=>hn.1 (by rw[←q];exact hy))).2 (hs y (by simp[hy]));have e:=List.length_erase_of_mem hx;have:0<m.length:=List.length_pos_of_mem hx;simp only[aaB];omega
theorem Fp{base:Nat}{S:ba}{w:World}{σ:List Nat}{B:Nat→Nat}(hN:σ.Nodup):∀(rest done:List Nat) (ι:List Ix),cL base ι S w (h++(σ.map fun i=>if i∈done then aL.dead else fN P ops i)++done.map (fN P ops))→rest.Nodup →
 (∀i∈rest,i∈σ∧i∉done∧∃x,fN P ops i=.ah x)→(∀k i,σ[k]?=some i→i∈rest→ι[h.length+k]?=some (.ah (B i))) →
 cL base (ι++rest.map fun i=>.ah (B i)) S w (h++(σ.map fun i=>if i∈done++rest then aL.dead else fN P ops i)++(done++rest).map (fN P ops))
 | [],done,ι,hh,_,_,_=>by simpa using hh
 | i:: rest,done,ι,hh,hR,hm,hB=>by
   obtain⟨him,hid,x,hx⟩:=hm i (by simp);obtain⟨k,hk⟩:=List.mem_iff_getElem?.1 him;have hkl:k<σ.length:=(eQ.1 hk).1;rw[List.nodup_cons]at hR;have e1:(h++(σ.map fun i=>if i∈done then aL.dead else fN P ops i)++done.map (fN P ops))[h.length+k]?=some (.ah x):=by
    rw[To,gT (by omega),gO (by simp;omega),iN,show h.length+k-h.length=k by omega,hk];simp[hid,hx]
   have hb:=hB k i hk (by simp);have hmv:=hh.move e1 hb;have e2:(h++(σ.map fun i=>if i∈done then aL.dead else fN P ops i)++done.map (fN P ops)).set (h.length+k) .dead++[.ah x]=h++(σ.map fun j=>if j∈done++[i] then aL.dead else fN P ops j)++(done++[i]).map (fN P ops):=by
    have e3:(σ.map fun i=>if i∈done then aL.dead else fN P ops i).set k .dead=σ.map fun j=>if j∈done++[i] then aL.dead else fN P ops j:=by
     refine List.ext_getElem? fun j=>?_
     by_cases q:k=j
     ·subst q;rw[iD (by simpa using hkl),iN,hk];simp
     ·rw[iF q,iN,iN];cases hj:σ[j]? with
      | none=>rfl
      | some y =>
        have hy:y≠i:=by
         rintro rfl;exact q ((List.getElem?_inj hkl hN).1 (hk.trans hj.symm))
        simp[hy]
    rw[To,IF _ _ (by omega),show h.length+k-h.length=k by omega,IN _ _ (by simp;omega),e3];simp[hx]
   rw[e2]at hmv;have:=Fp hN rest (done++[i]) (ι++[.ah (B i)]) hmv hR.2 (fun j hj=>by
    obtain⟨a1,a2,a3⟩:=hm j (by simp[hj]);refine⟨a1, ?_,a3⟩;simp only[Is,TO,not_or];exact⟨a2,fun z=>hR.1 (z▸hj)⟩) (fun k' j hk' hj=>by
    have:=hB k' j hk' (by simp[hj]);rw[gO (eQ.1 this).1];exact this)
   simpa[To]using this
def uM(P:Program)(ops:Array Oper)(n base:Nat):List Nat→Nat→Fr→Fr
 | [],_,fr=>fr
 | i:: l,k,fr=>uM P ops n base l (k+1) (bN n fr (iq P ops i) (.op (base+k) 0))
omit [Laid] in
theorem zr{n base u:Nat}:∀(l:List Nat) (k:Nat) (fr:Fr),(∀i∈l,iq P ops i≠some u)→bA (uM P ops n base l k fr) u=bA fr u
 | [],_,_,_=>rfl
 | i:: l,k,fr,hu=>by
   rw[uM,zr l (k+1) _ fun j hj=>hu j (by simp[hj])];exact fJ fun e he q=>hu i (by simp) (by rw[he,q])
omit [Laid] in
theorem GZ{n base u i:Nat}(hun:u<n):∀(l:List Nat) (k p:Nat) (fr:Fr),l[p]?=some i→iq P ops i=some u→(∀q j,l[q]?=some j→q≠p→iq P ops j≠some u)→bA (uM P ops n base l k fr) u=.op (base+(k+p)) 0
 | [],_,p,_,h1,_,_=>by simp at h1
 | j:: l,k,0,fr,h1,h2,h3=>by
   simp at h1;subst h1;rw[uM,zr l (k+1) _ fun y hy=>by
    obtain⟨q,hq⟩:=List.mem_iff_getElem?.1 hy;exact h3 (q+1) y (by simpa using hq) (by omega)]
   unfold bN;rw[h2];simp only;rw[if_pos hun,fI,if_pos rfl];rfl
 | j:: l,k,p+1,fr,h1,h2,h3=>by
   rw[uM,GZ hun l (k+1) p _ (by simpa using h1) h2 fun q y hq hne=>h3 (q+1) y (by simpa using hq) (by omega)];rw[show k+1+p=k+(p+1) by omega]
theorem PW{base:Nat}{ι:List Ix}{S:ba}{a:Act}{w:World}{fr frV:Fr}{σ:List Nat}(hr:bX base ι S a w ⟨n,fr,h++σ.map (fN P ops)⟩)(hI:Eb P ops h fr frV σ)(hN:σ.Nodup)(hA:A.Nodup)(hs:∀i,i∈σ↔i∈A)
 (hd:∀i∈A,∃d,iq P ops i=some d∧d<n∧∀j∈A,j≠i→iq P ops j≠some d):∃ι',bS ι.length base ι S w ι' S w∧bX base ι' S a w ⟨n,uM P ops n (h.length+A.length) A 0 frV,h++List.replicate A.length .dead++A.map (fN P ops)⟩:=by
 have hl:σ.length=A.length:=Nat.le_antisymm (B3 _ _ hN fun x hx=>(hs x).1 hx) (B3 _ _ hA fun x hx=>(hs x).2 hx);have hlen:ι.length=h.length+σ.length:=by have:=hr.hp.len;simpa using this
 let B:Nat→Nat:=fun i=>match ι[h.length+σ.idxOf i]? with|some (.ah b)=>b|_=>0
 have hB:∀k i,σ[k]?=some i→i∈A→ι[h.length+k]?=some (.ah (B i))∧∀d,iq P ops i=some d→a.tmps.getD d undef=.pointer (some ⟨B i,0,none⟩):=by
  intro k i hk hi;obtain⟨d,d1,d2,_⟩:=hd i hi;have hkl:=(eQ.1 hk).1;have e:=hI.2 k i d hk d1;have r:=hr.get d;rw[e,au]at r;obtain⟨b,b1,b2⟩:=r;have hidx:σ.idxOf i=k:=by
   have h1:σ[σ.idxOf i]?=some i:=by
    have hm:=gE hk;rw[dO (List.idxOf_lt_length_of_mem hm)];simp
   exact ((List.getElem?_inj hkl hN).1 (hk.trans h1.symm)).symm
  have hBi:B i=b:=by
   show (match ι[h.length+σ.idxOf i]? with|some (.ah b)=>b|_=>0)=b;rw[hidx,b1]
  rw[hBi];exact⟨b1,fun d' hd' => by rw[d1]at hd';cases hd';exact b2⟩
 have hmv:=Fp (P:=P) (ops:=ops) (h:=h) (B:=B) hN A [] ι (by simpa using hr.hp) hA (fun i hi=>⟨(hs i).2 hi,by simp,by
  obtain⟨d,d1,_⟩:=hd i hi;unfold iq at d1;obtain⟨⟨t,z,d'⟩,e,_⟩:=aaE.1 d1;exact⟨⟨t,bl z,true⟩,by simp[fN,e]⟩⟩) (fun k i hk hi=>(hB k i hk hi).1)
 have e1:(σ.map fun i=>if i∈[]++A then aL.dead else fN P ops i)=List.replicate A.length .dead:=by
  rw[←hl,List.eq_replicate_iff];refine⟨by simp,fun y hy=>?_⟩;simp only[aaF]at hy;obtain⟨i,h1,rfl⟩:=hy;rw[if_pos (by simpa using (hs i).1 h1)]
 rw[e1,List.nil_append]at hmv;have hE:bS ι.length base ι S w (ι++A.map fun i=>.ah (B i)) S w:=bS.grow _;refine⟨_,hE,hr.df,hr.sz,fun u=>?_,hmv⟩;show au _ S w (bA (uM P ops n (h.length+A.length) A 0 frV) u) _
 by_cases q:∃i∈A,iq P ops i=some u
 ·obtain⟨i,hi,hu⟩:=q;obtain⟨p,hp⟩:=List.mem_iff_getElem?.1 hi;obtain⟨d,d1,d2,d3⟩:=hd i hi;rw[hu]at d1;cases d1;have hpl:=(eQ.1 hp).1;rw[GZ d2 A 0 p frV hp hu fun q j hq hne=>d3 j (gE hq) fun z=>hne ((List.getElem?_inj (eQ.1 hq).1 hA).1 (hq.trans (by rw[z,hp])))];obtain⟨k,hk⟩:=List.mem_iff_getElem?.1 ((hs i).2 hi);obtain⟨_,b2⟩:=hB k i hk hi;rw[au];refine⟨B i, ?_,b2 u hu⟩;rw[gT (by omega),show h.length+A.length+(0+p)-ι.length=p by omega,iN,hp];rfl
 ·have hno:∀i∈A,iq P ops i≠some u:=fun i hi z=>q ⟨i,hi,z⟩;rw[zr A 0 frV hno,←hI.1 u fun i hi=>hno i ((hs i).1 hi)];exact au.fV hE (bY _) _ _ (hr.fr u)
end
def Hk(P:Program)(ops:Array Oper)(n t:Nat)(A:List Nat)(l:List (Nat×Bool))(r q:List cW):Bool:=
 P.follows .mixedOrders&&EF ops (fun _=>false) (JI ops ops.size) ops.size&&qM ops t&&decide (t≤ops.size)&&(l.map (·.1) == List.range t)&&decide A.Nodup&&A.all (fun i=>decide (i<t)) &&
  (List.range t).all (fun i=>match ops[i]? with|some o=>o.guard.isNone|none=>false) &&
  A.all (fun i=>match iq P ops i with|some d=>decide (d<n)&&(List.range t).all (fun j=>match ops[j]? with|some oj=>!(oj.looksAt ops).contains d&&(j == i||oj.dst != some d)|none=>false)|none=>false) &&
  (match og ops (r.map cW.ix).flatten (full ops t) with
  | some listed=>rU ops ops.size (q.map cW.ix).flatten.length (t+(r.map cW.ix).flatten.length) listed
  | none=>false)&&r.all (lI ops)&&q.all (lI ops)&&q.all (rL ops n)&&(q.map cW.ix).flatten == List.range' (t+(r.map cW.ix).flatten.length) (q.map cW.ix).flatten.length &&
  decide (t+(r.map cW.ix).flatten.length+(q.map cW.ix).flatten.length=ops.size)
def Hl(P:Program)(ops:Array Oper)(t:Nat)(A:List Nat)(l:List (Nat×Bool))(r q:List cW)(Q:Exit→St→Prop)(st:St):Prop:=
 cM (Hk P ops st.n t A l r q) (BM P ops st.n st.h A l st.fr fun fr=>kR P ops r ⟨st.n,uM P ops st.n (st.h.length+A.length) A 0 fr,st.h++List.replicate A.length .dead++A.map (fN P ops)⟩ fun st' => cM (Nat.beq st'.n st.n) (pQ P ops st.n st'.h q st'.fr fun fr' => Q .normal ⟨st.n,fr',st'.h⟩))
theorem GQ{m id t:Nat}{A:List Nat}{l:List (Nat×Bool)}{r q:List cW}(hm:m≤st.h.length)(hq:Hl P ops t A l r q Q st):AW P m (.region id ops true) Q st:=by
 intro base ι S a w _ hr;obtain⟨hok,hq⟩:=aZ hq;simp only[Hk,NO,beq_iff_eq,Of]at hok;obtain⟨⟨⟨⟨⟨⟨⟨⟨⟨⟨⟨⟨⟨⟨k1,k2⟩,k3⟩,kt⟩,k5⟩,k6⟩,k8⟩,kg⟩,ka⟩,k4⟩,k7⟩,q5⟩,q6⟩,q8⟩,k9⟩:=hok;split at k4
 ·rename_i listed' hch;obtain⟨hE,hr'⟩:=hr.drew;refine wp_region_any k1 (dR (fun e a w z=>dv.trans (hE.mono (by rw[hr.hp.len];exact hm) (bY _)) z) _ _ _ _ ?_);have none:∀i,(Array.replicate ops.size false).getD i false=false:=fun i=>by simp[Array.getD_eq_getD_getElem?,Array.getElem?_replicate];split<;>rfl
  have c0:∀k,lR (fun _=>true) (fun i=>(Array.replicate ops.size false).getD i false) k=0:=by
   intro k;induction k with
   | zero=>rfl
   | succ k ih=>rw[lR,none];exact ih
  have down0:Down ops (Array.replicate ops.size false):=fun i o ho hl=>by rw[none]at hl;cases hl
  have hl5:l.length=t:=by have:=congrArg List.length k5;simpa using this
  obtain⟨V,O,_,v2,v3⟩:=KV (P:=P) (ops:=ops) (n:=st.n) (h:=st.h) (A:=A) (fr0:=st.fr) l 0 (fun _=>.any) (fun _=>false) (by rw[k5,hl5,List.range_eq_range']) hq;rw[aaQ,hl5]at v3;have atA:∀i∈A,i<t:=fun i hi=>by have:=At.1 k8 i hi;simpa using this
  have hF:Kf P ops st.n st.h A V O st.fr t:=by
   refine⟨fun i o hi ho=>?_,fun i hi hA=>?_,fun i hi hA=>?_⟩
   ·have:=At.1 kg i (by simpa using hi);rw[ho]at this;simpa using this
   ·rcases v2 i (by omega) (by omega) with⟨z,_⟩|⟨_,z⟩
    ·rw[hA]at z;cases z
    ·exact z
   ·rcases v2 i (by omega) (by omega) with⟨_,z⟩|⟨z,_⟩
    ·have hm':i∈A:=by simpa using hA
     have:=At.1 ka i hm';split at this
     ·rename_i d hd;simp only[NO,Of]at this;refine⟨d,hd,this.1,z,fun j oj hj hoj=>?_⟩;have h2:=At.1 this.2 j (by simpa using hj);rw[hoj]at h2;simp only[NO,aa8,aa7,beq_iff_eq,bne_iff_ne,ne_eq]at h2;refine⟨fun z=>?_,fun hne=>h2.2.resolve_left hne⟩;have h3:=h2.1;rw[List.contains_eq_mem]at h3;simp[z]at h3
     ·cases this
    ·rw[hA]at z;cases z
  have hdA:∀i∈A,∃d,iq P ops i=some d∧d<st.n∧∀j∈A,j≠i→iq P ops j≠some d:=by
   intro i hi;obtain⟨d,d1,d2,_,d4⟩:=hF.al i (atA i hi) (by simpa using hi);refine⟨d,d1,d2,fun j hj hne z=>?_⟩;unfold iq at z;obtain⟨⟨t',z',d'⟩,e,e2⟩:=aaE.1 z;simp only at e2;subst e2;obtain⟨o,ho,_,hd,_⟩:=CK e;exact (d4 j o (atA j hj) ho).2 hne hd
  have key:=NW (P:=P) (ops:=ops) (n:=st.n) (h:=st.h) (A:=A) (V:=V) (O:=O) (fr0:=st.fr) (t:=t) (m:=m) (more:=(r.map cW.ix).flatten.length+(q.map cW.ix).flatten.length) (Q:=Q) (EG k2) hF k3 kt hm (fun base ι S a w fr σ hr hI hN hσ=>?_) t (Array.replicate ops.size false) base ι S a { w with drawn:=w.drawn+1 } st.fr [] (by simp) down0 (fun i _=>none i) (by simpa using hr') ⟨fun u _=>?_,fun k i d hk=>by simp at hk⟩ (by simp) (fun i=>by rw[none];simp) (by rw[c0];omega)
  ·rwa [show t+((r.map cW.ix).flatten.length+(q.map cW.ix).flatten.length)=ops.size by omega]at key
  ·obtain⟨ι2,hE2,hr2⟩:=PW hr hI hN k6 (fun i=>by
    rw[hσ i];constructor
    ·rintro⟨_,z⟩;simpa using z
    ·intro z;exact⟨atA i z,by simpa using z⟩) hdA
   have hdn:Down ops (full ops t):=by
    intro i o ho hl e he hb;have hi:i<t:=by
     have:=(AS.1 ho).1;simpa[full,this]using hl
    have:=(EG k2).back i (by omega) e.on (by unfold dS;rw[ho];simp only[aaF,aaY];exact⟨e,⟨by simpa using he,hb⟩,rfl⟩);have hs:e.on<ops.size:=by omega
    simp[full,hs];omega
   have down2:=tF _ _ _ hdn hch;have hm2:m≤(st.h++List.replicate A.length aL.dead++A.map (fN P ops)).length:=by simp;omega
   have hs:=oD (m:=m) (Q:=Q) r base ι2 S a w _ k7 hm2 hr2 v3;have up:∀{e a' w'},dv m base ι2 S w Q e a' w'→dv m base ι S w Q e a' w':=fun z=>dv.trans (hE2.mono (by rw[hr.hp.len];simp;omega) (bY _)) z;refine dR (fun e a w z=>up z) _ _ _ _ ?_;refine uQ (fun e a w hne z=>?_) (fun a w z=>?_) _ _ _ _ hch hs
   ·obtain⟨ι',S',st',z1,z2,z3,z4⟩:=z;refine⟨ι',S',st',z1,z2,z3, ?_⟩;cases e<;>first|exact absurd rfl hne|exact z4
   ·obtain⟨ι',S',st',z1,z2,z3,z4⟩:=z;obtain⟨n',fr',h'⟩:=st';obtain⟨en,z4⟩:=aZ z4;have en:n'=st.n:=lE en;subst en;have:=xg (m:=m) (more:=0) (Q:=Q) EP q5 q6 q8 (by omega) down2 k4 z2 (fun fr base ι S a w hr hfr=>⟨sW,ι,S,⟨st.n,fr,h'⟩,bS.refl _ _ _ _ _,z2,hr,hfr⟩) z3 z4;exact dR (fun e a w z=>dv.trans z1 z) _ _ _ _ this
  ·have f0:∀k,fO ops st.n V st.fr (fun i=>(Array.replicate ops.size false).getD i false) k=st.fr:=by
    intro k;induction k with
    | zero=>rfl
    | succ k ih=>rw[fO,none];exact ih
   rw[f0]
 ·cases k4
def fA(B:Nat→Prop)(h h':aa):Prop:=∀(id:Nat) (b:jH),B id→h[id]?=some (.ah b)→h'[id]?=some (.ah b)
omit [Laid] in
theorem fA.refl(h:aa):fA B h h:=fun _ _ _ e=>e
omit [Laid] in
theorem fA.trans{a b c:aa}(x:fA B a b)(y:fA B b c):fA B a c:=fun id k hb e=>y id k hb (x id k hb e)
omit [Laid] in
theorem fA.ext(h e:aa):fA B h (h++e):=fun id b _ q=>by
 rw[gO (eQ.1 q).1];exact q
omit [Laid] in
theorem fA.tok{B:Nat→Prop}{h:aa}{id:Nat}{t sz n:Nat}{x:aL}(q:h[id]?=some (.tok t sz n)):fA B h (h.set id x):=fun j b _ e=>by
 rw[iF (fun z=>by subst z;rw[q]at e;cases e)];exact e
omit [Laid] in
theorem fA.kill{h e:aa}{x:aL}(q:¬B id):fA B h (h.set id x++e):=fun j b hb z=>by
 rw[gO (by simpa using (eQ.1 z).1),iF (fun y=>by subst y;exact q hb)];exact z
omit [Laid] in
theorem fA.VU{x:aL}(q:¬B id):fA B h (h.set id x):=fun j b hb z=>by
 rw[iF (fun y=>by subst y;exact q hb)];exact z
section
variable (P:Program) (ops:Array Oper) (n:Nat) (Lo Fe Ee Ge:Nat→Bool) (B:Nat→Prop)
def qL(i:Nat)(K:Fr→aa→Prop)(fr:Fr)(h:aa):Prop:=
 match ops[i]? with
 | none=>False
 | some o=>o.guard=none∧∃own K0,bE P own (aG fr) h o.op K0∧∀v h',K0 v h'→(Ge i=true→fA B h h')∧K (bN n fr o.dst v) h'
def tB(Z:Fr→aa→Prop):Nat→Array Bool→Fr→aa→Prop
 | 0,listed,fr,h=>listed=full ops ops.size∧Z fr h
 | fuel+1,listed,fr,h=>Region.ready .any ops listed≠[]∧∀i∈Region.ready .any ops listed,
   (Lo i=true∧qL P ops n Ge B i (fun fr' h' => tB Z fuel (listed.setIfInBounds i true) fr' h') fr h) ∨
   (Lo i=false∧qA P ops n h i (fun fr' => tB Z fuel (listed.setIfInBounds i true) fr' h) fr)
def jZ(Z:Fr→aa→Prop):List Nat→Fr→aa→Prop
 | [],fr,h=>Z fr h
 | i:: r,fr,h=>match ops[i]? with
   | none=>False
   | some o=>(Lo i=true∧o.guard=none∧∃own K0,bE P own (aG fr) h o.op K0∧∀v h',K0 v h'→(Ge i=true→fA B h h')∧jZ Z r (bN n fr o.dst v) h') ∨
     (Lo i=false∧∃x,YA P ops h o x fr∧(Fe i=true→∀h',YA P ops h' o x fr)∧(Ee i=true→∀h',fA B h h'→YA P ops h' o x fr)∧jZ Z r (bN n fr o.dst x) h)
end
section
variable {P:Program} {ops:Array Oper} {n:Nat} {Lo Fe Ee Ge:Nat→Bool} {B:Nat→Prop}
theorem Im{i:Nat}{K K':Fr→aa→Prop}{fr:Fr}{h:aa}(hk:∀fr h,K fr h→K' fr h)(q:qL P ops n Ge B i K fr h):qL P ops n Ge B i K' fr h:=by
 unfold qL at *;split
 ·rename_i e;rw[e]at q;exact q
 ·rename_i o e;rw[e]at q;obtain⟨g,own,K0,q,k⟩:=q;exact⟨g,own,K0,q,fun v h' z=>⟨(k v h' z).1,hk _ _ (k v h' z).2⟩⟩
theorem UH{h:aa}{j:Nat}{oi oj:Oper}{x:AV}{K:Fr→aa→Prop}{fr:Fr}(hj:ops[j]?=some oj)(hap:oi.apart ops oj=true)(hy:∀h',YA P ops h' oi x fr)(q:qL P ops n Ge B j K (bN n fr oi.dst x) h):
 qL P ops n Ge B j (fun fr' h' => (∀h2,YA P ops h2 oi x fr')∧K (bN n fr' oi.dst x) h') fr h:=by
 obtain⟨h1,h2,h3⟩:=Oper.apart_spec hap;unfold qL at *;simp only[hj]at *;obtain⟨g,own,K0,q,k⟩:=q;refine⟨g,own,K0,oG (ev:=aG (bN n fr oi.dst x)) (fun y hy=>?_) q,fun v h' z=>⟨(k v h' z).1,fun h2=>(hy h2).put h3, ?_⟩⟩
 ·cases y with
  | tmp t =>
    have:bA (bN n fr oi.dst x) t=bA fr t:=fJ fun e he q=>h1 e he (by
     unfold Oper.looksAt;refine List.mem_append_left _ ?_;simp only[aa0];exact⟨.tmp t,by simpa using hy,by rw[q]⟩)
    simp[aG,this]
  | _=>rfl
 ·have k:=(k v h' z).2;rw[vJ (fun t ht=>h2 t ht)]at k;exact k
def A2:Op→Bool
 | .alloc _|.box _ _|.buildSlice _ _ _=>true
 | _=>false
theorem vT{own:Bool}{ev:Operand→AV}{h:aa}{op:Op}{K:AV→aa→Prop}(he:A2 op=true)(q:bE P own ev h op K):bE P own ev h op fun v h' => (∃e,h'=h++e)∧K v h':=by
 cases op<;>simp only[A2,aaJ]at he<;>simp only[bE]at q ⊢
 case alloc t =>
  split at q
  ·unfold aW at *;exact⟨q.1,⟨_,rfl⟩,q.2⟩
  ·exact q.elim
 case box t x =>
  unfold aW at *;exact⟨q.1,⟨_,rfl⟩,q.2⟩
 case buildSlice t k ps =>
  split at q
  ·rename_i e he;split at q
   ·obtain⟨hr,q⟩:=aZ q;rw[hr];simp only[cM];cases own with
    | true =>
      simp only at q ⊢;unfold br at *;split at q
      ·exact⟨⟨[],by simp⟩,q⟩
      ·exact q.elim
    | false =>
      simp only at q ⊢;unfold ou at *;split at q
      ·split at q
       ·exact⟨⟨[],by simp⟩,q⟩
       ·exact⟨⟨_,rfl⟩,q⟩
      ·exact q.elim
   ·exact q.elim
  ·exact q.elim
theorem Re{h:aa}{j:Nat}{oi oj:Oper}{x:AV}{K:Fr→aa→Prop}{fr:Fr}(hj:ops[j]?=some oj)(hex:Ge j=true)(hap:oi.apart ops oj=true)(hy:∀h',fA B h h'→YA P ops h' oi x fr)(q:qL P ops n Ge B j K (bN n fr oi.dst x) h):
 qL P ops n Ge B j (fun fr' h' => (∀h2,fA B h' h2→YA P ops h2 oi x fr')∧K (bN n fr' oi.dst x) h') fr h:=by
 obtain⟨h1,h2,h3⟩:=Oper.apart_spec hap;unfold qL at *;simp only[hj]at *;obtain⟨g,own,K0,q,k⟩:=q;refine⟨g,own,K0,oG (ev:=aG (bN n fr oi.dst x)) (fun y hy=>?_) q,fun v h' z=>⟨(k v h' z).1,fun h4 hl=>?_, ?_⟩⟩
 ·cases y with
  | tmp t =>
    have:bA (bN n fr oi.dst x) t=bA fr t:=fJ fun e he q=>h1 e he (by
     unfold Oper.looksAt;refine List.mem_append_left _ ?_;simp only[aa0];exact⟨.tmp t,by simpa using hy,by rw[q]⟩)
    simp[aG,this]
  | _=>rfl
 ·exact (hy h4 (((k v h' z).1 hex).trans hl)).put h3
 ·have k:=(k v h' z).2;rw[vJ (fun t ht=>h2 t ht)]at k;exact k
def Aa(ops:Array Oper)(Lo Ge:Nat→Bool)(listed:Array Bool)(i:Nat):Bool:=
 (List.range ops.size).all fun j=>!Lo j||listed.getD j true||(Kz ops ops.size (dS ops j)).contains i||Ge j
def Ab(ops:Array Oper)(Lo:Nat→Bool)(listed:Array Bool)(i:Nat):Bool:=
 (List.range ops.size).all fun j=>!Lo j||listed.getD j true||(Kz ops ops.size (dS ops j)).contains i
omit [Laid] in
theorem Ra{listed:Array Bool}{i j:Nat}(hp:Ab ops Lo listed i=true)(hd:Down ops listed)(hi:listed.getD i true=false)(hj:j∈Region.ready .any ops listed)(hl:Lo j=true):False:=by
 obtain⟨h0,o,ho,hall⟩:=mem_ready.1 hj;have hlt:=(AS.1 ho).1;have:=At.1 hp j (by simpa using hlt);simp only[hl,Bool.not_true,Bool.false_or,h0,List.contains_iff_mem]at this;refine pz hi (qG hd ops.size _ (fun k hk=>?_) i this);unfold dS at hk;rw[ho]at hk;simp only[aaF,aaY]at hk;obtain⟨e,⟨he,hb⟩,rfl⟩:=hk;exact hall e (by simpa using he) hb
omit [Laid] in
theorem Q9{listed:Array Bool}{i j:Nat}{oj:Oper}(hp:Aa ops Lo Ge listed i=true)(hd:Down ops listed)(hi:listed.getD i true=false)(hj:j∈Region.ready .any ops listed)(hoj:ops[j]?=some oj)(hl:Lo j=true):Ge j=true:=by
 obtain⟨h0,o,ho,hall⟩:=mem_ready.1 hj;have hlt:=(AS.1 ho).1;have:=At.1 hp j (by simpa using hlt);simp only[hl,Bool.not_true,Bool.false_or,h0,hoj,aa7,List.contains_iff_mem]at this;rcases this with this|this
 ·refine (pz hi (qG hd ops.size _ (fun k hk=>?_) i this)).elim;unfold dS at hk;rw[ho]at hk;simp only[aaF,aaY]at hk;obtain⟨e,⟨he,hb⟩,rfl⟩:=hk;exact hall e (by simpa using he) hb
 ·exact this
theorem AB{Z:Fr→aa→Prop}{i:Nat}{oi:Oper}{x:AV}(hi:ops[i]?=some oi)(hLi:Lo i=false):∀(fuel:Nat) (listed:Array Bool) (fr:Fr) (h:aa),Down ops listed →
 (∀j oj,ops[j]?=some oj→j≠i→j<ops.size→listed.getD j true=false→(∀e∈oj.after,Region.binds .any e=true→e.on≠i)→oi.apart ops oj=true) →
 i∈Region.ready .any ops listed→YA P ops h oi x fr→((∀h',YA P ops h' oi x fr)∨Ab ops Lo listed i=true∨((∀h',fA B h h'→YA P ops h' oi x fr)∧Aa ops Lo Ge listed i=true))→tB P ops n Lo Ge B Z fuel (listed.setIfInBounds i true) (bN n fr oi.dst x) h→tB P ops n Lo Ge B Z (fuel+1) listed fr h:=by
 have own:∀{K:Fr→Prop} {fr:Fr} {h:aa},YA P ops h oi x fr→K (bN n fr oi.dst x)→qA P ops n h i K fr:=fun hy hk=>by unfold qA;simp only[hi];exact⟨x,hy,hk⟩
 intro fuel;induction fuel with
 | zero =>
   intro listed fr h hd hfree hr hy hp H;refine⟨fun q=>(by rw[q]at hr;cases hr),fun j hj=>?_⟩;have hj0:=(mem_ready.1 hj).1
   by_cases hji:j=i
   ·subst hji;exact .inr ⟨hLi,own hy H⟩
   ·exfalso;have e:=congrArg (fun a=>a.getD j true) H.1;simp only[getD_set_ne true (Ne.symm hji)]at e;rw[hj0]at e;obtain⟨_,oj,hoj,_⟩:=mem_ready.1 hj;have hlt:=(AS.1 hoj).1;simp[full,hlt]at e
 | succ fuel ih =>
   intro listed fr h hd hfree hr hy hp H;refine⟨fun q=>(by rw[q]at hr;cases hr),fun j hj=>?_⟩
   by_cases hji:j=i
   ·subst hji;exact .inr ⟨hLi,own hy H⟩
   ·have h1:=H.2 j (ready_mono hj hji);obtain⟨hjun,oj,hoj,hall⟩:=mem_ready.1 hj;have hjlt:=(AS.1 hoj).1;have hnot:∀e∈oj.after,Region.binds .any e=true→e.on≠i:=fun e he hb heq=>by
     have h1:=hall e he hb;rw[heq]at h1;exact pz (mem_ready.1 hr).1 h1
    have hap:=hfree j oj hoj hji hjlt hjun hnot;have hfree':∀k ok,ops[k]?=some ok→k≠i→k<ops.size→(listed.setIfInBounds j true).getD k true=false →
     (∀e∈ok.after,Region.binds .any e=true→e.on≠i)→oi.apart ops ok=true:=fun k ok hk hki hkT hun hno=>by
     refine hfree k ok hk hki hkT ?_ hno
     by_cases hjk:j=k
     ·subst hjk;exact hjun
     ·rw[getD_set_ne true hjk]at hun;exact hun
    have hpinE:Aa ops Lo Ge listed i=true→Aa ops Lo Ge (listed.setIfInBounds j true) i=true:=fun hp=>by
     unfold Aa at *;refine At.2 fun k hk=>?_;have:=At.1 hp k hk;simp only[aa7]at this ⊢;refine this.imp (fun q=>q.imp (fun q=>q.imp id fun q=>?_) id) id
     by_cases hjk:j=k
     ·subst hjk;simp[hjlt,Array.getD_eq_getD_getElem?,Array.getElem?_setIfInBounds];split<;>simp_all
     ·rw[getD_set_ne true hjk];exact q
    have hpin:Ab ops Lo listed i=true→Ab ops Lo (listed.setIfInBounds j true) i=true:=fun hp=>by
     unfold Ab at *;refine At.2 fun k hk=>?_;have:=At.1 hp k hk;simp only[aa7]at this ⊢;refine this.imp (fun q=>q.imp id fun q=>?_) id
     by_cases hjk:j=k
     ·subst hjk;simp[hjlt,Array.getD_eq_getD_getElem?,Array.getElem?_setIfInBounds];split<;>simp_all
     ·rw[getD_set_ne true hjk];exact q
    rcases h1 with⟨hLj,h1⟩|⟨hLj,h1⟩
    ·rcases hp with hp|hp|⟨hp,hpe⟩
     ·left;have h2:=UH hoj hap hp h1;refine⟨hLj,Im (fun fr' h' h3=>ih (listed.setIfInBounds j true) fr' h' (hd.set hj) hfree' (ready_mono hr (Ne.symm hji)) (h3.1 h') (.inl h3.1) ?_) h2⟩;rw[Array.setIfInBounds_comm _ _ hji];exact h3.2
     ·exact (Ra hp hd (mem_ready.1 hr).1 hj hLj).elim
     ·left;have h2:=Re hoj (Q9 hpe hd (mem_ready.1 hr).1 hj hoj hLj) hap hp h1;refine⟨hLj,Im (fun fr' h' h3=>ih (listed.setIfInBounds j true) fr' h' (hd.set hj) hfree' (ready_mono hr (Ne.symm hji)) (h3.1 h' (fA.refl _)) (.inr (.inr ⟨h3.1,hpinE hpe⟩)) ?_) h2⟩;rw[Array.setIfInBounds_comm _ _ hji];exact h3.2
    ·right;have h2:=LU hoj hap hy h1;rcases hp with hp|hp|⟨hp,hpe⟩
     ·have h4:qA P ops n h j (fun fr' => (∀h',YA P ops h' oi x fr')∧YA P ops h oi x fr'∧tB P ops n Lo Ge B Z fuel ((listed.setIfInBounds i true).setIfInBounds j true) (bN n fr' oi.dst x) h) fr:=by
       obtain⟨_,_,h5⟩:=Oper.apart_spec hap;unfold qA at h2 ⊢;simp only[hoj]at h2 ⊢;obtain⟨y,q1,q2⟩:=h2;exact⟨y,q1,fun h' => (hp h').put h5,q2⟩
      refine⟨hLj,yf (fun fr' h3=>ih (listed.setIfInBounds j true) fr' h (hd.set hj) hfree' (ready_mono hr (Ne.symm hji)) h3.2.1 (.inl h3.1) ?_) h4⟩;rw[Array.setIfInBounds_comm _ _ hji];exact h3.2.2
     ·refine⟨hLj,yf (fun fr' h3=>ih (listed.setIfInBounds j true) fr' h (hd.set hj) hfree' (ready_mono hr (Ne.symm hji)) h3.1 (.inr (.inl (hpin hp))) ?_) h2⟩;rw[Array.setIfInBounds_comm _ _ hji];exact h3.2
     ·have h4:qA P ops n h j (fun fr' => (∀h',fA B h h'→YA P ops h' oi x fr')∧YA P ops h oi x fr'∧tB P ops n Lo Ge B Z fuel ((listed.setIfInBounds i true).setIfInBounds j true) (bN n fr' oi.dst x) h) fr:=by
       obtain⟨_,_,h5⟩:=Oper.apart_spec hap;unfold qA at h2 ⊢;simp only[hoj]at h2 ⊢;obtain⟨y,q1,q2⟩:=h2;exact⟨y,q1,fun h' hl=>(hp h' hl).put h5,q2⟩
      refine⟨hLj,yf (fun fr' h3=>ih (listed.setIfInBounds j true) fr' h (hd.set hj) hfree' (ready_mono hr (Ne.symm hji)) h3.2.1 (.inr (.inr ⟨h3.1,hpinE hpe⟩)) ?_) h4⟩;rw[Array.setIfInBounds_comm _ _ hji];exact h3.2.2
def FD(ops:Array Oper)(Lo Fe Ee Ge:Nat→Bool):List Nat→Array Bool→Bool
 | [],listed=>listed == full ops ops.size
 | i:: r,listed=>(match Lo i with
   | true=>Region.ready .any ops listed == [i]
   | false=>(Region.ready .any ops listed).contains i&&A3 ops listed ops.size i&&(Fe i||Ab ops Lo listed i||Ee i&&Aa ops Lo Ge listed i))&&FD ops Lo Fe Ee Ge r (listed.setIfInBounds i true)
theorem rE{Z:Fr→aa→Prop}:∀(l:List Nat) (listed:Array Bool) (fr:Fr) (h:aa),Down ops listed→FD ops Lo Fe Ee Ge l listed=true→jZ P ops n Lo Fe Ee Ge B Z l fr h→tB P ops n Lo Ge B Z l.length listed fr h
 | [],listed,fr,h,_,hL,q=>by
   simp only[FD,beq_iff_eq]at hL;exact⟨hL,q⟩
 | i:: l,listed,fr,h,hd,hL,q=>by
   simp only[jZ]at q;cases ho:ops[i]? with
   | none=>rw[ho]at q;exact q.elim
   | some o =>
     rw[ho]at q;simp only at q;rcases q with⟨hl,hg,own,K0,q,k⟩|⟨hl,x,hy,hf,hee,q⟩
     ·simp only[FD,hl,NO,beq_iff_eq]at hL;obtain⟨hr,hL⟩:=hL;have hm:i∈Region.ready .any ops listed:=by rw[hr];simp
      refine⟨by rw[hr];simp,fun j hj=>?_⟩;rw[hr]at hj;simp only[TO]at hj;subst hj;refine .inl ⟨hl, ?_⟩;unfold qL;simp only[ho];exact⟨hg,own,K0,q,fun v h' z=>⟨(k v h' z).1,rE l _ _ h' (hd.set hm) hL (k v h' z).2⟩⟩
     ·simp only[FD,hl,NO,aa7,or_assoc]at hL;obtain⟨⟨⟨hr,hfp⟩,hp⟩,hL⟩:=hL;have hm:i∈Region.ready .any ops listed:=by simpa using hr
      exact AB ho hl l.length listed fr h hd (vd ho hfp) hm hy (hp.imp hf fun z=>z.imp id fun z=>⟨hee z.1,z.2⟩) (rE l _ _ h (hd.set hm) hL q)
theorem FO{m i base:Nat}{ι:List Ix}{S:ba}{a:Act}{w:World}{fr:Fr}{h:aa}{K:Fr→aa→Prop}{K':Act→World→Prop}{Q':Exit→Act→World→Prop}(hm:m≤ι.length)(hr:bX base ι S a w ⟨n,fr,h⟩)
 (hk:∀ι' S' a' w' fr' h',h.length≤h'.length→bS m base ι S w ι' S' w'→bX base ι' S' a' w' ⟨n,fr',h'⟩→K fr' h'→K' a' w') (q:qL P ops n Ge B i K fr h):wpOp P ops Q' i K' a w:=by
 unfold qL at q;unfold wpOp;split
 ·rename_i e;rw[e]at q;exact q.elim
 ·rename_i o e;rw[e]at q;obtain⟨g,own,K0,hy,hK⟩:=q;have hw:gG ops o fr=some true:=by unfold gG;rw[g]
  rw[if_pos (tz hr hw)];left;refine nF (fun a' w' k=>?_) (fun _ _ _ k=>k) (oE (st:=⟨n,fr,h⟩) hr hy Q');obtain⟨ι',S',v,h',hE,hR,hl,k⟩:=k;exact hk ι' S' a' w' _ h' hl (hE.mono hm (bY _)) hR (hK _ _ k).2
theorem oa{m:Nat}{Z:Fr→aa→Prop}{Q':Exit→St→Prop}(hZ:∀fr h,Z fr h→Q' .normal ⟨n,fr,h⟩):∀(fuel:Nat) (listed:Array Bool) (base:Nat) (ι:List Ix) (S:ba) (a:Act) (w:World) (fr:Fr) (h:aa),
 m≤h.length→bX base ι S a w ⟨n,fr,h⟩→tB P ops n Lo Ge B Z fuel listed fr h→wpAny P .any ops (dv m base ι S w Q') fuel listed a w
 | 0,listed,base,ι,S,a,w,fr,h,hm,hr,q=>by
   rw[q.1];exact⟨sW,ι,S,⟨n,fr,h⟩,bS.refl _ _ _ _ _,hm,hr,hZ fr h q.2⟩
 | fuel+1,listed,base,ι,S,a,w,fr,h,hm,hr,q=>by
   have hm':m≤ι.length:=by rw[hr.hp.len];exact hm
   refine⟨fun e=>absurd e q.1,fun i hi=>?_⟩;rcases q.2 i hi with⟨_,k⟩|⟨_,k⟩
   ·refine FO (m:=m) hm' hr (fun ι' S' a' w' fr' h' hl hE hr' k=>?_) k;have:=oa (m:=m) (Q':=Q') hZ fuel (listed.setIfInBounds i true) base ι' S' a' w' fr' h' (by omega) hr' k;exact dR (fun e a w z=>dv.trans hE z) _ _ _ _ this
   ·refine Ac (m:=m) hm' hr (fun ι' S' a' w' fr' hE hr' k=>?_) k;have:=oa (m:=m) (Q':=Q') hZ fuel (listed.setIfInBounds i true) base ι' S' a' w' fr' h hm hr' k;exact dR (fun e a w z=>dv.trans hE z) _ _ _ _ this
end
/-! ### The condition on abstract values -/
def Fq(x:AV):Bool:=match x with|.own _ _ _ _=>false|_=>true
def JD(ev:Operand→AV)(op:Op):Bool:=match op with
 | .call c=>(match c.callee,c.args.toList with|.builtin .append,[x,_]=>Fq (ev x)|_,_=>false)
 | _=>false
def Fa(P:Program)(ev:Operand→AV)(h:aa)(op:Op)(K:AV→Prop):Prop:=match op with
 | .load t x=>cM (fT P t) (ak (fx P t) (P.cellsOf t) (ev x) h K)
 | _=>False
omit [Laid] in
theorem Oa{h h':aa}{K:AV→Prop}(hx:∀id o,x=.op id o→B id)(hl:fA B h h')(q:ak g sz x h K):ak g sz x h' K:=by
 cases x<;>simp only[ak]at q⊢<;> first|exact q|skip
 rename_i id o;cases e:h[id]? with
 | none=>rw[e]at q;exact q.elim
 | some en =>
   rw[e]at q;cases en with
   | ah b=>rw[hl id b (hx _ _ rfl) e];exact q
   | tok=>exact q.elim
   | dead=>exact q.elim
   | mp=>exact q.elim
   | it=>exact q.elim
theorem vp{K:AV→Prop}(hB:∀t x id o,op=.load t x→ev x=.op id o→B id)(q:Fa P ev h op K):∃x,(∀h',fA B h h'→bE P own ev h' op fun v h2=>v=x∧h2=h')∧K x:=by
 unfold Fa at q;split at q
 ·obtain⟨ht,q⟩:=aZ q;obtain⟨x,q1,q2⟩:=zz _ _ _ _ K q;refine⟨x,fun h' hl=>?_,q2⟩;simp only[bE,ht,cM];have:=Oa (fun id o e=>hB _ _ id o rfl e) hl q1;simpa using this
 ·exact q.elim
omit [Laid] in
theorem wI{e sz bytes:Nat}{src:Option (List (List AV))}(hx:∀id o l s,x=.own id o l s→¬B id)(q:eE own e sz bytes x src h K):eE own e sz bytes x src h fun v h' => fA B h h'∧K v h':=by
 unfold eE at *;cases src with
 | none=>exact q
 | some rows =>
   simp only at q ⊢;refine⟨q.1, ?_⟩;have q:=q.2;cases hn:xb x<;>rw[hn]at q<;>simp only at q⊢<;> first|exact q.elim|skip
   case emp =>
    cases own with
    | false=>exact⟨q.1,fA.ext _ _,q.2⟩
    | true=>exact⟨q.1,q.2.1,fA.ext _ _,q.2.2⟩
   case sb id sz' base =>
    cases e2:h[id]? with
    | none=>rw[e2]at q;exact q.elim
    | some en =>
      rw[e2]at q;cases en with
      | tok=>exact⟨q.1,q.2.1,fA.tok e2,q.2.2⟩
      | ah=>exact q.elim
      | dead=>exact q.elim
      | mp=>exact q.elim
      | it=>exact q.elim
   case own id o l s =>
    have hb:¬B id:=by
     unfold xb at hn;split at hn
     ·cases hn
     ·exact hx _ _ _ _ hn
    cases e2:h[id]? with
    | none=>rw[e2]at q;exact q.elim
    | some en =>
      rw[e2]at q;cases en with
      | ah=>exact⟨q.1,q.2.1,q.2.2.1,fA.kill hb,q.2.2.2⟩
      | tok=>exact q.elim
      | dead=>exact q.elim
      | mp=>exact q.elim
      | it=>exact q.elim
omit [Laid] in
theorem QV(h:Fq x=true):∀id o l s,x=.own id o l s→¬B id:=fun id o l s e=>by subst e;simp[Fq]at h
theorem G2(hg:JD ev op=true)(q:bE P own ev h op K):bE P own ev h op fun v h' => fA B h h'∧K v h':=by
 unfold JD at hg;split at hg
 ·rename_i c;split at hg
  ·rename_i x y hc ha;simp only[bE,hc]at q ⊢;split at q
   ·rename_i t tx x' y' hat hxy;rw[ha]at hxy;simp only[List.cons.injEq,and_true]at hxy;obtain⟨rfl,rfl⟩:=hxy;cases h1:P.underlying t with
    | none=>rw[h1]at q;exact q.elim
    | some d =>
      cases h2:P.underlying tx with
      | none=>rw[h1,h2]at q;cases d<;>exact q.elim
      | some d2 =>
        rw[h1,h2]at q;cases d<;>cases d2<;>simp only at q⊢<;> first|exact q.elim|(obtain⟨hr,q⟩:=aZ q;rw[hr];exact wI (QV hg) q)
   ·exact q.elim
  ·cases hg
 ·cases hg
def rG(P:Program)(ops:Array Oper)(n:Nat):List (Nat×Nat×Bool)→Fr→aa→(Fr→aa→Prop)→Prop
 | [],fr,h,K=>K fr h
 | (i,k,own):: r,fr,h,K=>match ops[i]? with
  | none=>False
  | some o=>(match k with
    | 0=>Ht P own (aG fr) [] o.op fun v=>rG P ops n r (bN n fr o.dst v) h K
    | 1=>ED P own (aG fr) h o.op fun v=>rG P ops n r (bN n fr o.dst v) h K
    | 3=>Fa P (aG fr) h o.op fun v=>rG P ops n r (bN n fr o.dst v) h K
    | 4=>cM (JD (aG fr) o.op) (bE P own (aG fr) h o.op fun v h' => rG P ops n r (bN n fr o.dst v) h' K)
    | _=>bE P own (aG fr) h o.op fun v h' => rG P ops n r (bN n fr o.dst v) h' K)
def jE:List (Nat×Nat×Bool)→Nat→Nat
 | [],_=>2
 | (i,k,_):: r,j=>match Nat.beq i j with|true=>k|false=>jE r j
def kJ(l:List (Nat×Nat×Bool))(j:Nat):Bool:=match jE l j with|0=>false|1=>false|3=>false|_=>true
def sU(l:List (Nat×Nat×Bool))(j:Nat):Bool:=match jE l j with|0=>true|_=>false
def sT(l:List (Nat×Nat×Bool))(j:Nat):Bool:=match jE l j with|3=>true|_=>false
def sX(ops:Array Oper)(l:List (Nat×Nat×Bool))(j:Nat):Bool:=match jE l j with|4=>true|2=>(match ops[j]? with|some o=>A2 o.op|none=>false)|_=>false
def xG(P:Program)(ops:Array Oper)(l:List (Nat×Nat×Bool)):Bool:=
 P.follows .mixedOrders&&ops.all (fun o=>o.guard.isNone)&&decide (l.length=ops.size)&&l.all (fun p=>Nat.beq (jE l p.1) p.2.1)&&FD ops (kJ l) (sU l) (sT l) (sX ops l) (l.map (·.1)) (Array.replicate ops.size false)
def Hm(P:Program)(ops:Array Oper)(l:List (Nat×Nat×Bool))(Q:Exit→St→Prop)(st:St):Prop:=
 cM (xG P ops l) (rG P ops st.n l st.fr st.h fun fr h=>Q .normal ⟨st.n,fr,h⟩)
theorem ny{P:Program}{ops:Array Oper}{n:Nat}{K:Fr→aa→Prop}{L:List (Nat×Nat×Bool)}(hg:∀(i:Nat) (o:Oper),ops[i]?=some o→o.guard=none):∀(l:List (Nat×Nat×Bool)) (fr:Fr) (h:aa),(∀p∈l,jE L p.1=p.2.1)→rG P ops n l fr h K→jZ P ops n (kJ L) (sU L) (sT L) (sX ops L) (fun _=>True) K (l.map (·.1)) fr h
 | [],fr,h,_,q=>q
 | (i,k,own):: l,fr,h,hk,q=>by
  have hk0:jE L i=k:=hk (i,k,own) (by simp);have hk':∀p∈l,jE L p.1=p.2.1:=fun p hp=>hk p (by simp[hp]);simp only[rG]at q;simp only[GO,jZ];cases ho:ops[i]? with
  | none=>rw[ho]at q;exact q.elim
  | some o =>
    rw[ho]at q;simp only at q ⊢;have hw:∀fr,gG ops o fr=some true:=fun fr=>by unfold gG;rw[hg i o ho]
    split at q
    ·obtain⟨x,q1,q2⟩:=ue q;refine .inr ⟨by simp[kJ,hk0],x,.inl ⟨hw fr,own,by simpa using q1 h⟩,fun _ h' => .inl ⟨hw fr,own,by simpa using q1 h'⟩,fun z=>by simp[sT,hk0]at z,ny hg l _ h hk' q2⟩
    ·obtain⟨x,q1,q2⟩:=ri q;refine .inr ⟨by simp[kJ,hk0],x,.inl ⟨hw fr,own,q1⟩,fun z=>by simp[sU,hk0]at z,fun z=>by simp[sT,hk0]at z,ny hg l _ h hk' q2⟩
    ·obtain⟨x,q1,q2⟩:=vp (B:=fun _=>True) (own:=own) (fun _ _ _ _ _ _=>trivial) q;refine .inr ⟨by simp[kJ,hk0],x,.inl ⟨hw fr,own,q1 h (fA.refl _)⟩,fun z=>by simp[sU,hk0]at z,fun _ h' hl=>.inl ⟨hw fr,own,q1 h' hl⟩,ny hg l _ h hk' q2⟩
    ·obtain⟨hgr,q⟩:=aZ q;exact .inl ⟨by simp[kJ,hk0],hg i o ho,own,_,G2 hgr q,fun v h' k=>⟨fun _=>k.1,ny hg l _ h' hk' k.2⟩⟩
    ·rename_i h0 h1 h3 h4;have hlo:kJ L i=true:=by
      unfold kJ;rw[hk0];split
      ·exact absurd rfl h0
      ·exact absurd rfl h1
      ·exact absurd rfl h3
      ·rfl
     cases hex:A2 o.op with
     | true=>exact .inl ⟨hlo,hg i o ho,own,_,vT hex q,fun v h' k=>⟨fun _=>by obtain⟨⟨e,rfl⟩,_⟩:=k;exact fA.ext _ _,ny hg l _ h' hk' k.2⟩⟩
     | false =>
       have hge:sX ops L i=true→False:=fun z=>by
        unfold sX at z;rw[hk0]at z;split at z
        ·exact absurd rfl h4
        ·rw[ho]at z;simp[hex]at z
        ·exact absurd z (by simp)
       exact .inl ⟨hlo,hg i o ho,own,_,q,fun v h' k=>⟨fun z=>(hge z).elim,ny hg l _ h' hk' k⟩⟩
theorem GR{l:List (Nat×Nat×Bool)}(hm:m≤st.h.length)(hq:Hm P ops l Q st):AW P m (.region id ops true) Q st:=by
 intro base ι S a w _ hr;obtain⟨hok,hq⟩:=aZ hq;simp only[xG,NO,Of]at hok;obtain⟨⟨⟨⟨k1,k2⟩,k3⟩,k4⟩,k5⟩:=hok;obtain⟨hE,hr'⟩:=hr.drew;refine wp_region_any k1 (dR (fun e a w z=>dv.trans (hE.mono (by rw[hr.hp.len];exact hm) (bY _)) z) _ _ _ _ ?_);have down0:Down ops (Array.replicate ops.size false):=fun i o ho hl=>by
  have hlt:=(AS.1 ho).1;simp[hlt]at hl
 have hg:∀(i:Nat) (o:Oper),ops[i]?=some o→o.guard=none:=fun i o ho=>by
  have:=Array.all_eq_true_iff_forall_mem.1 k2 o (Array.mem_of_getElem? ho);simpa using this
 have hk:∀p∈l,jE l p.1=p.2.1:=fun p hp=>lE (At.1 k4 p hp);have q2:=ny hg l st.fr st.h hk hq;have q3:=rE _ _ _ _ down0 k5 q2;rw[aaC,k3]at q3;obtain⟨n,fr,h⟩:=st;exact oa (m:=m) (Q':=Q) (fun fr h z=>z) ops.size _ base ι S a _ fr h hm hr' q3
def Fk.dep:Fk→Nat
 | .nil=>0
 | .one _ _ _ t=>t.dep+1
 | .two a _=>a.dep
def Fk.flat:Fk→List (Nat×Nat×Bool)
 | .nil=>[]
 | .one i k own t=>(i,k,own):: t.flat
 | .two a _=>a.flat
def Fk.kinds(f:Nat→Nat):Fk→Bool
 | .nil=>true
 | .one i k _ t=>Nat.beq (f i) k&&t.kinds f
 | .two a b=>a.kinds f&&b.kinds f
def Fk.head:Fk→Option Nat
 | .one i _ _ _=>some i
 | _=>none
section
variable (P:Program) (ops:Array Oper) (n:Nat) (Lo Fe Ee Ge:Nat→Bool) (B:Nat→Prop)
def pn:Fk→Array Bool→Bool
 | .nil,listed=>listed == full ops ops.size
 | .one i _ _ t,listed=>(match Lo i with
   | true=>Region.ready .any ops listed == [i]
   | false=>(Region.ready .any ops listed).contains i&&A3 ops listed ops.size i&&(Fe i||Ab ops Lo listed i||Ee i&&Aa ops Lo Ge listed i))&&pn t (listed.setIfInBounds i true)
 | .two (.one i _ _ t) (.one j _ _ u),listed=>Lo i&&Lo j&&Region.ready .any ops listed == [i,j]&&Nat.beq t.dep u.dep&&pn t (listed.setIfInBounds i true)&&pn u (listed.setIfInBounds j true)
 | _,_=>false
def uI(Z:Fr→aa→Prop):Fk→Fr→aa→Prop
 | .nil,fr,h=>Z fr h
 | .one i _ _ r,fr,h=>match ops[i]? with
   | none=>False
   | some o=>(Lo i=true∧o.guard=none∧∃own K0,bE P own (aG fr) h o.op K0∧∀v h',K0 v h'→(Ge i=true→fA B h h')∧uI Z r (bN n fr o.dst v) h') ∨
     (Lo i=false∧∃x,YA P ops h o x fr∧(Fe i=true→∀h',YA P ops h' o x fr)∧(Ee i=true→∀h',fA B h h'→YA P ops h' o x fr)∧uI Z r (bN n fr o.dst x) h)
 | .two a b,fr,h=>uI Z a fr h∧uI Z b fr h
end
section
variable {P:Program} {ops:Array Oper} {n:Nat} {Lo Fe Ee Ge:Nat→Bool} {B:Nat→Prop}
theorem rF{Z:Fr→aa→Prop}:∀(l:Fk) (listed:Array Bool) (fr:Fr) (h:aa),Down ops listed→pn ops Lo Fe Ee Ge l listed=true→uI P ops n Lo Fe Ee Ge B Z l fr h→tB P ops n Lo Ge B Z l.dep listed fr h
 | .nil,listed,fr,h,_,hL,q=>by
   simp only[pn,beq_iff_eq]at hL;exact⟨hL,q⟩
 | .one i k0 own0 l,listed,fr,h,hd,hL,q=>by
   simp only[uI]at q;cases ho:ops[i]? with
   | none=>rw[ho]at q;exact q.elim
   | some o =>
     rw[ho]at q;simp only at q;rcases q with⟨hl,hg,own,K0,q,k⟩|⟨hl,x,hy,hf,hee,q⟩
     ·simp only[pn,hl,NO,beq_iff_eq]at hL;obtain⟨hr,hL⟩:=hL;have hm:i∈Region.ready .any ops listed:=by rw[hr];simp
      refine⟨by rw[hr];simp,fun j hj=>?_⟩;rw[hr]at hj;simp only[TO]at hj;subst hj;refine .inl ⟨hl, ?_⟩;unfold qL;simp only[ho];exact⟨hg,own,K0,q,fun v h' z=>⟨(k v h' z).1,rF l _ _ h' (hd.set hm) hL (k v h' z).2⟩⟩
     ·simp only[pn,hl,NO,aa7,or_assoc]at hL;obtain⟨⟨⟨hr,hfp⟩,hp⟩,hL⟩:=hL;have hm:i∈Region.ready .any ops listed:=by simpa using hr
      exact AB ho hl l.dep listed fr h hd (vd ho hfp) hm hy (hp.imp hf fun z=>z.imp id fun z=>⟨hee z.1,z.2⟩) (rF l _ _ h (hd.set hm) hL q)
 | .two (.one i k1 own1 t) (.one j k2 own2 u),listed,fr,h,hd,hL,q=>by
   simp only[pn,NO,beq_iff_eq]at hL;obtain⟨⟨⟨⟨⟨hi,hj⟩,hr⟩,hdp⟩,hL1⟩,hL2⟩:=hL;have hdp:t.dep=u.dep:=lE hdp;have mi:i∈Region.ready .any ops listed:=by rw[hr];simp
   have mj:j∈Region.ready .any ops listed:=by rw[hr];simp
   simp only[uI]at q;refine⟨by rw[hr];simp,fun p hp=>?_⟩;rw[hr]at hp;simp only[ID,List.not_mem_nil,or_false]at hp;rcases hp with rfl|rfl
   ·have q:=q.1;cases ho:ops[p]? with
    | none=>rw[ho]at q;exact q.elim
    | some o =>
      rw[ho]at q;simp only at q;rcases q with⟨hl,hg,own,K0,q,k⟩|⟨hl,_⟩
      ·refine .inl ⟨hl, ?_⟩;unfold qL;simp only[ho];exact⟨hg,own,K0,q,fun v h' z=>⟨(k v h' z).1,rF t _ _ h' (hd.set mi) hL1 (k v h' z).2⟩⟩
      ·rw[hi]at hl;cases hl
   ·have q:=q.2;cases ho:ops[p]? with
    | none=>rw[ho]at q;exact q.elim
    | some o =>
      rw[ho]at q;simp only at q;rcases q with⟨hl,hg,own,K0,q,k⟩|⟨hl,_⟩
      ·refine .inl ⟨hl, ?_⟩;unfold qL;simp only[ho];refine⟨hg,own,K0,q,fun v h' z=>⟨(k v h' z).1, ?_⟩⟩;have:=rF u _ _ h' (hd.set mj) hL2 (k v h' z).2;rw[←hdp]at this;exact this
      ·rw[hj]at hl;cases hl
 | .two .nil b,listed,fr,h,hd,hL,q=>by simp[pn]at hL
 | .two (.two _ _) b,listed,fr,h,hd,hL,q=>by simp[pn]at hL
 | .two (.one _ _ _ _) .nil,listed,fr,h,hd,hL,q=>by simp[pn]at hL
 | .two (.one _ _ _ _) (.two _ _),listed,fr,h,hd,hL,q=>by simp[pn]at hL
end
def oe(m:Nat)(x:AV):Bool:=match x with|.op id _=>Nat.ble (id+1) m|_=>true
def Pr(m:Nat)(x:AV):Bool:=match x with|.own id _ _ _=>Nat.ble m id|_=>true
def EU(m:Nat)(ev:Operand→AV)(op:Op):Bool:=match op with
 | .call c=>(match c.callee,c.args.toList with|.builtin .append,[x,_]=>Pr m (ev x)|_,_=>false)
 | _=>false
def JG(P:Program)(m:Nat)(ev:Operand→AV)(h:aa)(op:Op)(K:AV→Prop):Prop:=match op with
 | .load t x=>cM (oe m (ev x)) (cM (fT P t) (ak (fx P t) (P.cellsOf t) (ev x) h K))
 | _=>False
theorem Ld{K:AV→Prop}(q:JG P m ev h op K):∃x,(∀h',fA (·<m) h h'→bE P own ev h' op fun v h2=>v=x∧h2=h')∧K x:=by
 unfold JG at q;split at q
 ·rename_i t x;obtain⟨hb,q⟩:=aZ q;refine vp (B:=(·<m)) (own:=own) (fun t' x' id o e1 e2=>?_) (op:=.load t x) (by unfold Fa;exact q);cases e1;unfold oe at hb;rw[e2]at hb;exact lT hb
 ·exact q.elim
theorem M7(hg:EU m ev op=true)(q:bE P own ev h op K):bE P own ev h op fun v h' => fA (·<m) h h'∧K v h':=by
 unfold EU at hg;split at hg
 ·rename_i c;split at hg
  ·rename_i x y hc ha;have hno:∀id o l s,ev x=.own id o l s→¬id<m:=fun id o l s e=>by
    unfold Pr at hg;rw[e]at hg;have:=lT hg;omega
   simp only[bE,hc]at q ⊢;split at q
   ·rename_i t tx x' y' hat hxy;rw[ha]at hxy;simp only[List.cons.injEq,and_true]at hxy;obtain⟨rfl,rfl⟩:=hxy;cases h1:P.underlying t with
    | none=>rw[h1]at q;exact q.elim
    | some d =>
      cases h2:P.underlying tx with
      | none=>rw[h1,h2]at q;cases d<;>exact q.elim
      | some d2 =>
        rw[h1,h2]at q;cases d<;>cases d2<;>simp only at q⊢<;> first|exact q.elim|(obtain⟨hr,q⟩:=aZ q;rw[hr];exact wI hno q)
   ·exact q.elim
  ·cases hg
 ·cases hg
def yW(P:Program)(ops:Array Oper)(n m:Nat):Fk→Fr→aa→(Fr→aa→Prop)→Prop
 | .nil,fr,h,K=>K fr h
 | .one i k own r,fr,h,K=>match ops[i]? with
   | none=>False
   | some o=>(match k with
     | 0=>Ht P own (aG fr) [] o.op fun v=>yW P ops n m r (bN n fr o.dst v) h K
     | 1=>ED P own (aG fr) h o.op fun v=>yW P ops n m r (bN n fr o.dst v) h K
     | 3=>JG P m (aG fr) h o.op fun v=>yW P ops n m r (bN n fr o.dst v) h K
     | 4=>cM (EU m (aG fr) o.op) (bE P own (aG fr) h o.op fun v h' => yW P ops n m r (bN n fr o.dst v) h' K)
     | _=>bE P own (aG fr) h o.op fun v h' => yW P ops n m r (bN n fr o.dst v) h' K)
 | .two a b,fr,h,K=>yW P ops n m a fr h K∧yW P ops n m b fr h K
def Hq(P:Program)(ops:Array Oper)(t:Fk):Bool:=
 P.follows .mixedOrders&&ops.all (fun o=>o.guard.isNone)&&Nat.beq t.dep ops.size&&t.kinds (jE t.flat)&&pn ops (kJ t.flat) (sU t.flat) (sT t.flat) (sX ops t.flat) t (Array.replicate ops.size false)
def Hr(P:Program)(ops:Array Oper)(t:Fk)(Q:Exit→St→Prop)(st:St):Prop:=
 cM (Hq P ops t) (yW P ops st.n st.h.length t st.fr st.h fun fr h=>Q .normal ⟨st.n,fr,h⟩)
theorem mB{P:Program}{ops:Array Oper}{n m:Nat}{K:Fr→aa→Prop}{L:List (Nat×Nat×Bool)}(hg:∀(i:Nat) (o:Oper),ops[i]?=some o→o.guard=none):∀(l:Fk) (fr:Fr) (h:aa),l.kinds (jE L)=true→yW P ops n m l fr h K→uI P ops n (kJ L) (sU L) (sT L) (sX ops L) (·<m) K l fr h
 | .nil,fr,h,_,q=>q
 | .two a b,fr,h,hk,q=>by
   simp only[Fk.kinds,NO]at hk;exact⟨mB hg a fr h hk.1 q.1,mB hg b fr h hk.2 q.2⟩
 | .one i k own l,fr,h,hk,q=>by
   simp only[Fk.kinds,NO]at hk;have hk0:jE L i=k:=lE hk.1;have hk':=hk.2;simp only[yW]at q;simp only[uI];cases ho:ops[i]? with
   | none=>rw[ho]at q;exact q.elim
   | some o =>
     rw[ho]at q;simp only at q ⊢;have hw:∀fr,gG ops o fr=some true:=fun fr=>by unfold gG;rw[hg i o ho]
     split at q
     ·obtain⟨x,q1,q2⟩:=ue q;refine .inr ⟨by simp[kJ,hk0],x,.inl ⟨hw fr,own,by simpa using q1 h⟩,fun _ h' => .inl ⟨hw fr,own,by simpa using q1 h'⟩,fun z=>by simp[sT,hk0]at z,mB hg l _ h hk' q2⟩
     ·obtain⟨x,q1,q2⟩:=ri q;refine .inr ⟨by simp[kJ,hk0],x,.inl ⟨hw fr,own,q1⟩,fun z=>by simp[sU,hk0]at z,fun z=>by simp[sT,hk0]at z,mB hg l _ h hk' q2⟩
     ·obtain⟨x,q1,q2⟩:=Ld (own:=own) q;refine .inr ⟨by simp[kJ,hk0],x,.inl ⟨hw fr,own,q1 h (fA.refl _)⟩,fun z=>by simp[sU,hk0]at z,fun _ h' hl=>.inl ⟨hw fr,own,q1 h' hl⟩,mB hg l _ h hk' q2⟩
     ·obtain⟨hgr,q⟩:=aZ q;exact .inl ⟨by simp[kJ,hk0],hg i o ho,own,_,M7 hgr q,fun v h' k=>⟨fun _=>k.1,mB hg l _ h' hk' k.2⟩⟩
     ·rename_i h0 h1 h3 h4;have hlo:kJ L i=true:=by
       unfold kJ;rw[hk0];split
       ·exact absurd rfl h0
       ·exact absurd rfl h1
       ·exact absurd rfl h3
       ·rfl
      cases hex:A2 o.op with
      | true=>exact .inl ⟨hlo,hg i o ho,own,_,vT hex q,fun v h' k=>⟨fun _=>by obtain⟨⟨e,rfl⟩,_⟩:=k;exact fA.ext _ _,mB hg l _ h' hk' k.2⟩⟩
      | false =>
        have hge:sX ops L i=true→False:=fun z=>by
         unfold sX at z;rw[hk0]at z;split at z
         ·exact absurd rfl h4
         ·rw[ho]at z;simp[hex]at z
         ·exact absurd z (by simp)
        exact .inl ⟨hlo,hg i o ho,own,_,q,fun v h' k=>⟨fun z=>(hge z).elim,mB hg l _ h' hk' k⟩⟩
theorem GV{l:Fk}(hm:m≤st.h.length)(hq:Hr P ops l Q st):AW P m (.region id ops true) Q st:=by
 intro base ι S a w _ hr;obtain⟨hok,hq⟩:=aZ hq;simp only[Hq,NO]at hok;obtain⟨⟨⟨⟨k1,k2⟩,k3⟩,k4⟩,k5⟩:=hok;have k3:=lE k3;obtain⟨hE,hr'⟩:=hr.drew;refine wp_region_any k1 (dR (fun e a w z=>dv.trans (hE.mono (by rw[hr.hp.len];exact hm) (bY _)) z) _ _ _ _ ?_);have down0:Down ops (Array.replicate ops.size false):=fun i o ho hl=>by
  have hlt:=(AS.1 ho).1;simp[hlt]at hl
 have hg:∀(i:Nat) (o:Oper),ops[i]?=some o→o.guard=none:=fun i o ho=>by
  have:=Array.all_eq_true_iff_forall_mem.1 k2 o (Array.mem_of_getElem? ho);simpa using this
 have q2:=mB hg l st.fr st.h k4 hq;have q3:=rF _ _ _ _ down0 k5 q2;rw[k3]at q3;obtain⟨n,fr,h⟩:=st;exact oa (m:=m) (Q':=Q) (fun fr h z=>z) ops.size _ base ι S a _ fr h hm hr' q3
def mQ(P:Program):Code→An→(Exit→St→Prop)→St→Prop
 | .skip,_,Q,st=>Q .normal st
 | .ret,_,Q,st=>Q .ret st
 | .exit id,_,Q,st=>Q (.exit id) st
 | .label _,_,Q,st=>Q .normal st
 | .goto l,_,Q,st=>Q (.goto l) st
 | .seq a b,t,Q,st=>(match t with
   | .join cs ms _ _=>aw (fun J=>mQ P a t.l (iO (fun st' => cM (Nat.beq st'.n st.n) (jmp cs ms st.fr st'.fr st'.h J)) Q) st) fun s h=>mQ P b t.r Q ⟨st.n,join cs ms st.fr s,h⟩
   | _=>mQ P a t.l (iO (fun st=>mQ P b t.r Q st) Q) st)
 | .block id c,t,Q,st=>mQ P c t.l (AG id Q) st
 | .cond c a b,t,Q,st=>(match c with
   | .tmp x=>ag (bA st.fr x) (mQ P a t.l Q ⟨st.n,eU st.fr x (.v (.bool true)),st.h⟩) (mQ P b t.r Q ⟨st.n,eU st.fr x (.v (.bool false)),st.h⟩)
   | c=>ag (aG st.fr c) (mQ P a t.l Q st) (mQ P b t.r Q st))
 | .region _ ops draw,t,Q,st=>(match draw with
   | false=>cM (L7 ops (t.sg ops.size)) (kR P ops (t.sg ops.size) st (Q .normal))
   | true=>(match t with
     | .draw k l r q=>KU P ops k l r q Q st
     | .Jy k A l r q=>Hl P ops k A l r q Q st
     | .jQ l=>Hm P ops l Q st
     | .Jz l=>Hr P ops l Q st
     | _=>False))
 | .loop c,t,Q,st=>(match t with
   | .loop cs ms a=>bL (dV st.fr ms) st.h fun next s h=>mQ P c a (iO (fun st' => cM (Nat.beq st'.n st.n) (jmp cs ms st.fr st'.fr st'.h next)) Q) ⟨st.n,join cs ms st.fr s,h⟩
   | _=>False)
 | _,_,_,_=>False
theorem AW.DQ{Q Q':Exit→St→Prop}(h:AW P m c Q st)(hq:∀e st,m≤st.h.length→Q e st→Q' e st):AW P m c Q' st:=
 fun base ι S a w hm hr=>wp_mono (h base ι S a w hm hr) fun _ _ _ ⟨ι',S',st',h1,h2,h3,h4⟩=>⟨ι',S',st',h1,h2,h3,hq _ _ h2 h4⟩
theorem gf{P:Program}:∀(c:Code) (t:An) (Q:Exit→St→Prop) (st:St) (m:Nat),m≤st.h.length→mQ P c t Q st→AW P m c Q st
 | .skip,t,Q,st,m,_,h=>GY h
 | .ret,t,Q,st,m,_,h=>Kd h
 | .exit id,t,Q,st,m,_,h=>GW h
 | .label l,t,Q,st,m,_,h=>D8 h
 | .goto l,t,Q,st,m,_,h=>GX h
 | .seq a b,t,Q,st,m,hm,h=>by
   simp only[mQ]at h;split at h
   ·rename_i cs ms a' b';refine Am (AW.DQ (gf a _ _ st m hm h) fun e st' hm' k=>?_);cases e with
    | normal =>
      obtain⟨hn,q⟩:=aZ k;obtain⟨e1,k⟩:=rk q;have hn:st'.n=st.n:=lE hn;intro base ι S ac w _ hr;exact gf b _ Q ⟨st.n,join cs ms st.fr (dV st'.fr ms),st'.h⟩ m hm' k base ι S ac w hm' ⟨hr.df,by rw[←hn];exact hr.sz,hr.fr.join e1,hr.hp⟩
    | _=>exact k
   ·refine Am (AW.DQ (gf a _ _ st m hm h) fun e st' hm' k=>?_);cases e with
    | normal=>exact gf b _ Q _ m hm' k
    | _=>exact k
 | .block id c,t,Q,st,m,hm,h=>D6 (gf c t.l _ st m hm h)
 | .cond c a b,t,Q,st,m,hm,h=>by
   intro base ι S ac w hm' hr;simp only[mQ]at h;have other:∀{x:AV},au ι S w x (ac.eval c)→ag x (mQ P a t.l Q st) (mQ P b t.r Q st)→(Code.cond c a b).wp P (dv m base ι S w Q) ac w:=by
    rintro x rx ⟨b',rfl,h1,h2⟩;rw[cz]at rx;cases b' with
    | true=>exact wp_cond_true rx (gf a t.l Q st m hm (h1 rfl) base ι S ac w hm hr)
    | false=>exact wp_cond_false rx (gf b t.r Q st m hm (h2 rfl) base ι S ac w hm hr)
   split at h
   ·rename_i x;have rv:=hr.get x;obtain⟨b',e,h1,h2⟩:=h;rw[e]at rv;have he:ac.eval (.tmp x)=.bool b':=by rw[cz]at rv;exact rv
    cases b' with
    | true=>exact wp_cond_true he (gf a t.l Q ⟨st.n,eU st.fr x (.v (.bool true)),st.h⟩ m hm (h1 rfl) base ι S ac w hm ⟨hr.df,hr.sz,dC.Dl hr.fr rv,hr.hp⟩)
    | false=>exact wp_cond_false he (gf b t.r Q ⟨st.n,eU st.fr x (.v (.bool false)),st.h⟩ m hm (h2 rfl) base ι S ac w hm ⟨hr.df,hr.sz,dC.Dl hr.fr rv,hr.hp⟩)
   ·exact other (hr.eval _) h
 | .region id ops draw,t,Q,st,m,hm,h=>by
   cases draw with
   | false =>
     obtain⟨hok,h⟩:=aZ h;simp only[L7,NO,beq_iff_eq]at hok;intro base ι S a w _ hr;have:=oD (m:=m) (Q:=Q) _ base ι S a w st hok.1 hm hr h;rw[hok.2,J2]at this;exact wp_region this
   | true =>
     simp only[mQ]at h;split at h
     ·exact JW hm h
     ·exact GQ hm h
     ·exact GR hm h
     ·exact GV hm h
     ·exact h.elim
 | .loop c,t,Q,st,m,hm,h=>by
   simp only[mQ]at h;split at h
   ·rename_i cs ms a;exact D7 (cs:=cs) (ms:=ms) hm _ (fun next s h' hl k=>gf c a _ _ st.h.length hl k) h
   ·exact h.elim
 | .rangeFunc _ _ _ _,t,Q,st,m,hm,h=>h.elim
 | .scope _,t,Q,st,m,hm,h=>h.elim
 | .refuse _,t,Q,st,m,hm,h=>h.elim
def Ad(P:Program)(st:St):List ResultVar→(List AV→Prop)→Prop
 | [],K=>K []
 | .tmp t:: r,K=>Ad P st r fun l=>K (aG st.fr (.tmp t):: l)
 | .cell a t:: r,K=>cM (fT P t) (ak (fx P t) (P.cellsOf t) (aG st.fr (.tmp a)) st.h fun v=>Ad P st r fun l=>K (v:: l))
def qu:List AV→AV
 | [x]=>x
 | l=>.aA l
def xD(P:Program)(rs:List ResultVar)(K:AV→aa→Prop):Exit→St→Prop
 | .normal,st=>Ad P st rs fun l=>K (qu l) st.h
 | .ret,st=>Ad P st rs fun l=>K (qu l) st.h
 | _,_=>False
theorem LZ{a:Act}{t:TypeId}{x:Operand}{K:AV→Prop}(hr:bX base ι S a w st)(hk:fT P t=true)(h:ak (fx P t) (P.cellsOf t) (aG st.fr x) st.h K):
 ∃ad v u,a.eval x=.pointer (some ad)∧(loadVar t ad).run P w=.ok u w∧au ι S w v u∧K v:=by
 have hx:=hr.eval x;unfold ak at h;split at h
 ·rename_i cs e;rw[e,au]at hx;obtain⟨b,off,ev,r⟩:=hx;obtain⟨vs,rv,hc⟩:=r.sy;obtain⟨v,u,hrun,rv,k⟩:=oB (P:=P) hk rv hc h;exact⟨_,v,u,ev,hrun,rv,k⟩
 ·rename_i id off e;rw[e,au]at hx;obtain⟨b,c1,ev⟩:=hx;split at h
  ·rename_i ah eb;obtain⟨b',arr,fz,k1,k2,k3,k4,k5,k6,k7,k8,k9⟩:=hr.hp.live id ah eb;rw[c1]at k1;cases k1;have hcells:aE ι S w ah.cells (arr.toList.take ah.cells.length):=by
    refine aE.mk (by simp;omega) fun i c v e1 e2=>?_;obtain⟨v',e3,r⟩:=k6 i c e1;rw[ON]at e2;split at e2
    ·simp only[Array.getElem?_toList]at e2;rw[e3]at e2;cases e2;exact r
    ·cases e2
   obtain⟨v,u,hrun,rv,k⟩:=oB (P:=P) (b:=b) (off:=off) hk (hcells.drop off) (by
    intro i v e1;rw[gb k3];rw[aaG,ON]at e1;split at e1
    ·simpa using e1
    ·cases e1) h
   exact⟨_,v,u,ev,hrun,rv,k⟩
  ·exact h.elim
 ·exact h.elim
def xh(a:Act):ResultVar→Sem Value
 | .tmp t=>pure (a.tmps.getD t undef)
 | .cell x t=>do loadVar t (←asAddr (a.tmps.getD x undef))
omit [Laid] in
theorem Bs(fn:Func)(a:Act):results fn a.tmps=(do
 let vs ←fn.results.mapM (xh a)
 pure (if h:vs.size=1 then vs[0] else .tuple vs)):=by
 unfold results
 congr 1
theorem pM{P:Program}{base:Nat}{ι:List Ix}{S:ba}{a:Act}{w:World}{st:St}(hr:bX base ι S a w st):∀(rs:List ResultVar) (K:List AV→Prop),Ad P st rs K →
 ∃l vs,(rs.mapM (m:=Sem) (xh a)).run P w=.ok vs w∧aE ι S w l vs∧K l
 | [],K,h=>⟨[],[],rfl,by simp,h⟩
 | .tmp t:: r,K,h=>by
   obtain⟨l,vs,e,rl,k⟩:=pM hr r _ h;refine⟨_,a.eval (.tmp t):: vs, ?_,by simpa using⟨hr.eval (.tmp t),rl⟩,k⟩;have e0:(xh a (.tmp t)).run P w=.ok (a.eval (.tmp t)) w:=rfl;simp only[List.mapM_cons,aa4,aa5,aa3,e,e0]
 | .cell x t:: r,K,h=>by
   obtain⟨hk,h⟩:=aZ h;obtain⟨ad,v,u,e1,e2,rv,h⟩:=LZ (P:=P) hr hk h;obtain⟨l,vs,e,rl,k⟩:=pM hr r _ h;refine⟨v:: l,u:: vs, ?_,by simpa using⟨rv,rl⟩,k⟩;have e1':a.tmps.getD x undef=.pointer (some ad):=e1;have e0:(xh a (.cell x t)).run P w=.ok u w:=by simp only[xh,aa4,e1',asAddr,aa5,aa3,e2]
   simp only[List.mapM_cons,aa4,aa5,aa3,e0,e]
def oc:List AV→Nat→Fr
 | [],_=>[]
 | a:: r,i=>(i,a):: oc r (i+1)
omit [Laid] in
theorem G3{vs:List Value}(h1:aE ι S w args vs)(k:Nat):dC ι S w (oc args 0) (vs.toArray++Array.replicate k undef):=by
 have key:∀(as_:List AV) (us:List Value) (k:Nat),aE ι S w as_ us→∀t,bA (oc as_ k) t=.any∨∃u,us[t-k]?=some u∧k≤t∧au ι S w (bA (oc as_ k) t) u:=by
  intro as_;induction as_ with
  | nil=>intro us k _ t;exact .inl rfl
  | cons a as_ ih =>
    intro us k h t;cases us with
    | nil=>simp at h
    | cons u us =>
      simp only[bO]at h;simp only[oc,bA];split
      ·rename_i e;subst e;exact .inr ⟨u,by simp,bY _,h.1⟩
      ·rename_i e;rcases ih us (k+1) h.2 t with q|⟨v,q1,q2,q3⟩
       ·exact .inl q
       ·exact .inr ⟨v,by rw[show t-k=t-(k+1)+1 by omega];simpa using q1,by omega,q3⟩
 intro t;rcases key args vs 0 h1 t with q|⟨u,q1,_,q3⟩
 ·rw[q];simp
 ·have hlt:t<vs.length:=by
   have:=(eQ.1 q1).1;simpa using this
  have:(vs.toArray++Array.replicate k undef).getD t undef=u:=by
   rw[Array.getD_eq_getD_getElem?,Array.getElem?_append_left (by simpa using hlt)];simp only[Nat.sub_zero]at q1;simp[q1]
  rw[this];exact q3
def BF(P:Program)(f:FuncId)(c:Code)(n:Nat)(rs:List ResultVar):Prop:=
 ∃fn,P.funcs[f]?=some fn∧fn.body=some c∧fn.results.toList=rs∧fn.ntmps=n∧dr P f=true
theorem BF.bI{n:Nat}{rs:List ResultVar}(F:BF P f c n rs)(t:An)(hl:args.length≤n)
 (q:mQ P c t (xD P rs fun r h' => ∃r' h'',Wk h.length [r] h' [r'] h''∧K r' h'') ⟨n,oc args 0,h⟩):bV P f args h K:=by
 obtain⟨fn,hf,hb,hrs,hn,_⟩:=F;subst hrs;intro base ι S w vs h1 h2;have hlen:=h1.length;refine calls_of_wp hf hb (wp_mono (gf _ _ _ _ h.length (bY _) q base ι S _ w (bY _) ⟨rfl,by simp[hn];omega,G3 h1 _,h2⟩) ?_);rintro e a' w' ⟨ι',S',st',hE,hm,hr,hq⟩;have fin:Ad P st' fn.results.toList (fun l=>∃r' h'',Wk h.length [qu l] st'.h [r'] h''∧K r' h'')→a'.defers=[]∧∃v,(results fn a'.tmps).run P w'=.ok v w' ∧
  ∃u ι'' S'' r h',Ending.returned v=.returned u∧bS h.length base ι S w ι'' S'' w'∧au ι'' S'' w' r u∧cL base ι'' S'' w' h'∧h.length≤h'.length∧K r h':=by
  intro hq;obtain⟨l,us,e1,rl,r',h'',⟨wk1,wk2,wk3⟩,k⟩:=pM (P:=P) hr fn.results.toList _ hq;have hv:au ι' S' w' (qu l) (if hh:us.length=1 then us[0] else .tuple us.toArray):=by
   have hl:=rl.length
   match l,us,hl,rl with
   | [],[],_,_=>simp only[qu];rw[au];exact⟨[],rfl,by simp⟩
   | [x],[u],_,rl=>simp at rl;simpa[qu]using rl
   | x:: y:: l,u:: v:: us,_,rl=>simp only[qu];rw[au];exact⟨u:: v:: us,by simp,rl⟩
  obtain⟨ι2,S2,hE2,hs2,hp2⟩:=wk3 base ι' S' w' [_] ((bO _ _ _ _).2 ⟨hv,by simp⟩) hr.hp;refine⟨hr.df,if hh:us.length=1 then us[0] else .tuple us.toArray, ?_,_,ι2,S2,r',h'',rfl,hE.trans hE2,((bO _ _ _ _).1 hs2).1,hp2,wk1,k⟩;rw[Bs,←Array.toArray_toList (xs:=fn.results),List.mapM_toArray];simp only[aa4,Sem.run_map,e1,aa3,aa5]
  by_cases hh:us.length=1<;>simp[hh]
 cases e with
 | normal=>exact fin hq
 | ret=>exact fin hq
 | _=>exact hq.elim
theorem sZ{r:AV}(hb:dr P f=true)(c:bn P f args r)(k:K r h):bz P (.fn (.func f) [] []) args h K:=
 ⟨hb,by simpa using c.call k⟩
theorem uCon{r:AV}(c:bn P f args r)(k:K r h)(hb:dr P f=true:=by kernel_rfl):bz P (.fn (.func f) [] []) args h K:=sZ hb c k
abbrev qBe(o:BinOp)(x:AV)(n:Int)(K:AV→Prop):Prop:=ae o x (i_ n) K
abbrev qLd(P:Program)(x:AV)(n:Nat)(h:aa)(K:AV→Prop):Prop:=ca P x fun a=>bp n a fun b=>ak false 1 b h K
abbrev qFd(P:Program)(x:AV)(n:Nat)(K:AV→Prop):Prop:=ca P x fun a=>bp n a K
abbrev qSt(P:Program)(x:AV)(n:Nat)(y:AV)(h:aa)(K:aa→Prop):Prop:=ca P x fun a=>bp n a fun b=>ao 1 b y h K
abbrev qJo(v:AV)(l:List AV)(g:aa)(b:(AV→aa→Prop)→Prop)(k:AV→aa→Prop):Prop:=aw (fun J=>ar v false (b fun x i=>l=l∧J [.v (.bool false),x] i) (l=l∧J [aN false v,.v undef] g)) fun s h=>aI (nx s 0) (.v (.bool true)) (nx s 1) fun w=>k w h
abbrev qJa(v:AV)(l:List AV)(g:aa)(b:(AV→aa→Prop)→Prop)(k:AV→aa→Prop):Prop:=aw (fun J=>ar v true (b fun x i=>l=l∧J [.v (.bool true),x] i) (l=l∧J [aN true v,.v undef] g)) fun s h=>aI (nx s 0) (nx s 1) (.v (.bool false)) fun w=>k w h
abbrev qKo(v:AV)(g:aa)(b:(AV→aa→Prop)→Prop)(k:AV→aa→Prop):Prop:=aw (fun J=>ar v false (b fun x i=>J [.v (.bool false),x] i) (J [aN false v,.v undef] g)) fun s h=>aI (nx s 0) (.v (.bool true)) (nx s 1) fun w=>k w h
abbrev qKa(v:AV)(g:aa)(b:(AV→aa→Prop)→Prop)(k:AV→aa→Prop):Prop:=aw (fun J=>ar v true (b fun x i=>J [.v (.bool true),x] i) (J [aN true v,.v undef] g)) fun s h=>aI (nx s 0) (nx s 1) (.v (.bool false)) fun w=>k w h
abbrev qNs:AV:=.v (.slice none 0 0)
@[simp] abbrev iFL(n:Nat)(b:Bool)(c:Nat)(x:AV)(g:aa)(K:AV→Prop):Prop:=bp n x fun a=>ak b c a g K
abbrev sn(a:An):An:=.seq .nil a
@[simp] abbrev eC(l:List AV)(p:Prop):Prop:=l=l∧p
abbrev iC(P:Program)(n:FuncId)(a:List AV)(h:aa)(K:AV→aa→Prop):Prop:=bz P (.fn (.func n) [] []) a h K
abbrev iQ(P:Program)(n:FuncId)(a:List AV)(h:aa)(K:AV→Prop):Prop:=wA P (.fn (.func n) [] []) a h K
def oR:Nat→Nat→List cW→List cW
 | _,0,r=>r
 | a,n+1,r=>.op a false::oR (a+1) n r
def fR:Nat→Nat→List (Nat×Bool)
 | _,0=>[]
 | a,n+1=>(a,false)::fR (a+1) n
def Body(P:Program)(f:FuncId)(args:List AV)(W:aa→(AV→aa→Prop)→Prop):Prop:=
 ∃c t n rs,BF P f c n rs∧args.length≤n∧∀h K,mQ P c t (xD P rs K) ⟨n,oc args 0,h⟩=W h K
theorem bB{W:aa→(AV→aa→Prop)→Prop}{fn:Func}(e:P.funcs[f]?=some fn)(t:An)(n:Nat)(rs:List ResultVar)(q:(fn.results.toList,fn.ntmps,dr P f,fn.body.isSome,Nat.ble args.length n)=(rs,n,true,true,true):=by kernel_rfl)(k:∀h K,mQ P (fn.body.getD .skip) t (xD P rs K) ⟨n,oc args 0,h⟩=W h K:=by intro _ _;kernel_rfl):Body P f args W:=by
 simp only[aaK]at q;refine⟨fn.body.getD .skip,t,n,rs,⟨fn,e,?_,q.1,q.2.1,q.2.2.1⟩,lT q.2.2.2.2,k⟩;cases hb:fn.body with
 | none=>rw[hb]at q;cases q.2.2.2.1
 | some c=>rfl
theorem Body.bI{P:Program}{f:FuncId}{args:List AV}{W:aa→(AV→aa→Prop)→Prop}(b:Body P f args W){h:aa}{K:AV→aa→Prop}(q:W h fun r h' => ∃r' h'',Wk h.length [r] h' [r'] h''∧K r' h''):bV P f args h K:=
 let ⟨_,t,_,_,F,hl,e⟩:=b;F.bI t hl ((e h _).symm▸q)
abbrev u8(n:Int):AV:=.v (.int .u8 n)
abbrev tt:AV:=.v (.bool true)
abbrev ff:AV:=.v (.bool false)
abbrev un:AV:=.v undef
end
section
open Go Go.RowKit
/-! ### Less is said -/
mutual
def Le:AV→AV→Prop
 | _,.any=>True
 | .agg xs,.agg ys=>jM xs ys
 | .aA xs,.aA ys=>jM xs ys
 | .emp,.sl _ rows=>rows=[]
 | .sb _ s r,.sl s' r' => s=s'∧r=r'
 | a,b=>a=b
def jM:List AV→List AV→Prop
 | [],[]=>True
 | a:: as_,b:: bs=>Le a b∧jM as_ bs
 | _,_=>False
end
theorem Le.refl(a:AV):Le a a:=
 AV.rec (motive_1:=fun a=>Le a a) (motive_2:=fun l=>jM l l) (motive_3:=fun _=>True)
  (fun _=>rfl) (fun _=>rfl) trivial (fun _ h=>h) (fun _ h=>h) rfl (fun _ _ _=>rfl) (fun _ _ _ _=>rfl) (fun _ _=>rfl) (fun _ _ _ _=>rfl) (fun _ _=>rfl) (fun _ _ _ _ _=>rfl) (fun _ _ _=>rfl) (fun _=>rfl)
  trivial (fun _ _ h k=>⟨h,k⟩) trivial (fun _ _ _ _=>trivial) a
theorem Le.inv{a b:AV}(h:Le a b):b=.any∨a=b∨(∃xs ys,a=.agg xs∧b=.agg ys∧jM xs ys)∨(∃xs ys,a=.aA xs∧b=.aA ys∧jM xs ys)∨(a=.emp∧∃s,b=.sl s [])∨∃id s r,a=.sb id s r∧b=.sl s r:=by
 unfold Le at h;split at h
 ·exact .inl rfl
 ·exact .inr (.inr (.inl ⟨_,_,rfl,rfl,h⟩))
 ·exact .inr (.inr (.inr (.inl ⟨_,_,rfl,rfl,h⟩)))
 ·subst h;exact .inr (.inr (.inr (.inr (.inl ⟨rfl,_,rfl⟩))))
 ·obtain⟨rfl,rfl⟩:=h;exact .inr (.inr (.inr (.inr (.inr ⟨_,_,_,rfl,rfl⟩))))
 ·exact .inr (.inl h)
theorem au.le{ι:List Ix}{S:ba}{w:World}(a b:AV)(y:Value)(h:Le a b)(r:au ι S w a y):au ι S w b y:=by
 have base:∀{a b:AV} {y:Value},(∀xs ys,a=.agg xs→b=.agg ys→jM xs ys→au ι S w b y)→(∀xs ys,a=.aA xs→b=.aA ys→jM xs ys→au ι S w b y)→Le a b→au ι S w a y→au ι S w b y:=by
  intro a b y h1 h2 h r;rcases h.inv with rfl|rfl|⟨xs,ys,e1,e2,k⟩|⟨xs,ys,e1,e2,k⟩|⟨rfl,s,rfl⟩|⟨id,s,rr,rfl,rfl⟩
  ·simp
  ·exact r
  ·exact h1 xs ys e1 e2 k
  ·exact h2 xs ys e1 e2 k
  ·rw[au]at *;obtain⟨a,e⟩:=r;exact⟨a,0,e,bY _,aaO _,.inl rfl⟩
  ·rw[au]at *;exact r.1
 revert b y
 refine AV.rec (motive_1:=fun a=>∀b y,Le a b→au ι S w a y→au ι S w b y) (motive_2:=fun as_=>∀bs vs,jM as_ bs→aE ι S w as_ vs→aE ι S w bs vs) (motive_3:=fun _=>True) ?_ ?_ ?_ ?_ ?_ ?_ ?_ ?_ ?_ ?_ ?_ ?_ ?_ ?_ ?_ ?_ ?_ ?_ a
 case refine_4 =>
  intro cs ih b y h r;refine base (fun xs ys e1 e2 k=>?_) (fun _ _ e1=>by cases e1) h r;cases e1;subst e2;rw[au]at *;obtain⟨vs,e,q⟩:=r;exact⟨vs,e,ih _ vs k q⟩
 case refine_5 =>
  intro cs ih b y h r;refine base (fun _ _ e1=>by cases e1) (fun xs ys e1 e2 k=>?_) h r;cases e1;subst e2;rw[au]at *;obtain⟨vs,e,q⟩:=r;exact⟨vs,e,ih _ vs k q⟩
 case refine_15 =>
  intro bs vs h r;cases bs with
  | nil=>exact r
  | cons=>simp[jM]at h
 case refine_16 =>
  intro a as_ iha ihs bs vs h r;cases bs with
  | nil=>simp[jM]at h
  | cons b bs =>
    rw[jM]at h;cases vs with
    | nil=>simp at r
    | cons v vs =>
      simp only[bO]at r ⊢;exact⟨iha b v h.1 r.1,ihs bs vs h.2 r.2⟩
 case refine_17=>trivial
 case refine_18=>intros;trivial
 all_goals
  intros
  rename_i h r;exact base (fun _ _ e1=>by cases e1) (fun _ _ e1=>by cases e1) h r
theorem aE.le{ι:List Ix}{S:ba}{w:World}:∀(as_ bs:List AV) (vs:List Value),jM as_ bs→aE ι S w as_ vs→aE ι S w bs vs
 | [],[],vs,_,r=>r
 | [],_:: _,_,h,_=>by simp[jM]at h
 | _:: _,[],_,h,_=>by simp[jM]at h
 | a:: as_,b:: bs,[],_,r=>by simp at r
 | a:: as_,b:: bs,v:: vs,h,r=>by
   rw[jM]at h;simp only[bO]at r ⊢;exact⟨au.le a b v h.1 r.1,aE.le as_ bs vs h.2 r.2⟩
variable [Laid]
/-! ### Told -/
section
variable (f:AV→AV) (L:Nat) (h:aa)
mutual
def eM:AV→AV
 | .v x=>.v x
 | .str l=>.str l
 | .any=>.any
 | .emp=>.emp
 | .agg cs=>.agg (nM cs)
 | .aA cs=>.aA (nM cs)
 | .ip cs=>.ip (nM cs)
 | .sl sz rows=>.sl sz (oT rows)
 | .sb id sz rows=>if id<L then .sb id sz (oT rows) else .sl sz (oT rows)
 | .own id off len sz=>if id<L then .own id off len sz else match h[id]? with
   | some (.ah b)=>if off+len*sz≤b.cells.length then .sl sz ((chunks sz len (b.cells.drop off)).map (List.map f)) else .any
   | _=>.any
 | .op id off=>if id<L then .op id off else match h[id]? with
   | some (.ah b)=>.ip ((b.cells.drop off).map f)
   | _=>.any
 | .fn g xs ys=>.fn g (nM xs) (nM ys)
 | .gV t x=>.gV t (eM x)
 | .mp id=>if id<L then .mp id else .any
def nM:List AV→List AV
 | []=>[]
 | a:: as_=>eM a:: nM as_
def oT:List (List AV)→List (List AV)
 | []=>[]
 | r:: rs=>nM r:: oT rs
end
end
def tl(L:Nat)(h:aa):Nat→AV→AV
 | 0=>eM (fun _=>.any) L h
 | d+1=>eM (tl L h d) L h
def Dy(L:Nat)(h:aa):aL→aL
 | .ah b=>.ah { b with cells:=b.cells.map (tl L h 3) }
 | .mp c es=>.mp c (es.map fun p=>(p.1,tl L h 3 p.2.1,tl L h 3 p.2.2))
 | .it m s sn l=>if m<L then .it m s sn l else .dead
 | x=>x
def si(L:Nat)(h:aa):aa:=(h.take L).map (Dy L h)
omit [Laid] in
theorem px(f:AV→AV)(L:Nat)(h:aa):∀l,nM f L h l=l.map (eM f L h)
 | []=>rfl
 | a:: as_=>by rw[nM,px f L h as_];rfl
omit [Laid] in
theorem Cz(f:AV→AV)(L:Nat)(h:aa):∀l,oT f L h l=l.map (List.map (eM f L h))
 | []=>rfl
 | a:: as_=>by rw[oT,Cz f L h as_,px];rfl
def gU(L:Nat)(ι:List Ix)(S:ba)(h:aa):ba:=fun b o=>S b o∨∃id x,L≤id∧h[id]?=some (.ah x)∧ι[id]?=some (.ah b)∧o<x.cells.length
section
variable {base:Nat} {ι:List Ix} {S:ba} {w:World} {h:aa} {L:Nat}
theorem AH(hh:cL base ι S w h){f:AV→AV}(hf:∀v y,au ι S w v y→au (ι.take L) (gU L ι S h) w (f v) y){id:Nat}(hid:L≤id){x:jH}(e:h[id]?=some (.ah x)){b:Nat}(hb:ι[id]?=some (.ah b))(off:Nat):
 bD (ι.take L) (gU L ι S h) w ((x.cells.drop off).map f) b off:=by
 obtain⟨b',arr,fz,h1,h2,h3,h4,h5,h6,h7,h8,h9⟩:=hh.live id x e;rw[hb]at h1;cases h1;refine bD.mk fun i c ec=>?_;simp only[iN,aaE,aaG]at ec;obtain⟨c0,ec0,rfl⟩:=ec;obtain⟨v,e1,r⟩:=h6 (off+i) c0 ec0;exact⟨v,by rw[gb h3];exact e1,.inr ⟨id,x,hid,e,hb,(eQ.1 ec0).1⟩,hf c0 v r⟩
mutual
theorem au.eM(hh:cL base ι S w h){f:AV→AV}(hf:∀v y,au ι S w v y→au (ι.take L) (gU L ι S h) w (f v) y):∀(a:AV) (y:Value),au ι S w a y→au (ι.take L) (gU L ι S h) w (Aw.eM f L h a) y
 | .v x,y,k=>by simpa[Aw.eM]using k
 | .str x,y,k=>by simpa[Aw.eM]using k
 | .any,y,k=>by simp[Aw.eM]
 | .emp,y,k=>by simp only[Aw.eM];rw[au]at *;exact k
 | .agg cs,y,k=>by simp only[Aw.eM];rw[au]at *;obtain⟨vs,e,k⟩:=k;exact⟨vs,e,aE.eM hh hf cs vs k⟩
 | .aA cs,y,k=>by simp only[Aw.eM];rw[au]at *;obtain⟨vs,e,k⟩:=k;exact⟨vs,e,aE.eM hh hf cs vs k⟩
 | .ip cs,y,k=>by simp only[Aw.eM];rw[au]at *;obtain⟨b,off,e,k⟩:=k;exact⟨b,off,e,bD.eM hh hf cs b off k⟩
 | .sl sz rows,y,k=>by
   simp only[Aw.eM];rw[au]at *;obtain⟨a,cap,e,h1,h2,h3⟩:=k;have hl:(oT f L h rows).length=rows.length:=by rw[Cz,aaC]
   refine⟨a,cap,by rw[hl];exact e,by rw[hl];exact h1,h2, ?_⟩;rcases h3 with rfl|⟨b,off,ea,hr⟩
   ·exact .inl rfl
   ·exact .inr ⟨b,off,ea,cr.eM hh hf sz rows b off hr⟩
 | .sb tid sz rows,y,k=>by
   simp only[Aw.eM];rw[au]at k;obtain⟨⟨a,cap,e,h1,h2,h3⟩,m,v,t1,t2,t3⟩:=k;have hl:(oT f L h rows).length=rows.length:=by rw[Cz,aaC]
   have told:∃a cap,y=.slice a (oT f L h rows).length cap∧(oT f L h rows).length≤cap∧cap≤maxLen∧(oT f L h rows=[]∨∃b off,a=some ⟨b,off,none⟩∧cr (ι.take L) (gU L ι S h) w sz (oT f L h rows) b off):=by
    refine⟨a,cap,by rw[hl];exact e,by rw[hl];exact h1,h2, ?_⟩;rcases h3 with rfl|⟨b,off,ea,hr⟩
    ·exact .inl rfl
    ·exact .inr ⟨b,off,ea,cr.eM hh hf sz rows b off hr⟩
   split
   ·rename_i hlt;rw[au];exact⟨told,m,v,by rw[ON,if_pos hlt];exact t1,by rw[hl];exact t2,by rw[hl];exact t3⟩
   ·rw[au];exact told
 | .own tid off len sz,y,k=>by
   simp only[Aw.eM];split
   ·rename_i hlt;rw[au]at *;obtain⟨b,a,cap,n,ty,h1,h2⟩:=k;exact⟨b,a,cap,n,ty,by rw[ON,if_pos hlt];exact h1,h2⟩
   ·rename_i hge;split
    ·rename_i x e;split
     ·rename_i hfit;rw[au]at *;obtain⟨b,a,cap,n,ty,h1,h2,h3,h4,h5,_⟩:=k;obtain⟨f1,f2⟩:=je sz len (x.cells.drop off) (by simp;omega);have hcl:=jP sz len (x.cells.drop off);refine⟨a,cap,by rw[aaC,hcl];exact h2,by rw[aaC,hcl];exact h3,h4, ?_⟩;rcases h5 with h5|h5
      ·left;have:len=0:=by omega
       subst this;simp[chunks]
      ·right;refine⟨b,off,h5,cr.of_flat (fun r hr=>?_) ?_⟩
       ·obtain⟨r0,hr0,rfl⟩:=aaF.1 hr;rw[aaC];exact f2 r0 hr0
       ·rw[←List.map_flatten,f1];have:=AH hh hf (Nat.le_of_not_lt hge) e h1 off;refine bD.mk fun i c ec=>this.get i c ?_;rw[iN,ON]at ec;rw[iN];split at ec
        ·exact ec
        ·cases ec
     ·simp
    ·simp
 | .op tid off,y,k=>by
   simp only[Aw.eM];split
   ·rename_i hlt;rw[au]at *;obtain⟨b,h1,h2⟩:=k;exact⟨b,by rw[ON,if_pos hlt];exact h1,h2⟩
   ·rename_i hge;split
    ·rename_i x e;rw[au]at *;obtain⟨b,h1,h2⟩:=k;exact⟨b,off,h2,AH hh hf (Nat.le_of_not_lt hge) e h1 off⟩
    ·simp
 | .fn g xs ys,y,k=>by simp only[Aw.eM];rw[au]at *;obtain⟨vs,us,e,k1,k2⟩:=k;exact⟨vs,us,e,aE.eM hh hf xs vs k1,aE.eM hh hf ys us k2⟩
 | .gV t x,y,k=>by simp only[Aw.eM];rw[au]at *;obtain⟨v,e,k⟩:=k;exact⟨v,e,au.eM hh hf x v k⟩
 | .mp tid,y,k=>by
   simp only[Aw.eM];split
   ·rename_i hlt;rw[au]at *;obtain⟨b,h1,h2⟩:=k;exact⟨b,by rw[ON,if_pos hlt];exact h1,h2⟩
   ·simp
theorem aE.eM(hh:cL base ι S w h){f:AV→AV}(hf:∀v y,au ι S w v y→au (ι.take L) (gU L ι S h) w (f v) y):∀(as_:List AV) (vs:List Value),aE ι S w as_ vs→aE (ι.take L) (gU L ι S h) w (nM f L h as_) vs
 | [],vs,k=>by simpa[nM]using k
 | a:: as_,[],k=>by simp at k
 | a:: as_,v:: vs,k=>by
   rw[nM];simp only[bO]at k ⊢;exact⟨au.eM hh hf a v k.1,aE.eM hh hf as_ vs k.2⟩
theorem bD.eM(hh:cL base ι S w h){f:AV→AV}(hf:∀v y,au ι S w v y→au (ι.take L) (gU L ι S h) w (f v) y):∀(cs:List AV) (b off:Nat),bD ι S w cs b off→bD (ι.take L) (gU L ι S h) w (nM f L h cs) b off
 | [],b,off,k=>by simp[nM,bD]
 | c:: cs,b,off,k=>by
   rw[nM];rw[bD]at *;obtain⟨⟨u,h1,h2,h3⟩,k2⟩:=k;exact⟨⟨u,h1,.inl h2,au.eM hh hf c u h3⟩,bD.eM hh hf cs b (off+1) k2⟩
theorem cr.eM(hh:cL base ι S w h){f:AV→AV}(hf:∀v y,au ι S w v y→au (ι.take L) (gU L ι S h) w (f v) y)(sz:Nat):∀(rows:List (List AV)) (b off:Nat),cr ι S w sz rows b off→cr (ι.take L) (gU L ι S h) w sz (oT f L h rows) b off
 | [],b,off,k=>by simp[oT,cr]
 | r:: rs,b,off,k=>by
   rw[oT];rw[cr]at *;exact⟨by rw[px,aaC];exact k.1,bD.eM hh hf r b off k.2.1,cr.eM hh hf sz rs b (off+sz) k.2.2⟩
end
theorem au.tl(hh:cL base ι S w h):∀(d:Nat) (v:AV) (y:Value),au ι S w v y→au (ι.take L) (gU L ι S h) w (Aw.tl L h d v) y
 | 0,v,y,k=>au.eM hh (fun _ _ _=>by simp) v y k
 | d+1,v,y,k=>au.eM hh (au.tl hh d) v y k
theorem cL.told(hh:cL base ι S w h)(hL:L≤h.length):bS L base ι S w (ι.take L) (gU L ι S h) w∧cL base (ι.take L) (gU L ι S h) w (si L h):=by
 have pre:∀{i:Nat},i<L→(ι.take L)[i]?=ι[i]?:=fun q=>by rw[ON,if_pos q]
 have ent:∀{i:Nat} {x:aL},(si L h)[i]?=some x→i<L∧∃y,h[i]?=some y∧x=Dy L h y:=by
  intro i x e;simp only[si,iN,aaE,ON]at e;obtain⟨y,e1,rfl⟩:=e;split at e1
  ·rename_i q;exact⟨q,y,e1,rfl⟩
  ·cases e1
 have alv:∀{i:Nat},alive (si L h)[i]?→i<L∧alive h[i]?:=by
  intro i ha;cases e:(si L h)[i]? with
  | none=>rw[e]at ha;exact ha.elim
  | some x =>
    obtain⟨q,y,e1,rfl⟩:=ent e;refine⟨q, ?_⟩;rw[e]at ha;rw[e1];cases y<;>first|exact trivial|exact ha
 have newS:∀{b o:Nat},gU L ι S h b o→S b o∨(∃id,L≤id∧alive h[id]?∧A7 ι[id]? b):=by
  rintro b o (q|⟨id,x,h1,h2,h3,_⟩)
  ·exact .inl q
  ·exact .inr ⟨id,h1,by rw[h2];exact trivial,by rw[h3];rfl⟩
 have old:∀{i b o:Nat},i<L→alive h[i]?→A7 ι[i]? b→gU L ι S h b o→S b o:=by
  intro i b o hi ha hb hs;rcases newS hs with q|⟨id,h1,h2,h3⟩
  ·exact q
  ·have:=hh.inj i id b ha h2 hb h3;omega
 have hE:bS L base ι S w (ι.take L) (gU L ι S h) w:=
  ⟨fun i hi=>fX.of_eq (pre hi),fun _ _ q=>.inl q,fun b o q=>(newS q).imp (fun z=>z) fun⟨id,_,h2,h3⟩=>(hh.B0 h2 h3).1,fun _ _ _=>rfl,fun _ _ q=>q,Below.refl _ _⟩
 refine⟨hE,⟨by simp[si,hh.len],fun id x e=>?_,fun id t sz n e=>?_,fun id en e=>?_,fun i j b ai aj hi hj=>?_,fun b o q=>?_,hh.kx,hh.gl.fV hE⟩⟩;rotate_left 2
 ·obtain⟨q,y,e1,rfl⟩:=ent e;have ho:=hh.kq id y e1;cases y with
  | ah y=>trivial
  | tok=>trivial
  | dead=>trivial
  | mp c es =>
    obtain⟨b,arr,h1,h2,h3,h4,h5⟩:=ho;exact⟨b,arr,(pre q).trans h1,h2,h3,fun o ho=>h4 o (old q (by rw[e1];exact trivial) (by rw[h1];rfl) ho),h5.imp fun a y k=>au.tl hh 3 a y k⟩
  | it m s sn l =>
    obtain⟨b,bm,h1,h2,h3,h4,h5⟩:=ho;simp only[Dy];split
    ·rename_i hm;exact⟨b,bm,(pre q).trans h1,h2,h3,fun o ho=>h4 o (old q (by rw[e1];exact trivial) (by rw[h1];rfl) ho),(pre hm).trans h5⟩
    ·trivial
 rotate_left 2
 ·obtain⟨q,y,e1,e2⟩:=ent e;cases y with
  | tok=>cases e2
  | dead=>cases e2
  | mp=>cases e2
  | it m s sn l=>simp only[Dy]at e2;split at e2<;>cases e2
  | ah y =>
    cases e2;obtain⟨b,arr,fz,h1,h2,h3,h4,h5,h6,h7,h8,h9⟩:=hh.live id y e1;have hS:∀o,gU L ι S h b o→S b o:=fun o=>old q (by rw[e1];exact trivial) (by rw[h1];rfl);refine⟨b,arr,fz,(pre q).trans h1,h2,h3,h4,by simpa using h5,fun i c ec=>?_,fun hw o ho=>h7 hw o (hS o ho),fun o ho=>by simpa using h8 o (hS o ho),fun hw o ho=>.inl (h9 hw o (by simpa using ho))⟩;simp only[iN,aaE]at ec;obtain⟨c0,ec0,rfl⟩:=ec;obtain⟨v,e3,r⟩:=h6 i c0 ec0;exact⟨v,e3,au.tl hh 3 c0 v r⟩
 ·obtain⟨q,y,e1,e2⟩:=ent e;cases y with
  | ah=>cases e2
  | dead=>cases e2
  | mp=>cases e2
  | it m s sn l=>simp only[Dy]at e2;split at e2<;>cases e2
  | tok =>
    cases e2;obtain⟨v,h1,h2⟩:=hh.tok id _ _ _ e1;exact⟨v,(pre q).trans h1,h2.fB fun b hb _ _=>⟨rfl,fun o=>old q (by rw[e1];exact trivial) (by rw[h1];exact hb)⟩⟩
 ·obtain⟨q1,a1⟩:=alv ai;obtain⟨q2,a2⟩:=alv aj;rw[pre q1]at hi;rw[pre q2]at hj;exact hh.inj i j b a1 a2 hi hj
 ·rcases newS q with z|⟨id,_,h2,h3⟩
  ·exact hh.iM b o z
  ·exact (hh.B0 h2 h3).2
end
/-! ### From one state to one that says less -/
theorem Wk.refl(n:Nat)(s:List AV)(h:aa)(hn:n≤h.length):Wk n s h s h:=⟨hn,rfl,fun _ ι S _ _ r k=>⟨ι,S,bS.refl _ _ _ _ _,r,k⟩⟩
theorem Wk.trans{n:Nat}{s s' s'':List AV}{h h' h'':aa}(a:Wk n s h s' h')(b:Wk n s' h' s'' h''):Wk n s h s'' h'':=
 ⟨b.1,b.2.1.trans a.2.1,fun base ι S w vs r k =>
  let ⟨ι',S',e1,r1,k1⟩:=a.2.2 base ι S w vs r k
  let ⟨ι'',S'',e2,r2,k2⟩:=b.2.2 base ι' S' w vs r1 k1
  ⟨ι'',S'',e1.trans e2,r2,k2⟩⟩
omit [Laid] in
theorem jM.len:∀{as_ bs:List AV},jM as_ bs→bs.length=as_.length
 | [],[],_=>rfl
 | [],_:: _,h=>by simp[jM]at h
 | _:: _,[],h=>by simp[jM]at h
 | _:: _,_:: _,h=>by rw[jM]at h;simp[h.2.len]
theorem Wk.le{n:Nat}{s s':List AV}{h:aa}(hn:n≤h.length)(hs:jM s s'):Wk n s h s' h:=
 ⟨hn,hs.len,fun _ ι S _ vs r k=>⟨ι,S,bS.refl _ _ _ _ _,aE.le s s' vs hs r,k⟩⟩
theorem Wk.tell{n:Nat}{s:List AV}{h:aa}(hn:n≤h.length):Wk n s h (s.map (tl n h 3)) (si n h):=
 ⟨by simp[si];omega,by simp,fun base ι S w vs r k=>by
  obtain⟨e,k'⟩:=k.told hn;refine⟨_,_,e, ?_,k'⟩;have:=aE.eM (L:=n) (f:=tl n h 2) k (au.tl k 2) s vs r
  rwa [px]at this⟩
theorem Wk.end{n:Nat}{s s':List AV}{h h':aa}(hn:n≤h.length)(hs:jM (s.map (tl n h 3)) s')(hh:si n h=h'):Wk n s h s' h':=by
 subst hh;exact (Wk.tell hn).trans (Wk.le (by simp[si];omega) hs)
theorem Wk.tok{n:Nat}{s:List AV}{h:aa}(hn:n≤h.length)(i e sz:Nat)(hi:s[i]?=some .emp):Wk n s h (s.set i (.sb h.length sz [])) (h++[.tok e sz 0]):=by
 refine⟨by simp;omega,by simp,fun base ι S w vs r k=>?_⟩;obtain⟨v,hv,rv⟩:=r.get i _ hi;rw[au]at rv;obtain⟨a,rfl⟩:=rv;have hb:=k.begin (e:=e) (sz:=sz) (a:=a);have hE:bS ι.length base ι S w (ι++[.tok 0 (.slice a 0 0)]) S w:=bS.grow _;have r2:=(aE.fV hE (bY _) s vs r).set i (.sb h.length sz []) (.slice a 0 0) (by rw[←k.len];exact au.begin ι S w sz a);have:vs.set i (.slice a 0 0)=vs:=by
  refine List.ext_getElem? fun j=>?_
  by_cases q:j=i
  ·subst q;rw[iD (eQ.1 hv).1,hv]
  ·rw[iF (Ne.symm q)]
 rw[this]at r2;exact⟨_,S,hE.mono (by rw[k.len];exact hn) (bY _),r2,hb⟩
def RZ(r:AV)(r':AV)(h':aa):Prop:=Le (tl 0 h' 3 r') r
theorem RZ.wk{r r':AV}{h':aa}(q:RZ r r' h'):∃r'' h'',Wk ([]:aa).length [r'] h' [r''] h''∧r''=r:=
 ⟨r,_,Wk.end (aaO _) (by simp only[GO,List.map_nil,jM];exact⟨q,trivial⟩) rfl,rfl⟩
theorem Body.con{P:Program}{f:FuncId}{args:List AV}{W:aa→(AV→aa→Prop)→Prop}(b:Body P f args W){r:AV}(pa:aV args)(pr:Pure r)(q:W [] fun r' h' => ∃r'' h'',Wk ([]:aa).length [r'] h' [r''] h''∧r''=r):bn P f args r:=
 ⟨pa,pr,b.bI q⟩
end
section
open Go Go.RowKit
variable [Laid]
variable{P:Program}{f:FuncId}{r r':AV}
omit [Laid] in
@[simp] theorem aap(t:Bool)(a b:AV)(K:AV→Prop):aI (.v (.bool t)) a b K↔(t=true→K a)∧(t=false→K b):=by simp[aI]
omit [Laid] in
@[simp] theorem QB(t:Bool)(A B:Prop):ag (.v (.bool t)) A B↔(t=true→A)∧(t=false→B):=by simp[ag]
omit [Laid] in
@[simp] theorem ZE(t w:Bool)(A B:Prop):ar (.v (.bool t)) w A B↔(t=w→A)∧(t=(!w)→B):=by
 simp[ar,undef]
omit [Laid] in
@[simp] theorem ZF(w:Bool)(A B:Prop):ar (.v undef) w A B↔B:=by simp[ar,undef]
omit [Laid] in
@[simp] theorem acb(w t:Bool):aN w (.v (.bool t))=.v (.bool (!w)):=rfl
omit [Laid] in
@[simp] theorem acd(w:Bool):aN w (.v undef)=.v undef:=rfl
omit [Laid] in
@[simp] theorem TT(t:Bool)(K:AV→Prop):cq (.v (.bool t)) K↔K (.v (.bool (!t))):=by simp[cq]
omit [Laid] in
@[simp] theorem EZ(k:IntKind)(n:Int)(K:AV→Prop):pb (.v (.int k n)) K↔qD k (0-n) K:=by
 constructor
 ·rintro⟨k',n',e,h⟩;cases e;exact h
 ·intro h;exact⟨k,n,rfl,h⟩
omit [Laid] in
@[simp] theorem aad(k k':IntKind)(n:Int)(K:AV→Prop):cy k (.v (.int k' n)) K↔K (.v (.int k (k.wrap n))):=by
 constructor
 ·rintro⟨k'',n',e,h⟩;cases e;exact h
 ·intro h;exact⟨k',n,rfl,h⟩
omit [Laid] in
@[simp] theorem aca(n:Int)(K:AV→Prop):qD .i64 n K↔aJ n∧K (.v (.int .i64 n)):=Iff.rfl
omit [Laid] in
@[simp] theorem aac(op:BinOp)(k:IntKind)(a b:Int)(K:AV→Prop):ae op (.v (.int k a)) (.v (.int k b)) K↔if lv op then wX op k a b K else qo op k a b K:=by
 unfold ae;simp
omit [Laid] in
@[simp] theorem QA(op:BinOp)(a b:List UInt8)(K:AV→Prop):ae op (.str a) (.str b) K↔zE op a b K:=Iff.rfl
omit [Laid] in
@[simp] theorem A5(k:(List AV→aa→Prop)→Prop)(f:List AV→aa→Prop):aw k f↔k f:=Iff.rfl
omit [Laid] in
@[simp] theorem dU(a:AV)(s:List AV):nx (a:: s) 0=a:=rfl
omit [Laid] in
@[simp] theorem aaz(a:AV)(s:List AV)(k:Nat):nx (a:: s) (k+1)=nx s k:=rfl
omit [Laid] in
@[simp] theorem gF(a b:AV)(s:List AV):nx (a:: b:: s) 1=b:=rfl
attribute [simp] Value.oneCell' qo zE lv jg EH lF eT dQ gQ bl bQ bZ Ct dk Pure aV cF Le jM
section
omit [Laid]
variable (K:AV→Prop) (KH:AV→aa→Prop) (h:aa)
@[simp] theorem aab(op:BinOp)(a b:Bool):qN op (.v (.bool a)) (.v (.bool b)) K↔(match op with|.eql=>K (b_ (a == b))|.neq=>K (b_ (!(a == b)))|_=>False):=Iff.rfl
@[simp] theorem TM(neg:Bool)(ks:List Nat)(xs ys:List AV):lW neg ks (.agg xs) (.agg ys) K↔(match jg ks xs ys with|some b=>K (b_ (if neg then !b else b))|none=>False):=Iff.rfl
@[simp] theorem QC(i:Nat)(cs:List AV):aU i (.aA cs) K↔(match cs[i]? with|some c=>K c|none=>False):=Iff.rfl
@[simp] theorem ab3(g:Bool)(off n:Nat)(cs:List AV):rR g off n (.agg cs) K↔lF g n (cs.drop off) K:=Iff.rfl
@[simp] theorem aai(l:List UInt8)(k:IntKind)(n:Int):dH (.str l) (.v (.int k n)) K↔(0≤n∧n<l.length)∧K (.v (.int .u8 (l.getD n.toNat 0).toNat)):=Iff.rfl
@[simp] theorem aae(g:Bool)(sz len:Nat)(cs:List AV)(k:IntKind)(n:Int):mI g sz len (.agg cs) (.v (.int k n)) K↔(0≤n∧n<len)∧lF g sz (cs.drop (n.toNat*sz)) K:=Iff.rfl
@[simp] theorem ab9(l:List UInt8)(lo hi:Option AV):eN (.str l) lo hi K↔(match eT lo 0,eT hi l.length with
 | some a,some b=>(0≤a∧a≤b∧b≤l.length)∧K (.str ((l.take b.toNat).drop a.toNat))
 | _,_=>False):=Iff.rfl
@[simp] theorem Ph(n sz:Nat)(rows:List (List AV))(lo hi:Option AV):lg n (.sl sz rows) lo hi K↔(match eT lo 0,eT hi rows.length with
 | some a,some b=>sz=n∧(0≤a∧a≤b∧b≤rows.length)∧K (.sl sz ((rows.take b.toNat).drop a.toNat))
 | _,_=>False):=Iff.rfl
@[simp] theorem acs(n id sz:Nat)(rows:List (List AV))(lo hi:Option AV):lg n (.sb id sz rows) lo hi K↔lg n (.sl sz rows) lo hi K:=Iff.rfl
@[simp] theorem VS(n id off len sz:Nat)(lo hi:Option AV):lg n (.own id off len sz) lo hi K↔(match eT lo 0,eT hi len with
 | some a,some b=>sz=n∧(0≤a∧a≤b∧b≤len)∧K (.own id (off+a.toNat*sz) (b-a).toNat sz)
 | _,_=>False):=Iff.rfl
@[simp] theorem acu(n:Nat)(lo hi:Option AV):lg n .emp lo hi K↔(match eT lo 0,eT hi 0 with
 | some a,some b=>(a=0∧b=0)∧K .emp
 | _,_=>False):=Iff.rfl
@[simp] theorem ab8(n sz id off:Nat)(lo hi:Option AV):qp n sz (.op id off) lo hi h K↔(match eT lo 0,eT hi n,h[id]? with
 | some a,some b,some (.ah ah)=>(off+n*sz≤ah.cells.length∧0≤a∧a≤b∧b≤n∧n≤maxLen)∧K (.own id (off+a.toNat*sz) (b-a).toNat sz)
 | _,_,_=>False):=Iff.rfl
@[simp] theorem HE(m sz:Nat)(rows:List (List AV))(k:IntKind)(n:Int):aQ m (.sl sz rows) (.v (.int k n)) K↔sz=m∧(0≤n∧n<rows.length)∧K (.ip (rows.getD n.toNat [])):=Iff.rfl
@[simp] theorem aaf(m id sz:Nat)(rows:List (List AV))(k:IntKind)(n:Int):aQ m (.sb id sz rows) (.v (.int k n)) K↔sz=m∧(0≤n∧n<rows.length)∧K (.ip (rows.getD n.toNat [])):=Iff.rfl
@[simp] theorem HD(m id off len sz:Nat)(k:IntKind)(n:Int):aQ m (.own id off len sz) (.v (.int k n)) K↔sz=m∧(0≤n∧n<len)∧K (.op id (off+n.toNat*sz)):=Iff.rfl
@[simp] theorem aah(len sz id off:Nat)(k:IntKind)(n:Int):eR len sz (.op id off) (.v (.int k n)) K↔(0≤n∧n<len)∧K (.op id (off+n.toNat*sz)):=Iff.rfl
@[simp] theorem aag(len sz:Nat)(cs:List AV)(k:IntKind)(n:Int):eR len sz (.ip cs) (.v (.int k n)) K↔(0≤n∧n<len)∧K (.ip (cs.drop (n.toNat*sz))):=Iff.rfl
@[simp] theorem ab2(off:Nat)(cs:List AV):bp off (.ip cs) K↔K (.ip (cs.drop off)):=Iff.rfl
@[simp] theorem rQ(off id o:Nat):bp off (.op id o) K↔K (.op id (o+off)):=Iff.rfl
@[simp] theorem ab6(cs:List AV):wW (.ip cs) K↔K (.ip cs):=Iff.rfl
@[simp] theorem ab7(id o:Nat):wW (.op id o) K↔K (.op id o):=Iff.rfl
@[simp] theorem ab5(f:FuncId)(a b:List AV):wW (.fn (.func f) a b) K↔K (.fn (.func f) a b):=Iff.rfl
@[simp] theorem aao(P:Program)(cs:List AV):ca P (.ip cs) K↔K (.ip cs):=Iff.rfl
@[simp] theorem nI(P:Program)(id o:Nat):ca P (.op id o) K↔K (.op id o):=Iff.rfl
@[simp] theorem aan(P:Program)(f:FuncId)(a b:List AV):ca P (.fn (.func f) a b) K↔K (.fn (.func f) a b):=Iff.rfl
@[simp] theorem QE(P:Program)(name:String)(t:TypeId)(v:AV)(r ys:List AV):ca P (.fn (.method name) (.gV t v:: r) ys) K↔(pd P name t).isSome=true∧K (.fn (.method name) (.gV t v:: r) ys):=Iff.rfl
@[simp] theorem TR(t:TypeId)(x:AV):oZ t x K↔K (.gV t x):=Iff.rfl
@[simp] theorem ab1(has:TypeId→Bool)(t:TypeId)(v:AV):zC has (.gV t v) K↔has t=true∧K (.aA [.gV t v,b_ true]):=Iff.rfl
@[simp] theorem C4(neg b:Bool):kB neg (some b) K↔K (b_ (rW neg b)):=Iff.rfl
@[simp] theorem acf(b:Bool):rW true b=!b:=rfl
@[simp] theorem ace(b:Bool):rW false b=b:=rfl
@[simp] theorem aat:vu (.v .nilIface)=some true:=rfl
@[simp] theorem aas(t:TypeId)(x:AV):vu (.gV t x)=some false:=rfl
@[simp] theorem aav:tp (.v (.pointer none))=some true:=rfl
@[simp] theorem aaw(a b:Nat):tp (.op a b)=some false:=rfl
@[simp] theorem aau(cs:List AV):tp (.ip cs)=some false:=rfl
@[simp] theorem aax(a b:Nat):vv (.v (.slice none a b))=some true:=rfl
@[simp] theorem aay(a b c d:Nat):vv (.own a b (c+1) d)=some false:=rfl
@[simp] theorem HG(g:Bool)(sz:Nat)(cs:List AV):ak g sz (.ip cs) h K↔lF g sz cs K:=Iff.rfl
@[simp] theorem uk(g:Bool)(sz id o:Nat):ak g sz (.op id o) h K↔(match h[id]? with|some (.ah b)=>lF g sz (b.cells.drop o) K|_=>False):=Iff.rfl
@[simp] theorem zD(KS:aa→Prop)(sz id o:Nat)(v:AV):ao sz (.op id o) v h KS↔(match h[id]? with
 | some (.ah b)=>(b.wr=true∧o+(bl v).length≤b.cells.length∧(bl v).length=sz∧(bl v).all bQ=true)∧KS (h.set id (.ah { b with cells:=bZ b.cells o (bl v) }))
 | _=>False):=Iff.rfl
@[simp] theorem TS(t:TypeId)(v:AV):aW t v h KH↔(bl v).all bQ=true∧KH (.op h.length 0) (h++[.ah ⟨t,bl v,true⟩]):=Iff.rfl
@[simp] theorem N0(zero:AV)(parts:List (Nat×Nat×AV)):aY zero parts K↔(match dQ (bl zero) parts with|some cs=>K (.agg cs)|none=>False):=Iff.rfl
@[simp] theorem aam(t len sz:Nat)(zero:AV)(parts:List (Nat×Nat×AV)):ou t len sz zero parts h KH↔(match dQ (gQ len (bl zero)) parts with
 | some cs=>(match len with
   | 0=>KH .emp h
   | len+1=>KH (.own h.length 0 (len+1) sz) (h++[.ah ⟨t,cs,true⟩]))
 | none=>False):=Iff.rfl
@[simp] theorem ZH(len sz:Nat)(zero:AV)(parts:List (Nat×Nat×AV)):br len sz zero parts K↔(match dQ (gQ len (bl zero)) parts with|some cs=>K (.sl sz (chunks sz len cs))|none=>False):=Iff.rfl
@[simp] theorem QD(e sz bytes:Nat)(zero:AV)(k k':IntKind)(l c:Int):qO e sz bytes zero (.v (.int k l)) (.v (.int k' c)) h KH↔(0≤l∧l≤c∧(bytes:Int)*c≤281474976710656∧c≤9223372036854775807)∧KH (.own h.length 0 l.toNat sz) (h++[.ah ⟨e,gQ c.toNat (bl zero),true⟩]):=Iff.rfl
@[simp] theorem vh(e:Nat)(l:List UInt8):iP e (.str l) h KH↔KH (.own h.length 0 l.length 1) (h++[.ah ⟨e,l.map bg,true⟩]):=Iff.rfl
@[simp] theorem BW(l:List UInt8):cR (.str l) K↔(l.length≤maxLen→K (i_ l.length)):=Iff.rfl
@[simp] theorem K5(sz:Nat)(rows:List (List AV)):bu (.sl sz rows) K↔(rows.length≤maxLen→K (i_ rows.length)):=Iff.rfl
@[simp] theorem TN(id sz:Nat)(rows:List (List AV)):bu (.sb id sz rows) K↔(rows.length≤maxLen→K (i_ rows.length)):=Iff.rfl
@[simp] theorem uj(id off len sz:Nat):bu (.own id off len sz) K↔(len≤maxLen→K (i_ len)):=Iff.rfl
@[simp] theorem ZG(l:List UInt8):kZ (.str l) K↔K (i_ l.length):=Iff.rfl
@[simp] theorem HF(sz:Nat)(rows:List (List AV)):ja (.sl sz rows) K↔K (i_ rows.length):=Iff.rfl
@[simp] theorem aaj(id sz:Nat)(rows:List (List AV)):ja (.sb id sz rows) K↔K (i_ rows.length):=Iff.rfl
@[simp] theorem aal(id off len sz:Nat):ja (.own id off len sz) K↔K (i_ len):=Iff.rfl
@[simp] theorem aak:ja .emp K↔K (i_ 0):=Iff.rfl
@[simp] theorem ab4:bu .emp K↔K (i_ 0):=Iff.rfl
@[simp] theorem TQ(k:IntKind)(a b:Int):nT (.v (.int k a)) (.v (.int k b)) K↔K (.v (.int k (if b<a then b else a))):=by simp[nT]
@[simp] theorem TP(k:IntKind)(a b:Int):kr (.v (.int k a)) (.v (.int k b)) K↔K (.v (.int k (if b > a then b else a))):=by simp[kr]
@[simp] theorem aaq(l:List UInt8):A6 (.str l) K↔K (.str l):=Iff.rfl
@[simp] theorem aci(sz:Nat)(rows:List (List AV)):jB h sz (.sl sz rows)=some rows:=by simp[jB,mZ]
@[simp] theorem Md(sz id:Nat)(rows:List (List AV)):jB h sz (.sb id sz rows)=some rows:=by simp[jB,mZ]
@[simp] theorem ach(sz:Nat):jB h sz .emp=some []:=rfl
@[simp] theorem F8(sz id off len sz':Nat):jB h sz (.own id off len sz')=(match h[id]? with
 | some (.ah b)=>if sz'=sz∧off+len*sz≤b.cells.length then some (chunks sz len (b.cells.drop off)) else none
 | _=>none):=rfl
@[simp] theorem ab0(own:Bool)(e sz bytes:Nat)(x y:AV):bP own e sz bytes x y h KH↔eE own e sz bytes x (jB h sz y) h KH:=Iff.rfl
@[simp] theorem Qz(own:Bool)(e bytes:Nat)(x y:AV):mH own e bytes x y h KH↔eE own e 1 bytes x (Ct y) h KH:=Iff.rfl
@[simp] theorem Yl(e sz bytes:Nat)(rows:List (List AV)):eE false e sz bytes .emp (some rows) h KH↔rows.all (dk sz)=true∧jF bytes rows.length∧KH (.sb h.length sz rows) (h++[.tok e sz rows.length]):=Iff.rfl
@[simp] theorem Ym(e sz bytes:Nat)(rows:List (List AV)):eE true e sz bytes .emp (some rows) h KH↔rows.all (dk sz)=true∧rows≠[]∧jF bytes rows.length∧KH (.own h.length 0 rows.length sz) (h++[.ah ⟨e,rows.flatten,true⟩]):=Iff.rfl
@[simp] theorem ZD(own:Bool)(e sz bytes id sz':Nat)(base rows:List (List AV)):eE own e sz bytes (.sb id sz' base) (some rows) h KH↔rows.all (dk sz)=true∧(match h[id]? with
 | some (.tok e' sz'' k)=>(sz'=sz∧sz''=sz∧e'=e∧k=base.length)∧jF bytes (k+rows.length)∧KH (.sb id sz (base++rows)) (h.set id (.tok e sz (k+rows.length)))
 | _=>False):=Iff.rfl
@[simp] theorem NZ(own:Bool)(e sz bytes id off len sz':Nat)(rows:List (List AV)):eE own e sz bytes (.own id off len sz') (some rows) h KH↔rows.all (dk sz)=true∧(match h[id]? with
 | some (.ah b)=>(off=0∧sz'=sz∧b.wr=true∧b.ty=e∧len*sz≤b.cells.length)∧0<len+rows.length∧jF bytes (len+rows.length) ∧
  KH (.own h.length 0 (len+rows.length) sz) (h.set id .dead++[.ah ⟨e,b.cells.take (len*sz)++rows.flatten,true⟩])
 | _=>False):=Iff.rfl
end
@[simp] theorem K4(P:Program)(row:TypeId→Option FuncId)(t:TypeId)(v:AV)(args:List AV)(h:aa)(KH:AV→aa→Prop):wV P row (.gV t v) args h KH↔(match row t with|some f=>bV P f (v:: args) h KH|none=>False):=Iff.rfl
/-! ### What is pure is told as_ it is -/
omit [Laid] in
theorem Aj(f:AV→AV)(L:Nat)(h:aa)(a:AV):Pure a→eM f L h a=a:=by
 refine AV.rec (motive_1:=fun a=>Pure a→eM f L h a=a) (motive_2:=fun l=>aV l→nM f L h l=l) (motive_3:=fun r=>cF r→oT f L h r=r) ?_ ?_ ?_ ?_ ?_ ?_ ?_ ?_ ?_ ?_ ?_ ?_ ?_ ?_ ?_ ?_ ?_ ?_ a;all_goals intros
 all_goals simp_all [eM,nM,oT]
omit [Laid] in
@[simp] theorem CA(L:Nat)(h:aa)(d:Nat)(a:AV)(p:Pure a):tl L h d a=a:=by
 cases d<;>exact Aj _ L h a p
omit [Laid] in
@[simp] theorem Ys(a:AV):Le a a:=Le.refl a
def dK(r r':AV)(h':aa):Prop:=∃r'' h'',Wk ([]:aa).length [r'] h' [r''] h''∧r''=r
theorem dK.of{h':aa}(q:Le (tl 0 h' 3 r') r):dK r r' h':=RZ.wk q
theorem dK.pure{h':aa}(p:Pure r')(e:r'=r):dK r r' h':=by
 subst e;exact dK.of (by rw[CA _ _ _ _ p];exact Le.refl _)
theorem Body.bj{args:List AV}{W:aa→(AV→aa→Prop)→Prop}(b:Body P f args W){r:AV}(pa:aV args)(pr:Pure r)(q:W [] (dK r)):bn P f args r:=b.con pa pr q
theorem bc{α:Type}(I:α→Prop)(f:α→List AV)(g:α→aa)(μ:α→Nat)(x₀:α){s:List AV}{h:aa}{body:(List AV→aa→Prop)→List AV→aa→Prop}(h0:I x₀)(w0:Wk h.length s h (f x₀) (g x₀))
 (step:∀x,I x→body (fun s' h' => ∃y,I y∧Wk h.length s' h' (f y) (g y)∧μ y<μ x) (f x) (g x)):bL s h body:=
 ⟨α,I,f,g,μ,x₀,h0,w0,step⟩
/-! ### Values that name no memory -/
mutual
def Flat:AV→Prop
 | .v _|.str _|.any=>True
 | .agg cs|.aA cs=>Aq cs
 | _=>False
def Aq:List AV→Prop
 | []=>True
 | c:: cs=>Flat c∧Aq cs
end
omit [Laid] in
theorem au.flat{ι ι':List Ix}{S S':ba}{w w':World}(a:AV):∀v:Value,Flat a→au ι S w a v→au ι' S' w' a v:=by
 refine AV.rec (motive_1:=fun a=>∀v:Value,Flat a→au ι S w a v→au ι' S' w' a v) (motive_2:=fun as_=>∀vs:List Value,Aq as_→aE ι S w as_ vs→aE ι' S' w' as_ vs) (motive_3:=fun _=>True) ?_ ?_ ?_ ?_ ?_ ?_ ?_ ?_ ?_ ?_ ?_ ?_ ?_ ?_ ?_ ?_ ?_ ?_ a
 case refine_4=>intro cs ih v p h;rw[Flat]at p;rw[au]at *;obtain⟨vs,e,q⟩:=h;exact⟨vs,e,ih vs p q⟩
 case refine_5=>intro cs ih v p h;rw[Flat]at p;rw[au]at *;obtain⟨vs,e,q⟩:=h;exact⟨vs,e,ih vs p q⟩
 case refine_16 =>
  intro a as_ iha ihs vs p h;rw[Aq]at p;cases vs with
  | nil=>simp at h
  | cons v vs=>simp only[bO]at h ⊢;exact⟨iha v p.1 h.1,ihs vs p.2 h.2⟩
 all_goals intros
 all_goals first|trivial|(rename_i p h;simp[Flat]at p;done)|skip
 all_goals simp_all
attribute [simp] Flat Aq
theorem rP{args args':List AV}{r:AV}{h:aa}{K:AV→aa→Prop}(hb:dr P f=true)(c:bn P f args' r)(hl:jM (args.map (tl 0 h 3)) args')(fl:Flat r)(k:K r h):bz P (.fn (.func f) [] []) args h K:=by
 refine⟨hb, ?_⟩;simp only[List.nil_append,aaL];obtain⟨pa,pr,c⟩:=c;intro base ι S w vs h1 h2;obtain⟨hE0,hh0⟩:=h2.told (L:=0) (aaO _);have hr:aE (ι.take 0) (gU 0 ι S h) w args' vs:=by
  refine aE.le _ _ vs hl ?_;have:=aE.eM (L:=0) (f:=tl 0 h 2) h2 (au.tl h2 2) args vs h1
  rwa [px]at this
 simp only[List.take_zero]at hr hE0;refine (c w.heap.size [] (gU 0 ι S h) w vs hr (cL.nil _ w hh0.iM hh0.gl)).mono ?_;rintro e w' ⟨v,ι',S',r',h',e1,e2,e3,e4,_,rfl⟩;have hE:bS ι.length w.heap.size ι S w ι S w':=⟨fun _ _=>fX.refl _,fun _ _ q=>q,fun _ _ q=>.inl q,fun b o q=>e2.cell b o (.inl q),e2.xj,e2.oe⟩;exact⟨v,ι,S,r',h,e1,hE.mono (by rw[h2.len];exact bY _) h2.kx,au.flat r' v fl e3,h2.over hE (fun b o q=>Up (h2.iM b o q) e2.oe.size),bY _,k⟩
end
section
open Go Go.RowKit Go.ChangeShapes Go.WideShapes
variable{W:World}
section
variable {H:Type} {enc:TypeId×Value→H} {P:Program}
theorem wF(hl:laidOutB P=true){W W':World}(hb:Below W.heap.size W W'):∀{ts:List TypeId} {vs:List Value} {ds:List (DataW H)} {ps:List MemPlace},
 ts.all (fun t=>P.readableRec t&&decide (t<P.types.size))=true→DataW.TrodAll enc P W 0 (fun _=>true) true ts vs ds ps→(∀x∈ps,x.block<W.heap.size) →
 DataW.TrodAll enc P W' 0 (fun b=>decide (b<W.heap.size)) true ts vs ds ps
 | [],_,_,_,_,h,_=>by obtain⟨rfl,rfl,rfl⟩:=trodAll_nil h;exact rfl
 | t:: ts,_,_,_,hr,h,hlt=>by
   obtain⟨v,vs,d,ds,p,q,rfl,rfl,rfl,h1,h2⟩:=trodAll_cons h;simp only[aa2,NO,Of]at hr;exact⟨p,q,Below.trod hl hr.1.1 hr.1.2 h1 hb (fun x hx=>hlt x (by simp[hx])),wF hl hb hr.2 h2 (fun x hx=>hlt x (by simp[hx])),rfl⟩
theorem LN{f:Func}{s:ChangeSpec}{apart fresh handsOn:Bool}{W W':World}{args:Array Value}{ds gs:List (DataW H)}{before:List MemPlace}{tb:TypeId}
 (hl:laidOutB P=true) (hrd:f.params.toList.all (fun t=>P.readableRec t&&decide (t<P.types.size))=true) (hvr:varsRowed P s.vars=true) (hrt:f.resultTypes=#[tb]) (hb:P.underlying tb=some .bool)
 (hW:DataW.Whole enc P f.params.toList s.vars apart W args.toList ds gs before) (hfn:s.fn H (ds++gs)={ results:=[.lit (.bool true)],args:=ds,vars:=gs }) (hB:Below W.heap.size W W') :
 s.post enc P f apart fresh handsOn false W args (.bool true) W':=by
 have hlt:=hW.lt;have hW0:=hW;obtain⟨p,q,hA,hV,rfl,hfz,hnd⟩:=hW;have hA':=wF (enc:=enc) hl hB hrd hA (fun x hx=>hlt x (by simp[hx]));have hV':=Below.trodVars (enc:=enc) hl hB hvr hV;refine⟨ds,gs,p++q,[],p,q,hW0, ?_,by rw[hfn];exact hA',by rw[hfn];exact hV',hB.frame _,fun e=>by cases e⟩;rw[hfn,hrt];exact trodAll_mk1 (shut_bool hb true)
end
/-! Arguments opened -/
def old(W:World):ba:=fun b _=>b<W.heap.size
theorem add_plain(b off i:Nat):(⟨b,off,none⟩:Addr).add i=⟨b,off+i,none⟩:=addr_add b off i
theorem bn.calls[Laid]{P:Program}{f:FuncId}{as_:List AV}(c:bn P f as_ (b_ true)){vs:List Value}(hg:CH (old W) W)(h:aE [] (old W) W as_ vs):
 Calls P f vs.toArray W fun e W' => e=.returned (.bool true)∧Below W.heap.size W W':=by
 obtain⟨_,_,c⟩:=c;refine (c W.heap.size [] (old W) W vs h (cL.nil (old W) W (fun b o q=>q) hg)).mono ?_;rintro e W' ⟨v,ι',S',r,h',e1,e2,e3,e4,_,rfl⟩;simp at e3;exact⟨by rw[e1,e3],e2.oe⟩
theorem bD.ints{g:Nat}{k:IntKind}{zs:List Int}(hc:∀i,i<zs.length→W.cell? ⟨g,i,none⟩=some (.int k (zs.getD i 0))):bD [] (old W) W (zs.map fun z=>.v (.int k z)) g 0:=by
 refine bD.mk fun i c e=>?_;rw[iN]at e;cases hz:zs[i]? with
 | none=>rw[hz]at e;cases e
 | some z =>
   rw[hz]at e;cases e;have hi:=(eQ.1 hz).1;have h1:=hc i hi;rw[nE,hz]at h1;refine⟨_,by rw[aaQ];exact h1, ?_,by simp⟩;show g<W.heap.size;unfold World.cell? at h1;split at h1
   ·rename_i c1 c2 c3 hh;exact (AS.1 hh).1
   ·cases h1
end
section
open Go Go.RowKit
variable {K:AV→Prop} {A B:Prop} {h:aa}
theorem enil{P:Program}{id o:Nat}{K:AV→Prop}(q:K (.op id o)):ca P (.op id o) K:=q
theorem aH{k:(List AV→aa→Prop)→Prop}{f:List AV→aa→Prop}(q:k f):aw k f:=q
theorem jk{c:AV}{w:Bool}(e:c=.v (.bool w))(q:A):ar c w A B:=by subst e;cases w<;>simpa using q
theorem jX{c:AV}{w:Bool}(e:c=.v (.bool (!w)))(q:B):ar c w A B:=by subst e;cases w<;>simpa using q
theorem dc{c:AV}{w:Bool}(e:c=.v undef)(q:B):ar c w A B:=by subst e;simpa using q
theorem tAn(q:B):True∧B:=⟨True.intro,q⟩
theorem aM{c a b:AV}(e:c=.v (.bool true))(q:K a):aI c a b K:=by subst e;simpa using q
theorem zzR{a b:AV}(q:K a):aI (.v (.bool true)) a b K:=aM rfl q
theorem aO{c a b:AV}(e:c=.v (.bool false))(q:K b):aI c a b K:=by subst e;simpa using q
theorem zzQ{a b:AV}(q:K b):aI (.v (.bool false)) a b K:=aO rfl q
theorem Gs{c:AV}(e:c=.v (.bool true))(q:A):ag c A B:=by subst e;simpa using q
theorem sA{c:AV}(e:c=.v (.bool false))(q:B):ag c A B:=by subst e;simpa using q
theorem aq{X:Prop}{a:List AV}(q:X):a=a∧X:=⟨rfl,q⟩
theorem oK{k:IntKind}{x y:AV}{a b:Int}(t:Bool)(ex:x=.v (.int k a))(ey:y=.v (.int k b))(c:decide (a<b)=t)(q:K (.v (.bool t))):ae .lss x y K:=by subst ex;subst ey;subst c;simpa using q
theorem pT{k:IntKind}{x y:AV}{a b:Int}(t:Bool)(ex:x=.v (.int k a))(ey:y=.v (.int k b))(c:decide (b<a)=t)(q:K (.v (.bool t))):ae .gtr x y K:=by subst ex;subst ey;subst c;simpa using q
theorem pS{k:IntKind}{x y:AV}{a b:Int}(t:Bool)(ex:x=.v (.int k a))(ey:y=.v (.int k b))(c:decide (b≤a)=t)(q:K (.v (.bool t))):ae .geq x y K:=by subst ex;subst ey;subst c;simpa using q
theorem pR{k:IntKind}{x y:AV}{a b:Int}(t:Bool)(ex:x=.v (.int k a))(ey:y=.v (.int k b))(c:decide (a=b)=t)(q:K (.v (.bool t))):ae .eql x y K:=by subst ex;subst ey;subst c;simpa using q
theorem cg{x y:AV}{a b:Int}(ex:x=i_ a)(ey:y=i_ b)(c:aJ (a+b))(q:K (i_ (a+b))):ae .add x y K:=by subst ex;subst ey;simpa using⟨c,q⟩
theorem zzP{a b:Int}(c:aJ (a+b))(q:K (i_ (a+b))):ae .add (i_ a) (i_ b) K:=cg rfl rfl c q
theorem nR{x y:AV}{a b:Int}(ex:x=i_ a)(ey:y=i_ b)(c:aJ (a-b))(q:K (i_ (a-b))):ae .sub x y K:=by subst ex;subst ey;simpa using⟨c,q⟩
theorem zze{a b:Int}(c:aJ (a-b))(q:K (i_ (a-b))):ae .sub (i_ a) (i_ b) K:=nR rfl rfl c q
theorem aK{off id o:Nat}{x:AV}(e:x=.op id o)(q:K (.op id (o+off))):bp off x K:=by subst e;exact q
theorem zzA{off id o:Nat}(q:K (.op id (o+off))):bp off (.op id o) K:=aK rfl q
theorem aF{id o:Nat}{x:AV}{b:jH}{c:AV}(e:x=.op id o)(hb:h[id]?=some (.ah b))(hc:b.cells[o]?=some c)(q:K c):ak false 1 x h K:=by
 subst e;rw[uk,hb];have hl:=(eQ.1 hc).1;simp only[lF];rw[aba hl];rw[(eQ.1 hc).2];exact q
theorem zzU{id o:Nat}{b:jH}{c:AV}(hb:h[id]?=some (.ah b))(hc:b.cells[o]?=some c)(q:K c):ak false 1 (.op id o) h K:=aF rfl hb hc q
theorem dn{id o n:Nat}{x:AV}{b:jH}(e:x=.op id o)(hb:h[id]?=some (.ah b))(hn:n≤(b.cells.drop o).length)(q:K (.agg ((b.cells.drop o).take n))):ak true n x h K:=by
 subst e;rw[uk,hb];exact⟨hn,q⟩
theorem zzV{id o n:Nat}{b:jH}(hb:h[id]?=some (.ah b))(hn:n≤(b.cells.drop o).length)(q:K (.agg ((b.cells.drop o).take n))):ak true n (.op id o) h K:=dn rfl hb hn q
theorem fq{t:TypeId}{v:AV}{KH:AV→aa→Prop}(e:(bl v).all bQ=true)(q:KH (.op h.length 0) (h++[.ah ⟨t,bl v,true⟩])):aW t v h KH:=⟨e,q⟩
theorem oJ[Laid]{P:Program}{f:FuncId}{args args':List AV}{r:AV}{KH:AV→aa→Prop}(e:args=args')(hb:dr P f=true)(c:bn P f args' r)(k:KH r h):bz P (.fn (.func f) [] []) args h KH:=by
 subst e;exact sZ hb c k
theorem zzS[Laid]{P:Program}{f:FuncId}{args:List AV}{r:AV}{KH:AV→aa→Prop}(hb:dr P f=true)(c:bn P f args r)(k:KH r h):bz P (.fn (.func f) [] []) args h KH:=oJ rfl hb c k
theorem bo{i:Nat}{x:AV}{cs:List AV}{c:AV}(e:x=.aA cs)(hc:cs[i]?=some c)(q:K c):aU i x K:=by subst e;rw[QC,hc];exact q
end
section
open Go Go.RowKit
variable [Laid]
variable{K:AV→Prop}{h:aa}{rows:List (List AV)}{P:Program}{f:FuncId}{args s r:List AV}
omit [Laid] in
theorem xC(n:Nat):∀l,lL n l↔∀a∈l,Bd n a
 | []=>by simp[lL]
 | a:: l=>by rw[lL,xC n l];simp
def HW:List (Nat×AV×AV)→List AV
 | []=>[]
 | (_,k,c):: r=>k:: c:: HW r
omit [Laid] in
theorem B9:∀{es:List (Nat×AV×AV)} {p:Nat×AV×AV},p∈es→p.2.1∈HW es∧p.2.2∈HW es
 | (n,k,c):: r,p,h=>by
  rcases ID.1 h with rfl|h
  ·simp[HW]
  ·have:=B9 h;simp[HW,this.1,this.2]
def rM(M:Nat)(e:aL):Prop:=match e with|.ah b=>lL M b.cells|.mp _ es=>lL M (HW es)|.it m _ _ _=>m<M|_=>True
theorem cL.cut{base:Nat}{ι:List Ix}{S:ba}{w:World}{M:Nat}(hh:cL base ι S w h)(hM:M≤h.length)(hb:∀e∈h.take M,rM M e):
 bS M base ι S w (ι.take M) (gU M ι S h) w∧cL base (ι.take M) (gU M ι S h) w (h.take M):=by
 obtain⟨hE,hT⟩:=hh.told hM;refine⟨hE, ?_⟩;have pre:∀{i:Nat},i<M→(ι.take M)[i]?=ι[i]?:=fun q=>by rw[ON,if_pos q]
 have ent:∀{i:Nat} {x:aL},(h.take M)[i]?=some x→i<M∧h[i]?=some x∧(si M h)[i]?=some (Dy M h x):=by
  intro i x e;rw[ON]at e;split at e
  ·rename_i q;exact⟨q,e,by simp only[si,iN,ON,if_pos q,e,abh]⟩
  ·cases e
 have alv:∀{i:Nat},alive (h.take M)[i]?→alive (si M h)[i]?:=by
  intro i ha;cases e:(h.take M)[i]? with
  | none=>rw[e]at ha;exact ha.elim
  | some x =>
    rw[(ent e).2.2];rw[e]at ha;cases x with
    | it m s sn l =>
      have:rM M (.it m s sn l):=hb _ (gE e);have:m<M:=this;simp only[Dy,if_pos this];trivial
    | dead=>exact ha
    | _=>exact trivial
 refine⟨by simp[hh.len],fun id x e=>?_,fun id t sz n e=>?_,fun id en e=>?_,fun i j b ai aj hi hj=>hT.inj i j b (alv ai) (alv aj) hi hj,hT.iM,hh.kx,hh.gl.fV hE⟩;rotate_left 2
 ·obtain⟨q,e1,e2⟩:=ent e;have hbd:rM M en:=hb _ (gE e);have hTo:=hT.kq id _ e2;have hho:=hh.kq id en e1;cases en with
  | ah=>trivial
  | tok=>trivial
  | dead=>trivial
  | mp c es =>
    obtain⟨b,arr,h1,h2,h3,h4,_⟩:=hTo;obtain⟨b',arr',k1,_,k3,_,k5⟩:=hho;rw[pre q,k1]at h1;cases h1;rw[k3]at h3;cases h3;exact⟨b,arr,(pre q).trans k1,h2,k3,h4,k5.bd fun p hp=>⟨fun y=>au.gW hE _ y ((xC M _).1 hbd _ (B9 hp).1),fun y=>au.gW hE _ y ((xC M _).1 hbd _ (B9 hp).2)⟩⟩
  | it m s sn l =>
    have hm:m<M:=hbd;simp only[Dy,if_pos hm]at hTo;exact hTo
 ·obtain⟨q,e1,e2⟩:=ent e;obtain⟨b,arr,fz,h1,h2,h3,h4,h5,h6,h7,h8,h9⟩:=hT.live id _ e2;refine⟨b,arr,fz,h1,h2,h3,h4,by simpa using h5,fun i c ec=>?_,h7,fun o ho=>by simpa using h8 o ho,fun hw o ho=>h9 hw o (by simpa using ho)⟩;obtain⟨b',arr',fz',k1,k2,k3,k4,k5,k6,_⟩:=hh.live id x e1;rw[pre q,k1]at h1;cases h1;rw[k3]at h3;cases h3;obtain⟨v,e3,r⟩:=k6 i c ec;have hbd:rM M (.ah x):=hb _ (gE e);exact⟨v,e3,au.gW hE c v ((xC M x.cells).1 hbd c (gE ec)) r⟩
 ·obtain⟨q,e1,e2⟩:=ent e;exact hT.tok id t sz n e2
theorem Wk.ZA{L M:Nat}(hL:L≤M)(hM:M≤h.length)(hb:∀e∈h.take M,rM M e)(hs:∀a∈s,Bd M a):Wk L s h s (h.take M):=
 ⟨by simp;omega,rfl,fun base ι S w vs r k=>by
  obtain⟨hE,hT⟩:=k.cut hM hb;exact⟨_,_,hE.mono hL (bY _),aE.mk r.length fun i a v e f=>by
   obtain⟨u,hu,ru⟩:=r.get i a e;rw[f]at hu;cases hu;exact au.gW hE a v (hs a (gE e)) ru,hT⟩⟩
theorem Wk.nil{n:Nat}(hn:n≤h.length)(i:Nat)(hi:s[i]?=some (.v (.slice none 0 0))):Wk n s h (s.set i .emp) h:=by
 refine⟨hn,by simp,fun base ι S w vs r k=>?_⟩;obtain⟨v,hv,rv⟩:=r.get i _ hi;rw[cz]at rv;subst rv;have r2:=r.set i .emp (.slice none 0 0) (by rw[au];exact⟨_,rfl⟩);have:vs.set i (.slice none 0 0)=vs:=by
  refine List.ext_getElem? fun j=>?_
  by_cases q:j=i
  ·subst q;rw[iD (eQ.1 hv).1,hv]
  ·rw[iF (Ne.symm q)]
 rw[this]at r2;exact⟨ι,S,bS.refl _ _ _ _ _,r2,k⟩
omit [Laid] in
theorem Gu{k:(List AV→aa→Prop)→Prop}{f:List AV→aa→Prop}(s:List AV)(h:aa)(q:f s h)(hk:∀F:List AV→aa→Prop,F s h→k F):aw k f:=hk f q
theorem iu{r:AV}{v:Value}(pa:aV args)(fl:Flat r)(pr:Aw.Pure r)(hr:∀w,au [] (fun _ _=>False) w r v)
 (c:∀ι S w vs,aE ι S w args vs→CH S w→Calls P f vs.toArray w fun e w' => e=.returned v∧Below w.heap.size w w'):bn P f args r:=by
 refine⟨pa,pr, ?_⟩;intro base ι S w vs h1 h2;refine (c ι S w vs h1 h2.gl).mono ?_;rintro e w' ⟨rfl,hB⟩;have hE:bS ι.length w.heap.size ι S w ι S w':=⟨fun _ _=>fX.refl _,fun _ _ q=>q,fun _ _ q=>.inl q,fun b o q=>hB.cell (h2.iM b o q),fun b x hx=>by
  unfold World.shape? at hx ⊢;have hb:b<w.heap.size:=by
   rcases uP b w.heap.size with k|k
   ·exact k
   ·rw[abj k]at hx;cases hx
  rw[hB.block b hb];exact hx,hB⟩
 exact⟨v,ι,S,r,[],rfl,hE.mono (by rw[h2.len];exact bY _) h2.kx,au.flat r v fl (hr w'),h2.over hE (fun b o q=>Up (h2.iM b o q) hB.size),bY _,rfl⟩
theorem pA{args args':List AV}{r:AV}(e:args=args')(hb:dr P f=true)(c:bn P f args' r)(k:K r):wA P (.fn (.func f) [] []) args h K:=by
 subst e;exact⟨r,sZ hb c ⟨rfl,rfl⟩,k⟩
theorem zzT{r:AV}(hb:dr P f=true)(c:bn P f args r)(k:K r):wA P (.fn (.func f) [] []) args h K:=pA rfl hb c k
omit [Laid] in
theorem Vs{m:Nat}{x i:AV}{n:Nat}(ex:x=.sl m rows)(ei:i=i_ n)(hn:n<rows.length)(q:K (.ip (rows.getD n []))):aQ m x i K:=by
 subst ex;subst ei;rw[HE];exact⟨rfl,⟨by omega,by omega⟩,by simpa using q⟩
omit [Laid] in
theorem dY{x c:AV}(e:x=.ip (c:: r))(q:K c):ak false 1 x h K:=by subst e;exact q
omit [Laid] in
theorem zzW{c:AV}(q:K c):ak false 1 (.ip (c:: r)) h K:=dY rfl q
omit [Laid] in
theorem qm{x:AV}{sz:Nat}(e:x=.sl sz rows)(q:K (i_ rows.length)):bu x K:=by subst e;rw[K5];exact fun _=>q
end
end Go.Aw
namespace Go.bG
section
open Go Go.Aw
abbrev af:=List UInt8
mutual
inductive Cx where
 | mk (lead:Int) (parts:List Cp) (Je:List Int)
inductive Cp where
 | mk (tag:af) (ym:List Sm)
inductive Sm where
 | mk (kind:Int) (name:af) (op:Int) (value:af) (fold:Bool) (a b:Int) (of:Bool) (list:List Cx)
end
def Cx.lead:Cx→Int|.mk l _ _=>l
def Cx.parts:Cx→List Cp|.mk _ p _=>p
def Cx.Je:Cx→List Int|.mk _ _ c=>c
def Cp.tag:Cp→af|.mk t _=>t
def Cp.ym:Cp→List Sm|.mk _ s=>s
def Sm.kind:Sm→Int|.mk k _ _ _ _ _ _ _ _=>k
def Sm.name:Sm→af|.mk _ n _ _ _ _ _ _ _=>n
def Sm.op:Sm→Int|.mk _ _ o _ _ _ _ _ _=>o
def Sm.value:Sm→af|.mk _ _ _ v _ _ _ _ _=>v
def Sm.fold:Sm→Bool|.mk _ _ _ _ f _ _ _ _=>f
def Sm.a:Sm→Int|.mk _ _ _ _ _ a _ _ _=>a
def Sm.b:Sm→Int|.mk _ _ _ _ _ _ b _ _=>b
def Sm.of:Sm→Bool|.mk _ _ _ _ _ _ _ o _=>o
def Sm.list:Sm→List Cx|.mk _ _ _ _ _ _ _ _ l=>l
abbrev u1(n:Int):AV:=.v (.int .u8 n)
/-! ### In memory -/
mutual
def fZ:Cx→List AV
 | .mk l ps cs=>[u1 l,.sl 2 (du ps),.sl 1 (cs.map fun c=>[u1 c])]
def du:List Cp→List (List AV)
 | []=>[]
 | p:: ps=>iv p:: du ps
def iv:Cp→List AV
 | .mk t ss=>[.str t,.sl 9 (dT ss)]
def dT:List Sm→List (List AV)
 | []=>[]
 | s:: ss=>ft s:: dT ss
def ft:Sm→List AV
 | .mk k n o v f a b w l=>[u1 k,.str n,u1 o,.str v,b_ f,i_ a,i_ b,b_ w,.sl 3 (bC l)]
def bC:List Cx→List (List AV)
 | []=>[]
 | x:: xs=>fZ x:: bC xs
end
theorem dq:∀l,du l=l.map iv
 | []=>by simp[du]
 | p:: l=>by simp[du,dq l]
theorem dA:∀l,dT l=l.map ft
 | []=>by simp[dT]
 | p:: l=>by simp[dT,dA l]
theorem ck:∀l,bC l=l.map fZ
 | []=>by simp[bC]
 | p:: l=>by simp[bC,ck l]
theorem iL(x:Cx):fZ x=[u1 x.lead,.sl 2 (x.parts.map iv),.sl 1 (x.Je.map fun c=>[u1 c])]:=by
 cases x;simp[fZ,dq,Cx.lead,Cx.parts,Cx.Je]
theorem rj(p:Cp):iv p=[.str p.tag,.sl 9 (p.ym.map ft)]:=by
 cases p;simp[iv,dA,Cp.tag,Cp.ym]
theorem mD(s:Sm):ft s=[u1 s.kind,.str s.name,u1 s.op,.str s.value,b_ s.fold,i_ s.a,i_ s.b,b_ s.of,.sl 3 (s.list.map fZ)]:=by
 cases s;simp[ft,ck,Sm.kind,Sm.name,Sm.op,Sm.value,Sm.fold,Sm.a,Sm.b,Sm.of,Sm.list]
theorem Br:∀cs:List Int,cF (cs.map fun c=>[u1 c])
 | []=>by simp[cF]
 | c:: cs=>by simp[cF,aV,Aw.Pure,Br cs]
mutual
theorem ye:∀x:Cx,aV (fZ x)
 | .mk l ps cs=>by simp[fZ,aV,Aw.Pure,Br,rZ ps]
theorem rZ:∀l:List Cp,cF (du l)
 | []=>by simp[du,cF]
 | p:: l=>by simp[du,cF,DV p,rZ l]
theorem DV:∀p:Cp,aV (iv p)
 | .mk t ss=>by simp[iv,aV,Aw.Pure,xf ss]
theorem xf:∀l:List Sm,cF (dT l)
 | []=>by simp[dT,cF]
 | s:: l=>by simp[dT,cF,DW s,xf l]
theorem DW:∀s:Sm,aV (ft s)
 | .mk k n o v f a b w l=>by simp[ft,aV,Aw.Pure,fG l]
theorem fG:∀l:List Cx,cF (bC l)
 | []=>by simp[bC,cF]
 | x:: l=>by simp[bC,cF,ye x,fG l]
end
/-! ### What is valid -/
def gD(s:af):Bool:=s.all fun b=>!(b == 0)
def named(s:af):Bool:=!decide (s=[])&&decide ((s.length:Int)≤64)&&gD s
def dF(b:UInt8):UInt8:=if 65≤b∧b≤90 then b ||| 32 else b
def small(s:af):Bool:=named s&&decide (s.map dF=s)
def eK(k:Int):Bool:=decide (k=9)||decide (k=10)
def gu(n:Int):Bool:=decide (-1000000000≤n∧n≤1000000000)
def jo(k:Int)(n:af)(o:Int)(v:af)(f:Bool)(a b:Int)(w:Bool):Bool:=
 if k=1∨k=2 then named n&&decide (o=0)&&decide (v=[])&&!f&&decide (a=0)&&decide (b=0)&&!w
 else if k=3 then small n&&decide (o≤6)&&gD v&&decide ((v.length:Int)≤400)&&(!decide (o=0)||decide (v=[])&&!f)&&decide (a=0)&&decide (b=0)&&!w
 else decide (n=[])&&decide (o=0)&&decide (v=[])&&!f&&decide (4≤k∧k≤14)&&(if eK k then gu a&&gu b else decide (a=0)&&decide (b=0)&&!w)
def gw(k:Int)(w:Bool):Bool:=eK k&&w||decide (11≤k∧k≤14)
def nq(k:Int):Bool:=decide (k=11)||decide (k=12)
mutual
def eL(d:Nat)(has rel:Bool):Cx→Bool
 | .mk l ps cs=>(rel == !decide (l=0))&&decide (l≤4)&&decide (cs.length+1=ps.length)&&decide (ps.length≤64)&&cs.all (fun c=>decide (1≤c∧c≤4))&&me d has ps
def me(d:Nat)(has:Bool):List Cp→Bool
 | []=>true
 | p:: l=>cZ d has p&&me d has l
def cZ(d:Nat)(has:Bool):Cp→Bool
 | .mk t ss=>(decide (t=[])||decide (t=[42])||small t)&&decide (ss.length≤64)&&!(decide (t=[])&&ss.isEmpty)&&mV d has ss
def mV(d:Nat)(has:Bool):List Sm→Bool
 | []=>true
 | s:: l=>jz d has s&&mV d has l
def jz(d:Nat)(has:Bool):Sm→Bool
 | .mk k n o v f a b w l=>jo k n o v f a b w&&(if gw k w then decide (d≠3)&&!(has&&decide (k=14))&&(nq k||!l.isEmpty)&&dD (d+1) (has||decide (k=14)) (decide (k=14)) l else l.isEmpty)
def dD(d:Nat)(has rel:Bool):List Cx→Bool
 | []=>true
 | x:: l=>eL d has rel x&&dD d has rel l
end
theorem mf(d:Nat)(has:Bool):∀l,me d has l=l.all (cZ d has)
 | []=>by simp[me]
 | p:: l=>by simp[me,mf d has l]
theorem kN(d:Nat)(has:Bool):∀l,mV d has l=l.all (jz d has)
 | []=>by simp[mV]
 | p:: l=>by simp[mV,kN d has l]
theorem km(d:Nat)(has rel:Bool):∀l,dD d has rel l=l.all (eL d has rel)
 | []=>by simp[dD]
 | p:: l=>by simp[dD,km d has rel l]
/-! ### How many -/
mutual
def nX:Cx→Nat
 | .mk _ ps _=>fW ps
def fW:List Cp→Nat
 | []=>0
 | p:: l=>nP p+fW l
def nP:Cp→Nat
 | .mk _ ss=>dW ss
def dW:List Sm→Nat
 | []=>0
 | s:: l=>nS s+dW l
def nS:Sm→Nat
 | .mk _ _ _ _ _ _ _ _ l=>l.length+dN l
def dN:List Cx→Nat
 | []=>0
 | x:: l=>nX x+dN l
end
def number(l:List Cx):Nat:=l.length+dN l
def fD(l:List Cx):Int:=if !l.isEmpty&&dD 0 false false l then (if number l≤64 then 0 else 4) else 8
/-! ### How great -/
mutual
def zX:Cx→Nat
 | .mk _ ps cs=>1+cs.length+gh ps
def gh:List Cp→Nat
 | []=>0
 | p:: l=>zP p+gh l
def zP:Cp→Nat
 | .mk t ss=>1+t.length+gH ss
def gH:List Sm→Nat
 | []=>0
 | s:: l=>zS s+gH l
def zS:Sm→Nat
 | .mk _ n _ v _ _ _ _ l=>1+n.length+v.length+cD l
def cD:List Cx→Nat
 | []=>0
 | x:: l=>zX x+cD l
end
end
end Go.bG
namespace Go.Proofs.YtpcnidmmkknndaaGreatDoor
section
open Go Go.Aw Go.bG Go.ChangeShapes Go.WideShapes Go.ChangeAt Go.RowKit
variable{P:Program}{t:TypeId}{F:Nat}
def nf(F:Nat)(P:Program)(t:TypeId){X:Type}(ea:X→List AV)(sz:X→Nat):Prop:=
 ∀(H:Type) (enc:TypeId×Value→H) (W:World) (fuel:Nat) (cs:List Value) (d:DataW H) (ps:List MemPlace),fuel≤F →
  DataW.trod enc P W 0 (fun _=>true) true fuel t cs=some (d,ps)→∃x,aE [] (old W) W (ea x) cs∧cs.length=P.cellsOf t∧sz x≤Rows.uptoBulk d
theorem x6{k:IntKind}(ht:P.underlying t=some (.int k))(hc:P.cellsOf t=1):nf F P t (fun n:Int=>[.v (.int k n)]) (fun _=>1):=by
 intro H enc W fuel cs d ps _ h;obtain⟨n,rfl,e,hn⟩:=DataW.trod_int ht h;simp only[aaK]at e;obtain⟨rfl,_⟩:=e;exact⟨n,by simp,by simp[hc],by simp[Rows.uptoBulk]⟩
theorem FE(ht:P.underlying t=some .bool)(hc:P.cellsOf t=1):nf F P t (fun b:Bool=>[.v (.bool b)]) (fun _=>1):=by
 intro H enc W fuel cs d ps _ h;obtain⟨n,rfl,e⟩:=DataW.trod_bool ht h;simp only[aaK]at e;obtain⟨rfl,_⟩:=e;exact⟨n,by simp,by simp[hc],by simp[Rows.uptoBulk]⟩
theorem vC(ht:P.underlying t=some .string)(hc:P.cellsOf t=1):nf F P t (fun s:List UInt8=>[.str s]) (fun s=>s.length+1):=by
 intro H enc W fuel cs d ps _ h;obtain⟨s,rfl,e,hs⟩:=DataW.trod_string ht h;simp only[aaK]at e;obtain⟨rfl,_⟩:=e;exact⟨s.data.toList,by simpa using hs,by simp[hc],by simp[Rows.uptoBulk]⟩
theorem yV{H:Type}:∀a b:List (DataW H),Rows.uptoBulkAll (a++b)=Rows.uptoBulkAll a+Rows.uptoBulkAll b
 | [],b=>by simp[Rows.uptoBulkAll]
 | x:: a,b=>by rw[abg,Rows.uptoBulkAll,Rows.uptoBulkAll,yV a b];omega
theorem qj{t e:TypeId}{X:Type}{ea:X→List AV}{sz:X→Nat}(ht:P.underlying t=some (.slice e))(hc:P.cellsOf t=1)(hpos:0<P.cellsOf e)(hx:nf F P e ea sz):
 nf F P t (fun l:List X=>[.sl (P.cellsOf e) (l.map ea)]) (fun l=>(l.map sz).sum+1):=by
 intro H enc W fuel cs d ps hF h;obtain⟨rfl,e1⟩|⟨a,len,cap,elems,rest,n,rfl,rfl,e1,_,hlc,hcm,hlen,hel,_,_⟩:=DataW.trod_slice ht h
 ·simp only[aaK]at e1;obtain⟨rfl,_⟩:=e1;refine⟨[], ?_,by simp[hc],by simp[Rows.uptoBulk]⟩;simp only[List.map_nil,bO,dp,and_true];rw[au];exact⟨none,0,rfl,bY _,aaO _,.inl rfl⟩
 ·simp only[aaK]at e1;obtain⟨rfl,_⟩:=e1;have key:∀i,(hi:i<elems.length)→∃x,sz x≤Rows.uptoBulk (elems[i]).1∧∃us:List Value,aE [] (old W) W (ea x) us∧us.length=P.cellsOf e∧∀j,j<us.length→W.cell? ((a.add (i*P.cellsOf e)).add j)=us[j]?:=by
   intro i hi;have h0:=hel i (by omega);rw[dO hi]at h0;obtain⟨us,hus,hu⟩:=Option.bind_eq_some_iff.1 h0;obtain⟨_,hul,huc⟩:=World.cells?_some hus;obtain⟨x,h2,h3,h4⟩:=hx H enc W n us elems[i].1 elems[i].2 (by omega) hu;exact⟨x,h4,us,h2,h3,fun j hj=>huc j (by omega)⟩
  have hlist:∀k,k≤len→∃l:List X,l.length=k∧(l.map sz).sum≤Rows.uptoBulkAll ((elems.take k).map (·.1))∧∀i x,l[i]?=some x→∃us:List Value,aE [] (old W) W (ea x) us∧us.length=P.cellsOf e∧∀j,j<us.length→W.cell? ((a.add (i*P.cellsOf e)).add j)=us[j]?:=by
   intro k;induction k with
   | zero=>intro _;exact⟨[],rfl,by simp,by simp⟩
   | succ k ih =>
     intro hk;obtain⟨l,hl,hs,hi⟩:=ih (by omega);obtain⟨x,hx1,hx2⟩:=key k (by omega);refine⟨l++[x],by simp[hl], ?_,fun i y hy=>?_⟩
     ·rw[By,dO (by omega),Option.toList_some];simp only[List.map_append,yV,List.sum_append,GO,List.map_nil,List.sum_cons,List.sum_nil,Rows.uptoBulkAll];omega
     rcases Nat.lt_trichotomy i k with q|q|q
     ·rw[gO (by omega)]at hy;exact hi i y hy
     ·subst q;rw[gT (by omega)]at hy;simp[hl]at hy;subst hy;exact hx2
     ·rw[iS (by simp;omega)]at hy;cases hy
  obtain⟨l,hl,hs,hi⟩:=hlist len (by omega);rw[MK (by omega)]at hs;refine⟨l, ?_,by simp[hc],by show (l.map sz).sum+1≤_;rw[Rows.uptoBulk];omega⟩;simp only[bO,dp,and_true];rw[au];refine⟨some a,cap,by simp[hl],by simpa[hl]using hlc,hcm, ?_⟩;cases l with
  | nil=>exact .inl rfl
  | cons x0 l0 =>
    right;obtain⟨us0,_,hu0,hu1⟩:=hi 0 x0 rfl;obtain⟨b,off,spot⟩:=a;have hsp:spot=none:=by
     have h1:=hu1 0 (by omega);rw[dO (by omega)]at h1;simpa[Addr.add]using World.cell?_spot h1
    subst hsp;refine⟨b,off,rfl,cr.mk fun i r hr=>?_⟩;rw[iN]at hr;cases hxi:(x0:: l0)[i]? with
    | none=>rw[hxi]at hr;cases hr
    | some x =>
      rw[hxi]at hr;cases hr;obtain⟨us,k1,k2,k3⟩:=hi i x hxi;refine⟨by rw[k1.length];exact k2,bD.mk fun j c ec=>?_⟩;obtain⟨u,e1,e2⟩:=k1.get j c ec;have h1:=k3 j (eQ.1 e1).1;rw[e1,Aw.add_plain,Aw.add_plain]at h1;refine⟨u,h1, ?_,e2⟩;show b<W.heap.size;unfold World.cell? at h1;split at h1
      ·rename_i c1 c2 c3 hh;exact (AS.1 hh).1
      ·cases h1
theorem IH:∀l:List Cx,(l.map zX).sum=cD l
 | []=>by simp[cD]
 | x:: l=>by rw[GO,List.sum_cons,cD,IH l]
theorem IE:∀l:List Cp,(l.map zP).sum=gh l
 | []=>by simp[gh]
 | x:: l=>by rw[GO,List.sum_cons,gh,IE l]
theorem IG:∀l:List Sm,(l.map zS).sum=gH l
 | []=>by simp[gH]
 | x:: l=>by rw[GO,List.sum_cons,gH,IG l]
theorem IC:∀l:List Int,(l.map fun _=>1).sum=l.length
 | []=>rfl
 | x:: l=>by rw[GO,List.sum_cons,IC l];simp;omega
theorem Q6(F:Nat):nf F p_ 44 (fun p:Int×Int=>[i_ p.1,i_ p.2]) (fun _=>1):=by
 intro H enc W fuel cs d ps hF h;obtain⟨xs,n,rfl,e1,hl,hn,hf⟩:=DataW.trod_struct Tryz.underlying44 h
 match xs,hn with
 | [y0,y1],_ =>
   have h0:=hf 0 _ rfl;have h1:=hf 1 _ rfl;rw[show p_.cellsOf 44=2 by kernel_rfl]at hl
   match cs,hl with
   | [c0,c1],_ =>
     obtain⟨a,ra,_,_⟩:=x6 (F:=n) Tryz.underlying2 (by kernel_rfl) H enc W n _ y0.1 y0.2 (bY _) h0;obtain⟨b,rb,_,_⟩:=x6 (F:=n) Tryz.underlying2 (by kernel_rfl) H enc W n _ y1.1 y1.2 (bY _) h1;simp only[aaK]at e1;obtain⟨rfl,_⟩:=e1;have ra:aE [] (old W) W [i_ a] [c0]:=ra;have rb:aE [] (old W) W [i_ b] [c1]:=rb;refine⟨(a,b),by simpa using⟨by simpa using ra,by simpa using rb⟩,by rw[show p_.cellsOf 44=2 by kernel_rfl];rfl,by show 1≤_;rw[Rows.uptoBulk];omega⟩
theorem LB(F:Nat):nf F p_ 35 (fun l:List Int=>[.sl 1 (l.map fun c=>[u1 c])]) (fun l=>l.length+1):=by
 have:=qj (F:=F) Tryz.underlying35 (by kernel_rfl) (lT (by kernel_rfl)) (x6 (F:=F) Tryz.underlying5 (by kernel_rfl));rw[show p_.cellsOf 5=1 by kernel_rfl]at this;simpa only[IC]using this
end
section
open Go Go.Aw
variable [Laid]
def Xo(x0:AV)(h:aa)(K:AV→aa→Prop):Prop:=
 iC p_ 45 [x0,u8 0] h fun c d=>aW 104 (.agg [i_ 0,i_ 0,ff]) d fun b e=>ao 3 b c e fun a=>iFL 0 false 1 b a fun f=>qBe .gtr f 16 fun g=>ag g (K (i_ 20) a) (iFL 1 false 1 b a fun i=>qBe .gtr i 1500 fun j=>ag j (K (i_ 4) a) (iFL 2 false 1 b a fun k=>ag k (K (i_ 8) a) (K (i_ 0) a)))
theorem V31(x0:AV):Body p_ 31 [x0] (Xo x0):=bB Tryz.func31 .nil 17 [.tmp 2]
def XB(x0 x1:AV)(h:aa)(K:AV→aa→Prop):Prop:=
 aW 104 (.agg [i_ 0,i_ 0,ff]) h fun b C=>aW 104 (.agg [i_ 0,i_ 0,ff]) C fun a D=>bu x0 fun d=>bL [i_ 0] D fun E c j =>
 ae .lss (nx c 0) d fun F=>ag F (aw (fun o=>aQ 6 x0 (nx c 0) fun G=>ak true 6 G j fun H=>aW 74 (.agg [u8 0,.str [],i_ 0,.str [],ff,qNs]) j fun e I=>ao 6 e H I fun p=>iFL 1 false 1 a p fun J=>qBe .add J 1 fun L=>bp 1 a fun M=>ao 1 M L p fun q=>bp 0 e fun N=>iFL 0 false 1 N q fun O=>iC p_ 30 [O] q fun f l=>aw (fun r=>ae .neq x1 (u8 0) fun P=>qJa P [x1,b,a,e,f,x0,d,nx c 0] l (fun Q=>bp 0 e fun R=>iFL 0 false 1 R l fun S=>ae .eql S x1 fun T=>Q T l) fun s t=>aw (fun u=>ar s false (ae .eql f (u8 0) fun U=>eC [x1,b,a,e,f,x0,d,nx c 0] (u [ff,U] t)) (eC [x1,b,a,e,f,x0,d,nx c 0] (u [aN false s,un] t))) fun i m=>aw (fun v=>ar (nx i 1) true (iFL 5 false 1 e m fun V=>bu V fun W=>qBe .gtr W 0 fun X=>eC [x1,b,a,e,f,x0,d,nx c 0,nx i 0] (v [tt,X] m)) (eC [x1,b,a,e,f,x0,d,nx c 0,nx i 0] (v [(aN true (nx i 1)),un] m))) fun w x=>qJo (nx i 0) [x1,b,a,e,f,x0,d,nx c 0] x (fun Y=>aI (nx w 0) (nx w 1) ff fun Z=>Y Z x) fun a0 y=>ag a0 (bp 2 a fun a1=>ao 1 a1 tt y fun a2=>eC [x1,b,a,e,f,x0,d,nx c 0] (r [] a2)) (eC [x1,b,a,e,f,x0,d,nx c 0] (r [] y))) fun c4 n=>ae .eql f (u8 0) fun a3=>ag a3 (eC [x1,b,a,x0,d,nx c 0] (o [] n)) (iFL 5 false 1 e n fun a4=>iC p_ 45 [a4,f] n fun a5 a6=>aW 104 (.agg [i_ 0,i_ 0,ff]) a6 fun k a7=>ao 3 k a5 a7 fun g=>iFL 0 false 1 a g fun a8=>iFL 0 false 1 k g fun a9=>qBe .add a9 1 fun b0=>kr a8 b0 fun z=>iFL 1 false 1 a g fun b1=>iFL 1 false 1 k g fun b2=>ae .add b1 b2 fun b3=>qBe .add b3 1 fun A=>iFL 2 false 1 a g fun b4=>qJo b4 [x1,b,a,x0,d,nx c 0,z,A] g (fun b5=>iFL 2 false 1 k g fun b6=>b5 b6 g) fun b7 b8=>aY (.agg [i_ 0,i_ 0,ff]) [(0,1,z),(1,1,A),(2,1,b7)] fun b9=>ao 3 a b9 b8 fun c0=>eC [x1,b,a,x0,d,nx c 0] (o [] c0))) fun c5 c1=>qBe .add (nx c 0) 1 fun c2=>eC [x1,b,a,x0,d] (E [c2] c1)) (ak true 3 a j fun c3=>ao 3 b c3 j fun B=>ak true 3 b B fun r91=>K r91 B)
theorem V45(x0 x1:AV):Body p_ 45 [x0,x1] (XB x0 x1):=bB Tryz.func45 (sn (sn (.seq (sn (.one (.loop [1,4,5,10,11] [12] (sn (sn (.join [1,4,5,10,11,12] [] (.one (sn (sn (sn (.join [1,4,5,7,8,10,11,12] [] (.seq (.aR (oR 0 3 (.aD 2 true (fR 3 5) [1,4,5,7,8,10,11,12] [26,31]::oR 8 2 (.aD 9 false (fR 10 3) [1,4,5,7,8,10,11,12] [33,36]::.aD 12 true (fR 13 4) [1,4,5,7,8,10,11,12,33] [36,40]::.aD 9 false [(17,false)] [1,4,5,7,8,10,11,12] [33,41]::.op 18 false::[])))) .nil) (sn (sn (.aR (oR 0 15 (.aD 14 false (fR 15 2) [1,4,5,10,11,12,55,61] [64,66]::oR 17 3 [])))))))))) .nil)))))) .nil))) 71 [.cell 4 104]
end
end Go.Proofs.YtpcnidmmkknndaaGreatDoor
end
