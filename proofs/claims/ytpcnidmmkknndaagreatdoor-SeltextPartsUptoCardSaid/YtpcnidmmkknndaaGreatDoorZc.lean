/-
 A statement whose order is open,with new variables among the first operations: whatever order is taken,behind them they stand in one order.
 No conditions.
-/
import Derived.ProofKit
import Derived.OpenShut
import Derived.OpenVars
import Derived.Test.YtpcnidmmkknndaaGreatDoorRows
import Derived.Test.YtpcnidmmkknndaaGreatDoorProg
import Derived.KernelRfl
import Derived.Test.YtpcnidmmkknndaaGreatDoorZb
set_option linter.unusedVariables false
set_option linter.unusedSimpArgs false
set_option linter.unusedSectionVars false
set_option linter.defProp false
set_option autoImplicit true
set_option maxRecDepth 1000000
set_option maxHeartbeats 16000000
open Go.Proofs.Tryz renaming prog→p_
noncomputable section
namespace Go.Aw
section
open Go Go.RowKit
variable [Laid]
def cK.move{base:Nat}(hh:cK base ι S w h){id b:Nat}(e:h[id]?=some (.ak x))(hb:ι[id]?=some (.ak b)):cK base (ι++[.ak b]) S w (h.set id .dead++[.ak x]):=by
 have hlt:id<h.length:=(eQ.1 e).1;have hl:=hh.len;have hE:bS ι.length base ι S w (ι++[.ak b]) S w:=bS.grow [.ak b];have old:∀{j:Nat} {en:aK},en≠.dead→j<h.length→(h.set id .dead++[aK.ak x])[j]?=some en→j≠id∧h[j]?=some en∧(ι++[Ix.ak b])[j]?=ι[j]?:=by
  intro j en hne hj q;rw[gO (by simpa using hj)]at q
  by_cases hji:j=id
  ·subst hji;rw[iD hlt]at q;exact absurd (DO q).symm hne
  ·rw[iF (Ne.symm hji)]at q;exact⟨hji,q,gO (by omega)⟩
 have new:∀{en:aK},(h.set id .dead++[aK.ak x])[h.length]?=some en→en=.ak x:=by
  intro en q;rw[gT (by simp)]at q;simp at q;exact q.symm
 have beyond:∀{j:Nat} {en:aK},(h.set id .dead++[aK.ak x])[j]?=some en→j<h.length∨j=h.length:=by
  intro j en q;have:=(eQ.1 q).1;simp at this;omega
 have ixn:(ι++[Ix.ak b])[h.length]?=some (.ak b):=by rw[←hl];simp
 refine⟨by simp[hl],fun j y q=>?_,fun j t sz n q=>?_,fun j en q=>?_,fun i j c ai aj ci cj=>?_,hh.iK,hh.kC,hh.gl⟩;rotate_left 2
 ·by_cases hd:en=.dead
  ·subst hd;trivial
  ·rcases beyond q with hj|rfl
   ·obtain⟨_,q1,q2⟩:=old hd hj q;exact (hh.ky j en q1).step hE (bY _) q2 fun _ _ _=>⟨rfl,fun _ z=>z⟩
   ·rw[new q];trivial
 rotate_left 1
 ·rcases beyond q with hj|rfl
  ·obtain⟨_,q1,q2⟩:=old (by simp) hj q;obtain⟨c,arr,fz,k1,k2,k3,k4,k5,k6,k7⟩:=hh.live j y q1;exact⟨c,arr,fz,q2.trans k1,k2,k3,k4,k5,fun i d ed=>let ⟨v,e1,e2⟩:=k6 i d ed;⟨v,e1,ar.fW hE (bY _) d v e2⟩,k7⟩
  ·have:=new q;cases this;obtain⟨c,arr,fz,k1,k2,k3,k4,k5,k6,k7⟩:=hh.live id x e;rw[hb]at k1;cases k1;exact⟨b,arr,fz,ixn,k2,k3,k4,k5,fun i d ed=>let ⟨v,e1,e2⟩:=k6 i d ed;⟨v,e1,ar.fW hE (bY _) d v e2⟩,k7⟩
 ·rcases beyond q with hj|rfl
  ·obtain⟨_,q1,q2⟩:=old (by simp) hj q;obtain⟨v,k1,k2⟩:=hh.tok j t sz n q1;exact⟨v,q2.trans k1,k2⟩
  ·cases new q
 ·have av:∀{j:Nat},alive ((h.set id .dead++[aK.ak x])[j]?)→(j≠id∧alive h[j]?∧(ι++[Ix.ak b])[j]?=ι[j]?)∨j=h.length:=by
   intro j aj;cases q:(h.set id .dead++[aK.ak x])[j]? with
   | none=>rw[q]at aj;exact aj.elim
   | some en =>
     rcases beyond q with hj|hj
     ·left;have hne:en≠.dead:=by rintro rfl;rw[q]at aj;exact aj
      obtain⟨q1,q2,q3⟩:=old hne hj q;exact⟨q1,by rw[q2,←q];exact aj,q3⟩
     ·exact .inr hj
  have aid:alive h[id]?:=by rw[e];exact trivial
  rcases av ai with⟨i1,i2,i3⟩|rfl<;>rcases av aj with⟨j1,j2,j3⟩|rfl
  ·rw[i3]at ci;rw[j3]at cj;exact hh.inj i j c i2 j2 ci cj
  ·exfalso;rw[i3]at ci;rw[ixn]at cj;have:b=c:=cj;subst this;exact i1 (hh.inj i id b i2 aid ci (by rw[hb];rfl))
  ·exfalso;rw[j3]at cj;rw[ixn]at ci;have:b=c:=ci;subst this;exact j1 (hh.inj j id b j2 aid cj (by rw[hb];rfl))
  ·rfl
/-! ### Words that hold beside whatever else there is -/
def wT(P:Program)(x:AV)(args:List AV)(h:aa)(K:AV→Prop):Prop:=
 match x with
 | .fn (.func f) xs ys=>∃r,dw P f=true∧(∀ext,bW P f (xs++args++ys) (h++ext) fun v h' => v=r∧h'=h++ext)∧K r
 | _=>False
def vf(P:Program)(own:Bool):Op→Bool
 | .buildSlice .. => own
 | .makeInterface .. | .typeAssert .. | .move _|.assign _|.pick .. | .binOp .. | .extract .. | .field .. | .index .. | .indexAddr .. | .fieldAddr .. | .nilCheck _|.build .. | .makeFunc .. | .unOp .. => true
 | .slice t .. => (match P.underlying t with|some .string|some (.slice _)=>true|_=>false)
 | .convert s d _=>(match P.underlying s,P.underlying d with|some (.int _),some (.int _)=>true|some .string,some .string=>true|_,_=>false)
 | .call c=>(match c.callee with|.builtin .min|.builtin .max=>true|_=>false)
 | _=>false
def wR{own:Bool}{ev:Operand→AV}{op:Op}(hf:vf P own op=true)(q:bF P own ev h op fun v h' => v=x∧h'=h):bF P own ev g op fun v h' => v=x∧h'=g:=by
 cases op<;>simp only[vf,aaX]at hf<;>simp only[bF,and_true]at q ⊢
 case buildSlice=>subst hf;exact q
 case slice t x lo hi mx =>
  cases mx with
  | some m=>exact q.elim
  | none =>
    simp only at q ⊢;cases ht:P.underlying t with
    | none=>rw[ht]at q;exact q.elim
    | some d =>
      rw[ht]at q hf;cases d<;>simp only[aaX]at q hf⊢<;> exact q
 case convert s d x =>
  cases hs:P.underlying s with
  | none=>rw[hs]at q;exact q.elim
  | some a =>
    cases hd:P.underlying d with
    | none=>rw[hs,hd]at q;cases a<;>exact q.elim
    | some b =>
      rw[hs,hd]at q hf;cases a<;>cases b<;>simp only[aaX]at q hf⊢<;> exact q
 case call c =>
  cases hc:c.callee with
  | value f=>rw[hc]at hf;cases hf
  | invoke r m=>rw[hc]at hf;cases hf
  | builtin b =>
    rw[hc]at hf q;cases b<;>simp only[aaX]at hf q⊢<;> exact q
 case unOp o t x=>cases o<;>simp only at q⊢<;> first|exact q|exact q.elim|(cases hu:P.underlying t with|none=>rw[hu]at q;exact q.elim|some d=>rw[hu]at q;cases d<;>simp only at q⊢<;> first|exact q|exact q.elim)
 case typeAssert y xT a ok=>cases ok<;>simp only at q⊢<;> first|exact q|exact q.elim
 all_goals exact q
omit [Laid] in
def N0{sz:Nat}{h ext:aa}{K:AV→Prop}(q:ah g sz x h K):ah g sz x (h++ext) K:=by
 cases x<;>simp only[ah]at q⊢<;> first|exact q|skip
 rename_i id o;cases e:h[id]? with
 | none=>rw[e]at q;exact q.elim
 | some en=>rw[gO (eQ.1 e).1,e];rw[e]at q;exact q
def He(P:Program)(own:Bool)(ev:Operand→AV)(h:aa)(op:Op)(K:AV→Prop):Prop:=
 match op with
 | .call c=>(match c.callee with
   | .value x=>wT P (ev x) (c.args.toList.map ev) h K
   | .builtin .len=>(match c.argTypes[0]?,c.args[0]? with
     | some t,some x=>(match P.underlying t with
       | some .string=>lq (ev x) K
       | some (.slice _)=>iZ (ev x) K
       | _=>False)
     | _,_=>False)
   | _=>cF (vf P own (.call c)) (bF P own ev h (.call c) fun v _=>K v))
 | .load t x=>cF (fU P t) (ah (fA P t) (P.cellsOf t) (ev x) h K)
 | op=>cF (vf P own op&&sj P own op) (bF P own ev h op fun v _=>K v)
def uj{own:Bool}{ev:Operand→AV}{op:Op}{K:AV→Prop}(q:He P own ev h op K):∃x,(∀ext,bF P own ev (h++ext) op fun v h' => v=x∧h'=h++ext)∧K x:=by
 unfold He at q;split at q
 ·rename_i c;split at q
  ·rename_i y hc;unfold wT at q;split at q
   ·rename_i f xs ys e;obtain⟨r,hb,c1,k⟩:=q;refine⟨r,fun ext=>?_,k⟩;simp only[bF,hc];unfold bx;rw[e];exact⟨hb,c1 ext⟩
   ·exact q.elim
  ·rename_i hc;simp only[bF,hc];cases h1:c.argTypes[0]? with
   | none=>rw[h1]at q;exact q.elim
   | some t =>
     cases h2:c.args[0]? with
     | none=>rw[h1,h2]at q;exact q.elim
     | some x =>
       rw[h1,h2]at q;simp only at q ⊢;cases ht:P.underlying t with
       | none=>rw[ht]at q;exact q.elim
       | some d =>
         rw[ht]at q;cases d<;>first|exact q.elim|skip
         ·obtain⟨y,q1,q2⟩:=C0 q;exact⟨y,fun ext=>by simpa using q1,q2⟩
         ·obtain⟨y,q1,q2⟩:=EZ q;exact⟨y,fun ext=>by simpa using q1,q2⟩
  ·obtain⟨hf,q⟩:=aX q;have hq:sj P own (.call c)=true:=by
    unfold vf at hf;unfold sj
    revert hf
    cases c.callee<;>intro hf<;>first|(cases hf;done)|exact hf
   obtain⟨x,q1,q2⟩:=u5 hq q;exact⟨x,fun ext=>wR hf q1,q2⟩
 ·obtain⟨ht,q⟩:=aX q;obtain⟨x,q1,q2⟩:=yQ _ _ _ _ K q;refine⟨x,fun ext=>?_,q2⟩;simp only[bF,ht,cF];have:=N0 (ext:=ext) q1;simpa using this
 ·obtain⟨hf,q⟩:=aX q;simp only[NO]at hf;obtain⟨x,q1,q2⟩:=u5 hf.2 q;exact⟨x,fun ext=>wR hf.1 q1,q2⟩
/-! ### The first operations: some make new variables -/
def IT(P:Program)(ops:Array Oper)(i:Nat):Option (TypeId×AV×Tmp):=
 match ops[i]? with
 | some o=>(match o.op,o.dst,o.guard with
   | .alloc t,some d,none=>(match jI P t with|some z=>(match (bh z).all bG with|true=>some (t,z,d)|false=>none)|none=>none)
   | _,_,_=>none)
 | none=>none
def fP(P:Program)(ops:Array Oper)(i:Nat):aK:=match IT P ops i with|some (t,z,_)=>.ak ⟨t,bh z,true⟩|none=>.dead
section
variable (P:Program) (ops:Array Oper) (n:Nat) (h:aa) (A:List Nat)
def BF:List (Nat×Bool)→Fr→(Fr→Prop)→Prop
 | [],fr,K=>K fr
 | (i,own):: r,fr,K=>match ops[i]? with
  | some o=>(match A.contains i with
    | true=>BF r (bO n fr o.dst .any) K
    | false=>He P own (aE fr) h o.op fun v=>BF r (bO n fr o.dst v) K)
  | none=>False
end
section
variable {P:Program} {ops:Array Oper} {n:Nat} {h:aa} {A:List Nat}
omit [Laid] in
theorem Jl{V V':Nat→AV}{fr0:Fr}{L:Nat→Bool}:∀k,(∀j,j<k→V' j=V j)→fQ ops n V' fr0 L k=fQ ops n V fr0 L k
 | 0,_=>rfl
 | k+1,hv=>by
   rw[fQ,fQ,Jl k fun j hj=>hv j (by omega),hv k (by omega)]
theorem KE{K:Fr→Prop}{fr0:Fr}:∀(l:List (Nat×Bool)) (k:Nat) (V:Nat→AV) (O:Nat→Bool),l.map (·.1)=List.range' k l.length→BF P ops n h A l (fQ ops n V fr0 (fun _=>true) k) K →
 ∃(V':Nat→AV) (O':Nat→Bool),(∀j,j<k→V' j=V j∧O' j=O j)∧(∀i,k≤i→i<k+l.length→(A.contains i=true∧V' i=.any)∨(A.contains i=false∧∃o,ops[i]?=some o∧∀ext,bF P (O' i) (aE (fQ ops n V' fr0 (fun _=>true) i)) (h++ext) o.op fun v h' => v=V' i∧h'=h++ext)) ∧
  K (fQ ops n V' fr0 (fun _=>true) (k+l.length))
 | [],k,V,O,_,q=>⟨V,O,fun _ _=>⟨rfl,rfl⟩,fun i h1 h2=>by simp at h2;omega,q⟩
 | (i,own):: l,k,V,O,hi,q=>by
  simp only[GO,aaP,List.range'_succ,List.cons.injEq]at hi;obtain⟨rfl,hi⟩:=hi;simp only[BF]at q;cases ho:ops[i]? with
  | none=>rw[ho]at q;exact q.elim
  | some o =>
    rw[ho]at q;simp only at q;have hdst:eN ops i=o.dst:=by unfold eN;rw[ho];rfl
    have step:∀x,bO n (fQ ops n V fr0 (fun _=>true) i) o.dst x=fQ ops n (fun j=>if j=i then x else V j) fr0 (fun _=>true) (i+1):=by
     intro x;rw[fQ];simp only[if_true,hdst];rw[Jl (V':=fun j=>if j=i then x else V j) (V:=V) i (fun j hj=>by simp[show j≠i by omega])]
    have go:∀x ow,BF P ops n h A l (bO n (fQ ops n V fr0 (fun _=>true) i) o.dst x) K→((A.contains i=true∧x=.any)∨(A.contains i=false∧∀ext,bF P ow (aE (fQ ops n V fr0 (fun _=>true) i)) (h++ext) o.op fun v h' => v=x∧h'=h++ext)) →
     ∃(V':Nat→AV) (O':Nat→Bool),(∀j,j<i→V' j=V j∧O' j=O j)∧(∀i',i≤i'→i'<i+(l.length+1)→(A.contains i'=true∧V' i'=.any)∨(A.contains i'=false∧∃o,ops[i']?=some o∧∀ext,bF P (O' i') (aE (fQ ops n V' fr0 (fun _=>true) i')) (h++ext) o.op fun v h' => v=V' i'∧h'=h++ext)) ∧
      K (fQ ops n V' fr0 (fun _=>true) (i+(l.length+1))):=by
     intro x ow q2 hx;rw[step x]at q2;obtain⟨V',O',v1,v2,v3⟩:=KE l (i+1) (fun j=>if j=i then x else V j) (fun j=>if j=i then ow else O j) hi q2;have vi:V' i=x∧O' i=ow:=by have:=v1 i (by omega);simpa using this
     have vlt:∀j,j<i→V' j=V j∧O' j=O j:=fun j hj=>by have:=v1 j (by omega);simpa[show j≠i by omega]using this
     refine⟨V',O',vlt,fun i' h1 h2=>?_,by rw[show i+(l.length+1)=i+1+l.length by omega];exact v3⟩
     by_cases e:i'=i
     ·subst e;rw[vi.1,vi.2,Jl (V:=V) i' fun j hj=>(vlt j hj).1];exact hx.imp id fun hx=>⟨hx.1,o,ho,hx.2⟩
     ·exact v2 i' (by omega) (by omega)
    cases hA:A.contains i with
    | true=>rw[hA]at q;exact go .any false q (.inl ⟨hA,rfl⟩)
    | false =>
      rw[hA]at q;obtain⟨x,q1,q2⟩:=uj q;exact go x own q2 (.inr ⟨hA,q1⟩)
def iu(P:Program)(ops:Array Oper)(i:Nat):Option Tmp:=(IT P ops i).map (·.2.2)
omit [Laid] in
def CD{ty:TypeId}(e:IT P ops i=some (ty,z,d)):∃o,ops[i]?=some o∧o.op=.alloc ty∧o.dst=some d∧o.guard=none∧jI P ty=some z∧(bh z).all bG=true:=by
 unfold IT at e;split at e
 ·rename_i o ho;split at e
  ·rename_i t' d' h1 h2 h3;split at e
   ·rename_i z' hz;split at e
    ·rename_i hs;simp only[On,aaY]at e;obtain⟨rfl,rfl,rfl⟩:=e;exact⟨o,ho,h1,h2,h3,hz,hs⟩
    ·cases e
   ·cases e
  ·cases e
 ·cases e
structure JY(P:Program)(ops:Array Oper)(n:Nat)(h:aa)(A:List Nat)(V:Nat→AV)(O:Nat→Bool)(fr0:Fr)(t:Nat):Prop where
 ung:∀i o,i<t→ops[i]?=some o→o.guard=none
 quiet:∀i,i<t→A.contains i=false→∃o,ops[i]?=some o∧∀ext,bF P (O i) (aE (fQ ops n V fr0 (fun _=>true) i)) (h++ext) o.op fun v h' => v=V i∧h'=h++ext
 al:∀i,i<t→A.contains i=true→∃d,iu P ops i=some d∧d<n∧V i=.any∧∀j oj,j<t→ops[j]?=some oj→d∉oj.looksAt ops∧(j≠i→oj.dst≠some d)
def D1(P:Program)(ops:Array Oper)(h:aa)(fr frV:Fr)(σ:List Nat):Prop:=
 (∀u,(∀i∈σ,iu P ops i≠some u)→bB fr u=bB frV u)∧∀(k i:Nat) (d:Tmp),σ[k]?=some i→iu P ops i=some d→bB fr d=.op (h.length+k) 0
theorem NN{V:Nat→AV}{O:Nat→Bool}{fr0:Fr}{an:Nat→Nat→Bool}{t m more:Nat}{Q:Exit→St→Prop}(hE:sM ops (fun _=>false) an)(hF:JY P ops n h A V O fr0 t)(hg:qI ops t=true)(ht:t≤ops.size)(hm:m≤h.length)
 (hZ:∀base ι S a w fr σ,bZ base ι S a w ⟨n,fr,h++σ.map (fP P ops)⟩→D1 P ops h fr (fQ ops n V fr0 (fun _=>true) t) σ→σ.Nodup→(∀i,i∈σ↔i<t∧A.contains i=true)→wpAny P .any ops (dz m base ι S w Q) more (full ops t) a w) :
 ∀(fuel:Nat) (L:Array Bool) (base:Nat) (ι:List Ix) (S:aY) (a:Act) (w:World) (fr:Fr) (σ:List Nat),L.size=ops.size→Down ops L→(∀i,t≤i→L.getD i false=false)→bZ base ι S a w ⟨n,fr,h++σ.map (fP P ops)⟩ →
  D1 P ops h fr (fQ ops n V fr0 (fun i=>L.getD i false) ops.size) σ→σ.Nodup→(∀i,i∈σ↔L.getD i false=true∧A.contains i=true)→ma (fun _=>true) (fun i=>L.getD i false) t+fuel=t →
  wpAny P .any ops (dz m base ι S w Q) (fuel+more) L a w:=by
 intro fuel;induction fuel with
 | zero =>
   intro L base ι S a w fr σ hsz hd hlt hr hI hN hσ hn;have all:∀i,i<t→L.getD i false=true:=El (L:=fun i=>L.getD i false) t (by omega);have hL:L=full ops t:=by
    refine Array.ext (by simp[full,hsz]) fun i h1 h2=>?_;have e:L.getD i false=L[i]:=by simp[h1]
    rw[←e];have hf:(full ops t)[i]=decide (i<t):=by simp[full]
    rw[hf]
    by_cases q:i<t
    ·rw[all i q];simp[q]
    ·rw[hlt i (by omega)];simp[q]
   rw[aa4,hL];refine hZ base ι S a w fr σ hr ⟨fun u hu=>?_,hI.2⟩ hN fun i=>?_
   ·rw[hI.1 u hu,ve (k:=t) _ ht fun j h1 h2 _=>hlt j h1];exact pV _ fun j hj _=>all j hj
   ·rw[hσ i];refine and_congr_left fun _=>⟨fun q=>?_,fun q=>all i q⟩;rcases uP i t with z|z
    ·exact z
    ·rw[hlt i z]at q;cases q
 | succ fuel ih =>
   intro L base ι S a w fr σ hsz hd hlt hr hI hN hσ hn;have unl:∃i,i<t∧L.getD i false=false:=by
    refine Classical.byContradiction fun hno=>?_;have all:∀i,i<t→L.getD i false=true:=fun i hi=>by
     cases q:L.getD i false with
     | true=>rfl
     | false=>exact absurd ⟨i,hi,q⟩ hno
    rw[GW (L:=fun i=>L.getD i false) t all]at hn;omega
   rw[show fuel+1+more=(fuel+more)+1 by omega];refine⟨fun hnone=>?_,fun i hi=>?_⟩
   ·exfalso;obtain⟨i,hi⟩:=unl
    revert hi
    induction i using Nat.strongRecOn with
    | _ i ihi =>
      rintro⟨hi,hl⟩
      by_cases q:∃e∈dZ ops i,L.getD e false=false
      ·obtain⟨e,h1,h2⟩:=q;have:=hE.back i (by omega) e h1;exact ihi e this ⟨by omega,h2⟩
      ·have hmem:i∈Region.ready .any ops L:=by
        have hsi:i<ops.size:=by omega
        refine mem_ready.2 ⟨?_,ops[i],UP hsi,fun e he hb=>?_⟩
        ·have hlt:i<L.size:=by omega
         simp[hlt]at hl ⊢;exact hl
        ·cases z:L.getD e.on false with
         | true=>rfl
         | false =>
           exact absurd ⟨e.on,by unfold dZ;rw[UP hsi];simp only[aaT,abc];exact⟨e,⟨by simpa using he,hb⟩,rfl⟩,z⟩ q
       rw[hnone]at hmem;cases hmem
   ·obtain⟨h0,o,ho,hall⟩:=mem_ready.1 hi;have his:i<ops.size:=(AS.1 ho).1;have hit:i<t:=by
     rcases uP i t with q|q
     ·exact q
     ·obtain⟨j,j1,j2⟩:=unl;rw[vj hd hg q hi j j1]at j2;cases j2
    have hl0:L.getD i false=false:=by
     have:i<L.size:=by omega
     simp[this]at h0 ⊢;exact h0
    have hset:∀j,(L.setIfInBounds i true).getD j false=(L.getD j false||j == i):=by
     intro j
     by_cases q:j=i
     ·subst q;have:j<L.size:=by omega
      simp[this]
     ·rw[getD_set_ne false (Ne.symm q)];have:(j == i)=false:=by simpa using q
      rw[this,Bool.or_false]
    have hlt':∀j,t≤j→(L.setIfInBounds i true).getD j false=false:=fun j hj=>by
     rw[hset,hlt j hj];simp;omega
    have hn':ma (fun _=>true) (fun j=>(L.setIfInBounds i true).getD j false) t+fuel=t:=by
     rw[Ek (l1:=fun j=>L.getD j false) hl0 hset t];simp only[hit,and_self,if_true];omega
    have hdst:eN ops i=o.dst:=by unfold eN;rw[ho];rfl
    -- slots that are looked at,or written,by this one
    have at':∀u,(u∈o.looksAt ops∨o.dst=some u)→bB (fQ ops n V fr0 (fun j=>L.getD j false) ops.size) u=bB (fQ ops n V fr0 (fun _=>true) i) u:=by
     intro u hu;have hst:bB (fQ ops n V fr0 (fun j=>L.getD j false) ops.size) u=bB (fQ ops n V fr0 (fun j=>L.getD j false) i) u:=by
      refine ve _ (by omega) fun j h1 h2 h3=>?_
      by_cases q:j=i
      ·subst q;exact hl0
      ·obtain⟨oj,hoj⟩:∃oj,ops[j]?=some oj:=⟨ops[j],UP h2⟩;have ha:an j i=true:=by
        rcases hu with hu|hu
        ·exact hE.apart j i h2 (by omega) oj o hoj ho ⟨u,.inr ⟨h3,hu⟩⟩
        ·exact hE.apart j i h2 (by omega) oj o hoj ho ⟨u,.inl ⟨by rw[hdst];exact hu,.inr h3⟩⟩
       cases z:L.getD j false with
       | false=>rfl
       | true=>have:=hE.Da hd h2 z ha;rw[hl0]at this;cases this
     rw[hst];refine pV _ fun j hj hdj=>?_;obtain⟨oj,hoj⟩:∃oj,ops[j]?=some oj:=⟨ops[j],UP (by omega)⟩;refine hE.Fm hd his hi (hE.apart i j his hj o oj ho hoj ?_);rcases hu with hu|hu
     ·exact⟨u,.inl ⟨hdj,.inl hu⟩⟩
     ·exact⟨u,.inl ⟨hdj,.inr (by rw[hdst];exact hu)⟩⟩
    have later:∀u,o.dst=some u→∀(l:Nat→Bool),(∀j,i<j→l j=true→L.getD j false=true)→bB (fQ ops n V fr0 l ops.size) u=bB (fQ ops n V fr0 l (i+1)) u:=by
     intro u hu l hl;refine ve _ (by omega) fun j h1 h2 h3=>?_;cases z:l j with
     | false=>rfl
     | true =>
       obtain⟨oj,hoj⟩:∃oj,ops[j]?=some oj:=⟨ops[j],UP h2⟩;have ha:=hE.apart j i h2 (by omega) oj o hoj ho ⟨u,.inl ⟨by rw[hdst];exact hu,.inr h3⟩⟩;have:=hE.Da hd h2 (hl j (by omega) z) ha;rw[hl0]at this;cases this
    have grown:∀u,bB (fQ ops n V fr0 (fun j=>(L.setIfInBounds i true).getD j false) ops.size) u=if o.dst=some u∧u<n then V i else bB (fQ ops n V fr0 (fun j=>L.getD j false) ops.size) u:=by
     intro u
     by_cases q:o.dst=some u
     ·rw[later u q _ fun j h1 h2=>by rw[hset]at h2;simpa[show j≠i by omega]using h2,fQ,hset,beq_self_eq_true,Bool.or_true];simp only;rw[hdst,q];have e2:bB (fQ ops n V fr0 (fun j=>(L.setIfInBounds i true).getD j false) i) u=bB (fQ ops n V fr0 (fun j=>L.getD j false) ops.size) u:=by
       rw[at' u (.inr q)];refine pV _ fun j hj hdj=>?_;rw[hset];obtain⟨oj,hoj⟩:∃oj,ops[j]?=some oj:=⟨ops[j],UP (by omega)⟩;rw[hE.Fm hd his hi (hE.apart i j his hj o oj ho hoj ⟨u,.inl ⟨hdj,.inr (by rw[hdst];exact q)⟩⟩)];simp
      unfold bO;simp only
      by_cases hu:u<n
      ·rw[if_pos hu,fL,if_pos rfl];simp[hu]
      ·rw[if_neg hu,e2];simp[hu]
     ·have:¬(o.dst=some u∧u<n):=fun z=>q z.1;rw[if_neg this];refine pV _ fun j hj hdj=>?_;rw[hset]
      by_cases e:j=i
      ·subst e;rw[hdst]at hdj;exact absurd hdj q
      ·have:(j == i)=false:=by simpa using e
       rw[this,Bool.or_false]
    have want:∀fr',gK ops o fr'=some true:=fun fr' => by unfold gK;rw[hF.ung i o hit ho]
    have slots:∀j∈σ,∀d,iu P ops j=some d→d∉o.looksAt ops∧(i≠j→o.dst≠some d):=by
     intro j hj d hd';obtain⟨l1,l2⟩:=(hσ j).1 hj;have hjt:j<t:=by
      rcases uP j t with z|z
      ·exact z
      ·rw[hlt j z]at l1;cases l1
     obtain⟨d',e1,_,_,e4⟩:=hF.al j hjt l2;rw[hd']at e1;cases e1;exact⟨(e4 i o hit ho).1,fun hne=>(e4 i o hit ho).2 hne⟩
    have ine:i∉σ:=fun q=>by rw[(hσ i).1 q |>.1]at hl0;cases hl0
    unfold wpOp;rw[ho];simp only;rw[if_pos (tJ hr (want fr))];left;cases hA:A.contains i with
    | true =>
      obtain⟨d,e1,e2,e3,e4⟩:=hF.al i hit hA;unfold iu at e1;obtain⟨⟨ty,z,d0⟩,e5,e6⟩:=aaS.1 e1;obtain rfl:d0=d:=e6;obtain⟨o',ho',k1,k2,k3,k4,k5⟩:=CD e5;rw[ho]at ho';cases ho';have hstep:bF P false (aE fr) (h++σ.map (fP P ops)) o.op fun v h' => v=.op (h.length+σ.length) 0∧h'=h++(σ++[i]).map (fP P ops):=by
       rw[k1];simp only[bF,k4];unfold aV;refine⟨k5,by simp, ?_⟩;simp[fP,e5]
      refine nM (fun a' w' k=>?_) (fun _ _ _ k=>k) (oE (st:=⟨n,fr,h++σ.map (fP P ops)⟩) hr hstep _);obtain⟨ι',S',v,h',hEv,hR,_,rfl,rfl⟩:=k;have hinv:D1 P ops h (bO n fr o.dst (.op (h.length+σ.length) 0)) (fQ ops n V fr0 (fun j=>(L.setIfInBounds i true).getD j false) ops.size) (σ++[i]):=by
       refine⟨fun u hu=>?_,fun k j dj hk hj=>?_⟩
       ·have hud:o.dst≠some u:=fun z=>hu i (by simp) (by rw[show iu P ops i=some d0 from e1,←k2,z]);rw[fN fun e he q=>hud (by rw[he,q]),hI.1 u fun j hj=>hu j (by simp[hj]),grown u,if_neg fun z=>hud z.1]
       ·rcases uP k σ.length with q|q
        ·rw[gO q]at hk;have hjm:=gE hk;rw[fN fun e he q' => (slots j hjm dj hj).2 (fun z=>ine (z▸hjm)) (by rw[he,q'])];exact hI.2 k j dj hk hj
        ·have:k=σ.length:=by
          have:=(eQ.1 hk).1;simp at this;omega
         subst this;simp at hk;subst hk;rw[show iu P ops i=some d0 from e1]at hj;cases hj;unfold bO;rw[k2];simp only;rw[if_pos e2,fL,if_pos rfl]
      have:=ih (L.setIfInBounds i true) base ι' S' a' w' _ (σ++[i]) (by simp[hsz]) (hd.set hi) hlt' hR hinv (by
       rw[List.nodup_append];refine⟨hN,by simp,fun x hx y hy=>?_⟩;simp at hy;subst hy;rintro rfl;exact ine hx) (fun j=>by
       rw[Is,hσ j,hset]
       by_cases e:j=i
       ·subst e;rw[hA];simp
       ·simp[e]) hn'
      exact dV (fun e a w z=>dz.trans (hEv.mono (by rw[hr.hp.len];simp;omega) (bY _)) z) _ _ _ _ this
    | false =>
      obtain⟨o',ho',hq⟩:=hF.quiet i hit hA;rw[ho]at ho';cases ho';have he:∀y∈o.op.operands,aE (fQ ops n V fr0 (fun _=>true) i) y=aE fr y:=by
       intro y hy;cases y with
       | tmp u =>
         have hu:u∈o.looksAt ops:=by
          unfold Oper.looksAt;refine List.mem_append_left _ ?_;simp only[abe];exact⟨.tmp u,by simpa using hy,rfl⟩
         simp only[aE];rw[hI.1 u fun j hj z=>(slots j hj u z).1 hu,at' u (.inl hu)]
       | _=>rfl
      refine nM (fun a' w' k=>?_) (fun _ _ _ k=>k) (oE (st:=⟨n,fr,h++σ.map (fP P ops)⟩) hr (oG he (hq _)) _);obtain⟨ι',S',v,h',hEv,hR,_,rfl,rfl⟩:=k;have hinv:D1 P ops h (bO n fr o.dst (V i)) (fQ ops n V fr0 (fun j=>(L.setIfInBounds i true).getD j false) ops.size) σ:=by
       refine⟨fun u hu=>?_,fun k j dj hk hj=>?_⟩
       ·rw[grown u]
        by_cases q:o.dst=some u
        ·unfold bO;rw[q];simp only
         by_cases z:u<n
         ·rw[if_pos z,fL,if_pos rfl,if_pos ⟨trivial,z⟩]
         ·rw[if_neg z,if_neg fun x=>z x.2,hI.1 u hu]
        ·rw[fN fun e he q' => q (by rw[he,q']),if_neg fun x=>q x.1,hI.1 u hu]
       ·have hjm:=gE hk;rw[fN fun e he q' => (slots j hjm dj hj).2 (fun z=>ine (z▸hjm)) (by rw[he,q'])];exact hI.2 k j dj hk hj
      have:=ih (L.setIfInBounds i true) base ι' S' a' w' _ σ (by simp[hsz]) (hd.set hi) hlt' hR hinv hN (fun j=>by
       rw[hσ j,hset]
       by_cases e:j=i
       ·subst e;rw[hA];simp
       ·simp[e]) hn'
      exact dV (fun e a w z=>dz.trans (hEv.mono (by rw[hr.hp.len];simp;omega) (bY _)) z) _ _ _ _ this
/-! ### Behind them -/
omit [Laid] in
theorem BU:∀(l m:List Nat),l.Nodup→(∀x∈l,x∈m)→l.length≤m.length
 | [],_,_,_=>aa2 _
 | x:: l,m,hn,hs=>by
   have hx:x∈m:=hs x (by simp);rw[List.nodup_cons]at hn;have:=BU l (m.erase x) hn.2 fun y hy=>(List.mem_erase_of_ne (fun q:y=x=>hn.1 (by rw[←q];exact hy))).2 (hs y (by simp[hy]));have e:=List.length_erase_of_mem hx;have:0<m.length:=List.length_pos_of_mem hx;simp only[aaP];omega
theorem E7{base:Nat}{S:aY}{w:World}{σ:List Nat}{B:Nat→Nat}(hN:σ.Nodup):∀(rest done:List Nat) (ι:List Ix),cK base ι S w (h++(σ.map fun i=>if i∈done then aK.dead else fP P ops i)++done.map (fP P ops))→rest.Nodup →
 (∀i∈rest,i∈σ∧i∉done∧∃x,fP P ops i=.ak x)→(∀k i,σ[k]?=some i→i∈rest→ι[h.length+k]?=some (.ak (B i))) →
 cK base (ι++rest.map fun i=>.ak (B i)) S w (h++(σ.map fun i=>if i∈done++rest then aK.dead else fP P ops i)++(done++rest).map (fP P ops))
 | [],done,ι,hh,_,_,_=>by simpa using hh
 | i:: rest,done,ι,hh,hR,hm,hB=>by
   obtain⟨him,hid,x,hx⟩:=hm i (by simp);obtain⟨k,hk⟩:=List.mem_iff_getElem?.1 him;have hkl:k<σ.length:=(eQ.1 hk).1;rw[List.nodup_cons]at hR;have e1:(h++(σ.map fun i=>if i∈done then aK.dead else fP P ops i)++done.map (fP P ops))[h.length+k]?=some (.ak x):=by
    rw[To,gT (by omega),gO (by simp;omega),iN,show h.length+k-h.length=k by omega,hk];simp[hid,hx]
   have hb:=hB k i hk (by simp);have hmv:=hh.move e1 hb;have e2:(h++(σ.map fun i=>if i∈done then aK.dead else fP P ops i)++done.map (fP P ops)).set (h.length+k) .dead++[.ak x]=h++(σ.map fun j=>if j∈done++[i] then aK.dead else fP P ops j)++(done++[i]).map (fP P ops):=by
    have e3:(σ.map fun i=>if i∈done then aK.dead else fP P ops i).set k .dead=σ.map fun j=>if j∈done++[i] then aK.dead else fP P ops j:=by
     refine List.ext_getElem? fun j=>?_
     by_cases q:k=j
     ·subst q;rw[iD (by simpa using hkl),iN,hk];simp
     ·rw[iF q,iN,iN];cases hj:σ[j]? with
      | none=>rfl
      | some y =>
        have hy:y≠i:=by
         rintro rfl;exact q ((List.getElem?_inj hkl hN).1 (hk.trans hj.symm))
        simp[hy]
    rw[To,IF _ _ (by omega),show h.length+k-h.length=k by omega,IN _ _ (by simp;omega),e3];simp[hx]
   rw[e2]at hmv;have:=E7 hN rest (done++[i]) (ι++[.ak (B i)]) hmv hR.2 (fun j hj=>by
    obtain⟨a1,a2,a3⟩:=hm j (by simp[hj]);refine⟨a1, ?_,a3⟩;simp only[Is,TO,not_or];exact⟨a2,fun z=>hR.1 (z▸hj)⟩) (fun k' j hk' hj=>by
    have:=hB k' j hk' (by simp[hj]);rw[gO (eQ.1 this).1];exact this)
   simpa[To]using this
def uR(P:Program)(ops:Array Oper)(n base:Nat):List Nat→Nat→Fr→Fr
 | [],_,fr=>fr
 | i:: l,k,fr=>uR P ops n base l (k+1) (bO n fr (iu P ops i) (.op (base+k) 0))
omit [Laid] in
theorem yL{n base u:Nat}:∀(l:List Nat) (k:Nat) (fr:Fr),(∀i∈l,iu P ops i≠some u)→bB (uR P ops n base l k fr) u=bB fr u
 | [],_,_,_=>rfl
 | i:: l,k,fr,hu=>by
   rw[uR,yL l (k+1) _ fun j hj=>hu j (by simp[hj])];exact fN fun e he q=>hu i (by simp) (by rw[he,q])
omit [Laid] in
theorem GK{n base u i:Nat}(hun:u<n):∀(l:List Nat) (k p:Nat) (fr:Fr),l[p]?=some i→iu P ops i=some u→(∀q j,l[q]?=some j→q≠p→iu P ops j≠some u)→bB (uR P ops n base l k fr) u=.op (base+(k+p)) 0
 | [],_,p,_,h1,_,_=>by simp at h1
 | j:: l,k,0,fr,h1,h2,h3=>by
   simp at h1;subst h1;rw[uR,yL l (k+1) _ fun y hy=>by
    obtain⟨q,hq⟩:=List.mem_iff_getElem?.1 hy;exact h3 (q+1) y (by simpa using hq) (by omega)]
   unfold bO;rw[h2];simp only;rw[if_pos hun,fL,if_pos rfl];rfl
 | j:: l,k,p+1,fr,h1,h2,h3=>by
   rw[uR,GK hun l (k+1) p _ (by simpa using h1) h2 fun q y hq hne=>h3 (q+1) y (by simpa using hq) (by omega)];rw[show k+1+p=k+(p+1) by omega]
def PR{base:Nat}{fr frV:Fr}(hr:bZ base ι S a w ⟨n,fr,h++σ.map (fP P ops)⟩)(hI:D1 P ops h fr frV σ)(hN:σ.Nodup)(hA:A.Nodup)(hs:∀i,i∈σ↔i∈A)
 (hd:∀i∈A,∃d,iu P ops i=some d∧d<n∧∀j∈A,j≠i→iu P ops j≠some d):∃ι',bS ι.length base ι S w ι' S w∧bZ base ι' S a w ⟨n,uR P ops n (h.length+A.length) A 0 frV,h++List.replicate A.length .dead++A.map (fP P ops)⟩:=by
 have hl:σ.length=A.length:=Nat.le_antisymm (BU _ _ hN fun x hx=>(hs x).1 hx) (BU _ _ hA fun x hx=>(hs x).2 hx);have hlen:ι.length=h.length+σ.length:=by have:=hr.hp.len;simpa using this
 let B:Nat→Nat:=fun i=>match ι[h.length+σ.idxOf i]? with|some (.ak b)=>b|_=>0
 have hB:∀k i,σ[k]?=some i→i∈A→ι[h.length+k]?=some (.ak (B i))∧∀d,iu P ops i=some d→a.tmps.getD d undef=.pointer (some ⟨B i,0,none⟩):=by
  intro k i hk hi;obtain⟨d,d1,d2,_⟩:=hd i hi;have hkl:=(eQ.1 hk).1;have e:=hI.2 k i d hk d1;have r:=hr.get d;rw[e,ar]at r;obtain⟨b,b1,b2⟩:=r;have hidx:σ.idxOf i=k:=by
   have h1:σ[σ.idxOf i]?=some i:=by
    have hm:=gE hk;rw[dO (List.idxOf_lt_length_of_mem hm)];simp
   exact ((List.getElem?_inj hkl hN).1 (hk.trans h1.symm)).symm
  have hBi:B i=b:=by
   show (match ι[h.length+σ.idxOf i]? with|some (.ak b)=>b|_=>0)=b;rw[hidx,b1]
  rw[hBi];exact⟨b1,fun d' hd' => by rw[d1]at hd';cases hd';exact b2⟩
 have hmv:=E7 (P:=P) (ops:=ops) (h:=h) (B:=B) hN A [] ι (by simpa using hr.hp) hA (fun i hi=>⟨(hs i).2 hi,by simp,by
  obtain⟨d,d1,_⟩:=hd i hi;unfold iu at d1;obtain⟨⟨t,z,d'⟩,e,_⟩:=aaS.1 d1;exact⟨⟨t,bh z,true⟩,by simp[fP,e]⟩⟩) (fun k i hk hi=>(hB k i hk hi).1)
 have e1:(σ.map fun i=>if i∈[]++A then aK.dead else fP P ops i)=List.replicate A.length .dead:=by
  rw[←hl,List.eq_replicate_iff];refine⟨by simp,fun y hy=>?_⟩;simp only[aaT]at hy;obtain⟨i,h1,rfl⟩:=hy;rw[if_pos (by simpa using (hs i).1 h1)]
 rw[e1,List.nil_append]at hmv;have hE:bS ι.length base ι S w (ι++A.map fun i=>.ak (B i)) S w:=bS.grow _;refine⟨_,hE,hr.df,hr.sz,fun u=>?_,hmv⟩;show ar _ S w (bB (uR P ops n (h.length+A.length) A 0 frV) u) _
 by_cases q:∃i∈A,iu P ops i=some u
 ·obtain⟨i,hi,hu⟩:=q;obtain⟨p,hp⟩:=List.mem_iff_getElem?.1 hi;obtain⟨d,d1,d2,d3⟩:=hd i hi;rw[hu]at d1;cases d1;have hpl:=(eQ.1 hp).1;rw[GK d2 A 0 p frV hp hu fun q j hq hne=>d3 j (gE hq) fun z=>hne ((List.getElem?_inj (eQ.1 hq).1 hA).1 (hq.trans (by rw[z,hp])))];obtain⟨k,hk⟩:=List.mem_iff_getElem?.1 ((hs i).2 hi);obtain⟨_,b2⟩:=hB k i hk hi;rw[ar];refine⟨B i, ?_,b2 u hu⟩;rw[gT (by omega),show h.length+A.length+(0+p)-ι.length=p by omega,iN,hp];rfl
 ·have hno:∀i∈A,iu P ops i≠some u:=fun i hi z=>q ⟨i,hi,z⟩;rw[yL A 0 frV hno,←hI.1 u fun i hi=>hno i ((hs i).1 hi)];exact ar.fW hE (bY _) _ _ (hr.fr u)
end
def G4(P:Program)(ops:Array Oper)(n t:Nat)(A:List Nat)(l:List (Nat×Bool))(r q:List dc):Bool:=
 P.follows .mixedOrders&&Ew ops (fun _=>false) (Js ops ops.size) ops.size&&qI ops t&&decide (t≤ops.size)&&(l.map (·.1) == List.range t)&&decide A.Nodup&&A.all (fun i=>decide (i<t)) &&
  (List.range t).all (fun i=>match ops[i]? with|some o=>o.guard.isNone|none=>false) &&
  A.all (fun i=>match iu P ops i with|some d=>decide (d<n)&&(List.range t).all (fun j=>match ops[j]? with|some oj=>!(oj.looksAt ops).contains d&&(j == i||oj.dst != some d)|none=>false)|none=>false) &&
  (match oo ops (r.map dc.ix).flatten (full ops t) with
  | some listed=>rX ops ops.size (q.map dc.ix).flatten.length (t+(r.map dc.ix).flatten.length) listed
  | none=>false)&&r.all (lS ops)&&q.all (lS ops)&&q.all (rP ops n)&&(q.map dc.ix).flatten == List.range' (t+(r.map dc.ix).flatten.length) (q.map dc.ix).flatten.length &&
  decide (t+(r.map dc.ix).flatten.length+(q.map dc.ix).flatten.length=ops.size)
def G5(P:Program)(ops:Array Oper)(t:Nat)(A:List Nat)(l:List (Nat×Bool))(r q:List dc)(Q:Exit→St→Prop)(st:St):Prop:=
 cF (G4 P ops st.n t A l r q) (BF P ops st.n st.h A l st.fr fun fr=>kZ P ops r ⟨st.n,uR P ops st.n (st.h.length+A.length) A 0 fr,st.h++List.replicate A.length .dead++A.map (fP P ops)⟩ fun st' => cF (Nat.beq st'.n st.n) (pK P ops st.n st'.h q st'.fr fun fr' => Q .normal ⟨st.n,fr',st'.h⟩))
def Gz{m id t:Nat}{ops:Array Oper}{Q:Exit→St→Prop}{st:St}(hm:m≤st.h.length)(hq:G5 P ops t A l r q Q st):AW P m (.region id ops true) Q st:=by
 intro base ι S a w _ hr;obtain⟨hok,hq⟩:=aX hq;simp only[G4,NO,beq_iff_eq,Of]at hok;obtain⟨⟨⟨⟨⟨⟨⟨⟨⟨⟨⟨⟨⟨⟨k1,k2⟩,k3⟩,kt⟩,k5⟩,k6⟩,k8⟩,kg⟩,ka⟩,k4⟩,k7⟩,q5⟩,q6⟩,q8⟩,k9⟩:=hok;split at k4
 ·rename_i listed' hch;obtain⟨hE,hr'⟩:=hr.drew;refine wp_region_any k1 (dV (fun e a w z=>dz.trans (hE.mono (by rw[hr.hp.len];exact hm) (bY _)) z) _ _ _ _ ?_);have none:∀i,(Array.replicate ops.size false).getD i false=false:=fun i=>by simp[Array.getD_eq_getD_getElem?,Array.getElem?_replicate];split<;>rfl
  have c0:∀k,ma (fun _=>true) (fun i=>(Array.replicate ops.size false).getD i false) k=0:=by
   intro k;induction k with
   | zero=>rfl
   | succ k ih=>rw[ma,none];exact ih
  have down0:Down ops (Array.replicate ops.size false):=fun i o ho hl=>by rw[none]at hl;cases hl
  have hl5:l.length=t:=by have:=congrArg List.length k5;simpa using this
  obtain⟨V,O,_,v2,v3⟩:=KE (P:=P) (ops:=ops) (n:=st.n) (h:=st.h) (A:=A) (fr0:=st.fr) l 0 (fun _=>.any) (fun _=>false) (by rw[k5,hl5,List.range_eq_range']) hq;rw[aa4,hl5]at v3;have atA:∀i∈A,i<t:=fun i hi=>by have:=At.1 k8 i hi;simpa using this
  have hF:JY P ops st.n st.h A V O st.fr t:=by
   refine⟨fun i o hi ho=>?_,fun i hi hA=>?_,fun i hi hA=>?_⟩
   ·have:=At.1 kg i (by simpa using hi);rw[ho]at this;simpa using this
   ·rcases v2 i (by omega) (by omega) with⟨z,_⟩|⟨_,z⟩
    ·rw[hA]at z;cases z
    ·exact z
   ·rcases v2 i (by omega) (by omega) with⟨_,z⟩|⟨z,_⟩
    ·have hm':i∈A:=by simpa using hA
     have:=At.1 ka i hm';split at this
     ·rename_i d hd;simp only[NO,Of]at this;refine⟨d,hd,this.1,z,fun j oj hj hoj=>?_⟩;have h2:=At.1 this.2 j (by simpa using hj);rw[hoj]at h2;simp only[NO,abm,abl,beq_iff_eq,bne_iff_ne,ne_eq]at h2;refine⟨fun z=>?_,fun hne=>h2.2.resolve_left hne⟩;have h3:=h2.1;rw[List.contains_eq_mem]at h3;simp[z]at h3
     ·cases this
    ·rw[hA]at z;cases z
  have hdA:∀i∈A,∃d,iu P ops i=some d∧d<st.n∧∀j∈A,j≠i→iu P ops j≠some d:=by
   intro i hi;obtain⟨d,d1,d2,_,d4⟩:=hF.al i (atA i hi) (by simpa using hi);refine⟨d,d1,d2,fun j hj hne z=>?_⟩;unfold iu at z;obtain⟨⟨t',z',d'⟩,e,e2⟩:=aaS.1 z;simp only at e2;subst e2;obtain⟨o,ho,_,hd,_⟩:=CD e;exact (d4 j o (atA j hj) ho).2 hne hd
  have key:=NN (P:=P) (ops:=ops) (n:=st.n) (h:=st.h) (A:=A) (V:=V) (O:=O) (fr0:=st.fr) (t:=t) (m:=m) (more:=(r.map dc.ix).flatten.length+(q.map dc.ix).flatten.length) (Q:=Q) (Ex k2) hF k3 kt hm (fun base ι S a w fr σ hr hI hN hσ=>?_) t (Array.replicate ops.size false) base ι S a { w with drawn:=w.drawn+1 } st.fr [] (by simp) down0 (fun i _=>none i) (by simpa using hr') ⟨fun u _=>?_,fun k i d hk=>by simp at hk⟩ (by simp) (fun i=>by rw[none];simp) (by rw[c0];omega)
  ·rwa [show t+((r.map dc.ix).flatten.length+(q.map dc.ix).flatten.length)=ops.size by omega]at key
  ·obtain⟨ι2,hE2,hr2⟩:=PR hr hI hN k6 (fun i=>by
    rw[hσ i];constructor
    ·rintro⟨_,z⟩;simpa using z
    ·intro z;exact⟨atA i z,by simpa using z⟩) hdA
   have hdn:Down ops (full ops t):=by
    intro i o ho hl e he hb;have hi:i<t:=by
     have:=(AS.1 ho).1;simpa[full,this]using hl
    have:=(Ex k2).back i (by omega) e.on (by unfold dZ;rw[ho];simp only[aaT,abc];exact⟨e,⟨by simpa using he,hb⟩,rfl⟩);have hs:e.on<ops.size:=by omega
    simp[full,hs];omega
   have down2:=tQ _ _ _ hdn hch;have hm2:m≤(st.h++List.replicate A.length aK.dead++A.map (fP P ops)).length:=by simp;omega
   have hs:=oD (m:=m) (Q:=Q) r base ι2 S a w _ k7 hm2 hr2 v3;have up:∀{e a' w'},dz m base ι2 S w Q e a' w'→dz m base ι S w Q e a' w':=fun z=>dz.trans (hE2.mono (by rw[hr.hp.len];simp;omega) (bY _)) z;refine dV (fun e a w z=>up z) _ _ _ _ ?_;refine uU (fun e a w hne z=>?_) (fun a w z=>?_) _ _ _ _ hch hs
   ·obtain⟨ι',S',st',z1,z2,z3,z4⟩:=z;refine⟨ι',S',st',z1,z2,z3, ?_⟩;cases e<;>first|exact absurd rfl hne|exact z4
   ·obtain⟨ι',S',st',z1,z2,z3,z4⟩:=z;obtain⟨n',fr',h'⟩:=st';obtain⟨en,z4⟩:=aX z4;have en:n'=st.n:=lE en;subst en;have:=xd (m:=m) (more:=0) (Q:=Q) EG q5 q6 q8 (by omega) down2 k4 z2 (fun fr base ι S a w hr hfr=>⟨ti,ι,S,⟨st.n,fr,h'⟩,bS.refl _ _ _ _ _,z2,hr,hfr⟩) z3 z4;exact dV (fun e a w z=>dz.trans z1 z) _ _ _ _ this
  ·have f0:∀k,fQ ops st.n V st.fr (fun i=>(Array.replicate ops.size false).getD i false) k=st.fr:=by
    intro k;induction k with
    | zero=>rfl
    | succ k ih=>rw[fQ,none];exact ih
   rw[f0]
 ·cases k4
def fB(B:Nat→Prop)(h h':aa):Prop:=∀(id:Nat) (b:jJ),B id→h[id]?=some (.ak b)→h'[id]?=some (.ak b)
omit [Laid] in
def fB.refl{B:Nat→Prop}(h:aa):fB B h h:=fun _ _ _ e=>e
omit [Laid] in
def fB.trans{B:Nat→Prop}(x:fB B a b)(y:fB B b c):fB B a c:=fun id k hb e=>y id k hb (x id k hb e)
omit [Laid] in
def fB.ext{B:Nat→Prop}(h e:aa):fB B h (h++e):=fun id b _ q=>by
 rw[gO (eQ.1 q).1];exact q
omit [Laid] in
def fB.tok{B:Nat→Prop}{id:Nat}{t sz n:Nat}(q:h[id]?=some (.tok t sz n)):fB B h (h.set id x):=fun j b _ e=>by
 rw[iF (fun z=>by subst z;rw[q]at e;cases e)];exact e
omit [Laid] in
def fB.kill{B:Nat→Prop}{id:Nat}(q:¬B id):fB B h (h.set id x++e):=fun j b hb z=>by
 rw[gO (by simpa using (eQ.1 z).1),iF (fun y=>by subst y;exact q hb)];exact z
omit [Laid] in
def fB.Wa{B:Nat→Prop}{id:Nat}(q:¬B id):fB B h (h.set id x):=fun j b hb z=>by
 rw[iF (fun y=>by subst y;exact q hb)];exact z
section
variable (P:Program) (ops:Array Oper) (n:Nat) (Lo Fe Ee Ge:Nat→Bool) (B:Nat→Prop)
def qL(i:Nat)(K:Fr→aa→Prop)(fr:Fr)(h:aa):Prop:=
 match ops[i]? with
 | none=>False
 | some o=>o.guard=none∧∃own K0,bF P own (aE fr) h o.op K0∧∀v h',K0 v h'→(Ge i=true→fB B h h')∧K (bO n fr o.dst v) h'
def tL(Z:Fr→aa→Prop):Nat→Array Bool→Fr→aa→Prop
 | 0,listed,fr,h=>listed=full ops ops.size∧Z fr h
 | fuel+1,listed,fr,h=>Region.ready .any ops listed≠[]∧∀i∈Region.ready .any ops listed,
   (Lo i=true∧qL P ops n Ge B i (fun fr' h' => tL Z fuel (listed.setIfInBounds i true) fr' h') fr h) ∨
   (Lo i=false∧qA P ops n h i (fun fr' => tL Z fuel (listed.setIfInBounds i true) fr' h) fr)
def ko(Z:Fr→aa→Prop):List Nat→Fr→aa→Prop
 | [],fr,h=>Z fr h
 | i:: r,fr,h=>match ops[i]? with
   | none=>False
   | some o=>(Lo i=true∧o.guard=none∧∃own K0,bF P own (aE fr) h o.op K0∧∀v h',K0 v h'→(Ge i=true→fB B h h')∧ko Z r (bO n fr o.dst v) h') ∨
     (Lo i=false∧∃x,YA P ops h o x fr∧(Fe i=true→∀h',YA P ops h' o x fr)∧(Ee i=true→∀h',fB B h h'→YA P ops h' o x fr)∧ko Z r (bO n fr o.dst x) h)
end
section
variable {P:Program} {ops:Array Oper} {n:Nat} {Lo Fe Ee Ge:Nat→Bool} {B:Nat→Prop}
def HY{K K':Fr→aa→Prop}{fr:Fr}(hk:∀fr h,K fr h→K' fr h)(q:qL P ops n Ge B i K fr h):qL P ops n Ge B i K' fr h:=by
 unfold qL at *;split
 ·rename_i e;rw[e]at q;exact q
 ·rename_i o e;rw[e]at q;obtain⟨g,own,K0,q,k⟩:=q;exact⟨g,own,K0,q,fun v h' z=>⟨(k v h' z).1,hk _ _ (k v h' z).2⟩⟩
theorem UE{oi oj:Oper}{K:Fr→aa→Prop}{fr:Fr}(hj:ops[j]?=some oj)(hap:oi.apart ops oj=true)(hy:∀h',YA P ops h' oi x fr)(q:qL P ops n Ge B j K (bO n fr oi.dst x) h):
 qL P ops n Ge B j (fun fr' h' => (∀h2,YA P ops h2 oi x fr')∧K (bO n fr' oi.dst x) h') fr h:=by
 obtain⟨h1,h2,h3⟩:=Oper.apart_spec hap;unfold qL at *;simp only[hj]at *;obtain⟨g,own,K0,q,k⟩:=q;refine⟨g,own,K0,oG (ev:=aE (bO n fr oi.dst x)) (fun y hy=>?_) q,fun v h' z=>⟨(k v h' z).1,fun h2=>(hy h2).put h3, ?_⟩⟩
 ·cases y with
  | tmp t =>
    have:bB (bO n fr oi.dst x) t=bB fr t:=fN fun e he q=>h1 e he (by
     unfold Oper.looksAt;refine List.mem_append_left _ ?_;simp only[abe];exact⟨.tmp t,by simpa using hy,by rw[q]⟩)
    simp[aE,this]
  | _=>rfl
 ·have k:=(k v h' z).2;rw[vM (fun t ht=>h2 t ht)]at k;exact k
def AB:Op→Bool
 | .alloc _|.box _ _|.buildSlice _ _ _=>true
 | _=>false
def vV{own:Bool}{ev:Operand→AV}{op:Op}{K:AV→aa→Prop}(he:AB op=true)(q:bF P own ev h op K):bF P own ev h op fun v h' => (∃e,h'=h++e)∧K v h':=by
 cases op<;>simp only[AB,aaX]at he<;>simp only[bF]at q ⊢
 case alloc t =>
  split at q
  ·unfold aV at *;exact⟨q.1,⟨_,rfl⟩,q.2⟩
  ·exact q.elim
 case box t x =>
  unfold aV at *;exact⟨q.1,⟨_,rfl⟩,q.2⟩
 case buildSlice t k ps =>
  split at q
  ·rename_i e he;split at q
   ·obtain⟨hr,q⟩:=aX q;rw[hr];simp only[cF];cases own with
    | true =>
      simp only at q ⊢;unfold bt at *;split at q
      ·exact⟨⟨[],by simp⟩,q⟩
      ·exact q.elim
    | false =>
      simp only at q ⊢;unfold qM at *;split at q
      ·split at q
       ·exact⟨⟨[],by simp⟩,q⟩
       ·exact⟨⟨_,rfl⟩,q⟩
      ·exact q.elim
   ·exact q.elim
  ·exact q.elim
theorem Q9{oi oj:Oper}{K:Fr→aa→Prop}{fr:Fr}(hj:ops[j]?=some oj)(hex:Ge j=true)(hap:oi.apart ops oj=true)(hy:∀h',fB B h h'→YA P ops h' oi x fr)(q:qL P ops n Ge B j K (bO n fr oi.dst x) h):
 qL P ops n Ge B j (fun fr' h' => (∀h2,fB B h' h2→YA P ops h2 oi x fr')∧K (bO n fr' oi.dst x) h') fr h:=by
 obtain⟨h1,h2,h3⟩:=Oper.apart_spec hap;unfold qL at *;simp only[hj]at *;obtain⟨g,own,K0,q,k⟩:=q;refine⟨g,own,K0,oG (ev:=aE (bO n fr oi.dst x)) (fun y hy=>?_) q,fun v h' z=>⟨(k v h' z).1,fun h4 hl=>?_, ?_⟩⟩
 ·cases y with
  | tmp t =>
    have:bB (bO n fr oi.dst x) t=bB fr t:=fN fun e he q=>h1 e he (by
     unfold Oper.looksAt;refine List.mem_append_left _ ?_;simp only[abe];exact⟨.tmp t,by simpa using hy,by rw[q]⟩)
    simp[aE,this]
  | _=>rfl
 ·exact (hy h4 (((k v h' z).1 hex).trans hl)).put h3
 ·have k:=(k v h' z).2;rw[vM (fun t ht=>h2 t ht)]at k;exact k
def zA(ops:Array Oper)(Lo Ge:Nat→Bool)(listed:Array Bool)(i:Nat):Bool:=
 (List.range ops.size).all fun j=>!Lo j||listed.getD j true||(Kj ops ops.size (dZ ops j)).contains i||Ge j
def zB(ops:Array Oper)(Lo:Nat→Bool)(listed:Array Bool)(i:Nat):Bool:=
 (List.range ops.size).all fun j=>!Lo j||listed.getD j true||(Kj ops ops.size (dZ ops j)).contains i
omit [Laid] in
def Q6{listed:Array Bool}(hp:zB ops Lo listed i=true)(hd:Down ops listed)(hi:listed.getD i true=false)(hj:j∈Region.ready .any ops listed)(hl:Lo j=true):False:=by
 obtain⟨h0,o,ho,hall⟩:=mem_ready.1 hj;have hlt:=(AS.1 ho).1;have:=At.1 hp j (by simpa using hlt);simp only[hl,Bool.not_true,Bool.false_or,h0,List.contains_iff_mem]at this;refine pw hi (qE hd ops.size _ (fun k hk=>?_) i this);unfold dZ at hk;rw[ho]at hk;simp only[aaT,abc]at hk;obtain⟨e,⟨he,hb⟩,rfl⟩:=hk;exact hall e (by simpa using he) hb
omit [Laid] in
def Q5{listed:Array Bool}{oj:Oper}(hp:zA ops Lo Ge listed i=true)(hd:Down ops listed)(hi:listed.getD i true=false)(hj:j∈Region.ready .any ops listed)(hoj:ops[j]?=some oj)(hl:Lo j=true):Ge j=true:=by
 obtain⟨h0,o,ho,hall⟩:=mem_ready.1 hj;have hlt:=(AS.1 ho).1;have:=At.1 hp j (by simpa using hlt);simp only[hl,Bool.not_true,Bool.false_or,h0,hoj,abl,List.contains_iff_mem]at this;rcases this with this|this
 ·refine (pw hi (qE hd ops.size _ (fun k hk=>?_) i this)).elim;unfold dZ at hk;rw[ho]at hk;simp only[aaT,abc]at hk;obtain⟨e,⟨he,hb⟩,rfl⟩:=hk;exact hall e (by simpa using he) hb
 ·exact this
theorem Ab{Z:Fr→aa→Prop}{oi:Oper}{x:AV}(hi:ops[i]?=some oi)(hLi:Lo i=false):∀(fuel:Nat) (listed:Array Bool) (fr:Fr) (h:aa),Down ops listed →
 (∀j oj,ops[j]?=some oj→j≠i→j<ops.size→listed.getD j true=false→(∀e∈oj.after,Region.binds .any e=true→e.on≠i)→oi.apart ops oj=true) →
 i∈Region.ready .any ops listed→YA P ops h oi x fr→((∀h',YA P ops h' oi x fr)∨zB ops Lo listed i=true∨((∀h',fB B h h'→YA P ops h' oi x fr)∧zA ops Lo Ge listed i=true))→tL P ops n Lo Ge B Z fuel (listed.setIfInBounds i true) (bO n fr oi.dst x) h→tL P ops n Lo Ge B Z (fuel+1) listed fr h:=by
 have own:∀{K:Fr→Prop} {fr:Fr} {h:aa},YA P ops h oi x fr→K (bO n fr oi.dst x)→qA P ops n h i K fr:=fun hy hk=>by unfold qA;simp only[hi];exact⟨x,hy,hk⟩
 intro fuel;induction fuel with
 | zero =>
   intro listed fr h hd hfree hr hy hp H;refine⟨fun q=>(by rw[q]at hr;cases hr),fun j hj=>?_⟩;have hj0:=(mem_ready.1 hj).1
   by_cases hji:j=i
   ·subst hji;exact .inr ⟨hLi,own hy H⟩
   ·exfalso;have e:=congrArg (fun a=>a.getD j true) H.1;simp only[getD_set_ne true (Ne.symm hji)]at e;rw[hj0]at e;obtain⟨_,oj,hoj,_⟩:=mem_ready.1 hj;have hlt:=(AS.1 hoj).1;simp[full,hlt]at e
 | succ fuel ih =>
   intro listed fr h hd hfree hr hy hp H;refine⟨fun q=>(by rw[q]at hr;cases hr),fun j hj=>?_⟩
   by_cases hji:j=i
   ·subst hji;exact .inr ⟨hLi,own hy H⟩
   ·have h1:=H.2 j (ready_mono hj hji);obtain⟨hjun,oj,hoj,hall⟩:=mem_ready.1 hj;have hjlt:=(AS.1 hoj).1;have hnot:∀e∈oj.after,Region.binds .any e=true→e.on≠i:=fun e he hb heq=>by
     have h1:=hall e he hb;rw[heq]at h1;exact pw (mem_ready.1 hr).1 h1
    have hap:=hfree j oj hoj hji hjlt hjun hnot;have hfree':∀k ok,ops[k]?=some ok→k≠i→k<ops.size→(listed.setIfInBounds j true).getD k true=false →
     (∀e∈ok.after,Region.binds .any e=true→e.on≠i)→oi.apart ops ok=true:=fun k ok hk hki hkT hun hno=>by
     refine hfree k ok hk hki hkT ?_ hno
     by_cases hjk:j=k
     ·subst hjk;exact hjun
     ·rw[getD_set_ne true hjk]at hun;exact hun
    have hpinE:zA ops Lo Ge listed i=true→zA ops Lo Ge (listed.setIfInBounds j true) i=true:=fun hp=>by
     unfold zA at *;refine At.2 fun k hk=>?_;have:=At.1 hp k hk;simp only[abl]at this ⊢;refine this.imp (fun q=>q.imp (fun q=>q.imp id fun q=>?_) id) id
     by_cases hjk:j=k
     ·subst hjk;simp[hjlt,Array.getD_eq_getD_getElem?,Array.getElem?_setIfInBounds];split<;>simp_all
     ·rw[getD_set_ne true hjk];exact q
    have hpin:zB ops Lo listed i=true→zB ops Lo (listed.setIfInBounds j true) i=true:=fun hp=>by
     unfold zB at *;refine At.2 fun k hk=>?_;have:=At.1 hp k hk;simp only[abl]at this ⊢;refine this.imp (fun q=>q.imp id fun q=>?_) id
     by_cases hjk:j=k
     ·subst hjk;simp[hjlt,Array.getD_eq_getD_getElem?,Array.getElem?_setIfInBounds];split<;>simp_all
     ·rw[getD_set_ne true hjk];exact q
    rcases h1 with⟨hLj,h1⟩|⟨hLj,h1⟩
    ·rcases hp with hp|hp|⟨hp,hpe⟩
     ·left;have h2:=UE hoj hap hp h1;refine⟨hLj,HY (fun fr' h' h3=>ih (listed.setIfInBounds j true) fr' h' (hd.set hj) hfree' (ready_mono hr (Ne.symm hji)) (h3.1 h') (.inl h3.1) ?_) h2⟩;rw[Array.setIfInBounds_comm _ _ hji];exact h3.2
     ·exact (Q6 hp hd (mem_ready.1 hr).1 hj hLj).elim
     ·left;have h2:=Q9 hoj (Q5 hpe hd (mem_ready.1 hr).1 hj hoj hLj) hap hp h1;refine⟨hLj,HY (fun fr' h' h3=>ih (listed.setIfInBounds j true) fr' h' (hd.set hj) hfree' (ready_mono hr (Ne.symm hji)) (h3.1 h' (fB.refl _)) (.inr (.inr ⟨h3.1,hpinE hpe⟩)) ?_) h2⟩;rw[Array.setIfInBounds_comm _ _ hji];exact h3.2
    ·right;have h2:=LG hoj hap hy h1;rcases hp with hp|hp|⟨hp,hpe⟩
     ·have h4:qA P ops n h j (fun fr' => (∀h',YA P ops h' oi x fr')∧YA P ops h oi x fr'∧tL P ops n Lo Ge B Z fuel ((listed.setIfInBounds i true).setIfInBounds j true) (bO n fr' oi.dst x) h) fr:=by
       obtain⟨_,_,h5⟩:=Oper.apart_spec hap;unfold qA at h2 ⊢;simp only[hoj]at h2 ⊢;obtain⟨y,q1,q2⟩:=h2;exact⟨y,q1,fun h' => (hp h').put h5,q2⟩
      refine⟨hLj,x7 (fun fr' h3=>ih (listed.setIfInBounds j true) fr' h (hd.set hj) hfree' (ready_mono hr (Ne.symm hji)) h3.2.1 (.inl h3.1) ?_) h4⟩;rw[Array.setIfInBounds_comm _ _ hji];exact h3.2.2
     ·refine⟨hLj,x7 (fun fr' h3=>ih (listed.setIfInBounds j true) fr' h (hd.set hj) hfree' (ready_mono hr (Ne.symm hji)) h3.1 (.inr (.inl (hpin hp))) ?_) h2⟩;rw[Array.setIfInBounds_comm _ _ hji];exact h3.2
     ·have h4:qA P ops n h j (fun fr' => (∀h',fB B h h'→YA P ops h' oi x fr')∧YA P ops h oi x fr'∧tL P ops n Lo Ge B Z fuel ((listed.setIfInBounds i true).setIfInBounds j true) (bO n fr' oi.dst x) h) fr:=by
       obtain⟨_,_,h5⟩:=Oper.apart_spec hap;unfold qA at h2 ⊢;simp only[hoj]at h2 ⊢;obtain⟨y,q1,q2⟩:=h2;exact⟨y,q1,fun h' hl=>(hp h' hl).put h5,q2⟩
      refine⟨hLj,x7 (fun fr' h3=>ih (listed.setIfInBounds j true) fr' h (hd.set hj) hfree' (ready_mono hr (Ne.symm hji)) h3.2.1 (.inr (.inr ⟨h3.1,hpinE hpe⟩)) ?_) h4⟩;rw[Array.setIfInBounds_comm _ _ hji];exact h3.2.2
def Fp(ops:Array Oper)(Lo Fe Ee Ge:Nat→Bool):List Nat→Array Bool→Bool
 | [],listed=>listed == full ops ops.size
 | i:: r,listed=>(match Lo i with
   | true=>Region.ready .any ops listed == [i]
   | false=>(Region.ready .any ops listed).contains i&&AD ops listed ops.size i&&(Fe i||zB ops Lo listed i||Ee i&&zA ops Lo Ge listed i))&&Fp ops Lo Fe Ee Ge r (listed.setIfInBounds i true)
theorem rH{Z:Fr→aa→Prop}:∀(l:List Nat) (listed:Array Bool) (fr:Fr) (h:aa),Down ops listed→Fp ops Lo Fe Ee Ge l listed=true→ko P ops n Lo Fe Ee Ge B Z l fr h→tL P ops n Lo Ge B Z l.length listed fr h
 | [],listed,fr,h,_,hL,q=>by
   simp only[Fp,beq_iff_eq]at hL;exact⟨hL,q⟩
 | i:: l,listed,fr,h,hd,hL,q=>by
   simp only[ko]at q;cases ho:ops[i]? with
   | none=>rw[ho]at q;exact q.elim
   | some o =>
     rw[ho]at q;simp only at q;rcases q with⟨hl,hg,own,K0,q,k⟩|⟨hl,x,hy,hf,hee,q⟩
     ·simp only[Fp,hl,NO,beq_iff_eq]at hL;obtain⟨hr,hL⟩:=hL;have hm:i∈Region.ready .any ops listed:=by rw[hr];simp
      refine⟨by rw[hr];simp,fun j hj=>?_⟩;rw[hr]at hj;simp only[TO]at hj;subst hj;refine .inl ⟨hl, ?_⟩;unfold qL;simp only[ho];exact⟨hg,own,K0,q,fun v h' z=>⟨(k v h' z).1,rH l _ _ h' (hd.set hm) hL (k v h' z).2⟩⟩
     ·simp only[Fp,hl,NO,abl,or_assoc]at hL;obtain⟨⟨⟨hr,hfp⟩,hp⟩,hL⟩:=hL;have hm:i∈Region.ready .any ops listed:=by simpa using hr
      exact Ab ho hl l.length listed fr h hd (vg ho hfp) hm hy (hp.imp hf fun z=>z.imp id fun z=>⟨hee z.1,z.2⟩) (rH l _ _ h (hd.set hm) hL q)
def Fz{m i base:Nat}{fr:Fr}{K:Fr→aa→Prop}{K':Act→World→Prop}{Q':Exit→Act→World→Prop}(hm:m≤ι.length)(hr:bZ base ι S a w ⟨n,fr,h⟩)
 (hk:∀ι' S' a' w' fr' h',h.length≤h'.length→bS m base ι S w ι' S' w'→bZ base ι' S' a' w' ⟨n,fr',h'⟩→K fr' h'→K' a' w') (q:qL P ops n Ge B i K fr h):wpOp P ops Q' i K' a w:=by
 unfold qL at q;unfold wpOp;split
 ·rename_i e;rw[e]at q;exact q.elim
 ·rename_i o e;rw[e]at q;obtain⟨g,own,K0,hy,hK⟩:=q;have hw:gK ops o fr=some true:=by unfold gK;rw[g]
  rw[if_pos (tJ hr hw)];left;refine nM (fun a' w' k=>?_) (fun _ _ _ k=>k) (oE (st:=⟨n,fr,h⟩) hr hy Q');obtain⟨ι',S',v,h',hE,hR,hl,k⟩:=k;exact hk ι' S' a' w' _ h' hl (hE.mono hm (bY _)) hR (hK _ _ k).2
theorem oh{m:Nat}{Z:Fr→aa→Prop}{Q':Exit→St→Prop}(hZ:∀fr h,Z fr h→Q' .normal ⟨n,fr,h⟩):∀(fuel:Nat) (listed:Array Bool) (base:Nat) (ι:List Ix) (S:aY) (a:Act) (w:World) (fr:Fr) (h:aa),
 m≤h.length→bZ base ι S a w ⟨n,fr,h⟩→tL P ops n Lo Ge B Z fuel listed fr h→wpAny P .any ops (dz m base ι S w Q') fuel listed a w
 | 0,listed,base,ι,S,a,w,fr,h,hm,hr,q=>by
   rw[q.1];exact⟨ti,ι,S,⟨n,fr,h⟩,bS.refl _ _ _ _ _,hm,hr,hZ fr h q.2⟩
 | fuel+1,listed,base,ι,S,a,w,fr,h,hm,hr,q=>by
   have hm':m≤ι.length:=by rw[hr.hp.len];exact hm
   refine⟨fun e=>absurd e q.1,fun i hi=>?_⟩;rcases q.2 i hi with⟨_,k⟩|⟨_,k⟩
   ·refine Fz (m:=m) hm' hr (fun ι' S' a' w' fr' h' hl hE hr' k=>?_) k;have:=oh (m:=m) (Q':=Q') hZ fuel (listed.setIfInBounds i true) base ι' S' a' w' fr' h' (by omega) hr' k;exact dV (fun e a w z=>dz.trans hE z) _ _ _ _ this
   ·refine zC (m:=m) hm' hr (fun ι' S' a' w' fr' hE hr' k=>?_) k;have:=oh (m:=m) (Q':=Q') hZ fuel (listed.setIfInBounds i true) base ι' S' a' w' fr' h hm hr' k;exact dV (fun e a w z=>dz.trans hE z) _ _ _ _ this
end
/-! ### The condition on abstract values -/
def E8(x:AV):Bool:=match x with|.own _ _ _ _=>false|_=>true
def Jm(ev:Operand→AV)(op:Op):Bool:=match op with
 | .call c=>(match c.callee,c.args.toList with|.builtin .append,[x,_]=>E8 (ev x)|_,_=>false)
 | _=>false
def EX(P:Program)(ev:Operand→AV)(h:aa)(op:Op)(K:AV→Prop):Prop:=match op with
 | .load t x=>cF (fU P t) (ah (fA P t) (P.cellsOf t) (ev x) h K)
 | _=>False
omit [Laid] in
def N2{B:Nat→Prop}{sz:Nat}{K:AV→Prop}(hx:∀id o,x=.op id o→B id)(hl:fB B h h')(q:ah g sz x h K):ah g sz x h' K:=by
 cases x<;>simp only[ah]at q⊢<;> first|exact q|skip
 rename_i id o;cases e:h[id]? with
 | none=>rw[e]at q;exact q.elim
 | some en =>
   rw[e]at q;cases en with
   | ak b=>rw[hl id b (hx _ _ rfl) e];exact q
   | tok=>exact q.elim
   | dead=>exact q.elim
   | mp=>exact q.elim
   | it=>exact q.elim
def vq{B:Nat→Prop}{own:Bool}{ev:Operand→AV}{op:Op}{K:AV→Prop}(hB:∀t x id o,op=.load t x→ev x=.op id o→B id)(q:EX P ev h op K):∃x,(∀h',fB B h h'→bF P own ev h' op fun v h2=>v=x∧h2=h')∧K x:=by
 unfold EX at q;split at q
 ·obtain⟨ht,q⟩:=aX q;obtain⟨x,q1,q2⟩:=yQ _ _ _ _ K q;refine⟨x,fun h' hl=>?_,q2⟩;simp only[bF,ht,cF];have:=N2 (fun id o e=>hB _ _ id o rfl e) hl q1;simpa using this
 ·exact q.elim
omit [Laid] in
def wK{B:Nat→Prop}{own:Bool}{e sz bytes:Nat}{src:Option (List (List AV))}{K:AV→aa→Prop}(hx:∀id o l s,x=.own id o l s→¬B id)(q:eI own e sz bytes x src h K):eI own e sz bytes x src h fun v h' => fB B h h'∧K v h':=by
 unfold eI at *;cases src with
 | none=>exact q
 | some rows =>
   simp only at q ⊢;refine⟨q.1, ?_⟩;have q:=q.2;cases hn:w9 x<;>rw[hn]at q<;>simp only at q⊢<;> first|exact q.elim|skip
   case emp =>
    cases own with
    | false=>exact⟨q.1,fB.ext _ _,q.2⟩
    | true=>exact⟨q.1,q.2.1,fB.ext _ _,q.2.2⟩
   case sb id sz' base =>
    cases e2:h[id]? with
    | none=>rw[e2]at q;exact q.elim
    | some en =>
      rw[e2]at q;cases en with
      | tok=>exact⟨q.1,q.2.1,fB.tok e2,q.2.2⟩
      | ak=>exact q.elim
      | dead=>exact q.elim
      | mp=>exact q.elim
      | it=>exact q.elim
   case own id o l s =>
    have hb:¬B id:=by
     unfold w9 at hn;split at hn
     ·cases hn
     ·exact hx _ _ _ _ hn
    cases e2:h[id]? with
    | none=>rw[e2]at q;exact q.elim
    | some en =>
      rw[e2]at q;cases en with
      | ak=>exact⟨q.1,q.2.1,q.2.2.1,fB.kill hb,q.2.2.2⟩
      | tok=>exact q.elim
      | dead=>exact q.elim
      | mp=>exact q.elim
      | it=>exact q.elim
omit [Laid] in
def QR{B:Nat→Prop}(h:E8 x=true):∀id o l s,x=.own id o l s→¬B id:=fun id o l s e=>by subst e;simp[E8]at h
def GN{B:Nat→Prop}{own:Bool}{ev:Operand→AV}{op:Op}{K:AV→aa→Prop}(hg:Jm ev op=true)(q:bF P own ev h op K):bF P own ev h op fun v h' => fB B h h'∧K v h':=by
 unfold Jm at hg;split at hg
 ·rename_i c;split at hg
  ·rename_i x y hc ha;simp only[bF,hc]at q ⊢;split at q
   ·rename_i t tx x' y' hat hxy;rw[ha]at hxy;simp only[List.cons.injEq,and_true]at hxy;obtain⟨rfl,rfl⟩:=hxy;cases h1:P.underlying t with
    | none=>rw[h1]at q;exact q.elim
    | some d =>
      cases h2:P.underlying tx with
      | none=>rw[h1,h2]at q;cases d<;>exact q.elim
      | some d2 =>
        rw[h1,h2]at q;cases d<;>cases d2<;>simp only at q⊢<;> first|exact q.elim|(obtain⟨hr,q⟩:=aX q;rw[hr];exact wK (QR hg) q)
   ·exact q.elim
  ·cases hg
 ·cases hg
def rK(P:Program)(ops:Array Oper)(n:Nat):List (Nat×Nat×Bool)→Fr→aa→(Fr→aa→Prop)→Prop
 | [],fr,h,K=>K fr h
 | (i,k,own):: r,fr,h,K=>match ops[i]? with
  | none=>False
  | some o=>(match k with
    | 0=>He P own (aE fr) [] o.op fun v=>rK P ops n r (bO n fr o.dst v) h K
    | 1=>Eu P own (aE fr) h o.op fun v=>rK P ops n r (bO n fr o.dst v) h K
    | 3=>EX P (aE fr) h o.op fun v=>rK P ops n r (bO n fr o.dst v) h K
    | 4=>cF (Jm (aE fr) o.op) (bF P own (aE fr) h o.op fun v h' => rK P ops n r (bO n fr o.dst v) h' K)
    | _=>bF P own (aE fr) h o.op fun v h' => rK P ops n r (bO n fr o.dst v) h' K)
def jF:List (Nat×Nat×Bool)→Nat→Nat
 | [],_=>2
 | (i,k,_):: r,j=>match Nat.beq i j with|true=>k|false=>jF r j
def kP(l:List (Nat×Nat×Bool))(j:Nat):Bool:=match jF l j with|0=>false|1=>false|3=>false|_=>true
def tc(l:List (Nat×Nat×Bool))(j:Nat):Bool:=match jF l j with|0=>true|_=>false
def sZ(l:List (Nat×Nat×Bool))(j:Nat):Bool:=match jF l j with|3=>true|_=>false
def tp(ops:Array Oper)(l:List (Nat×Nat×Bool))(j:Nat):Bool:=match jF l j with|4=>true|2=>(match ops[j]? with|some o=>AB o.op|none=>false)|_=>false
def xD(P:Program)(ops:Array Oper)(l:List (Nat×Nat×Bool)):Bool:=
 P.follows .mixedOrders&&ops.all (fun o=>o.guard.isNone)&&decide (l.length=ops.size)&&l.all (fun p=>Nat.beq (jF l p.1) p.2.1)&&Fp ops (kP l) (tc l) (sZ l) (tp ops l) (l.map (·.1)) (Array.replicate ops.size false)
def G6(P:Program)(ops:Array Oper)(l:List (Nat×Nat×Bool))(Q:Exit→St→Prop)(st:St):Prop:=
 cF (xD P ops l) (rK P ops st.n l st.fr st.h fun fr h=>Q .normal ⟨st.n,fr,h⟩)
theorem nJ{ops:Array Oper}{K:Fr→aa→Prop}(hg:∀(i:Nat) (o:Oper),ops[i]?=some o→o.guard=none):∀(l:List (Nat×Nat×Bool)) (fr:Fr) (h:aa),(∀p∈l,jF L p.1=p.2.1)→rK P ops n l fr h K→ko P ops n (kP L) (tc L) (sZ L) (tp ops L) (fun _=>True) K (l.map (·.1)) fr h
 | [],fr,h,_,q=>q
 | (i,k,own):: l,fr,h,hk,q=>by
  have hk0:jF L i=k:=hk (i,k,own) (by simp);have hk':∀p∈l,jF L p.1=p.2.1:=fun p hp=>hk p (by simp[hp]);simp only[rK]at q;simp only[GO,ko];cases ho:ops[i]? with
  | none=>rw[ho]at q;exact q.elim
  | some o =>
    rw[ho]at q;simp only at q ⊢;have hw:∀fr,gK ops o fr=some true:=fun fr=>by unfold gK;rw[hg i o ho]
    split at q
    ·obtain⟨x,q1,q2⟩:=uj q;refine .inr ⟨by simp[kP,hk0],x,.inl ⟨hw fr,own,by simpa using q1 h⟩,fun _ h' => .inl ⟨hw fr,own,by simpa using q1 h'⟩,fun z=>by simp[sZ,hk0]at z,nJ hg l _ h hk' q2⟩
    ·obtain⟨x,q1,q2⟩:=rh q;refine .inr ⟨by simp[kP,hk0],x,.inl ⟨hw fr,own,q1⟩,fun z=>by simp[tc,hk0]at z,fun z=>by simp[sZ,hk0]at z,nJ hg l _ h hk' q2⟩
    ·obtain⟨x,q1,q2⟩:=vq (B:=fun _=>True) (own:=own) (fun _ _ _ _ _ _=>trivial) q;refine .inr ⟨by simp[kP,hk0],x,.inl ⟨hw fr,own,q1 h (fB.refl _)⟩,fun z=>by simp[tc,hk0]at z,fun _ h' hl=>.inl ⟨hw fr,own,q1 h' hl⟩,nJ hg l _ h hk' q2⟩
    ·obtain⟨hgr,q⟩:=aX q;exact .inl ⟨by simp[kP,hk0],hg i o ho,own,_,GN hgr q,fun v h' k=>⟨fun _=>k.1,nJ hg l _ h' hk' k.2⟩⟩
    ·rename_i h0 h1 h3 h4;have hlo:kP L i=true:=by
      unfold kP;rw[hk0];split
      ·exact absurd rfl h0
      ·exact absurd rfl h1
      ·exact absurd rfl h3
      ·rfl
     cases hex:AB o.op with
     | true=>exact .inl ⟨hlo,hg i o ho,own,_,vV hex q,fun v h' k=>⟨fun _=>by obtain⟨⟨e,rfl⟩,_⟩:=k;exact fB.ext _ _,nJ hg l _ h' hk' k.2⟩⟩
     | false =>
       have hge:tp ops L i=true→False:=fun z=>by
        unfold tp at z;rw[hk0]at z;split at z
        ·exact absurd rfl h4
        ·rw[ho]at z;simp[hex]at z
        ·exact absurd z (by simp)
       exact .inl ⟨hlo,hg i o ho,own,_,q,fun v h' k=>⟨fun z=>(hge z).elim,nJ hg l _ h' hk' k⟩⟩
def GA{m id:Nat}{ops:Array Oper}{Q:Exit→St→Prop}{st:St}(hm:m≤st.h.length)(hq:G6 P ops l Q st):AW P m (.region id ops true) Q st:=by
 intro base ι S a w _ hr;obtain⟨hok,hq⟩:=aX hq;simp only[xD,NO,Of]at hok;obtain⟨⟨⟨⟨k1,k2⟩,k3⟩,k4⟩,k5⟩:=hok;obtain⟨hE,hr'⟩:=hr.drew;refine wp_region_any k1 (dV (fun e a w z=>dz.trans (hE.mono (by rw[hr.hp.len];exact hm) (bY _)) z) _ _ _ _ ?_);have down0:Down ops (Array.replicate ops.size false):=fun i o ho hl=>by
  have hlt:=(AS.1 ho).1;simp[hlt]at hl
 have hg:∀(i:Nat) (o:Oper),ops[i]?=some o→o.guard=none:=fun i o ho=>by
  have:=Array.all_eq_true_iff_forall_mem.1 k2 o (Array.mem_of_getElem? ho);simpa using this
 have hk:∀p∈l,jF l p.1=p.2.1:=fun p hp=>lE (At.1 k4 p hp);have q2:=nJ hg l st.fr st.h hk hq;have q3:=rH _ _ _ _ down0 k5 q2;rw[aaQ,k3]at q3;obtain⟨n,fr,h⟩:=st;exact oh (m:=m) (Q':=Q) (fun fr h z=>z) ops.size _ base ι S a _ fr h hm hr' q3
def Fk.dep:Fk→Nat
 | .nil=>0
 | .one _ _ _ t=>t.dep+1
 | .two a _=>a.dep
def Fk.flat:Fk→List (Nat×Nat×Bool)
 | .nil=>[]
 | .one i k own t=>(i,k,own):: t.flat
 | .two a _=>a.flat
def Fk.kinds(f:Nat→Nat):Fk→Bool
 | .nil=>true
 | .one i k _ t=>Nat.beq (f i) k&&t.kinds f
 | .two a b=>a.kinds f&&b.kinds f
def Fk.head:Fk→Option Nat
 | .one i _ _ _=>some i
 | _=>none
section
variable (P:Program) (ops:Array Oper) (n:Nat) (Lo Fe Ee Ge:Nat→Bool) (B:Nat→Prop)
def pd:Fk→Array Bool→Bool
 | .nil,listed=>listed == full ops ops.size
 | .one i _ _ t,listed=>(match Lo i with
   | true=>Region.ready .any ops listed == [i]
   | false=>(Region.ready .any ops listed).contains i&&AD ops listed ops.size i&&(Fe i||zB ops Lo listed i||Ee i&&zA ops Lo Ge listed i))&&pd t (listed.setIfInBounds i true)
 | .two (.one i _ _ t) (.one j _ _ u),listed=>Lo i&&Lo j&&Region.ready .any ops listed == [i,j]&&Nat.beq t.dep u.dep&&pd t (listed.setIfInBounds i true)&&pd u (listed.setIfInBounds j true)
 | _,_=>false
def uM(Z:Fr→aa→Prop):Fk→Fr→aa→Prop
 | .nil,fr,h=>Z fr h
 | .one i _ _ r,fr,h=>match ops[i]? with
   | none=>False
   | some o=>(Lo i=true∧o.guard=none∧∃own K0,bF P own (aE fr) h o.op K0∧∀v h',K0 v h'→(Ge i=true→fB B h h')∧uM Z r (bO n fr o.dst v) h') ∨
     (Lo i=false∧∃x,YA P ops h o x fr∧(Fe i=true→∀h',YA P ops h' o x fr)∧(Ee i=true→∀h',fB B h h'→YA P ops h' o x fr)∧uM Z r (bO n fr o.dst x) h)
 | .two a b,fr,h=>uM Z a fr h∧uM Z b fr h
end
section
variable {P:Program} {ops:Array Oper} {n:Nat} {Lo Fe Ee Ge:Nat→Bool} {B:Nat→Prop}
theorem rI{Z:Fr→aa→Prop}:∀(l:Fk) (listed:Array Bool) (fr:Fr) (h:aa),Down ops listed→pd ops Lo Fe Ee Ge l listed=true→uM P ops n Lo Fe Ee Ge B Z l fr h→tL P ops n Lo Ge B Z l.dep listed fr h
 | .nil,listed,fr,h,_,hL,q=>by
   simp only[pd,beq_iff_eq]at hL;exact⟨hL,q⟩
 | .one i k0 own0 l,listed,fr,h,hd,hL,q=>by
   simp only[uM]at q;cases ho:ops[i]? with
   | none=>rw[ho]at q;exact q.elim
   | some o =>
     rw[ho]at q;simp only at q;rcases q with⟨hl,hg,own,K0,q,k⟩|⟨hl,x,hy,hf,hee,q⟩
     ·simp only[pd,hl,NO,beq_iff_eq]at hL;obtain⟨hr,hL⟩:=hL;have hm:i∈Region.ready .any ops listed:=by rw[hr];simp
      refine⟨by rw[hr];simp,fun j hj=>?_⟩;rw[hr]at hj;simp only[TO]at hj;subst hj;refine .inl ⟨hl, ?_⟩;unfold qL;simp only[ho];exact⟨hg,own,K0,q,fun v h' z=>⟨(k v h' z).1,rI l _ _ h' (hd.set hm) hL (k v h' z).2⟩⟩
     ·simp only[pd,hl,NO,abl,or_assoc]at hL;obtain⟨⟨⟨hr,hfp⟩,hp⟩,hL⟩:=hL;have hm:i∈Region.ready .any ops listed:=by simpa using hr
      exact Ab ho hl l.dep listed fr h hd (vg ho hfp) hm hy (hp.imp hf fun z=>z.imp id fun z=>⟨hee z.1,z.2⟩) (rI l _ _ h (hd.set hm) hL q)
 | .two (.one i k1 own1 t) (.one j k2 own2 u),listed,fr,h,hd,hL,q=>by
   simp only[pd,NO,beq_iff_eq]at hL;obtain⟨⟨⟨⟨⟨hi,hj⟩,hr⟩,hdp⟩,hL1⟩,hL2⟩:=hL;have hdp:t.dep=u.dep:=lE hdp;have mi:i∈Region.ready .any ops listed:=by rw[hr];simp
   have mj:j∈Region.ready .any ops listed:=by rw[hr];simp
   simp only[uM]at q;refine⟨by rw[hr];simp,fun p hp=>?_⟩;rw[hr]at hp;simp only[ID,List.not_mem_nil,or_false]at hp;rcases hp with rfl|rfl
   ·have q:=q.1;cases ho:ops[p]? with
    | none=>rw[ho]at q;exact q.elim
    | some o =>
      rw[ho]at q;simp only at q;rcases q with⟨hl,hg,own,K0,q,k⟩|⟨hl,_⟩
      ·refine .inl ⟨hl, ?_⟩;unfold qL;simp only[ho];exact⟨hg,own,K0,q,fun v h' z=>⟨(k v h' z).1,rI t _ _ h' (hd.set mi) hL1 (k v h' z).2⟩⟩
      ·rw[hi]at hl;cases hl
   ·have q:=q.2;cases ho:ops[p]? with
    | none=>rw[ho]at q;exact q.elim
    | some o =>
      rw[ho]at q;simp only at q;rcases q with⟨hl,hg,own,K0,q,k⟩|⟨hl,_⟩
      ·refine .inl ⟨hl, ?_⟩;unfold qL;simp only[ho];refine⟨hg,own,K0,q,fun v h' z=>⟨(k v h' z).1, ?_⟩⟩;have:=rI u _ _ h' (hd.set mj) hL2 (k v h' z).2;rw[←hdp]at this;exact this
      ·rw[hj]at hl;cases hl
 | .two .nil b,listed,fr,h,hd,hL,q=>by simp[pd]at hL
 | .two (.two _ _) b,listed,fr,h,hd,hL,q=>by simp[pd]at hL
 | .two (.one _ _ _ _) .nil,listed,fr,h,hd,hL,q=>by simp[pd]at hL
 | .two (.one _ _ _ _) (.two _ _),listed,fr,h,hd,hL,q=>by simp[pd]at hL
end
def mR(m:Nat)(x:AV):Bool:=match x with|.op id _=>Nat.ble (id+1) m|_=>true
def Pl(m:Nat)(x:AV):Bool:=match x with|.own id _ _ _=>Nat.ble m id|_=>true
def EK(m:Nat)(ev:Operand→AV)(op:Op):Bool:=match op with
 | .call c=>(match c.callee,c.args.toList with|.builtin .append,[x,_]=>Pl m (ev x)|_,_=>false)
 | _=>false
def Jp(P:Program)(m:Nat)(ev:Operand→AV)(h:aa)(op:Op)(K:AV→Prop):Prop:=match op with
 | .load t x=>cF (mR m (ev x)) (cF (fU P t) (ah (fA P t) (P.cellsOf t) (ev x) h K))
 | _=>False
def KW{own:Bool}{ev:Operand→AV}{op:Op}{K:AV→Prop}(q:Jp P m ev h op K):∃x,(∀h',fB (·<m) h h'→bF P own ev h' op fun v h2=>v=x∧h2=h')∧K x:=by
 unfold Jp at q;split at q
 ·rename_i t x;obtain⟨hb,q⟩:=aX q;refine vq (B:=(·<m)) (own:=own) (fun t' x' id o e1 e2=>?_) (op:=.load t x) (by unfold EX;exact q);cases e1;unfold mR at hb;rw[e2]at hb;exact lT hb
 ·exact q.elim
def MV{own:Bool}{ev:Operand→AV}{op:Op}{K:AV→aa→Prop}(hg:EK m ev op=true)(q:bF P own ev h op K):bF P own ev h op fun v h' => fB (·<m) h h'∧K v h':=by
 unfold EK at hg;split at hg
 ·rename_i c;split at hg
  ·rename_i x y hc ha;have hno:∀id o l s,ev x=.own id o l s→¬id<m:=fun id o l s e=>by
    unfold Pl at hg;rw[e]at hg;have:=lT hg;omega
   simp only[bF,hc]at q ⊢;split at q
   ·rename_i t tx x' y' hat hxy;rw[ha]at hxy;simp only[List.cons.injEq,and_true]at hxy;obtain⟨rfl,rfl⟩:=hxy;cases h1:P.underlying t with
    | none=>rw[h1]at q;exact q.elim
    | some d =>
      cases h2:P.underlying tx with
      | none=>rw[h1,h2]at q;cases d<;>exact q.elim
      | some d2 =>
        rw[h1,h2]at q;cases d<;>cases d2<;>simp only at q⊢<;> first|exact q.elim|(obtain⟨hr,q⟩:=aX q;rw[hr];exact wK hno q)
   ·exact q.elim
  ·cases hg
 ·cases hg
def yu(P:Program)(ops:Array Oper)(n m:Nat):Fk→Fr→aa→(Fr→aa→Prop)→Prop
 | .nil,fr,h,K=>K fr h
 | .one i k own r,fr,h,K=>match ops[i]? with
   | none=>False
   | some o=>(match k with
     | 0=>He P own (aE fr) [] o.op fun v=>yu P ops n m r (bO n fr o.dst v) h K
     | 1=>Eu P own (aE fr) h o.op fun v=>yu P ops n m r (bO n fr o.dst v) h K
     | 3=>Jp P m (aE fr) h o.op fun v=>yu P ops n m r (bO n fr o.dst v) h K
     | 4=>cF (EK m (aE fr) o.op) (bF P own (aE fr) h o.op fun v h' => yu P ops n m r (bO n fr o.dst v) h' K)
     | _=>bF P own (aE fr) h o.op fun v h' => yu P ops n m r (bO n fr o.dst v) h' K)
 | .two a b,fr,h,K=>yu P ops n m a fr h K∧yu P ops n m b fr h K
def Hc(P:Program)(ops:Array Oper)(t:Fk):Bool:=
 P.follows .mixedOrders&&ops.all (fun o=>o.guard.isNone)&&Nat.beq t.dep ops.size&&t.kinds (jF t.flat)&&pd ops (kP t.flat) (tc t.flat) (sZ t.flat) (tp ops t.flat) t (Array.replicate ops.size false)
def Hd(P:Program)(ops:Array Oper)(t:Fk)(Q:Exit→St→Prop)(st:St):Prop:=
 cF (Hc P ops t) (yu P ops st.n st.h.length t st.fr st.h fun fr h=>Q .normal ⟨st.n,fr,h⟩)
theorem mF{ops:Array Oper}{K:Fr→aa→Prop}(hg:∀(i:Nat) (o:Oper),ops[i]?=some o→o.guard=none):∀(l:Fk) (fr:Fr) (h:aa),l.kinds (jF L)=true→yu P ops n m l fr h K→uM P ops n (kP L) (tc L) (sZ L) (tp ops L) (·<m) K l fr h
 | .nil,fr,h,_,q=>q
 | .two a b,fr,h,hk,q=>by
   simp only[Fk.kinds,NO]at hk;exact⟨mF hg a fr h hk.1 q.1,mF hg b fr h hk.2 q.2⟩
 | .one i k own l,fr,h,hk,q=>by
   simp only[Fk.kinds,NO]at hk;have hk0:jF L i=k:=lE hk.1;have hk':=hk.2;simp only[yu]at q;simp only[uM];cases ho:ops[i]? with
   | none=>rw[ho]at q;exact q.elim
   | some o =>
     rw[ho]at q;simp only at q ⊢;have hw:∀fr,gK ops o fr=some true:=fun fr=>by unfold gK;rw[hg i o ho]
     split at q
     ·obtain⟨x,q1,q2⟩:=uj q;refine .inr ⟨by simp[kP,hk0],x,.inl ⟨hw fr,own,by simpa using q1 h⟩,fun _ h' => .inl ⟨hw fr,own,by simpa using q1 h'⟩,fun z=>by simp[sZ,hk0]at z,mF hg l _ h hk' q2⟩
     ·obtain⟨x,q1,q2⟩:=rh q;refine .inr ⟨by simp[kP,hk0],x,.inl ⟨hw fr,own,q1⟩,fun z=>by simp[tc,hk0]at z,fun z=>by simp[sZ,hk0]at z,mF hg l _ h hk' q2⟩
     ·obtain⟨x,q1,q2⟩:=KW (own:=own) q;refine .inr ⟨by simp[kP,hk0],x,.inl ⟨hw fr,own,q1 h (fB.refl _)⟩,fun z=>by simp[tc,hk0]at z,fun _ h' hl=>.inl ⟨hw fr,own,q1 h' hl⟩,mF hg l _ h hk' q2⟩
     ·obtain⟨hgr,q⟩:=aX q;exact .inl ⟨by simp[kP,hk0],hg i o ho,own,_,MV hgr q,fun v h' k=>⟨fun _=>k.1,mF hg l _ h' hk' k.2⟩⟩
     ·rename_i h0 h1 h3 h4;have hlo:kP L i=true:=by
       unfold kP;rw[hk0];split
       ·exact absurd rfl h0
       ·exact absurd rfl h1
       ·exact absurd rfl h3
       ·rfl
      cases hex:AB o.op with
      | true=>exact .inl ⟨hlo,hg i o ho,own,_,vV hex q,fun v h' k=>⟨fun _=>by obtain⟨⟨e,rfl⟩,_⟩:=k;exact fB.ext _ _,mF hg l _ h' hk' k.2⟩⟩
      | false =>
        have hge:tp ops L i=true→False:=fun z=>by
         unfold tp at z;rw[hk0]at z;split at z
         ·exact absurd rfl h4
         ·rw[ho]at z;simp[hex]at z
         ·exact absurd z (by simp)
        exact .inl ⟨hlo,hg i o ho,own,_,q,fun v h' k=>⟨fun z=>(hge z).elim,mF hg l _ h' hk' k⟩⟩
def GD{m id:Nat}{ops:Array Oper}{Q:Exit→St→Prop}{st:St}(hm:m≤st.h.length)(hq:Hd P ops l Q st):AW P m (.region id ops true) Q st:=by
 intro base ι S a w _ hr;obtain⟨hok,hq⟩:=aX hq;simp only[Hc,NO]at hok;obtain⟨⟨⟨⟨k1,k2⟩,k3⟩,k4⟩,k5⟩:=hok;have k3:=lE k3;obtain⟨hE,hr'⟩:=hr.drew;refine wp_region_any k1 (dV (fun e a w z=>dz.trans (hE.mono (by rw[hr.hp.len];exact hm) (bY _)) z) _ _ _ _ ?_);have down0:Down ops (Array.replicate ops.size false):=fun i o ho hl=>by
  have hlt:=(AS.1 ho).1;simp[hlt]at hl
 have hg:∀(i:Nat) (o:Oper),ops[i]?=some o→o.guard=none:=fun i o ho=>by
  have:=Array.all_eq_true_iff_forall_mem.1 k2 o (Array.mem_of_getElem? ho);simpa using this
 have q2:=mF hg l st.fr st.h k4 hq;have q3:=rI _ _ _ _ down0 k5 q2;rw[k3]at q3;obtain⟨n,fr,h⟩:=st;exact oh (m:=m) (Q':=Q) (fun fr h z=>z) ops.size _ base ι S a _ fr h hm hr' q3
def mS(P:Program):Code→An→(Exit→St→Prop)→St→Prop
 | .skip,_,Q,st=>Q .normal st
 | .ret,_,Q,st=>Q .ret st
 | .exit id,_,Q,st=>Q (.exit id) st
 | .label _,_,Q,st=>Q .normal st
 | .goto l,_,Q,st=>Q (.goto l) st
 | .seq a b,t,Q,st=>(match t with
   | .join cs ms _ _=>aG (fun J=>mS P a t.l (iL (fun st' => cF (Nat.beq st'.n st.n) (jmp cs ms st.fr st'.fr st'.h J)) Q) st) fun s h=>mS P b t.r Q ⟨st.n,join cs ms st.fr s,h⟩
   | _=>mS P a t.l (iL (fun st=>mS P b t.r Q st) Q) st)
 | .block id c,t,Q,st=>mS P c t.l (Af id Q) st
 | .cond c a b,t,Q,st=>(match c with
   | .tmp x=>af (bB st.fr x) (mS P a t.l Q ⟨st.n,eY st.fr x (.v (.bool true)),st.h⟩) (mS P b t.r Q ⟨st.n,eY st.fr x (.v (.bool false)),st.h⟩)
   | c=>af (aE st.fr c) (mS P a t.l Q st) (mS P b t.r Q st))
 | .region _ ops draw,t,Q,st=>(match draw with
   | false=>cF (LS ops (t.sg ops.size)) (kZ P ops (t.sg ops.size) st (Q .normal))
   | true=>(match t with
     | .draw k l r q=>KD P ops k l r q Q st
     | .Ji k A l r q=>G5 P ops k A l r q Q st
     | .jX l=>G6 P ops l Q st
     | .DB l=>Hd P ops l Q st
     | _=>False))
 | .loop c,t,Q,st=>(match t with
   | .loop cs ms a=>bN (ek st.fr ms) st.h fun next s h=>mS P c a (iL (fun st' => cF (Nat.beq st'.n st.n) (jmp cs ms st.fr st'.fr st'.h next)) Q) ⟨st.n,join cs ms st.fr s,h⟩
   | _=>False)
 | _,_,_,_=>False
def AW.DG{Q Q':Exit→St→Prop}{st:St}(h:AW P m c Q st)(hq:∀e st,m≤st.h.length→Q e st→Q' e st):AW P m c Q' st:=
 fun base ι S a w hm hr=>wp_mono (h base ι S a w hm hr) fun _ _ _ ⟨ι',S',st',h1,h2,h3,h4⟩=>⟨ι',S',st',h1,h2,h3,hq _ _ h2 h4⟩
theorem gf:∀(c:Code) (t:An) (Q:Exit→St→Prop) (st:St) (m:Nat),m≤st.h.length→mS P c t Q st→AW P m c Q st
 | .skip,t,Q,st,m,_,h=>GI h
 | .ret,t,Q,st,m,_,h=>JW h
 | .exit id,t,Q,st,m,_,h=>GF h
 | .label l,t,Q,st,m,_,h=>DY h
 | .goto l,t,Q,st,m,_,h=>GG h
 | .seq a b,t,Q,st,m,hm,h=>by
   simp only[mS]at h;split at h
   ·rename_i cs ms a' b';refine zQ (AW.DG (gf a _ _ st m hm h) fun e st' hm' k=>?_);cases e with
    | normal =>
      obtain⟨hn,q⟩:=aX k;obtain⟨e1,k⟩:=rj q;have hn:st'.n=st.n:=lE hn;intro base ι S ac w _ hr;exact gf b _ Q ⟨st.n,join cs ms st.fr (ek st'.fr ms),st'.h⟩ m hm' k base ι S ac w hm' ⟨hr.df,by rw[←hn];exact hr.sz,hr.fr.join e1,hr.hp⟩
    | _=>exact k
   ·refine zQ (AW.DG (gf a _ _ st m hm h) fun e st' hm' k=>?_);cases e with
    | normal=>exact gf b _ Q _ m hm' k
    | _=>exact k
 | .block id c,t,Q,st,m,hm,h=>DW (gf c t.l _ st m hm h)
 | .cond c a b,t,Q,st,m,hm,h=>by
   intro base ι S ac w hm' hr;simp only[mS]at h;have other:∀{x:AV},ar ι S w x (ac.eval c)→af x (mS P a t.l Q st) (mS P b t.r Q st)→(Code.cond c a b).wp P (dz m base ι S w Q) ac w:=by
    rintro x rx ⟨b',rfl,h1,h2⟩;rw[cz]at rx;cases b' with
    | true=>exact wp_cond_true rx (gf a t.l Q st m hm (h1 rfl) base ι S ac w hm hr)
    | false=>exact wp_cond_false rx (gf b t.r Q st m hm (h2 rfl) base ι S ac w hm hr)
   split at h
   ·rename_i x;have rv:=hr.get x;obtain⟨b',e,h1,h2⟩:=h;rw[e]at rv;have he:ac.eval (.tmp x)=.bool b':=by rw[cz]at rv;exact rv
    cases b' with
    | true=>exact wp_cond_true he (gf a t.l Q ⟨st.n,eY st.fr x (.v (.bool true)),st.h⟩ m hm (h1 rfl) base ι S ac w hm ⟨hr.df,hr.sz,dH.Dd hr.fr rv,hr.hp⟩)
    | false=>exact wp_cond_false he (gf b t.r Q ⟨st.n,eY st.fr x (.v (.bool false)),st.h⟩ m hm (h2 rfl) base ι S ac w hm ⟨hr.df,hr.sz,dH.Dd hr.fr rv,hr.hp⟩)
   ·exact other (hr.eval _) h
 | .region id ops draw,t,Q,st,m,hm,h=>by
   cases draw with
   | false =>
     obtain⟨hok,h⟩:=aX h;simp only[LS,NO,beq_iff_eq]at hok;intro base ι S a w _ hr;have:=oD (m:=m) (Q:=Q) _ base ι S a w st hok.1 hm hr h;rw[hok.2,JL]at this;exact wp_region this
   | true =>
     simp only[mS]at h;split at h
     ·exact JF hm h
     ·exact Gz hm h
     ·exact GA hm h
     ·exact GD hm h
     ·exact h.elim
 | .loop c,t,Q,st,m,hm,h=>by
   simp only[mS]at h;split at h
   ·rename_i cs ms a;exact DX (cs:=cs) (ms:=ms) hm _ (fun next s h' hl k=>gf c a _ _ st.h.length hl k) h
   ·exact h.elim
 | .rangeFunc _ _ _ _,t,Q,st,m,hm,h=>h.elim
 | .scope _,t,Q,st,m,hm,h=>h.elim
 | .refuse _,t,Q,st,m,hm,h=>h.elim
def zD(P:Program)(st:St):List ResultVar→(List AV→Prop)→Prop
 | [],K=>K []
 | .tmp t:: r,K=>zD P st r fun l=>K (aE st.fr (.tmp t):: l)
 | .cell a t:: r,K=>cF (fU P t) (ah (fA P t) (P.cellsOf t) (aE st.fr (.tmp a)) st.h fun v=>zD P st r fun l=>K (v:: l))
def qo:List AV→AV
 | [x]=>x
 | l=>.ay l
def xA(P:Program)(rs:List ResultVar)(K:AV→aa→Prop):Exit→St→Prop
 | .normal,st=>zD P st rs fun l=>K (qo l) st.h
 | .ret,st=>zD P st rs fun l=>K (qo l) st.h
 | _,_=>False
def LL{base:Nat}{st:St}{K:AV→Prop}(hr:bZ base ι S a w st)(hk:fU P t=true)(h:ah (fA P t) (P.cellsOf t) (aE st.fr x) st.h K):
 ∃ad v u,a.eval x=.pointer (some ad)∧(loadVar t ad).run P w=.ok u w∧ar ι S w v u∧K v:=by
 have hx:=hr.eval x;unfold ah at h;split at h
 ·rename_i cs e;rw[e,ar]at hx;obtain⟨b,off,ev,r⟩:=hx;obtain⟨vs,rv,hc⟩:=r.sI;obtain⟨v,u,hrun,rv,k⟩:=oC (P:=P) hk rv hc h;exact⟨_,v,u,ev,hrun,rv,k⟩
 ·rename_i id off e;rw[e,ar]at hx;obtain⟨b,c1,ev⟩:=hx;split at h
  ·rename_i ak eb;obtain⟨b',arr,fz,k1,k2,k3,k4,k5,k6,k7,k8,k9⟩:=hr.hp.live id ak eb;rw[c1]at k1;cases k1;have hcells:aB ι S w ak.cells (arr.toList.take ak.cells.length):=by
    refine aB.mk (by simp;omega) fun i c v e1 e2=>?_;obtain⟨v',e3,r⟩:=k6 i c e1;rw[ON]at e2;split at e2
    ·simp only[Array.getElem?_toList]at e2;rw[e3]at e2;cases e2;exact r
    ·cases e2
   obtain⟨v,u,hrun,rv,k⟩:=oC (P:=P) (b:=b) (off:=off) hk (hcells.drop off) (by
    intro i v e1;rw[gb k3];rw[aaU,ON]at e1;split at e1
    ·simpa using e1
    ·cases e1) h
   exact⟨_,v,u,ev,hrun,rv,k⟩
  ·exact h.elim
 ·exact h.elim
def xe(a:Act):ResultVar→Sem Value
 | .tmp t=>pure (a.tmps.getD t undef)
 | .cell x t=>do loadVar t (←asAddr (a.tmps.getD x undef))
omit [Laid] in
def Bn(fn:Func)(a:Act):results fn a.tmps=(do
 let vs ←fn.results.mapM (xe a)
 pure (if h:vs.size=1 then vs[0] else .tuple vs)):=by
 unfold results
 congr 1
theorem pI{base:Nat}{st:St}(hr:bZ base ι S a w st):∀(rs:List ResultVar) (K:List AV→Prop),zD P st rs K →
 ∃l vs,(rs.mapM (m:=Sem) (xe a)).run P w=.ok vs w∧aB ι S w l vs∧K l
 | [],K,h=>⟨[],[],rfl,by simp,h⟩
 | .tmp t:: r,K,h=>by
   obtain⟨l,vs,e,rl,k⟩:=pI hr r _ h;refine⟨_,a.eval (.tmp t):: vs, ?_,by simpa using⟨hr.eval (.tmp t),rl⟩,k⟩;have e0:(xe a (.tmp t)).run P w=.ok (a.eval (.tmp t)) w:=rfl;simp only[List.mapM_cons,abi,abj,abh,e,e0]
 | .cell x t:: r,K,h=>by
   obtain⟨hk,h⟩:=aX h;obtain⟨ad,v,u,e1,e2,rv,h⟩:=LL (P:=P) hr hk h;obtain⟨l,vs,e,rl,k⟩:=pI hr r _ h;refine⟨v:: l,u:: vs, ?_,by simpa using⟨rv,rl⟩,k⟩;have e1':a.tmps.getD x undef=.pointer (some ad):=e1;have e0:(xe a (.cell x t)).run P w=.ok u w:=by simp only[xe,abi,e1',asAddr,abj,abh,e2]
   simp only[List.mapM_cons,abi,abj,abh,e0,e]
def om:List AV→Nat→Fr
 | [],_=>[]
 | a:: r,i=>(i,a):: om r (i+1)
omit [Laid] in
def GP{args:List AV}{vs:List Value}(h1:aB ι S w args vs)(k:Nat):dH ι S w (om args 0) (vs.toArray++Array.replicate k undef):=by
 have key:∀(as_:List AV) (us:List Value) (k:Nat),aB ι S w as_ us→∀t,bB (om as_ k) t=.any∨∃u,us[t-k]?=some u∧k≤t∧ar ι S w (bB (om as_ k) t) u:=by
  intro as_;induction as_ with
  | nil=>intro us k _ t;exact .inl rfl
  | cons a as_ ih =>
    intro us k h t;cases us with
    | nil=>simp at h
    | cons u us =>
      simp only[bP]at h;simp only[om,bB];split
      ·rename_i e;subst e;exact .inr ⟨u,by simp,bY _,h.1⟩
      ·rename_i e;rcases ih us (k+1) h.2 t with q|⟨v,q1,q2,q3⟩
       ·exact .inl q
       ·exact .inr ⟨v,by rw[show t-k=t-(k+1)+1 by omega];simpa using q1,by omega,q3⟩
 intro t;rcases key args vs 0 h1 t with q|⟨u,q1,_,q3⟩
 ·rw[q];simp
 ·have hlt:t<vs.length:=by
   have:=(eQ.1 q1).1;simpa using this
  have:(vs.toArray++Array.replicate k undef).getD t undef=u:=by
   rw[Array.getD_eq_getD_getElem?,Array.getElem?_append_left (by simpa using hlt)];simp only[Nat.sub_zero]at q1;simp[q1]
  rw[this];exact q3
def Bz(P:Program)(f:FuncId)(c:Code)(n:Nat)(rs:List ResultVar):Prop:=
 ∃fn,P.funcs[f]?=some fn∧fn.body=some c∧fn.results.toList=rs∧fn.ntmps=n∧dw P f=true
theorem Bz.bJ{rs:List ResultVar}(F:Bz P f c n rs)(t:An){args:List AV}{h:aa}{K:AV→aa→Prop}(hl:args.length≤n)
 (q:mS P c t (xA P rs fun r h' => ∃r' h'',Wk h.length [r] h' [r'] h''∧K r' h'') ⟨n,om args 0,h⟩):bW P f args h K:=by
 obtain⟨fn,hf,hb,hrs,hn,_⟩:=F;subst hrs;intro base ι S w vs h1 h2;have hlen:=h1.length;refine calls_of_wp hf hb (wp_mono (gf _ _ _ _ h.length (bY _) q base ι S _ w (bY _) ⟨rfl,by simp[hn];omega,GP h1 _,h2⟩) ?_);rintro e a' w' ⟨ι',S',st',hE,hm,hr,hq⟩;have fin:zD P st' fn.results.toList (fun l=>∃r' h'',Wk h.length [qo l] st'.h [r'] h''∧K r' h'')→a'.defers=[]∧∃v,(results fn a'.tmps).run P w'=.ok v w' ∧
  ∃u ι'' S'' r h',Ending.returned v=.returned u∧bS h.length base ι S w ι'' S'' w'∧ar ι'' S'' w' r u∧cK base ι'' S'' w' h'∧h.length≤h'.length∧K r h':=by
  intro hq;obtain⟨l,us,e1,rl,r',h'',⟨wk1,wk2,wk3⟩,k⟩:=pI (P:=P) hr fn.results.toList _ hq;have hv:ar ι' S' w' (qo l) (if hh:us.length=1 then us[0] else .tuple us.toArray):=by
   have hl:=rl.length
   match l,us,hl,rl with
   | [],[],_,_=>simp only[qo];rw[ar];exact⟨[],rfl,by simp⟩
   | [x],[u],_,rl=>simp at rl;simpa[qo]using rl
   | x:: y:: l,u:: v:: us,_,rl=>simp only[qo];rw[ar];exact⟨u:: v:: us,by simp,rl⟩
  obtain⟨ι2,S2,hE2,hs2,hp2⟩:=wk3 base ι' S' w' [_] ((bP _ _ _ _).2 ⟨hv,by simp⟩) hr.hp;refine⟨hr.df,if hh:us.length=1 then us[0] else .tuple us.toArray, ?_,_,ι2,S2,r',h'',rfl,hE.trans hE2,((bP _ _ _ _).1 hs2).1,hp2,wk1,k⟩;rw[Bn,←Array.toArray_toList (xs:=fn.results),List.mapM_toArray];simp only[abi,Sem.run_map,e1,abh,abj]
  by_cases hh:us.length=1<;>simp[hh]
 cases e with
 | normal=>exact fin hq
 | ret=>exact fin hq
 | _=>exact hq.elim
def tv{args:List AV}{K:AV→aa→Prop}(hb:dw P f=true)(c:bn P f args r)(k:K r h):bx P (.fn (.func f) [] []) args h K:=
 ⟨hb,by simpa using c.call k⟩
def uCon{args:List AV}{K:AV→aa→Prop}(c:bn P f args r)(k:K r h)(hb:dw P f=true:=by kernel_rfl):bx P (.fn (.func f) [] []) args h K:=tv hb c k
abbrev qBe(o:BinOp)(x:AV)(n:Int)(K:AV→Prop):Prop:=ag o x (i_ n) K
abbrev qLd(P:Program)(x:AV)(n:Nat)(h:aa)(K:AV→Prop):Prop:=ca P x fun a=>bg n a fun b=>ah false 1 b h K
abbrev qFd(P:Program)(x:AV)(n:Nat)(K:AV→Prop):Prop:=ca P x fun a=>bg n a K
abbrev qSt(P:Program)(x:AV)(n:Nat)(y:AV)(h:aa)(K:aa→Prop):Prop:=ca P x fun a=>bg n a fun b=>ao 1 b y h K
abbrev qJo(v:AV)(l:List AV)(g:aa)(b:(AV→aa→Prop)→Prop)(k:AV→aa→Prop):Prop:=aG (fun J=>aM v false (b fun x i=>l=l∧J [.v (.bool false),x] i) (l=l∧J [cd false v,.v undef] g)) fun s h=>bQ (nx s 0) (.v (.bool true)) (nx s 1) fun w=>k w h
abbrev qJa(v:AV)(l:List AV)(g:aa)(b:(AV→aa→Prop)→Prop)(k:AV→aa→Prop):Prop:=aG (fun J=>aM v true (b fun x i=>l=l∧J [.v (.bool true),x] i) (l=l∧J [cd true v,.v undef] g)) fun s h=>bQ (nx s 0) (nx s 1) (.v (.bool false)) fun w=>k w h
abbrev qKo(v:AV)(g:aa)(b:(AV→aa→Prop)→Prop)(k:AV→aa→Prop):Prop:=aG (fun J=>aM v false (b fun x i=>J [.v (.bool false),x] i) (J [cd false v,.v undef] g)) fun s h=>bQ (nx s 0) (.v (.bool true)) (nx s 1) fun w=>k w h
abbrev qKa(v:AV)(g:aa)(b:(AV→aa→Prop)→Prop)(k:AV→aa→Prop):Prop:=aG (fun J=>aM v true (b fun x i=>J [.v (.bool true),x] i) (J [cd true v,.v undef] g)) fun s h=>bQ (nx s 0) (nx s 1) (.v (.bool false)) fun w=>k w h
abbrev qNs:AV:=.v (.slice none 0 0)
@[simp] abbrev iFL(n:Nat)(b:Bool)(c:Nat)(x:AV)(g:aa)(K:AV→Prop):Prop:=bg n x fun a=>ah b c a g K
abbrev sn(a:An):An:=.seq .nil a
@[simp] abbrev eC(l:List AV)(p:Prop):Prop:=l=l∧p
abbrev iC(P:Program)(n:FuncId)(a:List AV)(h:aa)(K:AV→aa→Prop):Prop:=bx P (.fn (.func n) [] []) a h K
abbrev iQ(P:Program)(n:FuncId)(a:List AV)(h:aa)(K:AV→Prop):Prop:=wv P (.fn (.func n) [] []) a h K
def oR:Nat→Nat→List dc→List dc
 | _,0,r=>r
 | a,n+1,r=>.op a false::oR (a+1) n r
def fR:Nat→Nat→List (Nat×Bool)
 | _,0=>[]
 | a,n+1=>(a,false)::fR (a+1) n
def Body(P:Program)(f:FuncId)(args:List AV)(W:aa→(AV→aa→Prop)→Prop):Prop:=
 ∃c t n rs,Bz P f c n rs∧args.length≤n∧∀h K,mS P c t (xA P rs K) ⟨n,om args 0,h⟩=W h K
def bC{args:List AV}{W:aa→(AV→aa→Prop)→Prop}{fn:Func}(e:P.funcs[f]?=some fn)(t:An)(n:Nat)(rs:List ResultVar)(q:(fn.results.toList,fn.ntmps,dw P f,fn.body.isSome,Nat.ble args.length n)=(rs,n,true,true,true):=by kernel_rfl)(k:∀h K,mS P (fn.body.getD .skip) t (xA P rs K) ⟨n,om args 0,h⟩=W h K:=by intro _ _;kernel_rfl):Body P f args W:=by
 simp only[aaY]at q;refine⟨fn.body.getD .skip,t,n,rs,⟨fn,e,?_,q.1,q.2.1,q.2.2.1⟩,lT q.2.2.2.2,k⟩;cases hb:fn.body with
 | none=>rw[hb]at q;cases q.2.2.2.1
 | some c=>rfl
def Body.bJ{args:List AV}{W:aa→(AV→aa→Prop)→Prop}(b:Body P f args W){K:AV→aa→Prop}(q:W h fun r h' => ∃r' h'',Wk h.length [r] h' [r'] h''∧K r' h''):bW P f args h K:=
 let ⟨_,t,_,_,F,hl,e⟩:=b;F.bJ t hl ((e h _).symm▸q)
abbrev u8(n:Int):AV:=.v (.int .u8 n)
abbrev tt:AV:=.v (.bool true)
abbrev ff:AV:=.v (.bool false)
abbrev un:AV:=.v undef
end
section
open Go Go.RowKit
/-! ### Less is said -/
mutual
def Le:AV→AV→Prop
 | _,.any=>True
 | .agg xs,.agg ys=>jS xs ys
 | .ay xs,.ay ys=>jS xs ys
 | .emp,.sl _ rows=>rows=[]
 | .sb _ s r,.sl s' r' => s=s'∧r=r'
 | a,b=>a=b
def jS:List AV→List AV→Prop
 | [],[]=>True
 | a:: as_,b:: bs=>Le a b∧jS as_ bs
 | _,_=>False
end
def Le.refl(a:AV):Le a a:=
 AV.rec (motive_1:=fun a=>Le a a) (motive_2:=fun l=>jS l l) (motive_3:=fun _=>True)
  (fun _=>rfl) (fun _=>rfl) trivial (fun _ h=>h) (fun _ h=>h) rfl (fun _ _ _=>rfl) (fun _ _ _ _=>rfl) (fun _ _=>rfl) (fun _ _ _ _=>rfl) (fun _ _=>rfl) (fun _ _ _ _ _=>rfl) (fun _ _ _=>rfl) (fun _=>rfl)
  trivial (fun _ _ h k=>⟨h,k⟩) trivial (fun _ _ _ _=>trivial) a
def Le.inv(h:Le a b):b=.any∨a=b∨(∃xs ys,a=.agg xs∧b=.agg ys∧jS xs ys)∨(∃xs ys,a=.ay xs∧b=.ay ys∧jS xs ys)∨(a=.emp∧∃s,b=.sl s [])∨∃id s r,a=.sb id s r∧b=.sl s r:=by
 unfold Le at h;split at h
 ·exact .inl rfl
 ·exact .inr (.inr (.inl ⟨_,_,rfl,rfl,h⟩))
 ·exact .inr (.inr (.inr (.inl ⟨_,_,rfl,rfl,h⟩)))
 ·subst h;exact .inr (.inr (.inr (.inr (.inl ⟨rfl,_,rfl⟩))))
 ·obtain⟨rfl,rfl⟩:=h;exact .inr (.inr (.inr (.inr (.inr ⟨_,_,_,rfl,rfl⟩))))
 ·exact .inr (.inl h)
def ar.le(a b:AV)(y:Value)(h:Le a b)(r:ar ι S w a y):ar ι S w b y:=by
 have base:∀{a b:AV} {y:Value},(∀xs ys,a=.agg xs→b=.agg ys→jS xs ys→ar ι S w b y)→(∀xs ys,a=.ay xs→b=.ay ys→jS xs ys→ar ι S w b y)→Le a b→ar ι S w a y→ar ι S w b y:=by
  intro a b y h1 h2 h r;rcases h.inv with rfl|rfl|⟨xs,ys,e1,e2,k⟩|⟨xs,ys,e1,e2,k⟩|⟨rfl,s,rfl⟩|⟨id,s,rr,rfl,rfl⟩
  ·simp
  ·exact r
  ·exact h1 xs ys e1 e2 k
  ·exact h2 xs ys e1 e2 k
  ·rw[ar]at *;obtain⟨a,e⟩:=r;exact⟨a,0,e,bY _,aa2 _,.inl rfl⟩
  ·rw[ar]at *;exact r.1
 revert b y
 refine AV.rec (motive_1:=fun a=>∀b y,Le a b→ar ι S w a y→ar ι S w b y) (motive_2:=fun as_=>∀bs vs,jS as_ bs→aB ι S w as_ vs→aB ι S w bs vs) (motive_3:=fun _=>True) ?_ ?_ ?_ ?_ ?_ ?_ ?_ ?_ ?_ ?_ ?_ ?_ ?_ ?_ ?_ ?_ ?_ ?_ a
 case refine_4 =>
  intro cs ih b y h r;refine base (fun xs ys e1 e2 k=>?_) (fun _ _ e1=>by cases e1) h r;cases e1;subst e2;rw[ar]at *;obtain⟨vs,e,q⟩:=r;exact⟨vs,e,ih _ vs k q⟩
 case refine_5 =>
  intro cs ih b y h r;refine base (fun _ _ e1=>by cases e1) (fun xs ys e1 e2 k=>?_) h r;cases e1;subst e2;rw[ar]at *;obtain⟨vs,e,q⟩:=r;exact⟨vs,e,ih _ vs k q⟩
 case refine_15 =>
  intro bs vs h r;cases bs with
  | nil=>exact r
  | cons=>simp[jS]at h
 case refine_16 =>
  intro a as_ iha ihs bs vs h r;cases bs with
  | nil=>simp[jS]at h
  | cons b bs =>
    rw[jS]at h;cases vs with
    | nil=>simp at r
    | cons v vs =>
      simp only[bP]at r ⊢;exact⟨iha b v h.1 r.1,ihs bs vs h.2 r.2⟩
 case refine_17=>trivial
 case refine_18=>intros;trivial
 all_goals
  intros
  rename_i h r;exact base (fun _ _ e1=>by cases e1) (fun _ _ e1=>by cases e1) h r
theorem aB.le:∀(as_ bs:List AV) (vs:List Value),jS as_ bs→aB ι S w as_ vs→aB ι S w bs vs
 | [],[],vs,_,r=>r
 | [],_:: _,_,h,_=>by simp[jS]at h
 | _:: _,[],_,h,_=>by simp[jS]at h
 | a:: as_,b:: bs,[],_,r=>by simp at r
 | a:: as_,b:: bs,v:: vs,h,r=>by
   rw[jS]at h;simp only[bP]at r ⊢;exact⟨ar.le a b v h.1 r.1,aB.le as_ bs vs h.2 r.2⟩
variable [Laid]
/-! ### Told -/
section
variable (f:AV→AV) (L:Nat) (h:aa)
mutual
def eP:AV→AV
 | .v x=>.v x
 | .str l=>.str l
 | .any=>.any
 | .emp=>.emp
 | .agg cs=>.agg (nU cs)
 | .ay cs=>.ay (nU cs)
 | .ip cs=>.ip (nU cs)
 | .sl sz rows=>.sl sz (oQ rows)
 | .sb id sz rows=>if id<L then .sb id sz (oQ rows) else .sl sz (oQ rows)
 | .own id off len sz=>if id<L then .own id off len sz else match h[id]? with
   | some (.ak b)=>if off+len*sz≤b.cells.length then .sl sz ((chunks sz len (b.cells.drop off)).map (List.map f)) else .any
   | _=>.any
 | .op id off=>if id<L then .op id off else match h[id]? with
   | some (.ak b)=>.ip ((b.cells.drop off).map f)
   | _=>.any
 | .fn g xs ys=>.fn g (nU xs) (nU ys)
 | .ib t x=>.ib t (eP x)
 | .mp id=>if id<L then .mp id else .any
def nU:List AV→List AV
 | []=>[]
 | a:: as_=>eP a:: nU as_
def oQ:List (List AV)→List (List AV)
 | []=>[]
 | r:: rs=>nU r:: oQ rs
end
end
def tl(L:Nat)(h:aa):Nat→AV→AV
 | 0=>eP (fun _=>.any) L h
 | d+1=>eP (tl L h d) L h
def Dp(L:Nat)(h:aa):aK→aK
 | .ak b=>.ak { b with cells:=b.cells.map (tl L h 3) }
 | .mp c es=>.mp c (es.map fun p=>(p.1,tl L h 3 p.2.1,tl L h 3 p.2.2))
 | .it m s sn l=>if m<L then .it m s sn l else .dead
 | x=>x
def sx(L:Nat)(h:aa):aa:=(h.take L).map (Dp L h)
omit [Laid] in
theorem pt(f:AV→AV)(L:Nat)(h:aa):∀l,nU f L h l=l.map (eP f L h)
 | []=>rfl
 | a:: as_=>by rw[nU,pt f L h as_];rfl
omit [Laid] in
theorem Cq(f:AV→AV)(L:Nat)(h:aa):∀l,oQ f L h l=l.map (List.map (eP f L h))
 | []=>rfl
 | a:: as_=>by rw[oQ,Cq f L h as_,pt];rfl
def ia(L:Nat)(ι:List Ix)(S:aY)(h:aa):aY:=fun b o=>S b o∨∃id x,L≤id∧h[id]?=some (.ak x)∧ι[id]?=some (.ak b)∧o<x.cells.length
section
variable {base:Nat} {ι:List Ix} {S:aY} {w:World} {h:aa} {L:Nat}
def Ag(hh:cK base ι S w h){f:AV→AV}(hf:∀v y,ar ι S w v y→ar (ι.take L) (ia L ι S h) w (f v) y){id:Nat}(hid:L≤id)(e:h[id]?=some (.ak x))(hb:ι[id]?=some (.ak b))(off:Nat):
 bE (ι.take L) (ia L ι S h) w ((x.cells.drop off).map f) b off:=by
 obtain⟨b',arr,fz,h1,h2,h3,h4,h5,h6,h7,h8,h9⟩:=hh.live id x e;rw[hb]at h1;cases h1;refine bE.mk fun i c ec=>?_;simp only[iN,aaS,aaU]at ec;obtain⟨c0,ec0,rfl⟩:=ec;obtain⟨v,e1,r⟩:=h6 (off+i) c0 ec0;exact⟨v,by rw[gb h3];exact e1,.inr ⟨id,x,hid,e,hb,(eQ.1 ec0).1⟩,hf c0 v r⟩
mutual
theorem ar.eP(hh:cK base ι S w h){f:AV→AV}(hf:∀v y,ar ι S w v y→ar (ι.take L) (ia L ι S h) w (f v) y):∀(a:AV) (y:Value),ar ι S w a y→ar (ι.take L) (ia L ι S h) w (Aw.eP f L h a) y
 | .v x,y,k=>by simpa[Aw.eP]using k
 | .str x,y,k=>by simpa[Aw.eP]using k
 | .any,y,k=>by simp[Aw.eP]
 | .emp,y,k=>by simp only[Aw.eP];rw[ar]at *;exact k
 | .agg cs,y,k=>by simp only[Aw.eP];rw[ar]at *;obtain⟨vs,e,k⟩:=k;exact⟨vs,e,aB.eP hh hf cs vs k⟩
 | .ay cs,y,k=>by simp only[Aw.eP];rw[ar]at *;obtain⟨vs,e,k⟩:=k;exact⟨vs,e,aB.eP hh hf cs vs k⟩
 | .ip cs,y,k=>by simp only[Aw.eP];rw[ar]at *;obtain⟨b,off,e,k⟩:=k;exact⟨b,off,e,bE.eP hh hf cs b off k⟩
 | .sl sz rows,y,k=>by
   simp only[Aw.eP];rw[ar]at *;obtain⟨a,cap,e,h1,h2,h3⟩:=k;have hl:(oQ f L h rows).length=rows.length:=by rw[Cq,aaQ]
   refine⟨a,cap,by rw[hl];exact e,by rw[hl];exact h1,h2, ?_⟩;rcases h3 with rfl|⟨b,off,ea,hr⟩
   ·exact .inl rfl
   ·exact .inr ⟨b,off,ea,cn.eP hh hf sz rows b off hr⟩
 | .sb tid sz rows,y,k=>by
   simp only[Aw.eP];rw[ar]at k;obtain⟨⟨a,cap,e,h1,h2,h3⟩,m,v,t1,t2,t3⟩:=k;have hl:(oQ f L h rows).length=rows.length:=by rw[Cq,aaQ]
   have told:∃a cap,y=.slice a (oQ f L h rows).length cap∧(oQ f L h rows).length≤cap∧cap≤maxLen∧(oQ f L h rows=[]∨∃b off,a=some ⟨b,off,none⟩∧cn (ι.take L) (ia L ι S h) w sz (oQ f L h rows) b off):=by
    refine⟨a,cap,by rw[hl];exact e,by rw[hl];exact h1,h2, ?_⟩;rcases h3 with rfl|⟨b,off,ea,hr⟩
    ·exact .inl rfl
    ·exact .inr ⟨b,off,ea,cn.eP hh hf sz rows b off hr⟩
   split
   ·rename_i hlt;rw[ar];exact⟨told,m,v,by rw[ON,if_pos hlt];exact t1,by rw[hl];exact t2,by rw[hl];exact t3⟩
   ·rw[ar];exact told
 | .own tid off len sz,y,k=>by
   simp only[Aw.eP];split
   ·rename_i hlt;rw[ar]at *;obtain⟨b,a,cap,n,ty,h1,h2⟩:=k;exact⟨b,a,cap,n,ty,by rw[ON,if_pos hlt];exact h1,h2⟩
   ·rename_i hge;split
    ·rename_i x e;split
     ·rename_i hfit;rw[ar]at *;obtain⟨b,a,cap,n,ty,h1,h2,h3,h4,h5,_⟩:=k;obtain⟨f1,f2⟩:=jf sz len (x.cells.drop off) (by simp;omega);have hcl:=jV sz len (x.cells.drop off);refine⟨a,cap,by rw[aaQ,hcl];exact h2,by rw[aaQ,hcl];exact h3,h4, ?_⟩;rcases h5 with h5|h5
      ·left;have:len=0:=by omega
       subst this;simp[chunks]
      ·right;refine⟨b,off,h5,cn.of_flat (fun r hr=>?_) ?_⟩
       ·obtain⟨r0,hr0,rfl⟩:=aaT.1 hr;rw[aaQ];exact f2 r0 hr0
       ·rw[←List.map_flatten,f1];have:=Ag hh hf (Nat.le_of_not_lt hge) e h1 off;refine bE.mk fun i c ec=>this.get i c ?_;rw[iN,ON]at ec;rw[iN];split at ec
        ·exact ec
        ·cases ec
     ·simp
    ·simp
 | .op tid off,y,k=>by
   simp only[Aw.eP];split
   ·rename_i hlt;rw[ar]at *;obtain⟨b,h1,h2⟩:=k;exact⟨b,by rw[ON,if_pos hlt];exact h1,h2⟩
   ·rename_i hge;split
    ·rename_i x e;rw[ar]at *;obtain⟨b,h1,h2⟩:=k;exact⟨b,off,h2,Ag hh hf (Nat.le_of_not_lt hge) e h1 off⟩
    ·simp
 | .fn g xs ys,y,k=>by simp only[Aw.eP];rw[ar]at *;obtain⟨vs,us,e,k1,k2⟩:=k;exact⟨vs,us,e,aB.eP hh hf xs vs k1,aB.eP hh hf ys us k2⟩
 | .ib t x,y,k=>by simp only[Aw.eP];rw[ar]at *;obtain⟨v,e,k⟩:=k;exact⟨v,e,ar.eP hh hf x v k⟩
 | .mp tid,y,k=>by
   simp only[Aw.eP];split
   ·rename_i hlt;rw[ar]at *;obtain⟨b,h1,h2⟩:=k;exact⟨b,by rw[ON,if_pos hlt];exact h1,h2⟩
   ·simp
theorem aB.eP(hh:cK base ι S w h){f:AV→AV}(hf:∀v y,ar ι S w v y→ar (ι.take L) (ia L ι S h) w (f v) y):∀(as_:List AV) (vs:List Value),aB ι S w as_ vs→aB (ι.take L) (ia L ι S h) w (nU f L h as_) vs
 | [],vs,k=>by simpa[nU]using k
 | a:: as_,[],k=>by simp at k
 | a:: as_,v:: vs,k=>by
   rw[nU];simp only[bP]at k ⊢;exact⟨ar.eP hh hf a v k.1,aB.eP hh hf as_ vs k.2⟩
theorem bE.eP(hh:cK base ι S w h){f:AV→AV}(hf:∀v y,ar ι S w v y→ar (ι.take L) (ia L ι S h) w (f v) y):∀(cs:List AV) (b off:Nat),bE ι S w cs b off→bE (ι.take L) (ia L ι S h) w (nU f L h cs) b off
 | [],b,off,k=>by simp[nU,bE]
 | c:: cs,b,off,k=>by
   rw[nU];rw[bE]at *;obtain⟨⟨u,h1,h2,h3⟩,k2⟩:=k;exact⟨⟨u,h1,.inl h2,ar.eP hh hf c u h3⟩,bE.eP hh hf cs b (off+1) k2⟩
theorem cn.eP(hh:cK base ι S w h){f:AV→AV}(hf:∀v y,ar ι S w v y→ar (ι.take L) (ia L ι S h) w (f v) y)(sz:Nat):∀(rows:List (List AV)) (b off:Nat),cn ι S w sz rows b off→cn (ι.take L) (ia L ι S h) w sz (oQ f L h rows) b off
 | [],b,off,k=>by simp[oQ,cn]
 | r:: rs,b,off,k=>by
   rw[oQ];rw[cn]at *;exact⟨by rw[pt,aaQ];exact k.1,bE.eP hh hf r b off k.2.1,cn.eP hh hf sz rs b (off+sz) k.2.2⟩
end
theorem ar.tl(hh:cK base ι S w h):∀(d:Nat) (v:AV) (y:Value),ar ι S w v y→ar (ι.take L) (ia L ι S h) w (Aw.tl L h d v) y
 | 0,v,y,k=>ar.eP hh (fun _ _ _=>by simp) v y k
 | d+1,v,y,k=>ar.eP hh (ar.tl hh d) v y k
def cK.told(hh:cK base ι S w h)(hL:L≤h.length):bS L base ι S w (ι.take L) (ia L ι S h) w∧cK base (ι.take L) (ia L ι S h) w (sx L h):=by
 have pre:∀{i:Nat},i<L→(ι.take L)[i]?=ι[i]?:=fun q=>by rw[ON,if_pos q]
 have ent:∀{i:Nat} {x:aK},(sx L h)[i]?=some x→i<L∧∃y,h[i]?=some y∧x=Dp L h y:=by
  intro i x e;simp only[sx,iN,aaS,ON]at e;obtain⟨y,e1,rfl⟩:=e;split at e1
  ·rename_i q;exact⟨q,y,e1,rfl⟩
  ·cases e1
 have alv:∀{i:Nat},alive (sx L h)[i]?→i<L∧alive h[i]?:=by
  intro i ha;cases e:(sx L h)[i]? with
  | none=>rw[e]at ha;exact ha.elim
  | some x =>
    obtain⟨q,y,e1,rfl⟩:=ent e;refine⟨q, ?_⟩;rw[e]at ha;rw[e1];cases y<;>first|exact trivial|exact ha
 have newS:∀{b o:Nat},ia L ι S h b o→S b o∨(∃id,L≤id∧alive h[id]?∧AJ ι[id]? b):=by
  rintro b o (q|⟨id,x,h1,h2,h3,_⟩)
  ·exact .inl q
  ·exact .inr ⟨id,h1,by rw[h2];exact trivial,by rw[h3];rfl⟩
 have old:∀{i b o:Nat},i<L→alive h[i]?→AJ ι[i]? b→ia L ι S h b o→S b o:=by
  intro i b o hi ha hb hs;rcases newS hs with q|⟨id,h1,h2,h3⟩
  ·exact q
  ·have:=hh.inj i id b ha h2 hb h3;omega
 have hE:bS L base ι S w (ι.take L) (ia L ι S h) w:=
  ⟨fun i hi=>fX.of_eq (pre hi),fun _ _ q=>.inl q,fun b o q=>(newS q).imp (fun z=>z) fun⟨id,_,h2,h3⟩=>(hh.BS h2 h3).1,fun _ _ _=>rfl,fun _ _ q=>q,Below.refl _ _⟩
 refine⟨hE,⟨by simp[sx,hh.len],fun id x e=>?_,fun id t sz n e=>?_,fun id en e=>?_,fun i j b ai aj hi hj=>?_,fun b o q=>?_,hh.kC,hh.gl.fW hE⟩⟩;rotate_left 2
 ·obtain⟨q,y,e1,rfl⟩:=ent e;have ho:=hh.ky id y e1;cases y with
  | ak y=>trivial
  | tok=>trivial
  | dead=>trivial
  | mp c es =>
    obtain⟨b,arr,h1,h2,h3,h4,h5⟩:=ho;exact⟨b,arr,(pre q).trans h1,h2,h3,fun o ho=>h4 o (old q (by rw[e1];exact trivial) (by rw[h1];rfl) ho),h5.imp fun a y k=>ar.tl hh 3 a y k⟩
  | it m s sn l =>
    obtain⟨b,bm,h1,h2,h3,h4,h5⟩:=ho;simp only[Dp];split
    ·rename_i hm;exact⟨b,bm,(pre q).trans h1,h2,h3,fun o ho=>h4 o (old q (by rw[e1];exact trivial) (by rw[h1];rfl) ho),(pre hm).trans h5⟩
    ·trivial
 rotate_left 2
 ·obtain⟨q,y,e1,e2⟩:=ent e;cases y with
  | tok=>cases e2
  | dead=>cases e2
  | mp=>cases e2
  | it m s sn l=>simp only[Dp]at e2;split at e2<;>cases e2
  | ak y =>
    cases e2;obtain⟨b,arr,fz,h1,h2,h3,h4,h5,h6,h7,h8,h9⟩:=hh.live id y e1;have hS:∀o,ia L ι S h b o→S b o:=fun o=>old q (by rw[e1];exact trivial) (by rw[h1];rfl);refine⟨b,arr,fz,(pre q).trans h1,h2,h3,h4,by simpa using h5,fun i c ec=>?_,fun hw o ho=>h7 hw o (hS o ho),fun o ho=>by simpa using h8 o (hS o ho),fun hw o ho=>.inl (h9 hw o (by simpa using ho))⟩;simp only[iN,aaS]at ec;obtain⟨c0,ec0,rfl⟩:=ec;obtain⟨v,e3,r⟩:=h6 i c0 ec0;exact⟨v,e3,ar.tl hh 3 c0 v r⟩
 ·obtain⟨q,y,e1,e2⟩:=ent e;cases y with
  | ak=>cases e2
  | dead=>cases e2
  | mp=>cases e2
  | it m s sn l=>simp only[Dp]at e2;split at e2<;>cases e2
  | tok =>
    cases e2;obtain⟨v,h1,h2⟩:=hh.tok id _ _ _ e1;exact⟨v,(pre q).trans h1,h2.fF fun b hb _ _=>⟨rfl,fun o=>old q (by rw[e1];exact trivial) (by rw[h1];exact hb)⟩⟩
 ·obtain⟨q1,a1⟩:=alv ai;obtain⟨q2,a2⟩:=alv aj;rw[pre q1]at hi;rw[pre q2]at hj;exact hh.inj i j b a1 a2 hi hj
 ·rcases newS q with z|⟨id,_,h2,h3⟩
  ·exact hh.iK b o z
  ·exact (hh.BS h2 h3).2
end
/-! ### From one state to one that says less -/
def Wk.refl(n:Nat)(s:List AV)(h:aa)(hn:n≤h.length):Wk n s h s h:=⟨hn,rfl,fun _ ι S _ _ r k=>⟨ι,S,bS.refl _ _ _ _ _,r,k⟩⟩
def Wk.trans(a:Wk n s h s' h')(b:Wk n s' h' s'' h''):Wk n s h s'' h'':=
 ⟨b.1,b.2.1.trans a.2.1,fun base ι S w vs r k =>
  let ⟨ι',S',e1,r1,k1⟩:=a.2.2 base ι S w vs r k
  let ⟨ι'',S'',e2,r2,k2⟩:=b.2.2 base ι' S' w vs r1 k1
  ⟨ι'',S'',e1.trans e2,r2,k2⟩⟩
omit [Laid] in
theorem jS.len:∀{as_ bs:List AV},jS as_ bs→bs.length=as_.length
 | [],[],_=>rfl
 | [],_:: _,h=>by simp[jS]at h
 | _:: _,[],h=>by simp[jS]at h
 | _:: _,_:: _,h=>by rw[jS]at h;simp[h.2.len]
def Wk.le(hn:n≤h.length)(hs:jS s s'):Wk n s h s' h:=
 ⟨hn,hs.len,fun _ ι S _ vs r k=>⟨ι,S,bS.refl _ _ _ _ _,aB.le s s' vs hs r,k⟩⟩
def Wk.tell(hn:n≤h.length):Wk n s h (s.map (tl n h 3)) (sx n h):=
 ⟨by simp[sx];omega,by simp,fun base ι S w vs r k=>by
  obtain⟨e,k'⟩:=k.told hn;refine⟨_,_,e, ?_,k'⟩;have:=aB.eP (L:=n) (f:=tl n h 2) k (ar.tl k 2) s vs r
  rwa [pt]at this⟩
def Wk.end(hn:n≤h.length)(hs:jS (s.map (tl n h 3)) s')(hh:sx n h=h'):Wk n s h s' h':=by
 subst hh;exact (Wk.tell hn).trans (Wk.le (by simp[sx];omega) hs)
def Wk.tok(hn:n≤h.length)(i e sz:Nat)(hi:s[i]?=some .emp):Wk n s h (s.set i (.sb h.length sz [])) (h++[.tok e sz 0]):=by
 refine⟨by simp;omega,by simp,fun base ι S w vs r k=>?_⟩;obtain⟨v,hv,rv⟩:=r.get i _ hi;rw[ar]at rv;obtain⟨a,rfl⟩:=rv;have hb:=k.begin (e:=e) (sz:=sz) (a:=a);have hE:bS ι.length base ι S w (ι++[.tok 0 (.slice a 0 0)]) S w:=bS.grow _;have r2:=(aB.fW hE (bY _) s vs r).set i (.sb h.length sz []) (.slice a 0 0) (by rw[←k.len];exact ar.begin ι S w sz a);have:vs.set i (.slice a 0 0)=vs:=by
  refine List.ext_getElem? fun j=>?_
  by_cases q:j=i
  ·subst q;rw[iD (eQ.1 hv).1,hv]
  ·rw[iF (Ne.symm q)]
 rw[this]at r2;exact⟨_,S,hE.mono (by rw[k.len];exact hn) (bY _),r2,hb⟩
def RY(r:AV)(r':AV)(h':aa):Prop:=Le (tl 0 h' 3 r') r
def RY.wk(q:RY r r' h'):∃r'' h'',Wk ([]:aa).length [r'] h' [r''] h''∧r''=r:=
 ⟨r,_,Wk.end (aa2 _) (by simp only[GO,List.map_nil,jS];exact⟨q,trivial⟩) rfl,rfl⟩
def Body.con{args:List AV}{W:aa→(AV→aa→Prop)→Prop}(b:Body P f args W)(pa:aO args)(pr:Pure r)(q:W [] fun r' h' => ∃r'' h'',Wk ([]:aa).length [r'] h' [r''] h''∧r''=r):bn P f args r:=
 ⟨pa,pr,b.bJ q⟩
end
section
open Go Go.RowKit
variable [Laid]
omit [Laid] in
@[simp] theorem aaD(t:Bool)(a b:AV)(K:AV→Prop):bQ (.v (.bool t)) a b K↔(t=true→K a)∧(t=false→K b):=by simp[bQ]
omit [Laid] in
@[simp] theorem Qy(t:Bool)(A B:Prop):af (.v (.bool t)) A B↔(t=true→A)∧(t=false→B):=by simp[af]
omit [Laid] in
@[simp] theorem ZS(t w:Bool)(A B:Prop):aM (.v (.bool t)) w A B↔(t=w→A)∧(t=(!w)→B):=by
 simp[aM,undef]
omit [Laid] in
@[simp] theorem ZT(w:Bool)(A B:Prop):aM (.v undef) w A B↔B:=by simp[aM,undef]
omit [Laid] in
@[simp] theorem acr(w t:Bool):cd w (.v (.bool t))=.v (.bool (!w)):=rfl
omit [Laid] in
@[simp] theorem acs(w:Bool):cd w (.v undef)=.v undef:=rfl
omit [Laid] in
@[simp] theorem TQ(t:Bool)(K:AV→Prop):cr (.v (.bool t)) K↔K (.v (.bool (!t))):=by simp[cr]
omit [Laid] in
@[simp] theorem EN(k:IntKind)(n:Int)(K:AV→Prop):oX (.v (.int k n)) K↔qz k (0-n) K:=by
 constructor
 ·rintro⟨k',n',e,h⟩;cases e;exact h
 ·intro h;exact⟨k,n,rfl,h⟩
omit [Laid] in
@[simp] theorem aar(k k':IntKind)(n:Int)(K:AV→Prop):cy k (.v (.int k' n)) K↔K (.v (.int k (k.wrap n))):=by
 constructor
 ·rintro⟨k'',n',e,h⟩;cases e;exact h
 ·intro h;exact⟨k',n,rfl,h⟩
omit [Laid] in
@[simp] theorem acq(n:Int)(K:AV→Prop):qz .i64 n K↔aJ n∧K (.v (.int .i64 n)):=Iff.rfl
omit [Laid] in
@[simp] theorem aaq(op:BinOp)(k:IntKind)(a b:Int)(K:AV→Prop):ag op (.v (.int k a)) (.v (.int k b)) K↔if lI op then wX op k a b K else ql op k a b K:=by
 unfold ag;simp
omit [Laid] in
@[simp] theorem Qx(op:BinOp)(a b:List UInt8)(K:AV→Prop):ag op (.str a) (.str b) K↔yV op a b K:=Iff.rfl
omit [Laid] in
@[simp] theorem AH(k:(List AV→aa→Prop)→Prop)(f:List AV→aa→Prop):aG k f↔k f:=Iff.rfl
omit [Laid] in
@[simp] theorem eg(a:AV)(s:List AV):nx (a:: s) 0=a:=rfl
omit [Laid] in
@[simp] theorem aaN(a:AV)(s:List AV)(k:Nat):nx (a:: s) (k+1)=nx s k:=rfl
omit [Laid] in
@[simp] theorem gG(a b:AV)(s:List AV):nx (a:: b:: s) 1=b:=rfl
attribute [simp] Value.oneCell' ql yV lI jh Ey lP eX dP gI bh bG bX Cl dy Pure aO cG Le jS
section
omit [Laid]
variable (K:AV→Prop) (KH:AV→aa→Prop) (h:aa)
@[simp] theorem aap(op:BinOp)(a b:Bool):qJ op (.v (.bool a)) (.v (.bool b)) K↔(match op with|.eql=>K (b_ (a == b))|.neq=>K (b_ (!(a == b)))|_=>False):=Iff.rfl
@[simp] theorem TJ(neg:Bool)(ks:List Nat)(xs ys:List AV):mc neg ks (.agg xs) (.agg ys) K↔(match jh ks xs ys with|some b=>K (b_ (if neg then !b else b))|none=>False):=Iff.rfl
@[simp] theorem Qz(i:Nat)(cs:List AV):aR i (.ay cs) K↔(match cs[i]? with|some c=>K c|none=>False):=Iff.rfl
@[simp] theorem aci(g:Bool)(off n:Nat)(cs:List AV):rU g off n (.agg cs) K↔lP g n (cs.drop off) K:=Iff.rfl
@[simp] theorem aaw(l:List UInt8)(k:IntKind)(n:Int):eD (.str l) (.v (.int k n)) K↔(0≤n∧n<l.length)∧K (.v (.int .u8 (l.getD n.toNat 0).toNat)):=Iff.rfl
@[simp] theorem aas(g:Bool)(sz len:Nat)(cs:List AV)(k:IntKind)(n:Int):mM g sz len (.agg cs) (.v (.int k n)) K↔(0≤n∧n<len)∧lP g sz (cs.drop (n.toNat*sz)) K:=Iff.rfl
@[simp] theorem acp(l:List UInt8)(lo hi:Option AV):eV (.str l) lo hi K↔(match eX lo 0,eX hi l.length with
 | some a,some b=>(0≤a∧a≤b∧b≤l.length)∧K (.str ((l.take b.toNat).drop a.toNat))
 | _,_=>False):=Iff.rfl
@[simp] theorem Pb(n sz:Nat)(rows:List (List AV))(lo hi:Option AV):lr n (.sl sz rows) lo hi K↔(match eX lo 0,eX hi rows.length with
 | some a,some b=>sz=n∧(0≤a∧a≤b∧b≤rows.length)∧K (.sl sz ((rows.take b.toNat).drop a.toNat))
 | _,_=>False):=Iff.rfl
@[simp] theorem acH(n id sz:Nat)(rows:List (List AV))(lo hi:Option AV):lr n (.sb id sz rows) lo hi K↔lr n (.sl sz rows) lo hi K:=Iff.rfl
@[simp] theorem V1(n id off len sz:Nat)(lo hi:Option AV):lr n (.own id off len sz) lo hi K↔(match eX lo 0,eX hi len with
 | some a,some b=>sz=n∧(0≤a∧a≤b∧b≤len)∧K (.own id (off+a.toNat*sz) (b-a).toNat sz)
 | _,_=>False):=Iff.rfl
@[simp] theorem acI(n:Nat)(lo hi:Option AV):lr n .emp lo hi K↔(match eX lo 0,eX hi 0 with
 | some a,some b=>(a=0∧b=0)∧K .emp
 | _,_=>False):=Iff.rfl
@[simp] theorem aco(n sz id off:Nat)(lo hi:Option AV):qm n sz (.op id off) lo hi h K↔(match eX lo 0,eX hi n,h[id]? with
 | some a,some b,some (.ak ak)=>(off+n*sz≤ak.cells.length∧0≤a∧a≤b∧b≤n∧n≤maxLen)∧K (.own id (off+a.toNat*sz) (b-a).toNat sz)
 | _,_,_=>False):=Iff.rfl
@[simp] theorem Hp(m sz:Nat)(rows:List (List AV))(k:IntKind)(n:Int):aI m (.sl sz rows) (.v (.int k n)) K↔sz=m∧(0≤n∧n<rows.length)∧K (.ip (rows.getD n.toNat [])):=Iff.rfl
@[simp] theorem aat(m id sz:Nat)(rows:List (List AV))(k:IntKind)(n:Int):aI m (.sb id sz rows) (.v (.int k n)) K↔sz=m∧(0≤n∧n<rows.length)∧K (.ip (rows.getD n.toNat [])):=Iff.rfl
@[simp] theorem Ho(m id off len sz:Nat)(k:IntKind)(n:Int):aI m (.own id off len sz) (.v (.int k n)) K↔sz=m∧(0≤n∧n<len)∧K (.op id (off+n.toNat*sz)):=Iff.rfl
@[simp] theorem aav(len sz id off:Nat)(k:IntKind)(n:Int):eU len sz (.op id off) (.v (.int k n)) K↔(0≤n∧n<len)∧K (.op id (off+n.toNat*sz)):=Iff.rfl
@[simp] theorem aau(len sz:Nat)(cs:List AV)(k:IntKind)(n:Int):eU len sz (.ip cs) (.v (.int k n)) K↔(0≤n∧n<len)∧K (.ip (cs.drop (n.toNat*sz))):=Iff.rfl
@[simp] theorem ach(off:Nat)(cs:List AV):bg off (.ip cs) K↔K (.ip (cs.drop off)):=Iff.rfl
@[simp] theorem rT(off id o:Nat):bg off (.op id o) K↔K (.op id (o+off)):=Iff.rfl
@[simp] theorem acm(cs:List AV):wW (.ip cs) K↔K (.ip cs):=Iff.rfl
@[simp] theorem acn(id o:Nat):wW (.op id o) K↔K (.op id o):=Iff.rfl
@[simp] theorem ack(f:FuncId)(a b:List AV):wW (.fn (.func f) a b) K↔K (.fn (.func f) a b):=Iff.rfl
@[simp] theorem aaC(P:Program)(cs:List AV):ca P (.ip cs) K↔K (.ip cs):=Iff.rfl
@[simp] theorem nT(P:Program)(id o:Nat):ca P (.op id o) K↔K (.op id o):=Iff.rfl
@[simp] theorem aaB(P:Program)(f:FuncId)(a b:List AV):ca P (.fn (.func f) a b) K↔K (.fn (.func f) a b):=Iff.rfl
@[simp] theorem QB(P:Program)(name:String)(t:TypeId)(v:AV)(r ys:List AV):ca P (.fn (.method name) (.ib t v:: r) ys) K↔(oY P name t).isSome=true∧K (.fn (.method name) (.ib t v:: r) ys):=Iff.rfl
@[simp] theorem TN(t:TypeId)(x:AV):oW t x K↔K (.ib t x):=Iff.rfl
@[simp] theorem acg(has:TypeId→Bool)(t:TypeId)(v:AV):yT has (.ib t v) K↔has t=true∧K (.ay [.ib t v,b_ true]):=Iff.rfl
@[simp] theorem CU(neg b:Bool):kI neg (some b) K↔K (b_ (rZ neg b)):=Iff.rfl
@[simp] theorem acv(b:Bool):rZ true b=!b:=rfl
@[simp] theorem acu(b:Bool):rZ false b=b:=rfl
@[simp] theorem aaH:vv (.v .nilIface)=some true:=rfl
@[simp] theorem aaG(t:TypeId)(x:AV):vv (.ib t x)=some false:=rfl
@[simp] theorem aaJ:tD (.v (.pointer none))=some true:=rfl
@[simp] theorem aaK(a b:Nat):tD (.op a b)=some false:=rfl
@[simp] theorem aaI(cs:List AV):tD (.ip cs)=some false:=rfl
@[simp] theorem aaL(a b:Nat):vw (.v (.slice none a b))=some true:=rfl
@[simp] theorem aaM(a b c d:Nat):vw (.own a b (c+1) d)=some false:=rfl
@[simp] theorem Hr(g:Bool)(sz:Nat)(cs:List AV):ah g sz (.ip cs) h K↔lP g sz cs K:=Iff.rfl
@[simp] theorem uu(g:Bool)(sz id o:Nat):ah g sz (.op id o) h K↔(match h[id]? with|some (.ak b)=>lP g sz (b.cells.drop o) K|_=>False):=Iff.rfl
@[simp] theorem yU(KS:aa→Prop)(sz id o:Nat)(v:AV):ao sz (.op id o) v h KS↔(match h[id]? with
 | some (.ak b)=>(b.wr=true∧o+(bh v).length≤b.cells.length∧(bh v).length=sz∧(bh v).all bG=true)∧KS (h.set id (.ak { b with cells:=bX b.cells o (bh v) }))
 | _=>False):=Iff.rfl
@[simp] theorem TP(t:TypeId)(v:AV):aV t v h KH↔(bh v).all bG=true∧KH (.op h.length 0) (h++[.ak ⟨t,bh v,true⟩]):=Iff.rfl
@[simp] theorem NR(zero:AV)(parts:List (Nat×Nat×AV)):aW zero parts K↔(match dP (bh zero) parts with|some cs=>K (.agg cs)|none=>False):=Iff.rfl
@[simp] theorem aaA(t len sz:Nat)(zero:AV)(parts:List (Nat×Nat×AV)):qM t len sz zero parts h KH↔(match dP (gI len (bh zero)) parts with
 | some cs=>(match len with
   | 0=>KH .emp h
   | len+1=>KH (.own h.length 0 (len+1) sz) (h++[.ak ⟨t,cs,true⟩]))
 | none=>False):=Iff.rfl
@[simp] theorem ZV(len sz:Nat)(zero:AV)(parts:List (Nat×Nat×AV)):bt len sz zero parts K↔(match dP (gI len (bh zero)) parts with|some cs=>K (.sl sz (chunks sz len cs))|none=>False):=Iff.rfl
@[simp] theorem QA(e sz bytes:Nat)(zero:AV)(k k':IntKind)(l c:Int):qK e sz bytes zero (.v (.int k l)) (.v (.int k' c)) h KH↔(0≤l∧l≤c∧(bytes:Int)*c≤281474976710656∧c≤9223372036854775807)∧KH (.own h.length 0 l.toNat sz) (h++[.ak ⟨e,gI c.toNat (bh zero),true⟩]):=Iff.rfl
@[simp] theorem vm(e:Nat)(l:List UInt8):iO e (.str l) h KH↔KH (.own h.length 0 l.length 1) (h++[.ak ⟨e,l.map bf,true⟩]):=Iff.rfl
@[simp] theorem BP(l:List UInt8):cZ (.str l) K↔(l.length≤maxLen→K (i_ l.length)):=Iff.rfl
@[simp] theorem KO(sz:Nat)(rows:List (List AV)):bq (.sl sz rows) K↔(rows.length≤maxLen→K (i_ rows.length)):=Iff.rfl
@[simp] theorem TK(id sz:Nat)(rows:List (List AV)):bq (.sb id sz rows) K↔(rows.length≤maxLen→K (i_ rows.length)):=Iff.rfl
@[simp] theorem ur(id off len sz:Nat):bq (.own id off len sz) K↔(len≤maxLen→K (i_ len)):=Iff.rfl
@[simp] theorem ZU(l:List UInt8):lq (.str l) K↔K (i_ l.length):=Iff.rfl
@[simp] theorem Hq(sz:Nat)(rows:List (List AV)):iZ (.sl sz rows) K↔K (i_ rows.length):=Iff.rfl
@[simp] theorem aax(id sz:Nat)(rows:List (List AV)):iZ (.sb id sz rows) K↔K (i_ rows.length):=Iff.rfl
@[simp] theorem aaz(id off len sz:Nat):iZ (.own id off len sz) K↔K (i_ len):=Iff.rfl
@[simp] theorem aay:iZ .emp K↔K (i_ 0):=Iff.rfl
@[simp] theorem acj:bq .emp K↔K (i_ 0):=Iff.rfl
@[simp] theorem TM(k:IntKind)(a b:Int):nZ (.v (.int k a)) (.v (.int k b)) K↔K (.v (.int k (if b<a then b else a))):=by simp[nZ]
@[simp] theorem TL(k:IntKind)(a b:Int):kA (.v (.int k a)) (.v (.int k b)) K↔K (.v (.int k (if b > a then b else a))):=by simp[kA]
@[simp] theorem aaE(l:List UInt8):AI (.str l) K↔K (.str l):=Iff.rfl
@[simp] theorem acz(sz:Nat)(rows:List (List AV)):jA h sz (.sl sz rows)=some rows:=by simp[jA,ni]
@[simp] theorem L0(sz id:Nat)(rows:List (List AV)):jA h sz (.sb id sz rows)=some rows:=by simp[jA,ni]
@[simp] theorem acy(sz:Nat):jA h sz .emp=some []:=rfl
@[simp] theorem FR(sz id off len sz':Nat):jA h sz (.own id off len sz')=(match h[id]? with
 | some (.ak b)=>if sz'=sz∧off+len*sz≤b.cells.length then some (chunks sz len (b.cells.drop off)) else none
 | _=>none):=rfl
@[simp] theorem acf(own:Bool)(e sz bytes:Nat)(x y:AV):bR own e sz bytes x y h KH↔eI own e sz bytes x (jA h sz y) h KH:=Iff.rfl
@[simp] theorem Qw(own:Bool)(e bytes:Nat)(x y:AV):mL own e bytes x y h KH↔eI own e 1 bytes x (Cl y) h KH:=Iff.rfl
@[simp] theorem YB(e sz bytes:Nat)(rows:List (List AV)):eI false e sz bytes .emp (some rows) h KH↔rows.all (dy sz)=true∧jG bytes rows.length∧KH (.sb h.length sz rows) (h++[.tok e sz rows.length]):=Iff.rfl
@[simp] theorem YC(e sz bytes:Nat)(rows:List (List AV)):eI true e sz bytes .emp (some rows) h KH↔rows.all (dy sz)=true∧rows≠[]∧jG bytes rows.length∧KH (.own h.length 0 rows.length sz) (h++[.ak ⟨e,rows.flatten,true⟩]):=Iff.rfl
@[simp] theorem ZR(own:Bool)(e sz bytes id sz':Nat)(base rows:List (List AV)):eI own e sz bytes (.sb id sz' base) (some rows) h KH↔rows.all (dy sz)=true∧(match h[id]? with
 | some (.tok e' sz'' k)=>(sz'=sz∧sz''=sz∧e'=e∧k=base.length)∧jG bytes (k+rows.length)∧KH (.sb id sz (base++rows)) (h.set id (.tok e sz (k+rows.length)))
 | _=>False):=Iff.rfl
@[simp] theorem NQ(own:Bool)(e sz bytes id off len sz':Nat)(rows:List (List AV)):eI own e sz bytes (.own id off len sz') (some rows) h KH↔rows.all (dy sz)=true∧(match h[id]? with
 | some (.ak b)=>(off=0∧sz'=sz∧b.wr=true∧b.ty=e∧len*sz≤b.cells.length)∧0<len+rows.length∧jG bytes (len+rows.length) ∧
  KH (.own h.length 0 (len+rows.length) sz) (h.set id .dead++[.ak ⟨e,b.cells.take (len*sz)++rows.flatten,true⟩])
 | _=>False):=Iff.rfl
end
@[simp] theorem KM(P:Program)(row:TypeId→Option FuncId)(t:TypeId)(v:AV)(args:List AV)(h:aa)(KH:AV→aa→Prop):wV P row (.ib t v) args h KH↔(match row t with|some f=>bW P f (v:: args) h KH|none=>False):=Iff.rfl
/-! ### What is pure is told as_ it is -/
omit [Laid] in
def zL(f:AV→AV)(L:Nat)(h:aa)(a:AV):Pure a→eP f L h a=a:=by
 refine AV.rec (motive_1:=fun a=>Pure a→eP f L h a=a) (motive_2:=fun l=>aO l→nU f L h l=l) (motive_3:=fun r=>cG r→oQ f L h r=r) ?_ ?_ ?_ ?_ ?_ ?_ ?_ ?_ ?_ ?_ ?_ ?_ ?_ ?_ ?_ ?_ ?_ ?_ a;all_goals intros
 all_goals simp_all [eP,nU,oQ]
omit [Laid] in
@[simp] theorem Cr(L:Nat)(h:aa)(d:Nat)(a:AV)(p:Pure a):tl L h d a=a:=by
 cases d<;>exact zL _ L h a p
omit [Laid] in
@[simp] theorem YI(a:AV):Le a a:=Le.refl a
def dI(r r':AV)(h':aa):Prop:=∃r'' h'',Wk ([]:aa).length [r'] h' [r''] h''∧r''=r
def dI.of(q:Le (tl 0 h' 3 r') r):dI r r' h':=RY.wk q
def dI.pure(p:Pure r')(e:r'=r):dI r r' h':=by
 subst e;exact dI.of (by rw[Cr _ _ _ _ p];exact Le.refl _)
def Body.bj{args:List AV}{W:aa→(AV→aa→Prop)→Prop}(b:Body P f args W)(pa:aO args)(pr:Pure r)(q:W [] (dI r)):bn P f args r:=b.con pa pr q
def aZ{α:Type}(I:α→Prop)(f:α→List AV)(g:α→aa)(μ:α→Nat)(x₀:α){body:(List AV→aa→Prop)→List AV→aa→Prop}(h0:I x₀)(w0:Wk h.length s h (f x₀) (g x₀))
 (step:∀x,I x→body (fun s' h' => ∃y,I y∧Wk h.length s' h' (f y) (g y)∧μ y<μ x) (f x) (g x)):bN s h body:=
 ⟨α,I,f,g,μ,x₀,h0,w0,step⟩
/-! ### Values that name no memory -/
mutual
def Flat:AV→Prop
 | .v _|.str _|.any=>True
 | .agg cs|.ay cs=>zU cs
 | _=>False
def zU:List AV→Prop
 | []=>True
 | c:: cs=>Flat c∧zU cs
end
omit [Laid] in
def ar.flat(a:AV):∀v:Value,Flat a→ar ι S w a v→ar ι' S' w' a v:=by
 refine AV.rec (motive_1:=fun a=>∀v:Value,Flat a→ar ι S w a v→ar ι' S' w' a v) (motive_2:=fun as_=>∀vs:List Value,zU as_→aB ι S w as_ vs→aB ι' S' w' as_ vs) (motive_3:=fun _=>True) ?_ ?_ ?_ ?_ ?_ ?_ ?_ ?_ ?_ ?_ ?_ ?_ ?_ ?_ ?_ ?_ ?_ ?_ a
 case refine_4=>intro cs ih v p h;rw[Flat]at p;rw[ar]at *;obtain⟨vs,e,q⟩:=h;exact⟨vs,e,ih vs p q⟩
 case refine_5=>intro cs ih v p h;rw[Flat]at p;rw[ar]at *;obtain⟨vs,e,q⟩:=h;exact⟨vs,e,ih vs p q⟩
 case refine_16 =>
  intro a as_ iha ihs vs p h;rw[zU]at p;cases vs with
  | nil=>simp at h
  | cons v vs=>simp only[bP]at h ⊢;exact⟨iha v p.1 h.1,ihs vs p.2 h.2⟩
 all_goals intros
 all_goals first|trivial|(rename_i p h;simp[Flat]at p;done)|skip
 all_goals simp_all
attribute [simp] Flat zU
def wU{args args':List AV}{K:AV→aa→Prop}(hb:dw P f=true)(c:bn P f args' r)(hl:jS (args.map (tl 0 h 3)) args')(fl:Flat r)(k:K r h):bx P (.fn (.func f) [] []) args h K:=by
 refine⟨hb, ?_⟩;simp only[List.nil_append,aaZ];obtain⟨pa,pr,c⟩:=c;intro base ι S w vs h1 h2;obtain⟨hE0,hh0⟩:=h2.told (L:=0) (aa2 _);have hr:aB (ι.take 0) (ia 0 ι S h) w args' vs:=by
  refine aB.le _ _ vs hl ?_;have:=aB.eP (L:=0) (f:=tl 0 h 2) h2 (ar.tl h2 2) args vs h1
  rwa [pt]at this
 simp only[List.take_zero]at hr hE0;refine (c w.heap.size [] (ia 0 ι S h) w vs hr (cK.nil _ w hh0.iK hh0.gl)).mono ?_;rintro e w' ⟨v,ι',S',r',h',e1,e2,e3,e4,_,rfl⟩;have hE:bS ι.length w.heap.size ι S w ι S w':=⟨fun _ _=>fX.refl _,fun _ _ q=>q,fun _ _ q=>.inl q,fun b o q=>e2.cell b o (.inl q),e2.xg,e2.mR⟩;exact⟨v,ι,S,r',h,e1,hE.mono (by rw[h2.len];exact bY _) h2.kC,ar.flat r' v fl e3,h2.over hE (fun b o q=>Up (h2.iK b o q) e2.mR.size),bY _,k⟩
end
section
open Go Go.RowKit Go.ChangeShapes Go.WideShapes
section
variable {H:Type} {enc:TypeId×Value→H} {P:Program}
theorem wE(hl:laidOutB P=true)(hb:Below W.heap.size W W'):∀{ts:List TypeId} {vs:List Value} {ds:List (DataW H)} {ps:List MemPlace},
 ts.all (fun t=>P.readableRec t&&decide (t<P.types.size))=true→DataW.TrodAll enc P W 0 (fun _=>true) true ts vs ds ps→(∀x∈ps,x.block<W.heap.size) →
 DataW.TrodAll enc P W' 0 (fun b=>decide (b<W.heap.size)) true ts vs ds ps
 | [],_,_,_,_,h,_=>by obtain⟨rfl,rfl,rfl⟩:=trodAll_nil h;exact rfl
 | t:: ts,_,_,_,hr,h,hlt=>by
   obtain⟨v,vs,d,ds,p,q,rfl,rfl,rfl,h1,h2⟩:=trodAll_cons h;simp only[abg,NO,Of]at hr;exact⟨p,q,Below.trod hl hr.1.1 hr.1.2 h1 hb (fun x hx=>hlt x (by simp[hx])),wE hl hb hr.2 h2 (fun x hx=>hlt x (by simp[hx])),rfl⟩
def Lz{f:Func}{s:ChangeSpec}{apart fresh handsOn:Bool}{W W':World}{args:Array Value}{ds gs:List (DataW H)}{before:List MemPlace}{tb:TypeId}
 (hl:laidOutB P=true) (hrd:f.params.toList.all (fun t=>P.readableRec t&&decide (t<P.types.size))=true) (hvr:varsRowed P s.vars=true) (hrt:f.resultTypes=#[tb]) (hb:P.underlying tb=some .bool)
 (hW:DataW.Whole enc P f.params.toList s.vars apart W args.toList ds gs before) (hfn:s.fn H (ds++gs)={ results:=[.lit (.bool true)],args:=ds,vars:=gs }) (hB:Below W.heap.size W W') :
 s.post enc P f apart fresh handsOn false W args (.bool true) W':=by
 have hlt:=hW.lt;have hW0:=hW;obtain⟨p,q,hA,hV,rfl,hfz,hnd⟩:=hW;have hA':=wE (enc:=enc) hl hB hrd hA (fun x hx=>hlt x (by simp[hx]));have hV':=Below.trodVars (enc:=enc) hl hB hvr hV;refine⟨ds,gs,p++q,[],p,q,hW0, ?_,by rw[hfn];exact hA',by rw[hfn];exact hV',hB.frame _,fun e=>by cases e⟩;rw[hfn,hrt];exact trodAll_mk1 (shut_bool hb true)
end
/-! Arguments opened -/
def old(W:World):aY:=fun b _=>b<W.heap.size
def add_plain(b off i:Nat):(⟨b,off,none⟩:Addr).add i=⟨b,off+i,none⟩:=addr_add b off i
def bn.calls[Laid]{as_:List AV}(c:bn P f as_ (b_ true)){vs:List Value}(hg:CA (old W) W)(h:aB [] (old W) W as_ vs):
 Calls P f vs.toArray W fun e W' => e=.returned (.bool true)∧Below W.heap.size W W':=by
 obtain⟨_,_,c⟩:=c;refine (c W.heap.size [] (old W) W vs h (cK.nil (old W) W (fun b o q=>q) hg)).mono ?_;rintro e W' ⟨v,ι',S',r,h',e1,e2,e3,e4,_,rfl⟩;simp at e3;exact⟨by rw[e1,e3],e2.mR⟩
def bE.ints{zs:List Int}(hc:∀i,i<zs.length→W.cell? ⟨g,i,none⟩=some (.int k (zs.getD i 0))):bE [] (old W) W (zs.map fun z=>.v (.int k z)) g 0:=by
 refine bE.mk fun i c e=>?_;rw[iN]at e;cases hz:zs[i]? with
 | none=>rw[hz]at e;cases e
 | some z =>
   rw[hz]at e;cases e;have hi:=(eQ.1 hz).1;have h1:=hc i hi;rw[nE,hz]at h1;refine⟨_,by rw[aa4];exact h1, ?_,by simp⟩;show g<W.heap.size;unfold World.cell? at h1;split at h1
   ·rename_i c1 c2 c3 hh;exact (AS.1 hh).1
   ·cases h1
end
section
open Go Go.RowKit
variable {K:AV→Prop} {A B:Prop} {h:aa}
def enil{id o:Nat}{K:AV→Prop}(q:K (.op id o)):ca P (.op id o) K:=q
def aF{k:(List AV→aa→Prop)→Prop}{f:List AV→aa→Prop}(q:k f):aG k f:=q
def jk(e:c=.v (.bool w))(q:A):aM c w A B:=by subst e;cases w<;>simpa using q
def km(e:c=.v (.bool (!w)))(q:B):aM c w A B:=by subst e;cases w<;>simpa using q
def dG(e:c=.v undef)(q:B):aM c w A B:=by subst e;simpa using q
def tAn(q:B):True∧B:=⟨True.intro,q⟩
def aL(e:c=.v (.bool true))(q:K a):bQ c a b K:=by subst e;simpa using q
def zzR(q:K a):bQ (.v (.bool true)) a b K:=aL rfl q
def aQ(e:c=.v (.bool false))(q:K b):bQ c a b K:=by subst e;simpa using q
def zzQ(q:K b):bQ (.v (.bool false)) a b K:=aQ rfl q
def Gc(e:c=.v (.bool true))(q:A):af c A B:=by subst e;simpa using q
def sJ(e:c=.v (.bool false))(q:B):af c A B:=by subst e;simpa using q
def aq(q:X):a=a∧X:=⟨rfl,q⟩
def oJ(t:Bool)(ex:x=.v (.int k a))(ey:y=.v (.int k b))(c:decide (a<b)=t)(q:K (.v (.bool t))):ag .lss x y K:=by subst ex;subst ey;subst c;simpa using q
def pO(t:Bool)(ex:x=.v (.int k a))(ey:y=.v (.int k b))(c:decide (b<a)=t)(q:K (.v (.bool t))):ag .gtr x y K:=by subst ex;subst ey;subst c;simpa using q
def pM(t:Bool)(ex:x=.v (.int k a))(ey:y=.v (.int k b))(c:decide (b≤a)=t)(q:K (.v (.bool t))):ag .geq x y K:=by subst ex;subst ey;subst c;simpa using q
def pL(t:Bool)(ex:x=.v (.int k a))(ey:y=.v (.int k b))(c:decide (a=b)=t)(q:K (.v (.bool t))):ag .eql x y K:=by subst ex;subst ey;subst c;simpa using q
def cm(ex:x=i_ a)(ey:y=i_ b)(c:aJ (a+b))(q:K (i_ (a+b))):ag .add x y K:=by subst ex;subst ey;simpa using⟨c,q⟩
def zzP(c:aJ (a+b))(q:K (i_ (a+b))):ag .add (i_ a) (i_ b) K:=cm rfl rfl c q
def nY(ex:x=i_ a)(ey:y=i_ b)(c:aJ (a-b))(q:K (i_ (a-b))):ag .sub x y K:=by subst ex;subst ey;simpa using⟨c,q⟩
def zze(c:aJ (a-b))(q:K (i_ (a-b))):ag .sub (i_ a) (i_ b) K:=nY rfl rfl c q
def aH{off id o:Nat}(e:x=.op id o)(q:K (.op id (o+off))):bg off x K:=by subst e;exact q
def zzA{off id o:Nat}(q:K (.op id (o+off))):bg off (.op id o) K:=aH rfl q
def aD{id o:Nat}(e:x=.op id o)(hb:h[id]?=some (.ak b))(hc:b.cells[o]?=some c)(q:K c):ah false 1 x h K:=by
 subst e;rw[uu,hb];have hl:=(eQ.1 hc).1;simp only[lP];rw[abo hl];rw[(eQ.1 hc).2];exact q
def zzU{id o:Nat}(hb:h[id]?=some (.ak b))(hc:b.cells[o]?=some c)(q:K c):ah false 1 (.op id o) h K:=aD rfl hb hc q
def dr{id o n:Nat}(e:x=.op id o)(hb:h[id]?=some (.ak b))(hn:n≤(b.cells.drop o).length)(q:K (.agg ((b.cells.drop o).take n))):ah true n x h K:=by
 subst e;rw[uu,hb];exact⟨hn,q⟩
def zzV{id o n:Nat}(hb:h[id]?=some (.ak b))(hn:n≤(b.cells.drop o).length)(q:K (.agg ((b.cells.drop o).take n))):ah true n (.op id o) h K:=dr rfl hb hn q
def fo{KH:AV→aa→Prop}(e:(bh v).all bG=true)(q:KH (.op h.length 0) (h++[.ak ⟨t,bh v,true⟩])):aV t v h KH:=⟨e,q⟩
def oI[Laid]{args args':List AV}{KH:AV→aa→Prop}(e:args=args')(hb:dw P f=true)(c:bn P f args' r)(k:KH r h):bx P (.fn (.func f) [] []) args h KH:=by
 subst e;exact tv hb c k
def zzS[Laid]{args:List AV}{KH:AV→aa→Prop}(hb:dw P f=true)(c:bn P f args r)(k:KH r h):bx P (.fn (.func f) [] []) args h KH:=oI rfl hb c k
def bl{cs:List AV}(e:x=.ay cs)(hc:cs[i]?=some c)(q:K c):aR i x K:=by subst e;rw[Qz,hc];exact q
end
section
open Go Go.RowKit
variable [Laid]
omit [Laid] in
theorem xz(n:Nat):∀l,lV n l↔∀a∈l,Bd n a
 | []=>by simp[lV]
 | a:: l=>by rw[lV,xz n l];simp
def HE:List (Nat×AV×AV)→List AV
 | []=>[]
 | (_,k,c):: r=>k:: c:: HE r
omit [Laid] in
theorem B3:∀{es:List (Nat×AV×AV)} {p:Nat×AV×AV},p∈es→p.2.1∈HE es∧p.2.2∈HE es
 | (n,k,c):: r,p,h=>by
  rcases ID.1 h with rfl|h
  ·simp[HE]
  ·have:=B3 h;simp[HE,this.1,this.2]
def rQ(M:Nat)(e:aK):Prop:=match e with|.ak b=>lV M b.cells|.mp _ es=>lV M (HE es)|.it m _ _ _=>m<M|_=>True
theorem cK.cut{base:Nat}(hh:cK base ι S w h)(hM:M≤h.length)(hb:∀e∈h.take M,rQ M e):
 bS M base ι S w (ι.take M) (ia M ι S h) w∧cK base (ι.take M) (ia M ι S h) w (h.take M):=by
 obtain⟨hE,hT⟩:=hh.told hM;refine⟨hE, ?_⟩;have pre:∀{i:Nat},i<M→(ι.take M)[i]?=ι[i]?:=fun q=>by rw[ON,if_pos q]
 have ent:∀{i:Nat} {x:aK},(h.take M)[i]?=some x→i<M∧h[i]?=some x∧(sx M h)[i]?=some (Dp M h x):=by
  intro i x e;rw[ON]at e;split at e
  ·rename_i q;exact⟨q,e,by simp only[sx,iN,ON,if_pos q,e,abw]⟩
  ·cases e
 have alv:∀{i:Nat},alive (h.take M)[i]?→alive (sx M h)[i]?:=by
  intro i ha;cases e:(h.take M)[i]? with
  | none=>rw[e]at ha;exact ha.elim
  | some x =>
    rw[(ent e).2.2];rw[e]at ha;cases x with
    | it m s sn l =>
      have:rQ M (.it m s sn l):=hb _ (gE e);have:m<M:=this;simp only[Dp,if_pos this];trivial
    | dead=>exact ha
    | _=>exact trivial
 refine⟨by simp[hh.len],fun id x e=>?_,fun id t sz n e=>?_,fun id en e=>?_,fun i j b ai aj hi hj=>hT.inj i j b (alv ai) (alv aj) hi hj,hT.iK,hh.kC,hh.gl.fW hE⟩;rotate_left 2
 ·obtain⟨q,e1,e2⟩:=ent e;have hbd:rQ M en:=hb _ (gE e);have hTo:=hT.ky id _ e2;have hho:=hh.ky id en e1;cases en with
  | ak=>trivial
  | tok=>trivial
  | dead=>trivial
  | mp c es =>
    obtain⟨b,arr,h1,h2,h3,h4,_⟩:=hTo;obtain⟨b',arr',k1,_,k3,_,k5⟩:=hho;rw[pre q,k1]at h1;cases h1;rw[k3]at h3;cases h3;exact⟨b,arr,(pre q).trans k1,h2,k3,h4,k5.bd fun p hp=>⟨fun y=>ar.ie hE _ y ((xz M _).1 hbd _ (B3 hp).1),fun y=>ar.ie hE _ y ((xz M _).1 hbd _ (B3 hp).2)⟩⟩
  | it m s sn l =>
    have hm:m<M:=hbd;simp only[Dp,if_pos hm]at hTo;exact hTo
 ·obtain⟨q,e1,e2⟩:=ent e;obtain⟨b,arr,fz,h1,h2,h3,h4,h5,h6,h7,h8,h9⟩:=hT.live id _ e2;refine⟨b,arr,fz,h1,h2,h3,h4,by simpa using h5,fun i c ec=>?_,h7,fun o ho=>by simpa using h8 o ho,fun hw o ho=>h9 hw o (by simpa using ho)⟩;obtain⟨b',arr',fz',k1,k2,k3,k4,k5,k6,_⟩:=hh.live id x e1;rw[pre q,k1]at h1;cases h1;rw[k3]at h3;cases h3;obtain⟨v,e3,r⟩:=k6 i c ec;have hbd:rQ M (.ak x):=hb _ (gE e);exact⟨v,e3,ar.ie hE c v ((xz M x.cells).1 hbd c (gE ec)) r⟩
 ·obtain⟨q,e1,e2⟩:=ent e;exact hT.tok id t sz n e2
def Wk.ZO(hL:L≤M)(hM:M≤h.length)(hb:∀e∈h.take M,rQ M e)(hs:∀a∈s,Bd M a):Wk L s h s (h.take M):=
 ⟨by simp;omega,rfl,fun base ι S w vs r k=>by
  obtain⟨hE,hT⟩:=k.cut hM hb;exact⟨_,_,hE.mono hL (bY _),aB.mk r.length fun i a v e f=>by
   obtain⟨u,hu,ru⟩:=r.get i a e;rw[f]at hu;cases hu;exact ar.ie hE a v (hs a (gE e)) ru,hT⟩⟩
def Wk.nil(hn:n≤h.length)(i:Nat)(hi:s[i]?=some (.v (.slice none 0 0))):Wk n s h (s.set i .emp) h:=by
 refine⟨hn,by simp,fun base ι S w vs r k=>?_⟩;obtain⟨v,hv,rv⟩:=r.get i _ hi;rw[cz]at rv;subst rv;have r2:=r.set i .emp (.slice none 0 0) (by rw[ar];exact⟨_,rfl⟩);have:vs.set i (.slice none 0 0)=vs:=by
  refine List.ext_getElem? fun j=>?_
  by_cases q:j=i
  ·subst q;rw[iD (eQ.1 hv).1,hv]
  ·rw[iF (Ne.symm q)]
 rw[this]at r2;exact⟨ι,S,bS.refl _ _ _ _ _,r2,k⟩
omit [Laid] in
def Gd{k:(List AV→aa→Prop)→Prop}{f:List AV→aa→Prop}(s:List AV)(h:aa)(q:f s h)(hk:∀F:List AV→aa→Prop,F s h→k F):aG k f:=hk f q
def iy{P:Program}{f:FuncId}{args:List AV}(pa:aO args)(fl:Flat r)(pr:Aw.Pure r)(hr:∀w,ar [] (fun _ _=>False) w r v)
 (c:∀ι S w vs,aB ι S w args vs→CA S w→Calls P f vs.toArray w fun e w' => e=.returned v∧Below w.heap.size w w'):bn P f args r:=by
 refine⟨pa,pr, ?_⟩;intro base ι S w vs h1 h2;refine (c ι S w vs h1 h2.gl).mono ?_;rintro e w' ⟨rfl,hB⟩;have hE:bS ι.length w.heap.size ι S w ι S w':=⟨fun _ _=>fX.refl _,fun _ _ q=>q,fun _ _ q=>.inl q,fun b o q=>hB.cell (h2.iK b o q),fun b x hx=>by
  unfold World.shape? at hx ⊢;have hb:b<w.heap.size:=by
   rcases uP b w.heap.size with k|k
   ·exact k
   ·rw[aby k]at hx;cases hx
  rw[hB.block b hb];exact hx,hB⟩
 exact⟨v,ι,S,r,[],rfl,hE.mono (by rw[h2.len];exact bY _) h2.kC,ar.flat r v fl (hr w'),h2.over hE (fun b o q=>Up (h2.iK b o q) hB.size),bY _,rfl⟩
def qi{args args':List AV}{K:AV→Prop}(e:args=args')(hb:dw P f=true)(c:bn P f args' r)(k:K r):wv P (.fn (.func f) [] []) args h K:=by
 subst e;exact⟨r,tv hb c ⟨rfl,rfl⟩,k⟩
def zzT{args:List AV}{K:AV→Prop}(hb:dw P f=true)(c:bn P f args r)(k:K r):wv P (.fn (.func f) [] []) args h K:=qi rfl hb c k
omit [Laid] in
def Vw{m:Nat}{rows:List (List AV)}{n:Nat}{K:AV→Prop}(ex:x=.sl m rows)(ei:i=i_ n)(hn:n<rows.length)(q:K (.ip (rows.getD n []))):aI m x i K:=by
 subst ex;subst ei;rw[Hp];exact⟨rfl,⟨by omega,by omega⟩,by simpa using q⟩
omit [Laid] in
def de{K:AV→Prop}(e:x=.ip (c:: r))(q:K c):ah false 1 x h K:=by subst e;exact q
omit [Laid] in
def zzW{K:AV→Prop}(q:K c):ah false 1 (.ip (c:: r)) h K:=de rfl q
omit [Laid] in
def qg{sz:Nat}{rows:List (List AV)}{K:AV→Prop}(e:x=.sl sz rows)(q:K (i_ rows.length)):bq x K:=by subst e;rw[KO];exact fun _=>q
end
end Go.Aw
namespace Go.bo
section
open Go Go.Aw
abbrev ae:=List UInt8
mutual
inductive Cx where
 | mk (lead:Int) (parts:List Cp) (IZ:List Int)
inductive Cp where
 | mk (tag:ae) (yg:List Sm)
inductive Sm where
 | mk (kind:Int) (name:ae) (op:Int) (value:ae) (fold:Bool) (a b:Int) (of:Bool) (list:List Cx)
end
def Cx.lead:Cx→Int|.mk l _ _=>l
def Cx.parts:Cx→List Cp|.mk _ p _=>p
def Cx.IZ:Cx→List Int|.mk _ _ c=>c
def Cp.tag:Cp→ae|.mk t _=>t
def Cp.yg:Cp→List Sm|.mk _ s=>s
def Sm.kind:Sm→Int|.mk k _ _ _ _ _ _ _ _=>k
def Sm.name:Sm→ae|.mk _ n _ _ _ _ _ _ _=>n
def Sm.op:Sm→Int|.mk _ _ o _ _ _ _ _ _=>o
def Sm.value:Sm→ae|.mk _ _ _ v _ _ _ _ _=>v
def Sm.fold:Sm→Bool|.mk _ _ _ _ f _ _ _ _=>f
def Sm.a:Sm→Int|.mk _ _ _ _ _ a _ _ _=>a
def Sm.b:Sm→Int|.mk _ _ _ _ _ _ b _ _=>b
def Sm.of:Sm→Bool|.mk _ _ _ _ _ _ _ o _=>o
def Sm.list:Sm→List Cx|.mk _ _ _ _ _ _ _ _ l=>l
abbrev u1(n:Int):AV:=.v (.int .u8 n)
/-! ### In memory -/
mutual
def fJ:Cx→List AV
 | .mk l ps cs=>[u1 l,.sl 2 (dn ps),.sl 1 (cs.map fun c=>[u1 c])]
def dn:List Cp→List (List AV)
 | []=>[]
 | p:: ps=>gR p:: dn ps
def gR:Cp→List AV
 | .mk t ss=>[.str t,.sl 9 (dQ ss)]
def dQ:List Sm→List (List AV)
 | []=>[]
 | s:: ss=>du s:: dQ ss
def du:Sm→List AV
 | .mk k n o v f a b w l=>[u1 k,.str n,u1 o,.str v,b_ f,i_ a,i_ b,b_ w,.sl 3 (bL l)]
def bL:List Cx→List (List AV)
 | []=>[]
 | x:: xs=>fJ x:: bL xs
end
theorem dv:∀l,dn l=l.map gR
 | []=>by simp[dn]
 | p:: l=>by simp[dn,dv l]
theorem dE:∀l,dQ l=l.map du
 | []=>by simp[dQ]
 | p:: l=>by simp[dQ,dE l]
theorem cu:∀l,bL l=l.map fJ
 | []=>by simp[bL]
 | p:: l=>by simp[bL,cu l]
def jn(x:Cx):fJ x=[u1 x.lead,.sl 2 (x.parts.map gR),.sl 1 (x.IZ.map fun c=>[u1 c])]:=by
 cases x;simp[fJ,dv,Cx.lead,Cx.parts,Cx.IZ]
def ri(p:Cp):gR p=[.str p.tag,.sl 9 (p.yg.map du)]:=by
 cases p;simp[gR,dE,Cp.tag,Cp.yg]
def mG(s:Sm):du s=[u1 s.kind,.str s.name,u1 s.op,.str s.value,b_ s.fold,i_ s.a,i_ s.b,b_ s.of,.sl 3 (s.list.map fJ)]:=by
 cases s;simp[du,cu,Sm.kind,Sm.name,Sm.op,Sm.value,Sm.fold,Sm.a,Sm.b,Sm.of,Sm.list]
theorem Bm:∀cs:List Int,cG (cs.map fun c=>[u1 c])
 | []=>by simp[cG]
 | c:: cs=>by simp[cG,aO,Aw.Pure,Bm cs]
mutual
theorem x6:∀x:Cx,aO (fJ x)
 | .mk l ps cs=>by simp[fJ,aO,Aw.Pure,Bm,si ps]
theorem si:∀l:List Cp,cG (dn l)
 | []=>by simp[dn,cG]
 | p:: l=>by simp[dn,cG,DL p,si l]
theorem DL:∀p:Cp,aO (gR p)
 | .mk t ss=>by simp[gR,aO,Aw.Pure,xc ss]
theorem xc:∀l:List Sm,cG (dQ l)
 | []=>by simp[dQ,cG]
 | s:: l=>by simp[dQ,cG,DM s,xc l]
theorem DM:∀s:Sm,aO (du s)
 | .mk k n o v f a b w l=>by simp[du,aO,Aw.Pure,gH l]
theorem gH:∀l:List Cx,cG (bL l)
 | []=>by simp[bL,cG]
 | x:: l=>by simp[bL,cG,x6 x,gH l]
end
/-! ### What is valid -/
def gF(s:ae):Bool:=s.all fun b=>!(b == 0)
def named(s:ae):Bool:=!decide (s=[])&&decide ((s.length:Int)≤64)&&gF s
def dX(b:UInt8):UInt8:=if 65≤b∧b≤90 then b ||| 32 else b
def small(s:ae):Bool:=named s&&decide (s.map dX=s)
def eO(k:Int):Bool:=decide (k=9)||decide (k=10)
def gu(n:Int):Bool:=decide (-1000000000≤n∧n≤1000000000)
def jq(k:Int)(n:ae)(o:Int)(v:ae)(f:Bool)(a b:Int)(w:Bool):Bool:=
 if k=1∨k=2 then named n&&decide (o=0)&&decide (v=[])&&!f&&decide (a=0)&&decide (b=0)&&!w
 else if k=3 then small n&&decide (o≤6)&&gF v&&decide ((v.length:Int)≤400)&&(!decide (o=0)||decide (v=[])&&!f)&&decide (a=0)&&decide (b=0)&&!w
 else decide (n=[])&&decide (o=0)&&decide (v=[])&&!f&&decide (4≤k∧k≤14)&&(if eO k then gu a&&gu b else decide (a=0)&&decide (b=0)&&!w)
def gw(k:Int)(w:Bool):Bool:=eO k&&w||decide (11≤k∧k≤14)
def nF(k:Int):Bool:=decide (k=11)||decide (k=12)
mutual
def eS(d:Nat)(has rel:Bool):Cx→Bool
 | .mk l ps cs=>(rel == !decide (l=0))&&decide (l≤4)&&decide (cs.length+1=ps.length)&&decide (ps.length≤64)&&cs.all (fun c=>decide (1≤c∧c≤4))&&jQ d has ps
def jQ(d:Nat)(has:Bool):List Cp→Bool
 | []=>true
 | p:: l=>cN d has p&&jQ d has l
def cN(d:Nat)(has:Bool):Cp→Bool
 | .mk t ss=>(decide (t=[])||decide (t=[42])||small t)&&decide (ss.length≤64)&&!(decide (t=[])&&ss.isEmpty)&&jb d has ss
def jb(d:Nat)(has:Bool):List Sm→Bool
 | []=>true
 | s:: l=>ic d has s&&jb d has l
def ic(d:Nat)(has:Bool):Sm→Bool
 | .mk k n o v f a b w l=>jq k n o v f a b w&&(if gw k w then decide (d≠3)&&!(has&&decide (k=14))&&(nF k||!l.isEmpty)&&cX (d+1) (has||decide (k=14)) (decide (k=14)) l else l.isEmpty)
def cX(d:Nat)(has rel:Bool):List Cx→Bool
 | []=>true
 | x:: l=>eS d has rel x&&cX d has rel l
end
theorem ml(d:Nat)(has:Bool):∀l,jQ d has l=l.all (cN d has)
 | []=>by simp[jQ]
 | p:: l=>by simp[jQ,ml d has l]
theorem kU(d:Nat)(has:Bool):∀l,jb d has l=l.all (ic d has)
 | []=>by simp[jb]
 | p:: l=>by simp[jb,kU d has l]
theorem kV(d:Nat)(has rel:Bool):∀l,cX d has rel l=l.all (eS d has rel)
 | []=>by simp[cX]
 | p:: l=>by simp[cX,kV d has rel l]
/-! ### How many -/
mutual
def nX:Cx→Nat
 | .mk _ ps _=>fC ps
def fC:List Cp→Nat
 | []=>0
 | p:: l=>nP p+fC l
def nP:Cp→Nat
 | .mk _ ss=>dN ss
def dN:List Sm→Nat
 | []=>0
 | s:: l=>nS s+dN l
def nS:Sm→Nat
 | .mk _ _ _ _ _ _ _ _ l=>l.length+dJ l
def dJ:List Cx→Nat
 | []=>0
 | x:: l=>nX x+dJ l
end
def number(l:List Cx):Nat:=l.length+dJ l
def iw(l:List Cx):Int:=if !l.isEmpty&&cX 0 false false l then (if number l≤64 then 0 else 4) else 8
/-! ### How great -/
mutual
def zX:Cx→Nat
 | .mk _ ps cs=>1+cs.length+gh ps
def gh:List Cp→Nat
 | []=>0
 | p:: l=>zP p+gh l
def zP:Cp→Nat
 | .mk t ss=>1+t.length+gL ss
def gL:List Sm→Nat
 | []=>0
 | s:: l=>zS s+gL l
def zS:Sm→Nat
 | .mk _ n _ v _ _ _ _ l=>1+n.length+v.length+cQ l
def cQ:List Cx→Nat
 | []=>0
 | x:: l=>zX x+cQ l
end
end
end Go.bo
namespace Go.Proofs.YtpcnidmmkknndaaGreatDoor
section
open Go Go.Aw Go.bo Go.ChangeShapes Go.WideShapes Go.ChangeAt Go.RowKit
def nj(F:Nat)(P:Program)(t:TypeId){X:Type}(ea:X→List AV)(sz:X→Nat):Prop:=
 ∀(H:Type) (enc:TypeId×Value→H) (W:World) (fuel:Nat) (cs:List Value) (d:DataW H) (ps:List MemPlace),fuel≤F →
  DataW.trod enc P W 0 (fun _=>true) true fuel t cs=some (d,ps)→∃x,aB [] (old W) W (ea x) cs∧cs.length=P.cellsOf t∧sz x≤Rows.uptoBulk d
def xX(ht:P.underlying t=some (.int k))(hc:P.cellsOf t=1):nj F P t (fun n:Int=>[.v (.int k n)]) (fun _=>1):=by
 intro H enc W fuel cs d ps _ h;obtain⟨n,rfl,e,hn⟩:=DataW.trod_int ht h;simp only[aaY]at e;obtain⟨rfl,_⟩:=e;exact⟨n,by simp,by simp[hc],by simp[Rows.uptoBulk]⟩
def Fq(ht:P.underlying t=some .bool)(hc:P.cellsOf t=1):nj F P t (fun b:Bool=>[.v (.bool b)]) (fun _=>1):=by
 intro H enc W fuel cs d ps _ h;obtain⟨n,rfl,e⟩:=DataW.trod_bool ht h;simp only[aaY]at e;obtain⟨rfl,_⟩:=e;exact⟨n,by simp,by simp[hc],by simp[Rows.uptoBulk]⟩
def vD(ht:P.underlying t=some .string)(hc:P.cellsOf t=1):nj F P t (fun s:List UInt8=>[.str s]) (fun s=>s.length+1):=by
 intro H enc W fuel cs d ps _ h;obtain⟨s,rfl,e,hs⟩:=DataW.trod_string ht h;simp only[aaY]at e;obtain⟨rfl,_⟩:=e;exact⟨s.data.toList,by simpa using hs,by simp[hc],by simp[Rows.uptoBulk]⟩
theorem yr{H:Type}:∀a b:List (DataW H),Rows.uptoBulkAll (a++b)=Rows.uptoBulkAll a+Rows.uptoBulkAll b
 | [],b=>by simp[Rows.uptoBulkAll]
 | x:: a,b=>by rw[abv,Rows.uptoBulkAll,Rows.uptoBulkAll,yr a b];omega
theorem qb{X:Type}{ea:X→List AV}{sz:X→Nat}(ht:P.underlying t=some (.slice e))(hc:P.cellsOf t=1)(hpos:0<P.cellsOf e)(hx:nj F P e ea sz):
 nj F P t (fun l:List X=>[.sl (P.cellsOf e) (l.map ea)]) (fun l=>(l.map sz).sum+1):=by
 intro H enc W fuel cs d ps hF h;obtain⟨rfl,e1⟩|⟨a,len,cap,elems,rest,n,rfl,rfl,e1,_,hlc,hcm,hlen,hel,_,_⟩:=DataW.trod_slice ht h
 ·simp only[aaY]at e1;obtain⟨rfl,_⟩:=e1;refine⟨[], ?_,by simp[hc],by simp[Rows.uptoBulk]⟩;simp only[List.map_nil,bP,dt,and_true];rw[ar];exact⟨none,0,rfl,bY _,aa2 _,.inl rfl⟩
 ·simp only[aaY]at e1;obtain⟨rfl,_⟩:=e1;have key:∀i,(hi:i<elems.length)→∃x,sz x≤Rows.uptoBulk (elems[i]).1∧∃us:List Value,aB [] (old W) W (ea x) us∧us.length=P.cellsOf e∧∀j,j<us.length→W.cell? ((a.add (i*P.cellsOf e)).add j)=us[j]?:=by
   intro i hi;have h0:=hel i (by omega);rw[dO hi]at h0;obtain⟨us,hus,hu⟩:=Option.bind_eq_some_iff.1 h0;obtain⟨_,hul,huc⟩:=World.cells?_some hus;obtain⟨x,h2,h3,h4⟩:=hx H enc W n us elems[i].1 elems[i].2 (by omega) hu;exact⟨x,h4,us,h2,h3,fun j hj=>huc j (by omega)⟩
  have hlist:∀k,k≤len→∃l:List X,l.length=k∧(l.map sz).sum≤Rows.uptoBulkAll ((elems.take k).map (·.1))∧∀i x,l[i]?=some x→∃us:List Value,aB [] (old W) W (ea x) us∧us.length=P.cellsOf e∧∀j,j<us.length→W.cell? ((a.add (i*P.cellsOf e)).add j)=us[j]?:=by
   intro k;induction k with
   | zero=>intro _;exact⟨[],rfl,by simp,by simp⟩
   | succ k ih =>
     intro hk;obtain⟨l,hl,hs,hi⟩:=ih (by omega);obtain⟨x,hx1,hx2⟩:=key k (by omega);refine⟨l++[x],by simp[hl], ?_,fun i y hy=>?_⟩
     ·rw[By,dO (by omega),Option.toList_some];simp only[List.map_append,yr,List.sum_append,GO,List.map_nil,List.sum_cons,List.sum_nil,Rows.uptoBulkAll];omega
     rcases Nat.lt_trichotomy i k with q|q|q
     ·rw[gO (by omega)]at hy;exact hi i y hy
     ·subst q;rw[gT (by omega)]at hy;simp[hl]at hy;subst hy;exact hx2
     ·rw[iS (by simp;omega)]at hy;cases hy
  obtain⟨l,hl,hs,hi⟩:=hlist len (by omega);rw[MK (by omega)]at hs;refine⟨l, ?_,by simp[hc],by show (l.map sz).sum+1≤_;rw[Rows.uptoBulk];omega⟩;simp only[bP,dt,and_true];rw[ar];refine⟨some a,cap,by simp[hl],by simpa[hl]using hlc,hcm, ?_⟩;cases l with
  | nil=>exact .inl rfl
  | cons x0 l0 =>
    right;obtain⟨us0,_,hu0,hu1⟩:=hi 0 x0 rfl;obtain⟨b,off,spot⟩:=a;have hsp:spot=none:=by
     have h1:=hu1 0 (by omega);rw[dO (by omega)]at h1;simpa[Addr.add]using World.cell?_spot h1
    subst hsp;refine⟨b,off,rfl,cn.mk fun i r hr=>?_⟩;rw[iN]at hr;cases hxi:(x0:: l0)[i]? with
    | none=>rw[hxi]at hr;cases hr
    | some x =>
      rw[hxi]at hr;cases hr;obtain⟨us,k1,k2,k3⟩:=hi i x hxi;refine⟨by rw[k1.length];exact k2,bE.mk fun j c ec=>?_⟩;obtain⟨u,e1,e2⟩:=k1.get j c ec;have h1:=k3 j (eQ.1 e1).1;rw[e1,Aw.add_plain,Aw.add_plain]at h1;refine⟨u,h1, ?_,e2⟩;show b<W.heap.size;unfold World.cell? at h1;split at h1
      ·rename_i c1 c2 c3 hh;exact (AS.1 hh).1
      ·cases h1
theorem Ir:∀l:List Cx,(l.map zX).sum=cQ l
 | []=>by simp[cQ]
 | x:: l=>by rw[GO,List.sum_cons,cQ,Ir l]
theorem Ip:∀l:List Cp,(l.map zP).sum=gh l
 | []=>by simp[gh]
 | x:: l=>by rw[GO,List.sum_cons,gh,Ip l]
theorem Iq:∀l:List Sm,(l.map zS).sum=gL l
 | []=>by simp[gL]
 | x:: l=>by rw[GO,List.sum_cons,gL,Iq l]
theorem Io:∀l:List Int,(l.map fun _=>1).sum=l.length
 | []=>rfl
 | x:: l=>by rw[GO,List.sum_cons,Io l];simp;omega
def Q1(F:Nat):nj F p_ 44 (fun p:Int×Int=>[i_ p.1,i_ p.2]) (fun _=>1):=by
 intro H enc W fuel cs d ps hF h;obtain⟨xs,n,rfl,e1,hl,hn,hf⟩:=DataW.trod_struct Tryz.underlying44 h
 match xs,hn with
 | [y0,y1],_ =>
   have h0:=hf 0 _ rfl;have h1:=hf 1 _ rfl;rw[show p_.cellsOf 44=2 by kernel_rfl]at hl
   match cs,hl with
   | [c0,c1],_ =>
     obtain⟨a,ra,_,_⟩:=xX (F:=n) Tryz.underlying2 (by kernel_rfl) H enc W n _ y0.1 y0.2 (bY _) h0;obtain⟨b,rb,_,_⟩:=xX (F:=n) Tryz.underlying2 (by kernel_rfl) H enc W n _ y1.1 y1.2 (bY _) h1;simp only[aaY]at e1;obtain⟨rfl,_⟩:=e1;have ra:aB [] (old W) W [i_ a] [c0]:=ra;have rb:aB [] (old W) W [i_ b] [c1]:=rb;refine⟨(a,b),by simpa using⟨by simpa using ra,by simpa using rb⟩,by rw[show p_.cellsOf 44=2 by kernel_rfl];rfl,by show 1≤_;rw[Rows.uptoBulk];omega⟩
def Lm(F:Nat):nj F p_ 35 (fun l:List Int=>[.sl 1 (l.map fun c=>[u1 c])]) (fun l=>l.length+1):=by
 have:=qb (F:=F) Tryz.underlying35 (by kernel_rfl) (lT (by kernel_rfl)) (xX (F:=F) Tryz.underlying5 (by kernel_rfl));rw[show p_.cellsOf 5=1 by kernel_rfl]at this;simpa only[Io]using this
end
section
open Go Go.Aw
variable [Laid]
def XD(c:AV)(h:aa)(K:AV→aa→Prop):Prop:=
 iC p_ 45 [c,u8 0] h fun d e=>aV 104 (.agg [i_ 0,i_ 0,ff]) e fun b f=>ao 3 b d f fun a=>iFL 0 false 1 b a fun g=>qBe .gtr g 16 fun i=>af i (K (i_ 20) a) (iFL 1 false 1 b a fun j=>qBe .gtr j 1500 fun k=>af k (K (i_ 4) a) (iFL 2 false 1 b a fun l=>af l (K (i_ 8) a) (K (i_ 0) a)))
def V31(a:AV):Body p_ 31 [a] (XD a):=bC Tryz.func31 .nil 17 [.tmp 2]
def XQ(c e:AV)(h:aa)(K:AV→aa→Prop):Prop:=
 aV 104 (.agg [i_ 0,i_ 0,ff]) h fun b E=>aV 104 (.agg [i_ 0,i_ 0,ff]) E fun a F=>bq c fun f=>bN [i_ 0] F fun G d l =>
 ag .lss (nx d 0) f fun H=>af H (aG (fun q=>aI 6 c (nx d 0) fun I=>ah true 6 I l fun J=>aV 74 (.agg [u8 0,.str [],i_ 0,.str [],ff,qNs]) l fun g L=>ao 6 g J L fun r=>iFL 1 false 1 a r fun M=>qBe .add M 1 fun N=>bg 1 a fun O=>ao 1 O N r fun s=>bg 0 g fun P=>iFL 0 false 1 P s fun Q=>iC p_ 30 [Q] s fun i n=>aG (fun t=>ag .neq e (u8 0) fun R=>qJa R [e,b,a,g,i,c,f,nx d 0] n (fun S=>bg 0 g fun T=>iFL 0 false 1 T n fun U=>ag .eql U e fun V=>S V n) fun u v=>aG (fun w=>aM u false (ag .eql i (u8 0) fun W=>eC [e,b,a,g,i,c,f,nx d 0] (w [ff,W] v)) (eC [e,b,a,g,i,c,f,nx d 0] (w [cd false u,un] v))) fun k o=>aG (fun x=>aM (nx k 1) true (iFL 5 false 1 g o fun X=>bq X fun Y=>qBe .gtr Y 0 fun Z=>eC [e,b,a,g,i,c,f,nx d 0,nx k 0] (x [tt,Z] o)) (eC [e,b,a,g,i,c,f,nx d 0,nx k 0] (x [(cd true (nx k 1)),un] o))) fun y z=>qJo (nx k 0) [e,b,a,g,i,c,f,nx d 0] z (fun a0=>bQ (nx y 0) (nx y 1) ff fun a1=>a0 a1 z) fun a2 A=>af a2 (bg 2 a fun a3=>ao 1 a3 tt A fun a4=>eC [e,b,a,g,i,c,f,nx d 0] (t [] a4)) (eC [e,b,a,g,i,c,f,nx d 0] (t [] A))) fun c6 p=>ag .eql i (u8 0) fun a5=>af a5 (eC [e,b,a,c,f,nx d 0] (q [] p)) (iFL 5 false 1 g p fun a6=>iC p_ 45 [a6,i] p fun a7 a8=>aV 104 (.agg [i_ 0,i_ 0,ff]) a8 fun m a9=>ao 3 m a7 a9 fun j=>iFL 0 false 1 a j fun b0=>iFL 0 false 1 m j fun b1=>qBe .add b1 1 fun b2=>kA b0 b2 fun B=>iFL 1 false 1 a j fun b3=>iFL 1 false 1 m j fun b4=>ag .add b3 b4 fun b5=>qBe .add b5 1 fun C=>iFL 2 false 1 a j fun b6=>qJo b6 [e,b,a,c,f,nx d 0,B,C] j (fun b7=>iFL 2 false 1 m j fun b8=>b7 b8 j) fun b9 c0=>aW (.agg [i_ 0,i_ 0,ff]) [(0,1,B),(1,1,C),(2,1,b9)] fun c1=>ao 3 a c1 c0 fun c2=>eC [e,b,a,c,f,nx d 0] (q [] c2))) fun c7 c3=>qBe .add (nx d 0) 1 fun c4=>eC [e,b,a,c,f] (G [c4] c3)) (ah true 3 a l fun c5=>ao 3 b c5 l fun D=>ah true 3 b D fun r91=>K r91 D)
def V45(a b:AV):Body p_ 45 [a,b] (XQ a b):=bC Tryz.func45 (sn (sn (.seq (sn (.one (.loop [1,4,5,10,11] [12] (sn (sn (.join [1,4,5,10,11,12] [] (.one (sn (sn (sn (.join [1,4,5,7,8,10,11,12] [] (.seq (.aN (oR 0 3 (.aA 2 true (fR 3 5) [1,4,5,7,8,10,11,12] [26,31]::oR 8 2 (.aA 9 false (fR 10 3) [1,4,5,7,8,10,11,12] [33,36]::.aA 12 true (fR 13 4) [1,4,5,7,8,10,11,12,33] [36,40]::.aA 9 false [(17,false)] [1,4,5,7,8,10,11,12] [33,41]::.op 18 false::[])))) .nil) (sn (sn (.aN (oR 0 15 (.aA 14 false (fR 15 2) [1,4,5,10,11,12,55,61] [64,66]::oR 17 3 [])))))))))) .nil)))))) .nil))) 71 [.cell 4 104]
def X2(a b:AV)(h:aa)(K:AV→aa→Prop):Prop:=
 qLd p_ a 1 h fun c=>ag .add c b fun d=>qLd p_ a 0 h fun e=>lq e fun f=>ag .lss d f fun g=>af g (qLd p_ a 0 h fun i=>qLd p_ a 1 h fun j=>ag .add j b fun k=>eD i k fun l=>cy .i64 l fun m=>K m h) (K (i_ (-1)) h)
def V61(a b:AV):Body p_ 61 [a,b] (X2 a b):=bC Tryz.func61 (sn (.seq (.seq (.draw 12 (oR 0 12 []) [] []) (.two (.seq (.draw 13 (oR 0 13 []) [] []) .nil) .nil)) .nil)) 29 [.tmp 4]
def X4(a c:AV)(h:aa)(K:AV→aa→Prop):Prop:=
 bN [] h fun d m e =>
 iC p_ 61 [a,i_ 0] e fun f g=>bx p_ c [f] g fun i b=>af i (qLd p_ a 1 b fun j=>qBe .add j 1 fun k=>qSt p_ a 1 k b fun l=>eC [a,c] (d [] l)) (K (.ay []) b)
def V63(a b:AV):Body p_ 63 [a,b] (X4 a b):=bC Tryz.func63 (.one (.loop [0,1] [] .nil)) 15 []
def X7(a b:AV)(h:aa)(K:AV→aa→Prop):Prop:=
 iC p_ 61 [a,b] h fun d c=>qBe .eql d 92 fun e=>qKa e c (fun f=>qBe .add b 1 fun g=>iC p_ 61 [a,g] c fun i j=>qBe .neq i 10 fun k=>f k j) fun l m=>K l m
def V66(a b:AV):Body p_ 66 [a,b] (X7 a b):=bC Tryz.func66 (sn (.seq (.aN (oR 0 5 (.aA 4 true (fR 5 5) [] [9,14]::oR 10 2 []))) .nil)) 16 [.tmp 4]
def X8(a b:AV)(h:aa)(K:AV→aa→Prop):Prop:=
 iC p_ 61 [a,b] h fun g c=>qBe .neq g 45 fun i=>af i (iC p_ 61 [a,b] c fun j k=>iC p_ 97 [j] k fun l d=>qKo l d (fun m=>iC p_ 66 [a,b] d m) fun n o=>K n o) (qBe .add b 1 fun p=>iC p_ 61 [a,p] c fun q r=>iC p_ 97 [q] r fun s e=>qJo s [a,b] e (fun t=>qBe .add b 1 fun u=>iC p_ 61 [a,u] e fun v w=>qBe .eql v 45 fun x=>t x w) fun y f=>qKo y f (fun z=>qBe .add b 1 fun A=>iC p_ 66 [a,A] f z) fun B C=>K B C)
def V67(a b:AV):Body p_ 67 [a,b] (X8 a b):=bC Tryz.func67 (sn (.seq (sn (.two (.seq (.aN (oR 0 5 (.aA 4 false (fR 5 3) [] [13,16]::oR 8 2 []))) .nil) .nil)) (.seq (.aN (oR 0 6 (.aA 5 false (fR 6 5) [0,1] [23,28]::oR 11 2 (.aA 12 false (fR 13 4) [] [30,34]::oR 17 2 [])))) .nil))) 36 [.tmp 4]
def X9(a:AV)(h:aa)(K:AV→aa→Prop):Prop:=
 bN [qNs] h fun f b i =>
 iC p_ 61 [a,i_ 0] i fun c j=>iC p_ 65 [c] j fun k d=>af k (cy .u8 c fun l=>bt 1 1 (u8 0) [(0,1,l)] fun m=>bR false 5 1 1 (nx b 0) m d fun n g=>qLd p_ a 1 g fun o=>qBe .add o 1 fun p=>qSt p_ a 1 p g fun q=>eC [a] (f [n] q)) (qBe .neq c (-1) fun r=>qJa r [a,nx b 0] d (fun s=>iC p_ 66 [a,i_ 0] d s) fun t e=>af t (iC p_ 96 [a,nx b 0] e fun u v=>eC [a] (f [u] v)) (cP (nx b 0) e fun w=>K w e))
def V68(a:AV):Body p_ 68 [a] (X9 a):=bC Tryz.func68 (sn (sn (.one (.loop [0] [3] (.one (sn (.one (sn (.two (.seq (.aN (oR 0 3 (.op 3 true::oR 4 2 []))) .nil) (.seq (.aN (oR 0 3 (.aA 2 true (fR 3 2) [0,3] [27,29]::oR 5 2 []))) .nil)))))))))) 34 [.tmp 2]
def Ya(a:AV)(h:aa)(K:AV→aa→Prop):Prop:=
 aG (fun c=>iC p_ 61 [a,i_ 0] h fun d e=>qBe .eql d 43 fun j=>qJo j [a,i_ 0] e (fun k=>qBe .eql d 45 fun l=>k l e) fun m f=>af m (qBe .add (i_ 0) 1 fun n=>eC [a] (c [n] f)) (eC [a] (c [i_ 0] f))) fun b o=>aG (fun g=>iC p_ 61 [a,nx b 0] o fun p i=>qBe .eql p 46 fun q=>af q (qBe .add (nx b 0) 1 fun r=>eC [a] (g [r] i)) (eC [a] (g [nx b 0] i))) fun s t=>iC p_ 61 [a,nx s 0] t fun u v=>iC p_ 98 [u] v fun w x=>K w x
def V69(a:AV):Body p_ 69 [a] (Ya a):=bC Tryz.func69 (sn (sn (.join [0] [3] (sn (.seq (.aN (oR 0 3 (.aA 2 false (fR 3 2) [0,3] [9,11]::.op 5 false::[]))) .nil)) (.join [0] [3] .nil .nil)))) 25 [.tmp 2]
def Yz(a:AV)(h:aa)(K:AV→aa→Prop):Prop:=
 aG (fun f=>iC p_ 61 [a,i_ 0] h fun g i=>qBe .eql g 43 fun s=>qJo s [a] i (fun t=>qBe .eql g 45 fun u=>t u i) fun v c=>af v (qLd p_ a 1 c fun w=>qBe .add w 1 fun x=>qSt p_ a 1 x c fun y=>eC [a] (f [] y)) (eC [a] (f [] c))) fun a7 z=>iC p_ 63 [a,.fn (.func 98) [] []] z fun a8 A=>aG (fun j=>iC p_ 61 [a,i_ 0] A fun B k=>qBe .eql B 46 fun C=>qJa C [a,tt] k (fun D=>iC p_ 61 [a,i_ 1] k fun E F=>iC p_ 98 [E] F D) fun G d=>af G (qLd p_ a 1 d fun H=>qBe .add H 1 fun I=>qSt p_ a 1 I d fun J=>iC p_ 63 [a,.fn (.func 98) [] []] J fun a9 L=>eC [a] (j [ff] L)) (eC [a] (j [tt] d))) fun b M=>iC p_ 61 [a,i_ 0] M fun N l=>qBe .eql N 101 fun O=>qJo O [a,nx b 0] l (fun P=>iC p_ 61 [a,i_ 0] l fun Q R=>qBe .eql Q 69 fun S=>P S R) fun T m=>af T (aG (fun n=>iC p_ 61 [a,i_ 1] m fun o p=>qBe .eql o 43 fun U=>qJo U [a,nx b 0,i_ 1] p (fun V=>qBe .eql o 45 fun W=>V W p) fun X q=>af X (qBe .add (i_ 1) 1 fun Y=>eC [a,nx b 0] (n [Y] q)) (eC [a,nx b 0] (n [i_ 1] q))) fun r Z=>iC p_ 61 [a,nx r 0] Z fun a0 a1=>iC p_ 98 [a0] a1 fun a2 e=>af a2 (qLd p_ a 1 e fun a3=>ag .add a3 (nx r 0) fun a4=>qSt p_ a 1 a4 e fun a5=>iC p_ 63 [a,.fn (.func 98) [] []] a5 fun b0 a6=>K ff a6) (K (nx b 0) e)) (K (nx b 0) m)
def V99(a:AV):Body p_ 99 [a] (Yz a):=bC Tryz.func99 (sn (.join [0] [] (sn (.seq (.aN (oR 0 3 (.aA 2 false (fR 3 2) [0] [11,13]::.op 5 false::[]))) .nil)) (sn (sn (.join [0] [4] (.seq (.aN (oR 0 4 (.aA 3 true (fR 4 3) [0,4] [27,30]::.op 7 false::[]))) .nil) (.seq (.seq (.aN (oR 0 4 (.aA 3 false (fR 4 3) [0,4] [44,47]::.op 7 false::[]))) (.two (sn (.join [0,4] [5] (sn (.seq (.aN (oR 0 3 (.aA 2 false (fR 3 2) [0,4,5] [53,55]::.op 5 false::[]))) .nil)) .nil)) .nil)) .nil)))))) 74 [.tmp 2]
def Yb(b:AV)(h:aa)(K:AV→aa→Prop):Prop:=
 aV 70 (.agg [u8 0,.str [],i_ 0,.str [],ff]) h fun c f=>qLd p_ b 1 f fun k=>iC p_ 99 [b] f fun l a=>qLd p_ b 0 a fun m=>qLd p_ b 1 a fun n=>eV m (some k) (some n) fun o=>wT p_ (.fn (.func 100) [] []) [o] a fun p=>aW (.agg [u8 0,.str [],i_ 0,.str [],ff]) [(0,1,(u8 10)),(2,1,p),(4,1,l)] fun q=>(fun (r:aa)=>ao 5 (AV.op (a.length+1+0) 0) q r fun s=>aG (fun d=>iC p_ 67 [b,i_ 0] s fun t g=>af t (iC p_ 68 [b] g fun u v=>bg 0 (AV.op (a.length+1+0) 0) fun w=>ao 1 w (u8 12) v fun x=>bg 3 (AV.op (a.length+1+0) 0) fun y=>ao 1 y u x fun z=>eC [c,(AV.op (a.length+1+0) 0)] (d [] z)) (iC p_ 61 [b,i_ 0] g fun A e=>qBe .eql A 37 fun B=>af B (qLd p_ b 1 e fun C=>qBe .add C 1 fun D=>qSt p_ b 1 D e fun E=>bg 0 (AV.op (a.length+1+0) 0) fun F=>ao 1 F (u8 11) E fun G=>bg 4 (AV.op (a.length+1+0) 0) fun H=>ao 1 H ff G fun I=>eC [c,(AV.op (a.length+1+0) 0)] (d [] I)) (eC [c,(AV.op (a.length+1+0) 0)] (d [] e)))) fun L i=>ah true 5 (AV.op (a.length+1+0) 0) i fun J=>ao 5 c J i fun j=>ah true 5 c j fun r46=>K r46 j) (a++[.dead]++[.ak ⟨70,[u8 0,.str [],i_ 0,.str [],ff],true⟩])
def V70(a:AV):Body p_ 70 [a] (Yb a):=bC Tryz.func70 (sn (sn (sn (.seq (.Ji 14 [13] (fR 0 14) [.op 14 false] []) (.join [2,5] [] .nil .nil))))) 46 [.cell 2 70]
def Yc(b:AV)(h:aa)(K:AV→aa→Prop):Prop:=
 aV 70 (.agg [u8 0,.str [],i_ 0,.str [],ff]) h fun a o=>iC p_ 68 [b] o fun c p=>iC p_ 61 [b,i_ 0] p fun q d=>qBe .neq q 40 fun r=>af r (aW (.agg [u8 0,.str [],i_ 0,.str [],ff]) [(0,1,(u8 1)),(1,1,c)] fun s=>ao 5 a s d fun g=>ah true 5 a g fun r10=>K r10 g) (qLd p_ b 1 d fun t=>qBe .add t 1 fun u=>qSt p_ b 1 u d fun v=>aG (fun i=>iC p_ 101 [c,.str [117,114,108]] v fun w e=>af w (ca p_ b fun x=>ah true 2 x e fun y=>aV 101 (.agg [.str [],i_ 0]) e fun f z=>ao 2 f y z fun A=>iC p_ 63 [f,.fn (.func 62) [] []] A fun L B=>iC p_ 61 [f,i_ 0] B fun j k=>qBe .neq j 34 fun C=>qJa C [b,a,c] k (fun D=>qBe .neq j 39 fun E=>D E k) fun F l=>af F (iC p_ 102 [b] l fun G H=>ao 5 a G H fun m=>ah true 5 a m fun r39=>K r39 m) (eC [a,c] (i [] l))) (eC [a,c] (i [] e))) fun M I=>aW (.agg [u8 0,.str [],i_ 0,.str [],ff]) [(0,1,(u8 2)),(1,1,c)] fun J=>ao 5 a J I fun n=>ah true 5 a n fun r44=>K r44 n)
def V71(a:AV):Body p_ 71 [a] (Yc a):=bC Tryz.func71 (sn (sn (sn (sn (.join [2,3] [] (sn (.two (sn (sn (sn (.seq (.aN (oR 0 3 (.aA 2 true (fR 3 2) [0,2,3] [29,31]::.op 5 false::[]))) .nil)))) .nil)) .nil))))) 37 [.cell 2 70]
def XP(a:AV)(h:aa)(K:AV→aa→Prop):Prop:=
 aV 70 (.agg [u8 0,.str [],i_ 0,.str [],ff]) h fun b f=>iQ p_ 61 [a,i_ 0] f fun c=>qLd p_ a 0 f fun I=>qLd p_ a 1 f fun J=>eV I (some J) none fun d=>iC p_ 62 [c] f fun L i=>af L (iC p_ 63 [a,.fn (.func 62) [] []] i fun e5 M=>aW (.agg [u8 0,.str [],i_ 0,.str [],ff]) [(0,1,(u8 13))] fun N=>ao 5 b N M fun n=>ah true 5 b n fun r17=>K r17 n) (qBe .eql c 34 fun O=>qJo O [a,b,c,d] i (fun P=>qBe .eql c 39 fun Q=>P Q i) fun R j=>af R (iC p_ 64 [a] j fun S T=>ao 5 b S T fun o=>ah true 5 b o fun r27=>K r27 o) (qBe .eql c 35 fun p=>aG (fun q=>aM p true (iC p_ 61 [a,i_ 1] j fun U V=>iC p_ 65 [U] V fun W X=>eC [a,b,c,d] (q [tt,W] X)) (eC [a,b,c,d] (q [cd true p,un] j))) fun e r=>aG (fun s=>aM (nx e 1) false (iC p_ 66 [a,i_ 1] r fun Y Z=>eC [a,b,c,d,nx e 0] (s [ff,Y] Z)) (eC [a,b,c,d,nx e 0] (s [(cd false (nx e 1)),un] r))) fun t u=>qJa (nx e 0) [a,b,c,d] u (fun a0=>bQ (nx t 0) tt (nx t 1) fun a1=>a0 a1 u) fun a2 v=>af a2 (iC p_ 67 [a,i_ 1] v fun a3 w=>qLd p_ a 1 w fun a4=>qBe .add a4 1 fun a5=>qSt p_ a 1 a5 w fun a6=>iC p_ 68 [a] a6 fun a7 a8=>aW (.agg [u8 0,.str [],i_ 0,.str [],ff]) [(0,1,(u8 4)),(1,1,a7),(4,1,a3)] fun a9=>ao 5 b a9 a8 fun x=>ah true 5 b x fun r59=>K r59 x) (iC p_ 69 [a] v fun b0 y=>af b0 (iC p_ 70 [a] y fun b1 b2=>ao 5 b b1 b2 fun z=>ah true 5 b z fun r65=>K r65 z) (iC p_ 59 [d,.str [45,45,62]] y fun b3 k=>af b3 (qLd p_ a 1 k fun b4=>qBe .add b4 3 fun b5=>qSt p_ a 1 b5 k fun b6=>aW (.agg [u8 0,.str [],i_ 0,.str [],ff]) [(0,1,(u8 15))] fun b7=>ao 5 b b7 b6 fun A=>ah true 5 b A fun r77=>K r77 A) (iC p_ 59 [d,.str [60,33,45,45]] k fun b8 g=>af b8 (qLd p_ a 1 g fun b9=>qBe .add b9 4 fun c0=>qSt p_ a 1 c0 g fun c1=>aW (.agg [u8 0,.str [],i_ 0,.str [],ff]) [(0,1,(u8 14))] fun c2=>ao 5 b c2 c1 fun B=>ah true 5 b B fun r89=>K r89 B) (qBe .eql c 64 fun c3=>qJa c3 [a,b,c,d] g (fun c4=>iC p_ 67 [a,i_ 1] g c4) fun c5 l=>af c5 (qLd p_ a 1 l fun c6=>qBe .add c6 1 fun c7=>qSt p_ a 1 c7 l fun c8=>iC p_ 68 [a] c8 fun c9 d0=>aW (.agg [u8 0,.str [],i_ 0,.str [],ff]) [(0,1,(u8 3)),(1,1,c9)] fun d1=>ao 5 b d1 d0 fun C=>ah true 5 b C fun r108=>K r108 C) (iC p_ 67 [a,i_ 0] l fun d2 m=>af d2 (iC p_ 71 [a] m fun d3 d4=>ao 5 b d3 d4 fun D=>ah true 5 b D fun r114=>K r114 D) (qLd p_ a 1 m fun d5=>qBe .add d5 1 fun d6=>qSt p_ a 1 d6 m fun d7=>cy .u8 c fun d8=>iC p_ 72 [.str [58,59,44,91,93,40,41,123,125],d8] d7 fun E F=>qBe .geq E 0 fun d9=>af d9 (cy .u8 E fun e0=>ag .add (u8 16) e0 fun e1=>aW (.agg [u8 0,.str [],i_ 0,.str [],ff]) [(0,1,e1)] fun e2=>ao 5 b e2 F fun G=>ah true 5 b G fun r130=>K r130 G) (eV d none (some (i_ 1)) fun e3=>aW (.agg [u8 0,.str [],i_ 0,.str [],ff]) [(0,1,(u8 9)),(1,1,e3)] fun e4=>ao 5 b e4 F fun H=>ah true 5 b H fun r134=>K r134 H)))))))))
def V44(a:AV):Body p_ 44 [a] (XP a):=bC Tryz.func44 (sn (.seq (.draw 13 (oR 0 13 []) [] []) (.seq (.one (sn (.two .nil (.seq (.aN (oR 0 3 (.aA 2 false (fR 3 2) [0,2,3,4] [27,29]::oR 5 2 []))) (.two .nil (.seq (.aN (oR 0 3 (.aA 2 true (fR 3 4) [0,2,3,4] [36,40]::.aA 6 false (fR 7 2) [0,2,3,4,36] [40,42]::.aA 2 true [(9,false)] [0,2,3,4] [36,43]::oR 10 2 []))) (.two .nil (sn (.two .nil (sn (.two .nil (sn (.two .nil (.seq (.aN (oR 0 3 (.aA 2 true (fR 3 2) [0,2,3,4] [88,90]::oR 5 2 []))) .nil)))))))))))))) .nil))) 126 [.cell 2 70]
def XO(b:AV)(h:aa)(K:AV→aa→Prop):Prop:=
 bN [] h fun d v a =>
 qLd p_ b 0 a fun e=>qLd p_ b 1 a fun f=>eV e (some f) none fun g=>iQ p_ 59 [g,.str [47,42]] a fun i=>af i (qLd p_ b 0 a fun j=>qLd p_ b 1 a fun k=>qBe .add k 2 fun l=>eV j (some l) none fun m=>iQ p_ 60 [m,.str [42,47]] a fun c=>qBe .lss c 0 fun n=>af n (qLd p_ b 0 a fun o=>cZ o fun p=>qSt p_ b 1 p a fun q=>K (.ay []) q) (qLd p_ b 1 a fun r=>qBe .add c 4 fun s=>ag .add r s fun t=>qSt p_ b 1 t a fun u=>eC [b] (d [] u))) (K (.ay []) a)
def V43(a:AV):Body p_ 43 [a] (XO a):=bC Tryz.func43 (.one (.loop [0] [] (.seq (.seq (.draw 10 (oR 0 10 []) [] []) .nil) (.one (.seq (.draw 12 (oR 0 12 []) [] []) .nil))))) 43 []
def Yw(a b:AV)(h:aa)(K:AV→aa→Prop):Prop:=
 qLd p_ a 1 h fun q=>qBe .add q 1 fun r=>qSt p_ a 1 r h fun s=>iC p_ 61 [a,i_ 0] s fun e j=>qBe .eql e (-1) fun t=>af t (iC p_ 135 [b,.v (.int .i32 65533)] j fun u w=>K u w) (iC p_ 136 [e] j fun x f=>qBe .lss x 0 fun y=>af y (qLd p_ a 1 f fun z=>qBe .add z 1 fun A=>qSt p_ a 1 A f fun B=>cy .u8 e fun C=>bt 1 1 (u8 0) [(0,1,C)] fun D=>bR false 5 1 1 b D B fun E F=>K E F) (aG (fun k=>bN [i_ 0,i_ 0] f fun G c l =>
 qBe .lss (nx c 1) 6 fun H=>af H (iC p_ 61 [a,i_ 0] l fun I J=>iC p_ 136 [I] J fun m g=>qBe .lss m 0 fun L=>af L (eC [a,b] (k [nx c 0] g)) (ag .shl (nx c 0) (.v (.int .u64 4)) fun M=>ag .or M m fun N=>qLd p_ a 1 g fun O=>qBe .add O 1 fun P=>qSt p_ a 1 P g fun Q=>qBe .add (nx c 1) 1 fun R=>eC [a,b] (G [N,R] Q))) (eC [a,b] (k [nx c 0] l))) fun d S=>aG (fun n=>iC p_ 61 [a,i_ 0] S fun T U=>iC p_ 62 [T] U fun V i=>af V (qLd p_ a 1 i fun W=>qBe .add W 1 fun X=>qSt p_ a 1 X i fun Y=>eC [b,nx d 0] (n [] Y)) (eC [b,nx d 0] (n [] i))) fun a5 o=>aG (fun p=>qBe .eql (nx d 0) 0 fun Z=>af Z (eC [b] (p [i_ 65533] o)) (eC [b] (p [nx d 0] o))) fun a0 a1=>cy .i32 (nx a0 0) fun a2=>iC p_ 135 [b,a2] a1 fun a3 a4=>K a3 a4))
def V96(a b:AV):Body p_ 96 [a,b] (Yw a b):=bC Tryz.func96 (sn (sn (sn (sn (.seq (sn (.two (sn (.seq (.aN (oR 0 3 (.op 3 true::oR 4 2 []))) .nil)) .nil)) (sn (.join [0,1] [6] (sn (.one (.loop [0,1] [6,36] (sn (sn (.seq (.one (sn (sn (.draw 13 (oR 0 13 []) [.op 13 false] [])))) .nil)))))) (.join [1,6] [] .nil (.join [1] [6] .nil .nil))))))))) 72 [.tmp 4]
def SA(a:AV)(h:aa)(K:AV→aa→Prop):Prop:=
 aV 70 (.agg [u8 0,.str [],i_ 0,.str [],ff]) h fun b j=>bN [] j fun e y k =>
 iC p_ 61 [a,i_ 0] k fun l f=>qBe .eql l (-1) fun m=>af m (aW (.agg [u8 0,.str [],i_ 0,.str [],ff]) [(0,1,(u8 8))] fun n=>ao 5 b n f fun g=>ah true 5 b g fun r11=>K r11 g) (iC p_ 66 [a,i_ 0] f fun o d=>af o (iC p_ 96 [a,qNs] d fun z p=>eC [a,b] (e [] p)) (qLd p_ a 1 d fun q=>qBe .add q 1 fun r=>qSt p_ a 1 r d fun c=>qLd p_ a 0 c fun s=>qLd p_ a 1 c fun t=>qBe .sub t 1 fun u=>eD s u fun v=>ag .eql v (u8 41) fun w=>af w (aW (.agg [u8 0,.str [],i_ 0,.str [],ff]) [(0,1,(u8 8))] fun x=>ao 5 b x c fun i=>ah true 5 b i fun r34=>K r34 i) (eC [a,b] (e [] c))))
def Za(a:AV):Body p_ 141 [a] (SA a):=bC Tryz.func141 (sn (.one (.loop [0,2] [] (.one (sn (sn (.seq (.draw 11 (oR 0 11 []) [] []) .nil))))))) 32 [.cell 2 70]
def R7(a:AV)(h:aa)(K:AV→aa→Prop):Prop:=
 aV 70 (.agg [u8 0,.str [],i_ 0,.str [],ff]) h fun b B=>iC p_ 63 [a,.fn (.func 62) [] []] B fun c8 C=>bN [qNs] C fun i d D =>
 iC p_ 61 [a,i_ 0] D fun j E=>aG (fun k=>iC p_ 62 [j] E fun F l=>af F (iC p_ 63 [a,.fn (.func 62) [] []] l fun c9 G=>iC p_ 61 [a,i_ 0] G fun f m=>qBe .neq f 41 fun H=>qJa H [a,b,nx d 0,f] m (fun I=>qBe .neq f (-1) fun J=>I J m) fun L n=>af L (iC p_ 141 [a] n fun M N=>ao 5 b M N fun o=>ah true 5 b o fun r26=>K r26 o) (eC [a,b,nx d 0] (k [f] n))) (eC [a,b,nx d 0] (k [j] l))) fun c e=>qBe .eql (nx c 0) (-1) fun O=>af O (cP (nx d 0) e fun P=>aW (.agg [u8 0,.str [],i_ 0,.str [],ff]) [(0,1,(u8 7)),(1,1,P)] fun Q=>ao 5 b Q e fun p=>ah true 5 b p fun r33=>K r33 p) (qBe .eql (nx c 0) 41 fun R=>af R (qLd p_ a 1 e fun S=>qBe .add S 1 fun T=>qSt p_ a 1 T e fun q=>cP (nx d 0) q fun U=>aW (.agg [u8 0,.str [],i_ 0,.str [],ff]) [(0,1,(u8 7)),(1,1,U)] fun V=>ao 5 b V q fun r=>ah true 5 b r fun r45=>K r45 r) (qBe .eql (nx c 0) 34 fun W=>qJo W [a,b,nx d 0,nx c 0] e (fun X=>qBe .eql (nx c 0) 39 fun Y=>X Y e) fun Z s=>qJo Z [a,b,nx d 0,nx c 0] s (fun a0=>qBe .eql (nx c 0) 40 fun a1=>a0 a1 s) fun a2 t=>qJo a2 [a,b,nx d 0,nx c 0] t (fun a3=>qBe .leq (nx c 0) 8 fun a4=>a3 a4 t) fun a5 u=>qJo a5 [a,b,nx d 0,nx c 0] u (fun a6=>qBe .eql (nx c 0) 11 fun a7=>a6 a7 u) fun a8 v=>qJo a8 [a,b,nx d 0,nx c 0] v (fun a9=>iC p_ 137 [nx c 0,i_ 14,i_ 31] v a9) fun b0 w=>qJo b0 [a,b,nx d 0,nx c 0] w (fun b1=>qBe .eql (nx c 0) 127 fun b2=>b1 b2 w) fun b3 g=>af b3 (iC p_ 141 [a] g fun b4 b5=>ao 5 b b4 b5 fun x=>ah true 5 b x fun r81=>K r81 x) (qBe .neq (nx c 0) 92 fun b6=>af b6 (cy .u8 (nx c 0) fun b7=>bt 1 1 (u8 0) [(0,1,b7)] fun b8=>bR false 5 1 1 (nx d 0) b8 g fun b9 y=>qLd p_ a 1 y fun c0=>qBe .add c0 1 fun c1=>qSt p_ a 1 c1 y fun c2=>eC [a,b] (i [b9] c2)) (iC p_ 66 [a,i_ 0] g fun c3 z=>af c3 (iC p_ 96 [a,nx d 0] z fun c4 c5=>eC [a,b] (i [c4] c5)) (iC p_ 141 [a] z fun c6 c7=>ao 5 b c6 c7 fun A=>ah true 5 b A fun r101=>K r101 A)))))
def YL(a:AV):Body p_ 102 [a] (R7 a):=bC Tryz.func102 (sn (sn (sn (.one (.loop [0,2] [3] (.one (sn (.join [0,2,3] [4] (sn (.two (sn (sn (.seq (.aN (oR 0 3 (.aA 2 true (fR 3 2) [0,2,3,4] [17,19]::.op 5 false::[]))) .nil))) .nil)) (.one (sn (.two .nil (sn (.two .nil (.seq (.aN (oR 0 3 (.aA 2 false (fR 3 2) [0,2,3,4] [47,49]::oR 5 2 (.aA 6 false (fR 7 2) [0,2,3,4] [51,53]::oR 9 2 (.aA 10 false (fR 11 2) [0,2,3,4] [55,57]::oR 13 2 (.aA 14 false (fR 15 2) [0,2,3,4] [59,61]::oR 17 2 (.aA 18 false (fR 19 2) [0,2,3,4] [63,65]::oR 21 2 (.aA 22 false (fR 23 2) [0,2,3,4] [67,69]::oR 25 2 [])))))))) (.two .nil (sn (.two (.seq (.aN (oR 0 3 (.op 3 true::oR 4 2 []))) .nil) .nil))))))))))))))))) 94 [.cell 2 70]
def Sy(a:AV)(h:aa)(K:AV→aa→Prop):Prop:=
 iC p_ 98 [a] h fun f b=>af f (qBe .sub a 48 fun g=>K g b) (qBe .neq a (-1) fun i=>qJa i [a] b (fun j=>qBe .or a 32 fun k=>iC p_ 137 [k,i_ 97,i_ 102] b j) fun l c=>qJa l [a] c (fun m=>qBe .gtr a 64 fun n=>m n c) fun o d=>qJa o [a] d (fun p=>qBe .lss a 128 fun q=>p q d) fun r e=>af r (qBe .or a 32 fun s=>qBe .sub s 97 fun t=>qBe .add t 10 fun u=>K u e) (K (i_ (-1)) e))
def Y8(a:AV):Body p_ 136 [a] (Sy a):=bC Tryz.func136 (sn (.seq (.one (sn (.two .nil (.seq (.aN (oR 0 3 (.aA 2 true (fR 3 3) [0] [11,14]::oR 6 2 (.aA 7 true (fR 8 2) [0] [16,18]::oR 10 2 (.aA 11 true (fR 12 2) [0] [20,22]::oR 14 2 []))))) .nil)))) .nil)) 28 [.tmp 2]
def Sx(b a:AV)(h:aa)(K:AV→aa→Prop):Prop:=
 cy .u32 a fun c=>ag .leq c (.v (.int .u32 127)) fun d=>af d (cy .u8 a fun e=>bt 1 1 (u8 0) [(0,1,e)] fun f=>bR false 5 1 1 b f h fun g i=>K g i) (iC p_ 165 [b,a] h fun j k=>K j k)
def Y7(a b:AV):Body p_ 135 [a,b] (Sx a b):=bC Tryz.func135 (sn (.seq (sn (.two (.seq (.aN (oR 0 3 (.op 3 true::oR 4 2 []))) .nil) .nil)) .nil)) 16 [.tmp 4]
def SK(c a:AV)(h:aa)(K:AV→aa→Prop):Prop:=
 cy .u32 a fun b=>ag .leq b (.v (.int .u32 2047)) fun g=>af g (ag .shr a (.v (.int .u64 6)) fun i=>cy .u8 i fun j=>ag .or (u8 192) j fun k=>cy .u8 a fun l=>ag .and l (u8 63) fun m=>ag .or (u8 128) m fun n=>bt 2 1 (u8 0) [(0,1,k),(1,1,n)] fun o=>bR false 5 1 1 c o h fun p q=>K p q) (aG (fun e=>ag .lss b (.v (.int .u32 55296)) fun r=>af r (eC [c,a,b] (e [tt] h)) (ag .lss (.v (.int .u32 57343)) b fun s=>qJa s [c,a,b] h (fun t=>ag .leq b (.v (.int .u32 65535)) fun u=>t u h) fun w x=>eC [c,a,b] (e [w] x))) fun y d=>af (nx y 0) (ag .shr a (.v (.int .u64 12)) fun z=>cy .u8 z fun A=>ag .or (u8 224) A fun B=>ag .shr a (.v (.int .u64 6)) fun C=>cy .u8 C fun D=>ag .and D (u8 63) fun E=>ag .or (u8 128) E fun F=>cy .u8 a fun G=>ag .and G (u8 63) fun H=>ag .or (u8 128) H fun I=>bt 3 1 (u8 0) [(0,1,B),(1,1,F),(2,1,I)] fun J=>bR false 5 1 1 c J d fun L M=>K L M) (ag .gtr b (.v (.int .u32 65535)) fun N=>qJa N [c,a] d (fun O=>ag .leq b (.v (.int .u32 1114111)) fun P=>O P d) fun Q f=>af Q (ag .shr a (.v (.int .u64 18)) fun R=>cy .u8 R fun S=>ag .or (u8 240) S fun T=>ag .shr a (.v (.int .u64 12)) fun U=>cy .u8 U fun V=>ag .and V (u8 63) fun W=>ag .or (u8 128) W fun X=>ag .shr a (.v (.int .u64 6)) fun Y=>cy .u8 Y fun Z=>ag .and Z (u8 63) fun a0=>ag .or (u8 128) a0 fun a1=>cy .u8 a fun a2=>ag .and a2 (u8 63) fun a3=>ag .or (u8 128) a3 fun a4=>bt 4 1 (u8 0) [(0,1,T),(1,1,X),(2,1,a1),(3,1,a4)] fun a5=>bR false 5 1 1 c a5 f fun a6 a7=>K a6 a7) (bt 3 1 (u8 0) [(0,1,(u8 239)),(1,1,(u8 191)),(2,1,(u8 189))] fun a8=>bR false 5 1 1 c a8 f fun a9 b0=>K a9 b0)))
def Zk(a b:AV):Body p_ 165 [a,b] (SK a b):=bC Tryz.func165 (sn (sn (.one (sn (.two (.seq (.aN (oR 0 9 (.op 9 true::oR 10 2 []))) .nil) (.join [0,1,5] [25] (sn (.two .nil (.aN (oR 0 3 (.aA 2 true (fR 3 2) [0,1,5] [30,32]::oR 5 2 []))))) (.two (.seq (.aN (oR 0 14 (.op 14 true::oR 15 2 []))) .nil) (.seq (.aN (oR 0 3 (.aA 2 true (fR 3 2) [0,1] [53,55]::oR 5 2 []))) (.two (.seq (.aN (oR 0 19 (.op 19 true::oR 20 2 []))) .nil) (.seq (.aN (.op 0 false::.op 1 true::oR 2 2 [])) .nil)))))))))) 78 [.tmp 4]
def R5(p:AV)(h:aa)(K:AV→aa→Prop):Prop:=
 eD p (i_ 0) fun B=>ag .eql B (u8 45) fun a=>iC p_ 138 [p,.str [43,45]] h fun c C=>aG (fun q=>iC p_ 139 [c,.str [101,69]] C fun d r=>qBe .geq d 0 fun D=>af D (qBe .add d 1 fun E=>eV c (some E) none fun F=>iC p_ 138 [F,.str [43,45]] r fun G H=>iO 5 G H fun j I=>bq j fun s=>bN [i_ 0,i_ 0] I fun J e i =>
 ag .lss (nx e 1) s fun L=>af L (aI 1 j (nx e 1) fun M=>ah false 1 M i fun N=>ag .mul (i_ 10) (nx e 0) fun O=>ag .sub N (u8 48) fun P=>cy .i64 P fun Q=>ag .add O Q fun R=>nZ R (i_ 1048576) fun S=>qBe .add (nx e 1) 1 fun T=>eC [c,a,i_ 3,d,j,s] (J [S,T] i)) (aG (fun t=>qBe .add d 1 fun U=>eD c U fun V=>ag .eql V (u8 45) fun W=>af W (oX (nx e 0) fun X=>eC [c,a,i_ 3,d] (t [X] i)) (eC [c,a,i_ 3,d] (t [nx e 0] i))) fun Y Z=>ag .add (i_ 3) (nx Y 0) fun a0=>eV c none (some d) fun a1=>eC [a] (q [a1,a0] Z))) (eC [a] (q [c,i_ 3] r))) fun u a2=>iC p_ 140 [nx u 0,.str [46]] a2 fun k v=>aR 0 k fun a3=>aR 1 k fun w=>aR 2 k fun d5=>cZ w fun a4=>ag .sub (nx u 1) a4 fun f=>ag .add a3 w fun l=>aG (fun x=>qBe .lss f 0 fun a5=>af a5 (cZ l fun a6=>ag .add a6 f fun a7=>kA (i_ 0) a7 fun a8=>eV l none (some a8) fun a9=>eC [a,f] (x [a9] v)) (eC [a,f] (x [l] v))) fun b0 b1=>iO 5 (nx b0 0) b1 fun m b2=>bq m fun y=>bN [i_ 0,i_ 0] b2 fun b3 g n =>
 ag .lss (nx g 1) y fun b4=>af b4 (aI 1 m (nx g 1) fun b5=>ah false 1 b5 n fun b6=>ag .mul (i_ 10) (nx g 0) fun b7=>ag .sub b6 (u8 48) fun b8=>cy .i64 b8 fun b9=>ag .add b7 b9 fun c0=>nZ c0 (i_ 1000000000000) fun c1=>qBe .add (nx g 1) 1 fun c2=>eC [a,f,m,y] (b3 [c1,c2] n)) (bN [f,nx g 0] n fun c3 b z =>
 qBe .gtr (nx b 0) 0 fun c4=>qJa c4 [a,nx b 0,nx b 1] z (fun c5=>qBe .gtr (nx b 1) 0 fun c6=>c5 c6 z) fun c7 A=>qJa c7 [a,nx b 0,nx b 1] A (fun c8=>qBe .lss (nx b 1) 1000000000000 fun c9=>c8 c9 A) fun d0 o=>af d0 (ag .mul (i_ 10) (nx b 1) fun d1=>nZ d1 (i_ 1000000000000) fun d2=>qBe .sub (nx b 0) 1 fun d3=>eC [a] (c3 [d3,d2] o)) (af a (oX (nx b 1) fun d4=>K d4 o) (K (nx b 1) o)))
def YJ(a:AV):Body p_ 100 [a] (R5 a):=bC Tryz.func100 (sn (sn (sn (sn (.join [3] [0,4] (sn (sn (.two (sn (.seq (sn (.one (.loop [0,3,4,5,29,30] [6,31] .nil))) (.join [0,3,4,5] [6] .nil (.draw 8 (oR 0 8 []) [] [])))) .nil))) (sn (sn (sn (.join [3,4] [0] .nil (sn (.seq (sn (.one (.loop [3,4,79,80] [12,81] .nil))) (.seq (.one (.loop [3] [4,12] (.seq (.seq (.aN (oR 0 3 (.aA 2 true (fR 3 2) [3,4,12] [95,97]::oR 5 2 (.aA 6 true (fR 7 2) [3,4,12] [99,101]::.op 9 false::[])))) .nil) .nil))) .nil)))))))))))) 112 [.tmp 2]
def Xz(l k:AV)(h:aa)(K:AV→aa→Prop):Prop:=
 iC p_ 42 [l] h fun e f=>aR 0 e fun c=>aR 1 e fun g=>qBe .neq g 0 fun m=>af m (K g f) (aW (.agg [.str [],i_ 0]) [(0,1,c)] fun n=>aV 101 n f fun a o=>iC p_ 43 [a] o fun E p=>bN [i_ 0] p fun q r b =>
 qLd p_ a 1 b fun s=>cZ c fun t=>ag .lss s t fun u=>af u (qBe .add (nx r 0) 1 fun i=>qBe .gtr i 1500 fun v=>af v (K (i_ 4) b) (qLd p_ a 1 b fun w=>iC p_ 44 [a] b fun x y=>aV 70 (.agg [u8 0,.str [],i_ 0,.str [],ff]) y fun j z=>ao 5 j x z fun d=>ah true 5 j d fun A=>qLd p_ a 1 d fun B=>bx p_ k [A,w,B] d fun F C=>iC p_ 43 [a] C fun G D=>eC [c,k,a] (q [i] D))) (K (i_ 0) b))
def V27(a b:AV):Body p_ 27 [a,b] (Xz a b):=bC Tryz.func27 (sn (sn (sn (sn (sn (sn (.seq (.one (.loop [0,1,6] [7] (sn (.one (sn (sn (sn (.seq (.draw 7 (oR 0 7 []) [.op 7 true] []) .nil)))))))) .nil))))))) 50 [.tmp 4]
def Xq(e:AV)(h:aa)(K:AV→aa→Prop):Prop:=
 aV 51 qNs h fun b d=>iC p_ 27 [e,(.fn (.func 28) [] [b])] d fun c a=>qBe .neq c 0 fun f=>af f (K (.ay [qNs,c]) a) (ah false 1 b a fun g=>K (.ay [g,i_ 0]) a)
def V17(a:AV):Body p_ 17 [a] (Xq a):=bC Tryz.func17 .nil 13 [.tmp 2,.tmp 3]
def XA(c l m b:AV)(h:aa)(K:AV→aa→Prop):Prop:=
 aV 70 c h fun d a=>ah false 1 b a fun e=>ah true 5 d a fun f=>bt 1 5 (.agg [u8 0,.str [],i_ 0,.str [],ff]) [(0,5,f)] fun g=>bR false 70 5 56 e g a fun i j=>ao 1 b i j fun k=>K (.ay []) k
def V28(a b c d:AV):Body p_ 28 [a,b,c,d] (XA a b c d):=bC Tryz.func28 (sn (.aN (oR 0 2 (.op 2 true::oR 3 2 [])))) 11 []
end
end Go.Proofs.YtpcnidmmkknndaaGreatDoor
end
