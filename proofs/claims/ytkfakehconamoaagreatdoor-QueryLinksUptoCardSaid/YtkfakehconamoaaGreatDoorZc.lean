/-
 A statement whose order is open,with new variables among the first operations: whatever order is taken,behind them they stand in one order.
 No conditions.
-/
import Derived.ProofKit
import Derived.OpenShut
import Derived.OpenVars
import Derived.Test.YtkfakehconamoaaGreatDoorProg
import Derived.KernelRfl
import Derived.Tactics
import Derived.Tactics2
import Derived.Defers
import Derived.Laws.Pointers
import Derived.Laws.LoneSync
import Derived.RegionTactic
import Derived.RegionCalls
import Derived.ChangeAlike
import Derived.Test.YtkfakehconamoaaGreatDoorZb
set_option linter.unusedVariables false
set_option linter.unusedSimpArgs false
set_option linter.unusedSectionVars false
set_option linter.defProp false
set_option autoImplicit true
set_option maxRecDepth 1000000
set_option maxHeartbeats 16000000
open Go.Proofs.Tryz renaming prog→p_
noncomputable section
namespace Go.Aw
section
open Go Go.RowKit
variable [Laid]
def cy.move{base:Nat}(hh:cy base ι S w h){id b:Nat}(e:h[id]?=some (.ak x))(hb:ι[id]?=some (.ak b)):cy base (ι++[.ak b]) S w (h.set id .dead++[.ak x]):=by
 have hlt:id<h.length:=(dO.1 e).1;have hl:=hh.len;have hE:bM ι.length base ι S w (ι++[.ak b]) S w:=bM.grow [.ak b];have old:∀{j:Nat} {en:aY},en≠.dead→j<h.length→(h.set id .dead++[aY.ak x])[j]?=some en→j≠id∧h[j]?=some en∧(ι++[Ix.ak b])[j]?=ι[j]?:=by
  intro j en hne hj q;rw[gE (by simpa using hj)]at q
  by_cases hji:j=id
  ·subst hji;rw[iF hlt]at q;exact absurd (GO q).symm hne
  ·rw[iN (Ne.symm hji)]at q;exact⟨hji,q,gE (by omega)⟩
 have new:∀{en:aY},(h.set id .dead++[aY.ak x])[h.length]?=some en→en=.ak x:=by
  intro en q;rw[iD (by simp)]at q;simp at q;exact q.symm
 have beyond:∀{j:Nat} {en:aY},(h.set id .dead++[aY.ak x])[j]?=some en→j<h.length∨j=h.length:=by
  intro j en q;have:=(dO.1 q).1;simp at this;omega
 have ixn:(ι++[Ix.ak b])[h.length]?=some (.ak b):=by rw[←hl];simp
 refine⟨by simp[hl],fun j y q=>?_,fun j t sz n q=>?_,fun j en q=>?_,fun i j c ai aj ci cj=>?_,hh.fV,hh.ji,hh.gl⟩;rotate_left 2
 ·by_cases hd:en=.dead
  ·subst hd;trivial
  ·rcases beyond q with hj|rfl
   ·obtain⟨_,q1,q2⟩:=old hd hj q;exact (hh.im j en q1).step hE (aS _) q2 fun _ _ _=>⟨rfl,fun _ z=>z⟩
   ·rw[new q];trivial
 rotate_left 1
 ·rcases beyond q with hj|rfl
  ·obtain⟨_,q1,q2⟩:=old (by simp) hj q;obtain⟨c,arr,fz,k1,k2,k3,k4,k5,k6,k7⟩:=hh.live j y q1;exact⟨c,arr,fz,q2.trans k1,k2,k3,k4,k5,fun i d ed=>let ⟨v,e1,e2⟩:=k6 i d ed;⟨v,e1,ax.fq hE (aS _) d v e2⟩,k7⟩
  ·have:=new q;cases this;obtain⟨c,arr,fz,k1,k2,k3,k4,k5,k6,k7⟩:=hh.live id x e;rw[hb]at k1;cases k1;exact⟨b,arr,fz,ixn,k2,k3,k4,k5,fun i d ed=>let ⟨v,e1,e2⟩:=k6 i d ed;⟨v,e1,ax.fq hE (aS _) d v e2⟩,k7⟩
 ·rcases beyond q with hj|rfl
  ·obtain⟨_,q1,q2⟩:=old (by simp) hj q;obtain⟨v,k1,k2⟩:=hh.tok j t sz n q1;exact⟨v,q2.trans k1,k2⟩
  ·cases new q
 ·have av:∀{j:Nat},alive ((h.set id .dead++[aY.ak x])[j]?)→(j≠id∧alive h[j]?∧(ι++[Ix.ak b])[j]?=ι[j]?)∨j=h.length:=by
   intro j aj;cases q:(h.set id .dead++[aY.ak x])[j]? with
   | none=>rw[q]at aj;exact aj.elim
   | some en =>
     rcases beyond q with hj|hj
     ·left;have hne:en≠.dead:=by rintro rfl;rw[q]at aj;exact aj
      obtain⟨q1,q2,q3⟩:=old hne hj q;exact⟨q1,by rw[q2,←q];exact aj,q3⟩
     ·exact .inr hj
  have aid:alive h[id]?:=by rw[e];exact trivial
  rcases av ai with⟨i1,i2,i3⟩|rfl<;>rcases av aj with⟨j1,j2,j3⟩|rfl
  ·rw[i3]at ci;rw[j3]at cj;exact hh.inj i j c i2 j2 ci cj
  ·exfalso;rw[i3]at ci;rw[ixn]at cj;have:b=c:=cj;subst this;exact i1 (hh.inj i id b i2 aid ci (by rw[hb];rfl))
  ·exfalso;rw[j3]at cj;rw[ixn]at ci;have:b=c:=ci;subst this;exact j1 (hh.inj j id b j2 aid cj (by rw[hb];rfl))
  ·rfl
/-! ### Words that hold beside whatever else there is -/
def pf(P:Program)(x:AV)(args:List AV)(h:aa)(K:AV→Prop):Prop:=
 match x with
 | .fn (.func f) xs ys=>∃r,cJ P f=true∧(∀ext,cw P f (xs++args++ys) (h++ext) fun v h' => v=r∧h'=h++ext)∧K r
 | _=>False
def uu(P:Program)(own:Bool):Op→Bool
 | .buildSlice .. => own
 | .makeInterface .. | .typeAssert .. | .move _|.assign _|.pick .. | .binOp .. | .extract .. | .field .. | .index .. | .indexAddr .. | .fieldAddr .. | .nilCheck _|.build .. | .makeFunc .. | .unOp .. => true
 | .slice t .. => (match P.underlying t with|some .string|some (.slice _)=>true|_=>false)
 | .convert s d _=>(match P.underlying s,P.underlying d with|some (.int _),some (.int _)=>true|some .string,some .string=>true|_,_=>false)
 | .call c=>(match c.callee with|.builtin .min|.builtin .max=>true|_=>false)
 | _=>false
def vH{own:Bool}{ev:Operand→AV}{op:Op}(hf:uu P own op=true)(q:bH P own ev h op fun v h' => v=x∧h'=h):bH P own ev g op fun v h' => v=x∧h'=g:=by
 cases op<;>simp only[uu,aaj]at hf<;>simp only[bH,and_true]at q ⊢
 case buildSlice=>subst hf;exact q
 case slice t x lo hi mx =>
  cases mx with
  | some m=>exact q.elim
  | none =>
    simp only at q ⊢;cases ht:P.underlying t with
    | none=>rw[ht]at q;exact q.elim
    | some d =>
      rw[ht]at q hf;cases d<;>simp only[aaj]at q hf⊢<;> exact q
 case convert s d x =>
  cases hs:P.underlying s with
  | none=>rw[hs]at q;exact q.elim
  | some a =>
    cases hd:P.underlying d with
    | none=>rw[hs,hd]at q;cases a<;>exact q.elim
    | some b =>
      rw[hs,hd]at q hf;cases a<;>cases b<;>simp only[aaj]at q hf⊢<;> exact q
 case call c =>
  cases hc:c.callee with
  | value f=>rw[hc]at hf;cases hf
  | invoke r m=>rw[hc]at hf;cases hf
  | builtin b =>
    rw[hc]at hf q;cases b<;>simp only[aaj]at hf q⊢<;> exact q
 case unOp o t x=>cases o<;>simp only at q⊢<;> first|exact q|exact q.elim|(cases hu:P.underlying t with|none=>rw[hu]at q;exact q.elim|some d=>rw[hu]at q;cases d<;>simp only at q⊢<;> first|exact q|exact q.elim)
 case typeAssert y xT a ok=>cases ok<;>simp only at q⊢<;> first|exact q|exact q.elim
 all_goals exact q
omit [Laid] in
def Mj{sz:Nat}{h ext:aa}{K:AV→Prop}(q:ae g sz x h K):ae g sz x (h++ext) K:=by
 cases x<;>simp only[ae]at q⊢<;> first|exact q|skip
 rename_i id o;cases e:h[id]? with
 | none=>rw[e]at q;exact q.elim
 | some en=>rw[gE (dO.1 e).1,e];rw[e]at q;exact q
def F8(P:Program)(own:Bool)(ev:Operand→AV)(h:aa)(op:Op)(K:AV→Prop):Prop:=
 match op with
 | .call c=>(match c.callee with
   | .value x=>pf P (ev x) (c.args.toList.map ev) h K
   | .builtin .len=>(match c.argTypes[0]?,c.args[0]? with
     | some t,some x=>(match P.underlying t with
       | some .string=>iT (ev x) K
       | some (.slice _)=>dX (ev x) K
       | _=>False)
     | _,_=>False)
   | _=>cG (uu P own (.call c)) (bH P own ev h (.call c) fun v _=>K v))
 | .load t x=>cG (fo P t) (ae (eK P t) (P.cellsOf t) (ev x) h K)
 | op=>cG (uu P own op&&rn P own op) (bH P own ev h op fun v _=>K v)
def tj{own:Bool}{ev:Operand→AV}{op:Op}{K:AV→Prop}(q:F8 P own ev h op K):∃x,(∀ext,bH P own ev (h++ext) op fun v h' => v=x∧h'=h++ext)∧K x:=by
 unfold F8 at q;split at q
 ·rename_i c;split at q
  ·rename_i y hc;unfold pf at q;split at q
   ·rename_i f xs ys e;obtain⟨r,hb,c1,k⟩:=q;refine⟨r,fun ext=>?_,k⟩;simp only[bH,hc];unfold bA;rw[e];exact⟨hb,c1 ext⟩
   ·exact q.elim
  ·rename_i hc;simp only[bH,hc];cases h1:c.argTypes[0]? with
   | none=>rw[h1]at q;exact q.elim
   | some t =>
     cases h2:c.args[0]? with
     | none=>rw[h1,h2]at q;exact q.elim
     | some x =>
       rw[h1,h2]at q;simp only at q ⊢;cases ht:P.underlying t with
       | none=>rw[ht]at q;exact q.elim
       | some d =>
         rw[ht]at q;cases d<;>first|exact q.elim|skip
         ·obtain⟨y,q1,q2⟩:=BZ q;exact⟨y,fun ext=>by simpa using q1,q2⟩
         ·obtain⟨y,q1,q2⟩:=D9 q;exact⟨y,fun ext=>by simpa using q1,q2⟩
  ·obtain⟨hf,q⟩:=bh q;have hq:rn P own (.call c)=true:=by
    unfold uu at hf;unfold rn
    revert hf
    cases c.callee<;>intro hf<;>first|(cases hf;done)|exact hf
   obtain⟨x,q1,q2⟩:=uj hq q;exact⟨x,fun ext=>vH hf q1,q2⟩
 ·obtain⟨ht,q⟩:=bh q;obtain⟨x,q1,q2⟩:=xU _ _ _ _ K q;refine⟨x,fun ext=>?_,q2⟩;simp only[bH,ht,cG];have:=Mj (ext:=ext) q1;simpa using this
 ·obtain⟨hf,q⟩:=bh q;simp only[On]at hf;obtain⟨x,q1,q2⟩:=uj hf.2 q;exact⟨x,fun ext=>vH hf.1 q1,q2⟩
/-! ### The first operations: some make new variables -/
def Hd(P:Program)(ops:Array Oper)(i:Nat):Option (TypeId×AV×Tmp):=
 match ops[i]? with
 | some o=>(match o.op,o.dst,o.guard with
   | .alloc t,some d,none=>(match iw P t with|some z=>(match (bl z).all bw with|true=>some (t,z,d)|false=>none)|none=>none)
   | _,_,_=>none)
 | none=>none
def fg(P:Program)(ops:Array Oper)(i:Nat):aY:=match Hd P ops i with|some (t,z,_)=>.ak ⟨t,bl z,true⟩|none=>.dead
section
variable (P:Program) (ops:Array Oper) (n:Nat) (h:aa) (A:List Nat)
def Ag:List (Nat×Bool)→Fr→(Fr→Prop)→Prop
 | [],fr,K=>K fr
 | (i,own):: r,fr,K=>match ops[i]? with
  | some o=>(match A.contains i with
    | true=>Ag r (bJ n fr o.dst .any) K
    | false=>F8 P own (aH fr) h o.op fun v=>Ag r (bJ n fr o.dst v) K)
  | none=>False
end
section
variable {P:Program} {ops:Array Oper} {n:Nat} {h:aa} {A:List Nat}
omit [Laid] in
theorem HK{V V':Nat→AV}{fr0:Fr}{L:Nat→Bool}:∀k,(∀j,j<k→V' j=V j)→fh ops n V' fr0 L k=fh ops n V fr0 L k
 | 0,_=>rfl
 | k+1,hv=>by
   rw[fh,fh,HK k fun j hj=>hv j (by omega),hv k (by omega)]
theorem Jf{K:Fr→Prop}{fr0:Fr}:∀(l:List (Nat×Bool)) (k:Nat) (V:Nat→AV) (O:Nat→Bool),l.map (·.1)=List.range' k l.length→Ag P ops n h A l (fh ops n V fr0 (fun _=>true) k) K →
 ∃(V':Nat→AV) (O':Nat→Bool),(∀j,j<k→V' j=V j∧O' j=O j)∧(∀i,k≤i→i<k+l.length→(A.contains i=true∧V' i=.any)∨(A.contains i=false∧∃o,ops[i]?=some o∧∀ext,bH P (O' i) (aH (fh ops n V' fr0 (fun _=>true) i)) (h++ext) o.op fun v h' => v=V' i∧h'=h++ext)) ∧
  K (fh ops n V' fr0 (fun _=>true) (k+l.length))
 | [],k,V,O,_,q=>⟨V,O,fun _ _=>⟨rfl,rfl⟩,fun i h1 h2=>by simp at h2;omega,q⟩
 | (i,own):: l,k,V,O,hi,q=>by
  simp only[IF,aab,List.range'_succ,List.cons.injEq]at hi;obtain⟨rfl,hi⟩:=hi;simp only[Ag]at q;cases ho:ops[i]? with
  | none=>rw[ho]at q;exact q.elim
  | some o =>
    rw[ho]at q;simp only at q;have hdst:dM ops i=o.dst:=by unfold dM;rw[ho];rfl
    have step:∀x,bJ n (fh ops n V fr0 (fun _=>true) i) o.dst x=fh ops n (fun j=>if j=i then x else V j) fr0 (fun _=>true) (i+1):=by
     intro x;rw[fh];simp only[if_true,hdst];rw[HK (V':=fun j=>if j=i then x else V j) (V:=V) i (fun j hj=>by simp[show j≠i by omega])]
    have go:∀x ow,Ag P ops n h A l (bJ n (fh ops n V fr0 (fun _=>true) i) o.dst x) K→((A.contains i=true∧x=.any)∨(A.contains i=false∧∀ext,bH P ow (aH (fh ops n V fr0 (fun _=>true) i)) (h++ext) o.op fun v h' => v=x∧h'=h++ext)) →
     ∃(V':Nat→AV) (O':Nat→Bool),(∀j,j<i→V' j=V j∧O' j=O j)∧(∀i',i≤i'→i'<i+(l.length+1)→(A.contains i'=true∧V' i'=.any)∨(A.contains i'=false∧∃o,ops[i']?=some o∧∀ext,bH P (O' i') (aH (fh ops n V' fr0 (fun _=>true) i')) (h++ext) o.op fun v h' => v=V' i'∧h'=h++ext)) ∧
      K (fh ops n V' fr0 (fun _=>true) (i+(l.length+1))):=by
     intro x ow q2 hx;rw[step x]at q2;obtain⟨V',O',v1,v2,v3⟩:=Jf l (i+1) (fun j=>if j=i then x else V j) (fun j=>if j=i then ow else O j) hi q2;have vi:V' i=x∧O' i=ow:=by have:=v1 i (by omega);simpa using this
     have vlt:∀j,j<i→V' j=V j∧O' j=O j:=fun j hj=>by have:=v1 j (by omega);simpa[show j≠i by omega]using this
     refine⟨V',O',vlt,fun i' h1 h2=>?_,by rw[show i+(l.length+1)=i+1+l.length by omega];exact v3⟩
     by_cases e:i'=i
     ·subst e;rw[vi.1,vi.2,HK (V:=V) i' fun j hj=>(vlt j hj).1];exact hx.imp id fun hx=>⟨hx.1,o,ho,hx.2⟩
     ·exact v2 i' (by omega) (by omega)
    cases hA:A.contains i with
    | true=>rw[hA]at q;exact go .any false q (.inl ⟨hA,rfl⟩)
    | false =>
      rw[hA]at q;obtain⟨x,q1,q2⟩:=tj q;exact go x own q2 (.inr ⟨hA,q1⟩)
def fZ(P:Program)(ops:Array Oper)(i:Nat):Option Tmp:=(Hd P ops i).map (·.2.2)
omit [Laid] in
def BB{ty:TypeId}(e:Hd P ops i=some (ty,z,d)):∃o,ops[i]?=some o∧o.op=.alloc ty∧o.dst=some d∧o.guard=none∧iw P ty=some z∧(bl z).all bw=true:=by
 unfold Hd at e;split at e
 ·rename_i o ho;split at e
  ·rename_i t' d' h1 h2 h3;split at e
   ·rename_i z' hz;split at e
    ·rename_i hs;simp only[ON,aak]at e;obtain⟨rfl,rfl,rfl⟩:=e;exact⟨o,ho,h1,h2,h3,hz,hs⟩
    ·cases e
   ·cases e
  ·cases e
 ·cases e
structure Ir(P:Program)(ops:Array Oper)(n:Nat)(h:aa)(A:List Nat)(V:Nat→AV)(O:Nat→Bool)(fr0:Fr)(t:Nat):Prop where
 ung:∀i o,i<t→ops[i]?=some o→o.guard=none
 quiet:∀i,i<t→A.contains i=false→∃o,ops[i]?=some o∧∀ext,bH P (O i) (aH (fh ops n V fr0 (fun _=>true) i)) (h++ext) o.op fun v h' => v=V i∧h'=h++ext
 al:∀i,i<t→A.contains i=true→∃d,fZ P ops i=some d∧d<n∧V i=.any∧∀j oj,j<t→ops[j]?=some oj→d∉oj.looksAt ops∧(j≠i→oj.dst≠some d)
def Dd(P:Program)(ops:Array Oper)(h:aa)(fr frV:Fr)(σ:List Nat):Prop:=
 (∀u,(∀i∈σ,fZ P ops i≠some u)→bF fr u=bF frV u)∧∀(k i:Nat) (d:Tmp),σ[k]?=some i→fZ P ops i=some d→bF fr d=.op (h.length+k) 0
theorem L7{V:Nat→AV}{O:Nat→Bool}{fr0:Fr}{an:Nat→Nat→Bool}{t m more:Nat}{Q:Exit→St→Prop}(hE:rI ops (fun _=>false) an)(hF:Ir P ops n h A V O fr0 t)(hg:pV ops t=true)(ht:t≤ops.size)(hm:m≤h.length)
 (hZ:∀base ι S a w fr σ,bW base ι S a w ⟨n,fr,h++σ.map (fg P ops)⟩→Dd P ops h fr (fh ops n V fr0 (fun _=>true) t) σ→σ.Nodup→(∀i,i∈σ↔i<t∧A.contains i=true)→wpAny P .any ops (cY m base ι S w Q) more (full ops t) a w) :
 ∀(fuel:Nat) (L:Array Bool) (base:Nat) (ι:List Ix) (S:bj) (a:Act) (w:World) (fr:Fr) (σ:List Nat),L.size=ops.size→Down ops L→(∀i,t≤i→L.getD i false=false)→bW base ι S a w ⟨n,fr,h++σ.map (fg P ops)⟩ →
  Dd P ops h fr (fh ops n V fr0 (fun i=>L.getD i false) ops.size) σ→σ.Nodup→(∀i,i∈σ↔L.getD i false=true∧A.contains i=true)→kK (fun _=>true) (fun i=>L.getD i false) t+fuel=t →
  wpAny P .any ops (cY m base ι S w Q) (fuel+more) L a w:=by
 intro fuel;induction fuel with
 | zero =>
   intro L base ι S a w fr σ hsz hd hlt hr hI hN hσ hn;have all:∀i,i<t→L.getD i false=true:=Dx (L:=fun i=>L.getD i false) t (by omega);have hL:L=full ops t:=by
    refine Array.ext (by simp[full,hsz]) fun i h1 h2=>?_;have e:L.getD i false=L[i]:=by simp[h1]
    rw[←e];have hf:(full ops t)[i]=decide (i<t):=by simp[full]
    rw[hf]
    by_cases q:i<t
    ·rw[all i q];simp[q]
    ·rw[hlt i (by omega)];simp[q]
   rw[aaq,hL];refine hZ base ι S a w fr σ hr ⟨fun u hu=>?_,hI.2⟩ hN fun i=>?_
   ·rw[hI.1 u hu,ur (k:=t) _ ht fun j h1 h2 _=>hlt j h1];exact pb _ fun j hj _=>all j hj
   ·rw[hσ i];refine and_congr_left fun _=>⟨fun q=>?_,fun q=>all i q⟩;rcases AS i t with z|z
    ·exact z
    ·rw[hlt i z]at q;cases q
 | succ fuel ih =>
   intro L base ι S a w fr σ hsz hd hlt hr hI hN hσ hn;have unl:∃i,i<t∧L.getD i false=false:=by
    refine Classical.byContradiction fun hno=>?_;have all:∀i,i<t→L.getD i false=true:=fun i hi=>by
     cases q:L.getD i false with
     | true=>rfl
     | false=>exact absurd ⟨i,hi,q⟩ hno
    rw[FO (L:=fun i=>L.getD i false) t all]at hn;omega
   rw[show fuel+1+more=(fuel+more)+1 by omega];refine⟨fun hnone=>?_,fun i hi=>?_⟩
   ·exfalso;obtain⟨i,hi⟩:=unl
    revert hi
    induction i using Nat.strongRecOn with
    | _ i ihi =>
      rintro⟨hi,hl⟩
      by_cases q:∃e∈dx ops i,L.getD e false=false
      ·obtain⟨e,h1,h2⟩:=q;have:=hE.back i (by omega) e h1;exact ihi e this ⟨by omega,h2⟩
      ·have hmem:i∈Region.ready .any ops L:=by
        have hsi:i<ops.size:=by omega
        refine mem_ready.2 ⟨?_,ops[i],aaa hsi,fun e he hb=>?_⟩
        ·have hlt:i<L.size:=by omega
         simp[hlt]at hl ⊢;exact hl
        ·cases z:L.getD e.on false with
         | true=>rfl
         | false =>
           exact absurd ⟨e.on,by unfold dx;rw[aaa hsi];simp only[aaf,aay];exact⟨e,⟨by simpa using he,hb⟩,rfl⟩,z⟩ q
       rw[hnone]at hmem;cases hmem
   ·obtain⟨h0,o,ho,hall⟩:=mem_ready.1 hi;have his:i<ops.size:=(By.1 ho).1;have hit:i<t:=by
     rcases AS i t with q|q
     ·exact q
     ·obtain⟨j,j1,j2⟩:=unl;rw[uw hd hg q hi j j1]at j2;cases j2
    have hl0:L.getD i false=false:=by
     have:i<L.size:=by omega
     simp[this]at h0 ⊢;exact h0
    have hset:∀j,(L.setIfInBounds i true).getD j false=(L.getD j false||j == i):=by
     intro j
     by_cases q:j=i
     ·subst q;have:j<L.size:=by omega
      simp[this]
     ·rw[getD_set_ne false (Ne.symm q)];have:(j == i)=false:=by simpa using q
      rw[this,Bool.or_false]
    have hlt':∀j,t≤j→(L.setIfInBounds i true).getD j false=false:=fun j hj=>by
     rw[hset,hlt j hj];simp;omega
    have hn':kK (fun _=>true) (fun j=>(L.setIfInBounds i true).getD j false) t+fuel=t:=by
     rw[Dw (l1:=fun j=>L.getD j false) hl0 hset t];simp only[hit,and_self,if_true];omega
    have hdst:dM ops i=o.dst:=by unfold dM;rw[ho];rfl
    -- slots that are looked at,or written,by this one
    have at':∀u,(u∈o.looksAt ops∨o.dst=some u)→bF (fh ops n V fr0 (fun j=>L.getD j false) ops.size) u=bF (fh ops n V fr0 (fun _=>true) i) u:=by
     intro u hu;have hst:bF (fh ops n V fr0 (fun j=>L.getD j false) ops.size) u=bF (fh ops n V fr0 (fun j=>L.getD j false) i) u:=by
      refine ur _ (by omega) fun j h1 h2 h3=>?_
      by_cases q:j=i
      ·subst q;exact hl0
      ·obtain⟨oj,hoj⟩:∃oj,ops[j]?=some oj:=⟨ops[j],aaa h2⟩;have ha:an j i=true:=by
        rcases hu with hu|hu
        ·exact hE.apart j i h2 (by omega) oj o hoj ho ⟨u,.inr ⟨h3,hu⟩⟩
        ·exact hE.apart j i h2 (by omega) oj o hoj ho ⟨u,.inl ⟨by rw[hdst];exact hu,.inr h3⟩⟩
       cases z:L.getD j false with
       | false=>rfl
       | true=>have:=hE.Ca hd h2 z ha;rw[hl0]at this;cases this
     rw[hst];refine pb _ fun j hj hdj=>?_;obtain⟨oj,hoj⟩:∃oj,ops[j]?=some oj:=⟨ops[j],aaa (by omega)⟩;refine hE.En hd his hi (hE.apart i j his hj o oj ho hoj ?_);rcases hu with hu|hu
     ·exact⟨u,.inl ⟨hdj,.inl hu⟩⟩
     ·exact⟨u,.inl ⟨hdj,.inr (by rw[hdst];exact hu)⟩⟩
    have later:∀u,o.dst=some u→∀(l:Nat→Bool),(∀j,i<j→l j=true→L.getD j false=true)→bF (fh ops n V fr0 l ops.size) u=bF (fh ops n V fr0 l (i+1)) u:=by
     intro u hu l hl;refine ur _ (by omega) fun j h1 h2 h3=>?_;cases z:l j with
     | false=>rfl
     | true =>
       obtain⟨oj,hoj⟩:∃oj,ops[j]?=some oj:=⟨ops[j],aaa h2⟩;have ha:=hE.apart j i h2 (by omega) oj o hoj ho ⟨u,.inl ⟨by rw[hdst];exact hu,.inr h3⟩⟩;have:=hE.Ca hd h2 (hl j (by omega) z) ha;rw[hl0]at this;cases this
    have grown:∀u,bF (fh ops n V fr0 (fun j=>(L.setIfInBounds i true).getD j false) ops.size) u=if o.dst=some u∧u<n then V i else bF (fh ops n V fr0 (fun j=>L.getD j false) ops.size) u:=by
     intro u
     by_cases q:o.dst=some u
     ·rw[later u q _ fun j h1 h2=>by rw[hset]at h2;simpa[show j≠i by omega]using h2,fh,hset,beq_self_eq_true,Bool.or_true];simp only;rw[hdst,q];have e2:bF (fh ops n V fr0 (fun j=>(L.setIfInBounds i true).getD j false) i) u=bF (fh ops n V fr0 (fun j=>L.getD j false) ops.size) u:=by
       rw[at' u (.inr q)];refine pb _ fun j hj hdj=>?_;rw[hset];obtain⟨oj,hoj⟩:∃oj,ops[j]?=some oj:=⟨ops[j],aaa (by omega)⟩;rw[hE.En hd his hi (hE.apart i j his hj o oj ho hoj ⟨u,.inl ⟨hdj,.inr (by rw[hdst];exact q)⟩⟩)];simp
      unfold bJ;simp only
      by_cases hu:u<n
      ·rw[if_pos hu,eX,if_pos rfl];simp[hu]
      ·rw[if_neg hu,e2];simp[hu]
     ·have:¬(o.dst=some u∧u<n):=fun z=>q z.1;rw[if_neg this];refine pb _ fun j hj hdj=>?_;rw[hset]
      by_cases e:j=i
      ·subst e;rw[hdst]at hdj;exact absurd hdj q
      ·have:(j == i)=false:=by simpa using e
       rw[this,Bool.or_false]
    have want:∀fr',fG ops o fr'=some true:=fun fr' => by unfold fG;rw[hF.ung i o hit ho]
    have slots:∀j∈σ,∀d,fZ P ops j=some d→d∉o.looksAt ops∧(i≠j→o.dst≠some d):=by
     intro j hj d hd';obtain⟨l1,l2⟩:=(hσ j).1 hj;have hjt:j<t:=by
      rcases AS j t with z|z
      ·exact z
      ·rw[hlt j z]at l1;cases l1
     obtain⟨d',e1,_,_,e4⟩:=hF.al j hjt l2;rw[hd']at e1;cases e1;exact⟨(e4 i o hit ho).1,fun hne=>(e4 i o hit ho).2 hne⟩
    have ine:i∉σ:=fun q=>by rw[(hσ i).1 q |>.1]at hl0;cases hl0
    unfold wpOp;rw[ho];simp only;rw[if_pos (sA hr (want fr))];left;cases hA:A.contains i with
    | true =>
      obtain⟨d,e1,e2,e3,e4⟩:=hF.al i hit hA;unfold fZ at e1;obtain⟨⟨ty,z,d0⟩,e5,e6⟩:=aae.1 e1;obtain rfl:d0=d:=e6;obtain⟨o',ho',k1,k2,k3,k4,k5⟩:=BB e5;rw[ho]at ho';cases ho';have hstep:bH P false (aH fr) (h++σ.map (fg P ops)) o.op fun v h' => v=.op (h.length+σ.length) 0∧h'=h++(σ++[i]).map (fg P ops):=by
       rw[k1];simp only[bH,k4];unfold aB;refine⟨k5,by simp, ?_⟩;simp[fg,e5]
      refine mE (fun a' w' k=>?_) (fun _ _ _ k=>k) (nA (st:=⟨n,fr,h++σ.map (fg P ops)⟩) hr hstep _);obtain⟨ι',S',v,h',hEv,hR,_,rfl,rfl⟩:=k;have hinv:Dd P ops h (bJ n fr o.dst (.op (h.length+σ.length) 0)) (fh ops n V fr0 (fun j=>(L.setIfInBounds i true).getD j false) ops.size) (σ++[i]):=by
       refine⟨fun u hu=>?_,fun k j dj hk hj=>?_⟩
       ·have hud:o.dst≠some u:=fun z=>hu i (by simp) (by rw[show fZ P ops i=some d0 from e1,←k2,z]);rw[eY fun e he q=>hud (by rw[he,q]),hI.1 u fun j hj=>hu j (by simp[hj]),grown u,if_neg fun z=>hud z.1]
       ·rcases AS k σ.length with q|q
        ·rw[gE q]at hk;have hjm:=eQ hk;rw[eY fun e he q' => (slots j hjm dj hj).2 (fun z=>ine (z▸hjm)) (by rw[he,q'])];exact hI.2 k j dj hk hj
        ·have:k=σ.length:=by
          have:=(dO.1 hk).1;simp at this;omega
         subst this;simp at hk;subst hk;rw[show fZ P ops i=some d0 from e1]at hj;cases hj;unfold bJ;rw[k2];simp only;rw[if_pos e2,eX,if_pos rfl]
      have:=ih (L.setIfInBounds i true) base ι' S' a' w' _ (σ++[i]) (by simp[hsz]) (hd.set hi) hlt' hR hinv (by
       rw[List.nodup_append];refine⟨hN,by simp,fun x hx y hy=>?_⟩;simp at hy;subst hy;rintro rfl;exact ine hx) (fun j=>by
       rw[IN,hσ j,hset]
       by_cases e:j=i
       ·subst e;rw[hA];simp
       ·simp[e]) hn'
      exact du (fun e a w z=>cY.trans (hEv.mono (by rw[hr.hp.len];simp;omega) (aS _)) z) _ _ _ _ this
    | false =>
      obtain⟨o',ho',hq⟩:=hF.quiet i hit hA;rw[ho]at ho';cases ho';have he:∀y∈o.op.operands,aH (fh ops n V fr0 (fun _=>true) i) y=aH fr y:=by
       intro y hy;cases y with
       | tmp u =>
         have hu:u∈o.looksAt ops:=by
          unfold Oper.looksAt;refine List.mem_append_left _ ?_;simp only[aaA];exact⟨.tmp u,by simpa using hy,rfl⟩
         simp only[aH];rw[hI.1 u fun j hj z=>(slots j hj u z).1 hu,at' u (.inl hu)]
       | _=>rfl
      refine mE (fun a' w' k=>?_) (fun _ _ _ k=>k) (nA (st:=⟨n,fr,h++σ.map (fg P ops)⟩) hr (nB he (hq _)) _);obtain⟨ι',S',v,h',hEv,hR,_,rfl,rfl⟩:=k;have hinv:Dd P ops h (bJ n fr o.dst (V i)) (fh ops n V fr0 (fun j=>(L.setIfInBounds i true).getD j false) ops.size) σ:=by
       refine⟨fun u hu=>?_,fun k j dj hk hj=>?_⟩
       ·rw[grown u]
        by_cases q:o.dst=some u
        ·unfold bJ;rw[q];simp only
         by_cases z:u<n
         ·rw[if_pos z,eX,if_pos rfl,if_pos ⟨trivial,z⟩]
         ·rw[if_neg z,if_neg fun x=>z x.2,hI.1 u hu]
        ·rw[eY fun e he q' => q (by rw[he,q']),if_neg fun x=>q x.1,hI.1 u hu]
       ·have hjm:=eQ hk;rw[eY fun e he q' => (slots j hjm dj hj).2 (fun z=>ine (z▸hjm)) (by rw[he,q'])];exact hI.2 k j dj hk hj
      have:=ih (L.setIfInBounds i true) base ι' S' a' w' _ σ (by simp[hsz]) (hd.set hi) hlt' hR hinv hN (fun j=>by
       rw[hσ j,hset]
       by_cases e:j=i
       ·subst e;rw[hA];simp
       ·simp[e]) hn'
      exact du (fun e a w z=>cY.trans (hEv.mono (by rw[hr.hp.len];simp;omega) (aS _)) z) _ _ _ _ this
/-! ### Behind them -/
omit [Laid] in
theorem A0:∀(l m:List Nat),l.Nodup→(∀x∈l,x∈m)→l.length≤m.length
 | [],_,_,_=>aao _
 | x:: l,m,hn,hs=>by
   have hx:x∈m:=hs x (by simp);rw[List.nodup_cons]at hn;have:=A0 l (m.erase x) hn.2 fun y hy=>(List.mem_erase_of_ne (fun q:y=x=>hn.1 (by rw[←q];exact hy))).2 (hs y (by simp[hy]));have e:=List.length_erase_of_mem hx;have:0<m.length:=List.length_pos_of_mem hx;simp only[aab];omega
theorem Eg{base:Nat}{S:bj}{w:World}{σ:List Nat}{B:Nat→Nat}(hN:σ.Nodup):∀(rest done:List Nat) (ι:List Ix),cy base ι S w (h++(σ.map fun i=>if i∈done then aY.dead else fg P ops i)++done.map (fg P ops))→rest.Nodup →
 (∀i∈rest,i∈σ∧i∉done∧∃x,fg P ops i=.ak x)→(∀k i,σ[k]?=some i→i∈rest→ι[h.length+k]?=some (.ak (B i))) →
 cy base (ι++rest.map fun i=>.ak (B i)) S w (h++(σ.map fun i=>if i∈done++rest then aY.dead else fg P ops i)++(done++rest).map (fg P ops))
 | [],done,ι,hh,_,_,_=>by simpa using hh
 | i:: rest,done,ι,hh,hR,hm,hB=>by
   obtain⟨him,hid,x,hx⟩:=hm i (by simp);obtain⟨k,hk⟩:=List.mem_iff_getElem?.1 him;have hkl:k<σ.length:=(dO.1 hk).1;rw[List.nodup_cons]at hR;have e1:(h++(σ.map fun i=>if i∈done then aY.dead else fg P ops i)++done.map (fg P ops))[h.length+k]?=some (.ak x):=by
    rw[TO,iD (by omega),gE (by simp;omega),iS,show h.length+k-h.length=k by omega,hk];simp[hid,hx]
   have hb:=hB k i hk (by simp);have hmv:=hh.move e1 hb;have e2:(h++(σ.map fun i=>if i∈done then aY.dead else fg P ops i)++done.map (fg P ops)).set (h.length+k) .dead++[.ak x]=h++(σ.map fun j=>if j∈done++[i] then aY.dead else fg P ops j)++(done++[i]).map (fg P ops):=by
    have e3:(σ.map fun i=>if i∈done then aY.dead else fg P ops i).set k .dead=σ.map fun j=>if j∈done++[i] then aY.dead else fg P ops j:=by
     refine List.ext_getElem? fun j=>?_
     by_cases q:k=j
     ·subst q;rw[iF (by simpa using hkl),iS,hk];simp
     ·rw[iN q,iS,iS];cases hj:σ[j]? with
      | none=>rfl
      | some y =>
        have hy:y≠i:=by
         rintro rfl;exact q ((List.getElem?_inj hkl hN).1 (hk.trans hj.symm))
        simp[hy]
    rw[TO,Lt _ _ (by omega),show h.length+k-h.length=k by omega,Mk _ _ (by simp;omega),e3];simp[hx]
   rw[e2]at hmv;have:=Eg hN rest (done++[i]) (ι++[.ak (B i)]) hmv hR.2 (fun j hj=>by
    obtain⟨a1,a2,a3⟩:=hm j (by simp[hj]);refine⟨a1, ?_,a3⟩;simp only[IN,Up,not_or];exact⟨a2,fun z=>hR.1 (z▸hj)⟩) (fun k' j hk' hj=>by
    have:=hB k' j hk' (by simp[hj]);rw[gE (dO.1 this).1];exact this)
   simpa[TO]using this
def tW(P:Program)(ops:Array Oper)(n base:Nat):List Nat→Nat→Fr→Fr
 | [],_,fr=>fr
 | i:: l,k,fr=>tW P ops n base l (k+1) (bJ n fr (fZ P ops i) (.op (base+k) 0))
omit [Laid] in
theorem xN{n base u:Nat}:∀(l:List Nat) (k:Nat) (fr:Fr),(∀i∈l,fZ P ops i≠some u)→bF (tW P ops n base l k fr) u=bF fr u
 | [],_,_,_=>rfl
 | i:: l,k,fr,hu=>by
   rw[tW,xN l (k+1) _ fun j hj=>hu j (by simp[hj])];exact eY fun e he q=>hu i (by simp) (by rw[he,q])
omit [Laid] in
theorem FC{n base u i:Nat}(hun:u<n):∀(l:List Nat) (k p:Nat) (fr:Fr),l[p]?=some i→fZ P ops i=some u→(∀q j,l[q]?=some j→q≠p→fZ P ops j≠some u)→bF (tW P ops n base l k fr) u=.op (base+(k+p)) 0
 | [],_,p,_,h1,_,_=>by simp at h1
 | j:: l,k,0,fr,h1,h2,h3=>by
   simp at h1;subst h1;rw[tW,xN l (k+1) _ fun y hy=>by
    obtain⟨q,hq⟩:=List.mem_iff_getElem?.1 hy;exact h3 (q+1) y (by simpa using hq) (by omega)]
   unfold bJ;rw[h2];simp only;rw[if_pos hun,eX,if_pos rfl];rfl
 | j:: l,k,p+1,fr,h1,h2,h3=>by
   rw[tW,FC hun l (k+1) p _ (by simpa using h1) h2 fun q y hq hne=>h3 (q+1) y (by simpa using hq) (by omega)];rw[show k+1+p=k+(p+1) by omega]
def N7{base:Nat}{fr frV:Fr}(hr:bW base ι S a w ⟨n,fr,h++σ.map (fg P ops)⟩)(hI:Dd P ops h fr frV σ)(hN:σ.Nodup)(hA:A.Nodup)(hs:∀i,i∈σ↔i∈A)
 (hd:∀i∈A,∃d,fZ P ops i=some d∧d<n∧∀j∈A,j≠i→fZ P ops j≠some d):∃ι',bM ι.length base ι S w ι' S w∧bW base ι' S a w ⟨n,tW P ops n (h.length+A.length) A 0 frV,h++List.replicate A.length .dead++A.map (fg P ops)⟩:=by
 have hl:σ.length=A.length:=Nat.le_antisymm (A0 _ _ hN fun x hx=>(hs x).1 hx) (A0 _ _ hA fun x hx=>(hs x).2 hx);have hlen:ι.length=h.length+σ.length:=by have:=hr.hp.len;simpa using this
 let B:Nat→Nat:=fun i=>match ι[h.length+σ.idxOf i]? with|some (.ak b)=>b|_=>0
 have hB:∀k i,σ[k]?=some i→i∈A→ι[h.length+k]?=some (.ak (B i))∧∀d,fZ P ops i=some d→a.tmps.getD d undef=.pointer (some ⟨B i,0,none⟩):=by
  intro k i hk hi;obtain⟨d,d1,d2,_⟩:=hd i hi;have hkl:=(dO.1 hk).1;have e:=hI.2 k i d hk d1;have r:=hr.get d;rw[e,ax]at r;obtain⟨b,b1,b2⟩:=r;have hidx:σ.idxOf i=k:=by
   have h1:σ[σ.idxOf i]?=some i:=by
    have hm:=eQ hk;rw[bY (List.idxOf_lt_length_of_mem hm)];simp
   exact ((List.getElem?_inj hkl hN).1 (hk.trans h1.symm)).symm
  have hBi:B i=b:=by
   show (match ι[h.length+σ.idxOf i]? with|some (.ak b)=>b|_=>0)=b;rw[hidx,b1]
  rw[hBi];exact⟨b1,fun d' hd' => by rw[d1]at hd';cases hd';exact b2⟩
 have hmv:=Eg (P:=P) (ops:=ops) (h:=h) (B:=B) hN A [] ι (by simpa using hr.hp) hA (fun i hi=>⟨(hs i).2 hi,by simp,by
  obtain⟨d,d1,_⟩:=hd i hi;unfold fZ at d1;obtain⟨⟨t,z,d'⟩,e,_⟩:=aae.1 d1;exact⟨⟨t,bl z,true⟩,by simp[fg,e]⟩⟩) (fun k i hk hi=>(hB k i hk hi).1)
 have e1:(σ.map fun i=>if i∈[]++A then aY.dead else fg P ops i)=List.replicate A.length .dead:=by
  rw[←hl,List.eq_replicate_iff];refine⟨by simp,fun y hy=>?_⟩;simp only[aaf]at hy;obtain⟨i,h1,rfl⟩:=hy;rw[if_pos (by simpa using (hs i).1 h1)]
 rw[e1,List.nil_append]at hmv;have hE:bM ι.length base ι S w (ι++A.map fun i=>.ak (B i)) S w:=bM.grow _;refine⟨_,hE,hr.df,hr.sz,fun u=>?_,hmv⟩;show ax _ S w (bF (tW P ops n (h.length+A.length) A 0 frV) u) _
 by_cases q:∃i∈A,fZ P ops i=some u
 ·obtain⟨i,hi,hu⟩:=q;obtain⟨p,hp⟩:=List.mem_iff_getElem?.1 hi;obtain⟨d,d1,d2,d3⟩:=hd i hi;rw[hu]at d1;cases d1;have hpl:=(dO.1 hp).1;rw[FC d2 A 0 p frV hp hu fun q j hq hne=>d3 j (eQ hq) fun z=>hne ((List.getElem?_inj (dO.1 hq).1 hA).1 (hq.trans (by rw[z,hp])))];obtain⟨k,hk⟩:=List.mem_iff_getElem?.1 ((hs i).2 hi);obtain⟨_,b2⟩:=hB k i hk hi;rw[ax];refine⟨B i, ?_,b2 u hu⟩;rw[iD (by omega),show h.length+A.length+(0+p)-ι.length=p by omega,iS,hp];rfl
 ·have hno:∀i∈A,fZ P ops i≠some u:=fun i hi z=>q ⟨i,hi,z⟩;rw[xN A 0 frV hno,←hI.1 u fun i hi=>hno i ((hs i).1 hi)];exact ax.fq hE (aS _) _ _ (hr.fr u)
end
def FY(P:Program)(ops:Array Oper)(n t:Nat)(A:List Nat)(l:List (Nat×Bool))(r q:List cQ):Bool:=
 P.follows .mixedOrders&&DK ops (fun _=>false) (HX ops ops.size) ops.size&&pV ops t&&decide (t≤ops.size)&&(l.map (·.1) == List.range t)&&decide A.Nodup&&A.all (fun i=>decide (i<t)) &&
  (List.range t).all (fun i=>match ops[i]? with|some o=>o.guard.isNone|none=>false) &&
  A.all (fun i=>match fZ P ops i with|some d=>decide (d<n)&&(List.range t).all (fun j=>match ops[j]? with|some oj=>!(oj.looksAt ops).contains d&&(j == i||oj.dst != some d)|none=>false)|none=>false) &&
  (match nh ops (r.map cQ.ix).flatten (full ops t) with
  | some listed=>qW ops ops.size (q.map cQ.ix).flatten.length (t+(r.map cQ.ix).flatten.length) listed
  | none=>false)&&r.all (kC ops)&&q.all (kC ops)&&q.all (qN ops n)&&(q.map cQ.ix).flatten == List.range' (t+(r.map cQ.ix).flatten.length) (q.map cQ.ix).flatten.length &&
  decide (t+(r.map cQ.ix).flatten.length+(q.map cQ.ix).flatten.length=ops.size)
def FZ(P:Program)(ops:Array Oper)(t:Nat)(A:List Nat)(l:List (Nat×Bool))(r q:List cQ)(Q:Exit→St→Prop)(st:St):Prop:=
 cG (FY P ops st.n t A l r q) (Ag P ops st.n st.h A l st.fr fun fr=>jW P ops r ⟨st.n,tW P ops st.n (st.h.length+A.length) A 0 fr,st.h++List.replicate A.length .dead++A.map (fg P ops)⟩ fun st' => cG (Nat.beq st'.n st.n) (oP P ops st.n st'.h q st'.fr fun fr' => Q .normal ⟨st.n,fr',st'.h⟩))
def Fs{m id t:Nat}{ops:Array Oper}{Q:Exit→St→Prop}{st:St}(hm:m≤st.h.length)(hq:FZ P ops t A l r q Q st):AW P m (.region id ops true) Q st:=by
 intro base ι S a w _ hr;obtain⟨ba,hq⟩:=bh hq;simp only[FY,On,beq_iff_eq,OF]at ba;obtain⟨⟨⟨⟨⟨⟨⟨⟨⟨⟨⟨⟨⟨⟨k1,k2⟩,k3⟩,kt⟩,k5⟩,k6⟩,k8⟩,kg⟩,ka⟩,k4⟩,k7⟩,q5⟩,q6⟩,q8⟩,k9⟩:=ba;split at k4
 ·rename_i listed' hch;obtain⟨hE,hr'⟩:=hr.drew;refine wp_region_any k1 (du (fun e a w z=>cY.trans (hE.mono (by rw[hr.hp.len];exact hm) (aS _)) z) _ _ _ _ ?_);have none:∀i,(Array.replicate ops.size false).getD i false=false:=fun i=>by simp[Array.getD_eq_getD_getElem?,Array.getElem?_replicate];split<;>rfl
  have c0:∀k,kK (fun _=>true) (fun i=>(Array.replicate ops.size false).getD i false) k=0:=by
   intro k;induction k with
   | zero=>rfl
   | succ k ih=>rw[kK,none];exact ih
  have down0:Down ops (Array.replicate ops.size false):=fun i o ho hl=>by rw[none]at hl;cases hl
  have hl5:l.length=t:=by have:=congrArg List.length k5;simpa using this
  obtain⟨V,O,_,v2,v3⟩:=Jf (P:=P) (ops:=ops) (n:=st.n) (h:=st.h) (A:=A) (fr0:=st.fr) l 0 (fun _=>.any) (fun _=>false) (by rw[k5,hl5,List.range_eq_range']) hq;rw[aaq,hl5]at v3;have atA:∀i∈A,i<t:=fun i hi=>by have:=AT.1 k8 i hi;simpa using this
  have hF:Ir P ops st.n st.h A V O st.fr t:=by
   refine⟨fun i o hi ho=>?_,fun i hi hA=>?_,fun i hi hA=>?_⟩
   ·have:=AT.1 kg i (by simpa using hi);rw[ho]at this;simpa using this
   ·rcases v2 i (by omega) (by omega) with⟨z,_⟩|⟨_,z⟩
    ·rw[hA]at z;cases z
    ·exact z
   ·rcases v2 i (by omega) (by omega) with⟨_,z⟩|⟨z,_⟩
    ·have hm':i∈A:=by simpa using hA
     have:=AT.1 ka i hm';split at this
     ·rename_i d hd;simp only[On,OF]at this;refine⟨d,hd,this.1,z,fun j oj hj hoj=>?_⟩;have h2:=AT.1 this.2 j (by simpa using hj);rw[hoj]at h2;simp only[On,aaI,aaH,beq_iff_eq,bne_iff_ne,ne_eq]at h2;refine⟨fun z=>?_,fun hne=>h2.2.resolve_left hne⟩;have h3:=h2.1;rw[List.contains_eq_mem]at h3;simp[z]at h3
     ·cases this
    ·rw[hA]at z;cases z
  have hdA:∀i∈A,∃d,fZ P ops i=some d∧d<st.n∧∀j∈A,j≠i→fZ P ops j≠some d:=by
   intro i hi;obtain⟨d,d1,d2,_,d4⟩:=hF.al i (atA i hi) (by simpa using hi);refine⟨d,d1,d2,fun j hj hne z=>?_⟩;unfold fZ at z;obtain⟨⟨t',z',d'⟩,e,e2⟩:=aae.1 z;simp only at e2;subst e2;obtain⟨o,ho,_,hd,_⟩:=BB e;exact (d4 j o (atA j hj) ho).2 hne hd
  have key:=L7 (P:=P) (ops:=ops) (n:=st.n) (h:=st.h) (A:=A) (V:=V) (O:=O) (fr0:=st.fr) (t:=t) (m:=m) (more:=(r.map cQ.ix).flatten.length+(q.map cQ.ix).flatten.length) (Q:=Q) (DL k2) hF k3 kt hm (fun base ι S a w fr σ hr hI hN hσ=>?_) t (Array.replicate ops.size false) base ι S a { w with drawn:=w.drawn+1 } st.fr [] (by simp) down0 (fun i _=>none i) (by simpa using hr') ⟨fun u _=>?_,fun k i d hk=>by simp at hk⟩ (by simp) (fun i=>by rw[none];simp) (by rw[c0];omega)
  ·rwa [show t+((r.map cQ.ix).flatten.length+(q.map cQ.ix).flatten.length)=ops.size by omega]at key
  ·obtain⟨ι2,hE2,hr2⟩:=N7 hr hI hN k6 (fun i=>by
    rw[hσ i];constructor
    ·rintro⟨_,z⟩;simpa using z
    ·intro z;exact⟨atA i z,by simpa using z⟩) hdA
   have hdn:Down ops (full ops t):=by
    intro i o ho hl e he hb;have hi:i<t:=by
     have:=(By.1 ho).1;simpa[full,this]using hl
    have:=(DL k2).back i (by omega) e.on (by unfold dx;rw[ho];simp only[aaf,aay];exact⟨e,⟨by simpa using he,hb⟩,rfl⟩);have hs:e.on<ops.size:=by omega
    simp[full,hs];omega
   have down2:=sI _ _ _ hdn hch;have hm2:m≤(st.h++List.replicate A.length aY.dead++A.map (fg P ops)).length:=by simp;omega
   have hs:=ny (m:=m) (Q:=Q) r base ι2 S a w _ k7 hm2 hr2 v3;have up:∀{e a' w'},cY m base ι2 S w Q e a' w'→cY m base ι S w Q e a' w':=fun z=>cY.trans (hE2.mono (by rw[hr.hp.len];simp;omega) (aS _)) z;refine du (fun e a w z=>up z) _ _ _ _ ?_;refine tZ (fun e a w hne z=>?_) (fun a w z=>?_) _ _ _ _ hch hs
   ·obtain⟨ι',S',st',z1,z2,z3,z4⟩:=z;refine⟨ι',S',st',z1,z2,z3, ?_⟩;cases e<;>first|exact absurd rfl hne|exact z4
   ·obtain⟨ι',S',st',z1,z2,z3,z4⟩:=z;obtain⟨n',fr',h'⟩:=st';obtain⟨en,z4⟩:=bh z4;have en:n'=st.n:=lT en;subst en;have:=wb (m:=m) (more:=0) (Q:=Q) DT q5 q6 q8 (by omega) down2 k4 z2 (fun fr base ι S a w hr hfr=>⟨rX,ι,S,⟨st.n,fr,h'⟩,bM.refl _ _ _ _ _,z2,hr,hfr⟩) z3 z4;exact du (fun e a w z=>cY.trans z1 z) _ _ _ _ this
  ·have f0:∀k,fh ops st.n V st.fr (fun i=>(Array.replicate ops.size false).getD i false) k=st.fr:=by
    intro k;induction k with
    | zero=>rfl
    | succ k ih=>rw[fh,none];exact ih
   rw[f0]
 ·cases k4
def eM(B:Nat→Prop)(h h':aa):Prop:=∀(id:Nat) (b:jl),B id→h[id]?=some (.ak b)→h'[id]?=some (.ak b)
omit [Laid] in
def eM.refl{B:Nat→Prop}(h:aa):eM B h h:=fun _ _ _ e=>e
omit [Laid] in
def eM.trans{B:Nat→Prop}(x:eM B a b)(y:eM B b c):eM B a c:=fun id k hb e=>y id k hb (x id k hb e)
omit [Laid] in
def eM.ext{B:Nat→Prop}(h e:aa):eM B h (h++e):=fun id b _ q=>by
 rw[gE (dO.1 q).1];exact q
omit [Laid] in
def eM.tok{B:Nat→Prop}{id:Nat}{t sz n:Nat}(q:h[id]?=some (.tok t sz n)):eM B h (h.set id x):=fun j b _ e=>by
 rw[iN (fun z=>by subst z;rw[q]at e;cases e)];exact e
omit [Laid] in
def eM.kill{B:Nat→Prop}{id:Nat}(q:¬B id):eM B h (h.set id x++e):=fun j b hb z=>by
 rw[gE (by simpa using (dO.1 z).1),iN (fun y=>by subst y;exact q hb)];exact z
omit [Laid] in
def eM.Uy{B:Nat→Prop}{id:Nat}(q:¬B id):eM B h (h.set id x):=fun j b hb z=>by
 rw[iN (fun y=>by subst y;exact q hb)];exact z
section
variable (P:Program) (ops:Array Oper) (n:Nat) (Lo Fe Ee Ge:Nat→Bool) (B:Nat→Prop)
def qL(i:Nat)(K:Fr→aa→Prop)(fr:Fr)(h:aa):Prop:=
 match ops[i]? with
 | none=>False
 | some o=>o.guard=none∧∃own K0,bH P own (aH fr) h o.op K0∧∀v h',K0 v h'→(Ge i=true→eM B h h')∧K (bJ n fr o.dst v) h'
def sE(Z:Fr→aa→Prop):Nat→Array Bool→Fr→aa→Prop
 | 0,listed,fr,h=>listed=full ops ops.size∧Z fr h
 | fuel+1,listed,fr,h=>Region.ready .any ops listed≠[]∧∀i∈Region.ready .any ops listed,
   (Lo i=true∧qL P ops n Ge B i (fun fr' h' => sE Z fuel (listed.setIfInBounds i true) fr' h') fr h) ∨
   (Lo i=false∧qA P ops n h i (fun fr' => sE Z fuel (listed.setIfInBounds i true) fr' h) fr)
def ja(Z:Fr→aa→Prop):List Nat→Fr→aa→Prop
 | [],fr,h=>Z fr h
 | i:: r,fr,h=>match ops[i]? with
   | none=>False
   | some o=>(Lo i=true∧o.guard=none∧∃own K0,bH P own (aH fr) h o.op K0∧∀v h',K0 v h'→(Ge i=true→eM B h h')∧ja Z r (bJ n fr o.dst v) h') ∨
     (Lo i=false∧∃x,YA P ops h o x fr∧(Fe i=true→∀h',YA P ops h' o x fr)∧(Ee i=true→∀h',eM B h h'→YA P ops h' o x fr)∧ja Z r (bJ n fr o.dst x) h)
end
section
variable {P:Program} {ops:Array Oper} {n:Nat} {Lo Fe Ee Ge:Nat→Bool} {B:Nat→Prop}
def GQ{K K':Fr→aa→Prop}{fr:Fr}(hk:∀fr h,K fr h→K' fr h)(q:qL P ops n Ge B i K fr h):qL P ops n Ge B i K' fr h:=by
 unfold qL at *;split
 ·rename_i e;rw[e]at q;exact q
 ·rename_i o e;rw[e]at q;obtain⟨g,own,K0,q,k⟩:=q;exact⟨g,own,K0,q,fun v h' z=>⟨(k v h' z).1,hk _ _ (k v h' z).2⟩⟩
theorem Tr{oi oj:Oper}{K:Fr→aa→Prop}{fr:Fr}(hj:ops[j]?=some oj)(hap:oi.apart ops oj=true)(hy:∀h',YA P ops h' oi x fr)(q:qL P ops n Ge B j K (bJ n fr oi.dst x) h):
 qL P ops n Ge B j (fun fr' h' => (∀h2,YA P ops h2 oi x fr')∧K (bJ n fr' oi.dst x) h') fr h:=by
 obtain⟨h1,h2,h3⟩:=Oper.apart_spec hap;unfold qL at *;simp only[hj]at *;obtain⟨g,own,K0,q,k⟩:=q;refine⟨g,own,K0,nB (ev:=aH (bJ n fr oi.dst x)) (fun y hy=>?_) q,fun v h' z=>⟨(k v h' z).1,fun h2=>(hy h2).put h3, ?_⟩⟩
 ·cases y with
  | tmp t =>
    have:bF (bJ n fr oi.dst x) t=bF fr t:=eY fun e he q=>h1 e he (by
     unfold Oper.looksAt;refine List.mem_append_left _ ?_;simp only[aaA];exact⟨.tmp t,by simpa using hy,by rw[q]⟩)
    simp[aH,this]
  | _=>rfl
 ·have k:=(k v h' z).2;rw[uJ (fun t ht=>h2 t ht)]at k;exact k
def y6:Op→Bool
 | .alloc _|.box _ _|.buildSlice _ _ _=>true
 | _=>false
def uO{own:Bool}{ev:Operand→AV}{op:Op}{K:AV→aa→Prop}(he:y6 op=true)(q:bH P own ev h op K):bH P own ev h op fun v h' => (∃e,h'=h++e)∧K v h':=by
 cases op<;>simp only[y6,aaj]at he<;>simp only[bH]at q ⊢
 case alloc t =>
  split at q
  ·unfold aB at *;exact⟨q.1,⟨_,rfl⟩,q.2⟩
  ·exact q.elim
 case box t x =>
  unfold aB at *;exact⟨q.1,⟨_,rfl⟩,q.2⟩
 case buildSlice t k ps =>
  split at q
  ·rename_i e he;split at q
   ·obtain⟨hr,q⟩:=bh q;rw[hr];simp only[cG];cases own with
    | true =>
      simp only at q ⊢;unfold bz at *;split at q
      ·exact⟨⟨[],by simp⟩,q⟩
      ·exact q.elim
    | false =>
      simp only at q ⊢;unfold dF at *;split at q
      ·split at q
       ·exact⟨⟨[],by simp⟩,q⟩
       ·exact⟨⟨_,rfl⟩,q⟩
      ·exact q.elim
   ·exact q.elim
  ·exact q.elim
theorem PQ{oi oj:Oper}{K:Fr→aa→Prop}{fr:Fr}(hj:ops[j]?=some oj)(hex:Ge j=true)(hap:oi.apart ops oj=true)(hy:∀h',eM B h h'→YA P ops h' oi x fr)(q:qL P ops n Ge B j K (bJ n fr oi.dst x) h):
 qL P ops n Ge B j (fun fr' h' => (∀h2,eM B h' h2→YA P ops h2 oi x fr')∧K (bJ n fr' oi.dst x) h') fr h:=by
 obtain⟨h1,h2,h3⟩:=Oper.apart_spec hap;unfold qL at *;simp only[hj]at *;obtain⟨g,own,K0,q,k⟩:=q;refine⟨g,own,K0,nB (ev:=aH (bJ n fr oi.dst x)) (fun y hy=>?_) q,fun v h' z=>⟨(k v h' z).1,fun h4 hl=>?_, ?_⟩⟩
 ·cases y with
  | tmp t =>
    have:bF (bJ n fr oi.dst x) t=bF fr t:=eY fun e he q=>h1 e he (by
     unfold Oper.looksAt;refine List.mem_append_left _ ?_;simp only[aaA];exact⟨.tmp t,by simpa using hy,by rw[q]⟩)
    simp[aH,this]
  | _=>rfl
 ·exact (hy h4 (((k v h' z).1 hex).trans hl)).put h3
 ·have k:=(k v h' z).2;rw[uJ (fun t ht=>h2 t ht)]at k;exact k
def ym(ops:Array Oper)(Lo Ge:Nat→Bool)(listed:Array Bool)(i:Nat):Bool:=
 (List.range ops.size).all fun j=>!Lo j||listed.getD j true||(IT ops ops.size (dx ops j)).contains i||Ge j
def yn(ops:Array Oper)(Lo:Nat→Bool)(listed:Array Bool)(i:Nat):Bool:=
 (List.range ops.size).all fun j=>!Lo j||listed.getD j true||(IT ops ops.size (dx ops j)).contains i
omit [Laid] in
def PM{listed:Array Bool}(hp:yn ops Lo listed i=true)(hd:Down ops listed)(hi:listed.getD i true=false)(hj:j∈Region.ready .any ops listed)(hl:Lo j=true):False:=by
 obtain⟨h0,o,ho,hall⟩:=mem_ready.1 hj;have hlt:=(By.1 ho).1;have:=AT.1 hp j (by simpa using hlt);simp only[hl,Bool.not_true,Bool.false_or,h0,List.contains_iff_mem]at this;refine oB hi (pR hd ops.size _ (fun k hk=>?_) i this);unfold dx at hk;rw[ho]at hk;simp only[aaf,aay]at hk;obtain⟨e,⟨he,hb⟩,rfl⟩:=hk;exact hall e (by simpa using he) hb
omit [Laid] in
def PL{listed:Array Bool}{oj:Oper}(hp:ym ops Lo Ge listed i=true)(hd:Down ops listed)(hi:listed.getD i true=false)(hj:j∈Region.ready .any ops listed)(hoj:ops[j]?=some oj)(hl:Lo j=true):Ge j=true:=by
 obtain⟨h0,o,ho,hall⟩:=mem_ready.1 hj;have hlt:=(By.1 ho).1;have:=AT.1 hp j (by simpa using hlt);simp only[hl,Bool.not_true,Bool.false_or,h0,hoj,aaH,List.contains_iff_mem]at this;rcases this with this|this
 ·refine (oB hi (pR hd ops.size _ (fun k hk=>?_) i this)).elim;unfold dx at hk;rw[ho]at hk;simp only[aaf,aay]at hk;obtain⟨e,⟨he,hb⟩,rfl⟩:=hk;exact hall e (by simpa using he) hb
 ·exact this
theorem yI{Z:Fr→aa→Prop}{oi:Oper}{x:AV}(hi:ops[i]?=some oi)(hLi:Lo i=false):∀(fuel:Nat) (listed:Array Bool) (fr:Fr) (h:aa),Down ops listed →
 (∀j oj,ops[j]?=some oj→j≠i→j<ops.size→listed.getD j true=false→(∀e∈oj.after,Region.binds .any e=true→e.on≠i)→oi.apart ops oj=true) →
 i∈Region.ready .any ops listed→YA P ops h oi x fr→((∀h',YA P ops h' oi x fr)∨yn ops Lo listed i=true∨((∀h',eM B h h'→YA P ops h' oi x fr)∧ym ops Lo Ge listed i=true))→sE P ops n Lo Ge B Z fuel (listed.setIfInBounds i true) (bJ n fr oi.dst x) h→sE P ops n Lo Ge B Z (fuel+1) listed fr h:=by
 have own:∀{K:Fr→Prop} {fr:Fr} {h:aa},YA P ops h oi x fr→K (bJ n fr oi.dst x)→qA P ops n h i K fr:=fun hy hk=>by unfold qA;simp only[hi];exact⟨x,hy,hk⟩
 intro fuel;induction fuel with
 | zero =>
   intro listed fr h hd hfree hr hy hp H;refine⟨fun q=>(by rw[q]at hr;cases hr),fun j hj=>?_⟩;have hj0:=(mem_ready.1 hj).1
   by_cases hji:j=i
   ·subst hji;exact .inr ⟨hLi,own hy H⟩
   ·exfalso;have e:=congrArg (fun a=>a.getD j true) H.1;simp only[getD_set_ne true (Ne.symm hji)]at e;rw[hj0]at e;obtain⟨_,oj,hoj,_⟩:=mem_ready.1 hj;have hlt:=(By.1 hoj).1;simp[full,hlt]at e
 | succ fuel ih =>
   intro listed fr h hd hfree hr hy hp H;refine⟨fun q=>(by rw[q]at hr;cases hr),fun j hj=>?_⟩
   by_cases hji:j=i
   ·subst hji;exact .inr ⟨hLi,own hy H⟩
   ·have h1:=H.2 j (ready_mono hj hji);obtain⟨hjun,oj,hoj,hall⟩:=mem_ready.1 hj;have hjlt:=(By.1 hoj).1;have hnot:∀e∈oj.after,Region.binds .any e=true→e.on≠i:=fun e he hb heq=>by
     have h1:=hall e he hb;rw[heq]at h1;exact oB (mem_ready.1 hr).1 h1
    have hap:=hfree j oj hoj hji hjlt hjun hnot;have hfree':∀k ok,ops[k]?=some ok→k≠i→k<ops.size→(listed.setIfInBounds j true).getD k true=false →
     (∀e∈ok.after,Region.binds .any e=true→e.on≠i)→oi.apart ops ok=true:=fun k ok hk hki hkT hun hno=>by
     refine hfree k ok hk hki hkT ?_ hno
     by_cases hjk:j=k
     ·subst hjk;exact hjun
     ·rw[getD_set_ne true hjk]at hun;exact hun
    have hpinE:ym ops Lo Ge listed i=true→ym ops Lo Ge (listed.setIfInBounds j true) i=true:=fun hp=>by
     unfold ym at *;refine AT.2 fun k hk=>?_;have:=AT.1 hp k hk;simp only[aaH]at this ⊢;refine this.imp (fun q=>q.imp (fun q=>q.imp id fun q=>?_) id) id
     by_cases hjk:j=k
     ·subst hjk;simp[hjlt,Array.getD_eq_getD_getElem?,Array.getElem?_setIfInBounds];split<;>simp_all
     ·rw[getD_set_ne true hjk];exact q
    have hpin:yn ops Lo listed i=true→yn ops Lo (listed.setIfInBounds j true) i=true:=fun hp=>by
     unfold yn at *;refine AT.2 fun k hk=>?_;have:=AT.1 hp k hk;simp only[aaH]at this ⊢;refine this.imp (fun q=>q.imp id fun q=>?_) id
     by_cases hjk:j=k
     ·subst hjk;simp[hjlt,Array.getD_eq_getD_getElem?,Array.getElem?_setIfInBounds];split<;>simp_all
     ·rw[getD_set_ne true hjk];exact q
    rcases h1 with⟨hLj,h1⟩|⟨hLj,h1⟩
    ·rcases hp with hp|hp|⟨hp,hpe⟩
     ·left;have h2:=Tr hoj hap hp h1;refine⟨hLj,GQ (fun fr' h' h3=>ih (listed.setIfInBounds j true) fr' h' (hd.set hj) hfree' (ready_mono hr (Ne.symm hji)) (h3.1 h') (.inl h3.1) ?_) h2⟩;rw[Array.setIfInBounds_comm _ _ hji];exact h3.2
     ·exact (PM hp hd (mem_ready.1 hr).1 hj hLj).elim
     ·left;have h2:=PQ hoj (PL hpe hd (mem_ready.1 hr).1 hj hoj hLj) hap hp h1;refine⟨hLj,GQ (fun fr' h' h3=>ih (listed.setIfInBounds j true) fr' h' (hd.set hj) hfree' (ready_mono hr (Ne.symm hji)) (h3.1 h' (eM.refl _)) (.inr (.inr ⟨h3.1,hpinE hpe⟩)) ?_) h2⟩;rw[Array.setIfInBounds_comm _ _ hji];exact h3.2
    ·right;have h2:=Ke hoj hap hy h1;rcases hp with hp|hp|⟨hp,hpe⟩
     ·have h4:qA P ops n h j (fun fr' => (∀h',YA P ops h' oi x fr')∧YA P ops h oi x fr'∧sE P ops n Lo Ge B Z fuel ((listed.setIfInBounds i true).setIfInBounds j true) (bJ n fr' oi.dst x) h) fr:=by
       obtain⟨_,_,h5⟩:=Oper.apart_spec hap;unfold qA at h2 ⊢;simp only[hoj]at h2 ⊢;obtain⟨y,q1,q2⟩:=h2;exact⟨y,q1,fun h' => (hp h').put h5,q2⟩
      refine⟨hLj,xg (fun fr' h3=>ih (listed.setIfInBounds j true) fr' h (hd.set hj) hfree' (ready_mono hr (Ne.symm hji)) h3.2.1 (.inl h3.1) ?_) h4⟩;rw[Array.setIfInBounds_comm _ _ hji];exact h3.2.2
     ·refine⟨hLj,xg (fun fr' h3=>ih (listed.setIfInBounds j true) fr' h (hd.set hj) hfree' (ready_mono hr (Ne.symm hji)) h3.1 (.inr (.inl (hpin hp))) ?_) h2⟩;rw[Array.setIfInBounds_comm _ _ hji];exact h3.2
     ·have h4:qA P ops n h j (fun fr' => (∀h',eM B h h'→YA P ops h' oi x fr')∧YA P ops h oi x fr'∧sE P ops n Lo Ge B Z fuel ((listed.setIfInBounds i true).setIfInBounds j true) (bJ n fr' oi.dst x) h) fr:=by
       obtain⟨_,_,h5⟩:=Oper.apart_spec hap;unfold qA at h2 ⊢;simp only[hoj]at h2 ⊢;obtain⟨y,q1,q2⟩:=h2;exact⟨y,q1,fun h' hl=>(hp h' hl).put h5,q2⟩
      refine⟨hLj,xg (fun fr' h3=>ih (listed.setIfInBounds j true) fr' h (hd.set hj) hfree' (ready_mono hr (Ne.symm hji)) h3.2.1 (.inr (.inr ⟨h3.1,hpinE hpe⟩)) ?_) h4⟩;rw[Array.setIfInBounds_comm _ _ hji];exact h3.2.2
def Eo(ops:Array Oper)(Lo Fe Ee Ge:Nat→Bool):List Nat→Array Bool→Bool
 | [],listed=>listed == full ops ops.size
 | i:: r,listed=>(match Lo i with
   | true=>Region.ready .any ops listed == [i]
   | false=>(Region.ready .any ops listed).contains i&&y9 ops listed ops.size i&&(Fe i||yn ops Lo listed i||Ee i&&ym ops Lo Ge listed i))&&Eo ops Lo Fe Ee Ge r (listed.setIfInBounds i true)
theorem qE{Z:Fr→aa→Prop}:∀(l:List Nat) (listed:Array Bool) (fr:Fr) (h:aa),Down ops listed→Eo ops Lo Fe Ee Ge l listed=true→ja P ops n Lo Fe Ee Ge B Z l fr h→sE P ops n Lo Ge B Z l.length listed fr h
 | [],listed,fr,h,_,hL,q=>by
   simp only[Eo,beq_iff_eq]at hL;exact⟨hL,q⟩
 | i:: l,listed,fr,h,hd,hL,q=>by
   simp only[ja]at q;cases ho:ops[i]? with
   | none=>rw[ho]at q;exact q.elim
   | some o =>
     rw[ho]at q;simp only at q;rcases q with⟨hl,hg,own,K0,q,k⟩|⟨hl,x,hy,hf,hee,q⟩
     ·simp only[Eo,hl,On,beq_iff_eq]at hL;obtain⟨hr,hL⟩:=hL;have hm:i∈Region.ready .any ops listed:=by rw[hr];simp
      refine⟨by rw[hr];simp,fun j hj=>?_⟩;rw[hr]at hj;simp only[Up]at hj;subst hj;refine .inl ⟨hl, ?_⟩;unfold qL;simp only[ho];exact⟨hg,own,K0,q,fun v h' z=>⟨(k v h' z).1,qE l _ _ h' (hd.set hm) hL (k v h' z).2⟩⟩
     ·simp only[Eo,hl,On,aaH,or_assoc]at hL;obtain⟨⟨⟨hr,hfp⟩,hp⟩,hL⟩:=hL;have hm:i∈Region.ready .any ops listed:=by simpa using hr
      exact yI ho hl l.length listed fr h hd (uv ho hfp) hm hy (hp.imp hf fun z=>z.imp id fun z=>⟨hee z.1,z.2⟩) (qE l _ _ h (hd.set hm) hL q)
def EB{m i base:Nat}{fr:Fr}{K:Fr→aa→Prop}{K':Act→World→Prop}{Q':Exit→Act→World→Prop}(hm:m≤ι.length)(hr:bW base ι S a w ⟨n,fr,h⟩)
 (hk:∀ι' S' a' w' fr' h',h.length≤h'.length→bM m base ι S w ι' S' w'→bW base ι' S' a' w' ⟨n,fr',h'⟩→K fr' h'→K' a' w') (q:qL P ops n Ge B i K fr h):wpOp P ops Q' i K' a w:=by
 unfold qL at q;unfold wpOp;split
 ·rename_i e;rw[e]at q;exact q.elim
 ·rename_i o e;rw[e]at q;obtain⟨g,own,K0,hy,hK⟩:=q;have hw:fG ops o fr=some true:=by unfold fG;rw[g]
  rw[if_pos (sA hr hw)];left;refine mE (fun a' w' k=>?_) (fun _ _ _ k=>k) (nA (st:=⟨n,fr,h⟩) hr hy Q');obtain⟨ι',S',v,h',hE,hR,hl,k⟩:=k;exact hk ι' S' a' w' _ h' hl (hE.mono hm (aS _)) hR (hK _ _ k).2
theorem nf{m:Nat}{Z:Fr→aa→Prop}{Q':Exit→St→Prop}(hZ:∀fr h,Z fr h→Q' .normal ⟨n,fr,h⟩):∀(fuel:Nat) (listed:Array Bool) (base:Nat) (ι:List Ix) (S:bj) (a:Act) (w:World) (fr:Fr) (h:aa),
 m≤h.length→bW base ι S a w ⟨n,fr,h⟩→sE P ops n Lo Ge B Z fuel listed fr h→wpAny P .any ops (cY m base ι S w Q') fuel listed a w
 | 0,listed,base,ι,S,a,w,fr,h,hm,hr,q=>by
   rw[q.1];exact⟨rX,ι,S,⟨n,fr,h⟩,bM.refl _ _ _ _ _,hm,hr,hZ fr h q.2⟩
 | fuel+1,listed,base,ι,S,a,w,fr,h,hm,hr,q=>by
   have hm':m≤ι.length:=by rw[hr.hp.len];exact hm
   refine⟨fun e=>absurd e q.1,fun i hi=>?_⟩;rcases q.2 i hi with⟨_,k⟩|⟨_,k⟩
   ·refine EB (m:=m) hm' hr (fun ι' S' a' w' fr' h' hl hE hr' k=>?_) k;have:=nf (m:=m) (Q':=Q') hZ fuel (listed.setIfInBounds i true) base ι' S' a' w' fr' h' (by omega) hr' k;exact du (fun e a w z=>cY.trans hE z) _ _ _ _ this
   ·refine yo (m:=m) hm' hr (fun ι' S' a' w' fr' hE hr' k=>?_) k;have:=nf (m:=m) (Q':=Q') hZ fuel (listed.setIfInBounds i true) base ι' S' a' w' fr' h hm hr' k;exact du (fun e a w z=>cY.trans hE z) _ _ _ _ this
end
/-! ### The condition on abstract values -/
def Mn(x:AV):Bool:=match x with|.own _ _ _ _=>false|_=>true
def HM(ev:Operand→AV)(op:Op):Bool:=match op with
 | .call c=>(match c.callee,c.args.toList with|.builtin .append,[x,_]=>Mn (ev x)|_,_=>false)
 | _=>false
def D7(P:Program)(ev:Operand→AV)(h:aa)(op:Op)(K:AV→Prop):Prop:=match op with
 | .load t x=>cG (fo P t) (ae (eK P t) (P.cellsOf t) (ev x) h K)
 | _=>False
omit [Laid] in
def Ml{B:Nat→Prop}{sz:Nat}{K:AV→Prop}(hx:∀id o,x=.op id o→B id)(hl:eM B h h')(q:ae g sz x h K):ae g sz x h' K:=by
 cases x<;>simp only[ae]at q⊢<;> first|exact q|skip
 rename_i id o;cases e:h[id]? with
 | none=>rw[e]at q;exact q.elim
 | some en =>
   rw[e]at q;cases en with
   | ak b=>rw[hl id b (hx _ _ rfl) e];exact q
   | tok=>exact q.elim
   | dead=>exact q.elim
   | mp=>exact q.elim
   | it=>exact q.elim
def uy{B:Nat→Prop}{own:Bool}{ev:Operand→AV}{op:Op}{K:AV→Prop}(hB:∀t x id o,op=.load t x→ev x=.op id o→B id)(q:D7 P ev h op K):∃x,(∀h',eM B h h'→bH P own ev h' op fun v h2=>v=x∧h2=h')∧K x:=by
 unfold D7 at q;split at q
 ·obtain⟨ht,q⟩:=bh q;obtain⟨x,q1,q2⟩:=xU _ _ _ _ K q;refine⟨x,fun h' hl=>?_,q2⟩;simp only[bH,ht,cG];have:=Ml (fun id o e=>hB _ _ id o rfl e) hl q1;simpa using this
 ·exact q.elim
omit [Laid] in
def vt{B:Nat→Prop}{own:Bool}{e sz bytes:Nat}{src:Option (List (List AV))}{K:AV→aa→Prop}(hx:∀id o l s,x=.own id o l s→¬B id)(q:ep own e sz bytes x src h K):ep own e sz bytes x src h fun v h' => eM B h h'∧K v h':=by
 unfold ep at *;cases src with
 | none=>exact q
 | some rows =>
   simp only at q ⊢;refine⟨q.1, ?_⟩;have q:=q.2;cases hn:xD x<;>rw[hn]at q<;>simp only at q⊢<;> first|exact q.elim|skip
   case emp =>
    cases own with
    | false=>exact⟨q.1,eM.ext _ _,q.2⟩
    | true=>exact⟨q.1,q.2.1,eM.ext _ _,q.2.2⟩
   case sb id sz' base =>
    cases e2:h[id]? with
    | none=>rw[e2]at q;exact q.elim
    | some en =>
      rw[e2]at q;cases en with
      | tok=>exact⟨q.1,q.2.1,eM.tok e2,q.2.2⟩
      | ak=>exact q.elim
      | dead=>exact q.elim
      | mp=>exact q.elim
      | it=>exact q.elim
   case own id o l s =>
    have hb:¬B id:=by
     unfold xD at hn;split at hn
     ·cases hn
     ·exact hx _ _ _ _ hn
    cases e2:h[id]? with
    | none=>rw[e2]at q;exact q.elim
    | some en =>
      rw[e2]at q;cases en with
      | ak=>exact⟨q.1,q.2.1,q.2.2.1,eM.kill hb,q.2.2.2⟩
      | tok=>exact q.elim
      | dead=>exact q.elim
      | mp=>exact q.elim
      | it=>exact q.elim
omit [Laid] in
def PC{B:Nat→Prop}(h:Mn x=true):∀id o l s,x=.own id o l s→¬B id:=fun id o l s e=>by subst e;simp[Mn]at h
def FH{B:Nat→Prop}{own:Bool}{ev:Operand→AV}{op:Op}{K:AV→aa→Prop}(hg:HM ev op=true)(q:bH P own ev h op K):bH P own ev h op fun v h' => eM B h h'∧K v h':=by
 unfold HM at hg;split at hg
 ·rename_i c;split at hg
  ·rename_i x y hc ha;simp only[bH,hc]at q ⊢;split at q
   ·rename_i t tx x' y' hat hxy;rw[ha]at hxy;simp only[List.cons.injEq,and_true]at hxy;obtain⟨rfl,rfl⟩:=hxy;cases h1:P.underlying t with
    | none=>rw[h1]at q;exact q.elim
    | some d =>
      cases h2:P.underlying tx with
      | none=>rw[h1,h2]at q;cases d<;>exact q.elim
      | some d2 =>
        rw[h1,h2]at q;cases d<;>cases d2<;>simp only at q⊢<;> first|exact q.elim|(obtain⟨hr,q⟩:=bh q;rw[hr];exact vt (PC hg) q)
   ·exact q.elim
  ·cases hg
 ·cases hg
def qG(P:Program)(ops:Array Oper)(n:Nat):List (Nat×Nat×Bool)→Fr→aa→(Fr→aa→Prop)→Prop
 | [],fr,h,K=>K fr h
 | (i,k,own):: r,fr,h,K=>match ops[i]? with
  | none=>False
  | some o=>(match k with
    | 0=>F8 P own (aH fr) [] o.op fun v=>qG P ops n r (bJ n fr o.dst v) h K
    | 1=>DG P own (aH fr) h o.op fun v=>qG P ops n r (bJ n fr o.dst v) h K
    | 3=>D7 P (aH fr) h o.op fun v=>qG P ops n r (bJ n fr o.dst v) h K
    | 4=>cG (HM (aH fr) o.op) (bH P own (aH fr) h o.op fun v h' => qG P ops n r (bJ n fr o.dst v) h' K)
    | _=>bH P own (aH fr) h o.op fun v h' => qG P ops n r (bJ n fr o.dst v) h' K)
def iv:List (Nat×Nat×Bool)→Nat→Nat
 | [],_=>2
 | (i,k,_):: r,j=>match Nat.beq i j with|true=>k|false=>iv r j
def jJ(l:List (Nat×Nat×Bool))(j:Nat):Bool:=match iv l j with|0=>false|1=>false|3=>false|_=>true
def rU(l:List (Nat×Nat×Bool))(j:Nat):Bool:=match iv l j with|0=>true|_=>false
def rS(l:List (Nat×Nat×Bool))(j:Nat):Bool:=match iv l j with|3=>true|_=>false
def rY(ops:Array Oper)(l:List (Nat×Nat×Bool))(j:Nat):Bool:=match iv l j with|4=>true|2=>(match ops[j]? with|some o=>y6 o.op|none=>false)|_=>false
def wL(P:Program)(ops:Array Oper)(l:List (Nat×Nat×Bool)):Bool:=
 P.follows .mixedOrders&&ops.all (fun o=>o.guard.isNone)&&decide (l.length=ops.size)&&l.all (fun p=>Nat.beq (iv l p.1) p.2.1)&&Eo ops (jJ l) (rU l) (rS l) (rY ops l) (l.map (·.1)) (Array.replicate ops.size false)
def F0(P:Program)(ops:Array Oper)(l:List (Nat×Nat×Bool))(Q:Exit→St→Prop)(st:St):Prop:=
 cG (wL P ops l) (qG P ops st.n l st.fr st.h fun fr h=>Q .normal ⟨st.n,fr,h⟩)
theorem mh{ops:Array Oper}{K:Fr→aa→Prop}(hg:∀(i:Nat) (o:Oper),ops[i]?=some o→o.guard=none):∀(l:List (Nat×Nat×Bool)) (fr:Fr) (h:aa),(∀p∈l,iv L p.1=p.2.1)→qG P ops n l fr h K→ja P ops n (jJ L) (rU L) (rS L) (rY ops L) (fun _=>True) K (l.map (·.1)) fr h
 | [],fr,h,_,q=>q
 | (i,k,own):: l,fr,h,hk,q=>by
  have hk0:iv L i=k:=hk (i,k,own) (by simp);have hk':∀p∈l,iv L p.1=p.2.1:=fun p hp=>hk p (by simp[hp]);simp only[qG]at q;simp only[IF,ja];cases ho:ops[i]? with
  | none=>rw[ho]at q;exact q.elim
  | some o =>
    rw[ho]at q;simp only at q ⊢;have hw:∀fr,fG ops o fr=some true:=fun fr=>by unfold fG;rw[hg i o ho]
    split at q
    ·obtain⟨x,q1,q2⟩:=tj q;refine .inr ⟨by simp[jJ,hk0],x,.inl ⟨hw fr,own,by simpa using q1 h⟩,fun _ h' => .inl ⟨hw fr,own,by simpa using q1 h'⟩,fun z=>by simp[rS,hk0]at z,mh hg l _ h hk' q2⟩
    ·obtain⟨x,q1,q2⟩:=ql q;refine .inr ⟨by simp[jJ,hk0],x,.inl ⟨hw fr,own,q1⟩,fun z=>by simp[rU,hk0]at z,fun z=>by simp[rS,hk0]at z,mh hg l _ h hk' q2⟩
    ·obtain⟨x,q1,q2⟩:=uy (B:=fun _=>True) (own:=own) (fun _ _ _ _ _ _=>trivial) q;refine .inr ⟨by simp[jJ,hk0],x,.inl ⟨hw fr,own,q1 h (eM.refl _)⟩,fun z=>by simp[rU,hk0]at z,fun _ h' hl=>.inl ⟨hw fr,own,q1 h' hl⟩,mh hg l _ h hk' q2⟩
    ·obtain⟨hgr,q⟩:=bh q;exact .inl ⟨by simp[jJ,hk0],hg i o ho,own,_,FH hgr q,fun v h' k=>⟨fun _=>k.1,mh hg l _ h' hk' k.2⟩⟩
    ·rename_i h0 h1 h3 h4;have hlo:jJ L i=true:=by
      unfold jJ;rw[hk0];split
      ·exact absurd rfl h0
      ·exact absurd rfl h1
      ·exact absurd rfl h3
      ·rfl
     cases hex:y6 o.op with
     | true=>exact .inl ⟨hlo,hg i o ho,own,_,uO hex q,fun v h' k=>⟨fun _=>by obtain⟨⟨e,rfl⟩,_⟩:=k;exact eM.ext _ _,mh hg l _ h' hk' k.2⟩⟩
     | false =>
       have hge:rY ops L i=true→False:=fun z=>by
        unfold rY at z;rw[hk0]at z;split at z
        ·exact absurd rfl h4
        ·rw[ho]at z;simp[hex]at z
        ·exact absurd z (by simp)
       exact .inl ⟨hlo,hg i o ho,own,_,q,fun v h' k=>⟨fun z=>(hge z).elim,mh hg l _ h' hk' k⟩⟩
def Ft{m id:Nat}{ops:Array Oper}{Q:Exit→St→Prop}{st:St}(hm:m≤st.h.length)(hq:F0 P ops l Q st):AW P m (.region id ops true) Q st:=by
 intro base ι S a w _ hr;obtain⟨ba,hq⟩:=bh hq;simp only[wL,On,OF]at ba;obtain⟨⟨⟨⟨k1,k2⟩,k3⟩,k4⟩,k5⟩:=ba;obtain⟨hE,hr'⟩:=hr.drew;refine wp_region_any k1 (du (fun e a w z=>cY.trans (hE.mono (by rw[hr.hp.len];exact hm) (aS _)) z) _ _ _ _ ?_);have down0:Down ops (Array.replicate ops.size false):=fun i o ho hl=>by
  have hlt:=(By.1 ho).1;simp[hlt]at hl
 have hg:∀(i:Nat) (o:Oper),ops[i]?=some o→o.guard=none:=fun i o ho=>by
  have:=Array.all_eq_true_iff_forall_mem.1 k2 o (Array.mem_of_getElem? ho);simpa using this
 have hk:∀p∈l,iv l p.1=p.2.1:=fun p hp=>lT (AT.1 k4 p hp);have q2:=mh hg l st.fr st.h hk hq;have q3:=qE _ _ _ _ down0 k5 q2;rw[aac,k3]at q3;obtain⟨n,fr,h⟩:=st;exact nf (m:=m) (Q':=Q) (fun fr h z=>z) ops.size _ base ι S a _ fr h hm hr' q3
def Fk.dep:Fk→Nat
 | .nil=>0
 | .one _ _ _ t=>t.dep+1
 | .two a _=>a.dep
def Fk.flat:Fk→List (Nat×Nat×Bool)
 | .nil=>[]
 | .one i k own t=>(i,k,own):: t.flat
 | .two a _=>a.flat
def Fk.kinds(f:Nat→Nat):Fk→Bool
 | .nil=>true
 | .one i k _ t=>Nat.beq (f i) k&&t.kinds f
 | .two a b=>a.kinds f&&b.kinds f
def Fk.head:Fk→Option Nat
 | .one i _ _ _=>some i
 | _=>none
section
variable (P:Program) (ops:Array Oper) (n:Nat) (Lo Fe Ee Ge:Nat→Bool) (B:Nat→Prop)
def og:Fk→Array Bool→Bool
 | .nil,listed=>listed == full ops ops.size
 | .one i _ _ t,listed=>(match Lo i with
   | true=>Region.ready .any ops listed == [i]
   | false=>(Region.ready .any ops listed).contains i&&y9 ops listed ops.size i&&(Fe i||yn ops Lo listed i||Ee i&&ym ops Lo Ge listed i))&&og t (listed.setIfInBounds i true)
 | .two (.one i _ _ t) (.one j _ _ u),listed=>Lo i&&Lo j&&Region.ready .any ops listed == [i,j]&&Nat.beq t.dep u.dep&&og t (listed.setIfInBounds i true)&&og u (listed.setIfInBounds j true)
 | _,_=>false
def tS(Z:Fr→aa→Prop):Fk→Fr→aa→Prop
 | .nil,fr,h=>Z fr h
 | .one i _ _ r,fr,h=>match ops[i]? with
   | none=>False
   | some o=>(Lo i=true∧o.guard=none∧∃own K0,bH P own (aH fr) h o.op K0∧∀v h',K0 v h'→(Ge i=true→eM B h h')∧tS Z r (bJ n fr o.dst v) h') ∨
     (Lo i=false∧∃x,YA P ops h o x fr∧(Fe i=true→∀h',YA P ops h' o x fr)∧(Ee i=true→∀h',eM B h h'→YA P ops h' o x fr)∧tS Z r (bJ n fr o.dst x) h)
 | .two a b,fr,h=>tS Z a fr h∧tS Z b fr h
end
section
variable {P:Program} {ops:Array Oper} {n:Nat} {Lo Fe Ee Ge:Nat→Bool} {B:Nat→Prop}
theorem qF{Z:Fr→aa→Prop}:∀(l:Fk) (listed:Array Bool) (fr:Fr) (h:aa),Down ops listed→og ops Lo Fe Ee Ge l listed=true→tS P ops n Lo Fe Ee Ge B Z l fr h→sE P ops n Lo Ge B Z l.dep listed fr h
 | .nil,listed,fr,h,_,hL,q=>by
   simp only[og,beq_iff_eq]at hL;exact⟨hL,q⟩
 | .one i k0 own0 l,listed,fr,h,hd,hL,q=>by
   simp only[tS]at q;cases ho:ops[i]? with
   | none=>rw[ho]at q;exact q.elim
   | some o =>
     rw[ho]at q;simp only at q;rcases q with⟨hl,hg,own,K0,q,k⟩|⟨hl,x,hy,hf,hee,q⟩
     ·simp only[og,hl,On,beq_iff_eq]at hL;obtain⟨hr,hL⟩:=hL;have hm:i∈Region.ready .any ops listed:=by rw[hr];simp
      refine⟨by rw[hr];simp,fun j hj=>?_⟩;rw[hr]at hj;simp only[Up]at hj;subst hj;refine .inl ⟨hl, ?_⟩;unfold qL;simp only[ho];exact⟨hg,own,K0,q,fun v h' z=>⟨(k v h' z).1,qF l _ _ h' (hd.set hm) hL (k v h' z).2⟩⟩
     ·simp only[og,hl,On,aaH,or_assoc]at hL;obtain⟨⟨⟨hr,hfp⟩,hp⟩,hL⟩:=hL;have hm:i∈Region.ready .any ops listed:=by simpa using hr
      exact yI ho hl l.dep listed fr h hd (uv ho hfp) hm hy (hp.imp hf fun z=>z.imp id fun z=>⟨hee z.1,z.2⟩) (qF l _ _ h (hd.set hm) hL q)
 | .two (.one i k1 own1 t) (.one j k2 own2 u),listed,fr,h,hd,hL,q=>by
   simp only[og,On,beq_iff_eq]at hL;obtain⟨⟨⟨⟨⟨hi,hj⟩,hr⟩,hdp⟩,hL1⟩,hL2⟩:=hL;have hdp:t.dep=u.dep:=lT hdp;have mi:i∈Region.ready .any ops listed:=by rw[hr];simp
   have mj:j∈Region.ready .any ops listed:=by rw[hr];simp
   simp only[tS]at q;refine⟨by rw[hr];simp,fun p hp=>?_⟩;rw[hr]at hp;simp only[IS,List.not_mem_nil,or_false]at hp;rcases hp with rfl|rfl
   ·have q:=q.1;cases ho:ops[p]? with
    | none=>rw[ho]at q;exact q.elim
    | some o =>
      rw[ho]at q;simp only at q;rcases q with⟨hl,hg,own,K0,q,k⟩|⟨hl,_⟩
      ·refine .inl ⟨hl, ?_⟩;unfold qL;simp only[ho];exact⟨hg,own,K0,q,fun v h' z=>⟨(k v h' z).1,qF t _ _ h' (hd.set mi) hL1 (k v h' z).2⟩⟩
      ·rw[hi]at hl;cases hl
   ·have q:=q.2;cases ho:ops[p]? with
    | none=>rw[ho]at q;exact q.elim
    | some o =>
      rw[ho]at q;simp only at q;rcases q with⟨hl,hg,own,K0,q,k⟩|⟨hl,_⟩
      ·refine .inl ⟨hl, ?_⟩;unfold qL;simp only[ho];refine⟨hg,own,K0,q,fun v h' z=>⟨(k v h' z).1, ?_⟩⟩;have:=qF u _ _ h' (hd.set mj) hL2 (k v h' z).2;rw[←hdp]at this;exact this
      ·rw[hj]at hl;cases hl
 | .two .nil b,listed,fr,h,hd,hL,q=>by simp[og]at hL
 | .two (.two _ _) b,listed,fr,h,hd,hL,q=>by simp[og]at hL
 | .two (.one _ _ _ _) .nil,listed,fr,h,hd,hL,q=>by simp[og]at hL
 | .two (.one _ _ _ _) (.two _ _),listed,fr,h,hd,hL,q=>by simp[og]at hL
end
def mI(m:Nat)(x:AV):Bool:=match x with|.op id _=>Nat.ble (id+1) m|_=>true
def NF(m:Nat)(x:AV):Bool:=match x with|.own id _ _ _=>Nat.ble m id|_=>true
def DW(m:Nat)(ev:Operand→AV)(op:Op):Bool:=match op with
 | .call c=>(match c.callee,c.args.toList with|.builtin .append,[x,_]=>NF m (ev x)|_,_=>false)
 | _=>false
def HS(P:Program)(m:Nat)(ev:Operand→AV)(h:aa)(op:Op)(K:AV→Prop):Prop:=match op with
 | .load t x=>cG (mI m (ev x)) (cG (fo P t) (ae (eK P t) (P.cellsOf t) (ev x) h K))
 | _=>False
def Jy{own:Bool}{ev:Operand→AV}{op:Op}{K:AV→Prop}(q:HS P m ev h op K):∃x,(∀h',eM (·<m) h h'→bH P own ev h' op fun v h2=>v=x∧h2=h')∧K x:=by
 unfold HS at q;split at q
 ·rename_i t x;obtain⟨hb,q⟩:=bh q;refine uy (B:=(·<m)) (own:=own) (fun t' x' id o e1 e2=>?_) (op:=.load t x) (by unfold D7;exact q);cases e1;unfold mI at hb;rw[e2]at hb;exact nE hb
 ·exact q.elim
def Li{own:Bool}{ev:Operand→AV}{op:Op}{K:AV→aa→Prop}(hg:DW m ev op=true)(q:bH P own ev h op K):bH P own ev h op fun v h' => eM (·<m) h h'∧K v h':=by
 unfold DW at hg;split at hg
 ·rename_i c;split at hg
  ·rename_i x y hc ha;have hno:∀id o l s,ev x=.own id o l s→¬id<m:=fun id o l s e=>by
    unfold NF at hg;rw[e]at hg;have:=nE hg;omega
   simp only[bH,hc]at q ⊢;split at q
   ·rename_i t tx x' y' hat hxy;rw[ha]at hxy;simp only[List.cons.injEq,and_true]at hxy;obtain⟨rfl,rfl⟩:=hxy;cases h1:P.underlying t with
    | none=>rw[h1]at q;exact q.elim
    | some d =>
      cases h2:P.underlying tx with
      | none=>rw[h1,h2]at q;cases d<;>exact q.elim
      | some d2 =>
        rw[h1,h2]at q;cases d<;>cases d2<;>simp only at q⊢<;> first|exact q.elim|(obtain⟨hr,q⟩:=bh q;rw[hr];exact vt hno q)
   ·exact q.elim
  ·cases hg
 ·cases hg
def xv(P:Program)(ops:Array Oper)(n m:Nat):Fk→Fr→aa→(Fr→aa→Prop)→Prop
 | .nil,fr,h,K=>K fr h
 | .one i k own r,fr,h,K=>match ops[i]? with
   | none=>False
   | some o=>(match k with
     | 0=>F8 P own (aH fr) [] o.op fun v=>xv P ops n m r (bJ n fr o.dst v) h K
     | 1=>DG P own (aH fr) h o.op fun v=>xv P ops n m r (bJ n fr o.dst v) h K
     | 3=>HS P m (aH fr) h o.op fun v=>xv P ops n m r (bJ n fr o.dst v) h K
     | 4=>cG (DW m (aH fr) o.op) (bH P own (aH fr) h o.op fun v h' => xv P ops n m r (bJ n fr o.dst v) h' K)
     | _=>bH P own (aH fr) h o.op fun v h' => xv P ops n m r (bJ n fr o.dst v) h' K)
 | .two a b,fr,h,K=>xv P ops n m a fr h K∧xv P ops n m b fr h K
def F6(P:Program)(ops:Array Oper)(t:Fk):Bool:=
 P.follows .mixedOrders&&ops.all (fun o=>o.guard.isNone)&&Nat.beq t.dep ops.size&&t.kinds (iv t.flat)&&og ops (jJ t.flat) (rU t.flat) (rS t.flat) (rY ops t.flat) t (Array.replicate ops.size false)
def F7(P:Program)(ops:Array Oper)(t:Fk)(Q:Exit→St→Prop)(st:St):Prop:=
 cG (F6 P ops t) (xv P ops st.n st.h.length t st.fr st.h fun fr h=>Q .normal ⟨st.n,fr,h⟩)
theorem kW{ops:Array Oper}{K:Fr→aa→Prop}(hg:∀(i:Nat) (o:Oper),ops[i]?=some o→o.guard=none):∀(l:Fk) (fr:Fr) (h:aa),l.kinds (iv L)=true→xv P ops n m l fr h K→tS P ops n (jJ L) (rU L) (rS L) (rY ops L) (·<m) K l fr h
 | .nil,fr,h,_,q=>q
 | .two a b,fr,h,hk,q=>by
   simp only[Fk.kinds,On]at hk;exact⟨kW hg a fr h hk.1 q.1,kW hg b fr h hk.2 q.2⟩
 | .one i k own l,fr,h,hk,q=>by
   simp only[Fk.kinds,On]at hk;have hk0:iv L i=k:=lT hk.1;have hk':=hk.2;simp only[xv]at q;simp only[tS];cases ho:ops[i]? with
   | none=>rw[ho]at q;exact q.elim
   | some o =>
     rw[ho]at q;simp only at q ⊢;have hw:∀fr,fG ops o fr=some true:=fun fr=>by unfold fG;rw[hg i o ho]
     split at q
     ·obtain⟨x,q1,q2⟩:=tj q;refine .inr ⟨by simp[jJ,hk0],x,.inl ⟨hw fr,own,by simpa using q1 h⟩,fun _ h' => .inl ⟨hw fr,own,by simpa using q1 h'⟩,fun z=>by simp[rS,hk0]at z,kW hg l _ h hk' q2⟩
     ·obtain⟨x,q1,q2⟩:=ql q;refine .inr ⟨by simp[jJ,hk0],x,.inl ⟨hw fr,own,q1⟩,fun z=>by simp[rU,hk0]at z,fun z=>by simp[rS,hk0]at z,kW hg l _ h hk' q2⟩
     ·obtain⟨x,q1,q2⟩:=Jy (own:=own) q;refine .inr ⟨by simp[jJ,hk0],x,.inl ⟨hw fr,own,q1 h (eM.refl _)⟩,fun z=>by simp[rU,hk0]at z,fun _ h' hl=>.inl ⟨hw fr,own,q1 h' hl⟩,kW hg l _ h hk' q2⟩
     ·obtain⟨hgr,q⟩:=bh q;exact .inl ⟨by simp[jJ,hk0],hg i o ho,own,_,Li hgr q,fun v h' k=>⟨fun _=>k.1,kW hg l _ h' hk' k.2⟩⟩
     ·rename_i h0 h1 h3 h4;have hlo:jJ L i=true:=by
       unfold jJ;rw[hk0];split
       ·exact absurd rfl h0
       ·exact absurd rfl h1
       ·exact absurd rfl h3
       ·rfl
      cases hex:y6 o.op with
      | true=>exact .inl ⟨hlo,hg i o ho,own,_,uO hex q,fun v h' k=>⟨fun _=>by obtain⟨⟨e,rfl⟩,_⟩:=k;exact eM.ext _ _,kW hg l _ h' hk' k.2⟩⟩
      | false =>
        have hge:rY ops L i=true→False:=fun z=>by
         unfold rY at z;rw[hk0]at z;split at z
         ·exact absurd rfl h4
         ·rw[ho]at z;simp[hex]at z
         ·exact absurd z (by simp)
        exact .inl ⟨hlo,hg i o ho,own,_,q,fun v h' k=>⟨fun z=>(hge z).elim,kW hg l _ h' hk' k⟩⟩
def Fw{m id:Nat}{ops:Array Oper}{Q:Exit→St→Prop}{st:St}(hm:m≤st.h.length)(hq:F7 P ops l Q st):AW P m (.region id ops true) Q st:=by
 intro base ι S a w _ hr;obtain⟨ba,hq⟩:=bh hq;simp only[F6,On]at ba;obtain⟨⟨⟨⟨k1,k2⟩,k3⟩,k4⟩,k5⟩:=ba;have k3:=lT k3;obtain⟨hE,hr'⟩:=hr.drew;refine wp_region_any k1 (du (fun e a w z=>cY.trans (hE.mono (by rw[hr.hp.len];exact hm) (aS _)) z) _ _ _ _ ?_);have down0:Down ops (Array.replicate ops.size false):=fun i o ho hl=>by
  have hlt:=(By.1 ho).1;simp[hlt]at hl
 have hg:∀(i:Nat) (o:Oper),ops[i]?=some o→o.guard=none:=fun i o ho=>by
  have:=Array.all_eq_true_iff_forall_mem.1 k2 o (Array.mem_of_getElem? ho);simpa using this
 have q2:=kW hg l st.fr st.h k4 hq;have q3:=qF _ _ _ _ down0 k5 q2;rw[k3]at q3;obtain⟨n,fr,h⟩:=st;exact nf (m:=m) (Q':=Q) (fun fr h z=>z) ops.size _ base ι S a _ fr h hm hr' q3
def lC(P:Program):Code→An→(Exit→St→Prop)→St→Prop
 | .skip,_,Q,st=>Q .normal st
 | .ret,_,Q,st=>Q .ret st
 | .exit id,_,Q,st=>Q (.exit id) st
 | .label _,_,Q,st=>Q .normal st
 | .goto l,_,Q,st=>Q (.goto l) st
 | .seq a b,t,Q,st=>(match t with
   | .join cs ms _ _=>aI (fun J=>lC P a t.l (gh (fun st' => cG (Nat.beq st'.n st.n) (jmp cs ms st.fr st'.fr st'.h J)) Q) st) fun s h=>lC P b t.r Q ⟨st.n,join cs ms st.fr s,h⟩
   | _=>lC P a t.l (gh (fun st=>lC P b t.r Q st) Q) st)
 | .block id c,t,Q,st=>lC P c t.l (yL id Q) st
 | .cond c a b,t,Q,st=>(match c with
   | .tmp x=>af (bF st.fr x) (lC P a t.l Q ⟨st.n,dQ st.fr x (.v (.bool true)),st.h⟩) (lC P b t.r Q ⟨st.n,dQ st.fr x (.v (.bool false)),st.h⟩)
   | c=>af (aH st.fr c) (lC P a t.l Q st) (lC P b t.r Q st))
 | .region _ ops draw,t,Q,st=>(match draw with
   | false=>cG (Kr ops (t.sg ops.size)) (jW P ops (t.sg ops.size) st (Q .normal))
   | true=>(match t with
     | .draw k l r q=>Je P ops k l r q Q st
     | .HH k A l r q=>FZ P ops k A l r q Q st
     | .fF l=>F0 P ops l Q st
     | .CN l=>F7 P ops l Q st
     | _=>False))
 | .loop c,t,Q,st=>(match t with
   | .loop cs ms a=>bc (dy st.fr ms) st.h fun next s h=>lC P c a (gh (fun st' => cG (Nat.beq st'.n st.n) (jmp cs ms st.fr st'.fr st'.h next)) Q) ⟨st.n,join cs ms st.fr s,h⟩
   | _=>False)
 | _,_,_,_=>False
def AW.CV{Q Q':Exit→St→Prop}{st:St}(h:AW P m c Q st)(hq:∀e st,m≤st.h.length→Q e st→Q' e st):AW P m c Q' st:=
 fun base ι S a w hm hr=>wp_mono (h base ι S a w hm hr) fun _ _ _ ⟨ι',S',st',h1,h2,h3,h4⟩=>⟨ι',S',st',h1,h2,h3,hq _ _ h2 h4⟩
theorem fx:∀(c:Code) (t:An) (Q:Exit→St→Prop) (st:St) (m:Nat),m≤st.h.length→lC P c t Q st→AW P m c Q st
 | .skip,t,Q,st,m,_,h=>Fz h
 | .ret,t,Q,st,m,_,h=>Ip h
 | .exit id,t,Q,st,m,_,h=>Fx h
 | .label l,t,Q,st,m,_,h=>Db h
 | .goto l,t,Q,st,m,_,h=>Fy h
 | .seq a b,t,Q,st,m,hm,h=>by
   simp only[lC]at h;split at h
   ·rename_i cs ms a' b';refine yA (AW.CV (fx a _ _ st m hm h) fun e st' hm' k=>?_);cases e with
    | normal =>
      obtain⟨hn,q⟩:=bh k;obtain⟨e1,k⟩:=qn q;have hn:st'.n=st.n:=lT hn;intro base ι S ac w _ hr;exact fx b _ Q ⟨st.n,join cs ms st.fr (dy st'.fr ms),st'.h⟩ m hm' k base ι S ac w hm' ⟨hr.df,by rw[←hn];exact hr.sz,hr.fr.join e1,hr.hp⟩
    | _=>exact k
   ·refine yA (AW.CV (fx a _ _ st m hm h) fun e st' hm' k=>?_);cases e with
    | normal=>exact fx b _ Q _ m hm' k
    | _=>exact k
 | .block id c,t,Q,st,m,hm,h=>C9 (fx c t.l _ st m hm h)
 | .cond c a b,t,Q,st,m,hm,h=>by
   intro base ι S ac w hm' hr;simp only[lC]at h;have other:∀{x:AV},ax ι S w x (ac.eval c)→af x (lC P a t.l Q st) (lC P b t.r Q st)→(Code.cond c a b).wp P (cY m base ι S w Q) ac w:=by
    rintro x rx ⟨b',rfl,h1,h2⟩;rw[cE]at rx;cases b' with
    | true=>exact wp_cond_true rx (fx a t.l Q st m hm (h1 rfl) base ι S ac w hm hr)
    | false=>exact wp_cond_false rx (fx b t.r Q st m hm (h2 rfl) base ι S ac w hm hr)
   split at h
   ·rename_i x;have rv:=hr.get x;obtain⟨b',e,h1,h2⟩:=h;rw[e]at rv;have he:ac.eval (.tmp x)=.bool b':=by rw[cE]at rv;exact rv
    cases b' with
    | true=>exact wp_cond_true he (fx a t.l Q ⟨st.n,dQ st.fr x (.v (.bool true)),st.h⟩ m hm (h1 rfl) base ι S ac w hm ⟨hr.df,hr.sz,dd.Cf hr.fr rv,hr.hp⟩)
    | false=>exact wp_cond_false he (fx b t.r Q ⟨st.n,dQ st.fr x (.v (.bool false)),st.h⟩ m hm (h2 rfl) base ι S ac w hm ⟨hr.df,hr.sz,dd.Cf hr.fr rv,hr.hp⟩)
   ·exact other (hr.eval _) h
 | .region id ops draw,t,Q,st,m,hm,h=>by
   cases draw with
   | false =>
     obtain⟨ba,h⟩:=bh h;simp only[Kr,On,beq_iff_eq]at ba;intro base ι S a w _ hr;have:=ny (m:=m) (Q:=Q) _ base ι S a w st ba.1 hm hr h;rw[ba.2,Il]at this;exact wp_region this
   | true =>
     simp only[lC]at h;split at h
     ·exact Ig hm h
     ·exact Fs hm h
     ·exact Ft hm h
     ·exact Fw hm h
     ·exact h.elim
 | .loop c,t,Q,st,m,hm,h=>by
   simp only[lC]at h;split at h
   ·rename_i cs ms a;exact Da (cs:=cs) (ms:=ms) hm _ (fun next s h' hl k=>fx c a _ _ st.h.length hl k) h
   ·exact h.elim
 | .rangeFunc _ _ _ _,t,Q,st,m,hm,h=>h.elim
 | .scope _,t,Q,st,m,hm,h=>h.elim
 | .refuse _,t,Q,st,m,hm,h=>h.elim
def yq(P:Program)(st:St):List ResultVar→(List AV→Prop)→Prop
 | [],K=>K []
 | .tmp t:: r,K=>yq P st r fun l=>K (aH st.fr (.tmp t):: l)
 | .cell a t:: r,K=>cG (fo P t) (ae (eK P t) (P.cellsOf t) (aH st.fr (.tmp a)) st.h fun v=>yq P st r fun l=>K (v:: l))
def pJ:List AV→AV
 | [x]=>x
 | l=>.aw l
def wH(P:Program)(rs:List ResultVar)(K:AV→aa→Prop):Exit→St→Prop
 | .normal,st=>yq P st rs fun l=>K (pJ l) st.h
 | .ret,st=>yq P st rs fun l=>K (pJ l) st.h
 | _,_=>False
def Ki{base:Nat}{st:St}{K:AV→Prop}(hr:bW base ι S a w st)(hk:fo P t=true)(h:ae (eK P t) (P.cellsOf t) (aH st.fr x) st.h K):
 ∃ad v u,a.eval x=.pointer (some ad)∧(loadVar t ad).run P w=.ok u w∧ax ι S w v u∧K v:=by
 have hx:=hr.eval x;unfold ae at h;split at h
 ·rename_i cs e;rw[e,ax]at hx;obtain⟨b,off,ev,r⟩:=hx;obtain⟨vs,rv,hc⟩:=r.rF;obtain⟨v,u,hrun,rv,k⟩:=nw (P:=P) hk rv hc h;exact⟨_,v,u,ev,hrun,rv,k⟩
 ·rename_i id off e;rw[e,ax]at hx;obtain⟨b,c1,ev⟩:=hx;split at h
  ·rename_i ak eb;obtain⟨b',arr,fz,k1,k2,k3,k4,k5,k6,k7,k8,k9⟩:=hr.hp.live id ak eb;rw[c1]at k1;cases k1;have hcells:aD ι S w ak.cells (arr.toList.take ak.cells.length):=by
    refine aD.mk (by simp;omega) fun i c v e1 e2=>?_;obtain⟨v',e3,r⟩:=k6 i c e1;rw[To]at e2;split at e2
    ·simp only[Array.getElem?_toList]at e2;rw[e3]at e2;cases e2;exact r
    ·cases e2
   obtain⟨v,u,hrun,rv,k⟩:=nw (P:=P) (b:=b) (off:=off) hk (hcells.drop off) (by
    intro i v e1;rw[hY k3];rw[aag,To]at e1;split at e1
    ·simpa using e1
    ·cases e1) h
   exact⟨_,v,u,ev,hrun,rv,k⟩
  ·exact h.elim
 ·exact h.elim
def wc(a:Act):ResultVar→Sem Value
 | .tmp t=>pure (a.tmps.getD t undef)
 | .cell x t=>do loadVar t (←asAddr (a.tmps.getD x undef))
omit [Laid] in
def zy(fn:Func)(a:Act):results fn a.tmps=(do
 let vs ←fn.results.mapM (wc a)
 pure (if h:vs.size=1 then vs[0] else .tuple vs)):=by
 unfold results
 congr 1
theorem oM{base:Nat}{st:St}(hr:bW base ι S a w st):∀(rs:List ResultVar) (K:List AV→Prop),yq P st rs K →
 ∃l vs,(rs.mapM (m:=Sem) (wc a)).run P w=.ok vs w∧aD ι S w l vs∧K l
 | [],K,h=>⟨[],[],rfl,by simp,h⟩
 | .tmp t:: r,K,h=>by
   obtain⟨l,vs,e,rl,k⟩:=oM hr r _ h;refine⟨_,a.eval (.tmp t):: vs, ?_,by simpa using⟨hr.eval (.tmp t),rl⟩,k⟩;have e0:(wc a (.tmp t)).run P w=.ok (a.eval (.tmp t)) w:=rfl;simp only[List.mapM_cons,aaE,aaF,aaD,e,e0]
 | .cell x t:: r,K,h=>by
   obtain⟨hk,h⟩:=bh h;obtain⟨ad,v,u,e1,e2,rv,h⟩:=Ki (P:=P) hr hk h;obtain⟨l,vs,e,rl,k⟩:=oM hr r _ h;refine⟨v:: l,u:: vs, ?_,by simpa using⟨rv,rl⟩,k⟩;have e1':a.tmps.getD x undef=.pointer (some ad):=e1;have e0:(wc a (.cell x t)).run P w=.ok u w:=by simp only[wc,aaE,e1',asAddr,aaF,aaD,e2]
   simp only[List.mapM_cons,aaE,aaF,aaD,e0,e]
def ng:List AV→Nat→Fr
 | [],_=>[]
 | a:: r,i=>(i,a):: ng r (i+1)
omit [Laid] in
def FI{args:List AV}{vs:List Value}(h1:aD ι S w args vs)(k:Nat):dd ι S w (ng args 0) (vs.toArray++Array.replicate k undef):=by
 have key:∀(as_:List AV) (us:List Value) (k:Nat),aD ι S w as_ us→∀t,bF (ng as_ k) t=.any∨∃u,us[t-k]?=some u∧k≤t∧ax ι S w (bF (ng as_ k) t) u:=by
  intro as_;induction as_ with
  | nil=>intro us k _ t;exact .inl rfl
  | cons a as_ ih =>
    intro us k h t;cases us with
    | nil=>simp at h
    | cons u us =>
      simp only[bL]at h;simp only[ng,bF];split
      ·rename_i e;subst e;exact .inr ⟨u,by simp,aS _,h.1⟩
      ·rename_i e;rcases ih us (k+1) h.2 t with q|⟨v,q1,q2,q3⟩
       ·exact .inl q
       ·exact .inr ⟨v,by rw[show t-k=t-(k+1)+1 by omega];simpa using q1,by omega,q3⟩
 intro t;rcases key args vs 0 h1 t with q|⟨u,q1,_,q3⟩
 ·rw[q];simp
 ·have hlt:t<vs.length:=by
   have:=(dO.1 q1).1;simpa using this
  have:(vs.toArray++Array.replicate k undef).getD t undef=u:=by
   rw[Array.getD_eq_getD_getElem?,Array.getElem?_append_left (by simpa using hlt)];simp only[Nat.sub_zero]at q1;simp[q1]
  rw[this];exact q3
def vp(P:Program)(f:FuncId)(c:Code)(n:Nat)(rs:List ResultVar):Prop:=
 ∃fn,P.funcs[f]?=some fn∧fn.body=some c∧fn.results.toList=rs∧fn.ntmps=n∧cJ P f=true
omit [Laid] in
def vp.hb{rs:List ResultVar}(F:vp P f c n rs):cJ P f=true:=let ⟨_,_,_,_,_,h⟩:=F;h
theorem vp.bR{rs:List ResultVar}(F:vp P f c n rs)(t:An){args:List AV}{h:aa}{K:AV→aa→Prop}(hl:args.length≤n)
 (q:lC P c t (wH P rs fun r h' => ∃r' h'',Wk h.length [r] h' [r'] h''∧K r' h'') ⟨n,ng args 0,h⟩):cw P f args h K:=by
 obtain⟨fn,hf,hb,hrs,hn,_⟩:=F;subst hrs;intro base ι S w vs h1 h2;have hlen:=h1.length;refine calls_of_wp hf hb (wp_mono (fx _ _ _ _ h.length (aS _) q base ι S _ w (aS _) ⟨rfl,by simp[hn];omega,FI h1 _,h2⟩) ?_);rintro e a' w' ⟨ι',S',st',hE,hm,hr,hq⟩;have fin:yq P st' fn.results.toList (fun l=>∃r' h'',Wk h.length [pJ l] st'.h [r'] h''∧K r' h'')→a'.defers=[]∧∃v,(results fn a'.tmps).run P w'=.ok v w' ∧
  ∃u ι'' S'' r h',Ending.returned v=.returned u∧bM h.length base ι S w ι'' S'' w'∧ax ι'' S'' w' r u∧cy base ι'' S'' w' h'∧h.length≤h'.length∧K r h':=by
  intro hq;obtain⟨l,us,e1,rl,r',h'',⟨wk1,wk2,wk3⟩,k⟩:=oM (P:=P) hr fn.results.toList _ hq;have hv:ax ι' S' w' (pJ l) (if hh:us.length=1 then us[0] else .tuple us.toArray):=by
   have hl:=rl.length
   match l,us,hl,rl with
   | [],[],_,_=>simp only[pJ];rw[ax];exact⟨[],rfl,by simp⟩
   | [x],[u],_,rl=>simp at rl;simpa[pJ]using rl
   | x:: y:: l,u:: v:: us,_,rl=>simp only[pJ];rw[ax];exact⟨u:: v:: us,by simp,rl⟩
  obtain⟨ι2,S2,hE2,hs2,hp2⟩:=wk3 base ι' S' w' [_] ((bL _ _ _ _).2 ⟨hv,by simp⟩) hr.hp;refine⟨hr.df,if hh:us.length=1 then us[0] else .tuple us.toArray, ?_,_,ι2,S2,r',h'',rfl,hE.trans hE2,((bL _ _ _ _).1 hs2).1,hp2,wk1,k⟩;rw[zy,←Array.toArray_toList (xs:=fn.results),List.mapM_toArray];simp only[aaE,Sem.run_map,e1,aaD,aaF]
  by_cases hh:us.length=1<;>simp[hh]
 cases e with
 | normal=>exact fin hq
 | ret=>exact fin hq
 | _=>exact hq.elim
def sa{args:List AV}{K:AV→aa→Prop}(hb:cJ P f=true)(c:aV P f args r)(k:K r h):bA P (.fn (.func f) [] []) args h K:=
 ⟨hb,by simpa using c.call k⟩
def uCon{args:List AV}{K:AV→aa→Prop}(c:aV P f args r)(k:K r h)(hb:cJ P f=true:=by kernel_rfl):bA P (.fn (.func f) [] []) args h K:=sa hb c k
abbrev qBe(o:BinOp)(x:AV)(n:Int)(K:AV→Prop):Prop:=ag o x (i_ n) K
abbrev qLd(P:Program)(x:AV)(n:Nat)(h:aa)(K:AV→Prop):Prop:=ca P x fun a=>aN n a fun b=>ae false 1 b h K
abbrev qFd(P:Program)(x:AV)(n:Nat)(K:AV→Prop):Prop:=ca P x fun a=>aN n a K
abbrev qSt(P:Program)(x:AV)(n:Nat)(y:AV)(h:aa)(K:aa→Prop):Prop:=ca P x fun a=>aN n a fun b=>ah 1 b y h K
abbrev qJo(v:AV)(l:List AV)(g:aa)(b:(AV→aa→Prop)→Prop)(k:AV→aa→Prop):Prop:=aI (fun J=>aL v false (b fun x i=>l=l∧J [.v (.bool false),x] i) (l=l∧J [bO false v,.v undef] g)) fun s h=>bG (nx s 0) (.v (.bool true)) (nx s 1) fun w=>k w h
abbrev qJa(v:AV)(l:List AV)(g:aa)(b:(AV→aa→Prop)→Prop)(k:AV→aa→Prop):Prop:=aI (fun J=>aL v true (b fun x i=>l=l∧J [.v (.bool true),x] i) (l=l∧J [bO true v,.v undef] g)) fun s h=>bG (nx s 0) (nx s 1) (.v (.bool false)) fun w=>k w h
abbrev qKo(v:AV)(g:aa)(b:(AV→aa→Prop)→Prop)(k:AV→aa→Prop):Prop:=aI (fun J=>aL v false (b fun x i=>J [.v (.bool false),x] i) (J [bO false v,.v undef] g)) fun s h=>bG (nx s 0) (.v (.bool true)) (nx s 1) fun w=>k w h
abbrev qKa(v:AV)(g:aa)(b:(AV→aa→Prop)→Prop)(k:AV→aa→Prop):Prop:=aI (fun J=>aL v true (b fun x i=>J [.v (.bool true),x] i) (J [bO true v,.v undef] g)) fun s h=>bG (nx s 0) (nx s 1) (.v (.bool false)) fun w=>k w h
abbrev qNs:AV:=.v (.slice none 0 0)
@[simp] abbrev iFL(n:Nat)(b:Bool)(c:Nat)(x:AV)(g:aa)(K:AV→Prop):Prop:=aN n x fun a=>ae b c a g K
abbrev sn(a:An):An:=.seq .nil a
@[simp] abbrev eC(l:List AV)(p:Prop):Prop:=l=l∧p
abbrev iC(P:Program)(n:FuncId)(a:List AV)(h:aa)(K:AV→aa→Prop):Prop:=bA P (.fn (.func n) [] []) a h K
abbrev iQ(P:Program)(n:FuncId)(a:List AV)(h:aa)(K:AV→Prop):Prop:=u7 P (.fn (.func n) [] []) a h K
def oR:Nat→Nat→List cQ→List cQ
 | _,0,r=>r
 | a,n+1,r=>.op a false::oR (a+1) n r
def fR:Nat→Nat→List (Nat×Bool)
 | _,0=>[]
 | a,n+1=>(a,false)::fR (a+1) n
def Body(P:Program)(f:FuncId)(args:List AV)(W:aa→(AV→aa→Prop)→Prop):Prop:=
 ∃c t n rs,vp P f c n rs∧args.length≤n∧∀h K,lC P c t (wH P rs K) ⟨n,ng args 0,h⟩=W h K
def mkB{args:List AV}{W:aa→(AV→aa→Prop)→Prop}{fn:Func}(e:P.funcs[f]?=some fn)(t:An)(n:Nat)(rs:List ResultVar)(q:(fn.results.toList,fn.ntmps,cJ P f,fn.body.isSome,Nat.ble args.length n)=(rs,n,true,true,true):=by kernel_rfl)(k:∀h K,lC P (fn.body.getD .skip) t (wH P rs K) ⟨n,ng args 0,h⟩=W h K:=by intro _ _;kernel_rfl):Body P f args W:=by
 simp only[aak]at q;refine⟨fn.body.getD .skip,t,n,rs,⟨fn,e,?_,q.1,q.2.1,q.2.2.1⟩,nE q.2.2.2.2,k⟩;cases hb:fn.body with
 | none=>rw[hb]at q;cases q.2.2.2.1
 | some c=>rfl
def Body.bR{args:List AV}{W:aa→(AV→aa→Prop)→Prop}(b:Body P f args W){K:AV→aa→Prop}(q:W h fun r h' => ∃r' h'',Wk h.length [r] h' [r'] h''∧K r' h''):cw P f args h K:=
 let ⟨_,t,_,_,F,hl,e⟩:=b;F.bR t hl ((e h _).symm▸q)
def Body.hb{args:List AV}{W:aa→(AV→aa→Prop)→Prop}(b:Body P f args W):cJ P f=true:=let ⟨_,_,_,_,F,_⟩:=b;F.hb
abbrev u8(n:Int):AV:=.v (.int .u8 n)
abbrev tt:AV:=.v (.bool true)
abbrev ff:AV:=.v (.bool false)
abbrev un:AV:=.v undef
end
section
open Go Go.RowKit
/-! ### Less is said -/
mutual
def Le:AV→AV→Prop
 | _,.any=>True
 | .agg xs,.agg ys=>iz xs ys
 | .aw xs,.aw ys=>iz xs ys
 | .emp,.sl _ rows=>rows=[]
 | .sb _ s r,.sl s' r' => s=s'∧r=r'
 | a,b=>a=b
def iz:List AV→List AV→Prop
 | [],[]=>True
 | a:: as_,b:: bs=>Le a b∧iz as_ bs
 | _,_=>False
end
def Le.refl(a:AV):Le a a:=
 AV.rec (motive_1:=fun a=>Le a a) (motive_2:=fun l=>iz l l) (motive_3:=fun _=>True)
  (fun _=>rfl) (fun _=>rfl) trivial (fun _ h=>h) (fun _ h=>h) rfl (fun _ _ _=>rfl) (fun _ _ _ _=>rfl) (fun _ _=>rfl) (fun _ _ _ _=>rfl) (fun _ _=>rfl) (fun _ _ _ _ _=>rfl) (fun _ _ _=>rfl) (fun _=>rfl)
  trivial (fun _ _ h k=>⟨h,k⟩) trivial (fun _ _ _ _=>trivial) a
def Le.inv(h:Le a b):b=.any∨a=b∨(∃xs ys,a=.agg xs∧b=.agg ys∧iz xs ys)∨(∃xs ys,a=.aw xs∧b=.aw ys∧iz xs ys)∨(a=.emp∧∃s,b=.sl s [])∨∃id s r,a=.sb id s r∧b=.sl s r:=by
 unfold Le at h;split at h
 ·exact .inl rfl
 ·exact .inr (.inr (.inl ⟨_,_,rfl,rfl,h⟩))
 ·exact .inr (.inr (.inr (.inl ⟨_,_,rfl,rfl,h⟩)))
 ·subst h;exact .inr (.inr (.inr (.inr (.inl ⟨rfl,_,rfl⟩))))
 ·obtain⟨rfl,rfl⟩:=h;exact .inr (.inr (.inr (.inr (.inr ⟨_,_,_,rfl,rfl⟩))))
 ·exact .inr (.inl h)
def ax.le(a b:AV)(y:Value)(h:Le a b)(r:ax ι S w a y):ax ι S w b y:=by
 have base:∀{a b:AV} {y:Value},(∀xs ys,a=.agg xs→b=.agg ys→iz xs ys→ax ι S w b y)→(∀xs ys,a=.aw xs→b=.aw ys→iz xs ys→ax ι S w b y)→Le a b→ax ι S w a y→ax ι S w b y:=by
  intro a b y h1 h2 h r;rcases h.inv with rfl|rfl|⟨xs,ys,e1,e2,k⟩|⟨xs,ys,e1,e2,k⟩|⟨rfl,s,rfl⟩|⟨id,s,rr,rfl,rfl⟩
  ·simp
  ·exact r
  ·exact h1 xs ys e1 e2 k
  ·exact h2 xs ys e1 e2 k
  ·rw[ax]at *;obtain⟨a,e⟩:=r;exact⟨a,0,e,aS _,aao _,.inl rfl⟩
  ·rw[ax]at *;exact r.1
 revert b y
 refine AV.rec (motive_1:=fun a=>∀b y,Le a b→ax ι S w a y→ax ι S w b y) (motive_2:=fun as_=>∀bs vs,iz as_ bs→aD ι S w as_ vs→aD ι S w bs vs) (motive_3:=fun _=>True) ?_ ?_ ?_ ?_ ?_ ?_ ?_ ?_ ?_ ?_ ?_ ?_ ?_ ?_ ?_ ?_ ?_ ?_ a
 case refine_4 =>
  intro cs ih b y h r;refine base (fun xs ys e1 e2 k=>?_) (fun _ _ e1=>by cases e1) h r;cases e1;subst e2;rw[ax]at *;obtain⟨vs,e,q⟩:=r;exact⟨vs,e,ih _ vs k q⟩
 case refine_5 =>
  intro cs ih b y h r;refine base (fun _ _ e1=>by cases e1) (fun xs ys e1 e2 k=>?_) h r;cases e1;subst e2;rw[ax]at *;obtain⟨vs,e,q⟩:=r;exact⟨vs,e,ih _ vs k q⟩
 case refine_15 =>
  intro bs vs h r;cases bs with
  | nil=>exact r
  | cons=>simp[iz]at h
 case refine_16 =>
  intro a as_ iha ihs bs vs h r;cases bs with
  | nil=>simp[iz]at h
  | cons b bs =>
    rw[iz]at h;cases vs with
    | nil=>simp at r
    | cons v vs =>
      simp only[bL]at r ⊢;exact⟨iha b v h.1 r.1,ihs bs vs h.2 r.2⟩
 case refine_17=>trivial
 case refine_18=>intros;trivial
 all_goals
  intros
  rename_i h r;exact base (fun _ _ e1=>by cases e1) (fun _ _ e1=>by cases e1) h r
theorem aD.le:∀(as_ bs:List AV) (vs:List Value),iz as_ bs→aD ι S w as_ vs→aD ι S w bs vs
 | [],[],vs,_,r=>r
 | [],_:: _,_,h,_=>by simp[iz]at h
 | _:: _,[],_,h,_=>by simp[iz]at h
 | a:: as_,b:: bs,[],_,r=>by simp at r
 | a:: as_,b:: bs,v:: vs,h,r=>by
   rw[iz]at h;simp only[bL]at r ⊢;exact⟨ax.le a b v h.1 r.1,aD.le as_ bs vs h.2 r.2⟩
variable [Laid]
/-! ### Told -/
section
variable (f:AV→AV) (L:Nat) (h:aa)
mutual
def dt:AV→AV
 | .v x=>.v x
 | .str l=>.str l
 | .any=>.any
 | .emp=>.emp
 | .agg cs=>.agg (lH cs)
 | .aw cs=>.aw (lH cs)
 | .ip cs=>.ip (lH cs)
 | .sl sz rows=>.sl sz (mY rows)
 | .sb id sz rows=>if id<L then .sb id sz (mY rows) else .sl sz (mY rows)
 | .own id off len sz=>if id<L then .own id off len sz else match h[id]? with
   | some (.ak b)=>if off+len*sz≤b.cells.length then .sl sz ((chunks sz len (b.cells.drop off)).map (List.map f)) else .any
   | _=>.any
 | .op id off=>if id<L then .op id off else match h[id]? with
   | some (.ak b)=>.ip ((b.cells.drop off).map f)
   | _=>.any
 | .fn g xs ys=>.fn g (lH xs) (lH ys)
 | .fJ t x=>.fJ t (dt x)
 | .mp id=>if id<L then .mp id else .any
def lH:List AV→List AV
 | []=>[]
 | a:: as_=>dt a:: lH as_
def mY:List (List AV)→List (List AV)
 | []=>[]
 | r:: rs=>lH r:: mY rs
end
end
def tl(L:Nat)(h:aa):Nat→AV→AV
 | 0=>dt (fun _=>.any) L h
 | d+1=>dt (tl L h d) L h
def xI(L:Nat)(h:aa):aY→aY
 | .ak b=>.ak { b with cells:=b.cells.map (tl L h 3) }
 | .mp c es=>.mp c (es.map fun p=>(p.1,tl L h 3 p.2.1,tl L h 3 p.2.2))
 | .it m s sn l=>if m<L then .it m s sn l else .dead
 | x=>x
def nG(L:Nat)(h:aa):aa:=(h.take L).map (xI L h)
omit [Laid] in
theorem mW(f:AV→AV)(L:Nat)(h:aa):∀l,lH f L h l=l.map (dt f L h)
 | []=>rfl
 | a:: as_=>by rw[lH,mW f L h as_];rfl
omit [Laid] in
theorem Bn(f:AV→AV)(L:Nat)(h:aa):∀l,mY f L h l=l.map (List.map (dt f L h))
 | []=>rfl
 | a:: as_=>by rw[mY,Bn f L h as_,mW];rfl
def eU(L:Nat)(ι:List Ix)(S:bj)(h:aa):bj:=fun b o=>S b o∨∃id x,L≤id∧h[id]?=some (.ak x)∧ι[id]?=some (.ak b)∧o<x.cells.length
section
variable {base:Nat} {ι:List Ix} {S:bj} {w:World} {h:aa} {L:Nat}
def yM(hh:cy base ι S w h){f:AV→AV}(hf:∀v y,ax ι S w v y→ax (ι.take L) (eU L ι S h) w (f v) y){id:Nat}(hid:L≤id)(e:h[id]?=some (.ak x))(hb:ι[id]?=some (.ak b))(off:Nat):
 bI (ι.take L) (eU L ι S h) w ((x.cells.drop off).map f) b off:=by
 obtain⟨b',arr,fz,h1,h2,h3,h4,h5,h6,h7,h8,h9⟩:=hh.live id x e;rw[hb]at h1;cases h1;refine bI.mk fun i c ec=>?_;simp only[iS,aae,aag]at ec;obtain⟨c0,ec0,rfl⟩:=ec;obtain⟨v,e1,r⟩:=h6 (off+i) c0 ec0;exact⟨v,by rw[hY h3];exact e1,.inr ⟨id,x,hid,e,hb,(dO.1 ec0).1⟩,hf c0 v r⟩
mutual
theorem ax.dt(hh:cy base ι S w h){f:AV→AV}(hf:∀v y,ax ι S w v y→ax (ι.take L) (eU L ι S h) w (f v) y):∀(a:AV) (y:Value),ax ι S w a y→ax (ι.take L) (eU L ι S h) w (Aw.dt f L h a) y
 | .v x,y,k=>by simpa[Aw.dt]using k
 | .str x,y,k=>by simpa[Aw.dt]using k
 | .any,y,k=>by simp[Aw.dt]
 | .emp,y,k=>by simp only[Aw.dt];rw[ax]at *;exact k
 | .agg cs,y,k=>by simp only[Aw.dt];rw[ax]at *;obtain⟨vs,e,k⟩:=k;exact⟨vs,e,aD.dt hh hf cs vs k⟩
 | .aw cs,y,k=>by simp only[Aw.dt];rw[ax]at *;obtain⟨vs,e,k⟩:=k;exact⟨vs,e,aD.dt hh hf cs vs k⟩
 | .ip cs,y,k=>by simp only[Aw.dt];rw[ax]at *;obtain⟨b,off,e,k⟩:=k;exact⟨b,off,e,bI.dt hh hf cs b off k⟩
 | .sl sz rows,y,k=>by
   simp only[Aw.dt];rw[ax]at *;obtain⟨a,cap,e,h1,h2,h3⟩:=k;have hl:(mY f L h rows).length=rows.length:=by rw[Bn,aac]
   refine⟨a,cap,by rw[hl];exact e,by rw[hl];exact h1,h2, ?_⟩;rcases h3 with rfl|⟨b,off,ea,hr⟩
   ·exact .inl rfl
   ·exact .inr ⟨b,off,ea,cg.dt hh hf sz rows b off hr⟩
 | .sb tid sz rows,y,k=>by
   simp only[Aw.dt];rw[ax]at k;obtain⟨⟨a,cap,e,h1,h2,h3⟩,m,v,t1,t2,t3⟩:=k;have hl:(mY f L h rows).length=rows.length:=by rw[Bn,aac]
   have told:∃a cap,y=.slice a (mY f L h rows).length cap∧(mY f L h rows).length≤cap∧cap≤maxLen∧(mY f L h rows=[]∨∃b off,a=some ⟨b,off,none⟩∧cg (ι.take L) (eU L ι S h) w sz (mY f L h rows) b off):=by
    refine⟨a,cap,by rw[hl];exact e,by rw[hl];exact h1,h2, ?_⟩;rcases h3 with rfl|⟨b,off,ea,hr⟩
    ·exact .inl rfl
    ·exact .inr ⟨b,off,ea,cg.dt hh hf sz rows b off hr⟩
   split
   ·rename_i hlt;rw[ax];exact⟨told,m,v,by rw[To,if_pos hlt];exact t1,by rw[hl];exact t2,by rw[hl];exact t3⟩
   ·rw[ax];exact told
 | .own tid off len sz,y,k=>by
   simp only[Aw.dt];split
   ·rename_i hlt;rw[ax]at *;obtain⟨b,a,cap,n,ty,h1,h2⟩:=k;exact⟨b,a,cap,n,ty,by rw[To,if_pos hlt];exact h1,h2⟩
   ·rename_i hge;split
    ·rename_i x e;split
     ·rename_i hfit;rw[ax]at *;obtain⟨b,a,cap,n,ty,h1,h2,h3,h4,h5,_⟩:=k;obtain⟨f1,f2⟩:=gU sz len (x.cells.drop off) (by simp;omega);have hcl:=iR sz len (x.cells.drop off);refine⟨a,cap,by rw[aac,hcl];exact h2,by rw[aac,hcl];exact h3,h4, ?_⟩;rcases h5 with h5|h5
      ·left;have:len=0:=by omega
       subst this;simp[chunks]
      ·right;refine⟨b,off,h5,cg.of_flat (fun r hr=>?_) ?_⟩
       ·obtain⟨r0,hr0,rfl⟩:=aaf.1 hr;rw[aac];exact f2 r0 hr0
       ·rw[←List.map_flatten,f1];have:=yM hh hf (Nat.le_of_not_lt hge) e h1 off;refine bI.mk fun i c ec=>this.get i c ?_;rw[iS,To]at ec;rw[iS];split at ec
        ·exact ec
        ·cases ec
     ·simp
    ·simp
 | .op tid off,y,k=>by
   simp only[Aw.dt];split
   ·rename_i hlt;rw[ax]at *;obtain⟨b,h1,h2⟩:=k;exact⟨b,by rw[To,if_pos hlt];exact h1,h2⟩
   ·rename_i hge;split
    ·rename_i x e;rw[ax]at *;obtain⟨b,h1,h2⟩:=k;exact⟨b,off,h2,yM hh hf (Nat.le_of_not_lt hge) e h1 off⟩
    ·simp
 | .fn g xs ys,y,k=>by simp only[Aw.dt];rw[ax]at *;obtain⟨vs,us,e,k1,k2⟩:=k;exact⟨vs,us,e,aD.dt hh hf xs vs k1,aD.dt hh hf ys us k2⟩
 | .fJ t x,y,k=>by simp only[Aw.dt];rw[ax]at *;obtain⟨v,e,k⟩:=k;exact⟨v,e,ax.dt hh hf x v k⟩
 | .mp tid,y,k=>by
   simp only[Aw.dt];split
   ·rename_i hlt;rw[ax]at *;obtain⟨b,h1,h2⟩:=k;exact⟨b,by rw[To,if_pos hlt];exact h1,h2⟩
   ·simp
theorem aD.dt(hh:cy base ι S w h){f:AV→AV}(hf:∀v y,ax ι S w v y→ax (ι.take L) (eU L ι S h) w (f v) y):∀(as_:List AV) (vs:List Value),aD ι S w as_ vs→aD (ι.take L) (eU L ι S h) w (lH f L h as_) vs
 | [],vs,k=>by simpa[lH]using k
 | a:: as_,[],k=>by simp at k
 | a:: as_,v:: vs,k=>by
   rw[lH];simp only[bL]at k ⊢;exact⟨ax.dt hh hf a v k.1,aD.dt hh hf as_ vs k.2⟩
theorem bI.dt(hh:cy base ι S w h){f:AV→AV}(hf:∀v y,ax ι S w v y→ax (ι.take L) (eU L ι S h) w (f v) y):∀(cs:List AV) (b off:Nat),bI ι S w cs b off→bI (ι.take L) (eU L ι S h) w (lH f L h cs) b off
 | [],b,off,k=>by simp[lH,bI]
 | c:: cs,b,off,k=>by
   rw[lH];rw[bI]at *;obtain⟨⟨u,h1,h2,h3⟩,k2⟩:=k;exact⟨⟨u,h1,.inl h2,ax.dt hh hf c u h3⟩,bI.dt hh hf cs b (off+1) k2⟩
theorem cg.dt(hh:cy base ι S w h){f:AV→AV}(hf:∀v y,ax ι S w v y→ax (ι.take L) (eU L ι S h) w (f v) y)(sz:Nat):∀(rows:List (List AV)) (b off:Nat),cg ι S w sz rows b off→cg (ι.take L) (eU L ι S h) w sz (mY f L h rows) b off
 | [],b,off,k=>by simp[mY,cg]
 | r:: rs,b,off,k=>by
   rw[mY];rw[cg]at *;exact⟨by rw[mW,aac];exact k.1,bI.dt hh hf r b off k.2.1,cg.dt hh hf sz rs b (off+sz) k.2.2⟩
end
theorem ax.tl(hh:cy base ι S w h):∀(d:Nat) (v:AV) (y:Value),ax ι S w v y→ax (ι.take L) (eU L ι S h) w (Aw.tl L h d v) y
 | 0,v,y,k=>ax.dt hh (fun _ _ _=>by simp) v y k
 | d+1,v,y,k=>ax.dt hh (ax.tl hh d) v y k
def cy.told(hh:cy base ι S w h)(hL:L≤h.length):bM L base ι S w (ι.take L) (eU L ι S h) w∧cy base (ι.take L) (eU L ι S h) w (nG L h):=by
 have pre:∀{i:Nat},i<L→(ι.take L)[i]?=ι[i]?:=fun q=>by rw[To,if_pos q]
 have ent:∀{i:Nat} {x:aY},(nG L h)[i]?=some x→i<L∧∃y,h[i]?=some y∧x=xI L h y:=by
  intro i x e;simp only[nG,iS,aae,To]at e;obtain⟨y,e1,rfl⟩:=e;split at e1
  ·rename_i q;exact⟨q,y,e1,rfl⟩
  ·cases e1
 have alv:∀{i:Nat},alive (nG L h)[i]?→i<L∧alive h[i]?:=by
  intro i ha;cases e:(nG L h)[i]? with
  | none=>rw[e]at ha;exact ha.elim
  | some x =>
    obtain⟨q,y,e1,rfl⟩:=ent e;refine⟨q, ?_⟩;rw[e]at ha;rw[e1];cases y<;>first|exact trivial|exact ha
 have newS:∀{b o:Nat},eU L ι S h b o→S b o∨(∃id,L≤id∧alive h[id]?∧zc ι[id]? b):=by
  rintro b o (q|⟨id,x,h1,h2,h3,_⟩)
  ·exact .inl q
  ·exact .inr ⟨id,h1,by rw[h2];exact trivial,by rw[h3];rfl⟩
 have old:∀{i b o:Nat},i<L→alive h[i]?→zc ι[i]? b→eU L ι S h b o→S b o:=by
  intro i b o hi ha hb hs;rcases newS hs with q|⟨id,h1,h2,h3⟩
  ·exact q
  ·have:=hh.inj i id b ha h2 hb h3;omega
 have hE:bM L base ι S w (ι.take L) (eU L ι S h) w:=
  ⟨fun i hi=>eW.of_eq (pre hi),fun _ _ q=>.inl q,fun b o q=>(newS q).imp (fun z=>z) fun⟨id,_,h2,h3⟩=>(hh.Ax h2 h3).1,fun _ _ _=>rfl,fun _ _ q=>q,Below.refl _ _⟩
 refine⟨hE,⟨by simp[nG,hh.len],fun id x e=>?_,fun id t sz n e=>?_,fun id en e=>?_,fun i j b ai aj hi hj=>?_,fun b o q=>?_,hh.ji,hh.gl.fq hE⟩⟩;rotate_left 2
 ·obtain⟨q,y,e1,rfl⟩:=ent e;have ho:=hh.im id y e1;cases y with
  | ak y=>trivial
  | tok=>trivial
  | dead=>trivial
  | mp c es =>
    obtain⟨b,arr,h1,h2,h3,h4,h5⟩:=ho;exact⟨b,arr,(pre q).trans h1,h2,h3,fun o ho=>h4 o (old q (by rw[e1];exact trivial) (by rw[h1];rfl) ho),h5.imp fun a y k=>ax.tl hh 3 a y k⟩
  | it m s sn l =>
    obtain⟨b,bm,h1,h2,h3,h4,h5⟩:=ho;simp only[xI];split
    ·rename_i hm;exact⟨b,bm,(pre q).trans h1,h2,h3,fun o ho=>h4 o (old q (by rw[e1];exact trivial) (by rw[h1];rfl) ho),(pre hm).trans h5⟩
    ·trivial
 rotate_left 2
 ·obtain⟨q,y,e1,e2⟩:=ent e;cases y with
  | tok=>cases e2
  | dead=>cases e2
  | mp=>cases e2
  | it m s sn l=>simp only[xI]at e2;split at e2<;>cases e2
  | ak y =>
    cases e2;obtain⟨b,arr,fz,h1,h2,h3,h4,h5,h6,h7,h8,h9⟩:=hh.live id y e1;have hS:∀o,eU L ι S h b o→S b o:=fun o=>old q (by rw[e1];exact trivial) (by rw[h1];rfl);refine⟨b,arr,fz,(pre q).trans h1,h2,h3,h4,by simpa using h5,fun i c ec=>?_,fun hw o ho=>h7 hw o (hS o ho),fun o ho=>by simpa using h8 o (hS o ho),fun hw o ho=>.inl (h9 hw o (by simpa using ho))⟩;simp only[iS,aae]at ec;obtain⟨c0,ec0,rfl⟩:=ec;obtain⟨v,e3,r⟩:=h6 i c0 ec0;exact⟨v,e3,ax.tl hh 3 c0 v r⟩
 ·obtain⟨q,y,e1,e2⟩:=ent e;cases y with
  | ak=>cases e2
  | dead=>cases e2
  | mp=>cases e2
  | it m s sn l=>simp only[xI]at e2;split at e2<;>cases e2
  | tok =>
    cases e2;obtain⟨v,h1,h2⟩:=hh.tok id _ _ _ e1;exact⟨v,(pre q).trans h1,h2.eT fun b hb _ _=>⟨rfl,fun o=>old q (by rw[e1];exact trivial) (by rw[h1];exact hb)⟩⟩
 ·obtain⟨q1,a1⟩:=alv ai;obtain⟨q2,a2⟩:=alv aj;rw[pre q1]at hi;rw[pre q2]at hj;exact hh.inj i j b a1 a2 hi hj
 ·rcases newS q with z|⟨id,_,h2,h3⟩
  ·exact hh.fV b o z
  ·exact (hh.Ax h2 h3).2
end
/-! ### From one state to one that says less -/
def Wk.refl(n:Nat)(s:List AV)(h:aa)(hn:n≤h.length):Wk n s h s h:=⟨hn,rfl,fun _ ι S _ _ r k=>⟨ι,S,bM.refl _ _ _ _ _,r,k⟩⟩
def Wk.trans(a:Wk n s h s' h')(b:Wk n s' h' s'' h''):Wk n s h s'' h'':=
 ⟨b.1,b.2.1.trans a.2.1,fun base ι S w vs r k =>
  let ⟨ι',S',e1,r1,k1⟩:=a.2.2 base ι S w vs r k
  let ⟨ι'',S'',e2,r2,k2⟩:=b.2.2 base ι' S' w vs r1 k1
  ⟨ι'',S'',e1.trans e2,r2,k2⟩⟩
omit [Laid] in
theorem iz.len:∀{as_ bs:List AV},iz as_ bs→bs.length=as_.length
 | [],[],_=>rfl
 | [],_:: _,h=>by simp[iz]at h
 | _:: _,[],h=>by simp[iz]at h
 | _:: _,_:: _,h=>by rw[iz]at h;simp[h.2.len]
def Wk.le(hn:n≤h.length)(hs:iz s s'):Wk n s h s' h:=
 ⟨hn,hs.len,fun _ ι S _ vs r k=>⟨ι,S,bM.refl _ _ _ _ _,aD.le s s' vs hs r,k⟩⟩
def Wk.tell(hn:n≤h.length):Wk n s h (s.map (tl n h 3)) (nG n h):=
 ⟨by simp[nG];omega,by simp,fun base ι S w vs r k=>by
  obtain⟨e,k'⟩:=k.told hn;refine⟨_,_,e, ?_,k'⟩;have:=aD.dt (L:=n) (f:=tl n h 2) k (ax.tl k 2) s vs r
  rwa [mW]at this⟩
def Wk.end(hn:n≤h.length)(hs:iz (s.map (tl n h 3)) s')(hh:nG n h=h'):Wk n s h s' h':=by
 subst hh;exact (Wk.tell hn).trans (Wk.le (by simp[nG];omega) hs)
def Qn(r:AV)(r':AV)(h':aa):Prop:=Le (tl 0 h' 3 r') r
def Qn.wk(q:Qn r r' h'):∃r'' h'',Wk ([]:aa).length [r'] h' [r''] h''∧r''=r:=
 ⟨r,_,Wk.end (aao _) (by simp only[IF,List.map_nil,iz];exact⟨q,trivial⟩) rfl,rfl⟩
def Body.IU{args:List AV}{W:aa→(AV→aa→Prop)→Prop}(b:Body P f args W)(pa:aq args)(pr:Pure r)(q:W [] fun r' h' => ∃r'' h'',Wk ([]:aa).length [r'] h' [r''] h''∧r''=r):aV P f args r:=
 ⟨pa,pr,b.bR q⟩
end
section
open Go Go.RowKit
variable [Laid]
omit [Laid] in
@[simp] theorem Zs(t:Bool)(a b:AV)(K:AV→Prop):bG (.v (.bool t)) a b K↔(t=true→K a)∧(t=false→K b):=by simp[bG]
omit [Laid] in
@[simp] theorem Pn(t:Bool)(A B:Prop):af (.v (.bool t)) A B↔(t=true→A)∧(t=false→B):=by simp[af]
omit [Laid] in
@[simp] theorem YR(t w:Bool)(A B:Prop):aL (.v (.bool t)) w A B↔(t=w→A)∧(t=(!w)→B):=by
 simp[aL,undef]
omit [Laid] in
@[simp] theorem YS(w:Bool)(A B:Prop):aL (.v undef) w A B↔B:=by simp[aL,undef]
omit [Laid] in
@[simp] theorem abe(w t:Bool):bO w (.v (.bool t))=.v (.bool (!w)):=rfl
omit [Laid] in
@[simp] theorem abf(w:Bool):bO w (.v undef)=.v undef:=rfl
omit [Laid] in
@[simp] theorem SC(t:Bool)(K:AV→Prop):bT (.v (.bool t)) K↔K (.v (.bool (!t))):=by simp[bT]
omit [Laid] in
@[simp] theorem D1(k:IntKind)(n:Int)(K:AV→Prop):sQ (.v (.int k n)) K↔u9 k (0-n) K:=by
 constructor
 ·rintro⟨k',n',e,h⟩;cases e;exact h
 ·intro h;exact⟨k,n,rfl,h⟩
omit [Laid] in
@[simp] theorem Zg(k k':IntKind)(n:Int)(K:AV→Prop):cH k (.v (.int k' n)) K↔K (.v (.int k (k.wrap n))):=by
 constructor
 ·rintro⟨k'',n',e,h⟩;cases e;exact h
 ·intro h;exact⟨k',n,rfl,h⟩
omit [Laid] in
@[simp] theorem abb(n:Int)(K:AV→Prop):u9 .i64 n K↔aZ n∧K (.v (.int .i64 n)):=Iff.rfl
omit [Laid] in
@[simp] theorem Zf(op:BinOp)(k:IntKind)(a b:Int)(K:AV→Prop):ag op (.v (.int k a)) (.v (.int k b)) K↔if kp op then vO op k a b K else sO op k a b K:=by
 unfold ag;simp
omit [Laid] in
@[simp] theorem Pm(op:BinOp)(a b:List UInt8)(K:AV→Prop):ag op (.str a) (.str b) K↔x6 op a b K:=Iff.rfl
omit [Laid] in
@[simp] theorem aa5(k:(List AV→aa→Prop)→Prop)(f:List AV→aa→Prop):aI k f↔k f:=Iff.rfl
omit [Laid] in
@[simp] theorem kq(a:AV)(s:List AV):nx (a:: s) 0=a:=rfl
omit [Laid] in
@[simp] theorem ZB(a:AV)(s:List AV)(k:Nat):nx (a:: s) (k+1)=nx s k:=rfl
omit [Laid] in
@[simp] theorem pt(a b:AV)(s:List AV):nx (a:: b:: s) 1=b:=rfl
attribute [simp] Value.oneCell' sO x6 kp ij Ga ky dS dD eZ bl bw bU Bk da Pure aq aX Le iz
section
omit [Laid]
variable (K:AV→Prop) (KH:AV→aa→Prop) (h:aa)
@[simp] theorem Ze(op:BinOp)(a b:Bool):oI op (.v (.bool a)) (.v (.bool b)) K↔(match op with|.eql=>K (b_ (a == b))|.neq=>K (b_ (!(a == b)))|_=>False):=Iff.rfl
@[simp] theorem Sz(neg:Bool)(ks:List Nat)(xs ys:List AV):sN neg ks (.agg xs) (.agg ys) K↔(match ij ks xs ys with|some b=>K (b_ (if neg then !b else b))|none=>False):=Iff.rfl
@[simp] theorem Po(i:Nat)(cs:List AV):ay i (.aw cs) K↔(match cs[i]? with|some c=>K c|none=>False):=Iff.rfl
@[simp] theorem aa2(g:Bool)(off n:Nat)(cs:List AV):qT g off n (.agg cs) K↔ky g n (cs.drop off) K:=Iff.rfl
@[simp] theorem Zl(l:List UInt8)(k:IntKind)(n:Int):dW (.str l) (.v (.int k n)) K↔(0≤n∧n<l.length)∧K (.v (.int .u8 (l.getD n.toNat 0).toNat)):=Iff.rfl
@[simp] theorem Zh(g:Bool)(sz len:Nat)(cs:List AV)(k:IntKind)(n:Int):pW g sz len (.agg cs) (.v (.int k n)) K↔(0≤n∧n<len)∧ky g sz (cs.drop (n.toNat*sz)) K:=Iff.rfl
@[simp] theorem aba(l:List UInt8)(lo hi:Option AV):eS (.str l) lo hi K↔(match dS lo 0,dS hi l.length with
 | some a,some b=>(0≤a∧a≤b∧b≤l.length)∧K (.str ((l.take b.toNat).drop a.toNat))
 | _,_=>False):=Iff.rfl
@[simp] theorem Nt(n sz:Nat)(rows:List (List AV))(lo hi:Option AV):iB n (.sl sz rows) lo hi K↔(match dS lo 0,dS hi rows.length with
 | some a,some b=>sz=n∧(0≤a∧a≤b∧b≤rows.length)∧K (.sl sz ((rows.take b.toNat).drop a.toNat))
 | _,_=>False):=Iff.rfl
@[simp] theorem abF(n id sz:Nat)(rows:List (List AV))(lo hi:Option AV):iB n (.sb id sz rows) lo hi K↔iB n (.sl sz rows) lo hi K:=Iff.rfl
@[simp] theorem Uv(n id off len sz:Nat)(lo hi:Option AV):iB n (.own id off len sz) lo hi K↔(match dS lo 0,dS hi len with
 | some a,some b=>sz=n∧(0≤a∧a≤b∧b≤len)∧K (.own id (off+a.toNat*sz) (b-a).toNat sz)
 | _,_=>False):=Iff.rfl
@[simp] theorem abG(n:Nat)(lo hi:Option AV):iB n .emp lo hi K↔(match dS lo 0,dS hi 0 with
 | some a,some b=>(a=0∧b=0)∧K .emp
 | _,_=>False):=Iff.rfl
@[simp] theorem aa9(n sz id off:Nat)(lo hi:Option AV):Au n sz (.op id off) lo hi h K↔(match dS lo 0,dS hi n,h[id]? with
 | some a,some b,some (.ak ak)=>(off+n*sz≤ak.cells.length∧0≤a∧a≤b∧b≤n∧n≤maxLen)∧K (.own id (off+a.toNat*sz) (b-a).toNat sz)
 | _,_,_=>False):=Iff.rfl
@[simp] theorem Gl(m sz:Nat)(rows:List (List AV))(k:IntKind)(n:Int):au m (.sl sz rows) (.v (.int k n)) K↔sz=m∧(0≤n∧n<rows.length)∧K (.ip (rows.getD n.toNat [])):=Iff.rfl
@[simp] theorem Zi(m id sz:Nat)(rows:List (List AV))(k:IntKind)(n:Int):au m (.sb id sz rows) (.v (.int k n)) K↔sz=m∧(0≤n∧n<rows.length)∧K (.ip (rows.getD n.toNat [])):=Iff.rfl
@[simp] theorem Pp(m id off len sz:Nat)(k:IntKind)(n:Int):au m (.own id off len sz) (.v (.int k n)) K↔sz=m∧(0≤n∧n<len)∧K (.op id (off+n.toNat*sz)):=Iff.rfl
@[simp] theorem Zk(len sz id off:Nat)(k:IntKind)(n:Int):fW len sz (.op id off) (.v (.int k n)) K↔(0≤n∧n<len)∧K (.op id (off+n.toNat*sz)):=Iff.rfl
@[simp] theorem Zj(len sz:Nat)(cs:List AV)(k:IntKind)(n:Int):fW len sz (.ip cs) (.v (.int k n)) K↔(0≤n∧n<len)∧K (.ip (cs.drop (n.toNat*sz))):=Iff.rfl
@[simp] theorem aa1(off:Nat)(cs:List AV):aN off (.ip cs) K↔K (.ip (cs.drop off)):=Iff.rfl
@[simp] theorem qS(off id o:Nat):aN off (.op id o) K↔K (.op id (o+off)):=Iff.rfl
@[simp] theorem aa7(cs:List AV):vN (.ip cs) K↔K (.ip cs):=Iff.rfl
@[simp] theorem aa8(id o:Nat):vN (.op id o) K↔K (.op id o):=Iff.rfl
@[simp] theorem aa6(f:FuncId)(a b:List AV):vN (.fn (.func f) a b) K↔K (.fn (.func f) a b):=Iff.rfl
@[simp] theorem Zr(P:Program)(cs:List AV):ca P (.ip cs) K↔K (.ip cs):=Iff.rfl
@[simp] theorem mR(P:Program)(id o:Nat):ca P (.op id o) K↔K (.op id o):=Iff.rfl
@[simp] theorem Zq(P:Program)(f:FuncId)(a b:List AV):ca P (.fn (.func f) a b) K↔K (.fn (.func f) a b):=Iff.rfl
@[simp] theorem Pq(P:Program)(name:String)(t:TypeId)(v:AV)(r ys:List AV):ca P (.fn (.method name) (.fJ t v:: r) ys) K↔(od P name t).isSome=true∧K (.fn (.method name) (.fJ t v:: r) ys):=Iff.rfl
@[simp] theorem SA(t:TypeId)(x:AV):pE t x K↔K (.fJ t x):=Iff.rfl
@[simp] theorem aa0(has:TypeId→Bool)(t:TypeId)(v:AV):xZ has (.fJ t v) K↔has t=true∧K (.aw [.fJ t v,b_ true]):=Iff.rfl
@[simp] theorem vM(neg b:Bool):iH neg (some b) K↔K (b_ (q9 neg b)):=Iff.rfl
@[simp] theorem abh(b:Bool):q9 true b=!b:=rfl
@[simp] theorem abg(b:Bool):q9 false b=b:=rfl
@[simp] theorem Zv:uA (.v .nilIface)=some true:=rfl
@[simp] theorem Zu(t:TypeId)(x:AV):uA (.fJ t x)=some false:=rfl
@[simp] theorem Zx:sj (.v (.pointer none))=some true:=rfl
@[simp] theorem Zy(a b:Nat):sj (.op a b)=some false:=rfl
@[simp] theorem Zw(cs:List AV):sj (.ip cs)=some false:=rfl
@[simp] theorem Zz(a b:Nat):sk (.v (.slice none a b))=some true:=rfl
@[simp] theorem ZA(a b c d:Nat):sk (.own a b (c+1) d)=some false:=rfl
@[simp] theorem Gm(g:Bool)(sz:Nat)(cs:List AV):ae g sz (.ip cs) h K↔ky g sz cs K:=Iff.rfl
@[simp] theorem tA(g:Bool)(sz id o:Nat):ae g sz (.op id o) h K↔(match h[id]? with|some (.ak b)=>ky g sz (b.cells.drop o) K|_=>False):=Iff.rfl
@[simp] theorem x5(KS:aa→Prop)(sz id o:Nat)(v:AV):ah sz (.op id o) v h KS↔(match h[id]? with
 | some (.ak b)=>(b.wr=true∧o+(bl v).length≤b.cells.length∧(bl v).length=sz∧(bl v).all bw=true)∧KS (h.set id (.ak { b with cells:=bU b.cells o (bl v) }))
 | _=>False):=Iff.rfl
@[simp] theorem SB(t:TypeId)(v:AV):aB t v h KH↔(bl v).all bw=true∧KH (.op h.length 0) (h++[.ak ⟨t,bl v,true⟩]):=Iff.rfl
@[simp] theorem Mc(zero:AV)(parts:List (Nat×Nat×AV)):bf zero parts K↔(match dD (bl zero) parts with|some cs=>K (.agg cs)|none=>False):=Iff.rfl
@[simp] theorem Zp(t len sz:Nat)(zero:AV)(parts:List (Nat×Nat×AV)):dF t len sz zero parts h KH↔(match dD (eZ len (bl zero)) parts with
 | some cs=>(match len with
   | 0=>KH .emp h
   | len+1=>KH (.own h.length 0 (len+1) sz) (h++[.ak ⟨t,cs,true⟩]))
 | none=>False):=Iff.rfl
@[simp] theorem YU(len sz:Nat)(zero:AV)(parts:List (Nat×Nat×AV)):bz len sz zero parts K↔(match dD (eZ len (bl zero)) parts with|some cs=>K (.sl sz (chunks sz len cs))|none=>False):=Iff.rfl
@[simp] theorem wR(e sz bytes:Nat)(zero:AV)(k k':IntKind)(l c:Int):jO e sz bytes zero (.v (.int k l)) (.v (.int k' c)) h KH↔(0≤l∧l≤c∧(bytes:Int)*c≤281474976710656∧c≤9223372036854775807)∧KH (.own h.length 0 l.toNat sz) (h++[.ak ⟨e,eZ c.toNat (bl zero),true⟩]):=Iff.rfl
@[simp] theorem HO(e:Nat)(l:List UInt8):jP e (.str l) h KH↔KH (.own h.length 0 l.length 1) (h++[.ak ⟨e,l.map bS,true⟩]):=Iff.rfl
@[simp] theorem Ao(l:List UInt8):cn (.str l) K↔(l.length≤maxLen→K (i_ l.length)):=Iff.rfl
@[simp] theorem Jp(sz:Nat)(rows:List (List AV)):aU (.sl sz rows) K↔(rows.length≤maxLen→K (i_ rows.length)):=Iff.rfl
@[simp] theorem aa3(id sz:Nat)(rows:List (List AV)):aU (.sb id sz rows) K↔(rows.length≤maxLen→K (i_ rows.length)):=Iff.rfl
@[simp] theorem tz(id off len sz:Nat):aU (.own id off len sz) K↔(len≤maxLen→K (i_ len)):=Iff.rfl
@[simp] theorem YT(l:List UInt8):iT (.str l) K↔K (i_ l.length):=Iff.rfl
@[simp] theorem qm(sz:Nat)(rows:List (List AV)):dX (.sl sz rows) K↔K (i_ rows.length):=Iff.rfl
@[simp] theorem Zm(id sz:Nat)(rows:List (List AV)):dX (.sb id sz rows) K↔K (i_ rows.length):=Iff.rfl
@[simp] theorem Zo(id off len sz:Nat):dX (.own id off len sz) K↔K (i_ len):=Iff.rfl
@[simp] theorem Zn:dX .emp K↔K (i_ 0):=Iff.rfl
@[simp] theorem aa4:aU .emp K↔K (i_ 0):=Iff.rfl
@[simp] theorem Jr(k:IntKind)(a b:Int):kD (.v (.int k a)) (.v (.int k b)) K↔K (.v (.int k (if b<a then b else a))):=by simp[kD]
@[simp] theorem Jq(k:IntKind)(a b:Int):iy (.v (.int k a)) (.v (.int k b)) K↔K (.v (.int k (if b > a then b else a))):=by simp[iy]
@[simp] theorem Zt(l:List UInt8):zb (.str l) K↔K (.str l):=Iff.rfl
@[simp] theorem abp(sz:Nat)(rows:List (List AV)):iL h sz (.sl sz rows)=some rows:=by simp[iL,lQ]
@[simp] theorem TS(sz id:Nat)(rows:List (List AV)):iL h sz (.sb id sz rows)=some rows:=by simp[iL,lQ]
@[simp] theorem abo(sz:Nat):iL h sz .emp=some []:=rfl
@[simp] theorem EN(sz id off len sz':Nat):iL h sz (.own id off len sz')=(match h[id]? with
 | some (.ak b)=>if sz'=sz∧off+len*sz≤b.cells.length then some (chunks sz len (b.cells.drop off)) else none
 | _=>none):=rfl
@[simp] theorem aaZ(own:Bool)(e sz bytes:Nat)(x y:AV):bN own e sz bytes x y h KH↔ep own e sz bytes x (iL h sz y) h KH:=Iff.rfl
@[simp] theorem Pl(own:Bool)(e bytes:Nat)(x y:AV):CQ own e bytes x y h KH↔ep own e 1 bytes x (Bk y) h KH:=Iff.rfl
@[simp] theorem WM(e sz bytes:Nat)(rows:List (List AV)):ep false e sz bytes .emp (some rows) h KH↔rows.all (da sz)=true∧gM bytes rows.length∧KH (.sb h.length sz rows) (h++[.tok e sz rows.length]):=Iff.rfl
@[simp] theorem WN(e sz bytes:Nat)(rows:List (List AV)):ep true e sz bytes .emp (some rows) h KH↔rows.all (da sz)=true∧rows≠[]∧gM bytes rows.length∧KH (.own h.length 0 rows.length sz) (h++[.ak ⟨e,rows.flatten,true⟩]):=Iff.rfl
@[simp] theorem YQ(own:Bool)(e sz bytes id sz':Nat)(base rows:List (List AV)):ep own e sz bytes (.sb id sz' base) (some rows) h KH↔rows.all (da sz)=true∧(match h[id]? with
 | some (.tok e' sz'' k)=>(sz'=sz∧sz''=sz∧e'=e∧k=base.length)∧gM bytes (k+rows.length)∧KH (.sb id sz (base++rows)) (h.set id (.tok e sz (k+rows.length)))
 | _=>False):=Iff.rfl
@[simp] theorem Mb(own:Bool)(e sz bytes id off len sz':Nat)(rows:List (List AV)):ep own e sz bytes (.own id off len sz') (some rows) h KH↔rows.all (da sz)=true∧(match h[id]? with
 | some (.ak b)=>(off=0∧sz'=sz∧b.wr=true∧b.ty=e∧len*sz≤b.cells.length)∧0<len+rows.length∧gM bytes (len+rows.length) ∧
  KH (.own h.length 0 (len+rows.length) sz) (h.set id .dead++[.ak ⟨e,b.cells.take (len*sz)++rows.flatten,true⟩])
 | _=>False):=Iff.rfl
end
@[simp] theorem Jo(P:Program)(row:TypeId→Option FuncId)(t:TypeId)(v:AV)(args:List AV)(h:aa)(KH:AV→aa→Prop):vK P row (.fJ t v) args h KH↔(match row t with|some f=>cw P f (v:: args) h KH|none=>False):=Iff.rfl
/-! ### What is pure is told as_ it is -/
omit [Laid] in
def yu(f:AV→AV)(L:Nat)(h:aa)(a:AV):Pure a→dt f L h a=a:=by
 refine AV.rec (motive_1:=fun a=>Pure a→dt f L h a=a) (motive_2:=fun l=>aq l→lH f L h l=l) (motive_3:=fun r=>aX r→mY f L h r=r) ?_ ?_ ?_ ?_ ?_ ?_ ?_ ?_ ?_ ?_ ?_ ?_ ?_ ?_ ?_ ?_ ?_ ?_ a;all_goals intros
 all_goals simp_all [dt,lH,mY]
omit [Laid] in
@[simp] theorem Bo(L:Nat)(h:aa)(d:Nat)(a:AV)(p:Pure a):tl L h d a=a:=by
 cases d<;>exact yu _ L h a p
omit [Laid] in
@[simp] theorem WV(a:AV):Le a a:=Le.refl a
def cf(r r':AV)(h':aa):Prop:=∃r'' h'',Wk ([]:aa).length [r'] h' [r''] h''∧r''=r
def cf.of(q:Le (tl 0 h' 3 r') r):cf r r' h':=Qn.wk q
def cf.pure(p:Pure r')(e:r'=r):cf r r' h':=by
 subst e;exact cf.of (by rw[Bo _ _ _ _ p];exact Le.refl _)
def Body.aQ{args:List AV}{W:aa→(AV→aa→Prop)→Prop}(b:Body P f args W)(pa:aq args)(pr:Pure r)(q:W [] (cf r)):aV P f args r:=b.IU pa pr q
def aG{α:Type}(I:α→Prop)(f:α→List AV)(g:α→aa)(μ:α→Nat)(x₀:α){body:(List AV→aa→Prop)→List AV→aa→Prop}(h0:I x₀)(w0:Wk h.length s h (f x₀) (g x₀))
 (step:∀x,I x→body (fun s' h' => ∃y,I y∧Wk h.length s' h' (f y) (g y)∧μ y<μ x) (f x) (g x)):bc s h body:=
 ⟨α,I,f,g,μ,x₀,h0,w0,step⟩
/-! ### Values that name no memory -/
mutual
def Flat:AV→Prop
 | .v _|.str _|.any=>True
 | .agg cs|.aw cs=>yC cs
 | _=>False
def yC:List AV→Prop
 | []=>True
 | c:: cs=>Flat c∧yC cs
end
omit [Laid] in
def ax.flat(a:AV):∀v:Value,Flat a→ax ι S w a v→ax ι' S' w' a v:=by
 refine AV.rec (motive_1:=fun a=>∀v:Value,Flat a→ax ι S w a v→ax ι' S' w' a v) (motive_2:=fun as_=>∀vs:List Value,yC as_→aD ι S w as_ vs→aD ι' S' w' as_ vs) (motive_3:=fun _=>True) ?_ ?_ ?_ ?_ ?_ ?_ ?_ ?_ ?_ ?_ ?_ ?_ ?_ ?_ ?_ ?_ ?_ ?_ a
 case refine_4=>intro cs ih v p h;rw[Flat]at p;rw[ax]at *;obtain⟨vs,e,q⟩:=h;exact⟨vs,e,ih vs p q⟩
 case refine_5=>intro cs ih v p h;rw[Flat]at p;rw[ax]at *;obtain⟨vs,e,q⟩:=h;exact⟨vs,e,ih vs p q⟩
 case refine_16 =>
  intro a as_ iha ihs vs p h;rw[yC]at p;cases vs with
  | nil=>simp at h
  | cons v vs=>simp only[bL]at h ⊢;exact⟨iha v p.1 h.1,ihs vs p.2 h.2⟩
 all_goals intros
 all_goals first|trivial|(rename_i p h;simp[Flat]at p;done)|skip
 all_goals simp_all
attribute [simp] Flat yC
def qR{args args':List AV}{K:AV→aa→Prop}(hb:cJ P f=true)(c:aV P f args' r)(hl:iz (args.map (tl 0 h 3)) args')(fl:Flat r)(k:K r h):bA P (.fn (.func f) [] []) args h K:=by
 refine⟨hb, ?_⟩;simp only[List.nil_append,aal];obtain⟨pa,pr,c⟩:=c;intro base ι S w vs h1 h2;obtain⟨hE0,hh0⟩:=h2.told (L:=0) (aao _);have hr:aD (ι.take 0) (eU 0 ι S h) w args' vs:=by
  refine aD.le _ _ vs hl ?_;have:=aD.dt (L:=0) (f:=tl 0 h 2) h2 (ax.tl h2 2) args vs h1
  rwa [mW]at this
 simp only[List.take_zero]at hr hE0;refine (c w.heap.size [] (eU 0 ι S h) w vs hr (cy.nil _ w hh0.fV hh0.gl)).mono ?_;rintro e w' ⟨v,ι',S',r',h',e1,e2,e3,e4,_,rfl⟩;have hE:bM ι.length w.heap.size ι S w ι S w':=⟨fun _ _=>eW.refl _,fun _ _ q=>q,fun _ _ q=>.inl q,fun b o q=>e2.cell b o (.inl q),e2.vj,e2.mI⟩;exact⟨v,ι,S,r',h,e1,hE.mono (by rw[h2.len];exact aS _) h2.ji,ax.flat r' v fl e3,h2.over hE (fun b o q=>UP (h2.fV b o q) e2.mI.size),aS _,k⟩
end
section
open Go Go.RowKit Go.ChangeShapes Go.WideShapes
section
variable {H:Type} {enc:TypeId×Value→H} {P:Program}
theorem vm(hl:laidOutB P=true)(hb:Below W.heap.size W W'):∀{ts:List TypeId} {vs:List Value} {ds:List (DataW H)} {ps:List MemPlace},
 ts.all (fun t=>P.readableRec t&&decide (t<P.types.size))=true→DataW.TrodAll enc P W 0 (fun _=>true) true ts vs ds ps→(∀x∈ps,x.block<W.heap.size) →
 DataW.TrodAll enc P W' 0 (fun b=>decide (b<W.heap.size)) true ts vs ds ps
 | [],_,_,_,_,h,_=>by obtain⟨rfl,rfl,rfl⟩:=trodAll_nil h;exact rfl
 | t:: ts,_,_,_,hr,h,hlt=>by
   obtain⟨v,vs,d,ds,p,q,rfl,rfl,rfl,h1,h2⟩:=trodAll_cons h;simp only[aaC,On,OF]at hr;exact⟨p,q,Below.trod hl hr.1.1 hr.1.2 h1 hb (fun x hx=>hlt x (by simp[hx])),vm hl hb hr.2 h2 (fun x hx=>hlt x (by simp[hx])),rfl⟩
def J6{f:Func}{s:ChangeSpec}{apart fresh handsOn:Bool}{W W':World}{args:Array Value}{ds gs:List (DataW H)}{before:List MemPlace}{tb:TypeId}
 (hl:laidOutB P=true) (hrd:f.params.toList.all (fun t=>P.readableRec t&&decide (t<P.types.size))=true) (hvr:varsRowed P s.vars=true) (hrt:f.resultTypes=#[tb]) (hb:P.underlying tb=some .bool)
 (hW:DataW.Whole enc P f.params.toList s.vars apart W args.toList ds gs before) (hfn:s.fn H (ds++gs)={ results:=[.lit (.bool true)],args:=ds,vars:=gs }) (hB:Below W.heap.size W W') :
 s.post enc P f apart fresh handsOn false W args (.bool true) W':=by
 have hlt:=hW.lt;have hW0:=hW;obtain⟨p,q,hA,hV,rfl,hfz,hnd⟩:=hW;have hA':=vm (enc:=enc) hl hB hrd hA (fun x hx=>hlt x (by simp[hx]));have hV':=Below.trodVars (enc:=enc) hl hB hvr hV;refine⟨ds,gs,p++q,[],p,q,hW0, ?_,by rw[hfn];exact hA',by rw[hfn];exact hV',hB.frame _,fun e=>by cases e⟩;rw[hfn,hrt];exact trodAll_mk1 (shut_bool hb true)
end
/-! Arguments opened -/
def old(W:World):bj:=fun b _=>b<W.heap.size
def add_plain(b off i:Nat):(⟨b,off,none⟩:Addr).add i=⟨b,off+i,none⟩:=addr_add b off i
def aV.calls[Laid]{as_:List AV}(c:aV P f as_ (b_ true)){vs:List Value}(hg:BA (old W) W)(h:aD [] (old W) W as_ vs):
 Calls P f vs.toArray W fun e W' => e=.returned (.bool true)∧Below W.heap.size W W':=by
 obtain⟨_,_,c⟩:=c;refine (c W.heap.size [] (old W) W vs h (cy.nil (old W) W (fun b o q=>q) hg)).mono ?_;rintro e W' ⟨v,ι',S',r,h',e1,e2,e3,e4,_,rfl⟩;simp at e3;exact⟨by rw[e1,e3],e2.mI⟩
def bI.ints{zs:List Int}(hc:∀i,i<zs.length→W.cell? ⟨g,i,none⟩=some (.int k (zs.getD i 0))):bI [] (old W) W (zs.map fun z=>.v (.int k z)) g 0:=by
 refine bI.mk fun i c e=>?_;rw[iS]at e;cases hz:zs[i]? with
 | none=>rw[hz]at e;cases e
 | some z =>
   rw[hz]at e;cases e;have hi:=(dO.1 hz).1;have h1:=hc i hi;rw[nO,hz]at h1;refine⟨_,by rw[aaq];exact h1, ?_,by simp⟩;show g<W.heap.size;unfold World.cell? at h1;split at h1
   ·rename_i c1 c2 c3 hh;exact (By.1 hh).1
   ·cases h1
end
end Go.Aw
namespace Go.Proofs.YtkfakehconamoaaGreatDoor
section
open Go Go.Aw
variable [Laid]
def QA(y:AV)(h:aa)(K:AV→aa→Prop):Prop:=
 aB 99 y h fun a o=>iFL 0 false 1 a o fun z=>iFL 1 false 1 a o fun A=>bf (.agg [u8 0,.str [],u8 0,.str [],ff,i_ 0,i_ 0,ff,qNs]) [(0,1,z),(1,1,A)] fun B=>aB 99 (.agg [u8 0,.str [],u8 0,.str [],ff,i_ 0,i_ 0,ff,qNs]) o fun b C=>ah 9 b B C fun i=>iFL 1 false 1 a i fun D=>cn D fun E=>qBe .geq E 1 fun F=>qJa F [a,b] i (fun G=>iFL 1 false 1 a i fun H=>cn H fun I=>qBe .leq I 400 fun J=>G J i) fun e p=>aI (fun j=>iFL 0 false 1 a p fun c=>aI (fun u=>ag .eql c (u8 1) fun L=>af L (eC [a,b,e,c] (u [tt] p)) (ag .eql c (u8 2) fun M=>eC [a,b,e,c] (u [M] p))) fun N d=>af (nx N 0) (eC [a,b] (j [e] d)) (ag .eql c (u8 3) fun O=>af O (iFL 2 false 1 a d fun P=>ag .gtr P (u8 6) fun Q=>qJo Q [a,b,e] d (fun R=>iFL 3 false 1 a d fun S=>cn S fun T=>qBe .gtr T 400 fun U=>R U d) fun V q=>af V (K (i_ 12) q) (iFL 2 false 1 a q fun W=>aN 2 b fun X=>ah 1 X W q fun k=>iFL 2 false 1 a k fun Y=>ag .neq Y (u8 0) fun Z=>af Z (iFL 3 false 1 a k fun a0=>aN 4 a fun a1=>ae false 1 a1 [] fun a2=>aN 3 b fun a3=>ah 1 a3 a0 k fun a4=>aN 4 b fun a5=>ah 1 a5 a2 a4 fun a6=>eC [a,b] (j [e] a6)) (eC [a,b] (j [e] k)))) (aI (fun g=>ag .eql c (u8 4) fun a7=>af a7 (eC [a,b] (g [tt] d)) (ag .eql c (u8 5) fun a8=>af a8 (eC [a,b] (g [tt] d)) (ag .eql c (u8 6) fun a9=>af a9 (eC [a,b] (g [tt] d)) (ag .eql c (u8 7) fun b0=>af b0 (eC [a,b] (g [tt] d)) (ag .eql c (u8 8) fun b1=>eC [a,b] (g [b1] d)))))) fun b2 v=>af (nx b2 0) (aN 1 b fun b3=>ah 1 b3 (.str []) v fun b4=>eC [a,b] (j [tt] b4)) (K (i_ 12) v)))) fun l f=>iFL 1 false 1 b f fun b5=>iFL 1 false 1 a f fun b6=>ag .eql b5 b6 fun b7=>qJa b7 [a,b,nx l 0] f (fun b8=>iFL 2 false 1 b f fun b9=>iFL 2 false 1 a f fun c0=>ag .eql b9 c0 fun c1=>b8 c1 f) fun c2 m=>qJa c2 [a,b,nx l 0] m (fun c3=>iFL 3 false 1 b m fun c4=>iFL 3 false 1 a m fun c5=>ag .eql c4 c5 fun c6=>c3 c6 m) fun c7 n=>qJa c7 [a,nx l 0] n (fun c8=>iFL 4 false 1 b n fun c9=>iFL 4 false 1 a n fun d0=>oI .eql c9 d0 fun d1=>c8 d1 n) fun d2 w=>bT (nx l 0) fun d3=>qJo d3 [a] w (fun d4=>bT d2 fun d5=>d4 d5 w) fun d6 r=>qJo d6 [a] r (fun d7=>iFL 5 true 2 a r fun d8=>bf (.agg [i_ 0,i_ 0]) [] fun d9=>sN true [1,1] d8 d9 fun e0=>d7 e0 r) fun e1 s=>qJo e1 [a] s (fun e2=>iFL 7 false 1 a s fun e3=>e2 e3 s) fun e4 t=>qKo e4 t (fun e5=>iFL 8 false 1 a t fun e6=>aU e6 fun e7=>qBe .gtr e7 0 fun e8=>e5 e8 t) fun e9 x=>af e9 (K (i_ 12) x) (K (i_ 0) x)
def Xb(a:AV):Body p_ 110 [a] (QA a):=mkB Tryz.func110 (sn (sn (.seq (.aO (oR 0 5 (.aA 4 true (fR 5 4) [1,3] [15,19]::oR 9 2 []))) (.join [1,3] [4] (sn (.one (.join [1,3,4,22] [23] .nil (.two .nil (sn (.two (.seq (.seq (.aO (oR 0 4 (.aA 3 false (fR 4 4) [1,3,4] [31,35]::.op 8 false::[]))) .nil) (sn (sn (.two (.fF [(0,0,false),(1,1,false),(2,0,false),(3,0,false),(4,0,false),(5,2,false),(6,0,false),(7,2,false)]) .nil)))) (.join [1,3] [49] .nil .nil))))))) (.seq (.aO (oR 0 6 (.aA 5 true (fR 6 5) [1,3,4] [61,66]::oR 11 2 (.aA 12 true (fR 13 5) [1,3,4] [68,73]::oR 18 2 (.aA 19 true (fR 20 5) [1,4] [75,80]::oR 25 2 []))))) (.seq (.seq (.aO (oR 0 3 (.aA 2 false (fR 3 2) [1] [84,86]::oR 5 2 (.aA 6 false (fR 7 4) [1] [88,92]::oR 11 2 (.aA 12 false (fR 13 2) [1] [94,96]::oR 15 2 (.aA 16 false (fR 17 4) [] [98,102]::.op 21 false::[])))))) .nil) .nil)))))) 104 [.tmp 2]
def We(z B f:AV)(h:aa)(K:AV→aa→Prop):Prop:=
 aB 24 z h fun j A=>aB 99 B A fun a k=>ae true 1 j k fun C=>iC p_ 67 [C] k fun l e=>qBe .neq l 0 fun D=>af D (K l e) (ae true 1 j e fun E=>iy f (i_ 0) fun F=>iC p_ 109 [E,F] e fun m n=>ay 0 m fun b=>ay 1 m fun g=>qBe .neq f (-1) fun o=>aI (fun p=>aL o true (qBe .lss f 0 fun G=>eC [a,b,g] (p [tt,G] n)) (eC [a,b,g] (p [bO true o,un] n))) fun c q=>aI (fun r=>aL (nx c 1) false (qBe .neq g 0 fun H=>eC [a,b,nx c 0] (r [ff,H] q)) (eC [a,b,nx c 0] (r [(bO false (nx c 1)),un] q))) fun s t=>aI (fun u=>aL (nx c 0) true (bG (nx s 0) tt (nx s 1) fun I=>eC [a,b] (u [tt,I] t)) (eC [a,b] (u [(bO true (nx c 0)),un] t))) fun d v=>aI (fun w=>aL (nx d 1) false (bT b fun J=>eC [a,nx d 0] (w [ff,J] v)) (eC [a,nx d 0] (w [(bO false (nx d 1)),un] v))) fun x y=>qJa (nx d 0) [a] y (fun L=>bG (nx x 0) tt (nx x 1) fun M=>L M y) fun N i=>af N (K (i_ 2) i) (ae true 9 a i fun O=>iC p_ 110 [O] i fun P Q=>K P Q))
def V68(a b c:AV):Body p_ 68 [a,b,c] (We a b c):=mkB Tryz.func68 (sn (sn (.seq (sn (.seq (.aO (oR 0 3 (.aA 2 true (fR 3 3) [4,8,9] [24,27]::.aA 5 false (fR 6 2) [4,8,24] [27,29]::.aA 2 true (fR 8 2) [4,8] [24,31]::.aA 9 false (fR 10 2) [4,24] [31,33]::.aA 2 true [(12,false)] [4] [24,34]::.op 13 false::[]))) .nil)) .nil))) 38 [.tmp 6]
def Wf(p b r o:AV)(h:aa)(K:AV→aa→Prop):Prop:=
 aB 24 p h fun d q=>aB 99 r q fun e i=>ae true 1 d i fun s=>iC p_ 109 [s,b] i fun j a=>ay 0 j fun k=>ay 1 j fun a8=>iFL 0 false 1 e a fun c=>ag .eql c (u8 1) fun t=>af t (ae true 1 d a fun u=>iC p_ 111 [u,b,.str [105,100]] a fun l f=>ay 0 l fun v=>ay 1 l fun w=>qBe .eql w 0 fun x=>qKa x f (fun y=>iFL 1 false 1 e f fun z=>ag .eql v z fun A=>y A f) fun B C=>K B C) (ag .eql c (u8 2) fun D=>af D (ae true 1 d a fun E=>iFL 1 false 1 e a fun F=>iC p_ 112 [E,b,F] a fun m G=>ay 0 m fun H=>ay 1 m fun a9=>K H G) (ag .eql c (u8 3) fun I=>af I (ae true 1 d a fun J=>iFL 1 false 1 e a fun L=>iC p_ 111 [J,b,L] a fun n g=>ay 0 n fun M=>ay 1 n fun N=>qBe .eql N 0 fun O=>qKa O g (fun P=>ae true 9 e g fun Q=>iC p_ 113 [Q,M] g P) fun R S=>K R S) (ag .eql c (u8 5) fun T=>af T (ag .eql b o fun U=>K U a) (ag .eql c (u8 4) fun V=>af V (qKa k a (fun W=>ag .neq b o fun X=>W X a) fun Y Z=>K Y Z) (ag .eql c (u8 6) fun a0=>af a0 (K k a) (ag .eql c (u8 7) fun a1=>af a1 (qBe .eql b 0 fun a2=>K a2 a) (iFL 0 false 1 d a fun a3=>au 4 a3 b fun a4=>iFL 3 false 1 a4 a fun a5=>aU a5 fun a6=>qBe .eql a6 0 fun a7=>K a7 a)))))))
def V69(a b c d:AV):Body p_ 69 [a,b,c,d] (Wf a b c d):=mkB Tryz.func69 (sn (sn (.seq (sn (.one (sn (.two (sn (.seq (.aO (oR 0 3 (.aA 2 true (fR 3 4) [] [33,37]::oR 7 2 []))) .nil)) (sn (.two .nil (sn (.two (sn (.seq (.aO (oR 0 3 (.aA 2 true (fR 3 3) [] [62,65]::oR 6 2 []))) .nil)) (sn (.two .nil (sn (.two (.seq (.aO (oR 0 2 (.aA 1 true (fR 2 3) [] [75,78]::oR 5 2 []))) .nil) .nil)))))))))))) .nil))) 95 [.tmp 8]
def RN(l f n j:AV)(h:aa)(K:AV→aa→Prop):Prop:=
 aB 24 l h fun c m=>aB 99 n m fun d e=>ae true 1 c e fun o=>iC p_ 32 [o,f] e fun g a=>ay 0 g fun x=>ay 1 g fun i=>qBe .neq i 0 fun p=>af p (K (.aw [ff,i]) a) (ae true 1 c a fun q=>ae true 9 d a fun r=>iC p_ 68 [q,r,j] a fun k b=>qBe .neq k 0 fun s=>af s (K (.aw [ff,k]) b) (ae true 1 c b fun t=>ae true 9 d b fun u=>iC p_ 69 [t,f,u,j] b fun v w=>K (.aw [v,i_ 0]) w))
def Yj(a b c d:AV):Body p_ 233 [a,b,c,d] (RN a b c d):=mkB Tryz.func233 .nil 34 [.tmp 8,.tmp 9]
def VU(k m f:AV)(h:aa)(K:AV→aa→Prop):Prop:=
 aB 24 k h fun b l=>aB 99 m l fun d e=>ae true 1 b e fun n=>ae true 9 d e fun o=>iC p_ 68 [n,o,f] e fun i g=>qBe .neq i 0 fun p=>af p (K (.aw [qNs,i]) g) (iFL 0 false 1 b g fun q=>aU q fun j=>bc [qNs,i_ 0] g fun r a c =>
 ag .lss (nx a 1) j fun s=>af s (ae true 1 b c fun t=>ae true 9 d c fun u=>iC p_ 69 [t,nx a 1,u,f] c fun v w=>bz 1 1 ff [(0,1,v)] fun x=>bN false 4 1 1 (nx a 0) x w fun y z=>qBe .add (nx a 1) 1 fun A=>eC [f,b,d,j] (r [y,A] z)) (K (.aw [nx a 0,i_ 0]) c))
def V51(a b c:AV):Body p_ 51 [a,b,c] (VU a b c):=mkB Tryz.func51 (sn (sn (sn (.seq (sn (.one (.loop [2,3,4,20] [9,21] (sn (sn (.seq (.one (sn (.aO (oR 0 6 (.op 6 true::oR 7 2 []))))) .nil)))))) .nil)))) 34 [.tmp 6,.tmp 7]
end
end Go.Proofs.YtkfakehconamoaaGreatDoor
namespace Go.Aw
section
open Go Go.RowKit
variable {K:AV→Prop} {A B:Prop} {h:aa}
def enil{id o:Nat}{K:AV→Prop}(q:K (.op id o)):ca P (.op id o) K:=q
def aK{k:(List AV→aa→Prop)→Prop}{f:List AV→aa→Prop}(q:k f):aI k f:=q
def gZ(e:c=.v (.bool w))(q:A):aL c w A B:=by subst e;cases w<;>simpa using q
def iZ(e:c=.v (.bool (!w)))(q:B):aL c w A B:=by subst e;cases w<;>simpa using q
def cX(e:c=.v undef)(q:B):aL c w A B:=by subst e;simpa using q
def tAn(q:B):True∧B:=⟨True.intro,q⟩
def bu(e:c=.v (.bool true))(q:K a):bG c a b K:=by subst e;simpa using q
def zzR(q:K a):bG (.v (.bool true)) a b K:=bu rfl q
def bt(e:c=.v (.bool false))(q:K b):bG c a b K:=by subst e;simpa using q
def zzQ(q:K b):bG (.v (.bool false)) a b K:=bt rfl q
def M6(e:c=.v (.bool false))(q:B):af c A B:=by subst e;simpa using q
def ar(q:X):a=a∧X:=⟨rfl,q⟩
def oQ(t:Bool)(ex:x=.v (.int k a))(ey:y=.v (.int k b))(c:decide (a<b)=t)(q:K (.v (.bool t))):ag .lss x y K:=by subst ex;subst ey;subst c;simpa using q
def me(t:Bool)(ex:x=.v (.int k a))(ey:y=.v (.int k b))(c:decide (a≤b)=t)(q:K (.v (.bool t))):ag .leq x y K:=by subst ex;subst ey;subst c;simpa using q
def nH(t:Bool)(ex:x=.v (.int k a))(ey:y=.v (.int k b))(c:decide (b<a)=t)(q:K (.v (.bool t))):ag .gtr x y K:=by subst ex;subst ey;subst c;simpa using q
def mc(t:Bool)(ex:x=.v (.int k a))(ey:y=.v (.int k b))(c:decide (b≤a)=t)(q:K (.v (.bool t))):ag .geq x y K:=by subst ex;subst ey;subst c;simpa using q
def lu(t:Bool)(ex:x=.v (.int k a))(ey:y=.v (.int k b))(c:decide (a=b)=t)(q:K (.v (.bool t))):ag .eql x y K:=by subst ex;subst ey;subst c;simpa using q
def bQ(ex:x=i_ a)(ey:y=i_ b)(c:aZ (a+b))(q:K (i_ (a+b))):ag .add x y K:=by subst ex;subst ey;simpa using⟨c,q⟩
def zzP(c:aZ (a+b))(q:K (i_ (a+b))):ag .add (i_ a) (i_ b) K:=bQ rfl rfl c q
def sy(ex:x=i_ a)(ey:y=i_ b)(c:aZ (a-b))(q:K (i_ (a-b))):ag .sub x y K:=by subst ex;subst ey;simpa using⟨c,q⟩
def zzf(c:aZ (a-b))(q:K (i_ (a-b))):ag .sub (i_ a) (i_ b) K:=sy rfl rfl c q
def aR{off id o:Nat}(e:x=.op id o)(q:K (.op id (o+off))):aN off x K:=by subst e;exact q
def zzA{off id o:Nat}(q:K (.op id (o+off))):aN off (.op id o) K:=aR rfl q
def aE{id o:Nat}(e:x=.op id o)(hb:h[id]?=some (.ak b))(hc:b.cells[o]?=some c)(q:K c):ae false 1 x h K:=by
 subst e;rw[tA,hb];have hl:=(dO.1 hc).1;simp only[ky];rw[aaK hl];rw[(dO.1 hc).2];exact q
def zzU{id o:Nat}(hb:h[id]?=some (.ak b))(hc:b.cells[o]?=some c)(q:K c):ae false 1 (.op id o) h K:=aE rfl hb hc q
def cK{id o n:Nat}(e:x=.op id o)(hb:h[id]?=some (.ak b))(hn:n≤(b.cells.drop o).length)(q:K (.agg ((b.cells.drop o).take n))):ae true n x h K:=by
 subst e;rw[tA,hb];exact⟨hn,q⟩
def zzV{id o n:Nat}(hb:h[id]?=some (.ak b))(hn:n≤(b.cells.drop o).length)(q:K (.agg ((b.cells.drop o).take n))):ae true n (.op id o) h K:=cK rfl hb hn q
def gi{KH:AV→aa→Prop}(e:(bl v).all bw=true)(q:KH (.op h.length 0) (h++[.ak ⟨t,bl v,true⟩])):aB t v h KH:=⟨e,q⟩
def wv[Laid]{args args':List AV}{KH:AV→aa→Prop}(e:args=args')(hb:cJ P f=true)(c:aV P f args' r)(k:KH r h):bA P (.fn (.func f) [] []) args h KH:=by
 subst e;exact sa hb c k
def zzS[Laid]{args:List AV}{KH:AV→aa→Prop}(hb:cJ P f=true)(c:aV P f args r)(k:KH r h):bA P (.fn (.func f) [] []) args h KH:=wv rfl hb c k
def br{cs:List AV}(e:x=.aw cs)(hc:cs[i]?=some c)(q:K c):ay i x K:=by subst e;rw[Po,hc];exact q
end
section
open Go Go.RowKit
variable [Laid]
omit [Laid] in
theorem sZ(n:Nat):∀l,jg n l↔∀a∈l,Bd n a
 | []=>by simp[jg]
 | a:: l=>by rw[jg,sZ n l];simp
def xC:List (Nat×AV×AV)→List AV
 | []=>[]
 | (_,k,c):: r=>k:: c:: xC r
omit [Laid] in
theorem A5:∀{es:List (Nat×AV×AV)} {p:Nat×AV×AV},p∈es→p.2.1∈xC es∧p.2.2∈xC es
 | (n,k,c):: r,p,h=>by
  rcases IS.1 h with rfl|h
  ·simp[xC]
  ·have:=A5 h;simp[xC,this.1,this.2]
def mr(M:Nat)(e:aY):Prop:=match e with|.ak b=>jg M b.cells|.mp _ es=>jg M (xC es)|.it m _ _ _=>m<M|_=>True
theorem cy.cut{base:Nat}(hh:cy base ι S w h)(hM:M≤h.length)(hb:∀e∈h.take M,mr M e):
 bM M base ι S w (ι.take M) (eU M ι S h) w∧cy base (ι.take M) (eU M ι S h) w (h.take M):=by
 obtain⟨hE,hT⟩:=hh.told hM;refine⟨hE, ?_⟩;have pre:∀{i:Nat},i<M→(ι.take M)[i]?=ι[i]?:=fun q=>by rw[To,if_pos q]
 have ent:∀{i:Nat} {x:aY},(h.take M)[i]?=some x→i<M∧h[i]?=some x∧(nG M h)[i]?=some (xI M h x):=by
  intro i x e;rw[To]at e;split at e
  ·rename_i q;exact⟨q,e,by simp only[nG,iS,To,if_pos q,e,aaR]⟩
  ·cases e
 have alv:∀{i:Nat},alive (h.take M)[i]?→alive (nG M h)[i]?:=by
  intro i ha;cases e:(h.take M)[i]? with
  | none=>rw[e]at ha;exact ha.elim
  | some x =>
    rw[(ent e).2.2];rw[e]at ha;cases x with
    | it m s sn l =>
      have:mr M (.it m s sn l):=hb _ (eQ e);have:m<M:=this;simp only[xI,if_pos this];trivial
    | dead=>exact ha
    | _=>exact trivial
 refine⟨by simp[hh.len],fun id x e=>?_,fun id t sz n e=>?_,fun id en e=>?_,fun i j b ai aj hi hj=>hT.inj i j b (alv ai) (alv aj) hi hj,hT.fV,hh.ji,hh.gl.fq hE⟩;rotate_left 2
 ·obtain⟨q,e1,e2⟩:=ent e;have hbd:mr M en:=hb _ (eQ e);have hTo:=hT.im id _ e2;have hho:=hh.im id en e1;cases en with
  | ak=>trivial
  | tok=>trivial
  | dead=>trivial
  | mp c es =>
    obtain⟨b,arr,h1,h2,h3,h4,_⟩:=hTo;obtain⟨b',arr',k1,_,k3,_,k5⟩:=hho;rw[pre q,k1]at h1;cases h1;rw[k3]at h3;cases h3;exact⟨b,arr,(pre q).trans k1,h2,k3,h4,k5.bd fun p hp=>⟨fun y=>ax.fM hE _ y ((sZ M _).1 hbd _ (A5 hp).1),fun y=>ax.fM hE _ y ((sZ M _).1 hbd _ (A5 hp).2)⟩⟩
  | it m s sn l =>
    have hm:m<M:=hbd;simp only[xI,if_pos hm]at hTo;exact hTo
 ·obtain⟨q,e1,e2⟩:=ent e;obtain⟨b,arr,fz,h1,h2,h3,h4,h5,h6,h7,h8,h9⟩:=hT.live id _ e2;refine⟨b,arr,fz,h1,h2,h3,h4,by simpa using h5,fun i c ec=>?_,h7,fun o ho=>by simpa using h8 o ho,fun hw o ho=>h9 hw o (by simpa using ho)⟩;obtain⟨b',arr',fz',k1,k2,k3,k4,k5,k6,_⟩:=hh.live id x e1;rw[pre q,k1]at h1;cases h1;rw[k3]at h3;cases h3;obtain⟨v,e3,r⟩:=k6 i c ec;have hbd:mr M (.ak x):=hb _ (eQ e);exact⟨v,e3,ax.fM hE c v ((sZ M x.cells).1 hbd c (eQ ec)) r⟩
 ·obtain⟨q,e1,e2⟩:=ent e;exact hT.tok id t sz n e2
def Wk.YM(hL:L≤M)(hM:M≤h.length)(hb:∀e∈h.take M,mr M e)(hs:∀a∈s,Bd M a):Wk L s h s (h.take M):=
 ⟨by simp;omega,rfl,fun base ι S w vs r k=>by
  obtain⟨hE,hT⟩:=k.cut hM hb;exact⟨_,_,hE.mono hL (aS _),aD.mk r.length fun i a v e f=>by
   obtain⟨u,hu,ru⟩:=r.get i a e;rw[f]at hu;cases hu;exact ax.fM hE a v (hs a (eQ e)) ru,hT⟩⟩
def lB(a b:AV):Prop:=∀ι S w v,ax ι S w a v→ax ι S w b v
omit [Laid] in
def lB.refl(a:AV):lB a a:=fun _ _ _ _ h=>h
omit [Laid] in
def lB.nil(sz:Nat):lB (.v (.slice none 0 0)) (.sl sz []):=fun _ _ _ _ r=>by
 rw[cE]at r;subst r;rw[ax];exact⟨none,0,rfl,aS _,aao _,.inl rfl⟩
omit [Laid] in
def lB.M1(h1:lB a b)(h2:lB c d):lB (.aw [a,c]) (.aw [b,d]):=fun ι S w v r=>by
 rw[ax]at *;obtain⟨vs,e,k⟩:=r
 match vs,k with
 | [],k=>simp at k
 | [x],k=>simp at k
 | x:: y:: z:: l,k=>simp at k
 | [x,y],k =>
   simp only[bL,di,and_true]at k;exact⟨[x,y],e,by simpa using⟨h1 _ _ _ _ k.1,h2 _ _ _ _ k.2⟩⟩
def cf.Kh(g:cf s r' h')(q:lB s r):cf r r' h':=by
 obtain⟨r'',h'',⟨a1,a2,a3⟩,rfl⟩:=g;refine⟨r,h'',⟨a1,by simp,fun base ι S w vs r k=>?_⟩,rfl⟩;obtain⟨ι',S',hE,hs,hp⟩:=a3 base ι S w vs r k;refine⟨ι',S',hE, ?_,hp⟩
 match vs,hs with
 | [],hs=>simp at hs
 | x:: y:: l,hs=>simp at hs
 | [x],hs =>
   simp only[bL,di,and_true]at hs ⊢;exact q _ _ _ _ hs
omit [Laid] in
def zL{k:(List AV→aa→Prop)→Prop}{f:List AV→aa→Prop}(s:List AV)(h:aa)(q:f s h)(hk:∀F:List AV→aa→Prop,F s h→k F):aI k f:=hk f q
def gV{P:Program}{f:FuncId}{args:List AV}(pa:aq args)(fl:Flat r)(pr:Aw.Pure r)(hr:∀w,ax [] (fun _ _=>False) w r v)
 (c:∀ι S w vs,aD ι S w args vs→BA S w→Calls P f vs.toArray w fun e w' => e=.returned v∧Below w.heap.size w w'):aV P f args r:=by
 refine⟨pa,pr, ?_⟩;intro base ι S w vs h1 h2;refine (c ι S w vs h1 h2.gl).mono ?_;rintro e w' ⟨rfl,hB⟩;have hE:bM ι.length w.heap.size ι S w ι S w':=⟨fun _ _=>eW.refl _,fun _ _ q=>q,fun _ _ q=>.inl q,fun b o q=>hB.cell (h2.fV b o q),fun b x hx=>by
  unfold World.shape? at hx ⊢;have hb:b<w.heap.size:=by
   rcases AS b w.heap.size with k|k
   ·exact k
   ·rw[aaT k]at hx;cases hx
  rw[hB.block b hb];exact hx,hB⟩
 exact⟨v,ι,S,r,[],rfl,hE.mono (by rw[h2.len];exact aS _) h2.ji,ax.flat r v fl (hr w'),h2.over hE (fun b o q=>UP (h2.fV b o q) hB.size),aS _,rfl⟩
def xn{args args':List AV}{K:AV→Prop}(e:args=args')(hb:cJ P f=true)(c:aV P f args' r)(k:K r):u7 P (.fn (.func f) [] []) args h K:=by
 subst e;exact⟨r,sa hb c ⟨rfl,rfl⟩,k⟩
def zzT{args:List AV}{K:AV→Prop}(hb:cJ P f=true)(c:aV P f args r)(k:K r):u7 P (.fn (.func f) [] []) args h K:=xn rfl hb c k
omit [Laid] in
def KP{m:Nat}{rows:List (List AV)}{n:Nat}{K:AV→Prop}(ex:x=.sl m rows)(ei:i=i_ n)(hn:n<rows.length)(q:K (.ip (rows.getD n []))):au m x i K:=by
 subst ex;subst ei;rw[Gl];exact⟨rfl,⟨by omega,by omega⟩,by simpa using q⟩
omit [Laid] in
def cv{K:AV→Prop}(e:x=.ip (c:: r))(q:K c):ae false 1 x h K:=by subst e;exact q
omit [Laid] in
def zzW{K:AV→Prop}(q:K c):ae false 1 (.ip (c:: r)) h K:=cv rfl q
omit [Laid] in
def pA{sz:Nat}{rows:List (List AV)}{K:AV→Prop}(e:x=.sl sz rows)(q:K (i_ rows.length)):aU x K:=by subst e;rw[Jp];exact fun _=>q
end
section
open Go Go.RowKit
section
variable {K:AV→Prop} {A B:Prop} {h:aa}
def bZ(ex:x=.v (.int k a))(ey:y=.v (.int k b))(q:K (.v (.bool (decide (a<b))))):ag .lss x y K:=by subst ex;subst ey;simpa using q
def zzC(q:K (.v (.bool (decide (a<b))))):ag .lss (.v (.int k a)) (.v (.int k b)) K:=bZ rfl rfl q
def kv(ex:x=.v (.int k a))(ey:y=.v (.int k b))(q:K (.v (.bool (decide (a≤b))))):ag .leq x y K:=by subst ex;subst ey;simpa using q
def zzD(q:K (.v (.bool (decide (a≤b))))):ag .leq (.v (.int k a)) (.v (.int k b)) K:=kv rfl rfl q
def cS(ex:x=.v (.int k a))(ey:y=.v (.int k b))(q:K (.v (.bool (decide (b<a))))):ag .gtr x y K:=by subst ex;subst ey;simpa using q
def zzE(q:K (.v (.bool (decide (b<a))))):ag .gtr (.v (.int k a)) (.v (.int k b)) K:=cS rfl rfl q
def fk(ex:x=.v (.int k a))(ey:y=.v (.int k b))(q:K (.v (.bool (decide (b≤a))))):ag .geq x y K:=by subst ex;subst ey;simpa using q
def zzF(q:K (.v (.bool (decide (b≤a))))):ag .geq (.v (.int k a)) (.v (.int k b)) K:=fk rfl rfl q
def bK(ex:x=.v (.int k a))(ey:y=.v (.int k b))(q:K (.v (.bool (decide (a=b))))):ag .eql x y K:=by subst ex;subst ey;simpa using q
def zzG(q:K (.v (.bool (decide (a=b))))):ag .eql (.v (.int k a)) (.v (.int k b)) K:=bK rfl rfl q
def cz(ex:x=.v (.int k a))(ey:y=.v (.int k b))(q:K (.v (.bool (!decide (a=b))))):ag .neq x y K:=by subst ex;subst ey;simpa using q
def zzH(q:K (.v (.bool (!decide (a=b))))):ag .neq (.v (.int k a)) (.v (.int k b)) K:=cz rfl rfl q
def gy(ex:x=.str a)(ey:y=.str b)(q:K (.v (.bool (decide (a=b))))):ag .eql x y K:=by subst ex;subst ey;simpa using q
def zzI(q:K (.v (.bool (decide (a=b))))):ag .eql (.str a) (.str b) K:=gy rfl rfl q
def nL(ex:x=.str a)(ey:y=.str b)(q:K (.v (.bool (!decide (a=b))))):ag .neq x y K:=by subst ex;subst ey;simpa using q
def zzJ(q:K (.v (.bool (!decide (a=b))))):ag .neq (.str a) (.str b) K:=nL rfl rfl q
def R7(ex:x=.v (.bool a))(ey:y=.v (.bool b))(q:K (.v (.bool (a == b)))):oI .eql x y K:=by subst ex;subst ey;simpa using q
def R8(ex:x=.v (.bool a))(ey:y=.v (.bool b))(q:K (.v (.bool (!(a == b))))):oI .neq x y K:=by subst ex;subst ey;simpa using q
def dC(e:x=.v (.bool b))(q:K (.v (.bool (!b)))):bT x K:=by subst e;simpa using q
def zzO(q:K (.v (.bool (!b)))):bT (.v (.bool b)) K:=dC rfl q
def aW(e:c=.v (.bool b))(qt:b=true→A)(qf:b=false→B):af c A B:=by subst e;simpa using⟨qt,qf⟩
def aF(e:c=.v (.bool b))(hb:b=true)(q:A):af c A B:=by subst e;subst hb;simpa using q
def zzL(hb:b=true)(q:A):af (.v (.bool b)) A B:=aF rfl hb q
def az(e:c=.v (.bool b))(hb:b=false)(q:B):af c A B:=by subst e;subst hb;simpa using q
def zzK(hb:b=false)(q:B):af (.v (.bool b)) A B:=az rfl hb q
def sX(e:c=.v (.bool (!b)))(q:af (.v (.bool b)) B A):af c A B:=by subst e;cases b<;>simpa using q
def eG(e:c=.v (.bool b))(qt:b=w→A)(qf:b=(!w)→B):aL c w A B:=by subst e;simpa using⟨qt,qf⟩
def cd(e:c=.v (.bool b))(hb:b=w)(q:A):aL c w A B:=by subst e;subst hb;cases b<;>simpa using q
def zzN(hb:b=w)(q:A):aL (.v (.bool b)) w A B:=cd rfl hb q
def bV(e:c=.v (.bool b))(hb:b=(!w))(q:B):aL c w A B:=by subst e;subst hb;cases w<;>simpa using q
def zzM(hb:b=(!w))(q:B):aL (.v (.bool b)) w A B:=bV rfl hb q
def jL(e:c=.v (.bool (!b)))(q:aL (.v (.bool b)) (!w) A B):aL c w A B:=by subst e;cases b<;>cases w<;>simpa using q
def fp{off:Nat}{cs:List AV}(e:x=.ip cs)(q:K (.ip (cs.drop off))):aN off x K:=by subst e;exact q
def zzX{off:Nat}{cs:List AV}(q:K (.ip (cs.drop off))):aN off (.ip cs) K:=fp rfl q
def mf{cs:List AV}(e:x=.ip cs)(hn:cs.length=n)(q:K (.agg cs)):ae true n x h K:=by
 subst e;rw[Gm];exact⟨by omega,by rw[←hn,Gt];exact q⟩
def zzY{cs:List AV}(hn:cs.length=n)(q:K (.agg cs)):ae true n (.ip cs) h K:=mf rfl hn q
def gd{sz id o:Nat}{cs:List AV}{KS:aa→Prop}(e:x=.op id o)(hb:h[id]?=some (.ak b))(hw:b.wr=true)(hv:bl v=cs)(hl:o+cs.length≤b.cells.length)(hz:cs.length=sz)(hs:cs.all bw=true)
 (q:KS (h.set id (.ak { b with cells:=bU b.cells o cs }))):ah sz x v h KS:=by
 subst e;subst hv;rw[x5,hb];exact⟨⟨hw,hl,hz,hs⟩,q⟩
def cr{sz:Nat}{rows:List (List AV)}(e:x=.sl sz rows)(hn:rows.length=n)(q:n≤maxLen→K (i_ n)):aU x K:=by subst e;subst hn;rw[Jp];exact q
def zzg{sz:Nat}{rows:List (List AV)}(hn:rows.length=n)(q:n≤maxLen→K (i_ n)):aU (.sl sz rows) K:=cr rfl hn q
def gR(e:x=.str l)(q:l.length≤maxLen→K (i_ l.length)):cn x K:=by subst e;rw[Ao];exact q
def zzZ(q:l.length≤maxLen→K (i_ l.length)):cn (.str l) K:=gR rfl q
def bp{ps:List (Nat×Nat×AV)}{cs:List AV}(e:dD (bl z) ps=some cs)(q:K (.agg cs)):bf z ps K:=by rw[Mc,e];exact q
def cN{cs:List AV}(e:x=.aw cs)(hc:cs[i]?=some c)(q:K c):ay i x K:=br e hc q
def zzB{cs:List AV}(hc:cs[i]?=some c)(q:K c):ay i (.aw cs) K:=cN rfl hc q
def Hc{neg:Bool}{ks:List Nat}{xs ys:List AV}(ex:x=.agg xs)(ey:y=.agg ys)(hb:ij ks xs ys=some b)(q:K (.v (.bool (if neg then !b else b)))):sN neg ks x y K:=by
 subst ex;subst ey;rw[Sz,hb];exact q
def cO{α:Type}{m:Nat}{x i:AV}{l:List α}{rows:List (List AV)}{f:α→List AV}{n:Nat}{a:α}(e:x=.sl m rows)(hr:rows=l.map f)(ei:i=i_ n)(ha:l[n]?=some a)(q:K (.ip (f a))):au m x i K:=by
 subst e;subst ei;subst hr;rw[Gl];have hn:=(dO.1 ha).1;refine⟨rfl,⟨by omega,by rw[aac];omega⟩, ?_⟩;have:(l.map f).getD (n:Int).toNat []=f a:=by rw[NO,nO,iS,ha];rfl
 rw[this];exact q
def zzc{α:Type}{m:Nat}{i:AV}{l:List α}{rows:List (List AV)}{f:α→List AV}{n:Nat}{a:α}(hr:rows=l.map f)(ei:i=i_ n)(ha:l[n]?=some a)(q:K (.ip (f a))):au m (.sl m rows) i K:=cO rfl hr ei ha q
def qx{n:Nat}(e:x=.str l)(ei:i=i_ n)(hb:l[n]?=some b)(q:K (.v (.int .u8 b.toNat))):dW x i K:=by
 subst e;subst ei;have hn:=(dO.1 hb).1;refine⟨⟨by omega,by omega⟩, ?_⟩;have:l.getD (n:Int).toNat 0=b:=by rw[NO,nO,hb];rfl
 rw[this];exact q
end
def yv(f:AV→AV)(L:Nat)(h:aa)(r:List (List AV))(p:aX r):mY f L h r=r:=by
 have:=yu f L h (.sl 0 r) (by rw[Pure];exact p);rw[dt]at this;simpa using this
theorem py:∀l:List UInt8,zG (l.map bS)=some l
 | []=>rfl
 | b:: l=>by
   rw[IF,bS,zG,py l];simp
def IE{K:AV→Prop}{id:Nat}(e:x=.own id 0 l.length 1)(hb:h[id]?=some (.ak b))(hc:b.cells=l.map bS)(q:K (.str l)):dk x h K:=by
 subst e;have h1:iL h 1 (.own id 0 l.length 1)=some (chunks 1 l.length b.cells):=by
  rw[EN,hb];simp only[List.drop_zero,true_and];rw[if_pos (by rw[hc];simp)]
 have h2:(chunks 1 l.length b.cells).flatten=l.map bS:=by
  rw[(gU 1 l.length b.cells (by rw[hc];simp)).1,hc];rw[Of (by simp)]
 unfold dk;rw[h1];simp only[Option.bind_some,h2,py];exact q
def jV{α:Type}{l:List α}{k:Nat}{x:α}(h:l[k]?=some x):l.set k x=l:=by
 refine List.ext_getElem? fun j=>?_
 by_cases q:k=j
 ·subst q;rw[iF (dO.1 h).1,h]
 ·rw[iN q]
def NZ(n:Nat)(a:AV):Pure a→Bd n a:=by
 refine AV.rec (motive_1:=fun a=>Pure a→Bd n a) (motive_2:=fun l=>aq l→jg n l) (motive_3:=fun r=>aX r→uY n r) ?_ ?_ ?_ ?_ ?_ ?_ ?_ ?_ ?_ ?_ ?_ ?_ ?_ ?_ ?_ ?_ ?_ ?_ a;all_goals intros
 all_goals simp_all [Bd,jg,uY]
def jK(n:Nat)(l:List AV)(p:aq l):jg n l:=by
 have:=NZ n (.agg l) (by rw[Pure];exact p)
 rwa [Bd]at this
variable [Laid]
def Wk.back(hn:n≤M)(hM:M≤h.length)(e:h.take M=h')(es:s=s')(hb:∀x∈h',mr M x)(hs:∀a∈s',Bd M a):Wk n s h s' h':=by
 subst es;subst e;exact Wk.YM hn hM hb hs
end
section
open Go
theorem dJ{A:(List AV→aa→Prop)→Prop}{f:AV→aa→Prop}(e:x=b_ b1)(hE:E)(ha:b1=false→∀F:List AV→aa→Prop,F [ff,b_ b2] H→A F)(q:f (b_ (b1||b2)) H):
 aI (fun J=>aL x false (A J) (E∧J [bO false x,un] H)) fun s h=>bG (nx s 0) tt (nx s 1) fun v=>f v h:=by
 subst e;refine aK ?_;cases b1 with
 | true=>exact zzM rfl ⟨hE,bu rfl q⟩
 | false=>exact zzN rfl (ha rfl _ (zzQ q))
theorem jR{A:(List AV→aa→Prop)→Prop}{f:AV→aa→Prop}(e:x=b_ b1)(hE:E)(ha:b1=true→∀F:List AV→aa→Prop,F [tt,b_ b2] H→A F)(q:f (b_ (b1&&b2)) H):
 aI (fun J=>aL x true (A J) (E∧J [bO true x,un] H)) fun s h=>bG (nx s 0) (nx s 1) ff fun v=>f v h:=by
 subst e;refine aK ?_;cases b1 with
 | true=>exact zzN rfl (ha rfl _ (zzR q))
 | false=>exact zzM rfl ⟨hE,bt rfl q⟩
theorem CS{A:(List AV→aa→Prop)→Prop}{f:AV→aa→Prop}(e:x=b_ b1)(ha:b1=false→∀F:List AV→aa→Prop,F [ff,b_ b2] H→A F)(q:f (b_ (b1||b2)) H):
 aI (fun J=>aL x false (A J) (J [bO false x,un] H)) fun s h=>bG (nx s 0) tt (nx s 1) fun v=>f v h:=by
 subst e;refine aK ?_;cases b1 with
 | true=>exact zzM rfl (zzR q)
 | false=>exact zzN rfl (ha rfl _ (zzQ q))
theorem ph{A:(List AV→aa→Prop)→Prop}{f:AV→aa→Prop}(e:x=b_ b1)(ha:b1=true→∀F:List AV→aa→Prop,F [tt,b_ b2] H→A F)(q:f (b_ (b1&&b2)) H):
 aI (fun J=>aL x true (A J) (J [bO true x,un] H)) fun s h=>bG (nx s 0) (nx s 1) ff fun v=>f v h:=by
 subst e;refine aK ?_;cases b1 with
 | true=>exact zzN rfl (ha rfl _ (zzR q))
 | false=>exact zzM rfl (zzQ q)
theorem HQ{b p q:Bool}{A:(List AV→aa→Prop)→Prop}{B:List AV→aa→(List AV→aa→Prop)→Prop}{E2:List AV→Prop}{f:AV→aa→Prop}(e:x=b_ b)(hE:E)(h2:∀s,E2 s)(h3:E3)(ha:∀F:List AV→aa→Prop,F [ff,b_ p] H→A F)
 (hb:p=true→∀s,∀F:List AV→aa→Prop,F [tt,b_ q] H→B s H F) (k:f (b_ (b||(p&&q))) H) :
 aI (fun J=>aL x false (A J) (E∧J [bO false x,un] H)) fun s g=>aI (fun J=>aL (nx s 1) true (B s g J) (E2 s∧J [bO true (nx s 1),un] g)) fun s2 g2=>aI (fun J=>aL (nx s 0) false (bG (nx s2 0) (nx s2 1) ff fun v=>E3∧J [ff,v] g2) (E3∧J [bO false (nx s 0),un] g2)) fun s4 g4=>bG (nx s4 0) tt (nx s4 1) fun v=>f v g4:=by
 subst e;refine aK ?_;cases b with
 | true=>exact zzM rfl ⟨hE,aK (cX rfl ⟨h2 _,aK (zzM rfl ⟨h3,bu rfl k⟩)⟩)⟩
 | false =>
   refine zzN rfl (ha _ (aK ?_));cases p with
   | true=>exact zzN rfl (hb rfl _ _ (aK (zzN rfl (zzR ⟨h3,bt rfl k⟩))))
   | false=>exact zzM rfl ⟨h2 _,aK (zzN rfl (zzQ ⟨h3,bt rfl k⟩))⟩
theorem CT{A:(List AV→aa→Prop)→Prop}{us:List AV}{f:AV→Prop}(e:x=b_ b1)(ha:b1=false→∀F:List AV→aa→Prop,(∀s,nx s n=b_ b2→F s H)→A F)(q:f (b_ (b1||b2))):
 aI (fun J=>aL x false (A J) (J us H)) fun s _=>bG x tt (nx s n) fun v=>f v:=by
 subst e;refine aK ?_;cases b1 with
 | true=>exact zzM rfl (zzR q)
 | false=>exact zzN rfl (ha rfl _ fun s hs=>bt rfl (by rw[hs];exact q))
theorem Nv{b p q:Bool}{A:(List AV→aa→Prop)→Prop}{B:List AV→(List AV→aa→Prop)→Prop}{us us2:List AV}{n m:Nat}{f:AV→Prop}(e:x=b_ b)(hu:nx us n=un)(ha:b=false→∀F:List AV→aa→Prop,(∀s,nx s n=b_ p→F s H)→A F)
 (hb:p=true→b=false→∀s,∀F:List AV→aa→Prop,(∀s,nx s m=b_ q→F s H)→B s F) (k:f (b_ (b||(p&&q)))) :
 aI (fun J=>aL x false (A J) (J us H)) fun s _=>aI (fun J=>aL (nx s n) true (B s J) (J us2 H)) fun s2 _=>aI (fun J=>aL x false (bG (nx s n) (nx s2 m) ff fun v=>J [v] H) (J [un] H)) fun s3 _=>bG x tt (nx s3 0) fun v=>f v:=by
 subst e;refine aK ?_;cases b with
 | true=>exact zzM rfl (aK (cX hu (aK (zzM rfl (zzR k)))))
 | false =>
   refine zzN rfl (ha rfl _ fun s hs=>aK ?_);cases p with
   | true=>exact cd hs rfl (hb rfl rfl _ _ fun s2 h2=>aK (zzN rfl (bu hs (zzQ (by show f (nx s2 m);rw[h2];exact k)))))
   | false=>exact bV hs rfl (aK (zzN rfl (bt hs (zzQ k))))
def Gp{K:AV→Prop}(e:x=.str l)(q:K (i_ l.length)):iT x K:=by subst e;exact q
def Uw{K:AV→aa→Prop}(q:K (.own h.length 0 1 1) (h++[.ak ⟨t,[i_ c],true⟩])):dF t 1 1 (i_ 0) [(0,1,i_ c)] h K:=by
 unfold dF;simp[dD,eZ,bl,bU,bw];exact q
def SH{K:AV→Prop}(ex:x=.str a)(ey:y=.str b)(q:K (b_ (!Op.bytesLess a b))):ag .geq x y K:=by subst ex;subst ey;simpa using q
end
end Go.Aw
namespace Go.Qt
section
open Go Go.Aw
abbrev ao:=List UInt8
structure Nd where
 tag:ao
 dZ:List (ao×ao)
 par:Int
 ch:List Int
abbrev bg:=List Nd
def eO(a:ao×ao):List AV:=[.str a.1,.str a.2]
def bx(n:Nd):List AV:=[.str n.tag,.sl 2 (n.dZ.map eO),i_ n.par,.sl 1 (n.ch.map fun c=>[i_ c])]
def cV(t:bg):AV:=.agg [.sl 4 (t.map bx)]
def cx(c:UInt8):Bool:=((((decide ((97:Int)≤c.toNat)&&decide ((c.toNat:Int)≤122))||(decide ((48:Int)≤c.toNat)&&decide ((c.toNat:Int)≤57)))||decide ((c.toNat:Int)=45))||decide ((c.toNat:Int)=95))||decide ((128:Int)≤c.toNat)
def Jn(s:ao):Bool:=decide ((97:Int)≤(s.getD 0 0).toNat)&&decide (((s.getD 0 0).toNat:Int)≤122)
def fK(s:ao):Bool:=decide (1≤s.length)&&decide (s.length≤64)&&Jn s&&s.all cx
def vY(l:List (ao×ao))(i:Nat):Bool:=fK (l.getD i ([],[])).1&&decide ((l.getD i ([],[])).2.length≤400)&&(decide (i=0)||Op.bytesLess (l.getD (i-1) ([],[])).1 (l.getD i ([],[])).1)
def gH(l:List (ao×ao)):Bool:=(List.range l.length).all (vY l)&&decide (l.length≤16)
abbrev nd0:Nd:=⟨[],[],0,[]⟩
def nd(t:bg)(c:Int):Nd:=t.getD c.toNat nd0
def iE(t:bg)(c:Int):Bool:=decide (0≤c)&&decide (c<t.length)
def zn(t:bg)(i:Nat)(l:List Int)(j:Nat):Bool:=iE t (l.getD j 0)&&!(l.take j).contains (l.getD j 0)&&decide ((nd t (l.getD j 0)).par=i)
def xc(t:bg)(i:Nat)(p:Int):Bool:=decide (-1≤p)&&decide (p<t.length)&&(!decide ((i:Int)=0)||decide (p=-1))
def vS(t:bg)(i:Nat):Bool:=xc t i (nd t i).par&&(!decide (0≤(nd t i).par)||(nd t (nd t i).par).ch.contains i)&&(List.range (nd t i).ch.length).all (zn t i (nd t i).ch)
def fy(t:bg):Nat→Int→Bool
 | 0,k=>decide (k<0)
 | n+1,k=>if k<0 then true else fy t n (nd t k).par
def rf(t:bg)(i:Nat):Bool:=fK (nd t i).tag&&gH (nd t i).dZ&&vS t i
def cU(t:bg):Bool:=decide (1≤t.length)&&decide (t.length≤64)&&(List.range t.length).all (rf t)&&(List.range t.length).all fun i=>fy t t.length i
def lR(t:bg):Int:=if cU t then 0 else 8
def fB(t:bg)(l:List Int):Int:=if cU t then (if l.all (iE t) then 0 else 2) else 8
def nk(t:bg):Nat→Int→Nat
 | 0,_=>0
 | n+1,k=>if k<0 then 0 else 1+nk t n (nd t k).par
def ie(t:bg)(i:Int):Int×Int:=if fB t [i]=0 then ((nk t (t.length-1) (nd t i).par:Nat),0) else (0,fB t [i])
def qy(t:bg):Nat→Int→List Int
 | 0,_=>[]
 | n+1,k=>if k<0 then [] else k:: qy t n (nd t k).par
def vq(t:bg)(i:Int):List Int:=if fB t [i]=0 then qy t (t.length-1) (nd t i).par else []
def gq(t:bg):Nat→Int→List Int
 | 0,_=>[]
 | n+1,k=>k:: (nd t k).ch.flatMap (gq t n)
def DJ(t:bg):Nat→Int→Bool
 | 0,_=>false
 | n+1,k=>iE t k&&(nd t k).ch.all (DJ t n)
def jT(t:bg)(i:Int):List Int:=if fB t [i]=0 then gq t t.length i else []
def eH(t:bg):Prop:=∀i:Int,(nd t i).ch.length≤2^40
theorem eJ{α:Type}{f:α→List AV}(h:∀a,aq (f a)):∀l:List α,aX (l.map f)
 | []=>by simp[aX]
 | a:: l=>by rw[IF,aX];exact⟨h a,eJ h l⟩
def xf(a:ao×ao):aq (eO a):=by simp[eO,aq,Aw.Pure]
def zv(n:Nd):aq (bx n):=by
 unfold bx;simp only[aq,Aw.Pure,true_and,and_true];exact⟨eJ xf _,eJ (fun c=>by simp[aq,Aw.Pure]) _⟩
def dh(t:bg):Aw.Pure (cV t):=by
 unfold cV;simp only[Aw.Pure,aq,and_true];exact eJ zv _
end
end Go.Qt
namespace Go.Proofs.YtkfakehconamoaaGreatDoor
section
open Go Go.Aw
variable [Laid]
def Q5(a:AV)(h:aa)(K:AV→aa→Prop):Prop:=
 ag .geq a (u8 97) fun n=>qJa n [a] h (fun o=>ag .leq a (u8 122) fun p=>o p h) fun c d=>aI (fun e=>aL c false (ag .geq a (u8 48) fun q=>eC [a] (e [ff,q] d)) (eC [a] (e [bO false c,un] d))) fun b f=>aI (fun g=>aL (nx b 1) true (ag .leq a (u8 57) fun r=>eC [a,nx b 0] (g [tt,r] f)) (eC [a,nx b 0] (g [(bO true (nx b 1)),un] f))) fun i j=>qJo (nx b 0) [a] j (fun s=>bG (nx i 0) (nx i 1) ff fun t=>s t j) fun u k=>qJo u [a] k (fun v=>ag .eql a (u8 45) fun w=>v w k) fun x l=>qJo x [a] l (fun y=>ag .eql a (u8 95) fun z=>y z l) fun A m=>qKo A m (fun B=>ag .geq a (u8 128) fun C=>B C m) fun D E=>K D E
def XG(a:AV):Body p_ 157 [a] (Q5 a):=mkB Tryz.func157 (sn (.seq (.aO (oR 0 3 (.aA 2 true (fR 3 2) [0] [5,7]::oR 5 2 (.aA 6 false (fR 7 3) [0] [9,12]::.aA 9 true (fR 10 2) [0,9] [12,14]::.aA 6 false [(12,false)] [0] [9,15]::oR 13 2 (.aA 14 false (fR 15 2) [0] [17,19]::oR 17 2 (.aA 18 false (fR 19 2) [0] [21,23]::oR 21 2 (.aA 22 false (fR 23 2) [] [25,27]::oR 25 2 []))))))) .nil)) 29 [.tmp 2]
def Qw(a:AV)(h:aa)(K:AV→aa→Prop):Prop:=
 cn a fun j=>qBe .lss j 1 fun k=>qJo k [a] h (fun l=>cn a fun m=>qBe .gtr m 64 fun n=>l n h) fun o c=>qJo o [a] c (fun p=>dW a (i_ 0) fun q=>ag .lss q (u8 97) fun r=>p r c) fun s d=>qJo s [a] d (fun t=>dW a (i_ 0) fun u=>ag .gtr u (u8 122) fun v=>t v d) fun w e=>af w (K ff e) (cn a fun f=>bc [i_ 0] e fun x b g =>
 ag .lss (nx b 0) f fun y=>af y (dW a (nx b 0) fun z=>iC p_ 157 [z] g fun A i=>bT A fun B=>af B (K ff i) (qBe .add (nx b 0) 1 fun C=>eC [a,f] (x [C] i))) (K tt g))
def W4(a:AV):Body p_ 106 [a] (Qw a):=mkB Tryz.func106 (sn (.seq (.seq (.aO (oR 0 4 (.aA 3 false (fR 4 3) [0] [7,10]::oR 7 2 (.aA 8 false (fR 9 3) [0] [12,15]::oR 12 2 (.aA 13 false (fR 14 3) [0] [17,20]::.op 17 false::[]))))) .nil) (.seq (sn (.one (.loop [0,23] [24] .nil))) .nil))) 33 [.tmp 2]
def Qx(b:AV)(h:aa)(K:AV→aa→Prop):Prop:=
 aU b fun g=>bc [i_ 0] h fun y c e =>
 ag .lss (nx c 0) g fun z=>af z (au 2 b (nx c 0) fun A=>ae true 2 A e fun B=>aB 69 (.agg [.str [],.str []]) e fun d C=>ah 2 d B C fun a=>iFL 0 false 1 d a fun D=>iQ p_ 106 [D] a fun E=>bT E fun i=>aI (fun j=>aL i false (aN 1 d fun k=>ae false 1 k a fun l=>iT l fun m=>qBe .gtr m 400 fun F=>j [k,l,m,F] a) (j [un,un,un,un] a)) fun G _=>bG i tt (nx G 3) fun f=>aI (fun n=>aL f false (qBe .gtr (nx c 0) 0 fun o=>n [nx c 0,o,o] a) (n [un,un,un] a)) fun p _=>aI (fun q=>aL (nx p 2) true (qBe .sub (nx c 0) 1 fun r=>au 2 b r fun s=>aN 0 s fun t=>ae false 1 t a fun u=>aN 0 d fun v=>ae false 1 v a fun w=>ag .geq u w fun H=>q [b,nx c 0,r,s,t,u,v,w,H] a) (q [un,un,un,un,un,un,un,un,un] a)) fun I _=>aI (fun x=>aL f false (bG (nx p 2) (nx I 8) ff fun J=>x [J] a) (x [un] a)) fun L _=>bG f tt (nx L 0) fun M=>af M (K ff a) (qBe .add (nx c 0) 1 fun N=>eC [b,b,g] (y [N] a))) (aU b fun O=>qBe .leq O 16 fun P=>K P e)
def W5(a:AV):Body p_ 107 [a] (Qx a):=mkB Tryz.func107 (sn (.seq (sn (.one (.loop [0,5,6] [7] (sn (sn (.seq (.one (sn (.seq (.draw 25 (oR 0 5 (.aA 4 false (fR 5 4) [] [17,18,19,20]::oR 9 2 (.aA 10 false (fR 11 3) [] [23,24,25]::.aA 13 true (fR 14 9) [] [26,27,28,29,30,31,32,33,34]::.aA 10 false [(23,false)] [] [35]::.op 24 false::[]))) [] []) .nil))) .nil)))))) .nil)) 41 [.tmp 2]
def Qy(B b:AV)(h:aa)(K:AV→aa→Prop):Prop:=
 aB 24 B h fun a o=>iFL 0 false 1 a o fun C=>au 4 C b fun D=>ae true 4 D o fun E=>aB 38 (.agg [.str [],qNs,i_ 0,qNs]) o fun c F=>ah 4 c E F fun j=>iFL 2 false 1 c j fun G=>qBe .lss G (-1) fun H=>qJo H [b,a,c] j (fun I=>iFL 2 false 1 c j fun J=>iFL 0 false 1 a j fun L=>aU L fun M=>ag .geq J M fun N=>I N j) fun s t=>aI (fun u=>aL s false (qBe .eql b 0 fun O=>eC [b,a,c] (u [ff,O] t)) (eC [b,a,c] (u [bO false s,un] t))) fun k p=>aI (fun v=>aL (nx k 1) true (iFL 2 false 1 c p fun P=>qBe .neq P (-1) fun Q=>eC [b,a,c,nx k 0] (v [tt,Q] p)) (eC [b,a,c,nx k 0] (v [(bO true (nx k 1)),un] p))) fun w x=>qJo (nx k 0) [b,a,c] x (fun R=>bG (nx w 0) (nx w 1) ff fun S=>R S x) fun T e=>af T (K ff e) (iFL 2 false 1 c e fun U=>qBe .geq U 0 fun V=>qJa V [b,a,c] e (fun W=>iFL 0 false 1 a e fun X=>iFL 2 false 1 c e fun Y=>au 4 X Y fun Z=>iFL 3 false 1 Z e fun a0=>iC p_ 158 [a0,b] e fun a1 a2=>bT a1 fun a3=>W a3 a2) fun a4 q=>af a4 (K ff q) (iFL 0 false 1 a q fun a5=>aU a5 fun y=>jO 4 1 1 ff y y q fun f z=>iFL 3 false 1 c z fun g=>aU g fun l=>bc [i_ 0] z fun a6 i m =>
 ag .lss (nx i 0) l fun a7=>af a7 (au 1 g (nx i 0) fun a8=>ae false 1 a8 m fun d=>qBe .lss d 0 fun a9=>qJo a9 [b,a,f,d,g,l,nx i 0] m (fun b0=>iFL 0 false 1 a m fun b1=>aU b1 fun b2=>ag .geq d b2 fun b3=>b0 b3 m) fun b4 r=>qJo b4 [b,a,f,d,g,l,nx i 0] r (fun b5=>au 1 f d fun b6=>ae false 1 b6 r fun b7=>b5 b7 r) fun b8 n=>qJo b8 [b,a,f,d,g,l,nx i 0] n (fun b9=>iFL 0 false 1 a n fun c0=>au 4 c0 d fun c1=>iFL 2 false 1 c1 n fun c2=>ag .neq c2 b fun c3=>b9 c3 n) fun c4 A=>af c4 (K ff A) (au 1 f d fun c5=>ah 1 c5 tt A fun c6=>qBe .add (nx i 0) 1 fun c7=>eC [b,a,f,g,l] (a6 [c7] c6))) (K tt m)))
def W6(a b:AV):Body p_ 108 [a,b] (Qy a b):=mkB Tryz.func108 (sn (sn (.seq (.seq (.aO (oR 0 4 (.aA 3 false (fR 4 6) [1,2,5] [17,23]::oR 10 2 (.aA 11 false (fR 12 3) [1,2,5] [25,28]::.aA 14 true (fR 15 3) [1,2,5,25] [28,31]::.aA 11 false [(18,false)] [1,2,5] [25,32]::.op 19 false::[])))) .nil) (.seq (.seq (.aO (oR 0 4 (.aA 3 true (fR 4 10) [1,2,5] [37,47]::.op 14 false::[]))) .nil) (sn (.seq (sn (.one (.loop [1,2,6,54,55] [56] (sn (sn (.seq (.one (sn (.seq (.seq (.aO (oR 0 3 (.aA 2 false (fR 3 5) [1,2,6,8,54,55,56] [62,67]::oR 8 2 (.aA 9 false (fR 10 4) [1,2,6,8,54,55,56] [69,73]::oR 14 2 (.aA 15 false (fR 16 8) [1,2,6,8,54,55,56] [75,83]::.op 24 false::[]))))) .nil) .nil))) .nil)))))) .nil)))))) 89 [.tmp 4]
def Wd(t:AV)(h:aa)(K:AV→aa→Prop):Prop:=
 aB 24 t h fun a e=>iFL 0 false 1 a e fun u=>aU u fun v=>qBe .lss v 1 fun w=>qJo w [a] e (fun x=>iFL 0 false 1 a e fun y=>aU y fun z=>qBe .gtr z 64 fun A=>x A e) fun B j=>af B (K (i_ 8) j) (iFL 0 false 1 a j fun d=>aU d fun f=>bc [i_ 0] j fun C b g =>
 ag .lss (nx b 0) f fun D=>af D (au 4 d (nx b 0) fun E=>ae true 4 E g fun F=>aB 38 (.agg [.str [],qNs,i_ 0,qNs]) g fun k G=>ah 4 k F G fun p=>iFL 0 false 1 k p fun H=>iC p_ 106 [H] p fun I l=>bT I fun J=>qJo J [a,nx b 0,d,f,nx b 0] l (fun L=>iFL 1 false 1 k l fun M=>iC p_ 107 [M] l fun N O=>bT N fun P=>L P O) fun Q m=>qJo Q [a,d,f,nx b 0] m (fun R=>ae true 1 a m fun S=>iC p_ 108 [S,nx b 0] m fun T U=>bT T fun V=>R V U) fun W q=>af W (K (i_ 8) q) (qBe .add (nx b 0) 1 fun X=>eC [a,d,f] (C [X] q))) (iFL 0 false 1 a g fun Y=>aU Y fun n=>bc [i_ 0] g fun Z i r =>
 ag .lss (nx i 0) n fun a0=>af a0 (bc [i_ 0,nx i 0] r fun a1 o c =>
 qBe .geq (nx o 1) 0 fun a2=>af a2 (qBe .add (nx o 0) 1 fun s=>iFL 0 false 1 a c fun a3=>aU a3 fun a4=>ag .gtr s a4 fun a5=>af a5 (K (i_ 8) c) (iFL 0 false 1 a c fun a6=>au 4 a6 (nx o 1) fun a7=>iFL 2 false 1 a7 c fun a8=>eC [a,n,nx i 0] (a1 [s,a8] c))) (qBe .add (nx i 0) 1 fun a9=>eC [a,n] (Z [a9] c))) (K (i_ 0) r)))
def V67(a:AV):Body p_ 67 [a] (Wd a):=mkB Tryz.func67 (sn (.seq (.seq (.aO (oR 0 5 (.aA 4 false (fR 5 4) [1] [12,16]::.op 9 false::[]))) .nil) (.seq (sn (.one (.loop [1,19,20] [21] (sn (sn (.seq (.one (sn (.seq (.aO (oR 0 5 (.aA 4 false (fR 5 4) [1,3,19,20,21] [30,34]::oR 9 2 (.aA 10 false (fR 11 4) [1,19,20,21] [36,40]::.op 15 false::[])))) .nil))) .nil)))))) (.seq (sn (.one (.loop [1,45] [46] (sn (sn (.seq (.one (sn (sn (sn (.one (.loop [1,45,46] [6,7] .nil)))))) .nil)))))) .nil)))) 66 [.tmp 2]
def VT(l c:AV)(h:aa)(K:AV→aa→Prop):Prop:=
 aB 24 l h fun b f=>ae true 1 b f fun m=>iC p_ 67 [m] f fun g i=>qBe .neq g 0 fun n=>af n (K g i) (aU c fun e=>bc [i_ 0] i fun o d a =>
 ag .lss (nx d 0) e fun p=>af p (au 1 c (nx d 0) fun q=>ae false 1 q a fun j=>qBe .lss j 0 fun r=>qJo r [b,c,e,nx d 0] a (fun s=>iFL 0 false 1 b a fun t=>aU t fun u=>ag .geq j u fun v=>s v a) fun w k=>af w (K (i_ 2) k) (qBe .add (nx d 0) 1 fun x=>eC [b,c,e] (o [x] k))) (K (i_ 0) a))
def V50(a b:AV):Body p_ 50 [a,b] (VT a b):=mkB Tryz.func50 (sn (sn (.seq (sn (.one (.loop [2,13,14] [15] (sn (sn (.seq (.one (sn (.seq (.aO (oR 0 3 (.aA 2 false (fR 3 5) [2,13,14,15] [21,26]::.op 8 false::[]))) .nil))) .nil)))))) .nil))) 29 [.tmp 4]
def VB(i f:AV)(h:aa)(K:AV→aa→Prop):Prop:=
 aB 24 i h fun a e=>ae true 1 a e fun j=>dF 3 1 1 (i_ 0) [(0,1,f)] e fun k l=>iC p_ 50 [j,k] l fun g b=>qBe .neq g 0 fun m=>af m (K (.aw [i_ 0,g]) b) (iFL 0 false 1 a b fun n=>au 4 n f fun o=>iFL 2 false 1 o b fun p=>bc [i_ 0,p] b fun q c d =>
 qBe .geq (nx c 1) 0 fun r=>af r (qBe .add (nx c 0) 1 fun s=>iFL 0 false 1 a d fun t=>au 4 t (nx c 1) fun u=>iFL 2 false 1 u d fun v=>eC [a] (q [s,v] d)) (K (.aw [nx c 0,i_ 0]) d))
def ZX(a b:AV):Body p_ 32 [a,b] (VB a b):=mkB Tryz.func32 (sn (sn (sn (.seq (sn (.one (.loop [2] [7,8] .nil))) .nil)))) 33 [.tmp 4,.tmp 5]
def QS(a:AV)(h:aa)(K:AV→aa→Prop):Prop:=
 qBe .or a 32 fun f=>iC p_ 202 [f,i_ 97,i_ 122] h fun g b=>qJa g [a] b (fun i=>qBe .lss a 128 fun j=>i j b) fun k c=>qJa k [a] c (fun l=>qBe .gtr a 64 fun m=>l m c) fun n d=>qJo n [a] d (fun o=>qBe .eql a 95 fun p=>o p d) fun q e=>qKo q e (fun r=>qBe .geq a 128 fun s=>r s e) fun t u=>K t u
def Xu(a:AV):Body p_ 144 [a] (QS a):=mkB Tryz.func144 (sn (.seq (.aO (oR 0 4 (.aA 3 true (fR 4 2) [0] [6,8]::oR 6 2 (.aA 7 true (fR 8 2) [0] [10,12]::oR 10 2 (.aA 11 false (fR 12 2) [0] [14,16]::oR 14 2 (.aA 15 false (fR 16 2) [] [18,20]::oR 18 2 [])))))) .nil)) 22 [.tmp 2]
def Rs(a b e:AV)(h:aa)(K:AV→aa→Prop):Prop:=
 ag .leq b a fun c=>qKa c h (fun d=>ag .leq a e fun f=>d f h) fun g i=>K g i
def X1(a b c:AV):Body p_ 202 [a,b,c] (Rs a b c):=mkB Tryz.func202 (sn (.seq (.aO (oR 0 4 (.aA 3 true (fR 4 3) [] [10,13]::oR 7 2 []))) .nil)) 15 [.tmp 6]
def Wy(a:AV)(h:aa)(K:AV→aa→Prop):Prop:=
 iC p_ 144 [a] h fun d b=>qJo d [a] b (fun e=>iC p_ 145 [a] b e) fun f c=>qKo f c (fun g=>qBe .eql a 45 fun i=>g i c) fun j k=>K j k
def V90(a:AV):Body p_ 90 [a] (Wy a):=mkB Tryz.func90 (sn (.seq (.aO (oR 0 3 (.aA 2 false (fR 3 2) [0] [5,7]::oR 5 2 (.aA 6 false (fR 7 2) [] [9,11]::oR 9 2 [])))) .nil)) 13 [.tmp 2]
def Wv(a:AV)(h:aa)(K:AV→aa→Prop):Prop:=
 qBe .eql a 32 fun c=>qJo c [a] h (fun d=>qBe .eql a 9 fun e=>d e h) fun f b=>qKo f b (fun g=>qBe .eql a 10 fun i=>g i b) fun j k=>K j k
def V87(a:AV):Body p_ 87 [a] (Wv a):=mkB Tryz.func87 (sn (.seq (.aO (oR 0 3 (.aA 2 false (fR 3 2) [0] [5,7]::oR 5 2 (.aA 6 false (fR 7 2) [] [9,11]::oR 9 2 [])))) .nil)) 13 [.tmp 2]
def QQ(b a:AV)(h:aa)(K:AV→aa→Prop):Prop:=
 cn b fun c=>cn a fun d=>ag .geq c d fun e=>qKa e h (fun f=>cn a fun g=>eS b none (some g) fun i=>ag .eql i a fun j=>f j h) fun k l=>K k l
def Xs(a b:AV):Body p_ 141 [a,b] (QQ a b):=mkB Tryz.func141 (sn (.seq (.aO (oR 0 6 (.aA 5 true (fR 6 6) [] [10,16]::oR 12 2 []))) .nil)) 18 [.tmp 4]
def Wt(a b:AV)(h:aa)(K:AV→aa→Prop):Prop:=
 iC p_ 141 [a,b] h fun c d=>K c d
def V84(a b:AV):Body p_ 84 [a,b] (Wt a b):=mkB Tryz.func84 .nil 8 [.tmp 4]
def QT(a:AV)(h:aa)(K:AV→aa→Prop):Prop:=
 iC p_ 202 [a,i_ 48,i_ 57] h fun b c=>K b c
def Xv(a:AV):Body p_ 145 [a] (QT a):=mkB Tryz.func145 .nil 5 [.tmp 2]
def QW(a d:AV)(h:aa)(K:AV→aa→Prop):Prop:=
 iC p_ 101 [a] h fun b c=>iC p_ 101 [d] c fun e f=>ag .eql b e fun g=>K g f
def Xy(a b:AV):Body p_ 148 [a,b] (QW a b):=mkB Tryz.func148 .nil 10 [.tmp 4]
end
section
set_option maxHeartbeats 4000000
open Go
def disable(w:World):(callFunc 295 #[]).run p_ w=.ok (.value (.tuple #[])) w:=run_call_mark0 Tryz.func295 (by kernel_rfl) (by kernel_rfl) (by kernel_rfl) .disable (by kernel_rfl) w
def enable(w:World):(callFunc 297 #[]).run p_ w=.ok (.value (.tuple #[])) w:=run_call_mark0 Tryz.func297 (by kernel_rfl) (by kernel_rfl) (by kernel_rfl) .enable (by kernel_rfl) w
def acquire(a:Addr)(w:World):(callFunc 298 #[.pointer (some a)]).run p_ w=.ok (.value (.tuple #[])) w:=run_call_marked Tryz.func298 (by kernel_rfl) (by kernel_rfl) (by kernel_rfl) .acquire (by kernel_rfl) a w
def releaseMerge(a:Addr)(w:World):(callFunc 300 #[.pointer (some a)]).run p_ w=.ok (.value (.tuple #[])) w:=run_call_marked Tryz.func300 (by kernel_rfl) (by kernel_rfl) (by kernel_rfl) .releaseMerge (by kernel_rfl) a w
def Bl(a:Addr)(x:Value)(u:FrameMode)(w:World)(hc:w.cell? a=some x)(hz:w.frozen? a=false):
 CallsD p_ 252 #[.pointer (some a),.bool true] u w fun e u' w' => u'=u∧(e=.returned (.tuple #[])∧w'=w.drew.setCell a (.int .u32 1)):=by
 have hc':w.drew.cell? a=some x:=by go_simp
 have hz':w.drew.frozen? a=false:=by go_simp
 have hst:=run_call_store (P:=p_) Tryz.func281 (by kernel_rfl) (by kernel_rfl) (by kernel_rfl) (by kernel_rfl) (k:=.u32) (y:=1) hc' hz'
 go_enter_d Tryz.func252,Tryz.ntmps252
 go_wp2
 go_region_calls
 all_goals (go_end0;exact⟨rfl,rfl⟩)
def zH(a:Addr)(u:FrameMode)(w:World)(hc:w.cell? a=some (.int .i32 1))(hz:w.frozen? a=false):
 CallsD p_ 251 #[.pointer (some a)] u w fun e u' w' => u'=u∧(e=.returned (.tuple #[])∧w'=w.setCell a (.int .i32 0)):=by
 have hd:=disable;have he:=enable;have hr:=releaseMerge;have hadd:=run_call_add (P:=p_) Tryz.func301 (by kernel_rfl) (by kernel_rfl) (by kernel_rfl) .i32 (by kernel_rfl) (y:=-1) (s:=0) hc hz (by simp[go_sem];rfl);have hcv:=run_convert_to_unsafe (P:=p_) (src:=342) (dst:=346) Tryz.underlying342 Tryz.underlying346 (by kernel_rfl) hc
 go_enter_d Tryz.func251,Tryz.ntmps251
 go_wp2
 go_end0
 go_wp2
 go_end0
 exact⟨rfl,rfl⟩
def JE(a:Addr)(w:World)(hc:w.cell? a=some (.int .i32 0))(hz:w.frozen? a=false):
 Calls p_ 250 #[.pointer (some a)] w fun e w' => e=.returned (.tuple #[])∧w'=w.setCell a (.int .i32 1):=by
 have hd:=disable;have he:=enable;have ha:=acquire;have hcas:=run_call_cas_hit (P:=p_) Tryz.func296 (by kernel_rfl) (by kernel_rfl) (by kernel_rfl) .i32 (by kernel_rfl) (y:=1) hc hz;have hc':(w.setCell a (.int .i32 1)).cell? a=some (.int .i32 1):=World.cell?_setCell_same w a _ hc;have hcv:=run_convert_to_unsafe (P:=p_) (src:=342) (dst:=346) Tryz.underlying342 Tryz.underlying346 (by kernel_rfl) hc'
 go_enter Tryz.func250,Tryz.ntmps250
 go_wp2
 first|go_end0|(simp only[Exit.inBlock,Exit.then];refine bodyPost_ret (results_none rfl _ _ _) rfl ?_)|refine bodyPost_ret (results_none rfl _ _ _) rfl ?_
 go_wp2
 go_end0
 exact⟨rfl,rfl⟩
end
section
open Go
set_option maxHeartbeats 4000000
def B4(a:Addr)(w:World)(hc:w.cell? a=some (.int .u32 0)):Calls p_ 194 #[.pointer (some a)] w fun e w' => e=.returned (.bool false)∧w'=w:=by
 have hl:=run_call_load (P:=p_) Tryz.func249 (by kernel_rfl) (by kernel_rfl) (by kernel_rfl) .u32 (by kernel_rfl) (w:=w) (a:=a) (x:=0) hc
 go_enter Tryz.func194,Tryz.ntmps194
 go_wp2
 go_ret
 exact⟨rfl,rfl⟩
def MS(b:Nat)(w:World)(Q:World→Prop)(h0:w.cell? ⟨b,0,none⟩=some (.int .u32 0))(h1:w.cell? ⟨b,0+1,none⟩=some (.int .i32 0))
 (f0:w.frozen? ⟨b,0,none⟩=false) (f1:w.frozen? ⟨b,0+1,none⟩=false)
 (hf:Calls p_ 140 #[.pointer (some ⟨b,0,none⟩)] (w.setCell ⟨b,0+1,none⟩ (.int .i32 1)) fun e w' => e=.returned (.tuple #[])∧(∃x,w'.cell? ⟨b,0,none⟩=some x)∧w'.cell? ⟨b,0+1,none⟩=some (.int .i32 1) ∧
  w'.frozen? ⟨b,0,none⟩=false∧w'.frozen? ⟨b,0+1,none⟩=false∧Q w') :
 Calls p_ 195 #[.pointer (some ⟨b,0,none⟩),.func (.func 140) #[.pointer (some ⟨b,0,none⟩)] #[]] w fun e w'' => e=.returned (.tuple #[]) ∧
  ∃w',Q w'∧w''=(w'.drew.setCell ⟨b,0,none⟩ (.int .u32 1)).setCell ⟨b,0+1,none⟩ (.int .i32 0):=by
 have hl:=run_call_load (P:=p_) Tryz.func249 (by kernel_rfl) (by kernel_rfl) (by kernel_rfl) .u32 (by kernel_rfl) (w:=w.setCell ⟨b,0+1,none⟩ (.int .i32 1)) (a:=⟨b,0,none⟩) (x:=0) ((World.cell?_setCell_other _ ⟨b,0+1,none⟩ ⟨b,0,none⟩ _ (by simp)).trans h0);have hnot:∀(x:Bool) (w:World),(Op.unary .not (.bool x)).run p_ w=.ok (.bool (!x)) w:=fun _ _=>rfl
 go_enter_defers Tryz.func195,Tryz.ntmps195
 go_wp2_with (go_at_call 250;refine (JE ⟨b,0+1,none⟩ _ (by go_simp) (by go_simp)).mono ?_;rintro e w' ⟨rfl,rfl⟩)
 go_wp2_with (go_at_call 194;refine (B4 ⟨b,0,none⟩ _ ((World.cell?_setCell_other _ ⟨b,0+1,none⟩ ⟨b,0,none⟩ _ (by simp)).trans h0)).mono ?_;rintro e w' ⟨rfl,rfl⟩)
 go_wp2_with (go_at_call 140;refine hf.mono ?_;rintro e w' ⟨rfl,⟨x,g0⟩,g1,z0,z1,hQ⟩)
 refine leaves_cons (f:=252) (args:=#[.pointer (some ⟨b,0,none⟩),.bool true]) (by simp) (by simp[go_sem]) ((Bl ⟨b,0,none⟩ x .returning _ g0 z0).mono ?_);rintro e u' w'' ⟨rfl,rfl,rfl⟩;refine leaves_cons (f:=251) (args:=#[.pointer (some ⟨b,0+1,none⟩)]) (by simp[settle]) (by simp[go_sem]) ?_;refine (zH ⟨b,0+1,none⟩ _ _ ?_ (by simp[z1])).mono ?_
 ·refine (World.cell?_setCell_other _ ⟨b,0,none⟩ ⟨b,0+1,none⟩ _ (by simp)).trans ?_;rw[World.cell?_drew];exact g1
 rintro e u' w'' ⟨rfl,rfl,rfl⟩;simp[Leaves,settle,results,Tryz.results195];exact⟨w',hQ,rfl⟩
end
end Go.Proofs.YtkfakehconamoaaGreatDoor
end
