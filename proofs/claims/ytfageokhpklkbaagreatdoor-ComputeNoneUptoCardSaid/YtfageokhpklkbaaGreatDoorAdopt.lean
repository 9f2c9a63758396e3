/-
 A statement whose order is open,with new variables among the first operations: whatever order is taken,behind them they stand in one order.
 No conditions: definitions and lemmas over any program.
-/
import Derived.Test.YtfageokhpklkbaaGreatDoorOpen
set_option linter.unusedVariables false
set_option linter.unusedSimpArgs false
namespace Go.Aw
open Go Go.RowKit
variable [Laid]

theorem HOK.move {base : Nat} {ι : List Ix} {S : aJ} {w : World} {h : aa} (hh : HOK base ι S w h) {id b : Nat} {x : Blk} (e : h[id]? = some (.blk x)) (hb : ι[id]? = some (.blk b)) : HOK base (ι ++ [.blk b]) S w (h.set id .dead ++ [.blk x]):=by
 have hlt : id < h.length:=(List.getElem?_eq_some_iff.1 e).1
 have hl:=hh.len
 have hE : Evo ι.length base ι S w (ι ++ [.blk b]) S w:=Evo.grow [.blk b]
 have old : ∀ {j : Nat} {en : Ent},en ≠ .dead → j < h.length → (h.set id .dead ++ [Ent.blk x])[j]? = some en → j ≠ id ∧ h[j]? = some en ∧ (ι ++ [Ix.blk b])[j]? = ι[j]?:=by
  intro j en hne hj q
  rw [List.getElem?_append_left (by simpa using hj)] at q
  by_cases hji : j = id
  ·subst hji
   rw [List.getElem?_set_self hlt] at q
   exact absurd (Option.some.inj q).symm hne
  ·rw [List.getElem?_set_ne (Ne.symm hji)] at q
   exact ⟨hji,q,List.getElem?_append_left (by omega)⟩
 have new : ∀ {en : Ent},(h.set id .dead ++ [Ent.blk x])[h.length]? = some en → en = .blk x:=by
  intro en q
  rw [List.getElem?_append_right (by simp)] at q
  simp at q;exact q.symm
 have beyond : ∀ {j : Nat} {en : Ent},(h.set id .dead ++ [Ent.blk x])[j]? = some en → j < h.length ∨ j = h.length:=by
  intro j en q
  have:=(List.getElem?_eq_some_iff.1 q).1
  simp at this;omega
 have ixn : (ι ++ [Ix.blk b])[h.length]? = some (.blk b):=by rw [← hl];simp
 refine ⟨by simp [hl],fun j y q=>?_,fun j t sz n q=>?_,fun j en q=>?_,fun i j c ai aj ci cj=>?_,hh.stb,hh.bas,hh.gl⟩
 rotate_left 2
 ·by_cases hd : en = .dead
  ·subst hd;trivial
  ·rcases beyond q with hj|rfl
   ·obtain ⟨_,q1,q2⟩:=old hd hj q
    exact (hh.oth j en q1).step hE (Nat.le_refl _) q2 fun _ _ _=>⟨rfl,fun _ z=>z⟩
   ·rw [new q];trivial
 rotate_left 1
 ·rcases beyond q with hj|rfl
  ·obtain ⟨_,q1,q2⟩:=old (by simp) hj q
   obtain ⟨c,arr,fz,k1,k2,k3,k4,k5,k6,k7⟩:=hh.live j y q1
   exact ⟨c,arr,fz,q2.trans k1,k2,k3,k4,k5,fun i d ed=>let ⟨v,e1,e2⟩:=k6 i d ed;⟨v,e1,Rep.evo hE (Nat.le_refl _) d v e2⟩,k7⟩
  ·have:=new q
   cases this
   obtain ⟨c,arr,fz,k1,k2,k3,k4,k5,k6,k7⟩:=hh.live id x e
   rw [hb] at k1
   cases k1
   exact ⟨b,arr,fz,ixn,k2,k3,k4,k5,fun i d ed=>let ⟨v,e1,e2⟩:=k6 i d ed;⟨v,e1,Rep.evo hE (Nat.le_refl _) d v e2⟩,k7⟩
 ·rcases beyond q with hj|rfl
  ·obtain ⟨_,q1,q2⟩:=old (by simp) hj q
   obtain ⟨v,k1,k2⟩:=hh.tok j t sz n q1
   exact ⟨v,q2.trans k1,k2⟩
  ·cases new q
 ·have av : ∀ {j : Nat},alive ((h.set id .dead ++ [Ent.blk x])[j]?) → (j ≠ id ∧ alive h[j]? ∧ (ι ++ [Ix.blk b])[j]? = ι[j]?) ∨ j = h.length:=by
   intro j aj
   cases q : (h.set id .dead ++ [Ent.blk x])[j]? with
   | none=>rw [q] at aj;exact aj.elim
   | some en =>
     rcases beyond q with hj|hj
     ·left
      have hne : en ≠ .dead:=by rintro rfl;rw [q] at aj;exact aj
      obtain ⟨q1,q2,q3⟩:=old hne hj q
      exact ⟨q1,by rw [q2,← q];exact aj,q3⟩
     ·exact .inr hj
  have aid : alive h[id]?:=by rw [e];exact trivial
  rcases av ai with ⟨i1,i2,i3⟩|rfl <;> rcases av aj with ⟨j1,j2,j3⟩|rfl
  ·rw [i3] at ci;rw [j3] at cj
   exact hh.inj i j c i2 j2 ci cj
  ·exfalso
   rw [i3] at ci;rw [ixn] at cj
   have : b = c:=cj
   subst this
   exact i1 (hh.inj i id b i2 aid ci (by rw [hb];rfl))
  ·exfalso
   rw [j3] at cj;rw [ixn] at ci
   have : b = c:=ci
   subst this
   exact j1 (hh.inj j id b j2 aid cj (by rw [hb];rfl))
  ·rfl

/-! ### Words that hold beside whatever else there is -/
def fb (P : Program) (x : AV) (args : List AV) (h : aa) (K : AV → Prop) : Prop :=
 match x with
 | .fn (.func f) xs ys=>∃ r,cq P f = true ∧ (∀ ext,ct P f (xs ++ args ++ ys) (h ++ ext) fun v h' => v = r ∧ h' = h ++ ext) ∧ K r
 | _=>False
def rO (P : Program) (own : Bool) : Op → Bool
 | .buildSlice .. => own
 | .makeInterface .. | .typeAssert .. | .move _|.assign _|.pick .. | .binOp .. | .extract .. | .field .. | .index .. | .indexAddr .. | .fieldAddr .. | .nilCheck _|.build .. | .makeFunc .. | .unOp .. => true
 | .slice t .. => (match P.underlying t with|some .string|some (.slice _)=>true|_=>false)
 | .convert s d _=>(match P.underlying s,P.underlying d with|some (.int _),some (.int _)=>true|some .string,some .string=>true|_,_=>false)
 | .call c=>(match c.callee with|.builtin .min|.builtin .max=>true|_=>false)
 | _=>false
theorem uC {P : Program} {own : Bool} {ev : Operand → AV} {h g : aa} {op : Op} {x : AV} (hf : rO P own op = true) (q : bg P own ev h op fun v h' => v = x ∧ h' = h) : bg P own ev g op fun v h' => v = x ∧ h' = g:=by
 cases op <;> simp only [rO,Bool.false_eq_true] at hf <;> simp only [bg,and_true] at q ⊢
 case buildSlice=>subst hf;exact q
 case slice t x lo hi mx =>
  cases mx with
  | some m=>exact q.elim
  | none =>
    simp only at q ⊢
    cases ht : P.underlying t with
    | none=>rw [ht] at q;exact q.elim
    | some d =>
      rw [ht] at q hf
      cases d <;> simp only [Bool.false_eq_true] at q hf ⊢ <;> exact q
 case convert s d x =>
  cases hs : P.underlying s with
  | none=>rw [hs] at q;exact q.elim
  | some a =>
    cases hd : P.underlying d with
    | none=>rw [hs,hd] at q;cases a <;> exact q.elim
    | some b =>
      rw [hs,hd] at q hf
      cases a <;> cases b <;> simp only [Bool.false_eq_true] at q hf ⊢ <;> exact q
 case call c =>
  cases hc : c.callee with
  | value f=>rw [hc] at hf;cases hf
  | invoke r m=>rw [hc] at hf;cases hf
  | builtin b =>
    rw [hc] at hf q
    cases b <;> simp only [Bool.false_eq_true] at hf q ⊢ <;> exact q
 case unOp o t x=>cases o <;> simp only at q ⊢ <;> first|exact q|exact q.elim|(cases hu : P.underlying t with|none=>rw [hu] at q;exact q.elim|some d=>rw [hu] at q;cases d <;> simp only at q ⊢ <;> first|exact q|exact q.elim)
 case typeAssert y xT a ok=>cases ok <;> simp only at q ⊢ <;> first|exact q|exact q.elim
 all_goals exact q
omit [Laid] in
theorem Hi {g : Bool} {sz : Nat} {x : AV} {h ext : aa} {K : AV → Prop} (q : ab g sz x h K) : ab g sz x (h ++ ext) K:=by
 cases x <;> simp only [ab] at q ⊢ <;> first|exact q|skip
 rename_i id o
 cases e : h[id]? with
 | none=>rw [e] at q;exact q.elim
 | some en=>rw [List.getElem?_append_left (List.getElem?_eq_some_iff.1 e).1,e];rw [e] at q;exact q

def eOp (P : Program) (own : Bool) (ev : Operand → AV) (h : aa) (op : Op) (K : AV → Prop) : Prop :=
 match op with
 | .call c=>(match c.callee with
   | .value x=>fb P (ev x) (c.args.toList.map ev) h K
   | .builtin .len=>(match c.argTypes[0]?,c.args[0]? with
     | some t,some x=>(match P.underlying t with
       | some .string=>gr (ev x) K
       | some (.slice _)=>lW (ev x) K
       | _=>False)
     | _,_=>False)
   | _=>req (rO P own (.call c)) (bg P own ev h (.call c) fun v _=>K v))
 | .load t x=>req (tOk P t) (ab (cW P t) (P.cellsOf t) (ev x) h K)
 | op=>req (rO P own op && lu P own op) (bg P own ev h op fun v _=>K v)
theorem tp {P : Program} {own : Bool} {ev : Operand → AV} {h : aa} {op : Op} {K : AV → Prop} (q : eOp P own ev h op K) : ∃ x,(∀ ext,bg P own ev (h ++ ext) op fun v h' => v = x ∧ h' = h ++ ext) ∧ K x:=by
 unfold eOp at q
 split at q
 ·rename_i c
  split at q
  ·rename_i y hc
   unfold fb at q
   split at q
   ·rename_i f xs ys e
    obtain ⟨r,hb,c1,k⟩:=q
    refine ⟨r,fun ext=>?_,k⟩
    simp only [bg,hc]
    unfold aH
    rw [e]
    exact ⟨hb,c1 ext⟩
   ·exact q.elim
  ·rename_i hc
   simp only [bg,hc]
   cases h1 : c.argTypes[0]? with
   | none=>rw [h1] at q;exact q.elim
   | some t =>
     cases h2 : c.args[0]? with
     | none=>rw [h1,h2] at q;exact q.elim
     | some x =>
       rw [h1,h2] at q
       simp only at q ⊢
       cases ht : P.underlying t with
       | none=>rw [ht] at q;exact q.elim
       | some d =>
         rw [ht] at q
         cases d <;> first|exact q.elim|skip
         ·obtain ⟨y,q1,q2⟩:=uG q
          exact ⟨y,fun ext=>by simpa using q1,q2⟩
         ·obtain ⟨y,q1,q2⟩:=w9 q
          exact ⟨y,fun ext=>by simpa using q1,q2⟩
  ·obtain ⟨hf,q⟩:=aU q
   have hq : lu P own (.call c) = true:=by
    unfold rO at hf
    unfold lu
    revert hf
    cases c.callee <;> intro hf <;> first|(cases hf;done)|exact hf
   obtain ⟨x,q1,q2⟩:=m5 hq q
   exact ⟨x,fun ext=>uC hf q1,q2⟩
 ·obtain ⟨ht,q⟩:=aU q
  obtain ⟨x,q1,q2⟩:=qi _ _ _ _ K q
  refine ⟨x,fun ext=>?_,q2⟩
  simp only [bg,ht,req]
  have:=Hi (ext:=ext) q1
  simpa using this
 ·obtain ⟨hf,q⟩:=aU q
  simp only [Bool.and_eq_true] at hf
  obtain ⟨x,q1,q2⟩:=m5 hf.2 q
  exact ⟨x,fun ext=>uC hf.1 q1,q2⟩

/-! ### The first operations: some make new variables -/
def AZ (P : Program) (ops : Array Oper) (i : Nat) : Option (TypeId × AV × Tmp) :=
 match ops[i]? with
 | some o=>(match o.op,o.dst,o.guard with
   | .alloc t,some d,none=>(match cU P t with|some z=>(match (bc z).all cv with|true=>some (t,z,d)|false=>none)|none=>none)
   | _,_,_=>none)
 | none=>none
def dE (P : Program) (ops : Array Oper) (i : Nat) : Ent:=match AZ P ops i with|some (t,z,_)=>.blk ⟨t,bc z,true⟩|none=>.dead
section
variable (P : Program) (ops : Array Oper) (n : Nat) (h : aa) (A : List Nat)
def tq : List (Nat × Bool) → Fr → (Fr → Prop) → Prop
 | [],fr,K=>K fr
 | (i,own) :: r,fr,K=>match ops[i]? with
  | some o=>(match A.contains i with
    | true=>tq r (bj n fr o.dst .any) K
    | false=>eOp P own (ae fr) h o.op fun v=>tq r (bj n fr o.dst v) K)
  | none=>False
end
section
variable {P : Program} {ops : Array Oper} {n : Nat} {h : aa} {A : List Nat}
omit [Laid] in
theorem B6 {V V' : Nat → AV} {fr0 : Fr} {L : Nat → Bool} : ∀ k,(∀ j,j < k → V' j = V j) → frL ops n V' fr0 L k = frL ops n V fr0 L k
 | 0,_=>rfl
 | k + 1,hv=>by
   rw [frL,frL,B6 k fun j hj=>hv j (by omega),hv k (by omega)]
theorem Ek {K : Fr → Prop} {fr0 : Fr} : ∀ (l : List (Nat × Bool)) (k : Nat) (V : Nat → AV) (O : Nat → Bool),l.map (·.1) = List.range' k l.length → tq P ops n h A l (frL ops n V fr0 (fun _=>true) k) K →
 ∃ (V' : Nat → AV) (O' : Nat → Bool),(∀ j,j < k → V' j = V j ∧ O' j = O j) ∧ (∀ i,k ≤ i → i < k + l.length → (A.contains i = true ∧ V' i = .any) ∨ (A.contains i = false ∧ ∃ o,ops[i]? = some o ∧ ∀ ext,bg P (O' i) (ae (frL ops n V' fr0 (fun _=>true) i)) (h ++ ext) o.op fun v h' => v = V' i ∧ h' = h ++ ext)) ∧
  K (frL ops n V' fr0 (fun _=>true) (k + l.length))
 | [],k,V,O,_,q=>⟨V,O,fun _ _=>⟨rfl,rfl⟩,fun i h1 h2=>by simp at h2;omega,q⟩
 | (i,own) :: l,k,V,O,hi,q=>by
  simp only [List.map_cons,List.length_cons,List.range'_succ,List.cons.injEq] at hi
  obtain ⟨rfl,hi⟩:=hi
  simp only [tq] at q
  cases ho : ops[i]? with
  | none=>rw [ho] at q;exact q.elim
  | some o =>
    rw [ho] at q
    simp only at q
    have hdst : cf ops i = o.dst:=by unfold cf;rw [ho];rfl
    have step : ∀ x,bj n (frL ops n V fr0 (fun _=>true) i) o.dst x = frL ops n (fun j=>if j = i then x else V j) fr0 (fun _=>true) (i + 1):=by
     intro x
     rw [frL]
     simp only [if_true,hdst]
     rw [B6 (V':=fun j=>if j = i then x else V j) (V:=V) i (fun j hj=>by simp [show j ≠ i by omega])]
    have go : ∀ x ow,tq P ops n h A l (bj n (frL ops n V fr0 (fun _=>true) i) o.dst x) K → ((A.contains i = true ∧ x = .any) ∨ (A.contains i = false ∧ ∀ ext,bg P ow (ae (frL ops n V fr0 (fun _=>true) i)) (h ++ ext) o.op fun v h' => v = x ∧ h' = h ++ ext)) →
     ∃ (V' : Nat → AV) (O' : Nat → Bool),(∀ j,j < i → V' j = V j ∧ O' j = O j) ∧ (∀ i',i ≤ i' → i' < i + (l.length + 1) → (A.contains i' = true ∧ V' i' = .any) ∨ (A.contains i' = false ∧ ∃ o,ops[i']? = some o ∧ ∀ ext,bg P (O' i') (ae (frL ops n V' fr0 (fun _=>true) i')) (h ++ ext) o.op fun v h' => v = V' i' ∧ h' = h ++ ext)) ∧
      K (frL ops n V' fr0 (fun _=>true) (i + (l.length + 1))):=by
     intro x ow q2 hx
     rw [step x] at q2
     obtain ⟨V',O',v1,v2,v3⟩:=Ek l (i + 1) (fun j=>if j = i then x else V j) (fun j=>if j = i then ow else O j) hi q2
     have vi : V' i = x ∧ O' i = ow:=by have:=v1 i (by omega);simpa using this
     have vlt : ∀ j,j < i → V' j = V j ∧ O' j = O j:=fun j hj=>by have:=v1 j (by omega);simpa [show j ≠ i by omega] using this
     refine ⟨V',O',vlt,fun i' h1 h2=>?_,by rw [show i + (l.length + 1) = i + 1 + l.length by omega];exact v3⟩
     by_cases e : i' = i
     ·subst e
      rw [vi.1,vi.2,B6 (V:=V) i' fun j hj=>(vlt j hj).1]
      exact hx.imp id fun hx=>⟨hx.1,o,ho,hx.2⟩
     ·exact v2 i' (by omega) (by omega)
    cases hA : A.contains i with
    | true=>rw [hA] at q;exact go .any false q (.inl ⟨hA,rfl⟩)
    | false =>
      rw [hA] at q
      obtain ⟨x,q1,q2⟩:=tp q
      exact go x own q2 (.inr ⟨hA,q1⟩)

def eL (P : Program) (ops : Array Oper) (i : Nat) : Option Tmp:=(AZ P ops i).map (·.2.2)
omit [Laid] in
theorem uq {i : Nat} {ty : TypeId} {z : AV} {d : Tmp} (e : AZ P ops i = some (ty,z,d)) : ∃ o,ops[i]? = some o ∧ o.op = .alloc ty ∧ o.dst = some d ∧ o.guard = none ∧ cU P ty = some z ∧ (bc z).all cv = true:=by
 unfold AZ at e
 split at e
 ·rename_i o ho
  split at e
  ·rename_i t' d' h1 h2 h3
   split at e
   ·rename_i z' hz
    split at e
    ·rename_i hs
     simp only [Option.some.injEq,Prod.mk.injEq] at e
     obtain ⟨rfl,rfl,rfl⟩:=e
     exact ⟨o,ho,h1,h2,h3,hz,hs⟩
    ·cases e
   ·cases e
  ·cases e
 ·cases e
structure DR (P : Program) (ops : Array Oper) (n : Nat) (h : aa) (A : List Nat) (V : Nat → AV) (O : Nat → Bool) (fr0 : Fr) (t : Nat) : Prop where
 ung : ∀ i o,i < t → ops[i]? = some o → o.guard = none
 quiet : ∀ i,i < t → A.contains i = false → ∃ o,ops[i]? = some o ∧ ∀ ext,bg P (O i) (ae (frL ops n V fr0 (fun _=>true) i)) (h ++ ext) o.op fun v h' => v = V i ∧ h' = h ++ ext
 al : ∀ i,i < t → A.contains i = true → ∃ d,eL P ops i = some d ∧ d < n ∧ V i = .any ∧ ∀ j oj,j < t → ops[j]? = some oj → d ∉ oj.looksAt ops ∧ (j ≠ i → oj.dst ≠ some d)
def vv (P : Program) (ops : Array Oper) (h : aa) (fr frV : Fr) (σ : List Nat) : Prop :=
 (∀ u,(∀ i ∈ σ,eL P ops i ≠ some u) → aL fr u = aL frV u) ∧ ∀ (k i : Nat) (d : Tmp),σ[k]? = some i → eL P ops i = some d → aL fr d = .op (h.length + k) 0

theorem G1 {V : Nat → AV} {O : Nat → Bool} {fr0 : Fr} {an : Nat → Nat → Bool} {t m more : Nat} {Q : Exit → St → Prop} (hE : jH ops (fun _=>false) an) (hF : DR P ops n h A V O fr0 t) (hg : kn ops t = true) (ht : t ≤ ops.size) (hm : m ≤ h.length)
 (hZ : ∀ base ι S a w fr σ,ROK base ι S a w ⟨n,fr,h ++ σ.map (dE P ops)⟩ → vv P ops h fr (frL ops n V fr0 (fun _=>true) t) σ → σ.Nodup → (∀ i,i ∈ σ ↔ i < t ∧ A.contains i = true) → wpAny P .any ops (bQ m base ι S w Q) more (full ops t) a w) :
 ∀ (fuel : Nat) (L : Array Bool) (base : Nat) (ι : List Ix) (S : aJ) (a : Act) (w : World) (fr : Fr) (σ : List Nat),L.size = ops.size → Down ops L → (∀ i,t ≤ i → L.getD i false = false) → ROK base ι S a w ⟨n,fr,h ++ σ.map (dE P ops)⟩ →
  vv P ops h fr (frL ops n V fr0 (fun i=>L.getD i false) ops.size) σ → σ.Nodup → (∀ i,i ∈ σ ↔ L.getD i false = true ∧ A.contains i = true) → bw (fun _=>true) (fun i=>L.getD i false) t + fuel = t →
  wpAny P .any ops (bQ m base ι S w Q) (fuel + more) L a w:=by
 intro fuel
 induction fuel with
 | zero =>
   intro L base ι S a w fr σ hsz hd hlt hr hI hN hσ hn
   have all : ∀ i,i < t → L.getD i false = true:=qh (L:=fun i=>L.getD i false) t (by omega)
   have hL : L = full ops t:=by
    refine Array.ext (by simp [full,hsz]) fun i h1 h2=>?_
    have e : L.getD i false = L[i]:=by simp [h1]
    rw [← e]
    have hf : (full ops t)[i] = decide (i < t):=by simp [full]
    rw [hf]
    by_cases q : i < t
    ·rw [all i q];simp [q]
    ·rw [hlt i (by omega)];simp [q]
   rw [Nat.zero_add,hL]
   refine hZ base ι S a w fr σ hr ⟨fun u hu=>?_,hI.2⟩ hN fun i=>?_
   ·rw [hI.1 u hu,iI (k:=t) _ ht fun j h1 h2 _=>hlt j h1]
    exact fF _ fun j hj _=>all j hj
   ·rw [hσ i]
    refine and_congr_left fun _=>⟨fun q=>?_,fun q=>all i q⟩
    rcases Nat.lt_or_ge i t with z|z
    ·exact z
    ·rw [hlt i z] at q;cases q
 | succ fuel ih =>
   intro L base ι S a w fr σ hsz hd hlt hr hI hN hσ hn
   have unl : ∃ i,i < t ∧ L.getD i false = false:=by
    refine Classical.byContradiction fun hno=>?_
    have all : ∀ i,i < t → L.getD i false = true:=fun i hi=>by
     cases q : L.getD i false with
     | true=>rfl
     | false=>exact absurd ⟨i,hi,q⟩ hno
    rw [tj (L:=fun i=>L.getD i false) t all] at hn
    omega
   rw [show fuel + 1 + more = (fuel + more) + 1 by omega]
   refine ⟨fun hnone=>?_,fun i hi=>?_⟩
   ·exfalso
    obtain ⟨i,hi⟩:=unl
    revert hi
    induction i using Nat.strongRecOn with
    | _ i ihi =>
      rintro ⟨hi,hl⟩
      by_cases q : ∃ e ∈ cH ops i,L.getD e false = false
      ·obtain ⟨e,h1,h2⟩:=q
       have:=hE.back i (by omega) e h1
       exact ihi e this ⟨by omega,h2⟩
      ·have hmem : i ∈ Region.ready .any ops L:=by
        have hsi : i < ops.size:=by omega
        refine mem_ready.2 ⟨?_,ops[i],Array.getElem?_eq_getElem hsi,fun e he hb=>?_⟩
        ·have hlt : i < L.size:=by omega
         simp [hlt] at hl ⊢;exact hl
        ·cases z : L.getD e.on false with
         | true=>rfl
         | false =>
           exact absurd ⟨e.on,by unfold cH;rw [Array.getElem?_eq_getElem hsi];simp only [List.mem_map,List.mem_filter];exact ⟨e,⟨by simpa using he,hb⟩,rfl⟩,z⟩ q
       rw [hnone] at hmem;cases hmem
   ·obtain ⟨h0,o,ho,hall⟩:=mem_ready.1 hi
    have his : i < ops.size:=(Array.getElem?_eq_some_iff.1 ho).1
    have hit : i < t:=by
     rcases Nat.lt_or_ge i t with q|q
     ·exact q
     ·obtain ⟨j,j1,j2⟩:=unl
      rw [nj hd hg q hi j j1] at j2;cases j2
    have hl0 : L.getD i false = false:=by
     have : i < L.size:=by omega
     simp [this] at h0 ⊢;exact h0
    have hset : ∀ j,(L.setIfInBounds i true).getD j false = (L.getD j false || j == i):=by
     intro j
     by_cases q : j = i
     ·subst q
      have : j < L.size:=by omega
      simp [this]
     ·rw [getD_set_ne false (Ne.symm q)]
      have : (j == i) = false:=by simpa using q
      rw [this,Bool.or_false]
    have hlt' : ∀ j,t ≤ j → (L.setIfInBounds i true).getD j false = false:=fun j hj=>by
     rw [hset,hlt j hj];simp;omega
    have hn' : bw (fun _=>true) (fun j=>(L.setIfInBounds i true).getD j false) t + fuel = t:=by
     rw [mX (l1:=fun j=>L.getD j false) hl0 hset t]
     simp only [hit,and_self,if_true]
     omega
    have hdst : cf ops i = o.dst:=by unfold cf;rw [ho];rfl
    -- slots that are looked at,or written,by this one
    have at' : ∀ u,(u ∈ o.looksAt ops ∨ o.dst = some u) → aL (frL ops n V fr0 (fun j=>L.getD j false) ops.size) u = aL (frL ops n V fr0 (fun _=>true) i) u:=by
     intro u hu
     have hst : aL (frL ops n V fr0 (fun j=>L.getD j false) ops.size) u = aL (frL ops n V fr0 (fun j=>L.getD j false) i) u:=by
      refine iI _ (by omega) fun j h1 h2 h3=>?_
      by_cases q : j = i
      ·subst q;exact hl0
      ·obtain ⟨oj,hoj⟩ : ∃ oj,ops[j]? = some oj:=⟨ops[j],Array.getElem?_eq_getElem h2⟩
       have ha : an j i = true:=by
        rcases hu with hu|hu
        ·exact hE.apart j i h2 (by omega) oj o hoj ho ⟨u,.inr ⟨h3,hu⟩⟩
        ·exact hE.apart j i h2 (by omega) oj o hoj ho ⟨u,.inl ⟨by rw [hdst];exact hu,.inr h3⟩⟩
       cases z : L.getD j false with
       | false=>rfl
       | true=>have:=hE.gb hd h2 z ha;rw [hl0] at this;cases this
     rw [hst]
     refine fF _ fun j hj hdj=>?_
     obtain ⟨oj,hoj⟩ : ∃ oj,ops[j]? = some oj:=⟨ops[j],Array.getElem?_eq_getElem (by omega)⟩
     refine hE.lq hd his hi (hE.apart i j his hj o oj ho hoj ?_)
     rcases hu with hu|hu
     ·exact ⟨u,.inl ⟨hdj,.inl hu⟩⟩
     ·exact ⟨u,.inl ⟨hdj,.inr (by rw [hdst];exact hu)⟩⟩
    have later : ∀ u,o.dst = some u → ∀ (l : Nat → Bool),(∀ j,i < j → l j = true → L.getD j false = true) → aL (frL ops n V fr0 l ops.size) u = aL (frL ops n V fr0 l (i + 1)) u:=by
     intro u hu l hl
     refine iI _ (by omega) fun j h1 h2 h3=>?_
     cases z : l j with
     | false=>rfl
     | true =>
       obtain ⟨oj,hoj⟩ : ∃ oj,ops[j]? = some oj:=⟨ops[j],Array.getElem?_eq_getElem h2⟩
       have ha:=hE.apart j i h2 (by omega) oj o hoj ho ⟨u,.inl ⟨by rw [hdst];exact hu,.inr h3⟩⟩
       have:=hE.gb hd h2 (hl j (by omega) z) ha
       rw [hl0] at this;cases this
    have grown : ∀ u,aL (frL ops n V fr0 (fun j=>(L.setIfInBounds i true).getD j false) ops.size) u = if o.dst = some u ∧ u < n then V i else aL (frL ops n V fr0 (fun j=>L.getD j false) ops.size) u:=by
     intro u
     by_cases q : o.dst = some u
     ·rw [later u q _ fun j h1 h2=>by rw [hset] at h2;simpa [show j ≠ i by omega] using h2,frL,hset,beq_self_eq_true,Bool.or_true]
      simp only
      rw [hdst,q]
      have e2 : aL (frL ops n V fr0 (fun j=>(L.setIfInBounds i true).getD j false) i) u = aL (frL ops n V fr0 (fun j=>L.getD j false) ops.size) u:=by
       rw [at' u (.inr q)]
       refine fF _ fun j hj hdj=>?_
       rw [hset]
       obtain ⟨oj,hoj⟩ : ∃ oj,ops[j]? = some oj:=⟨ops[j],Array.getElem?_eq_getElem (by omega)⟩
       rw [hE.lq hd his hi (hE.apart i j his hj o oj ho hoj ⟨u,.inl ⟨hdj,.inr (by rw [hdst];exact q)⟩⟩)]
       simp
      unfold bj
      simp only
      by_cases hu : u < n
      ·rw [if_pos hu,bZ,if_pos rfl];simp [hu]
      ·rw [if_neg hu,e2];simp [hu]
     ·have : ¬ (o.dst = some u ∧ u < n):=fun z=>q z.1
      rw [if_neg this]
      refine fF _ fun j hj hdj=>?_
      rw [hset]
      by_cases e : j = i
      ·subst e;rw [hdst] at hdj;exact absurd hdj q
      ·have : (j == i) = false:=by simpa using e
       rw [this,Bool.or_false]
    have want : ∀ fr',di ops o fr' = some true:=fun fr' => by unfold di;rw [hF.ung i o hit ho]
    have slots : ∀ j ∈ σ,∀ d,eL P ops j = some d → d ∉ o.looksAt ops ∧ (i ≠ j → o.dst ≠ some d):=by
     intro j hj d hd'
     obtain ⟨l1,l2⟩:=(hσ j).1 hj
     have hjt : j < t:=by
      rcases Nat.lt_or_ge j t with z|z
      ·exact z
      ·rw [hlt j z] at l1;cases l1
     obtain ⟨d',e1,_,_,e4⟩:=hF.al j hjt l2
     rw [hd'] at e1
     cases e1
     exact ⟨(e4 i o hit ho).1,fun hne=>(e4 i o hit ho).2 hne⟩
    have ine : i ∉ σ:=fun q=>by rw [(hσ i).1 q |>.1] at hl0;cases hl0
    unfold wpOp
    rw [ho]
    simp only
    rw [if_pos (iZ hr (want fr))]
    left
    cases hA : A.contains i with
    | true =>
      obtain ⟨d,e1,e2,e3,e4⟩:=hF.al i hit hA
      unfold eL at e1
      obtain ⟨⟨ty,z,d0⟩,e5,e6⟩:=Option.map_eq_some_iff.1 e1
      obtain rfl : d0 = d:=e6
      obtain ⟨o',ho',k1,k2,k3,k4,k5⟩:=uq e5
      rw [ho] at ho'
      cases ho'
      have hstep : bg P false (ae fr) (h ++ σ.map (dE P ops)) o.op fun v h' => v = .op (h.length + σ.length) 0 ∧ h' = h ++ (σ ++ [i]).map (dE P ops):=by
       rw [k1]
       simp only [bg,k4]
       unfold bz
       refine ⟨k5,by simp, ?_⟩
       simp [dE,e5]
      refine ft (fun a' w' k=>?_) (fun _ _ _ k=>k) (fJ (st:=⟨n,fr,h ++ σ.map (dE P ops)⟩) hr hstep _)
      obtain ⟨ι',S',v,h',hEv,hR,_,rfl,rfl⟩:=k
      have hinv : vv P ops h (bj n fr o.dst (.op (h.length + σ.length) 0)) (frL ops n V fr0 (fun j=>(L.setIfInBounds i true).getD j false) ops.size) (σ ++ [i]):=by
       refine ⟨fun u hu=>?_,fun k j dj hk hj=>?_⟩
       ·have hud : o.dst ≠ some u:=fun z=>hu i (by simp) (by rw [show eL P ops i = some d0 from e1,← k2,z])
        rw [dw fun e he q=>hud (by rw [he,q]),hI.1 u fun j hj=>hu j (by simp [hj]),grown u,if_neg fun z=>hud z.1]
       ·rcases Nat.lt_or_ge k σ.length with q|q
        ·rw [List.getElem?_append_left q] at hk
         have hjm:=List.mem_of_getElem? hk
         rw [dw fun e he q' => (slots j hjm dj hj).2 (fun z=>ine (z ▸ hjm)) (by rw [he,q'])]
         exact hI.2 k j dj hk hj
        ·have : k = σ.length:=by
          have:=(List.getElem?_eq_some_iff.1 hk).1
          simp at this;omega
         subst this
         simp at hk
         subst hk
         rw [show eL P ops i = some d0 from e1] at hj
         cases hj
         unfold bj
         rw [k2]
         simp only
         rw [if_pos e2,bZ,if_pos rfl]
      have:=ih (L.setIfInBounds i true) base ι' S' a' w' _ (σ ++ [i]) (by simp [hsz]) (hd.set hi) hlt' hR hinv (by
       rw [List.nodup_append]
       refine ⟨hN,by simp,fun x hx y hy=>?_⟩
       simp at hy
       subst hy
       rintro rfl
       exact ine hx) (fun j=>by
       rw [List.mem_append,hσ j,hset]
       by_cases e : j = i
       ·subst e;rw [hA];simp
       ·simp [e]) hn'
      exact cE (fun e a w z=>bQ.trans (hEv.mono (by rw [hr.hp.len];simp;omega) (Nat.le_refl _)) z) _ _ _ _ this
    | false =>
      obtain ⟨o',ho',hq⟩:=hF.quiet i hit hA
      rw [ho] at ho'
      cases ho'
      have he : ∀ y ∈ o.op.operands,ae (frL ops n V fr0 (fun _=>true) i) y = ae fr y:=by
       intro y hy
       cases y with
       | tmp u =>
         have hu : u ∈ o.looksAt ops:=by
          unfold Oper.looksAt
          refine List.mem_append_left _ ?_
          simp only [List.mem_filterMap]
          exact ⟨.tmp u,by simpa using hy,rfl⟩
         simp only [ae]
         rw [hI.1 u fun j hj z=>(slots j hj u z).1 hu,at' u (.inl hu)]
       | _=>rfl
      refine ft (fun a' w' k=>?_) (fun _ _ _ k=>k) (fJ (st:=⟨n,fr,h ++ σ.map (dE P ops)⟩) hr (gM he (hq _)) _)
      obtain ⟨ι',S',v,h',hEv,hR,_,rfl,rfl⟩:=k
      have hinv : vv P ops h (bj n fr o.dst (V i)) (frL ops n V fr0 (fun j=>(L.setIfInBounds i true).getD j false) ops.size) σ:=by
       refine ⟨fun u hu=>?_,fun k j dj hk hj=>?_⟩
       ·rw [grown u]
        by_cases q : o.dst = some u
        ·unfold bj
         rw [q]
         simp only
         by_cases z : u < n
         ·rw [if_pos z,bZ,if_pos rfl,if_pos ⟨trivial,z⟩]
         ·rw [if_neg z,if_neg fun x=>z x.2,hI.1 u hu]
        ·rw [dw fun e he q' => q (by rw [he,q']),if_neg fun x=>q x.1,hI.1 u hu]
       ·have hjm:=List.mem_of_getElem? hk
        rw [dw fun e he q' => (slots j hjm dj hj).2 (fun z=>ine (z ▸ hjm)) (by rw [he,q'])]
        exact hI.2 k j dj hk hj
      have:=ih (L.setIfInBounds i true) base ι' S' a' w' _ σ (by simp [hsz]) (hd.set hi) hlt' hR hinv hN (fun j=>by
       rw [hσ j,hset]
       by_cases e : j = i
       ·subst e;rw [hA];simp
       ·simp [e]) hn'
      exact cE (fun e a w z=>bQ.trans (hEv.mono (by rw [hr.hp.len];simp;omega) (Nat.le_refl _)) z) _ _ _ _ this

/-! ### Behind them -/
omit [Laid] in
theorem tQ : ∀ (l m : List Nat),l.Nodup → (∀ x ∈ l,x ∈ m) → l.length ≤ m.length
 | [],_,_,_=>Nat.zero_le _
 | x :: l,m,hn,hs=>by
   have hx : x ∈ m:=hs x (by simp)
   rw [List.nodup_cons] at hn
   have:=tQ l (m.erase x) hn.2 fun y hy=>(List.mem_erase_of_ne (fun q : y = x=>hn.1 (by rw [← q];exact hy))).2 (hs y (by simp [hy]))
   have e:=List.length_erase_of_mem hx
   have : 0 < m.length:=List.length_pos_of_mem hx
   simp only [List.length_cons]
   omega
theorem xh {base : Nat} {S : aJ} {w : World} {σ : List Nat} {B : Nat → Nat} (hN : σ.Nodup) : ∀ (rest done : List Nat) (ι : List Ix),HOK base ι S w (h ++ (σ.map fun i=>if i ∈ done then Ent.dead else dE P ops i) ++ done.map (dE P ops)) → rest.Nodup →
 (∀ i ∈ rest,i ∈ σ ∧ i ∉ done ∧ ∃ x,dE P ops i = .blk x) → (∀ k i,σ[k]? = some i → i ∈ rest → ι[h.length + k]? = some (.blk (B i))) →
 HOK base (ι ++ rest.map fun i=>.blk (B i)) S w (h ++ (σ.map fun i=>if i ∈ done ++ rest then Ent.dead else dE P ops i) ++ (done ++ rest).map (dE P ops))
 | [],done,ι,hh,_,_,_=>by simpa using hh
 | i :: rest,done,ι,hh,hR,hm,hB=>by
   obtain ⟨him,hid,x,hx⟩:=hm i (by simp)
   obtain ⟨k,hk⟩:=List.mem_iff_getElem?.1 him
   have hkl : k < σ.length:=(List.getElem?_eq_some_iff.1 hk).1
   rw [List.nodup_cons] at hR
   have e1 : (h ++ (σ.map fun i=>if i ∈ done then Ent.dead else dE P ops i) ++ done.map (dE P ops))[h.length + k]? = some (.blk x):=by
    rw [List.append_assoc,List.getElem?_append_right (by omega),List.getElem?_append_left (by simp;omega),List.getElem?_map,show h.length + k - h.length = k by omega,hk]
    simp [hid,hx]
   have hb:=hB k i hk (by simp)
   have hmv:=hh.move e1 hb
   have e2 : (h ++ (σ.map fun i=>if i ∈ done then Ent.dead else dE P ops i) ++ done.map (dE P ops)).set (h.length + k) .dead ++ [.blk x] = h ++ (σ.map fun j=>if j ∈ done ++ [i] then Ent.dead else dE P ops j) ++ (done ++ [i]).map (dE P ops):=by
    have e3 : (σ.map fun i=>if i ∈ done then Ent.dead else dE P ops i).set k .dead = σ.map fun j=>if j ∈ done ++ [i] then Ent.dead else dE P ops j:=by
     refine List.ext_getElem? fun j=>?_
     by_cases q : k = j
     ·subst q
      rw [List.getElem?_set_self (by simpa using hkl),List.getElem?_map,hk]
      simp
     ·rw [List.getElem?_set_ne q,List.getElem?_map,List.getElem?_map]
      cases hj : σ[j]? with
      | none=>rfl
      | some y =>
        have hy : y ≠ i:=by
         rintro rfl
         exact q ((List.getElem?_inj hkl hN).1 (hk.trans hj.symm))
        simp [hy]
    rw [List.append_assoc,List.set_append_right _ _ (by omega),show h.length + k - h.length = k by omega,List.set_append_left _ _ (by simp;omega),e3]
    simp [hx]
   rw [e2] at hmv
   have:=xh hN rest (done ++ [i]) (ι ++ [.blk (B i)]) hmv hR.2 (fun j hj=>by
    obtain ⟨a1,a2,a3⟩:=hm j (by simp [hj])
    refine ⟨a1, ?_,a3⟩
    simp only [List.mem_append,List.mem_singleton,not_or]
    exact ⟨a2,fun z=>hR.1 (z ▸ hj)⟩) (fun k' j hk' hj=>by
    have:=hB k' j hk' (by simp [hj])
    rw [List.getElem?_append_left (List.getElem?_eq_some_iff.1 this).1];exact this)
   simpa [List.append_assoc] using this

def mR (P : Program) (ops : Array Oper) (n base : Nat) : List Nat → Nat → Fr → Fr
 | [],_,fr=>fr
 | i :: l,k,fr=>mR P ops n base l (k + 1) (bj n fr (eL P ops i) (.op (base + k) 0))
omit [Laid] in
theorem p9 {n base u : Nat} : ∀ (l : List Nat) (k : Nat) (fr : Fr),(∀ i ∈ l,eL P ops i ≠ some u) → aL (mR P ops n base l k fr) u = aL fr u
 | [],_,_,_=>rfl
 | i :: l,k,fr,hu=>by
   rw [mR,p9 l (k + 1) _ fun j hj=>hu j (by simp [hj])]
   exact dw fun e he q=>hu i (by simp) (by rw [he,q])
omit [Laid] in
theorem yA {n base u i : Nat} (hun : u < n) : ∀ (l : List Nat) (k p : Nat) (fr : Fr),l[p]? = some i → eL P ops i = some u → (∀ q j,l[q]? = some j → q ≠ p → eL P ops j ≠ some u) → aL (mR P ops n base l k fr) u = .op (base + (k + p)) 0
 | [],_,p,_,h1,_,_=>by simp at h1
 | j :: l,k,0,fr,h1,h2,h3=>by
   simp at h1
   subst h1
   rw [mR,p9 l (k + 1) _ fun y hy=>by
    obtain ⟨q,hq⟩:=List.mem_iff_getElem?.1 hy
    exact h3 (q + 1) y (by simpa using hq) (by omega)]
   unfold bj
   rw [h2]
   simp only
   rw [if_pos hun,bZ,if_pos rfl];rfl
 | j :: l,k,p + 1,fr,h1,h2,h3=>by
   rw [mR,yA hun l (k + 1) p _ (by simpa using h1) h2 fun q y hq hne=>h3 (q + 1) y (by simpa using hq) (by omega)]
   rw [show k + 1 + p = k + (p + 1) by omega]

theorem Iw {base : Nat} {ι : List Ix} {S : aJ} {a : Act} {w : World} {fr frV : Fr} {σ : List Nat} (hr : ROK base ι S a w ⟨n,fr,h ++ σ.map (dE P ops)⟩) (hI : vv P ops h fr frV σ) (hN : σ.Nodup) (hA : A.Nodup) (hs : ∀ i,i ∈ σ ↔ i ∈ A)
 (hd : ∀ i ∈ A,∃ d,eL P ops i = some d ∧ d < n ∧ ∀ j ∈ A,j ≠ i → eL P ops j ≠ some d) : ∃ ι',Evo ι.length base ι S w ι' S w ∧ ROK base ι' S a w ⟨n,mR P ops n (h.length + A.length) A 0 frV,h ++ List.replicate A.length .dead ++ A.map (dE P ops)⟩:=by
 have hl : σ.length = A.length:=Nat.le_antisymm (tQ _ _ hN fun x hx=>(hs x).1 hx) (tQ _ _ hA fun x hx=>(hs x).2 hx)
 have hlen : ι.length = h.length + σ.length:=by have:=hr.hp.len;simpa using this
 let B : Nat → Nat:=fun i=>match ι[h.length + σ.idxOf i]? with|some (.blk b)=>b|_=>0
 have hB : ∀ k i,σ[k]? = some i → i ∈ A → ι[h.length + k]? = some (.blk (B i)) ∧ ∀ d,eL P ops i = some d → a.tmps.getD d undef = .pointer (some ⟨B i,0,none⟩):=by
  intro k i hk hi
  obtain ⟨d,d1,d2,_⟩:=hd i hi
  have hkl:=(List.getElem?_eq_some_iff.1 hk).1
  have e:=hI.2 k i d hk d1
  have r:=hr.get d
  rw [e,Rep] at r
  obtain ⟨b,b1,b2⟩:=r
  have hidx : σ.idxOf i = k:=by
   have h1 : σ[σ.idxOf i]? = some i:=by
    have hm:=List.mem_of_getElem? hk
    rw [List.getElem?_eq_getElem (List.idxOf_lt_length_of_mem hm)]
    simp
   exact ((List.getElem?_inj hkl hN).1 (hk.trans h1.symm)).symm
  have hBi : B i = b:=by
   show (match ι[h.length + σ.idxOf i]? with|some (.blk b)=>b|_=>0) = b
   rw [hidx,b1]
  rw [hBi]
  exact ⟨b1,fun d' hd' => by rw [d1] at hd';cases hd';exact b2⟩
 have hmv:=xh (P:=P) (ops:=ops) (h:=h) (B:=B) hN A [] ι (by simpa using hr.hp) hA (fun i hi=>⟨(hs i).2 hi,by simp,by
  obtain ⟨d,d1,_⟩:=hd i hi
  unfold eL at d1
  obtain ⟨⟨t,z,d'⟩,e,_⟩:=Option.map_eq_some_iff.1 d1
  exact ⟨⟨t,bc z,true⟩,by simp [dE,e]⟩⟩) (fun k i hk hi=>(hB k i hk hi).1)
 have e1 : (σ.map fun i=>if i ∈ [] ++ A then Ent.dead else dE P ops i) = List.replicate A.length .dead:=by
  rw [← hl,List.eq_replicate_iff]
  refine ⟨by simp,fun y hy=>?_⟩
  simp only [List.mem_map] at hy
  obtain ⟨i,h1,rfl⟩:=hy
  rw [if_pos (by simpa using (hs i).1 h1)]
 rw [e1,List.nil_append] at hmv
 have hE : Evo ι.length base ι S w (ι ++ A.map fun i=>.blk (B i)) S w:=Evo.grow _
 refine ⟨_,hE,hr.df,hr.sz,fun u=>?_,hmv⟩
 show Rep _ S w (aL (mR P ops n (h.length + A.length) A 0 frV) u) _
 by_cases q : ∃ i ∈ A,eL P ops i = some u
 ·obtain ⟨i,hi,hu⟩:=q
  obtain ⟨p,hp⟩:=List.mem_iff_getElem?.1 hi
  obtain ⟨d,d1,d2,d3⟩:=hd i hi
  rw [hu] at d1
  cases d1
  have hpl:=(List.getElem?_eq_some_iff.1 hp).1
  rw [yA d2 A 0 p frV hp hu fun q j hq hne=>d3 j (List.mem_of_getElem? hq) fun z=>hne ((List.getElem?_inj (List.getElem?_eq_some_iff.1 hq).1 hA).1 (hq.trans (by rw [z,hp])))]
  obtain ⟨k,hk⟩:=List.mem_iff_getElem?.1 ((hs i).2 hi)
  obtain ⟨_,b2⟩:=hB k i hk hi
  rw [Rep]
  refine ⟨B i, ?_,b2 u hu⟩
  rw [List.getElem?_append_right (by omega),show h.length + A.length + (0 + p) - ι.length = p by omega,List.getElem?_map,hp];rfl
 ·have hno : ∀ i ∈ A,eL P ops i ≠ some u:=fun i hi z=>q ⟨i,hi,z⟩
  rw [p9 A 0 frV hno,← hI.1 u fun i hi=>hno i ((hs i).1 hi)]
  exact Rep.evo hE (Nat.le_refl _) _ _ (hr.fr u)
end

def yN (P : Program) (ops : Array Oper) (n t : Nat) (A : List Nat) (l : List (Nat × Bool)) (r q : List Seg) : Bool :=
 P.follows .mixedOrders && oz ops (fun _=>false) (sC ops ops.size) ops.size && kn ops t && decide (t ≤ ops.size) && (l.map (·.1) == List.range t) && decide A.Nodup && A.all (fun i=>decide (i < t)) &&
  (List.range t).all (fun i=>match ops[i]? with|some o=>o.guard.isNone|none=>false) &&
  A.all (fun i=>match eL P ops i with|some d=>decide (d < n) && (List.range t).all (fun j=>match ops[j]? with|some oj=>!(oj.looksAt ops).contains d && (j == i || oj.dst != some d)|none=>false)|none=>false) &&
  (match jb ops (r.map Seg.ix).flatten (full ops t) with
  | some listed=>ln ops ops.size (q.map Seg.ix).flatten.length (t + (r.map Seg.ix).flatten.length) listed
  | none=>false) && r.all (fT ops) && q.all (fT ops) && q.all (mC ops n) && (q.map Seg.ix).flatten == List.range' (t + (r.map Seg.ix).flatten.length) (q.map Seg.ix).flatten.length &&
  decide (t + (r.map Seg.ix).flatten.length + (q.map Seg.ix).flatten.length = ops.size)
def yO (P : Program) (ops : Array Oper) (t : Nat) (A : List Nat) (l : List (Nat × Bool)) (r q : List Seg) (Q : Exit → St → Prop) (st : St) : Prop :=
 req (yN P ops st.n t A l r q) (tq P ops st.n st.h A l st.fr fun fr=>gp P ops r ⟨st.n,mR P ops st.n (st.h.length + A.length) A 0 fr,st.h ++ List.replicate A.length .dead ++ A.map (dE P ops)⟩ fun st' => req (Nat.beq st'.n st.n) (kD P ops st.n st'.h q st'.fr fun fr' => Q .normal ⟨st.n,fr',st'.h⟩))
theorem yp {P : Program} {m id t : Nat} {ops : Array Oper} {A : List Nat} {l : List (Nat × Bool)} {r q : List Seg} {Q : Exit → St → Prop} {st : St} (hm : m ≤ st.h.length) (hq : yO P ops t A l r q Q st) : AW P m (.region id ops true) Q st:=by
 intro base ι S a w _ hr
 obtain ⟨hok,hq⟩:=aU hq
 simp only [yN,Bool.and_eq_true,beq_iff_eq,decide_eq_true_eq] at hok
 obtain ⟨⟨⟨⟨⟨⟨⟨⟨⟨⟨⟨⟨⟨⟨k1,k2⟩,k3⟩,kt⟩,k5⟩,k6⟩,k8⟩,kg⟩,ka⟩,k4⟩,k7⟩,q5⟩,q6⟩,q8⟩,k9⟩:=hok
 split at k4
 ·rename_i listed' hch
  obtain ⟨hE,hr'⟩:=hr.drew
  refine wp_region_any k1 (cE (fun e a w z=>bQ.trans (hE.mono (by rw [hr.hp.len];exact hm) (Nat.le_refl _)) z) _ _ _ _ ?_)
  have none : ∀ i,(Array.replicate ops.size false).getD i false = false:=fun i=>by simp [Array.getD_eq_getD_getElem?,Array.getElem?_replicate];split <;> rfl
  have c0 : ∀ k,bw (fun _=>true) (fun i=>(Array.replicate ops.size false).getD i false) k = 0:=by
   intro k
   induction k with
   | zero=>rfl
   | succ k ih=>rw [bw,none];exact ih
  have down0 : Down ops (Array.replicate ops.size false):=fun i o ho hl=>by rw [none] at hl;cases hl
  have hl5 : l.length = t:=by have:=congrArg List.length k5;simpa using this
  obtain ⟨V,O,_,v2,v3⟩:=Ek (P:=P) (ops:=ops) (n:=st.n) (h:=st.h) (A:=A) (fr0:=st.fr) l 0 (fun _=>.any) (fun _=>false) (by rw [k5,hl5,List.range_eq_range']) hq
  rw [Nat.zero_add,hl5] at v3
  have atA : ∀ i ∈ A,i < t:=fun i hi=>by have:=List.all_eq_true.1 k8 i hi;simpa using this
  have hF : DR P ops st.n st.h A V O st.fr t:=by
   refine ⟨fun i o hi ho=>?_,fun i hi hA=>?_,fun i hi hA=>?_⟩
   ·have:=List.all_eq_true.1 kg i (by simpa using hi)
    rw [ho] at this
    simpa using this
   ·rcases v2 i (by omega) (by omega) with ⟨z,_⟩|⟨_,z⟩
    ·rw [hA] at z;cases z
    ·exact z
   ·rcases v2 i (by omega) (by omega) with ⟨_,z⟩|⟨z,_⟩
    ·have hm' : i ∈ A:=by simpa using hA
     have:=List.all_eq_true.1 ka i hm'
     split at this
     ·rename_i d hd
      simp only [Bool.and_eq_true,decide_eq_true_eq] at this
      refine ⟨d,hd,this.1,z,fun j oj hj hoj=>?_⟩
      have h2:=List.all_eq_true.1 this.2 j (by simpa using hj)
      rw [hoj] at h2
      simp only [Bool.and_eq_true,Bool.not_eq_true',Bool.or_eq_true,beq_iff_eq,bne_iff_ne,ne_eq] at h2
      refine ⟨fun z=>?_,fun hne=>h2.2.resolve_left hne⟩
      have h3:=h2.1
      rw [List.contains_eq_mem] at h3
      simp [z] at h3
     ·cases this
    ·rw [hA] at z;cases z
  have hdA : ∀ i ∈ A,∃ d,eL P ops i = some d ∧ d < st.n ∧ ∀ j ∈ A,j ≠ i → eL P ops j ≠ some d:=by
   intro i hi
   obtain ⟨d,d1,d2,_,d4⟩:=hF.al i (atA i hi) (by simpa using hi)
   refine ⟨d,d1,d2,fun j hj hne z=>?_⟩
   unfold eL at z
   obtain ⟨⟨t',z',d'⟩,e,e2⟩:=Option.map_eq_some_iff.1 z
   simp only at e2
   subst e2
   obtain ⟨o,ho,_,hd,_⟩:=uq e
   exact (d4 j o (atA j hj) ho).2 hne hd
  have key:=G1 (P:=P) (ops:=ops) (n:=st.n) (h:=st.h) (A:=A) (V:=V) (O:=O) (fr0:=st.fr) (t:=t) (m:=m) (more:=(r.map Seg.ix).flatten.length + (q.map Seg.ix).flatten.length) (Q:=Q) (qj k2) hF k3 kt hm (fun base ι S a w fr σ hr hI hN hσ=>?_) t (Array.replicate ops.size false) base ι S a { w with drawn:=w.drawn + 1 } st.fr [] (by simp) down0 (fun i _=>none i) (by simpa using hr') ⟨fun u _=>?_,fun k i d hk=>by simp at hk⟩ (by simp) (fun i=>by rw [none];simp) (by rw [c0];omega)
  ·rwa [show t + ((r.map Seg.ix).flatten.length + (q.map Seg.ix).flatten.length) = ops.size by omega] at key
  ·obtain ⟨ι2,hE2,hr2⟩:=Iw hr hI hN k6 (fun i=>by
    rw [hσ i]
    constructor
    ·rintro ⟨_,z⟩;simpa using z
    ·intro z;exact ⟨atA i z,by simpa using z⟩) hdA
   have hdn : Down ops (full ops t):=by
    intro i o ho hl e he hb
    have hi : i < t:=by
     have:=(Array.getElem?_eq_some_iff.1 ho).1
     simpa [full,this] using hl
    have:=(qj k2).back i (by omega) e.on (by unfold cH;rw [ho];simp only [List.mem_map,List.mem_filter];exact ⟨e,⟨by simpa using he,hb⟩,rfl⟩)
    have hs : e.on < ops.size:=by omega
    simp [full,hs];omega
   have down2:=ma _ _ _ hdn hch
   have hm2 : m ≤ (st.h ++ List.replicate A.length Ent.dead ++ A.map (dE P ops)).length:=by simp;omega
   have hs:=jl (m:=m) (Q:=Q) r base ι2 S a w _ k7 hm2 hr2 v3
   have up : ∀ {e a' w'},bQ m base ι2 S w Q e a' w' → bQ m base ι S w Q e a' w':=fun z=>bQ.trans (hE2.mono (by rw [hr.hp.len];simp;omega) (Nat.le_refl _)) z
   refine cE (fun e a w z=>up z) _ _ _ _ ?_
   refine mV (fun e a w hne z=>?_) (fun a w z=>?_) _ _ _ _ hch hs
   ·obtain ⟨ι',S',st',z1,z2,z3,z4⟩:=z
    refine ⟨ι',S',st',z1,z2,z3, ?_⟩
    cases e <;> first|exact absurd rfl hne|exact z4
   ·obtain ⟨ι',S',st',z1,z2,z3,z4⟩:=z
    obtain ⟨n',fr',h'⟩:=st'
    obtain ⟨en,z4⟩:=aU z4
    have en : n' = st.n:=Nat.eq_of_beq_eq_true en
    subst en
    have:=oW (m:=m) (more:=0) (Q:=Q) wy q5 q6 q8 (by omega) down2 k4 z2 (fun fr base ι S a w hr hfr=>⟨oE,ι,S,⟨st.n,fr,h'⟩,Evo.refl _ _ _ _ _,z2,hr,hfr⟩) z3 z4
    exact cE (fun e a w z=>bQ.trans z1 z) _ _ _ _ this
  ·have f0 : ∀ k,frL ops st.n V st.fr (fun i=>(Array.replicate ops.size false).getD i false) k = st.fr:=by
    intro k
    induction k with
    | zero=>rfl
    | succ k ih=>rw [frL,none];exact ih
   rw [f0]
 ·cases k4
end Go.Aw

