/-
 A statement whose order is open: some operations leave the call's own memory alone,those that do not stand one behind the other;whatever order is taken comes to the same,if what reads memory reads the same wherever it may come up.
 No conditions: lemmas over any program.
-/
import Derived.Test.YtfageokhpklkbaaGreatDoorDraw
set_option linter.unusedVariables false
set_option linter.unusedSimpArgs false
namespace Go.Aw
open Go Go.RowKit
variable [Laid]

def fv (P : Program) (n : Nat) (h : aa) (o : Oper) (fr : Fr) (K : AV → aa → Prop) : Prop :=
 ∀ fr' base ι S a w,(∀ y ∈ o.op.operands,ae fr' y = ae fr y) → ROK base ι S a w ⟨n,fr',h⟩ → bk P o base ι S a w ⟨n,fr',h⟩ K
theorem fv.of {P : Program} {n : Nat} {own : Bool} {h : aa} {o : Oper} {fr : Fr} {K : AV → aa → Prop} (q : bg P own (ae fr) h o.op K) : fv P n h o fr K :=
 fun _ _ _ _ _ _ e hr=>fJ (st:=⟨n,_,h⟩) hr (gM (fun x hx=>(e x hx).symm) q)

def YO (P : Program) (ops : Array Oper) (n : Nat) (h h2 : aa) (o : Oper) (x : AV) (fr : Fr) : Prop :=
 (di ops o fr = some true ∧ fv P n h o fr fun v h' => v = x ∧ h' = h2) ∨ (di ops o fr = some false ∧ x = .v undef ∧ h2 = h)

section
variable {P : Program} {ops : Array Oper} {n : Nat}

theorem YO.same {h h2 : aa} {o : Oper} {x : AV} {fr fr' : Fr} (hs : ∀ t ∈ o.looksAt ops,aL fr' t = aL fr t) (hy : YO P ops n h h2 o x fr) : YO P ops n h h2 o x fr':=by
 have hw : di ops o fr' = di ops o fr:=by
  unfold di
  cases hg : o.guard with
  | none=>rfl
  | some jw =>
    obtain ⟨j,w⟩:=jw
    simp only
    cases hd : cf ops j with
    | none=>rfl
    | some d =>
      have : aL fr' d = aL fr d:=hs d (by
       unfold Oper.looksAt
       refine List.mem_append_right _ ?_
       simp only [hg]
       unfold cf at hd
       rw [hd];simp)
      simp only [this]
 have he : ∀ y ∈ o.op.operands,ae fr' y = ae fr y:=by
  intro y hy
  cases y with
  | tmp t =>
    have : aL fr' t = aL fr t:=hs t (by
     unfold Oper.looksAt
     refine List.mem_append_left _ ?_
     simp only [List.mem_filterMap]
     exact ⟨.tmp t,by simpa using hy,rfl⟩)
    simp [ae,this]
  | _=>rfl
 unfold YO at *
 rw [hw]
 rcases hy with ⟨h1,h2⟩|h1
 ·exact .inl ⟨h1,fun fr2 base ι S a w e hr=>h2 fr2 base ι S a w (fun y hy=>(e y hy).trans (he y hy)) hr⟩
 ·exact .inr h1

theorem YO.sound {h h2 : aa} {i base : Nat} {o : Oper} {x : AV} {ι : List Ix} {S : aJ} {a : Act} {w : World} {fr : Fr} {K' : Act → World → Prop} {Q' : Exit → Act → World → Prop} (ho : ops[i]? = some o) (hr : ROK base ι S a w ⟨n,fr,h⟩)
 (hk : ∀ ι' S' a' w',Evo ι.length base ι S w ι' S' w' → h.length ≤ h2.length → ROK base ι' S' a' w' ⟨n,bj n fr o.dst x,h2⟩ → K' a' w') (q : YO P ops n h h2 o x fr) : wpOp P ops Q' i K' a w:=by
 unfold wpOp
 rw [ho]
 simp only
 rcases q with ⟨hw,hy⟩|⟨hw,rfl,rfl⟩
 ·rw [if_pos (iZ hr hw)]
  left
  refine ft (fun a' w' k=>?_) (fun _ _ _ k=>k) (hy fr base ι S a w (fun _ _=>rfl) hr Q')
  obtain ⟨ι',S',v,h',hE,hR,hl,rfl,rfl⟩:=k
  exact hk ι' S' a' w' hE hl hR
 ·rw [iZ hr hw]
  simp only [Bool.false_eq_true,if_false]
  have p:=hr.put (x:=.v undef) (v:=undef) o.dst (by simp)
  refine hk ι S _ w (Evo.refl _ _ _ _ _) (Nat.le_refl _) ?_
  cases hd : o.dst with
  | none=>rw [hd] at p;exact p
  | some t=>rw [hd] at p;exact p
end

/-! ### What is listed -/
section
variable (ops : Array Oper) (n : Nat) (V : Nat → AV) (lo : Nat → Bool)
def frL (fr0 : Fr) (L : Nat → Bool) : Nat → Fr
 | 0=>fr0
 | k + 1=>match L k with|true=>bj n (frL fr0 L k) (cf ops k) (V k)|false=>frL fr0 L k
def bw (L : Nat → Bool) : Nat → Nat
 | 0=>0
 | k + 1=>match L k && lo k with|true=>bw L k + 1|false=>bw L k
end

section
variable {ops : Array Oper} {n : Nat} {V : Nat → AV} {lo : Nat → Bool} {fr0 : Fr}
omit [Laid] in
theorem fF {l1 l2 : Nat → Bool} {t : Nat} : ∀ k,(∀ j,j < k → cf ops j = some t → l1 j = l2 j) → aL (frL ops n V fr0 l1 k) t = aL (frL ops n V fr0 l2 k) t
 | 0,_=>rfl
 | k + 1,h=>by
   have ih:=fF k fun j hj=>h j (by omega)
   by_cases hd : cf ops k = some t
   ·have e:=h k (by omega) hd
    unfold frL
    rw [e]
    cases l2 k with
    | false=>exact ih
    | true =>
      simp only
      rw [hd]
      unfold bj
      simp only
      split
      ·rw [bZ,bZ,if_pos rfl,if_pos rfl]
      ·exact ih
   ·have off : ∀ l : Nat → Bool,aL (frL ops n V fr0 l (k + 1)) t = aL (frL ops n V fr0 l k) t:=by
     intro l
     rw [frL]
     cases l k with
     | false=>rfl
     | true=>exact dw fun e he q=>hd (by rw [he,q])
    rw [off,off];exact ih
omit [Laid] in
theorem iI {L : Nat → Bool} {t : Nat} {k : Nat} : ∀ m,k ≤ m → (∀ j,k ≤ j → j < m → cf ops j = some t → L j = false) → aL (frL ops n V fr0 L m) t = aL (frL ops n V fr0 L k) t
 | 0,hk,_=>by rw [show k = 0 by omega]
 | m + 1,hk,h=>by
   by_cases e : k = m + 1
   ·rw [e]
   ·have ih:=iI m (by omega) fun j h1 h2=>h j h1 (by omega)
    rw [← ih,frL]
    cases hl : L m with
    | false=>rfl
    | true =>
      refine dw fun e he q=>?_
      have:=h m (by omega) (by omega) (by rw [he,q])
      rw [hl] at this;cases this
omit [Laid] in
theorem lK {L : Nat → Bool} : ∀ {k m : Nat},k ≤ m → bw lo L k ≤ bw lo L m
 | k,0,h=>by rw [show k = 0 by omega];exact Nat.le_refl _
 | k,m + 1,h=>by
   by_cases e : k = m + 1
   ·rw [e];exact Nat.le_refl _
   ·have:=lK (L:=L) (k:=k) (m:=m) (by omega)
    rw [bw]
    split <;> omega
omit [Laid] in
theorem ke {l1 l2 : Nat → Bool} : ∀ k,(∀ j,j < k → lo j = true → l1 j = l2 j) → bw lo l1 k = bw lo l2 k
 | 0,_=>rfl
 | k + 1,h=>by
   rw [bw,bw,ke k fun j hj=>h j (by omega)]
   cases hk : lo k with
   | false=>simp
   | true=>rw [h k (by omega) hk]
omit [Laid] in
theorem mX {l1 l2 : Nat → Bool} {i : Nat} (hi : l1 i = false) (h2 : ∀ j,l2 j = (l1 j || j == i)) : ∀ k,bw lo l2 k = bw lo l1 k + (if i < k ∧ lo i = true then 1 else 0)
 | 0=>by simp [bw]
 | k + 1=>by
   rw [bw,bw,mX hi h2 k,h2 k]
   by_cases e : k = i
   ·subst e
    simp only [hi,beq_self_eq_true,Bool.or_true,Bool.true_and,Bool.false_and]
    cases hk : lo k <;> simp
   ·have : (k == i) = false:=by simpa using e
    rw [this,Bool.or_false]
    have h3 : (i < k + 1 ∧ lo i = true) ↔ (i < k ∧ lo i = true):=⟨fun ⟨a,b⟩=>⟨by omega,b⟩,fun ⟨a,b⟩=>⟨by omega,b⟩⟩
    simp only [h3]
    split <;> (split <;> omega)
end

section
variable {lo : Nat → Bool}
omit [Laid] in
theorem ti (L : Nat → Bool) : ∀ k,bw lo L k ≤ bw lo (fun _=>true) k
 | 0=>Nat.le_refl _
 | k + 1=>by
   have:=ti L k
   rw [bw,bw]
   cases L k <;> cases lo k <;> simp <;> omega
omit [Laid] in
theorem tj {L : Nat → Bool} : ∀ N,(∀ i,i < N → L i = true) → bw (fun _=>true) L N = N
 | 0,_=>rfl
 | N + 1,h=>by
   rw [bw,h N (by omega),tj N fun i hi=>h i (by omega)];rfl
omit [Laid] in
theorem qh {L : Nat → Bool} : ∀ N,bw (fun _=>true) L N = N → ∀ i,i < N → L i = true
 | 0,_,i,hi=>by omega
 | N + 1,h,i,hi=>by
   have h2 : ∀ N,bw (fun _=>true) L N ≤ N:=by
    intro N
    induction N with
    | zero=>exact Nat.le_refl _
    | succ N ih=>rw [bw];split <;> omega
   have:=h2 N
   rw [bw] at h
   cases q : L N with
   | false=>rw [q] at h;simp only [Bool.false_and] at h;omega
   | true =>
     rw [q] at h
     simp only [Bool.and_self] at h
     by_cases e : i = N
     ·rw [e];exact q
     ·exact qh N (by omega) i (by omega)
end

structure jH (ops : Array Oper) (lo : Nat → Bool) (an : Nat → Nat → Bool) : Prop where
 back : ∀ i,i < ops.size → ∀ e ∈ cH ops i,e < i
 anc : ∀ i j,an i j = true → ∃ e ∈ cH ops i,e = j ∨ an e j = true
 apart : ∀ i j,i < ops.size → j < i → ∀ oi oj,ops[i]? = some oi → ops[j]? = some oj → (∃ t,(cf ops j = some t ∧ (t ∈ oi.looksAt ops ∨ cf ops i = some t)) ∨ (cf ops i = some t ∧ t ∈ oj.looksAt ops)) → an i j = true
 chain : ∀ i j,i < ops.size → j < i → lo i = true → lo j = true → an i j = true

section
variable {P : Program} {ops : Array Oper} {n : Nat} {V : Nat → AV} {lo : Nat → Bool} {fr0 : Fr} {an : Nat → Nat → Bool} {Hs : Nat → aa}
omit [Laid] in
theorem jH.listed (hE : jH ops lo an) {L : Array Bool} (hd : Down ops L) : ∀ (i : Nat),i < ops.size → (∀ e ∈ cH ops i,L.getD e false = true) → ∀ j,an i j = true → L.getD j false = true:=by
 intro i
 induction i using Nat.strongRecOn with
 | _ i ih =>
   intro hi ha j hj
   obtain ⟨e,he,q⟩:=hE.anc i j hj
   rcases q with rfl|q
   ·exact ha _ he
   ·have hlt:=hE.back i hi e he
    refine ih e hlt (by omega) (fun d hd' => ?_) j q
    have hle:=ha e he
    obtain ⟨o,ho⟩ : ∃ o,ops[e]? = some o:=⟨ops[e],Array.getElem?_eq_getElem (by omega)⟩
    unfold cH at hd'
    rw [ho] at hd'
    simp only [List.mem_map,List.mem_filter] at hd'
    obtain ⟨x,⟨hx,hb⟩,rfl⟩:=hd'
    exact hd e o ho hle x (by simpa using hx) hb
omit [Laid] in
theorem jH.gb (hE : jH ops lo an) {L : Array Bool} (hd : Down ops L) {i j : Nat} (hi : i < ops.size) (hl : L.getD i false = true) (hj : an i j = true) : L.getD j false = true:=by
 refine hE.listed hd i hi (fun e he=>?_) j hj
 obtain ⟨o,ho⟩ : ∃ o,ops[i]? = some o:=⟨ops[i],Array.getElem?_eq_getElem hi⟩
 unfold cH at he
 rw [ho] at he
 simp only [List.mem_map,List.mem_filter] at he
 obtain ⟨x,⟨hx,hb⟩,rfl⟩:=he
 exact hd i o ho hl x (by simpa using hx) hb
omit [Laid] in
theorem jH.lq (hE : jH ops lo an) {L : Array Bool} (hd : Down ops L) {i j : Nat} (hi : i < ops.size) (hr : i ∈ Region.ready .any ops L) (hj : an i j = true) : L.getD j false = true:=by
 refine hE.listed hd i hi (fun e he=>?_) j hj
 obtain ⟨_,o,ho,hall⟩:=mem_ready.1 hr
 unfold cH at he
 rw [ho] at he
 simp only [List.mem_map,List.mem_filter] at he
 obtain ⟨x,⟨hx,hb⟩,rfl⟩:=he
 exact hall x (by simpa using hx) hb

structure Leaves (P : Program) (ops : Array Oper) (n : Nat) (V : Nat → AV) (lo : Nat → Bool) (an : Nat → Nat → Bool) (fr0 : Fr) (Hs : Nat → aa) : Prop where
 O2 : ∀ i o,ops[i]? = some o → lo i = true → YO P ops n (Hs (bw lo (fun _=>true) i)) (Hs (bw lo (fun _=>true) i + 1)) o (V i) (frL ops n V fr0 (fun _=>true) i)
 quiet : ∀ i o,ops[i]? = some o → lo i = false → ∀ c,c ≤ bw lo (fun _=>true) ops.size → (∀ l,l < ops.size → lo l = true → (an i l = true → bw lo (fun _=>true) l < c) ∧ (an l i = true → c ≤ bw lo (fun _=>true) l)) →
  YO P ops n (Hs c) (Hs c) o (V i) (frL ops n V fr0 (fun _=>true) i)

theorem Ht (hE : jH ops lo an) (hL : Leaves P ops n V lo an fr0 Hs) {m : Nat} {Q : Exit → St → Prop} (hQ : ∀ fr,ja fr (frL ops n V fr0 (fun _=>true) ops.size) → Q .normal ⟨n,fr,Hs (bw lo (fun _=>true) ops.size)⟩) :
 ∀ (fuel : Nat) (L : Array Bool) (base : Nat) (ι : List Ix) (S : aJ) (a : Act) (w : World) (fr : Fr) (c : Nat),c = bw lo (fun i=>L.getD i false) ops.size → L.size = ops.size → Down ops L → m ≤ (Hs c).length → ROK base ι S a w ⟨n,fr,Hs c⟩ → ja fr (frL ops n V fr0 (fun i=>L.getD i false) ops.size) →
 bw (fun _=>true) (fun i=>L.getD i false) ops.size + fuel = ops.size → wpAny P .any ops (bQ m base ι S w Q) fuel L a w:=by
 intro fuel
 induction fuel with
 | zero =>
   intro L base ι S a w fr c hc hsz hd hm hr he hn
   have all : ∀ i,i < ops.size → L.getD i false = true:=qh (L:=fun i=>L.getD i false) ops.size (by omega)
   refine ⟨?_,ι,S,⟨n,fr,Hs c⟩,Evo.refl _ _ _ _ _,hm,hr, ?_⟩
   ·refine List.eq_nil_iff_forall_not_mem.2 fun i hi=>?_
    obtain ⟨h0,o,ho,_⟩:=mem_ready.1 hi
    exact iQ h0 (all i (Array.getElem?_eq_some_iff.1 ho).1)
   ·have e1 : bw lo (fun i=>L.getD i false) ops.size = bw lo (fun _=>true) ops.size:=ke _ fun j hj _=>all j hj
    rw [hc,e1]
    refine hQ fr fun t=>?_
    rw [he t]
    exact fF _ fun j hj _=>all j hj
 | succ fuel ih =>
   intro L base ι S a w fr c hc hsz hd hm hr he hn
   refine ⟨fun hnone=>?_,fun i hi=>?_⟩
   ·exfalso
    -- the first that is not listed is ready
    have : ∃ i,i < ops.size ∧ L.getD i false = false:=by
     refine Classical.byContradiction fun hno=>?_
     have all : ∀ i,i < ops.size → L.getD i false = true:=fun i hi=>by
      cases q : L.getD i false with
      | true=>rfl
      | false=>exact absurd ⟨i,hi,q⟩ hno
     rw [tj (L:=fun i=>L.getD i false) ops.size all] at hn
     omega
    obtain ⟨i,hi⟩:=this
    revert hi
    induction i using Nat.strongRecOn with
    | _ i ihi =>
      rintro ⟨hi,hl⟩
      by_cases q : ∃ e ∈ cH ops i,L.getD e false = false
      ·obtain ⟨e,h1,h2⟩:=q
       have:=hE.back i hi e h1
       exact ihi e this ⟨by omega,h2⟩
      ·have hmem : i ∈ Region.ready .any ops L:=by
        refine mem_ready.2 ⟨?_,ops[i],Array.getElem?_eq_getElem hi,fun e he hb=>?_⟩
        ·have hlt : i < L.size:=by omega
         simp [hlt] at hl ⊢;exact hl
        ·cases z : L.getD e.on false with
         | true=>rfl
         | false =>
           exact absurd ⟨e.on,by unfold cH;rw [Array.getElem?_eq_getElem hi];simp only [List.mem_map,List.mem_filter];exact ⟨e,⟨by simpa using he,hb⟩,rfl⟩,z⟩ q
       rw [hnone] at hmem;cases hmem
   ·obtain ⟨h0,o,ho,hall⟩:=mem_ready.1 hi
    have hlt : i < ops.size:=(Array.getElem?_eq_some_iff.1 ho).1
    have hl0 : L.getD i false = false:=by
     have : i < L.size:=by omega
     simp [this] at h0 ⊢;exact h0
    have hset : ∀ j,(L.setIfInBounds i true).getD j false = (L.getD j false || j == i):=by
     intro j
     by_cases q : j = i
     ·subst q
      have : j < L.size:=by omega
      simp [this]
     ·rw [getD_set_ne false (Ne.symm q)]
      have : (j == i) = false:=by simpa using q
      rw [this,Bool.or_false]
    -- slots
    have looks : ∀ t ∈ o.looksAt ops,aL fr t = aL (frL ops n V fr0 (fun _=>true) i) t:=by
     intro t ht
     rw [he t]
     have hst : aL (frL ops n V fr0 (fun j=>L.getD j false) ops.size) t = aL (frL ops n V fr0 (fun j=>L.getD j false) i) t:=by
      refine iI _ (by omega) fun j h1 h2 h3=>?_
      by_cases q : j = i
      ·subst q;exact hl0
      ·obtain ⟨oj,hoj⟩ : ∃ oj,ops[j]? = some oj:=⟨ops[j],Array.getElem?_eq_getElem h2⟩
       have ha:=hE.apart j i h2 (by omega) oj o hoj ho ⟨t,.inr ⟨h3,ht⟩⟩
       cases z : L.getD j false with
       | false=>rfl
       | true=>have:=hE.gb hd h2 z ha;rw [hl0] at this;cases this
     rw [hst]
     refine fF _ fun j hj hdj=>?_
     obtain ⟨oj,hoj⟩ : ∃ oj,ops[j]? = some oj:=⟨ops[j],Array.getElem?_eq_getElem (by omega)⟩
     exact hE.lq hd hlt hi (hE.apart i j hlt hj o oj ho hoj ⟨t,.inl ⟨hdj,.inl ht⟩⟩)
    -- memory
    have rank : ∀ l,l < ops.size → lo l = true → (L.getD l false = true → bw lo (fun _=>true) l < c) ∧ (L.getD l false = false → c ≤ bw lo (fun _=>true) l):=by
     intro l hl hlo
     have below : bw lo (fun j=>L.getD j false) (l + 1) ≤ c:=by rw [hc];exact lK (by omega)
     constructor
     ·intro q
      have e : bw lo (fun j=>L.getD j false) l = bw lo (fun _=>true) l:=ke _ fun j hj hjl=>hE.gb hd hl q (hE.chain l j hl hj hlo hjl)
      rw [bw,q,hlo] at below
      simp only [Bool.and_self] at below
      omega
     ·intro q
      have after : ∀ k,l ≤ k → k ≤ ops.size → bw lo (fun j=>L.getD j false) k = bw lo (fun j=>L.getD j false) l:=by
       intro k
       induction k with
       | zero=>intro h1 _;rw [show l = 0 by omega]
       | succ k ihk =>
         intro h1 h2
         by_cases e : l = k + 1
         ·rw [e]
         ·rw [bw]
          have hk : (L.getD k false && lo k) = false:=by
           cases z : L.getD k false with
           | false=>rfl
           | true =>
             cases y : lo k with
             | false=>rfl
             | true =>
               by_cases e2 : k = l
               ·subst e2;rw [q] at z;cases z
               ·have:=hE.gb hd (by omega) z (hE.chain k l (by omega) (by omega) y hlo)
                rw [q] at this;cases this
          rw [hk]
          exact ihk (by omega) (by omega)
      rw [hc,after _ (by omega) (Nat.le_refl _)]
      exact ti _ l
    have hc' : bw lo (fun j=>(L.setIfInBounds i true).getD j false) ops.size = c + (if lo i = true then 1 else 0):=by
     rw [mX (l1:=fun j=>L.getD j false) hl0 hset ops.size,← hc]
     simp [hlt]
    have hn' : bw (fun _=>true) (fun j=>(L.setIfInBounds i true).getD j false) ops.size + fuel = ops.size:=by
     rw [mX (l1:=fun j=>L.getD j false) hl0 hset ops.size]
     simp only [hlt,and_self,if_true]
     omega
    have hfr : ∀ fr',ja fr' (bj n fr o.dst (V i)) → ja fr' (frL ops n V fr0 (fun j=>(L.setIfInBounds i true).getD j false) ops.size):=by
     intro fr' hfr' t
     rw [hfr' t]
     have hdst : cf ops i = o.dst:=by unfold cf;rw [ho];rfl
     by_cases q : o.dst = some t
     ·have e1 : aL (frL ops n V fr0 (fun j=>(L.setIfInBounds i true).getD j false) ops.size) t = aL (frL ops n V fr0 (fun j=>(L.setIfInBounds i true).getD j false) (i + 1)) t:=by
       refine iI _ (by omega) fun j h1 h2 h3=>?_
       rw [hset]
       have hji : (j == i) = false:=by simp;omega
       rw [hji,Bool.or_false]
       obtain ⟨oj,hoj⟩ : ∃ oj,ops[j]? = some oj:=⟨ops[j],Array.getElem?_eq_getElem h2⟩
       have ha:=hE.apart j i h2 (by omega) oj o hoj ho ⟨t,.inl ⟨by rw [hdst];exact q,.inr h3⟩⟩
       cases z : L.getD j false with
       | false=>rfl
       | true=>have:=hE.gb hd h2 z ha;rw [hl0] at this;cases this
      rw [e1,frL,hset,beq_self_eq_true,Bool.or_true]
      simp only
      rw [hdst,q]
      unfold bj
      simp only
      split
      ·rw [bZ,bZ,if_pos rfl,if_pos rfl]
      ·rw [he t]
       have e2 : aL (frL ops n V fr0 (fun j=>L.getD j false) ops.size) t = aL (frL ops n V fr0 (fun j=>L.getD j false) i) t:=by
        refine iI _ (by omega) fun j h1 h2 h3=>?_
        by_cases e : j = i
        ·subst e;exact hl0
        ·obtain ⟨oj,hoj⟩ : ∃ oj,ops[j]? = some oj:=⟨ops[j],Array.getElem?_eq_getElem h2⟩
         have ha:=hE.apart j i h2 (by omega) oj o hoj ho ⟨t,.inl ⟨by rw [hdst];exact q,.inr h3⟩⟩
         cases z : L.getD j false with
         | false=>rfl
         | true=>have:=hE.gb hd h2 z ha;rw [hl0] at this;cases this
       rw [e2]
       refine fF _ fun j hj _=>?_
       rw [hset]
       have : (j == i) = false:=by simp;omega
       rw [this,Bool.or_false]
     ·have e1 : aL (bj n fr o.dst (V i)) t = aL fr t:=dw fun e he' q' => q (by rw [he',q'])
      rw [e1,he t]
      refine fF _ fun j hj hdj=>?_
      rw [hset]
      by_cases e : j = i
      ·subst e;rw [hdst] at hdj;exact absurd hdj q
      ·have : (j == i) = false:=by simpa using e
       rw [this,Bool.or_false]
    have go : ∀ (c2 : Nat),c2 = c + (if lo i = true then 1 else 0) → YO P ops n (Hs c) (Hs c2) o (V i) (frL ops n V fr0 (fun _=>true) i) → wpOp P ops (bQ m base ι S w Q) i (wpAny P .any ops (bQ m base ι S w Q) fuel (L.setIfInBounds i true)) a w:=by
     intro c2 hc2 hy
     refine (hy.same looks).sound ho hr (fun ι' S' a' w' hE' hlen hr' => ?_)
     have:=ih (L.setIfInBounds i true) base ι' S' a' w' _ c2 (by rw [hc',hc2]) (by simp [hsz]) (hd.set hi) (by omega) hr' (hfr _ fun _=>rfl) hn'
     refine cE (fun e a w z=>bQ.trans (hE'.mono (by rw [hr.hp.len];exact hm) (Nat.le_refl _)) z) _ _ _ _ this
    cases hlo : lo i with
    | true =>
      have hci : c = bw lo (fun _=>true) i:=by
       have h1:=(rank i hlt hlo).2 hl0
       have h2 : bw lo (fun j=>L.getD j false) i = bw lo (fun _=>true) i:=ke _ fun j hj hjl=>hE.lq hd hlt hi (hE.chain i j hlt hj hlo hjl)
       have h3 : bw lo (fun j=>L.getD j false) i ≤ c:=by rw [hc];exact lK (by omega)
       omega
      have hy:=hL.O2 i o ho hlo
      rw [← hci] at hy
      exact go _ (by simp [hlo]) hy
    | false =>
      refine go c (by simp [hlo]) (hL.quiet i o ho hlo c ?_ fun l hl hll=>⟨fun q=>(rank l hl hll).1 (hE.lq hd hlt hi q),fun q=>(rank l hl hll).2 ?_⟩)
      ·rw [hc];exact ti _ _
      ·cases z : L.getD l false with
       | false=>rfl
       | true=>have:=hE.gb hd hl z q;rw [hl0] at this;cases this

theorem DG {m id : Nat} {Q : Exit → St → Prop} {st : St} (hf : P.follows .mixedOrders = true) (hE : jH ops lo an) (hL : Leaves P ops st.n V lo an st.fr Hs) (h0 : Hs 0 = st.h)
 (hQ : ∀ fr,ja fr (frL ops st.n V st.fr (fun _=>true) ops.size) → Q .normal ⟨st.n,fr,Hs (bw lo (fun _=>true) ops.size)⟩) : AW P m (.region id ops true) Q st:=by
 intro base ι S a w hm hr
 obtain ⟨hEv,hr'⟩:=hr.drew
 refine wp_region_any hf (cE (fun e a w z=>bQ.trans (hEv.mono (by rw [hr.hp.len];exact hm) (Nat.le_refl _)) z) _ _ _ _ ?_)
 have none : ∀ i,(Array.replicate ops.size false).getD i false = false:=fun i=>by simp [Array.getD_eq_getD_getElem?,Array.getElem?_replicate];split <;> rfl
 have c0 : ∀ (f : Nat → Bool) k,bw f (fun i=>(Array.replicate ops.size false).getD i false) k = 0:=by
  intro f k
  induction k with
  | zero=>rfl
  | succ k ih=>rw [bw,none];exact ih
 have f0 : ∀ k,frL ops st.n V st.fr (fun i=>(Array.replicate ops.size false).getD i false) k = st.fr:=by
  intro k
  induction k with
  | zero=>rfl
  | succ k ih=>rw [frL,none];exact ih
 refine Ht hE hL hQ ops.size _ base ι S a _ st.fr 0 (c0 _ _).symm (by simp) (fun i o _ hl=>?_) (by rw [h0];exact hm) (by rw [h0];exact hr') (fun t=>by rw [f0]) (by rw [c0];omega)
 rw [none] at hl;cases hl
end

/-! ### What waits for what -/
def Nd (acc : List Nat) (l : List Nat) : Nat:=l.foldr (fun e s=>s ||| (1 <<< e) ||| acc.getD e 0) 0
def sC (ops : Array Oper) : Nat → List Nat
 | 0=>[]
 | k + 1=>sC ops k ++ [Nd (sC ops k) (cH ops k)]
def anB (ms : List Nat) (i j : Nat) : Bool:=(ms.getD i 0).testBit j
def xd (ops : Array Oper) (i : Nat) : List Tmp:=match ops[i]? with|some o=>o.looksAt ops|none=>[]
def G3 (d : Option Tmp) (l : List Tmp) : Bool:=match d with|some t=>l.contains t|none=>false
def A8 (ops : Array Oper) (i j : Nat) : Bool :=
 G3 (cf ops j) (xd ops i) || G3 (cf ops i) (xd ops j) || (match cf ops i,cf ops j with|some a,some b=>Nat.beq a b|_,_=>false)
def oz (ops : Array Oper) (lo : Nat → Bool) (ms : List Nat) (N : Nat) : Bool :=
 decide (ms.length ≤ N) && ms.all (fun x=>Nat.ble (x + 1) (2 ^ N)) && (List.range N).all fun i =>
  (cH ops i).all (fun e=>Nat.ble (e + 1) i) && (List.range N).all (fun j=>!anB ms i j || (cH ops i).any fun e=>Nat.beq e j || anB ms e j) && (List.range i).all fun j=>anB ms i j || !(A8 ops i j || (lo i && lo j))
section
omit [Laid]
theorem qj {ops : Array Oper} {lo : Nat → Bool} {ms : List Nat} (h : oz ops lo ms ops.size = true) : jH ops lo (anB ms):=by
 unfold oz at h
 simp only [Bool.and_eq_true,decide_eq_true_eq] at h
 obtain ⟨⟨h1,h2⟩,h3⟩:=h
 have at' : ∀ i,i < ops.size → ((∀ e ∈ cH ops i,e < i) ∧ (∀ j,j < ops.size → anB ms i j = true → ∃ e ∈ cH ops i,e = j ∨ anB ms e j = true) ∧ ∀ j,j < i → A8 ops i j = true ∨ (lo i = true ∧ lo j = true) → anB ms i j = true):=by
  intro i hi
  have:=List.all_eq_true.1 h3 i (by simpa using hi)
  simp only [Bool.and_eq_true] at this
  obtain ⟨⟨a,b⟩,c⟩:=this
  refine ⟨fun e he=>?_,fun j hj ha=>?_,fun j hj hc=>?_⟩
  ·have:=List.all_eq_true.1 a e he
   rw [Nat.ble_eq] at this;omega
  ·have:=List.all_eq_true.1 b j (by simpa using hj)
   rw [ha] at this
   simp only [Bool.not_true,Bool.false_or,List.any_eq_true,Bool.or_eq_true] at this
   obtain ⟨e,he,q⟩:=this
   exact ⟨e,he,q.imp Nat.eq_of_beq_eq_true id⟩
  ·have:=List.all_eq_true.1 c j (by simpa using hj)
   simp only [Bool.or_eq_true,Bool.not_eq_true',Bool.or_eq_false_iff,Bool.and_eq_false_iff] at this
   rcases this with q|⟨q1,q2⟩
   ·exact q
   ·rcases hc with r|⟨r1,r2⟩
    ·rw [q1] at r;cases r
    ·rcases q2 with q2|q2
     ·rw [q2] at r1;cases r1
     ·rw [q2] at r2;cases r2
 have anlt : ∀ i j,anB ms i j = true → i < ops.size ∧ j < ops.size:=by
  intro i j h
  unfold anB at h
  by_cases hi : i < ms.length
  ·refine ⟨by omega, ?_⟩
   have hm:=List.all_eq_true.1 h2 ms[i] (List.getElem_mem hi)
   rw [Nat.ble_eq] at hm
   rw [List.getD_eq_getElem?_getD,List.getElem?_eq_getElem hi] at h
   simp only [Option.getD_some] at h
   rcases Nat.lt_or_ge j ops.size with q|q
   ·exact q
   ·have : ms[i].testBit j = false:=Nat.testBit_lt_two_pow (Nat.lt_of_lt_of_le (show ms[i] < 2 ^ ops.size by omega) (Nat.pow_le_pow_right (by omega) q))
    rw [this] at h;cases h
  ·rw [List.getD_eq_getElem?_getD,List.getElem?_eq_none (by omega)] at h
   simp at h
 refine ⟨fun i hi=>(at' i hi).1,fun i j h=>(at' i (anlt i j h).1).2.1 j (anlt i j h).2 h,fun i j hi hj oi oj hoi hoj hc=>(at' i hi).2.2 j hj (.inl ?_),fun i j hi hj h1 h2=>(at' i hi).2.2 j hj (.inr ⟨h1,h2⟩)⟩
 unfold A8 xd G3
 rw [hoi,hoj]
 obtain ⟨t,⟨hd,hl⟩|⟨hd,hl⟩⟩:=hc
 ·rcases hl with hl|hl
  ·simp only [hd]
   simp only [Bool.or_eq_true]
   exact .inl (.inl (by simpa using hl))
  ·simp only [hd,hl]
   simp
 ·simp only [hd]
  simp only [Bool.or_eq_true]
  exact .inl (.inr (by simpa using hl))
end
end Go.Aw

