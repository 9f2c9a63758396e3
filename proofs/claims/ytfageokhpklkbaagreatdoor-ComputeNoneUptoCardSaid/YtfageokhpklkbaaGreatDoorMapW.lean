/-
 Words for maps of the call's own;statements that run in order,maps among them.
 No conditions: definitions and lemmas over any program.
-/
import Derived.Test.YtfageokhpklkbaaGreatDoorL3
import Derived.Test.YtfageokhpklkbaaGreatDoorL5
import Derived.Test.YtfageokhpklkbaaGreatDoorGoto
set_option linter.unusedVariables false
set_option linter.unusedSimpArgs false
namespace Go.Aw
open Go Go.RowKit Go.MapKept
variable [Laid]
/-! ### Words -/
def kW (h : aa) (K : AV → aa → Prop) : Prop:=K (.mp h.length) (h ++ [.mp 0 []])
def iK (d : TypeDesc) (m k x : AV) (h : aa) (KS : aa → Prop) : Prop :=
 match m with
 | .mp id=>(match h[id]? with
   | some (.mp c es)=>dR d k = true ∧ (match lG c k x es with
     | some (c',es')=>KS (h.set id (.mp c' es'))
     | none=>False)
   | _=>False)
 | _=>False
def gJ (d : TypeDesc) (ok : Bool) (z m k : AV) (h : aa) (K : AV → Prop) : Prop :=
 dR d k = true ∧ (match m with
 | .v (.map none)=>K (lkV ok z none)
 | .mp id=>(match h[id]? with
   | some (.mp _ es)=>(match hU k es with
     | some q=>K (lkV ok z q)
     | none=>False)
   | _=>False)
 | _=>False)
def ql (d : TypeDesc) (m k : AV) (h : aa) (K : AV → aa → Prop) : Prop :=
 match m with
 | .mp id=>(match h[id]? with
   | some (.mp c es)=>dR d k = true ∧ (match mb k es with
     | some es' => K (.tup []) (h.set id (.mp c es'))
     | none=>False)
   | _=>False)
 | _=>False
def oM (x : AV) (h : aa) (K : AV → aa → Prop) : Prop :=
 match x with
 | .mp id=>(match h[id]? with
   | some (.mp c _)=>K (.op h.length 0) (h ++ [.it id c [] c])
   | _=>False)
 | _=>False
def oI (x : AV) (h : aa) (K : AV → Prop) : Prop :=
 match x with
 | .op id 0=>(match h[id]? with
   | some (.it m _ sn l)=>(match h[m]? with
     | some (.mp c es)=>c = l ∧ (match kp sn with
       | some n=>(match gh n es with
         | some (k,v)=>K (.tup [k,v])
         | none=>False)
       | none=>False)
     | _=>False)
   | _=>False)
 | _=>False
def oL (x : AV) (h : aa) (K : AV → aa → Prop) : Prop :=
 match x with
 | .op id 0=>(match h[id]? with
   | some (.it m s sn l)=>(match h[m]? with
     | some (.mp c es)=>(jW s es = true ∧ s ≤ l) ∧ (du sn es = [] → K (.tup [bool false]) (h.set id .dead)) ∧ ∀ p ∈ du sn es,K (.tup [bool true,p.2.1,p.2.2]) (h.set id (.it m s (fU p.1 sn) c))
     | _=>False)
   | _=>False)
 | _=>False
def rR (neg : Bool) (x : AV) (K : AV → Prop) : Prop :=
 match x with
 | .v (.map none)=>K (bool (fo neg true))
 | .mp _=>K (bool (fo neg false))
 | _=>False
def sS (P : Program) (own : Bool) (ev : Operand → AV) (h : aa) (op : Op) (K : AV → aa → Prop) : Prop :=
 match op with
 | .makeMap _ none=>kW h K
 | .mapUpdate t m k x=>(match P.underlying t with
   | some (.map kt _)=>(match P.underlying kt with
     | some d=>iK d (ev m) (ev k) (ev x) h fun h' => K (.v undef) h'
     | none=>False)
   | _=>False)
 | .insert t m k x=>(match P.underlying t with
   | some (.map kt _)=>(match P.underlying kt with
     | some d=>iK d (ev m) (ev k) (ev x) h fun h' => K (.v undef) h'
     | none=>False)
   | _=>False)
 | .lookup t m k ok=>(match P.underlying t with
   | some (.map kt et)=>(match P.underlying kt,cU P et with
     | some d,some z=>gJ d ok z (ev m) (ev k) h fun v=>K v h
     | _,_=>False)
   | _=>False)
 | .range t x=>(match P.underlying t with
   | some (.map _ _)=>oM (ev x) h K
   | _=>False)
 | .entry x=>oI (ev x) h fun v=>K v h
 | .next x false=>oL (ev x) h K
 | .binOp bo t x y yt=>(match P.underlying t with
   | some (.map _ _)=>(match bo,y with
     | .eql,.const (.map none)=>rR false (ev x) fun v=>K v h
     | .neq,.const (.map none)=>rR true (ev x) fun v=>K v h
     | _,_=>False)
   | _=>bg P own ev h (.binOp bo t x y yt) K)
 | .call c=>(match c.callee with
   | .builtin .delete=>(match c.argTypes.toList,c.args.toList with
     | [t,_],[m,k]=>(match P.underlying t with
       | some (.map kt _)=>(match P.underlying kt with
         | some d=>ql d (ev m) (ev k) h K
         | none=>False)
       | _=>False)
     | _,_=>False)
   | _=>bg P own ev h (.call c) K)
 | op=>bg P own ev h op K
section
variable {P : Program} {o : Oper} {base : Nat} {ι : List Ix} {S : aJ} {a : Act} {w : World} {st : St} {K : AV → aa → Prop}
theorem H7 {t kt et : TypeId} {d : TypeDesc} {m k x : Operand} (hr : ROK base ι S a w st) (ho : o.op = .mapUpdate t m k x ∨ o.op = .insert t m k x) (ht : P.underlying t = some (.map kt et)) (hd : P.underlying kt = some d)
 (h : iK d (ae st.fr m) (ae st.fr k) (ae st.fr x) st.h fun h' => K (.v undef) h') : bk P o base ι S a w st K:=by
 unfold iK at h
 split at h
 ·rename_i id hm
  split at h
  ·rename_i c es he
   obtain ⟨hk,h⟩:=h
   split at h
   ·rename_i c' es' hu
    exact Fw hr ho ht hd hm hk he hu h
   ·exact h.elim
  ·exact h.elim
 ·exact h.elim
theorem yu {own : Bool} (hr : ROK base ι S a w st) (h : sS P own (ae st.fr) st.h o.op K) : bk P o base ι S a w st K:=by
 have plain : bg P own (ae st.fr) st.h o.op K → bk P o base ι S a w st K:=fun q=>fJ hr q
 generalize ho : o.op = op at h plain
 unfold sS at h
 split at h
 ·exact ud hr ho (.inl rfl) h
 ·split at h
  ·rename_i ht
   split at h
   ·rename_i hd;exact H7 hr (.inl ho) ht hd h
   ·exact h.elim
  ·exact h.elim
 ·split at h
  ·rename_i ht
   split at h
   ·rename_i hd;exact H7 hr (.inr ho) ht hd h
   ·exact h.elim
  ·exact h.elim
 ·split at h
  ·rename_i ht
   split at h
   ·rename_i hd hz
    unfold gJ at h
    obtain ⟨hk,h⟩:=h
    split at h
    ·rename_i hm;exact sN hr ho ht hd hz hk (.inl ⟨hm,rfl⟩) h
    ·rename_i id hm
     split at h
     ·rename_i c es he
      split at h
      ·rename_i q hq;exact sN hr ho ht hd hz hk (.inr ⟨id,c,es,hm,he,hq⟩) h
      ·exact h.elim
     ·exact h.elim
    ·exact h.elim
   ·exact h.elim
  ·exact h.elim
 ·split at h
  ·rename_i ht
   unfold oM at h
   split at h
   ·rename_i id hm
    split at h
    ·rename_i he;exact Ih hr ho ht hm he h
    ·exact h.elim
   ·exact h.elim
  ·exact h.elim
 ·unfold oI at h
  split at h
  ·rename_i id hx
   split at h
   ·rename_i hi
    split at h
    ·rename_i he
     obtain ⟨hcl,h⟩:=h
     split at h
     ·rename_i hl
      split at h
      ·rename_i hb;exact AK hr ho hx hi he hcl hl hb h
      ·exact h.elim
     ·exact h.elim
    ·exact h.elim
   ·exact h.elim
  ·exact h.elim
 ·unfold oL at h
  split at h
  ·rename_i id hx
   split at h
   ·rename_i hi
    split at h
    ·rename_i he
     obtain ⟨⟨hb,hs⟩,h0,h1⟩:=h
     exact Fy hr ho hx hi he hb hs h0 h1
    ·exact h.elim
   ·exact h.elim
  ·exact h.elim
 ·split at h
  ·rename_i ht
   split at h
   ·unfold rR at h
    split at h
    ·rename_i hx;exact mG (neg:=false) (b:=true) hr ho ht (.inl ⟨hx,rfl⟩) h
    ·rename_i id hx;exact mG (neg:=false) (b:=false) hr ho ht (.inr ⟨id,hx,rfl⟩) h
    ·exact h.elim
   ·unfold rR at h
    split at h
    ·rename_i hx;exact mG (neg:=true) (b:=true) hr ho ht (.inl ⟨hx,rfl⟩) h
    ·rename_i id hx;exact mG (neg:=true) (b:=false) hr ho ht (.inr ⟨id,hx,rfl⟩) h
    ·exact h.elim
   ·exact h.elim
  ·exact plain h
 ·split at h
  ·rename_i hc
   split at h
   ·rename_i hat hax
    split at h
    ·rename_i ht
     split at h
     ·rename_i hd
      unfold ql at h
      split at h
      ·rename_i id hm
       split at h
       ·rename_i he
        obtain ⟨hk,h⟩:=h
        split at h
        ·rename_i hu;exact Fv hr ho hc hat hax ht hd hm hk he hu h
        ·exact h.elim
       ·exact h.elim
      ·exact h.elim
     ·exact h.elim
    ·exact h.elim
   ·exact h.elim
  ·exact plain h
 ·exact plain h
end

section
variable (P : Program) (ops : Array Oper)
def sR : List (Nat × Bool) → St → (St → Prop) → Prop
 | [],st,K=>K st
 | (i,own) :: r,st,K=>match ops[i]? with
  | some o=>sS P own (ae st.fr) st.h o.op fun v h=>sR r (fh st o.dst v h) K
  | none=>False
def gN : List Seg → St → (St → Prop) → Prop
 | [],st,K=>K st
 | .op i own :: r,st,K=>(match ops[i]? with
   | some o=>sS P own (ae st.fr) st.h o.op fun v h=>gN r (fh st o.dst v h) K
   | none=>False)
 | .grp j want l cs ms :: r,st,K=>(match cf ops j with
   | some d=>aQ (fun J=>aK (aL st.fr d) want (sR P ops l ⟨st.n,bK st.fr d (.v (.bool want)),st.h⟩ fun st' => jmp cs ms st.fr st'.fr st'.h J)
    (jmp cs ms st.fr (noL ops l ⟨st.n,bK st.fr d (bu want (aL st.fr d)),st.h⟩).fr st.h J)) fun s h=>gN r ⟨st.n,join cs ms st.fr s,h⟩ K
   | none=>False)
end
section
variable {P : Program} {ops : Array Oper} {m : Nat} {Q : Exit → St → Prop}
theorem sX {own : Bool} {i : Nat} {o : Oper} {l : List Nat} {K : St → Prop} (ho : ops[i]? = some o) {base : Nat} {ι : List Ix} {S : aJ} {a : Act} {w : World} {st : St} (hm : m ≤ st.h.length) (hr : ROK base ι S a w st)
 (hw : Region.wanted o (yielded ops a.tmps) = true) {K' : AV → aa → Prop} (h : sS P own (ae st.fr) st.h o.op K')
 (next : ∀ v h' ι' S' a' w',K' v h' → m ≤ h'.length → ROK base ι' S' a' w' (fh st o.dst v h') → wpOps P ops (bQ m base ι' S' w' (dv K Q)) l a' w') :
 wpOps P ops (bQ m base ι S w (dv K Q)) (i :: l) a w:=by
 simp only [wpOps,ho]
 rw [if_pos hw]
 left
 have:=yu (P:=P) (o:=o) (a:=a) hr h (bQ m base ι S w (dv K Q))
 refine ft (fun a' w' k=>?_) (fun _ _ _ k=>k) this
 obtain ⟨ι',S',v,h2,hE,hR,hl,hk⟩:=k
 refine gq (fun e a w k=>?_) l a' w' (next v h2 ι' S' a' w' hk (by omega) hR)
 exact bQ.trans (hE.mono (by rw [hr.hp.len];exact hm) (Nat.le_refl _)) k
theorem xC {j d : Nat} {want : Bool} (hd : cf ops j = some d) {K : St → Prop} {rest : List Nat} : ∀ (l : List (Nat × Bool)) (base : Nat) (ι : List Ix) (S : aJ) (a : Act) (w : World) (st : St) (K' : St → Prop),
 l.all (fun p=>match ops[p.1]? with|some o=>o.guard == some (j,want)|none=>false) = true → (l.dropLast).all (fun p=>match ops[p.1]? with|some o=>o.dst != some d|none=>false) = true →
 m ≤ st.h.length → ROK base ι S a w st → (l ≠ [] → aL st.fr d = .v (.bool want)) → sR P ops l st K' →
 (∀ st' ι' S' a' w',K' st' → m ≤ st'.h.length → st'.n = st.n → ROK base ι' S' a' w' st' → wpOps P ops (bQ m base ι' S' w' (dv K Q)) rest a' w') →
 wpOps P ops (bQ m base ι S w (dv K Q)) (l.map (·.1) ++ rest) a w
 | [],base,ι,S,a,w,st,K',_,_,hm,hr,_,h,next=>next st ι S a w h hm rfl hr
 | (i,own) :: l,base,ι,S,a,w,st,K',hgs,hds,hm,hr,hc,h,next=>by
  simp only [List.all_cons,Bool.and_eq_true] at hgs
  obtain ⟨hg,hgs⟩:=hgs
  simp only [sR] at h
  cases ho : ops[i]? with
  | none=>rw [ho] at h;exact h.elim
  | some o =>
    simp only [ho,beq_iff_eq] at hg h
    simp only [List.map_cons,List.cons_append]
    have hy:=(ib hr hd).1 want (hc (by simp))
    refine sX ho hm hr (by rw [my hg,hy];simp) h fun v h' ι' S' a' w' k hm' hr' => ?_
    refine xC hd l base ι' S' a' w' _ K' hgs ?_ hm' hr' (fun hne=>?_) k (fun st' ι2 S2 a2 w2 k2 m2 n2 r2=>next st' ι2 S2 a2 w2 k2 m2 (by rw [n2];rfl) r2)
    ·cases l with
     | nil=>rfl
     | cons p l=>simp only [List.dropLast_cons_cons,List.all_cons,Bool.and_eq_true] at hds;exact hds.2
    ·cases l with
     | nil=>exact absurd rfl hne
     | cons p l =>
       simp only [List.dropLast_cons_cons,List.all_cons,Bool.and_eq_true,ho,bne_iff_ne,ne_eq] at hds
       rw [oG hds.1];exact hc (by simp)
theorem mq {K : St → Prop} : ∀ (l : List Seg) (base : Nat) (ι : List Ix) (S : aJ) (a : Act) (w : World) (st : St),l.all (fT ops) = true → m ≤ st.h.length → ROK base ι S a w st → gN P ops l st K →
 wpOps P ops (bQ m base ι S w (dv K Q)) (l.map Seg.ix).flatten a w
 | [],base,ι,S,a,w,st,_,hm,hr,h=>⟨ι,S,st,Evo.refl _ _ _ _ _,hm,hr,h⟩
 | .op i own :: r,base,ι,S,a,w,st,hok,hm,hr,h=>by
   simp only [List.all_cons,Bool.and_eq_true] at hok
   obtain ⟨hg,hok⟩:=hok
   simp only [gN] at h
   simp only [List.map_cons,List.flatten_cons,Seg.ix,List.singleton_append]
   cases ho : ops[i]? with
   | none=>rw [ho] at h;exact h.elim
   | some o =>
     simp only [ho] at h
     simp only [fT,ho,Option.isNone_iff_eq_none] at hg
     exact sX ho hm hr (by simp [Region.wanted,hg]) h fun v h' ι' S' a' w' k hm' hr' => mq r base ι' S' a' w' _ hok hm' hr' k
 | .grp j want l cs ms :: r,base,ι,S,a,w,st,hok,hm,hr,h=>by
   simp only [List.all_cons,Bool.and_eq_true] at hok
   obtain ⟨hg,hok⟩:=hok
   simp only [gN] at h
   simp only [List.map_cons,List.flatten_cons,Seg.ix]
   cases hd : cf ops j with
   | none=>rw [hd] at h;exact h.elim
   | some d =>
     simp only [hd] at h
     simp only [fT,hd,Bool.and_eq_true] at hg
     unfold aQ at h
     have after : ∀ {st' : St} {ι' : List Ix} {S' : aJ} {a' : Act} {w' : World},st'.n = st.n → jmp cs ms st.fr st'.fr st'.h (fun s h=>gN P ops r ⟨st.n,join cs ms st.fr s,h⟩ K) → m ≤ st'.h.length → ROK base ι' S' a' w' st' →
      wpOps P ops (bQ m base ι' S' w' (dv K Q)) (r.map Seg.ix).flatten a' w':=by
      intro st' ι' S' a' w' hn q hm' hr'
      obtain ⟨e1,k⟩:=jv q
      exact mq r base ι' S' a' w' ⟨st.n,join cs ms st.fr (cN st'.fr ms),st'.h⟩ hok hm' ⟨hr'.df,by rw [← hn];exact hr'.sz,hr'.fr.join e1,hr'.hp⟩ k
     have rv:=hr.get d
     rcases h with ⟨t,ht0,g1,g2⟩|⟨hu,g2⟩
     ·rw [ht0] at rv
      by_cases ht : t = want
      ·subst ht
       have hr2 : ROK base ι S a w ⟨st.n,bK st.fr d (.v (.bool t)),st.h⟩:=⟨hr.df,hr.sz,cp.say hr.fr rv,hr.hp⟩
       exact xC hd l base ι S a w ⟨st.n,bK st.fr d (.v (.bool t)),st.h⟩ _ hg.1 hg.2 hm hr2 (fun _=>by simp [bZ]) (g1 rfl) fun st' ι' S' a' w' k hm' hn' hr' => after hn' k hm' hr'
      ·have ht' : t = !want:=by cases t <;> cases want <;> simp_all
       subst ht'
       have hr2 : ROK base ι S a w ⟨st.n,bK st.fr d (bu want (aL st.fr d)),st.h⟩:=⟨hr.df,hr.sz,cp.say hr.fr (by rw [ht0];exact rv),hr.hp⟩
       refine jV hd l base ι S a w _ hg.1 hg.2 hr2 (fun _=>.inl (by simp [bZ,ht0,bu])) fun a' hr' => ?_
       have hh:=pJ ops l ⟨st.n,bK st.fr d (bu want (aL st.fr d)),st.h⟩
       exact after hh.2 (by rw [hh.1];exact g2 rfl) (by rw [hh.1];exact hm) hr'
     ·have hr2 : ROK base ι S a w ⟨st.n,bK st.fr d (bu want (aL st.fr d)),st.h⟩:=⟨hr.df,hr.sz,cp.say hr.fr (by rw [hu] at rv ⊢;exact rv),hr.hp⟩
      refine jV hd l base ι S a w _ hg.1 hg.2 hr2 (fun _=>.inr (by simp only [bZ,if_true,hu];rfl)) fun a' hr' => ?_
      have hh:=pJ ops l ⟨st.n,bK st.fr d (bu want (aL st.fr d)),st.h⟩
      exact after hh.2 (by rw [hh.1];exact g2) (by rw [hh.1];exact hm) hr'
end

/-! ### Jumps back to a label -/
def vm (l : Nat) (J : St → Prop) (Q : Exit → St → Prop) : Exit → St → Prop
 | .goto l',st=>req (Nat.beq l' l) (J st)
 | e,st=>Q e st
def Ca (h : aa) (first : (List AV → aa → Prop) → Prop) (body : (List AV → aa → Prop) → List AV → aa → Prop) : Prop :=
 ∃ (α : Type) (I : α → Prop) (f : α → List AV) (g : α → aa) (μ : α → Nat),first (fun s' h' => ∃ y,I y ∧ Wk h.length s' h' (f y) (g y)) ∧
  ∀ x,I x → body (fun s' h' => ∃ y,I y ∧ Wk h.length s' h' (f y) (g y) ∧ μ y < μ x) (f x) (g x)
theorem y7 {α : Type} (I : α → Prop) (f : α → List AV) (g : α → aa) (μ : α → Nat) {h : aa} {first : (List AV → aa → Prop) → Prop} {body : (List AV → aa → Prop) → List AV → aa → Prop} (h0 : first (fun s' h' => ∃ y,I y ∧ Wk h.length s' h' (f y) (g y)))
 (step : ∀ x,I x → body (fun s' h' => ∃ y,I y ∧ Wk h.length s' h' (f y) (g y) ∧ μ y < μ x) (f x) (g x)) : Ca h first body:=⟨α,I,f,g,μ,h0,step⟩
def ivm (P : Program) : Nat → Code → An → (Exit → St → Prop) → St → Prop
 | 0,_,_,_,_=>False
 | n + 1,c,t,Q,st=>match c with
   | .skip=>Q .normal st
   | .ret=>Q .ret st
   | .exit id=>Q (.exit id) st
   | .label _=>Q .normal st
   | .goto l=>Q (.goto l) st
   | .seq a b=>(match t with
     | .join cs ms _ _=>aQ (fun J=>ivm P n a t.l (dv (fun st' => req (Nat.beq st'.n st.n) (jmp cs ms st.fr st'.fr st'.h J)) Q) st) fun s h=>ivm P n b t.r Q ⟨st.n,join cs ms st.fr s,h⟩
     | _=>ivm P n a t.l (dv (fun st=>ivm P n b t.r Q st) Q) st)
   | .block id c=>ivm P n c t.l (od id Q) st
   | .cond c a b=>(match c with
     | .tmp x=>ao (aL st.fr x) (ivm P n a t.l Q ⟨st.n,bK st.fr x (.v (.bool true)),st.h⟩) (ivm P n b t.r Q ⟨st.n,bK st.fr x (.v (.bool false)),st.h⟩)
     | c=>ao (ae st.fr c) (ivm P n a t.l Q st) (ivm P n b t.r Q st))
   | .region id ops draw=>(match draw with
     | false=>req (sP ops (t.sg ops.size)) (gN P ops (t.sg ops.size) st (Q .normal))
     | true=>ivc P (.region id ops true) t Q st)
   | .loop c=>(match t with
     | .loop cs ms a=>bO (cN st.fr ms) st.h fun next s h=>ivm P n c a (dv (fun st' => req (Nat.beq st'.n st.n) (jmp cs ms st.fr st'.fr st'.h next)) Q) ⟨st.n,join cs ms st.fr s,h⟩
     | _=>False)
   | .scope c=>(match t.l.j,t.r.j with
     | some ([l],_),some (cs,ms)=>(match findLabel c l with
       | some rest=>Ca st.h (fun N=>ivm P n c t.r.l (vm l (fun st' => req (Nat.beq st'.n st.n) (jmp cs ms st.fr st'.fr st'.h N)) Q) st)
        fun N s h=>ivm P n rest t.r.r (vm l (fun st' => req (Nat.beq st'.n st.n) (jmp cs ms st.fr st'.fr st'.h N)) Q) ⟨st.n,join cs ms st.fr s,h⟩
       | none=>False)
     | _,_=>False)
   | _=>False
theorem Il {P : Program} {m l : Nat} {Q : Exit → St → Prop} {c rest : Code} {st : St} {cs ms : List Nat} (hm : m ≤ st.h.length) (hl : findLabel c l = some rest) (first : (List AV → aa → Prop) → Prop) (body : (List AV → aa → Prop) → List AV → aa → Prop)
 (hf : ∀ next,first next → AW P st.h.length c (vm l (fun st' => req (Nat.beq st'.n st.n) (jmp cs ms st.fr st'.fr st'.h next)) Q) st)
 (hb : ∀ next s h,st.h.length ≤ h.length → body next s h → AW P st.h.length rest (vm l (fun st' => req (Nat.beq st'.n st.n) (jmp cs ms st.fr st'.fr st'.h next)) Q) ⟨st.n,join cs ms st.fr s,h⟩)
 (hs : Ca st.h first body) : AW P m (.scope c) Q st:=by
 obtain ⟨α,I,f,g,μ,h0,round⟩:=hs
 intro base ι S a w _ hr
 let Inv : α → Act → World → Prop:=fun x a' w' => I x ∧ ∃ ι' S',Evo st.h.length base ι S w ι' S' w' ∧ st.h.length ≤ (g x).length ∧ ROK base ι' S' a' w' ⟨st.n,join cs ms st.fr (f x),g x⟩ ∧ cp ι' S' w' (fH cs st.fr) a'.tmps
 have enter : ∀ {x : α} {a' : Act} {w' : World} {ι1 : List Ix} {S1 : aJ} {s : List AV} {h' : aa},Evo st.h.length base ι S w ι1 S1 w' → a'.defers = [] → a'.tmps.size = st.n → HOK base ι1 S1 w' h' → cp ι1 S1 w' (fH cs st.fr) a'.tmps → au ι1 S1 w' s (ms.map fun t=>a'.tmps.getD t undef) →
  I x → Wk st.h.length s h' (f x) (g x) → Inv x a' w':=by
  intro x a' w' ι1 S1 s h' hE hdf hsz hp hc hs hI hw
  obtain ⟨hw1,hw2,hw3⟩:=hw
  obtain ⟨ι2,S2,hE2,hs2,hp2⟩:=hw3 base ι1 S1 w' _ hs hp
  have hc2 : cp ι2 S2 w' (fH cs st.fr) a'.tmps:=by
   intro t
   have hbd : Bd st.h.length (aL (fH cs st.fr) t):=by
    rcases iz cs st.fr t with q|⟨_,q⟩
    ·rw [q];simp [Bd]
    ·rw [q];exact Rep.bd (by rw [hr.hp.len];exact Nat.le_refl _) _ _ (hr.fr t)
   exact Rep.eD hE2 _ _ hbd (hc t)
  exact ⟨hI,ι2,S2,hE.trans hE2,hw1,⟨hdf,hsz,cp.ig ms _ _ 0 hc2 fun i t e=>by rw [Nat.zero_add];exact hs2.nx (by rw [List.getElem?_map,e];rfl),hp2⟩,hc2⟩
 refine uU l (fun k a' w' => ∃ x,μ x = k ∧ Inv x a' w') hl ?_ ?_
 ·refine wp_mono (hf _ h0 base ι S a w (Nat.le_refl _) hr) ?_
  intro e a'' w'' k
  obtain ⟨ι'',S'',st'',h1,h2,h3,h4⟩:=k
  have out : Q e st'' → bQ m base ι S w Q e a'' w'':=fun q=>⟨ι'',S'',st'',h1.mono hm (Nat.le_refl _),Nat.le_trans hm h2,h3,q⟩
  cases e with
  | goto l' =>
    obtain ⟨hll,h4⟩:=aU h4
    obtain ⟨hn,q⟩:=aU h4
    obtain ⟨e1,y,hy,hw⟩:=jv q
    have hn : st''.n = st.n:=Nat.eq_of_beq_eq_true hn
    exact ⟨Nat.eq_of_beq_eq_true hll,_,y,rfl,enter h1 h3.df (by rw [← hn];exact h3.sz) h3.hp (h3.fr.fm e1) (au.az h3.fr ms) hy hw⟩
  | normal=>exact out h4
  | exit id=>exact out h4
  | ret=>exact out h4
  | panic ch=>exact out h4
  | outgrown=>exact out h4
 ·rintro k a' w' ⟨x,rfl,hx,ι',S',hE,hm',hr',_⟩
  refine wp_mono (hb _ _ _ hm' (round x hx) base ι' S' a' w' hm' hr') ?_
  intro e a'' w'' k
  obtain ⟨ι'',S'',st'',h1,h2,h3,h4⟩:=k
  have out : Q e st'' → bQ m base ι S w Q e a'' w'':=fun q=>⟨ι'',S'',st'',(hE.trans h1).mono hm (Nat.le_refl _),Nat.le_trans hm h2,h3,q⟩
  cases e with
  | goto l' =>
    obtain ⟨hll,h4⟩:=aU h4
    obtain ⟨hn,q⟩:=aU h4
    obtain ⟨e1,y,hy,hw,hlt⟩:=jv q
    have hn : st''.n = st.n:=Nat.eq_of_beq_eq_true hn
    exact ⟨Nat.eq_of_beq_eq_true hll,_,hlt,y,rfl,enter (hE.trans h1) h3.df (by rw [← hn];exact h3.sz) h3.hp (h3.fr.fm e1) (au.az h3.fr ms) hy hw⟩
  | normal=>exact out h4
  | exit id=>exact out h4
  | ret=>exact out h4
  | panic ch=>exact out h4
  | outgrown=>exact out h4
theorem uO {P : Program} : ∀ (n : Nat) (c : Code) (t : An) (Q : Exit → St → Prop) (st : St) (m : Nat),m ≤ st.h.length → ivm P n c t Q st → AW P m c Q st
 | 0,_,_,_,_,_,_,h=>h.elim
 | n + 1,c,t,Q,st,m,hm,h=>by
   have ih:=uO (P:=P) n
   cases c with
   | skip=>exact ta h
   | ret=>exact vt h
   | exit id=>exact sZ h
   | label l=>exact p7 h
   | goto l=>exact yz h
   | seq a b =>
     simp only [ivm] at h
     split at h
     ·rename_i cs ms a' b'
      refine mz (AW.sE (ih a _ _ st m hm h) fun e st' hm' k=>?_)
      cases e with
      | normal =>
        obtain ⟨hn,q⟩:=aU k
        obtain ⟨e1,k⟩:=jv q
        have hn : st'.n = st.n:=Nat.eq_of_beq_eq_true hn
        intro base ι S ac w _ hr
        exact ih b _ Q ⟨st.n,join cs ms st.fr (cN st'.fr ms),st'.h⟩ m hm' k base ι S ac w hm' ⟨hr.df,by rw [← hn];exact hr.sz,hr.fr.join e1,hr.hp⟩
      | _=>exact k
     ·refine mz (AW.sE (ih a _ _ st m hm h) fun e st' hm' k=>?_)
      cases e with
      | normal=>exact ih b _ Q _ m hm' k
      | _=>exact k
   | block id c=>exact p6 (ih c t.l _ st m hm h)
   | cond c a b =>
     intro base ι S ac w hm' hr
     simp only [ivm] at h
     have other : ∀ {x : AV},Rep ι S w x (ac.eval c) → ao x (ivm P n a t.l Q st) (ivm P n b t.r Q st) → (Code.cond c a b).wp P (bQ m base ι S w Q) ac w:=by
      rintro x rx ⟨b',rfl,h1,h2⟩
      rw [bL] at rx
      cases b' with
      | true=>exact wp_cond_true rx (ih a t.l Q st m hm (h1 rfl) base ι S ac w hm hr)
      | false=>exact wp_cond_false rx (ih b t.r Q st m hm (h2 rfl) base ι S ac w hm hr)
     split at h
     ·rename_i x
      have rv:=hr.get x
      obtain ⟨b',e,h1,h2⟩:=h
      rw [e] at rv
      have he : ac.eval (.tmp x) = .bool b':=by rw [bL] at rv;exact rv
      cases b' with
      | true=>exact wp_cond_true he (ih a t.l Q ⟨st.n,bK st.fr x (.v (.bool true)),st.h⟩ m hm (h1 rfl) base ι S ac w hm ⟨hr.df,hr.sz,cp.say hr.fr rv,hr.hp⟩)
      | false=>exact wp_cond_false he (ih b t.r Q ⟨st.n,bK st.fr x (.v (.bool false)),st.h⟩ m hm (h2 rfl) base ι S ac w hm ⟨hr.df,hr.sz,cp.say hr.fr rv,hr.hp⟩)
     ·exact other (hr.eval _) h
   | region id ops draw =>
     cases draw with
     | false =>
       obtain ⟨hok,h⟩:=aU h
       simp only [sP,Bool.and_eq_true,beq_iff_eq] at hok
       intro base ι S a w _ hr
       have:=mq (m:=m) (Q:=Q) _ base ι S a w st hok.1 hm hr h
       rw [hok.2,sU] at this
       exact wp_region this
     | true=>exact eC _ t Q st m hm h
   | loop c =>
     simp only [ivm] at h
     split at h
     ·rename_i cs ms a
      exact vr (cs:=cs) (ms:=ms) hm _ (fun next s h' hl k=>ih c a _ _ st.h.length hl k) h
     ·exact h.elim
   | scope c =>
     simp only [ivm] at h
     split at h
     ·rename_i l x cs ms _ _
      split at h
      ·rename_i rest hl
       exact Il (cs:=cs) (ms:=ms) hm hl _ _ (fun next k=>ih c _ _ _ st.h.length (Nat.le_refl _) k) (fun next s h' hle k=>ih rest _ _ _ st.h.length hle k) h
      ·exact h.elim
     ·exact h.elim
   | rangeFunc _ _ _ _=>exact h.elim
   | refuse _=>exact h.elim
theorem kJ.KZ {P : Program} {f : FuncId} {c : Code} {n : Nat} {rs : List ResultVar} {F : Nat} (G : kJ P f c n rs) (t : An) {args : List AV} {h : aa} {K : AV → aa → Prop} (hl : args.length ≤ n)
 (q : ivm P F c t (re P rs fun r h' => ∃ r' h'',Wk h.length [r] h' [r'] h'' ∧ K r' h'') ⟨n,gP args 0,h⟩) : ct P f args h K:=by
 obtain ⟨fn,hf,hb,hrs,hn,_⟩:=G
 subst hrs
 intro base ι S w vs h1 h2
 have hlen:=h1.length
 refine calls_of_wp hf hb (wp_mono (uO _ _ _ _ _ h.length (Nat.le_refl _) q base ι S _ w (Nat.le_refl _) ⟨rfl,by simp [hn];omega,tg h1 _,h2⟩) ?_)
 rintro e a' w' ⟨ι',S',st',hE,hm,hr,hq⟩
 have fin : lB P st' fn.results.toList (fun l=>∃ r' h'',Wk h.length [fO l] st'.h [r'] h'' ∧ K r' h'') → a'.defers = [] ∧ ∃ v,(results fn a'.tmps).run P w' = .ok v w' ∧
  ∃ u ι'' S'' r h',Ending.returned v = .returned u ∧ Evo h.length base ι S w ι'' S'' w' ∧ Rep ι'' S'' w' r u ∧ HOK base ι'' S'' w' h' ∧ h.length ≤ h'.length ∧ K r h':=by
  intro hq
  obtain ⟨l,us,e1,rl,r',h'',⟨wk1,wk2,wk3⟩,k⟩:=iu (P:=P) hr fn.results.toList _ hq
  have hv : Rep ι' S' w' (fO l) (if hh : us.length = 1 then us[0] else .tuple us.toArray):=by
   have hl:=rl.length
   match l,us,hl,rl with
   | [],[],_,_=>simp only [fO];rw [Rep];exact ⟨[],rfl,by simp⟩
   | [x],[u],_,rl=>simp at rl;simpa [fO] using rl
   | x :: y :: l,u :: v :: us,_,rl=>simp only [fO];rw [Rep];exact ⟨u :: v :: us,by simp,rl⟩
  obtain ⟨ι2,S2,hE2,hs2,hp2⟩:=wk3 base ι' S' w' [_] ((bD _ _ _ _).2 ⟨hv,by simp⟩) hr.hp
  refine ⟨hr.df,if hh : us.length = 1 then us[0] else .tuple us.toArray, ?_,_,ι2,S2,r',h'',rfl,hE.trans hE2,((bD _ _ _ _).1 hs2).1,hp2,wk1,k⟩
  rw [nA,← Array.toArray_toList (xs:=fn.results),List.mapM_toArray]
  simp only [Sem.run_bind,Sem.run_map,e1,Result.andThen_ok,Sem.run_pure]
  by_cases hh : us.length = 1 <;> simp [hh]
 cases e with
 | normal=>exact fin hq
 | ret=>exact fin hq
 | _=>exact hq.elim


def cP (P : Program) (f : FuncId) (args : List AV) (W : aa → (AV → aa → Prop) → Prop) : Prop :=
 ∃ F c t n rs,kJ P f c n rs ∧ args.length ≤ n ∧ ∀ h K,ivm P F c t (re P rs K) ⟨n,gP args 0,h⟩ = W h K
theorem cP.gg {P : Program} {f : FuncId} {args : List AV} {W : aa → (AV → aa → Prop) → Prop} (b : cP P f args W) {h : aa} {K : AV → aa → Prop} (q : W h fun r h' => ∃ r' h'',Wk h.length [r] h' [r'] h'' ∧ K r' h'') : ct P f args h K :=
 let ⟨_,_,t,_,_,F,hl,e⟩:=b;F.KZ t hl ((e h _).symm ▸ q)
theorem cP.hb {P : Program} {f : FuncId} {args : List AV} {W : aa → (AV → aa → Prop) → Prop} (b : cP P f args W) : cq P f = true:=let ⟨_,_,_,_,_,F,_⟩:=b;F.hb
theorem cP.gives {P : Program} {f : FuncId} {args : List AV} {W : aa → (AV → aa → Prop) → Prop} (b : cP P f args W) {r : AV} (pa : bM args) (pr : Pure r) (q : W [] (iw r)) : Con P f args r :=
 ⟨pa,pr,b.gg q⟩
end Go.Aw

