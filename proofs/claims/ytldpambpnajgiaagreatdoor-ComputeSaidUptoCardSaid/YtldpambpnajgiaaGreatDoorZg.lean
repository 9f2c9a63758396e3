/-
 Words for maps of the call's own;statements that run in order,maps among them.
 No conditions.
-/
import Derived.Test.YtldpambpnajgiaaGreatDoorProg
import Derived.KernelRfl
import Derived.Test.YtldpambpnajgiaaGreatDoorZd
import Derived.Test.YtldpambpnajgiaaGreatDoorZe
import Derived.Test.YtldpambpnajgiaaGreatDoorZf
set_option linter.unusedVariables false
set_option linter.unusedSimpArgs false
set_option maxRecDepth 1000000
set_option maxHeartbeats 16000000
open Go.Proofs.Tryz renaming prog→p_
noncomputable section
namespace Go.Aw
section
open Go Go.RowKit Go.MapKept
variable [Laid]
variable{W:aa→(AV→aa→Prop)→Prop}{args:List AV}{P:Program}{f:FuncId}{K:AV→aa→Prop}{h:aa}
/-! ### Words -/
def qj(h:aa)(K:AV→aa→Prop):Prop:=K (.mp h.length) (h++[.mp 0 []])
def jh(d:TypeDesc)(m k x:AV)(h:aa)(KS:aa→Prop):Prop:=
 match m with
 | .mp id=>(match h[id]? with
   | some (.mp c es)=>ji d k=true∧(match oM c k x es with
     | some (c',es')=>KS (h.set id (.mp c' es'))
     | none=>False)
   | _=>False)
 | _=>False
def kq(d:TypeDesc)(ok:Bool)(z m k:AV)(h:aa)(K:AV→Prop):Prop:=
 ji d k=true∧(match m with
 | .v (.map none)=>K (F8 ok z none)
 | .mp id=>(match h[id]? with
   | some (.mp _ es)=>(match mi k es with
     | some q=>K (F8 ok z q)
     | none=>False)
   | _=>False)
 | _=>False)
def yU(d:TypeDesc)(m k:AV)(h:aa)(K:AV→aa→Prop):Prop:=
 match m with
 | .mp id=>(match h[id]? with
   | some (.mp c es)=>ji d k=true∧(match wM k es with
     | some es' => K (.aF []) (h.set id (.mp c es'))
     | none=>False)
   | _=>False)
 | _=>False
def w9(x:AV)(h:aa)(K:AV→aa→Prop):Prop:=
 match x with
 | .mp id=>(match h[id]? with
   | some (.mp c _)=>K (.op h.length 0) (h++[.it id c [] c])
   | _=>False)
 | _=>False
def w7(x:AV)(h:aa)(K:AV→Prop):Prop:=
 match x with
 | .op id 0=>(match h[id]? with
   | some (.it m _ sn l)=>(match h[m]? with
     | some (.mp c es)=>c=l∧(match uN sn with
       | some n=>(match lr n es with
         | some (k,v)=>K (.aF [k,v])
         | none=>False)
       | none=>False)
     | _=>False)
   | _=>False)
 | _=>False
def w8(x:AV)(h:aa)(K:AV→aa→Prop):Prop:=
 match x with
 | .op id 0=>(match h[id]? with
   | some (.it m s sn l)=>(match h[m]? with
     | some (.mp c es)=>(nP s es=true∧s≤l)∧(fq sn es=[]→K (.aF [b_ false]) (h.set id .dead))∧∀p∈fq sn es,K (.aF [b_ true,p.2.1,p.2.2]) (h.set id (.it m s (jt p.1 sn) c))
     | _=>False)
   | _=>False)
 | _=>False
def sU(neg:Bool)(x:AV)(K:AV→Prop):Prop:=
 match x with
 | .v (.map none)=>K (b_ (kQ neg true))
 | .mp _=>K (b_ (kQ neg false))
 | _=>False
def Ik(n:Nat)(x:AV)(lo:Option AV)(y m:AV)(K:AV→Prop):Prop:=
 match iW x,fc lo 0,y,m with
 | .sl sz rows,some p,.v (.int _ q),.v (.int _ m)=>sz=n∧(0≤p∧p≤q∧q≤m∧m≤rows.length)∧K (.sl sz ((rows.take q.toNat).drop p.toNat))
 | _,_,_,_=>False
def DU(P:Program)(own:Bool)(ev:Operand→AV)(h:aa)(op:Op)(K:AV→aa→Prop):Prop:=
 match op with
 | .makeMap _ none=>qj h K
 | .mapUpdate t m k x=>(match P.underlying t with
   | some (.map kt _)=>(match P.underlying kt with
     | some d=>jh d (ev m) (ev k) (ev x) h fun h' => K (.v undef) h'
     | none=>False)
   | _=>False)
 | .insert t m k x=>(match P.underlying t with
   | some (.map kt _)=>(match P.underlying kt with
     | some d=>jh d (ev m) (ev k) (ev x) h fun h' => K (.v undef) h'
     | none=>False)
   | _=>False)
 | .lookup t m k ok=>(match P.underlying t with
   | some (.map kt et)=>(match P.underlying kt,gn P et with
     | some d,some z=>kq d ok z (ev m) (ev k) h fun v=>K v h
     | _,_=>False)
   | _=>False)
 | .range t x=>(match P.underlying t with
   | some (.map _ _)=>w9 (ev x) h K
   | _=>False)
 | .entry x=>w7 (ev x) h fun v=>K v h
 | .next x false=>w8 (ev x) h K
 | .binOp bo t x y yt=>(match P.underlying t with
   | some (.map _ _)=>(match bo,y with
     | .eql,.const (.map none)=>sU false (ev x) fun v=>K v h
     | .neq,.const (.map none)=>sU true (ev x) fun v=>K v h
     | _,_=>False)
   | _=>cx P own ev h (.binOp bo t x y yt) K)
 | .call c=>(match c.callee with
   | .builtin .delete=>(match c.argTypes.toList,c.args.toList with
     | [t,_],[m,k]=>(match P.underlying t with
       | some (.map kt _)=>(match P.underlying kt with
         | some d=>yU d (ev m) (ev k) h K
         | none=>False)
       | _=>False)
     | _,_=>False)
   | _=>cx P own ev h (.call c) K)
 | .slice t x lo (some y) (some m)=>(match P.underlying t with
   | some (.slice e)=>gb (fv P e) (Ik (P.cellsOf e) (ev x) (lo.map ev) (ev y) (ev m) fun v=>K v h)
   | _=>False)
 | op=>cx P own ev h op K
section
variable {P:Program} {o:Oper} {base:Nat} {ι:List Ix} {S:ba} {a:Act} {w:World} {st:St} {K:AV→aa→Prop}
theorem T4{t kt et:TypeId}{d:TypeDesc}{m k x:Operand}(hr:bN base ι S a w st)(ho:o.op=.mapUpdate t m k x∨o.op=.insert t m k x)(ht:P.underlying t=some (.map kt et))(hd:P.underlying kt=some d)
 (h:jh d (ak st.fr m) (ak st.fr k) (ak st.fr x) st.h fun h' => K (.v undef) h'):cq P o base ι S a w st K:=by
 unfold jh at h;split at h
 ·rename_i id hm;split at h
  ·rename_i c es he;obtain⟨hk,h⟩:=h;split at h
   ·rename_i c' es' hu;exact Qh hr ho ht hd hm hk he hu h
   ·exact h.elim
  ·exact h.elim
 ·exact h.elim
theorem JV{own:Bool}(hr:bN base ι S a w st)(h:DU P own (ak st.fr) st.h o.op K):cq P o base ι S a w st K:=by
 have plain:cx P own (ak st.fr) st.h o.op K→cq P o base ι S a w st K:=fun q=>lL hr q;generalize ho:o.op=op at h plain;unfold DU at h;split at h
 ·exact Fa hr ho (.inl rfl) h
 ·split at h
  ·rename_i ht;split at h
   ·rename_i hd;exact T4 hr (.inl ho) ht hd h
   ·exact h.elim
  ·exact h.elim
 ·split at h
  ·rename_i ht;split at h
   ·rename_i hd;exact T4 hr (.inr ho) ht hd h
   ·exact h.elim
  ·exact h.elim
 ·split at h
  ·rename_i ht;split at h
   ·rename_i hd hz;unfold kq at h;obtain⟨hk,h⟩:=h;split at h
    ·rename_i hm;exact DP hr ho ht hd hz hk (.inl ⟨hm,rfl⟩) h
    ·rename_i id hm;split at h
     ·rename_i c es he;split at h
      ·rename_i q hq;exact DP hr ho ht hd hz hk (.inr ⟨id,c,es,hm,he,hq⟩) h
      ·exact h.elim
     ·exact h.elim
    ·exact h.elim
   ·exact h.elim
  ·exact h.elim
 ·split at h
  ·rename_i ht;unfold w9 at h;split at h
   ·rename_i id hm;split at h
    ·rename_i he;exact acm hr ho ht hm he h
    ·exact h.elim
   ·exact h.elim
  ·exact h.elim
 ·unfold w7 at h;split at h
  ·rename_i id hx;split at h
   ·rename_i hi;split at h
    ·rename_i he;obtain⟨hcl,h⟩:=h;split at h
     ·rename_i hl;split at h
      ·rename_i hb;exact WQ hr ho hx hi he hcl hl hb h
      ·exact h.elim
     ·exact h.elim
    ·exact h.elim
   ·exact h.elim
  ·exact h.elim
 ·unfold w8 at h;split at h
  ·rename_i id hx;split at h
   ·rename_i hi;split at h
    ·rename_i he;obtain⟨⟨hb,hs⟩,h0,h1⟩:=h;exact aaR hr ho hx hi he hb hs h0 h1
    ·exact h.elim
   ·exact h.elim
  ·exact h.elim
 ·split at h
  ·rename_i ht;split at h
   ·unfold sU at h;split at h
    ·rename_i hx;exact vZ (neg:=false) (b:=true) hr ho ht (.inl ⟨hx,rfl⟩) h
    ·rename_i id hx;exact vZ (neg:=false) (b:=false) hr ho ht (.inr ⟨id,hx,rfl⟩) h
    ·exact h.elim
   ·unfold sU at h;split at h
    ·rename_i hx;exact vZ (neg:=true) (b:=true) hr ho ht (.inl ⟨hx,rfl⟩) h
    ·rename_i id hx;exact vZ (neg:=true) (b:=false) hr ho ht (.inr ⟨id,hx,rfl⟩) h
    ·exact h.elim
   ·exact h.elim
  ·exact plain h
 ·split at h
  ·rename_i hc;split at h
   ·rename_i hat hax;split at h
    ·rename_i ht;split at h
     ·rename_i hd;unfold yU at h;split at h
      ·rename_i id hm;split at h
       ·rename_i he;obtain⟨hk,h⟩:=h;split at h
        ·rename_i hu;exact aaN hr ho hc hat hax ht hd hm hk he hu h
        ·exact h.elim
       ·exact h.elim
      ·exact h.elim
     ·exact h.elim
    ·exact h.elim
   ·exact h.elim
  ·exact plain h
 ·split at h
  ·rename_i ht;obtain⟨hk,h⟩:=bI h;unfold Ik at h;split at h
   ·rename_i hx hl hy hm;obtain⟨hs,⟨g0,g1,g2,g3⟩,k⟩:=h;exact Uo hr ho ht hk hx hl hy hm hs g0 g1 g2 g3 k
   ·exact h.elim
  ·exact h.elim
 ·exact plain h
end
section
variable (P:Program) (ops:Array Oper)
def DT:List (Nat×Bool)→St→(St→Prop)→Prop
 | [],st,K=>K st
 | (i,own):: r,st,K=>match ops[i]? with
  | some o=>DU P own (ak st.fr) st.h o.op fun v h=>DT r (kz st o.dst v h) K
  | none=>False
def ox:List eP→St→(St→Prop)→Prop
 | [],st,K=>K st
 | .op i own:: r,st,K=>(match ops[i]? with
   | some o=>DU P own (ak st.fr) st.h o.op fun v h=>ox r (kz st o.dst v h) K
   | none=>False)
 | .bj j want l cs ms:: r,st,K=>(match eK ops j with
   | some d=>aB (fun J=>au (bg st.fr d) want (DT P ops l ⟨st.n,dt st.fr d (.v (.bool want)),st.h⟩ fun st' => jmp cs ms st.fr st'.fr st'.h J)
    (jmp cs ms st.fr (DE ops l ⟨st.n,dt st.fr d (aQ want (bg st.fr d)),st.h⟩).fr st.h J)) fun s h=>ox r ⟨st.n,join cs ms st.fr s,h⟩ K
   | none=>False)
end
section
variable {P:Program} {ops:Array Oper} {m:Nat} {Q:Exit→St→Prop}
theorem D1{own:Bool}{i:Nat}{o:Oper}{l:List Nat}{K:St→Prop}(ho:ops[i]?=some o){base:Nat}{ι:List Ix}{S:ba}{a:Act}{w:World}{st:St}(hm:m≤st.h.length)(hr:bN base ι S a w st)
 (hw:Region.wanted o (yielded ops a.tmps)=true) {K':AV→aa→Prop} (h:DU P own (ak st.fr) st.h o.op K')
 (next:∀v h' ι' S' a' w',K' v h'→m≤h'.length→bN base ι' S' a' w' (kz st o.dst v h')→wpOps P ops (dE m base ι' S' w' (ia K Q)) l a' w') :
 wpOps P ops (dE m base ι S w (ia K Q)) (i:: l) a w:=by
 simp only[wpOps,ho];rw[if_pos hw];left;have:=JV (P:=P) (o:=o) (a:=a) hr h (dE m base ι S w (ia K Q));refine lZ (fun a' w' k=>?_) (fun _ _ _ k=>k) this;obtain⟨ι',S',v,h2,hE,hR,hl,hk⟩:=k;refine oP (fun e a w k=>?_) l a' w' (next v h2 ι' S' a' w' hk (by omega) hR);exact dE.trans (hE.mono (by rw[hr.hp.len];exact hm) (aS _)) k
theorem Jk{j d:Nat}{want:Bool}(hd:eK ops j=some d){K:St→Prop}{rest:List Nat}:∀(l:List (Nat×Bool)) (base:Nat) (ι:List Ix) (S:ba) (a:Act) (w:World) (st:St) (K':St→Prop),
 l.all (fun p=>match ops[p.1]? with|some o=>o.guard == some (j,want)|none=>false)=true→(l.dropLast).all (fun p=>match ops[p.1]? with|some o=>o.dst != some d|none=>false)=true →
 m≤st.h.length→bN base ι S a w st→(l≠[]→bg st.fr d=.v (.bool want))→DT P ops l st K' →
 (∀st' ι' S' a' w',K' st'→m≤st'.h.length→st'.n=st.n→bN base ι' S' a' w' st'→wpOps P ops (dE m base ι' S' w' (ia K Q)) rest a' w') →
 wpOps P ops (dE m base ι S w (ia K Q)) (l.map (·.1)++rest) a w
 | [],base,ι,S,a,w,st,K',_,_,hm,hr,_,h,next=>next st ι S a w h hm rfl hr
 | (i,own):: l,base,ι,S,a,w,st,K',hgs,hds,hm,hr,hc,h,next=>by
  simp only[acG,On]at hgs;obtain⟨hg,hgs⟩:=hgs;simp only[DT]at h;cases ho:ops[i]? with
  | none=>rw[ho]at h;exact h.elim
  | some o =>
    simp only[ho,beq_iff_eq]at hg h;simp only[IF,acU];have hy:=(oQ hr hd).1 want (hc (by simp));refine D1 ho hm hr (by rw[vu hg,hy];simp) h fun v h' ι' S' a' w' k hm' hr' => ?_;refine Jk hd l base ι' S' a' w' _ K' hgs ?_ hm' hr' (fun hne=>?_) k (fun st' ι2 S2 a2 w2 k2 m2 n2 r2=>next st' ι2 S2 a2 w2 k2 m2 (by rw[n2];rfl) r2)
    ·cases l with
     | nil=>rfl
     | cons p l=>simp only[List.dropLast_cons_cons,acG,On]at hds;exact hds.2
    ·cases l with
     | nil=>exact absurd rfl hne
     | cons p l =>
       simp only[List.dropLast_cons_cons,acG,On,ho,bne_iff_ne,ne_eq]at hds;rw[yO hds.1];exact hc (by simp)
theorem vo{K:St→Prop}:∀(l:List eP) (base:Nat) (ι:List Ix) (S:ba) (a:Act) (w:World) (st:St),l.all (mo ops)=true→m≤st.h.length→bN base ι S a w st→ox P ops l st K →
 wpOps P ops (dE m base ι S w (ia K Q)) (l.map eP.ix).flatten a w
 | [],base,ι,S,a,w,st,_,hm,hr,h=>⟨ι,S,st,cc.refl _ _ _ _ _,hm,hr,h⟩
 | .op i own:: r,base,ι,S,a,w,st,hok,hm,hr,h=>by
   simp only[acG,On]at hok;obtain⟨hg,hok⟩:=hok;simp only[ox]at h;simp only[IF,acQ,eP.ix,List.singleton_append];cases ho:ops[i]? with
   | none=>rw[ho]at h;exact h.elim
   | some o =>
     simp only[ho]at h;simp only[mo,ho,Option.isNone_iff_eq_none]at hg;exact D1 ho hm hr (by simp[Region.wanted,hg]) h fun v h' ι' S' a' w' k hm' hr' => vo r base ι' S' a' w' _ hok hm' hr' k
 | .bj j want l cs ms:: r,base,ι,S,a,w,st,hok,hm,hr,h=>by
   simp only[acG,On]at hok;obtain⟨hg,hok⟩:=hok;simp only[ox]at h;simp only[IF,acQ,eP.ix];cases hd:eK ops j with
   | none=>rw[hd]at h;exact h.elim
   | some d =>
     simp only[hd]at h;simp only[mo,hd,On]at hg;unfold aB at h;have after:∀{st':St} {ι':List Ix} {S':ba} {a':Act} {w':World},st'.n=st.n→jmp cs ms st.fr st'.fr st'.h (fun s h=>ox P ops r ⟨st.n,join cs ms st.fr s,h⟩ K)→m≤st'.h.length→bN base ι' S' a' w' st' →
      wpOps P ops (dE m base ι' S' w' (ia K Q)) (r.map eP.ix).flatten a' w':=by
      intro st' ι' S' a' w' hn q hm' hr';obtain⟨e1,k⟩:=rj q;exact vo r base ι' S' a' w' ⟨st.n,join cs ms st.fr (fG st'.fr ms),st'.h⟩ hok hm' ⟨hr'.df,by rw[←hn];exact hr'.sz,hr'.fr.join e1,hr'.hp⟩ k
     have rv:=hr.get d;rcases h with⟨t,ht0,g1,g2⟩|⟨hu,g2⟩
     ·rw[ht0]at rv
      by_cases ht:t=want
      ·subst ht;have hr2:bN base ι S a w ⟨st.n,dt st.fr d (.v (.bool t)),st.h⟩:=⟨hr.df,hr.sz,eZ.zr hr.fr rv,hr.hp⟩;exact Jk hd l base ι S a w ⟨st.n,dt st.fr d (.v (.bool t)),st.h⟩ _ hg.1 hg.2 hm hr2 (fun _=>by simp[ee]) (g1 rfl) fun st' ι' S' a' w' k hm' hn' hr' => after hn' k hm' hr'
      ·have ht':t=!want:=by cases t<;>cases want<;>simp_all
       subst ht';have hr2:bN base ι S a w ⟨st.n,dt st.fr d (aQ want (bg st.fr d)),st.h⟩:=⟨hr.df,hr.sz,eZ.zr hr.fr (by rw[ht0];exact rv),hr.hp⟩;refine sq hd l base ι S a w _ hg.1 hg.2 hr2 (fun _=>.inl (by simp[ee,ht0,aQ])) fun a' hr' => ?_;have hh:=zW ops l ⟨st.n,dt st.fr d (aQ want (bg st.fr d)),st.h⟩;exact after hh.2 (by rw[hh.1];exact g2 rfl) (by rw[hh.1];exact hm) hr'
     ·have hr2:bN base ι S a w ⟨st.n,dt st.fr d (aQ want (bg st.fr d)),st.h⟩:=⟨hr.df,hr.sz,eZ.zr hr.fr (by rw[hu]at rv ⊢;exact rv),hr.hp⟩;refine sq hd l base ι S a w _ hg.1 hg.2 hr2 (fun _=>.inr (by simp only[ee,if_true,hu];rfl)) fun a' hr' => ?_;have hh:=zW ops l ⟨st.n,dt st.fr d (aQ want (bg st.fr d)),st.h⟩;exact after hh.2 (by rw[hh.1];exact g2) (by rw[hh.1];exact hm) hr'
end
/-! ### Jumps back to a label -/
def G8(l:Nat)(J:St→Prop)(Q:Exit→St→Prop):Exit→St→Prop
 | .goto l',st=>gb (Nat.beq l' l) (J st)
 | e,st=>Q e st
def M9(h:aa)(first:(List AV→aa→Prop)→Prop)(body:(List AV→aa→Prop)→List AV→aa→Prop):Prop:=
 ∃(α:Type) (I:α→Prop) (f:α→List AV) (g:α→aa) (μ:α→Nat),first (fun s' h' => ∃y,I y∧Wk h.length s' h' (f y) (g y)) ∧
  ∀x,I x→body (fun s' h' => ∃y,I y∧Wk h.length s' h' (f y) (g y)∧μ y<μ x) (f x) (g x)
theorem KQ{α:Type}(I:α→Prop)(f:α→List AV)(g:α→aa)(μ:α→Nat){first:(List AV→aa→Prop)→Prop}{body:(List AV→aa→Prop)→List AV→aa→Prop}(h0:first (fun s' h' => ∃y,I y∧Wk h.length s' h' (f y) (g y)))
 (step:∀x,I x→body (fun s' h' => ∃y,I y∧Wk h.length s' h' (f y) (g y)∧μ y<μ x) (f x) (g x)):M9 h first body:=⟨α,I,f,g,μ,h0,step⟩
def oU(P:Program):Nat→Code→An→(Exit→St→Prop)→St→Prop
 | 0,_,_,_,_=>False
 | n+1,c,t,Q,st=>match c with
   | .skip=>Q .normal st
   | .ret=>Q .ret st
   | .exit id=>Q (.exit id) st
   | .label _=>Q .normal st
   | .goto l=>Q (.goto l) st
   | .seq a b=>(match t with
     | .join cs ms _ _=>aB (fun J=>oU P n a t.l (ia (fun st' => gb (Nat.beq st'.n st.n) (jmp cs ms st.fr st'.fr st'.h J)) Q) st) fun s h=>oU P n b t.r Q ⟨st.n,join cs ms st.fr s,h⟩
     | _=>oU P n a t.l (ia (fun st=>oU P n b t.r Q st) Q) st)
   | .block id c=>oU P n c t.l (yq id Q) st
   | .cond c a b=>(match c with
     | .tmp x=>ae (bg st.fr x) (oU P n a t.l Q ⟨st.n,dt st.fr x (.v (.bool true)),st.h⟩) (oU P n b t.r Q ⟨st.n,dt st.fr x (.v (.bool false)),st.h⟩)
     | c=>ae (ak st.fr c) (oU P n a t.l Q st) (oU P n b t.r Q st))
   | .region id ops draw=>(match draw with
     | false=>gb (DR ops (t.sg ops.size)) (ox P ops (t.sg ops.size) st (Q .normal))
     | true=>o7 P (.region id ops true) t Q st)
   | .loop c=>(match t with
     | .loop cs ms a=>bJ (fG st.fr ms) st.h fun next s h=>oU P n c a (ia (fun st' => gb (Nat.beq st'.n st.n) (jmp cs ms st.fr st'.fr st'.h next)) Q) ⟨st.n,join cs ms st.fr s,h⟩
     | _=>False)
   | .scope c=>(match t.l.j,t.r.j with
     | some ([l],_),some (cs,ms)=>(match findLabel c l with
       | some rest=>M9 st.h (fun N=>oU P n c t.r.l (G8 l (fun st' => gb (Nat.beq st'.n st.n) (jmp cs ms st.fr st'.fr st'.h N)) Q) st)
        fun N s h=>oU P n rest t.r.r (G8 l (fun st' => gb (Nat.beq st'.n st.n) (jmp cs ms st.fr st'.fr st'.h N)) Q) ⟨st.n,join cs ms st.fr s,h⟩
       | none=>False)
     | _,_=>False)
   | _=>False
theorem Uz{m l:Nat}{Q:Exit→St→Prop}{c rest:Code}{st:St}{cs ms:List Nat}(hm:m≤st.h.length)(hl:findLabel c l=some rest)(first:(List AV→aa→Prop)→Prop)(body:(List AV→aa→Prop)→List AV→aa→Prop)
 (hf:∀next,first next→AW P st.h.length c (G8 l (fun st' => gb (Nat.beq st'.n st.n) (jmp cs ms st.fr st'.fr st'.h next)) Q) st)
 (hb:∀next s h,st.h.length≤h.length→body next s h→AW P st.h.length rest (G8 l (fun st' => gb (Nat.beq st'.n st.n) (jmp cs ms st.fr st'.fr st'.h next)) Q) ⟨st.n,join cs ms st.fr s,h⟩)
 (hs:M9 st.h first body):AW P m (.scope c) Q st:=by
 obtain⟨α,I,f,g,μ,h0,round⟩:=hs;intro base ι S a w _ hr
 let Inv:α→Act→World→Prop:=fun x a' w' => I x∧∃ι' S',cc st.h.length base ι S w ι' S' w'∧st.h.length≤(g x).length∧bN base ι' S' a' w' ⟨st.n,join cs ms st.fr (f x),g x⟩∧eZ ι' S' w' (lI cs st.fr) a'.tmps
 have enter:∀{x:α} {a':Act} {w':World} {ι1:List Ix} {S1:ba} {s:List AV} {h':aa},cc st.h.length base ι S w ι1 S1 w'→a'.defers=[]→a'.tmps.size=st.n→dN base ι1 S1 w' h'→eZ ι1 S1 w' (lI cs st.fr) a'.tmps→aI ι1 S1 w' s (ms.map fun t=>a'.tmps.getD t undef) →
  I x→Wk st.h.length s h' (f x) (g x)→Inv x a' w':=by
  intro x a' w' ι1 S1 s h' hE hdf hsz hp hc hs hI hw;obtain⟨hw1,hw2,hw3⟩:=hw;obtain⟨ι2,S2,hE2,hs2,hp2⟩:=hw3 base ι1 S1 w' _ hs hp;have hc2:eZ ι2 S2 w' (lI cs st.fr) a'.tmps:=by
   intro t;have hbd:Bd st.h.length (bg (lI cs st.fr) t):=by
    rcases pq cs st.fr t with q|⟨_,q⟩
    ·rw[q];simp[Bd]
    ·rw[q];exact ax.bd (by rw[hr.hp.len];exact aS _) _ _ (hr.fr t)
   exact ax.jn hE2 _ _ hbd (hc t)
  exact⟨hI,ι2,S2,hE.trans hE2,hw1,⟨hdf,hsz,eZ.o5 ms _ _ 0 hc2 fun i t e=>by rw[acu];exact hs2.nx (by rw[lE,e];rfl),hp2⟩,hc2⟩
 refine GD l (fun k a' w' => ∃x,μ x=k∧Inv x a' w') hl ?_ ?_
 ·refine wp_mono (hf _ h0 base ι S a w (aS _) hr) ?_;intro e a'' w'' k;obtain⟨ι'',S'',st'',h1,h2,h3,h4⟩:=k;have out:Q e st''→dE m base ι S w Q e a'' w'':=fun q=>⟨ι'',S'',st'',h1.mono hm (aS _),acx hm h2,h3,q⟩;cases e with
  | goto l' =>
    obtain⟨hll,h4⟩:=bI h4;obtain⟨hn,q⟩:=bI h4;obtain⟨e1,y,hy,hw⟩:=rj q;have hn:st''.n=st.n:=nE hn;exact⟨nE hll,_,y,rfl,enter h1 h3.df (by rw[←hn];exact h3.sz) h3.hp (h3.fr.kL e1) (aI.aq h3.fr ms) hy hw⟩
  | normal=>exact out h4
  | exit id=>exact out h4
  | ret=>exact out h4
  | panic ch=>exact out h4
  | outgrown=>exact out h4
 ·rintro k a' w' ⟨x,rfl,hx,ι',S',hE,hm',hr',_⟩;refine wp_mono (hb _ _ _ hm' (round x hx) base ι' S' a' w' hm' hr') ?_;intro e a'' w'' k;obtain⟨ι'',S'',st'',h1,h2,h3,h4⟩:=k;have out:Q e st''→dE m base ι S w Q e a'' w'':=fun q=>⟨ι'',S'',st'',(hE.trans h1).mono hm (aS _),acx hm h2,h3,q⟩;cases e with
  | goto l' =>
    obtain⟨hll,h4⟩:=bI h4;obtain⟨hn,q⟩:=bI h4;obtain⟨e1,y,hy,hw,hlt⟩:=rj q;have hn:st''.n=st.n:=nE hn;exact⟨nE hll,_,hlt,y,rfl,enter (hE.trans h1) h3.df (by rw[←hn];exact h3.sz) h3.hp (h3.fr.kL e1) (aI.aq h3.fr ms) hy hw⟩
  | normal=>exact out h4
  | exit id=>exact out h4
  | ret=>exact out h4
  | panic ch=>exact out h4
  | outgrown=>exact out h4
theorem Gm{P:Program}:∀(n:Nat) (c:Code) (t:An) (Q:Exit→St→Prop) (st:St) (m:Nat),m≤st.h.length→oU P n c t Q st→AW P m c Q st
 | 0,_,_,_,_,_,_,h=>h.elim
 | n+1,c,t,Q,st,m,hm,h=>by
   have ih:=Gm (P:=P) n;cases c with
   | skip=>exact D5 h
   | ret=>exact Hj h
   | exit id=>exact D4 h
   | label l=>exact AL h
   | goto l=>exact JZ h
   | seq a b =>
     simp only[oU]at h;split at h
     ·rename_i cs ms a' b';refine vv (AW.Dx (ih a _ _ st m hm h) fun e st' hm' k=>?_);cases e with
      | normal =>
        obtain⟨hn,q⟩:=bI k;obtain⟨e1,k⟩:=rj q;have hn:st'.n=st.n:=nE hn;intro base ι S ac w _ hr;exact ih b _ Q ⟨st.n,join cs ms st.fr (fG st'.fr ms),st'.h⟩ m hm' k base ι S ac w hm' ⟨hr.df,by rw[←hn];exact hr.sz,hr.fr.join e1,hr.hp⟩
      | _=>exact k
     ·refine vv (AW.Dx (ih a _ _ st m hm h) fun e st' hm' k=>?_);cases e with
      | normal=>exact ih b _ Q _ m hm' k
      | _=>exact k
   | block id c=>exact AK (ih c t.l _ st m hm h)
   | cond c a b =>
     intro base ι S ac w hm' hr;simp only[oU]at h;have other:∀{x:AV},ax ι S w x (ac.eval c)→ae x (oU P n a t.l Q st) (oU P n b t.r Q st)→(Code.cond c a b).wp P (dE m base ι S w Q) ac w:=by
      rintro x rx ⟨b',rfl,h1,h2⟩;rw[dx]at rx;cases b' with
      | true=>exact wp_cond_true rx (ih a t.l Q st m hm (h1 rfl) base ι S ac w hm hr)
      | false=>exact wp_cond_false rx (ih b t.r Q st m hm (h2 rfl) base ι S ac w hm hr)
     split at h
     ·rename_i x;have rv:=hr.get x;obtain⟨b',e,h1,h2⟩:=h;rw[e]at rv;have he:ac.eval (.tmp x)=.bool b':=by rw[dx]at rv;exact rv
      cases b' with
      | true=>exact wp_cond_true he (ih a t.l Q ⟨st.n,dt st.fr x (.v (.bool true)),st.h⟩ m hm (h1 rfl) base ι S ac w hm ⟨hr.df,hr.sz,eZ.zr hr.fr rv,hr.hp⟩)
      | false=>exact wp_cond_false he (ih b t.r Q ⟨st.n,dt st.fr x (.v (.bool false)),st.h⟩ m hm (h2 rfl) base ι S ac w hm ⟨hr.df,hr.sz,eZ.zr hr.fr rv,hr.hp⟩)
     ·exact other (hr.eval _) h
   | region id ops draw =>
     cases draw with
     | false =>
       obtain⟨hok,h⟩:=bI h;simp only[DR,On,beq_iff_eq]at hok;intro base ι S a w _ hr;have:=vo (m:=m) (Q:=Q) _ base ι S a w st hok.1 hm hr h;rw[hok.2,DX]at this;exact wp_region this
     | true=>exact jm _ t Q st m hm h
   | loop c =>
     simp only[oU]at h;split at h
     ·rename_i cs ms a;exact Hi (cs:=cs) (ms:=ms) hm _ (fun next s h' hl k=>ih c a _ _ st.h.length hl k) h
     ·exact h.elim
   | scope c =>
     simp only[oU]at h;split at h
     ·rename_i l x cs ms _ _;split at h
      ·rename_i rest hl;exact Uz (cs:=cs) (ms:=ms) hm hl _ _ (fun next k=>ih c _ _ _ st.h.length (aS _) k) (fun next s h' hle k=>ih rest _ _ _ st.h.length hle k) h
      ·exact h.elim
     ·exact h.elim
   | rangeFunc _ _ _ _=>exact h.elim
   | refuse _=>exact h.elim
theorem tj.YV{c:Code}{n:Nat}{rs:List ResultVar}{F:Nat}(G:tj P f c n rs)(t:An)(hl:args.length≤n)
 (q:oU P F c t (wC P rs fun r h' => ∃r' h'',Wk h.length [r] h' [r'] h''∧K r' h'') ⟨n,mM args 0,h⟩):dY P f args h K:=by
 obtain⟨fn,hf,hb,hrs,hn,_⟩:=G;subst hrs;intro base ι S w vs h1 h2;have hlen:=h1.length;refine calls_of_wp hf hb (wp_mono (Gm _ _ _ _ _ h.length (aS _) q base ι S _ w (aS _) ⟨rfl,by simp[hn];omega,Eb h1 _,h2⟩) ?_);rintro e a' w' ⟨ι',S',st',hE,hm,hr,hq⟩;have fin:uf P st' fn.results.toList (fun l=>∃r' h'',Wk h.length [lU l] st'.h [r'] h''∧K r' h'')→a'.defers=[]∧∃v,(results fn a'.tmps).run P w'=.ok v w' ∧
  ∃u ι'' S'' r h',Ending.returned v=.returned u∧cc h.length base ι S w ι'' S'' w'∧ax ι'' S'' w' r u∧dN base ι'' S'' w' h'∧h.length≤h'.length∧K r h':=by
  intro hq;obtain⟨l,us,e1,rl,r',h'',⟨wk1,wk2,wk3⟩,k⟩:=pe (P:=P) hr fn.results.toList _ hq;have hv:ax ι' S' w' (lU l) (if hh:us.length=1 then us[0] else .tuple us.toArray):=by
   have hl:=rl.length
   match l,us,hl,rl with
   | [],[],_,_=>simp only[lU];rw[ax];exact⟨[],rfl,by simp⟩
   | [x],[u],_,rl=>simp at rl;simpa[lU]using rl
   | x:: y:: l,u:: v:: us,_,rl=>simp only[lU];rw[ax];exact⟨u:: v:: us,by simp,rl⟩
  obtain⟨ι2,S2,hE2,hs2,hp2⟩:=wk3 base ι' S' w' [_] ((dc _ _ _ _).2 ⟨hv,by simp⟩) hr.hp;refine⟨hr.df,if hh:us.length=1 then us[0] else .tuple us.toArray, ?_,_,ι2,S2,r',h'',rfl,hE.trans hE2,((dc _ _ _ _).1 hs2).1,hp2,wk1,k⟩;rw[xy,←Array.toArray_toList (xs:=fn.results),List.mapM_toArray];simp only[acI,Sem.run_map,e1,acH,acJ]
  by_cases hh:us.length=1<;>simp[hh]
 cases e with
 | normal=>exact fin hq
 | ret=>exact fin hq
 | _=>exact hq.elim
def cp(P:Program)(f:FuncId)(args:List AV)(W:aa→(AV→aa→Prop)→Prop):Prop:=
 ∃F c t n rs,tj P f c n rs∧args.length≤n∧∀h K,oU P F c t (wC P rs K) ⟨n,mM args 0,h⟩=W h K
theorem mkM{fn:Func}(e:P.funcs[f]?=some fn)(t:An)(n:Nat)(rs:List ResultVar)(q:(fn.results.toList,fn.ntmps,cd P f,fn.body.isSome,Nat.ble args.length n)=(rs,n,true,true,true))(k:∀h K,oU P 1000 (fn.body.getD .skip) t (wC P rs K) ⟨n,mM args 0,h⟩=W h K):cp P f args W:=by
 simp only[aaZ]at q;refine⟨1000,fn.body.getD .skip,t,n,rs,⟨fn,e,?_,q.1,q.2.1,q.2.2.1⟩,nO q.2.2.2.2,k⟩;cases hb:fn.body with
 | none=>rw[hb]at q;cases q.2.2.2.1
 | some c=>rfl
theorem cp.kb(b:cp P f args W)(q:W h fun r h' => ∃r' h'',Wk h.length [r] h' [r'] h''∧K r' h''):dY P f args h K:=
 let ⟨_,_,t,_,_,F,hl,e⟩:=b;F.YV t hl ((e h _).symm▸q)
theorem cp.hb{P:Program}{f:FuncId}{args:List AV}{W:aa→(AV→aa→Prop)→Prop}(b:cp P f args W):cd P f=true:=let ⟨_,_,_,_,_,F,_⟩:=b;F.hb
theorem cp.gives(b:cp P f args W){r:AV}(pa:bf args)(pr:Pure r)(q:W [] (fg r)):aP P f args r:=
 ⟨pa,pr,b.kb q⟩
end
end Go.Aw
namespace Go.Proofs.YtldpambpnajgiaaGreatDoor
section
open Go Go.Aw
variable [Laid]
def XT(x0:AV)(h:aa)(K:AV→aa→Prop):Prop:=
 br 100 x0 h fun c b=>bh 0 c fun t=>iFL 1 false 1 t b fun a=>bh 0 c fun u=>iFL 0 false 1 u b fun v=>ab .eql v (u8 2) fun d=>aB (fun e=>au d true (gQ a fun w=>ab .eql w (i_ 3) fun x=>eC [a] (e [tt,x] b)) (eC [a] (e [(aQ true d),un] b))) fun f g=>aH (nx f 0) (nx f 1) ff fun i=>aB (fun j=>au i true (lF a (i_ 0) fun y=>ab .or y (u8 32) fun z=>ab .eql z (u8 118) fun A=>eC [a] (j [tt,A] g)) (eC [a] (j [(aQ true i),un] g))) fun k l=>aH (nx k 0) (nx k 1) ff fun m=>aB (fun n=>au m true (lF a (i_ 1) fun B=>ab .or B (u8 32) fun C=>ab .eql C (u8 97) fun D=>eC [a] (n [tt,D] l)) (eC [a] (n [(aQ true m),un] l))) fun o p=>aH (nx o 0) (nx o 1) ff fun q=>aB (fun r=>au q true (lF a (i_ 2) fun E=>ab .or E (u8 32) fun F=>ab .eql F (u8 114) fun G=>r [tt,G] p) (r [(aQ true q),un] p)) fun s H=>aH (nx s 0) (nx s 1) ff fun I=>K I H
theorem adZ(x0:AV):cp p_ 117 [x0] (XT x0):=mkM Tryz.func117 (sn (sn (.seq (.bz (oR 0 5 (.bj 4 true (fR 5 3) [3] [11,14]::oR 8 2 (.bj 9 true (fR 10 4) [3] [16,20]::oR 14 2 (.bj 15 true (fR 16 4) [3] [22,26]::oR 20 2 (.bj 21 true (fR 22 4) [] [28,32]::oR 26 2 [])))))) .nil))) 34 [.tmp 2] (by kernel_rfl) fun _ _=>by kernel_rfl
def Yp(x0 x1:AV)(h:aa)(K:AV→aa→Prop):Prop:=
 bu x0 fun c=>bJ [(i_ 0)] h fun m b d =>
 ab .lss (nx b 0) c fun n=>ae n (aG 6 x0 (nx b 0) fun o=>ag true 6 o d fun p=>br 100 (.agg [(u8 0),(.str []),(i_ 0),(.str []),ff,nS]) d fun a q=>aE 6 a p q fun i=>aB (fun e=>ag true 6 a i fun r=>iC p_ 117 [r] i fun s f=>ae s (ag true 6 a f fun t=>iC p_ 118 [t] f fun g j=>aK 0 g fun k=>aK 1 g fun z=>aK 2 g fun A=>ab .neq k (.str []) fun u=>ae u (jh .string x1 k tt j fun v=>eC [x1,a,x0,c,(nx b 0)] (e [] v)) (eC [x1,a,x0,c,(nx b 0)] (e [] j))) (eC [x1,a,x0,c,(nx b 0)] (e [] f))) fun B l=>iFL 5 false 1 a l fun w=>iC p_ 186 [w,x1] l fun C x=>ab .add (nx b 0) (i_ 1) fun y=>eC [x1,x0,c] (m [y] x)) (K (.aF []) d)
theorem aev(x0 x1:AV):cp p_ 186 [x0,x1] (Yp x0 x1):=mkM Tryz.func186 (sn (.one (.loop [1,9,10] [11] (sn (sn (.seq (.one (sn (.join [1,5,9,10,11] [] .nil .nil))) .nil)))))) 32 [] (by kernel_rfl) fun _ _=>by kernel_rfl
def W80(x0 x1:AV)(h:aa)(K:AV→aa→Prop):Prop:=
 bu x0 fun b=>bJ [(i_ 0),(i_ 0)] h fun n a g =>
 ab .lss (nx a 1) b fun o=>ae o (aG 6 x0 (nx a 1) fun p=>ag true 6 p g fun q=>br 100 (.agg [(u8 0),(.str []),(i_ 0),(.str []),ff,nS]) g fun c r=>aE 6 c q r fun k=>aB (fun e=>ag true 6 c k fun s=>iC p_ 117 [s] k fun t d=>fe t fun u=>ae u (bh 0 c fun v=>iFL 1 false 1 v d fun w=>gQ w fun x=>ab .add (i_ 1) x fun y=>bh 0 c fun z=>iFL 3 false 1 z d fun A=>gQ A fun B=>ab .add y B fun C=>ab .add (nx a 0) C fun D=>iFL 5 false 1 c d fun E=>iC p_ 80 [E,x1] d fun F G=>eC [x1,x0,b,(nx a 1)] (e [D,F] G)) (ag true 6 c d fun H=>iC p_ 118 [H] d fun i f=>aK 0 i fun I=>aK 1 i fun J=>aK 2 i fun L=>kq .string true nS x1 I f fun l=>aK 0 l fun M=>aK 1 l fun N=>ae N (iC p_ 62 [M] f fun O P=>eC [x1,x0,b,(nx a 1)] (e [(nx a 0),O] P)) (ae L (iC p_ 80 [J,x1] f fun Q R=>eC [x1,x0,b,(nx a 1)] (e [(nx a 0),Q] R)) (eC [x1,x0,b,(nx a 1)] (e [(nx a 0),(i_ (-1))] f))))) fun j m=>ab .lss (nx j 1) (i_ 0) fun S=>ae S (K (i_ (-1)) m) (ab .add (nx j 0) (nx j 1) fun T=>ab .add (nx a 1) (i_ 1) fun U=>eC [x1,x0,b] (n [T,U] m))) (K (nx a 0) g)
theorem V80(x0 x1:AV):cp p_ 80 [x0,x1] (W80 x0 x1):=mkM Tryz.func80 (sn (sn (.seq (sn (.one (.loop [1,14,15] [5,16] (sn (sn (.seq (.one (sn (sn (.join [1,14,15,16] [5,8] .nil .nil)))) .nil)))))) .nil))) 67 [.tmp 4] (by kernel_rfl) fun _ _=>by kernel_rfl
def YE(x0 x1:AV)(h:aa)(K:AV→aa→Prop):Prop:=
 bu x0 fun b=>bJ [nS,(i_ 0)] h fun m a e =>
 ab .lss (nx a 1) b fun n=>ae n (aB (fun i=>aG 6 x0 (nx a 1) fun o=>ag true 6 o e fun p=>br 100 (.agg [(u8 0),(.str []),(i_ 0),(.str []),ff,nS]) e fun d q=>aE 6 d p q fun j=>ag true 6 d j fun r=>iC p_ 117 [r] j fun s c=>fe s fun t=>ae t (iFL 0 true 5 d c fun u=>iFL 5 false 1 d c fun v=>iQ p_ 81 [v,x1] c fun w=>aY (.agg [(u8 0),(.str []),(i_ 0),(.str []),ff,nS]) [(0,5,u),(5,1,w)] fun x=>bH 1 6 (.agg [(u8 0),(.str []),(i_ 0),(.str []),ff,nS]) [(0,6,x)] fun y=>eE false 100 6 80 (nx a 0) y c fun z A=>eC [x1,x0,b,(nx a 1)] (i [z] A)) (ag true 6 d c fun B=>iC p_ 118 [B] c fun f g=>aK 0 f fun C=>aK 1 f fun D=>aK 2 f fun Q=>aB (fun k=>kq .string true nS x1 C g fun l=>aK 0 l fun E=>aK 1 l fun F=>ae F (eC [x1,(nx a 0),x0,b,(nx a 1)] (k [E] g)) (eC [x1,(nx a 0),x0,b,(nx a 1)] (k [D] g))) fun G H=>iC p_ 81 [(nx G 0),x1] H fun I J=>eE false 100 6 80 (nx a 0) I J fun L M=>eC [x1,x0,b,(nx a 1)] (i [L] M))) fun N O=>ab .add (nx a 1) (i_ 1) fun P=>eC [x1,x0,b] (m [(nx N 0),P] O)) (K (nx a 0) e)
theorem V81(x0 x1:AV):cp p_ 81 [x0,x1] (YE x0 x1):=mkM Tryz.func81 (sn (sn (.seq (sn (.one (.loop [1,13,14] [5,15] (sn (sn (.join [1,13,14,15] [5] (.one (sn (.seq (sn (.two (.seq (.draw 9 (oR 0 8 (.op 8 true::[])) (oR 9 2 []) []) .nil) .nil)) (sn (.join [1,5,13,14,15] [9] .nil .nil))))) .nil)))))) .nil))) 53 [.tmp 4] (by kernel_rfl) fun _ _=>by kernel_rfl
def W41(x0 x1:AV)(h:aa)(K:AV→aa→Prop):Prop:=
 iC p_ 80 [x0,x1] h fun b a=>ab .lss b (i_ 0) fun k=>ae k (K (.aF [nS,(i_ 6)]) a) (ab .gtr b (i_ 2000) fun c=>aB (fun d=>au c true (iC p_ 61 [x0] a fun l m=>eC [x0,x1] (d [tt,l] m)) (eC [x0,x1] (d [(aQ true c),un] a))) fun e f=>aH (nx e 0) (nx e 1) ff fun n=>ae n (K (.aF [nS,(i_ 28)]) f) (iC p_ 81 [x0,x1] f fun g o=>iC p_ 40 [g] o fun i j=>ab .neq i (i_ 0) fun p=>ae p (K (.aF [nS,i]) j) (K (.aF [g,(i_ 0)]) j)))
theorem V41(x0 x1:AV):cp p_ 41 [x0,x1] (W41 x0 x1):=mkM Tryz.func41 (sn (.seq (sn (.one (sn (.two .nil (.seq (.bz (oR 0 3 (.bj 2 true (fR 3 2) [0,1] [18,20]::oR 5 2 []))) .nil))))) .nil)) 31 [.tmp 4,.tmp 5] (by kernel_rfl) fun _ _=>by kernel_rfl
def W42(x0:AV)(h:aa)(K:AV→aa→Prop):Prop:=
 qj h fun a g=>bu x0 fun f=>bJ [(i_ 0)] g fun i b c =>
 ab .lss (nx b 0) f fun j=>ae j (aG 2 x0 (nx b 0) fun k=>ag true 2 k c fun l=>br 86 (.agg [(.str []),nS]) c fun d m=>aE 2 d l m fun e=>iFL 0 false 1 d e fun n=>iFL 1 false 1 d e fun o=>jh .string a n o e fun p=>ab .add (nx b 0) (i_ 1) fun q=>eC [a,x0,f] (i [q] p)) (K a c)
theorem V42(x0:AV):cp p_ 42 [x0] (W42 x0):=mkM Tryz.func42 (sn (sn (.seq (sn (.one (.loop [3,7,8] [9] .nil))) .nil))) 20 [.tmp 2] (by kernel_rfl) fun _ _=>by kernel_rfl
def Yx(x0 x1 x2 x3:AV)(h:aa)(K:AV→aa→Prop):Prop:=
 ag false 1 x1 h fun k=>kq .string false (.v (.map none)) k x0 h fun l=>w9 l h fun b m=>bJ [] m fun e B n =>
 w8 b n fun o a=>aK 0 o fun p=>ae p (w7 b a fun q=>aK 0 q fun c=>ag false 1 x1 a fun r=>kq .string false (.v (.map none)) r c a fun s=>sU true s fun f=>aB (fun g=>au f true (ag false 1 x2 a fun t=>kq .string false ff t c a fun u=>fe u fun w=>eC [x1,x2,x3,c,b] (g [tt,w] a)) (eC [x1,x2,x3,c,b] (g [(aQ true f),un] a))) fun i d=>aH (nx i 0) (nx i 1) ff fun x=>ae x (ag false 1 x2 d fun y=>jh .string y c tt d fun j=>ag false 1 x3 j fun z=>eJ p_ z [c] j fun C A=>eC [x1,x2,x3,b] (e [] A)) (eC [x1,x2,x3,b] (e [] d))) (K (.aF []) a)
theorem aeD(x0 x1 x2 x3:AV):cp p_ 225 [x0,x1,x2,x3] (Yx x0 x1 x2 x3):=mkM Tryz.func225 (sn (.one (.loop [1,2,3,9] [] (sn (sn (.one (sn (.seq (.bz (oR 0 5 (.bj 4 true (fR 5 4) [1,2,3,5,9] [18,22]::.op 9 false::[]))) .nil)))))))) 29 [] (by kernel_rfl) fun _ _=>by kernel_rfl
def Yo(x0:AV)(h:aa)(K:AV→aa→Prop):Prop:=
 qj h fun r s=>br 340 (.v (.map none)) s fun a t=>aE 1 a r t fun u=>bu x0 fun p=>bJ [(i_ 0)] u fun w f g =>
 ab .lss (nx f 0) p fun x=>ae x (aG 2 x0 (nx f 0) fun y=>ag true 2 y g fun z=>br 86 (.agg [(.str []),nS]) g fun d A=>aE 2 d z A fun i=>ag false 1 a i fun B=>iFL 0 false 1 d i fun C=>qj i fun D E=>jh .string B C D E fun b=>iFL 1 false 1 d b fun F=>ag false 1 a b fun G=>iFL 0 false 1 d b fun H=>kq .string false (.v (.map none)) G H b fun I=>iC p_ 186 [F,I] b fun a6 J=>ab .add (nx f 0) (i_ 1) fun L=>eC [x0,a,x0,p] (w [L] J)) (qj g fun j M=>bu x0 fun q=>bJ [(i_ 0)] M fun N k l =>
 ab .lss (nx k 0) q fun O=>ae O (aG 2 x0 (nx k 0) fun P=>ag true 2 P l fun Q=>br 86 (.agg [(.str []),nS]) l fun e R=>aE 2 e Q R fun S=>qj S fun T U=>br 175 (.v (.map none)) U fun m V=>aE 1 m T V fun W=>br 341 (.v .nilFunc) W fun n X=>aE 1 n (.fn (.func 225) [] [a,m,n]) X fun o=>ag false 1 n o fun Y=>iFL 0 false 1 e o fun Z=>eJ p_ Y [Z] o fun a7 c=>iFL 0 false 1 e c fun a0=>ag false 1 m c fun a1=>iFL 0 false 1 e c fun a2=>kq .string false ff a1 a2 c fun a3=>jh .string j a0 a3 c fun a4=>ab .add (nx k 0) (i_ 1) fun a5=>eC [a,j,x0,q] (N [a5] a4)) (K j l))
theorem aeu(x0:AV):cp p_ 185 [x0] (Yo x0):=mkM Tryz.func185 (sn (sn (.seq (sn (.one (.loop [0,3,12,13] [14] .nil))) (sn (.seq (sn (.one (.loop [3,6,31,32] [33] .nil))) .nil))))) 52 [.tmp 2] (by kernel_rfl) fun _ _=>by kernel_rfl
def QN(x0:AV)(h:aa)(K:AV→aa→Prop):Prop:=
 M9 h (fun o=>iC p_ 185 [x0] h fun b6 b7=>qj b7 fun b b8=>iC p_ 42 [x0] b8 fun c b9=>w9 b6 b9 fun r c0=>bJ [] c0 fun J m6 c1 =>
 w8 r c1 fun c2 s=>aK 0 c2 fun c3=>ae c3 (w7 r s fun L=>aK 0 L fun c4=>aK 1 L fun c5=>ae c5 (yU .string c c4 s fun m7 c6=>eC [x0,b,c,r] (J [] c6)) (eC [x0,b,c,r] (J [] s))) (bu x0 fun m=>bJ [(i_ 0)] s fun c7 i B =>
 ab .lss (nx i 0) m fun c8=>ae c8 (aB (fun M=>aG 2 x0 (nx i 0) fun c9=>ag true 2 c9 B fun d0=>br 86 (.agg [(.str []),nS]) B fun d d1=>aE 2 d d0 d1 fun t=>iFL 0 false 1 d t fun d2=>kq .string true nS c d2 t fun N=>aK 0 N fun m8=>aK 1 N fun d3=>fe d3 fun d4=>ae d4 (eC [x0,b,c,x0,m,(nx i 0)] (M [] t)) (qj t fun O P=>iFL 1 false 1 d P fun d5=>iC p_ 186 [d5,O] P fun m9 d6=>w9 O d6 fun u d7=>bJ [ff] d7 fun Q R d8 =>
 w8 u d8 fun d9 j=>aK 0 d9 fun e0=>ae e0 (w7 u j fun e1=>aK 0 e1 fun e2=>kq .string true nS c e2 j fun S=>aK 0 S fun n0=>aK 1 S fun e3=>ae e3 (eC [x0,b,c,d,x0,m,(nx i 0),u] (Q [tt] j)) (eC [x0,b,c,d,x0,m,(nx i 0),u] (Q [(nx R 0)] j))) (ae (nx R 0) (eC [x0,b,c,x0,m,(nx i 0)] (M [] j)) (iFL 0 false 1 d j fun e4=>yU .string c e4 j fun n1 T=>iFL 1 false 1 d T fun e5=>iC p_ 41 [e5,b] T fun U V=>aK 0 U fun v=>aK 1 U fun e6=>ab .eql e6 (i_ 0) fun W=>aB (fun X=>au W true (iC p_ 62 [v] V fun e7 e8=>ab .leq e7 (i_ 2000) fun e9=>eC [x0,b,c,d,v] (X [tt,e9] e8)) (eC [x0,b,c,d,v] (X [(aQ true W),un] V))) fun Y C=>aH (nx Y 0) (nx Y 1) ff fun f0=>ae f0 (iFL 0 false 1 d C fun f1=>jh .string b f1 v C fun f2=>eC [x0] (o [b,c] f2)) (eC [x0] (o [b,c] C)))))) fun n2 f3=>ab .add (nx i 0) (i_ 1) fun f4=>eC [x0,b,c,x0,m] (c7 [f4] f3)) (bu x0 fun w=>bJ [nS,(i_ 0)] B fun f5 f D =>
 ab .lss (nx f 1) w fun f6=>ae f6 (aB (fun Z=>aG 2 x0 (nx f 1) fun f7=>ag true 2 f7 D fun f8=>br 86 (.agg [(.str []),nS]) D fun E f9=>aE 2 E f8 f9 fun p=>iFL 0 false 1 E p fun g0=>kq .string true nS b g0 p fun a0=>aK 0 a0 fun g1=>aK 1 a0 fun g2=>ae g2 (iFL 0 false 1 E p fun g3=>aY (.agg [(.str []),nS]) [(0,1,g3),(1,1,g1)] fun g4=>bH 1 2 (.agg [(.str []),nS]) [(0,2,g4)] fun g5=>eE false 86 2 40 (nx f 0) g5 p fun g6 g7=>eC [b,x0,w,(nx f 1)] (Z [g6] g7)) (eC [b,x0,w,(nx f 1)] (Z [(nx f 0)] p))) fun g8 g9=>ab .add (nx f 1) (i_ 1) fun i0=>eC [b,x0,w] (f5 [(nx g8 0),i0] g9)) (K (nx f 0) D)))) fun o a i1 =>
 bu x0 fun n=>bJ [(i_ 0)] i1 fun i2 k F =>
 ab .lss (nx k 0) n fun i3=>ae i3 (aB (fun a1=>aG 2 x0 (nx k 0) fun i4=>ag true 2 i4 F fun i5=>br 86 (.agg [(.str []),nS]) F fun e i6=>aE 2 e i5 i6 fun x=>iFL 0 false 1 e x fun i7=>kq .string true nS (nx a 1) i7 x fun a2=>aK 0 a2 fun n3=>aK 1 a2 fun i8=>fe i8 fun i9=>ae i9 (eC [x0,(nx a 0),(nx a 1),x0,n,(nx k 0)] (a1 [] x)) (qj x fun a3 a4=>iFL 1 false 1 e a4 fun j0=>iC p_ 186 [j0,a3] a4 fun n4 j1=>w9 a3 j1 fun y j2=>bJ [ff] j2 fun a5 a6 j3 =>
 w8 y j3 fun j4 l=>aK 0 j4 fun j5=>ae j5 (w7 y l fun j6=>aK 0 j6 fun j7=>kq .string true nS (nx a 1) j7 l fun a7=>aK 0 a7 fun n5=>aK 1 a7 fun j8=>ae j8 (eC [x0,(nx a 0),(nx a 1),e,x0,n,(nx k 0),y] (a5 [tt] l)) (eC [x0,(nx a 0),(nx a 1),e,x0,n,(nx k 0),y] (a5 [(nx a6 0)] l))) (ae (nx a6 0) (eC [x0,(nx a 0),(nx a 1),x0,n,(nx k 0)] (a1 [] l)) (iFL 0 false 1 e l fun j9=>yU .string (nx a 1) j9 l fun n6 a8=>iFL 1 false 1 e a8 fun k0=>iC p_ 41 [k0,(nx a 0)] a8 fun a9 b0=>aK 0 a9 fun z=>aK 1 a9 fun k1=>ab .eql k1 (i_ 0) fun b1=>aB (fun b2=>au b1 true (iC p_ 62 [z] b0 fun k2 k3=>ab .leq k2 (i_ 2000) fun k4=>eC [x0,(nx a 0),(nx a 1),e,z] (b2 [tt,k4] k3)) (eC [x0,(nx a 0),(nx a 1),e,z] (b2 [(aQ true b1),un] b0))) fun b3 G=>aH (nx b3 0) (nx b3 1) ff fun k5=>ae k5 (iFL 0 false 1 e G fun k6=>jh .string (nx a 0) k6 z G fun k7=>eC [x0] (o [(nx a 0),(nx a 1)] k7)) (eC [x0] (o [(nx a 0),(nx a 1)] G)))))) fun n7 k8=>ab .add (nx k 0) (i_ 1) fun k9=>eC [x0,(nx a 0),(nx a 1),x0,n] (i2 [k9] k8)) (bu x0 fun A=>bJ [nS,(i_ 0)] F fun l0 g H =>
 ab .lss (nx g 1) A fun l1=>ae l1 (aB (fun b4=>aG 2 x0 (nx g 1) fun l2=>ag true 2 l2 H fun l3=>br 86 (.agg [(.str []),nS]) H fun I l4=>aE 2 I l3 l4 fun q=>iFL 0 false 1 I q fun l5=>kq .string true nS (nx a 0) l5 q fun b5=>aK 0 b5 fun l6=>aK 1 b5 fun l7=>ae l7 (iFL 0 false 1 I q fun l8=>aY (.agg [(.str []),nS]) [(0,1,l8),(1,1,l6)] fun l9=>bH 1 2 (.agg [(.str []),nS]) [(0,2,l9)] fun m0=>eE false 86 2 40 (nx g 0) m0 q fun m1 m2=>eC [(nx a 0),x0,A,(nx g 1)] (b4 [m1] m2)) (eC [(nx a 0),x0,A,(nx g 1)] (b4 [(nx g 0)] q))) fun m3 m4=>ab .add (nx g 1) (i_ 1) fun m5=>eC [(nx a 0),x0,A] (l0 [(nx m3 0),m5] m4)) (K (nx g 0) H))
theorem XB(x0:AV):cp p_ 145 [x0] (QN x0):=mkM Tryz.func145 (sn (.seq (.loop [0] [] .nil) (.join [0] [4,5] (sn (sn (sn (.seq (sn (.one (.loop [0,4,5,30] [] .nil))) (sn (.seq (sn (.one (.loop [0,4,5,39,40] [41] (sn (sn (.join [0,4,5,39,40,41] [] (.one (sn (sn (sn (sn (sn (.seq (sn (.one (.loop [0,4,5,9,39,40,41,60] [13] .nil))) (sn (sn (.seq (sn (.seq (.bz (oR 0 3 (.bj 2 true (fR 3 3) [0,4,5,9,17] [85,88]::.op 6 false::[]))) .nil)) .nil)))))))))) .nil)))))) (sn (.seq (sn (.one (.loop [4,95,96] [19,97] (sn (sn (.join [4,95,96,97] [19] (.one (sn (sn (sn (.two (.bz (oR 0 5 (.op 5 true::oR 6 2 []))) .nil))))) .nil)))))) .nil)))))))) (sn (.seq (sn (.one (.loop [0,4,5,39,40] [41] (sn (sn (.join [0,4,5,39,40,41] [] (.one (sn (sn (sn (sn (sn (.seq (sn (.one (.loop [0,4,5,9,39,40,41,60] [13] .nil))) (sn (sn (.seq (sn (.seq (.bz (oR 0 3 (.bj 2 true (fR 3 3) [0,4,5,9,17] [85,88]::.op 6 false::[]))) .nil)) .nil)))))))))) .nil)))))) (sn (.seq (sn (.one (.loop [4,95,96] [19,97] (sn (sn (.join [4,95,96,97] [19] (.one (sn (sn (sn (.two (.bz (oR 0 5 (.op 5 true::oR 6 2 []))) .nil))))) .nil)))))) .nil))))))) 118 [.tmp 2] (by kernel_rfl) fun _ _=>by kernel_rfl
def YH(x0:AV)(h:aa)(K:AV→aa→Prop):Prop:=
 bu x0 fun j=>ab .gtr j (i_ 64) fun k=>ae k (K (.aF [nS,(i_ 4)]) h) (iC p_ 60 [x0] h fun l c=>fe l fun m=>ae m (K (.aF [nS,(i_ 8)]) c) (bu x0 fun d=>bJ [(i_ 0)] c fun n a b =>
 ab .lss (nx a 0) d fun o=>ae o (aG 2 x0 (nx a 0) fun p=>ag true 2 p b fun q=>br 86 (.agg [(.str []),nS]) b fun e r=>aE 2 e q r fun f=>iFL 1 false 1 e f fun s=>iC p_ 40 [s] f fun g i=>ab .neq g (i_ 0) fun t=>ae t (K (.aF [nS,g]) i) (ab .add (nx a 0) (i_ 1) fun u=>eC [x0,x0,d] (n [u] i))) (iC p_ 145 [x0] b fun v w=>K (.aF [v,(i_ 0)]) w)))
theorem V98(x0:AV):cp p_ 98 [x0] (YH x0):=mkM Tryz.func98 (sn (sn (sn (.seq (sn (.one (.loop [0,13,14] [15] .nil))) .nil)))) 28 [.tmp 2,.tmp 3] (by kernel_rfl) fun _ _=>by kernel_rfl
def YG(x0 x1:AV)(h:aa)(K:AV→aa→Prop):Prop:=
 br 75 x0 h fun b e=>br 9 x1 e fun f c=>bh 0 b fun g=>iFL 1 false 1 g c fun i=>iC p_ 143 [i,(.fn (.func 144) [] [f])] c fun d a=>ab .lss d (i_ 0) fun j=>ae j (K (.aF [nS,ff]) a) (bh 0 b fun k=>iFL 1 false 1 k a fun l=>aG 2 l d fun m=>iFL 1 false 1 m a fun n=>K (.aF [n,tt]) a)
theorem V97(x0 x1:AV):cp p_ 97 [x0,x1] (YG x0 x1):=mkM Tryz.func97 .nil 21 [.tmp 4,.tmp 5] (by kernel_rfl) fun _ _=>by kernel_rfl
def X2(x0 x1:AV)(h:aa)(K:AV→aa→Prop):Prop:=
 br 86 x0 h fun b a=>iFL 0 false 1 b a fun c=>ag false 1 x1 a fun d=>ab .eql c d fun e=>K e a
theorem ad8(x0 x1:AV):cp p_ 144 [x0,x1] (X2 x0 x1):=mkM Tryz.func144 .nil 8 [.tmp 3] (by kernel_rfl) fun _ _=>by kernel_rfl
def QM(x0 x1:AV)(h:aa)(K:AV→aa→Prop):Prop:=
 bu x0 fun c=>bJ [(i_ 0)] h fun e a b =>
 ab .lss (nx a 0) c fun f=>ae f (aG 2 x0 (nx a 0) fun g=>ag true 2 g b fun i=>eJ p_ x1 [i] b fun j d=>ae j (K (nx a 0) d) (ab .add (nx a 0) (i_ 1) fun k=>eC [x0,x1,c] (e [k] d))) (K (i_ (-1)) b)
theorem XA(x0 x1:AV):cp p_ 143 [x0,x1] (QM x0 x1):=mkM Tryz.func143 (sn (.seq (sn (.one (.loop [0,1,7] [8] .nil))) .nil)) 19 [.tmp 4] (by kernel_rfl) fun _ _=>by kernel_rfl
def W57(x0:AV)(h:aa)(K:AV→aa→Prop):Prop:=
 qj h fun c u=>gq p_ x0 fun J=>iFL 2 false 1 J u fun f=>bu f fun j=>bJ [(i_ 0)] u fun L g k =>
 ab .lss (nx g 0) j fun M=>ae M (aB (fun v=>aG 11 f (nx g 0) fun N=>ag true 11 N k fun O=>br 50 (.agg [(.str []),nS,(.str []),ff,(u8 0),ff,(i_ 0),(i_ 0),(i_ 0),(i_ 0),(i_ 0)]) k fun m P=>aE 11 m O P fun w=>bh 0 m fun Q=>iFL 0 false 1 Q w fun R=>iC p_ 73 [R] w fun S n=>ae S (bh 0 m fun T=>iFL 0 false 1 T n fun U=>jh .string c U tt n fun V=>eC [x0,c,f,j,(nx g 0)] (v [] V)) (eC [x0,c,f,j,(nx g 0)] (v [] n))) fun e6 W=>ab .add (nx g 0) (i_ 1) fun X=>eC [x0,c,f,j] (L [X] W)) (gq p_ x0 fun Y=>bh 0 Y fun Z=>bh 0 Z fun a0=>iFL 1 false 1 a0 k fun o=>bu o fun x=>bJ [(i_ 0)] k fun a1 p q =>
 ab .lss (nx p 0) x fun a2=>ae a2 (aG 2 o (nx p 0) fun a3=>ag true 2 a3 q fun a4=>br 86 (.agg [(.str []),nS]) q fun y a5=>aE 2 y a4 a5 fun z=>iFL 0 false 1 y z fun a6=>jh .string c a6 tt z fun a7=>ab .add (nx p 0) (i_ 1) fun a8=>eC [x0,c,o,x] (a1 [a8] a7)) (iC p_ 96 [c] q fun a9 b0=>iC p_ 95 [a9] b0 fun A b1=>bu A fun b2=>mg b2 (i_ 64) fun b3=>nj 1 A none (some b3) fun b=>bu b fun d=>bJ [nS,(i_ 0)] b1 fun b4 a l =>
 ab .lss (nx a 1) d fun b5=>ae b5 (aB (fun r=>aG 1 b (nx a 1) fun b6=>ag false 1 b6 l fun e=>gq p_ x0 fun b7=>iFL 2 false 1 b7 l fun b8=>iC p_ 14 [b8,e] l fun s i=>aK 0 s fun B=>aK 1 s fun b9=>aK 2 s fun e7=>ab .geq B (i_ 0) fun c0=>ae c0 (gq p_ x0 fun c1=>iFL 2 false 1 c1 i fun c2=>aG 11 c2 B fun c3=>bh 0 c3 fun c4=>iFL 1 false 1 c4 i fun c5=>aY (.agg [(.str []),nS]) [(0,1,e),(1,1,c5)] fun c6=>bH 1 2 (.agg [(.str []),nS]) [(0,2,c6)] fun c7=>eE false 86 2 40 (nx a 0) c7 i fun c8 c9=>eC [x0,b,d,(nx a 1)] (r [c8] c9)) (gq p_ x0 fun d0=>iFL 0 true 2 d0 i fun d1=>iC p_ 97 [d1,e] i fun C D=>aK 0 C fun t=>aK 1 C fun E=>aB (fun F=>au E true (ab .eql b9 (.str [105,110,104,101,114,105,116]) fun d2=>eC [x0,(nx a 0),e,t,b,d,(nx a 1)] (F [tt,d2] D)) (eC [x0,(nx a 0),e,t,b,d,(nx a 1)] (F [(aQ true E),un] D))) fun G H=>aH (nx G 0) (nx G 1) ff fun d3=>ae d3 (aY (.agg [(.str []),nS]) [(0,1,e),(1,1,t)] fun d4=>bH 1 2 (.agg [(.str []),nS]) [(0,2,d4)] fun d5=>eE false 86 2 40 (nx a 0) d5 H fun d6 d7=>eC [x0,b,d,(nx a 1)] (r [d6] d7)) (eC [x0,b,d,(nx a 1)] (r [(nx a 0)] H)))) fun d8 d9=>ab .add (nx a 1) (i_ 1) fun e0=>eC [x0,b,d] (b4 [(nx d8 0),e0] d9)) (iC p_ 98 [(nx a 0)] l fun I e1=>aK 0 I fun e2=>aK 1 I fun e8=>gq p_ x0 fun e3=>bh 3 e3 fun e4=>aE 1 e4 e2 e1 fun e5=>K (.aF []) e5)))
theorem V57(x0:AV):cp p_ 57 [x0] (W57 x0):=mkM Tryz.func57 (sn (.seq (sn (.one (.loop [0,2,20,21] [22] (sn (sn (.join [0,2,20,21,22] [] .nil .nil)))))) (.seq (sn (.one (.loop [0,2,40,41] [42] .nil))) (sn (sn (.seq (sn (.one (.loop [0,57,58] [8,59] (sn (sn (.join [0,57,58,59] [8] (.one (sn (sn (sn (.two (.bz (oR 0 12 (.op 12 true::oR 13 2 []))) (sn (.seq (.bz (oR 0 2 (.bj 1 true (fR 2 2) [0,8,10,14,57,58,59] [99,101]::.op 4 false::[]))) (.two (.bz (oR 0 4 (.op 4 true::oR 5 2 []))) .nil)))))))) .nil)))))) .nil)))))) 118 [] (by kernel_rfl) fun _ _=>by kernel_rfl
def W58(x0 x1:AV)(h:aa)(K:AV→aa→Prop):Prop:=
 br 37 (.agg [(u8 0),(.str []),(i_ 0),(u8 0),(u8 0),(u8 0),(u8 0)]) h fun a c=>gq p_ x0 fun o=>iFL 2 false 1 o c fun p=>gq p_ x0 fun q=>iFL 4 false 1 q c fun r=>aG 12 r x1 fun s=>iFL 0 false 1 s c fun t=>iQ p_ 14 [p,t] c fun e=>aK 0 e fun f=>aK 1 e fun u=>aK 2 e fun O=>br 37 (.agg [(u8 0),(.str []),(i_ 0),(u8 0),(u8 0),(u8 0),(u8 0)]) c fun d g=>aB (fun i=>ab .geq f (i_ 0) fun v=>ae v (iC p_ 99 [x0,x1,f] g fun j w=>aK 0 j fun x=>aK 1 j fun y=>aE 7 d x w fun z=>eC [x0,x1,a,d] (i [y] z)) (eC [x0,x1,a,d] (i [u] g))) fun k b=>ab .eql (nx k 0) (.str [105,110,104,101,114,105,116]) fun A=>ae A (gq p_ x0 fun B=>bh 0 B fun C=>bh 0 C fun D=>iFL 0 false 1 D b fun E=>aG 7 E x1 fun F=>ag true 7 F b fun G=>aE 7 a G b fun l=>ag true 7 a l fun r36=>K r36 l) (ab .eql (nx k 0) (.str [105,110,105,116,105,97,108]) fun H=>ae H (gq p_ x0 fun I=>iFL 4 false 1 I b fun J=>aG 12 J x1 fun L=>iFL 2 true 7 L b fun M=>aE 7 a M b fun m=>ag true 7 a m fun r45=>K r45 m) (ag true 7 d b fun N=>aE 7 a N b fun n=>ag true 7 a n fun r48=>K r48 n))
theorem V58(x0 x1:AV):cp p_ 58 [x0,x1] (W58 x0 x1):=mkM Tryz.func58 (sn (.seq (.draw 20 (oR 0 20 []) [] []) (sn (.join [0,1,4,8] [6] .nil .nil)))) 58 [.cell 4 37] (by kernel_rfl) fun _ _=>by kernel_rfl
def W29(x0:AV)(h:aa)(K:AV→aa→Prop):Prop:=
 br 26 (.agg [nS,nS]) h fun c B=>iC p_ 57 [x0] B fun d4 m=>gq p_ x0 fun C=>iFL 5 false 1 C m fun q=>aB (fun r=>ab .lss q (i_ 0) fun D=>ae D (eC [x0,c,(.fn (.func 58) [x0] [])] (r [(i_ 16000)] m)) (eC [x0,c,(.fn (.func 58) [x0] [])] (r [q] m))) fun s a=>jO p_ (.fn (.func 58) [x0] []) [(i_ 12)] a fun E=>gq p_ x0 fun F=>bh 0 F fun G=>bh 0 G fun H=>iFL 0 false 1 H a fun I=>aG 7 I (i_ 12) fun J=>iFL 2 false 1 J a fun L=>jO p_ (.fn (.func 59) [] []) [E,L,(nx s 0)] a fun M=>(fun (N:aa)=>aE 7 (AV.op (a.length+1+0) 0) M N fun k=>aB (fun t=>gq p_ x0 fun O=>iFL 5 false 1 O k fun P=>ab .lss P (i_ 0) fun Q=>ae Q (bh 2 (AV.op (a.length+1+0) 0) fun R=>ag false 1 R k fun S=>eC [x0,c,(.fn (.func 58) [x0] []),(AV.op (a.length+1+0) 0)] (t [S] k)) (eC [x0,c,(.fn (.func 58) [x0] []),(AV.op (a.length+1+0) 0)] (t [(nx s 0)] k))) fun f u=>gq p_ x0 fun T=>iFL 3 false 1 T u fun U=>aY (.agg [nS,nS]) [(1,1,U)] fun V=>br 26 (.agg [nS,nS]) u fun e W=>aE 2 e V W fun v=>gq p_ x0 fun X=>iFL 4 false 1 X v fun Y=>bu Y fun g=>bJ [(i_ 0)] v fun Z b l =>
 ab .lss (nx b 0) g fun a0=>ae a0 (ag true 7 (AV.op (a.length+1+0) 0) l fun a1=>br 37 (.agg [(u8 0),(.str []),(i_ 0),(u8 0),(u8 0),(u8 0),(u8 0)]) l fun d a2=>aE 7 d a1 a2 fun j=>aB (fun w=>ab .neq (nx b 0) (i_ 12) fun a3=>ae a3 (mI p_ (.fn (.func 58) [x0] []) [(nx b 0)] j fun a4=>bh 2 (AV.op (a.length+1+0) 0) fun a5=>ag false 1 a5 j fun a6=>iQ p_ 59 [a4,a6,(nx f 0)] j fun a7=>aE 7 d a7 j fun a8=>eC [x0,c,(.fn (.func 58) [x0] []),(nx f 0),(AV.op (a.length+1+0) 0),e,(nx b 0),d,g,(nx b 0)] (w [] a8)) (eC [x0,c,(.fn (.func 58) [x0] []),(nx f 0),(AV.op (a.length+1+0) 0),e,(nx b 0),d,g,(nx b 0)] (w [] j))) fun d5 n=>aB (fun o=>ab .eql (nx b 0) (i_ 0) fun x=>aB (fun y=>au x true (iFL 0 false 1 d n fun a9=>ab .eql a9 (u8 8) fun b0=>eC [x0,c,(.fn (.func 58) [x0] []),(nx f 0),(AV.op (a.length+1+0) 0),e,(nx b 0),d,g,(nx b 0)] (y [tt,b0] n)) (eC [x0,c,(.fn (.func 58) [x0] []),(nx f 0),(AV.op (a.length+1+0) 0),e,(nx b 0),d,g,(nx b 0)] (y [(aQ true x),un] n))) fun z i=>aH (nx z 0) (nx z 1) ff fun b1=>ae b1 (gq p_ x0 fun b2=>bh 0 b2 fun b3=>bh 0 b3 fun b4=>iFL 0 false 1 b4 i fun b5=>aG 7 b5 (nx b 0) fun b6=>ag true 7 b6 i fun b7=>aE 7 d b7 i fun b8=>eC [x0,c,(.fn (.func 58) [x0] []),(nx f 0),(AV.op (a.length+1+0) 0),e,d,g,(nx b 0)] (o [] b8)) (ab .eql (nx b 0) (i_ 15) fun b9=>ae b9 (iFL 2 false 1 d i fun c0=>mg (i_ 1000) c0 fun c1=>iY (i_ 0) c1 fun c2=>bh 2 d fun c3=>aE 1 c3 c2 i fun c4=>eC [x0,c,(.fn (.func 58) [x0] []),(nx f 0),(AV.op (a.length+1+0) 0),e,d,g,(nx b 0)] (o [] c4)) (eC [x0,c,(.fn (.func 58) [x0] []),(nx f 0),(AV.op (a.length+1+0) 0),e,d,g,(nx b 0)] (o [] i)))) fun d6 p=>iFL 0 false 1 e p fun c5=>ag true 7 d p fun c6=>bH 1 7 (.agg [(u8 0),(.str []),(i_ 0),(u8 0),(u8 0),(u8 0),(u8 0)]) [(0,7,c6)] fun c7=>eE false 37 7 40 c5 c7 p fun c8 c9=>bh 0 e fun d0=>aE 1 d0 c8 c9 fun d1=>ab .add (nx b 0) (i_ 1) fun d2=>eC [x0,c,(.fn (.func 58) [x0] []),(nx f 0),(AV.op (a.length+1+0) 0),e,g] (Z [d2] d1)) (ag true 2 e l fun d3=>aE 2 c d3 l fun A=>ag true 2 c A fun r98=>K r98 A)) (a++[.dead]++[.aC ⟨37,[(u8 0),(.str []),(i_ 0),(u8 0),(u8 0),(u8 0),(u8 0)],true⟩])
theorem V29(x0:AV):cp p_ 29 [x0] (W29 x0):=mkM Tryz.func29 (sn (sn (sn (sn (.join [0,2,3] [4] .nil (.seq (.MC 14 [13] (fR 0 14) [.op 14 false] []) (.join [0,2,3,5] [4] .nil (sn (.seq (sn (.one (.loop [0,2,3,4,5,6,48] [49] (sn (sn (.seq (.one (sn (sn (.join [0,2,3,4,5,6,7,8,48,49] [] (sn (.two (.draw 7 (oR 0 7 []) [.op 7 false] []) .nil)) (.join [0,2,3,4,5,6,8,48,49] [] (.one (.seq (.bz (oR 0 3 (.bj 2 true (fR 3 3) [0,2,3,4,5,6,7,8,48,49] [65,68]::oR 6 2 []))) .nil)) (.bz (oR 0 3 (.op 3 true::oR 4 3 [])))))))) .nil)))))) .nil))))))))) 95 [.cell 2 26] (by kernel_rfl) fun _ _=>by kernel_rfl
def TB(x0 x1 x2:AV)(h:aa)(K:AV→aa→Prop):Prop:=
 br 37 x0 h fun a l=>br 37 (.agg [(u8 0),(.str []),(i_ 0),(u8 0),(u8 0),(u8 0),(u8 0)]) l fun c b=>aB (fun d=>iFL 0 false 1 a b fun e=>ab .eql e (u8 3) fun m=>ae m (iFL 2 false 1 a b fun n=>iC p_ 100 [n,x1] b fun f o=>aK 0 f fun p=>aK 1 f fun C=>bh 2 a fun q=>aE 1 q p o fun r=>eC [a,c] (d [] r)) (ab .eql e (u8 4) fun s=>ae s (iFL 2 false 1 a b fun t=>iC p_ 100 [t,x2] b fun g u=>aK 0 g fun v=>aK 1 g fun D=>bh 2 a fun w=>aE 1 w v u fun x=>eC [a,c] (d [] x)) (ag true 7 a b fun y=>aE 7 c y b fun i=>ag true 7 c i fun r28=>K r28 i))) fun E z=>bh 0 a fun A=>aE 1 A (u8 2) z fun j=>ag true 7 a j fun B=>aE 7 c B j fun k=>ag true 7 c k fun r35=>K r35 k
theorem XC(x0 x1 x2:AV):cp p_ 59 [x0,x1,x2] (TB x0 x1 x2):=mkM Tryz.func59 (sn (.join [3,6] [] .nil .nil)) 32 [.cell 6 37] (by kernel_rfl) fun _ _=>by kernel_rfl
def W7(x0 x1 x2:AV)(h:aa)(K:AV→aa→Prop):Prop:=
 br 26 x1 h fun b q=>br 26 (.agg [nS,nS]) q fun a r=>iC p_ 27 [x0,(u8 1)] r fun f d=>aK 0 f fun I=>aK 1 f fun g=>ab .neq g (i_ 0) fun s=>ae s (aY (.agg [nS,nS]) [] fun t=>aE 2 a t d fun i=>ag true 2 a i fun r12=>K (.aF [r12,g]) i) (ag true 2 b d fun u=>iC p_ 8 [u] d fun j e=>ab .neq j (i_ 0) fun v=>ae v (aY (.agg [nS,nS]) [] fun w=>aE 2 a w e fun k=>ag true 2 a k fun r19=>K (.aF [r19,j]) k) (ab .lss x2 (i_ (-1)) fun l=>aB (fun m=>au l false (ab .gtr x2 (i_ 1000000000000) fun x=>eC [x0,x2,b,a] (m [ff,x] e)) (eC [x0,x2,b,a] (m [(aQ false l),un] e))) fun n c=>aH (nx n 0) tt (nx n 1) fun y=>ae y (aY (.agg [nS,nS]) [] fun z=>aE 2 a z c fun o=>ag true 2 a o fun r28=>K (.aF [r28,(i_ 2)]) o) (ag true 2 b c fun A=>aY (.agg [nS,nS]) [(0,2,A)] fun B=>iQ p_ 28 [] c fun C=>aY (.agg [nS,nS,nS,nS,nS,(i_ 0)]) [(0,2,B),(2,1,x0),(4,1,C),(5,1,x2)] fun D=>br 77 D c fun E F=>iC p_ 29 [E] F fun G H=>aE 2 a G H fun p=>ag true 2 a p fun r38=>K (.aF [r38,(i_ 0)]) p)))
theorem V7(x0 x1 x2:AV):cp p_ 7 [x0,x1,x2] (W7 x0 x1 x2):=mkM Tryz.func7 (sn (sn (sn (.seq (.seq (.bz (oR 0 3 (.bj 2 false (fR 3 2) [0,2,4,6] [29,31]::.op 5 false::[]))) .nil) (.seq (.draw 6 (oR 0 6 []) (oR 6 2 []) []) .nil))))) 43 [.cell 6 26,.tmp 7] (by kernel_rfl) fun _ _=>by kernel_rfl
def W14(x0 x1:AV)(h:aa)(K:AV→aa→Prop):Prop:=
 iC p_ 37 [x0] h fun a b=>ab .neq a (i_ 0) fun f=>ae f (K (.aF [(i_ 0),(.str []),a]) b) (iC p_ 38 [x1] b fun c d=>aK 0 c fun m=>aK 1 c fun g=>ab .neq g (i_ 0) fun i=>ae i (K (.aF [(i_ 0),(.str []),(i_ 6)]) d) (iC p_ 39 [x0,(u8 4),x1] d fun e j=>aK 0 e fun k=>aK 1 e fun l=>K (.aF [k,l,(i_ 0)]) j))
theorem V14(x0 x1:AV):cp p_ 14 [x0,x1] (W14 x0 x1):=mkM Tryz.func14 .nil 32 [.tmp 4,.tmp 5,.tmp 6] (by kernel_rfl) fun _ _=>by kernel_rfl
def W78(x0:AV)(h:aa)(K:AV→aa→Prop):Prop:=
 iC p_ 38 [x0] h fun a b=>aK 0 a fun c=>aK 1 a fun d=>ae c (K (.str [105,110,104,101,114,105,116]) b) (K (.str [105,110,105,116,105,97,108]) b)
theorem V78(x0:AV):cp p_ 78 [x0] (W78 x0):=mkM Tryz.func78 .nil 11 [.tmp 2] (by kernel_rfl) fun _ _=>by kernel_rfl
def W37(x0:AV)(h:aa)(K:AV→aa→Prop):Prop:=
 bu x0 fun e=>bJ [(i_ 0)] h fun l c d =>
 ab .lss (nx c 0) e fun m=>ae m (aG 11 x0 (nx c 0) fun n=>ag true 11 n d fun o=>br 50 (.agg [(.str []),nS,(.str []),ff,(u8 0),ff,(i_ 0),(i_ 0),(i_ 0),(i_ 0),(i_ 0)]) d fun f p=>aE 11 f o p fun g=>ag true 11 f g fun q=>iC p_ 71 [q] g fun i j=>ab .neq i (i_ 0) fun r=>ae r (K i j) (ab .add (nx c 0) (i_ 1) fun s=>eC [x0,x0,e] (l [s] j))) (bJ [(i_ 1)] d fun t b a =>
 bu x0 fun u=>ab .lss (nx b 0) u fun v=>ae v (aG 11 x0 (nx b 0) fun w=>ag true 11 w a fun x=>ab .sub (nx b 0) (i_ 1) fun y=>aG 11 x0 y fun z=>ag true 11 z a fun A=>iQ p_ 72 [x,A] a fun k=>aK 0 k fun B=>aK 1 k fun D=>ae B (K (i_ 2) a) (ab .add (nx b 0) (i_ 1) fun C=>eC [x0] (t [C] a))) (K (i_ 0) a))
theorem V37(x0:AV):cp p_ 37 [x0] (W37 x0):=mkM Tryz.func37 (sn (.seq (sn (.one (.loop [0,9,10] [11] .nil))) (.seq (sn (.one (.loop [0] [6] (sn (.seq (.one (.seq (.draw 15 (oR 0 15 []) [] []) .nil)) .nil))))) .nil))) 41 [.tmp 2] (by kernel_rfl) fun _ _=>by kernel_rfl
def W27(x0 x1:AV)(h:aa)(K:AV→aa→Prop):Prop:=
 iC p_ 37 [x0] h fun g e=>ab .neq g (i_ 0) fun o=>ae o (K (.aF [nS,g]) e) (ab .lss x1 (u8 1) fun i=>aB (fun j=>au i false (ab .gtr x1 (u8 3) fun p=>eC [x0,x1] (j [ff,p] e)) (eC [x0,x1] (j [(aQ false i),un] e))) fun k l=>aH (nx k 0) tt (nx k 1) fun q=>ae q (K (.aF [nS,(i_ 2)]) l) (bu x0 fun c=>bJ [nS,(i_ 0)] l fun r a f =>
 ab .lss (nx a 1) c fun s=>ae s (aB (fun m=>aG 11 x0 (nx a 1) fun t=>ag true 11 t f fun u=>br 50 (.agg [(.str []),nS,(.str []),ff,(u8 0),ff,(i_ 0),(i_ 0),(i_ 0),(i_ 0),(i_ 0)]) f fun b v=>aE 11 b u v fun d=>iFL 4 false 1 b d fun w=>ab .lss w x1 fun x=>ae x (bh 0 b fun y=>iFL 1 false 1 y d fun z=>iC p_ 52 [z] d fun A B=>bh 0 b fun C=>bh 1 C fun D=>aE 1 D A B fun n=>ag true 11 b n fun E=>jP 50 1 11 (.agg [(.str []),nS,(.str []),ff,(u8 0),ff,(i_ 0),(i_ 0),(i_ 0),(i_ 0),(i_ 0)]) [(0,11,E)] n fun F G=>eE false 50 11 104 (nx a 0) F G fun H I=>eC [x1,x0,c,(nx a 1)] (m [H] I)) (eC [x1,x0,c,(nx a 1)] (m [(nx a 0)] d))) fun J L=>ab .add (nx a 1) (i_ 1) fun M=>eC [x1,x0,c] (r [(nx J 0),M] L)) (K (.aF [(nx a 0),(i_ 0)]) f)))
theorem V27(x0 x1:AV):cp p_ 27 [x0,x1] (W27 x0 x1):=mkM Tryz.func27 (sn (sn (.seq (.seq (.bz (oR 0 3 (.bj 2 false (fR 3 2) [0,1] [17,19]::.op 5 false::[]))) .nil) (sn (.seq (sn (.one (.loop [1,21,22] [7,23] (sn (sn (.join [1,21,22,23] [7] .nil .nil)))))) .nil))))) 43 [.tmp 4,.tmp 5] (by kernel_rfl) fun _ _=>by kernel_rfl
def W6(x0 x1 x2:AV)(h:aa)(K:AV→aa→Prop):Prop:=
 br 26 x1 h fun a w=>iC p_ 24 [x0] w fun x b=>fe x fun d=>aB (fun e=>au d true (ag true 2 a b fun y=>iC p_ 25 [y] b fun z A=>fe z fun B=>eC [x0,x2,a] (e [tt,B] A)) (eC [x0,x2,a] (e [(aQ true d),un] b))) fun f g=>aH (nx f 0) (nx f 1) ff fun i=>aB (fun j=>au i true (iC p_ 26 [x0] g fun C D=>ab .eql C (i_ 0) fun E=>eC [x2,a] (j [tt,E] D)) (eC [x2,a] (j [(aQ true i),un] g))) fun k c=>aH (nx k 0) (nx k 1) ff fun l=>aB (fun m=>au l true (ag true 2 a c fun F=>iC p_ 9 [F] c fun G H=>ab .eql G (i_ 0) fun I=>eC [x2] (m [tt,I] H)) (eC [x2] (m [(aQ true l),un] c))) fun n o=>aH (nx n 0) (nx n 1) ff fun p=>aB (fun q=>au p true (ab .geq x2 (i_ (-1)) fun J=>eC [x2] (q [tt,J] o)) (eC [x2] (q [(aQ true p),un] o))) fun r s=>aH (nx r 0) (nx r 1) ff fun t=>aB (fun u=>au t true (ab .leq x2 (i_ 1000000000000) fun L=>u [tt,L] s) (u [(aQ true t),un] s)) fun v M=>aH (nx v 0) (nx v 1) ff fun N=>K N M
theorem V6(x0 x1 x2:AV):cp p_ 6 [x0,x1,x2] (W6 x0 x1 x2):=mkM Tryz.func6 (sn (.seq (.bz (oR 0 4 (.bj 3 true (fR 4 3) [0,2,4] [10,13]::oR 7 2 (.bj 8 true (fR 9 3) [2,4] [15,18]::oR 12 2 (.bj 13 true (fR 14 3) [2] [20,23]::oR 17 2 (.bj 18 true (fR 19 2) [2] [25,27]::oR 21 2 (.bj 22 true (fR 23 2) [] [29,31]::oR 25 2 []))))))) .nil)) 33 [.tmp 6] (by kernel_rfl) fun _ _=>by kernel_rfl
def W12(x0 x1:AV)(h:aa)(K:AV→aa→Prop):Prop:=
 bu x0 fun m=>bu x1 fun n=>ab .neq m n fun o=>ae o (K ff h) (bJ [(i_ 0)] h fun p b a =>
 bu x0 fun q=>ab .lss (nx b 0) q fun r=>ae r (aG 2 x0 (nx b 0) fun s=>iFL 0 false 1 s a fun t=>aG 2 x1 (nx b 0) fun u=>iFL 0 false 1 u a fun v=>ab .neq t v fun c=>aB (fun d=>au c false (aG 2 x0 (nx b 0) fun e=>bh 1 e fun f=>ag false 1 f a fun g=>aG 2 x1 (nx b 0) fun i=>bh 1 i fun j=>ag false 1 j a fun k=>iQ p_ 36 [g,k] a fun l=>fe l fun w=>d [x0,(nx b 0),e,f,g,x1,(nx b 0),i,j,k,l,w] a) (d [un,un,un,un,un,un,un,un,un,un,un,un] a)) fun x _=>aH c tt (nx x 11) fun y=>ae y (K ff a) (ab .add (nx b 0) (i_ 1) fun z=>eC [x0,x1] (p [z] a))) (K tt a))
theorem V12(x0 x1:AV):cp p_ 12 [x0,x1] (W12 x0 x1):=mkM Tryz.func12 (sn (sn (.seq (sn (.one (.loop [0,1] [5] (sn (.seq (.one (.seq (.draw 25 (oR 0 12 (.bj 11 false (fR 12 12) [] [29,30,31,32,33,34,35,36,37,38,39,40]::.op 24 false::[])) [] []) .nil)) .nil))))) .nil))) 42 [.tmp 4] (by kernel_rfl) fun _ _=>by kernel_rfl
def W36(x0 x1:AV)(h:aa)(K:AV→aa→Prop):Prop:=
 bu x0 fun m=>bu x1 fun n=>ab .neq m n fun o=>ae o (K ff h) (bJ [(i_ 0)] h fun p b a =>
 bu x0 fun q=>ab .lss (nx b 0) q fun r=>ae r (aG 6 x0 (nx b 0) fun s=>iFL 0 true 5 s a fun t=>aG 6 x1 (nx b 0) fun u=>iFL 0 true 5 u a fun v=>lQ true [1,2,1,2,0] t v fun c=>aB (fun d=>au c false (aG 6 x0 (nx b 0) fun e=>bh 5 e fun f=>ag false 1 f a fun g=>aG 6 x1 (nx b 0) fun i=>bh 5 i fun j=>ag false 1 j a fun k=>iQ p_ 36 [g,k] a fun l=>fe l fun w=>d [x0,(nx b 0),e,f,g,x1,(nx b 0),i,j,k,l,w] a) (d [un,un,un,un,un,un,un,un,un,un,un,un] a)) fun x _=>aH c tt (nx x 11) fun y=>ae y (K ff a) (ab .add (nx b 0) (i_ 1) fun z=>eC [x0,x1] (p [z] a))) (K tt a))
theorem V36(x0 x1:AV):cp p_ 36 [x0,x1] (W36 x0 x1):=mkM Tryz.func36 (sn (sn (.seq (sn (.one (.loop [0,1] [5] (sn (.seq (.one (.seq (.draw 25 (oR 0 12 (.bj 11 false (fR 12 12) [] [29,30,31,32,33,34,35,36,37,38,39,40]::.op 24 false::[])) [] []) .nil)) .nil))))) .nil))) 42 [.tmp 4] (by kernel_rfl) fun _ _=>by kernel_rfl
def W26(x0:AV)(h:aa)(K:AV→aa→Prop):Prop:=
 iC p_ 50 [x0] h fun a b=>ab .neq a (i_ 0) fun d=>ae d (K a b) (iC p_ 51 [x0] b fun e c=>fe e fun f=>ae f (K (i_ 2) c) (K (i_ 0) c))
theorem V26(x0:AV):cp p_ 26 [x0] (W26 x0):=mkM Tryz.func26 .nil 12 [.tmp 2] (by kernel_rfl) fun _ _=>by kernel_rfl
def W51(x0:AV)(h:aa)(K:AV→aa→Prop):Prop:=
 bJ [(i_ 1)] h fun c b a =>
 bu x0 fun d=>ab .lss (nx b 0) d fun e=>ae e (aG 11 x0 (nx b 0) fun f=>ag true 11 f a fun g=>ab .sub (nx b 0) (i_ 1) fun i=>aG 11 x0 i fun j=>ag true 11 j a fun k=>iQ p_ 93 [g,k] a fun l=>ae l (K ff a) (ab .add (nx b 0) (i_ 1) fun m=>eC [x0] (c [m] a))) (K tt a)
theorem V51(x0:AV):cp p_ 51 [x0] (W51 x0):=mkM Tryz.func51 (sn (.seq (sn (.one (.loop [0] [3] (sn (.seq (.one (.seq (.draw 10 (oR 0 10 []) [] []) .nil)) .nil))))) .nil)) 20 [.tmp 2] (by kernel_rfl) fun _ _=>by kernel_rfl
def W96(x0:AV)(h:aa)(K:AV→aa→Prop):Prop:=
 br 175 x0 h fun a b=>K (.fn (.func 142) [] [a]) b
theorem V96(x0:AV):cp p_ 96 [x0] (W96 x0):=mkM Tryz.func96 .nil 4 [.tmp 2] (by kernel_rfl) fun _ _=>by kernel_rfl
end
end Go.Proofs.YtldpambpnajgiaaGreatDoor
namespace Go.Aw
section
open Go Go.RowKit Go.MapKept
section
variable {h:aa} {K:AV→Prop} {KH:AV→aa→Prop} {KS:aa→Prop}
theorem qa{n:Nat}{h':aa}(hn:h.length=n)(hh:h++[.mp 0 []]=h')(q:KH (.mp n) h'):qj h KH:=by subst hn;subst hh;exact q
theorem uu{d:TypeDesc}{id c c':Nat}{es es':List (Nat×AV×AV)}{m k x:AV}{h':aa}(em:m=.mp id)(he:h[id]?=some (.mp c es))(hk:ji d k=true)(hu:oM c k x es=some (c',es'))(hh:h.set id (.mp c' es')=h')(q:KS h'):jh d m k x h KS:=by
 subst em;subst hh;unfold jh;simp only[he,hu];exact⟨hk,q⟩
theorem zze{d:TypeDesc}{id c c':Nat}{es es':List (Nat×AV×AV)}{k x:AV}{h':aa}(he:h[id]?=some (.mp c es))(hk:ji d k=true)(hu:oM c k x es=some (c',es'))(hh:h.set id (.mp c' es')=h')(q:KS h'):jh d (.mp id) k x h KS:=uu rfl he hk hu hh q
theorem rN{d:TypeDesc}{ok:Bool}{id c:Nat}{es:List (Nat×AV×AV)}{z m k v:AV}{q0:Option AV}(em:m=.mp id)(he:h[id]?=some (.mp c es))(hk:ji d k=true)(hl:mi k es=some q0)(hv:F8 ok z q0=v)(q:K v):kq d ok z m k h K:=by
 subst em;subst hv;unfold kq;simp only[he,hl];exact⟨hk,q⟩
theorem TC{d:TypeDesc}{id c:Nat}{es es':List (Nat×AV×AV)}{m k:AV}{h':aa}(em:m=.mp id)(he:h[id]?=some (.mp c es))(hk:ji d k=true)(hu:wM k es=some es')(hh:h.set id (.mp c es')=h')(q:KH (.aF []) h'):yU d m k h KH:=by
 subst em;subst hh;unfold yU;simp only[he,hu];exact⟨hk,q⟩
theorem GH{id c n:Nat}{es:List (Nat×AV×AV)}{x:AV}{h':aa}(ex:x=.mp id)(he:h[id]?=some (.mp c es))(hn:h.length=n)(hh:h++[.it id c [] c]=h')(q:KH (.op n 0) h'):w9 x h KH:=by
 subst ex;subst hn;subst hh;unfold w9;simp only[he];exact q
theorem GG{id m s l c:Nat}{sn:List Nat}{es:List (Nat×AV×AV)}{x:AV}(ex:x=.op id 0)(hi:h[id]?=some (.it m s sn l))(he:h[m]?=some (.mp c es))(hb:nP s es=true)(hs:s≤l)
 (q0:fq sn es=[]→KH (.aF [ff]) (h.set id .dead)) (q1:∀p∈fq sn es,KH (.aF [tt,p.2.1,p.2.2]) (h.set id (.it m s (jt p.1 sn) c))):w8 x h KH:=by
 subst ex;unfold w8;simp only[hi,he];exact⟨⟨hb,hs⟩,q0,q1⟩
theorem LQ{id m s l c n:Nat}{sn:List Nat}{es:List (Nat×AV×AV)}{x k v:AV}(ex:x=.op id 0)(hi:h[id]?=some (.it m s sn l))(he:h[m]?=some (.mp c es))(hc:c=l)(hl:uN sn=some n)(hb:lr n es=some (k,v))(q:K (.aF [k,v])):w7 x h K:=by
 subst ex;unfold w7;simp only[hi,he,hl,hb];exact⟨hc,q⟩
theorem UI{neg:Bool}{id:Nat}{x:AV}(ex:x=.mp id)(q:K (.v (.bool neg))):sU neg x K:=by
 subst ex;unfold sU;cases neg<;>exact q
end
theorem th(a b:List UInt8):xD (.str a) (.str b)=some (decide (a=b)):=by simp[xD,r8]
def jv(f:Nat→AV)(nm:Nat→List UInt8)(a n:Nat):List (Nat×AV×AV):=(List.range' a n).map fun i=>(i,.str (nm i),f i)
section
variable {f:Nat→AV} {nm:Nat→List UInt8}
theorem rq(a n:Nat):jv f nm a (n+1)=(a,.str (nm a),f a):: jv f nm (a+1) n:=by simp[jv,List.range'_succ]
theorem Ss(a n:Nat):jv f nm a (n+1)=jv f nm a n++[(a+n,.str (nm (a+n)),f (a+n))]:=by simp[jv,List.range'_concat]
theorem IM{s:List UInt8}:∀n a,(∀i,a≤i→i<a+n→nm i≠s)→mi (.str s) (jv f nm a n)=some none
 | 0,a,_=>rfl
 | n+1,a,h=>by
   rw[rq,mi,th,oN (fun e=>h a (aS _) (by omega) e.symm)];exact IM n (a+1) fun i h1 h2=>h i (by omega) (by omega)
theorem zQ{N:Nat}(inj:∀x y,x<N→y<N→nm x=nm y→x=y):∀n a i,a+n≤N→a≤i→i<a+n→mi (.str (nm i)) (jv f nm a n)=some (some (f i))
 | 0,a,i,_,h1,h2=>by omega
 | n+1,a,i,hN,h1,h2=>by
   rw[rq,mi,th]
   by_cases e:i=a
   ·subst e;simp
   ·rw[oN (fun q=>e (inj _ _ (by omega) (by omega) q))];exact zQ inj n (a+1) i (by omega) (by omega) (by omega)
theorem LM{s:List UInt8}{v:AV}{c:Nat}:∀n a,(∀i,a≤i→i<a+n→nm i≠s)→oM c (.str s) v (jv f nm a n)=some (c+1,jv f nm a n++[(c,.str s,v)])
 | 0,a,_=>rfl
 | n+1,a,h=>by
   rw[rq,oM,th,oN (fun e=>h a (aS _) (by omega) e.symm),LM n (a+1) fun i h1 h2=>h i (by omega) (by omega)];rfl
theorem Fs{N:Nat}(inj:∀x y,x<N→y<N→nm x=nm y→x=y){n:Nat}(hn:n<N):oM n (.str (nm n)) (f n) (jv f nm 0 n)=some (n+1,jv f nm 0 (n+1)):=by
 rw[LM n 0 fun i _ h2 e=>by have:=inj _ _ (by omega) hn e;omega,Ss,acu]
theorem Ka{c:Nat}:∀n a,a+n≤c→nP c (jv f nm a n)=true
 | 0,_,_=>rfl
 | n+1,a,h=>by
   rw[rq,nP,show Nat.ble (a+1) c=true from Nat.ble_eq_true_of_le (by omega)];exact Ka n (a+1) (by omega)
theorem vC{a b:Nat}(e:a≠b):Nat.beq a b=false:=by
 cases q:Nat.beq a b with
 | false=>rfl
 | true=>exact absurd (nE q) e
theorem HH{i:Nat}:∀n a,a≤i→i<a+n→lr i (jv f nm a n)=some (.str (nm i),f i)
 | 0,_,_,h=>by omega
 | n+1,a,h1,h2=>by
   rw[rq,lr]
   by_cases e:a=i
   ·subst e;simp
   ·rw[vC e];exact HH n (a+1) (by omega) (by omega)
theorem Wi{p:Nat×AV×AV}{a n:Nat}(h:p∈jv f nm a n):a≤p.1∧p.1<a+n∧p=(p.1,.str (nm p.1),f p.1):=by
 obtain⟨i,hi,rfl⟩:=aas.1 h;have:=List.mem_range'_1.1 hi;exact⟨this.1,this.2,rfl⟩
end
theorem uO(b:Nat):∀l,uN (jt b l)=some b
 | []=>rfl
 | [a]=>rfl
 | a:: c:: r=>by
   have:=uO b (c:: r);simp only[jt,uN]at this ⊢;exact this
theorem tS(n b:Nat):∀l,sc n (jt b l)=(sc n l||Nat.beq n b)
 | []=>by simp only[jt,sc];cases Nat.beq n b<;>rfl
 | a:: r=>by
   simp only[jt,sc];cases Nat.beq n a with
   | true=>rfl
   | false=>exact tS n b r
theorem kM(sn:List Nat):∀es:List (Nat×AV×AV),fq sn es=es.filter fun p=>!sc p.1 sn
 | []=>rfl
 | (n,k,v):: r=>by
  rw[fq,List.filter_cons];cases h:sc n sn<;>simp[kM sn r]
theorem vT{sn:List Nat}{es:List (Nat×AV×AV)}{p:Nat×AV×AV}(h:p∈fq sn es):(fq (jt p.1 sn) es).length<(fq sn es).length:=by
 have e:fq (jt p.1 sn) es=(fq sn es).filter fun q=>!Nat.beq q.1 p.1:=by
  rw[kM,kM,List.filter_filter]
  congr 1;funext q
  rw[tS];cases sc q.1 sn<;>cases Nat.beq q.1 p.1<;>rfl
 rw[e];rcases AT ((fq sn es).filter fun q=>!Nat.beq q.1 p.1).length (fq sn es).length with q|q
 ·exact q
 ·have:=List.length_filter_eq_length_iff.1 (Nat.le_antisymm (List.length_filter_le _ _) q) p h;simp at this
section
variable [Laid]
omit [Laid] in
theorem gU.T6{M M':Nat}(h:M≤M'){l:List AV}(b:∀a∈l,Bd M a→Bd M' a)(q:gU M l):gU M' l:=by
 rw[nr]at *;exact fun a ha=>b a ha (q a ha)
theorem dN.bound{base:Nat}{ι:List Ix}{S:ba}{w:World}{h:aa}(hh:dN base ι S w h):∀e∈h,gr h.length e:=by
 intro e he;obtain⟨id,hid⟩:=List.getElem?_of_mem he;have hl:ι.length≤h.length:=by rw[hh.len];exact aS _
 cases e with
 | aC b =>
   obtain⟨_,arr,_,_,_,_,_,_,hc,_⟩:=hh.live id b hid;show gU h.length b.cells;rw[nr];intro a ha;obtain⟨i,hi⟩:=List.getElem?_of_mem ha;obtain⟨v,_,rv⟩:=hc i a hi;exact ax.bd hl a v rv
 | tok=>trivial
 | dead=>trivial
 | mp c es =>
   obtain⟨_,arr,_,_,_,_,hm⟩:=hh.qp id _ hid;show gU h.length (qn es);have:∀(es:List (Nat×AV×AV)) (l:List MapEntry),iP ι S w es l→gU h.length (qn es):=by
    intro es;induction es with
    | nil=>intro _ _;simp[qn,gU]
    | cons p r ih =>
      obtain⟨n,k,c⟩:=p;intro l hm;rw[iP]at hm;obtain⟨e,l',rfl,_,h3,h4,h5⟩:=hm;simp only[qn,gU];exact⟨ax.bd hl k _ h3,ax.bd hl c _ h4,ih l' h5⟩
   exact this _ _ hm
 | it m s sn l =>
   obtain⟨_,bm,_,_,_,_,hm⟩:=hh.qp id _ hid;have:=(gE.1 hm).1;show m<h.length;omega
theorem dY.bd{P:Program}{f:FuncId}{args:List AV}{h:aa}{K:AV→aa→Prop}(q:(∀e∈h,gr h.length e)→dY P f args h K):dY P f args h K:=
 fun base ι S w vs h1 h2=>q h2.bound base ι S w vs h1 h2
def Ex(P:Program)(f:FuncId)(args:List AV)(h:aa)(r:AV):Prop:=cd P f=true∧dY P f args h fun v h' => v=r∧h'=h
theorem aP.ex{P:Program}{f:FuncId}{args:List AV}{r:AV}(hb:cd P f=true)(c:aP P f args r)(h:aa):Ex P f args h r:=⟨hb,c.call ⟨rfl,rfl⟩⟩
theorem yb{P:Program}{f:FuncId}{args args':List AV}{h:aa}{r:AV}{K:AV→aa→Prop}(e:args=args')(c:Ex P f args' h r)(k:K r h):eJ P (.fn (.func f) [] []) args h K:=by
 subst e;exact⟨c.1,by simpa using c.2.mono fun v h' ⟨a,b⟩=>by subst a;subst b;exact k⟩
theorem zzd{P:Program}{f:FuncId}{args:List AV}{h:aa}{r:AV}{K:AV→aa→Prop}(c:Ex P f args h r)(k:K r h):eJ P (.fn (.func f) [] []) args h K:=yb rfl c k
theorem Uy{P:Program}{f:FuncId}{args args':List AV}{h:aa}{r:AV}{K:AV→Prop}(e:args=args')(c:Ex P f args' h r)(k:K r):mI P (.fn (.func f) [] []) args h K:=by
 subst e;exact⟨r,⟨c.1,by simpa using c.2⟩,k⟩
theorem lB{h h':aa}{r:AV}(hb:∀e∈h,gr h.length e)(hr:Bd h.length r)(ht:h'.take h.length=h):∃r' h'',Wk h.length [r] h' [r'] h''∧r'=r∧h''=h:=by
 have hl:h.length≤h'.length:=by have:=congrArg List.length ht;simp at this;omega
 exact⟨r,h,Wk.back (aS _) hl ht rfl hb (by simpa using hr),rfl,rfl⟩
theorem cp.ex{P:Program}{f:FuncId}{args:List AV}{W:aa→(AV→aa→Prop)→Prop}(b:cp P f args W){h:aa}{r:AV}(q:(∀e∈h,gr h.length e)→W h fun r1 h1=>∃r' h'',Wk h.length [r1] h1 [r'] h''∧r'=r∧h''=h):Ex P f args h r:=
 ⟨b.hb,dY.bd fun hb=>b.kb (q hb)⟩
omit [Laid] in
theorem abj{M M':Nat}(hM:M≤M')(a:AV):Bd M a→Bd M' a:=by
 refine AV.rec (motive_1:=fun a=>Bd M a→Bd M' a) (motive_2:=fun l=>gU M l→gU M' l) (motive_3:=fun r=>pN M r→pN M' r) ?_ ?_ ?_ ?_ ?_ ?_ ?_ ?_ ?_ ?_ ?_ ?_ ?_ ?_ ?_ ?_ ?_ ?_ a;all_goals intros
 all_goals simp_all [Bd,gU,pN]
 all_goals omega
omit [Laid] in
theorem nQ{M M':Nat}(hM:M≤M'){e:dh}(q:gr M e):gr M' e:=by
 have bd:∀a:AV,Bd M a→Bd M' a:=fun a h=>abj hM a h;cases e with
 | aC b=>exact gU.T6 hM (fun a _=>bd a) q
 | tok=>trivial
 | dead=>trivial
 | mp c es=>exact gU.T6 hM (fun a _=>bd a) q
 | it m s sn l=>exact UP q hM
end
end
end Go.Aw
namespace Go.Proofs.YtldpambpnajgiaaGreatDoor
section
open Go Go.Aw Go.dz
variable{K:AV→Prop}{h t h':aa}{v:Vl}{c:Cu}{l:List Cu}{rows:List (List AV)}{KS:AV→aa→Prop}{k id sz:Nat}{P:Program}{f:FuncId}{a:dh}
theorem Tl{l:List Vl}(h:v∈l)(hv:ct l=false):pL v=false:=by
 cases q:pL v with
 | false=>rfl
 | true=>rw[zB h q]at hv;cases hv
theorem IQ(b c:UInt8)(hc:c=118∨c=97∨c=114)(h:fk .or .u8 (b.toNat:Int) 32=(c.toNat:Int)):nW b=c:=by
 have key:∀n:Fin 256,∀c∈[(118:UInt8),97,114],fk .or .u8 ((n.val:Nat):Int) 32=(c.toNat:Int)→nW (UInt8.ofNat n.val)=c:=by decide +kernel
 have:=key ⟨b.toNat,b.toNat_lt⟩ c (by simpa using hc);simpa using this (by simpa using h)
def gJ(v:Vl):Bool:=decide (v.kind=2)&&decide (v.text.length=3)&&decide (fk .or .u8 ((v.text.getD 0 0).toNat:Int) 32=118)&&decide (fk .or .u8 ((v.text.getD 1 0).toNat:Int) 32=97)&&decide (fk .or .u8 ((v.text.getD 2 0).toNat:Int) 32=114)
theorem yZ(hv:pL v=false):gJ v=false:=by
 obtain⟨kd,tx,nu,un',fl,l2⟩:=v;cases q:gJ (.mk kd tx nu un' fl l2) with
 | false=>rfl
 | true =>
   simp only[gJ,Vl.kind,Vl.text,On]at q;obtain⟨⟨⟨⟨h1,h2⟩,h3⟩,h4⟩,h5⟩:=q;have hk:=uP h1
   match tx,uP h2 with
   | [a,b,c],_ =>
     have e1:=IQ a 118 (.inl rfl) (uP h3);have e2:=IQ b 97 (.inr (.inl rfl)) (uP h4);have e3:=IQ c 114 (.inr (.inr rfl)) (uP h5);simp[pL,bO,e1,e2,e3,sI]at hv;exact absurd hk hv.1
theorem Ht{k:IntKind}{x y:AV}{a b:Int}(ex:x=.v (.int k a))(ey:y=.v (.int k b))(q:K (.v (.int k (fk .or k a b)))):ab .or x y K:=by
 subst ex;subst ey;exact⟨rfl,q⟩
theorem uB(v:Vl):aP p_ 117 [.agg (cQ v)] (b_ (gJ v)):=by
 refine (adZ _).gives (by simp[zX]) (by simp) ?_;unfold XT;obtain⟨kd,tx,nu,un',fl,l2⟩:=v;rw[cQ];refine cI (n:=0) (h':=[_]) rfl rfl rfl rfl (zzA (zzA (zzU rfl rfl (zzA (zzA (zzU rfl rfl (zzG (ay ?_))))))))
 by_cases h1:kd=2
 ·subst h1;refine zzN rfl ?_;refine zzb fun _=>?_;refine zzG (af (zzR (ay ?_)))
  by_cases h2:tx.length=3
  ·match tx,h2 with
   | [a,b,c],_ =>
     refine zzN rfl (B4 (n:=0) rfl rfl rfl (Ht rfl rfl (zzG (af (zzR (ay ?_))))))
     by_cases h3:fk .or .u8 (a.toNat:Int) 32=118
     ·refine zzN (tO h3) (B4 (n:=1) rfl rfl rfl (Ht rfl rfl (zzG (af (zzR (ay ?_))))))
      by_cases h4:fk .or .u8 (b.toNat:Int) 32=97
      ·refine zzN (tO h4) (B4 (n:=2) rfl rfl rfl (Ht rfl rfl (zzG (zzR ?_))));exact .pure (by simp) (by simp[gJ,Vl.kind,Vl.text,h3,h4])
      ·refine zzM (oN h4) (zzQ ?_);exact .pure (by simp) (by simp[gJ,Vl.kind,Vl.text,h3,h4])
     ·refine zzM (oN h3) (af (zzQ (ay (zzM rfl (zzQ ?_)))));exact .pure (by simp) (by simp[gJ,Vl.kind,Vl.text,h3])
  ·refine zzM (oN (by omega)) (af (zzQ (ay (zzM rfl (af (zzQ (ay (zzM rfl (zzQ ?_)))))))));exact .pure (by simp) (by simp[gJ,Vl.kind,Vl.text,h2])
 ·refine zzM (oN h1) (af (zzQ (ay (zzM rfl (af (zzQ (ay (zzM rfl (af (zzQ (ay (zzM rfl (zzQ ?_)))))))))))));exact .pure (by simp) (by simp[gJ,Vl.kind,h1])
theorem Mi(hv:pL v=false):aP p_ 117 [.agg (cQ v)] ff:=by
 have:=uB v
 rwa [yZ hv]at this
abbrev vB(v:Vl):dh:=.aC ⟨100,cQ v,true⟩
theorem vz(q:KS (.op h.length 0) (h++[vB v])):
 br 100 (.agg [(u8 0),(.str []),(i_ 0),(.str []),ff,(.v (.slice none 0 0))]) h fun x g=>aE 6 x (.agg (cQ v)) g fun g' => KS x g':=by
 refine cI (cs:=[(u8 0),(.str []),(i_ 0),(.str []),ff,(.v (.slice none 0 0))]) (n:=h.length) (h':=h++[.aC ⟨100,[(u8 0),(.str []),(i_ 0),(.str []),ff,(.v (.slice none 0 0))],true⟩]) rfl rfl rfl rfl ?_;refine cf (cs:=cQ v) (h':=h++[vB v]) rfl (b:=⟨100,[(u8 0),(.str []),(i_ 0),(.str []),ff,(.v (.slice none 0 0))],true⟩) (by simp) rfl rfl (by simp[cK]) (by simp[cK]) (by simp[cK,dH]) (by rw[Lt _ _ (aS _)];simp[cK,dw]) q
theorem tu(q:K (.agg (cQ v))):ag true 6 (.op h.length 0) (h++[vB v]) K:=
 zzV (b:=⟨100,cQ v,true⟩) (by simp) (by simp[cK]) (by simpa[cK]using q)
theorem vA{i:Nat}{c:AV}(hc:(cQ v)[i]?=some c)(q:K c):ag false 1 (.op h.length (0+i)) (h++[vB v]) K:=
 zzU (b:=⟨100,cQ v,true⟩) (by simp) (by rw[acu];exact hc) q
theorem RS{l:List Vl}{x:Vl}(h:l[k]?=some x):ar (l.take (k+1))=ar (l.take k)++[cQ x]:=by
 rw[aJ,aJ,Gt,h];simp
theorem B8(q:K (.agg (pE v))):ag true 5 (.op h.length (0+0)) (h++[vB v]) K:=
 zzV (b:=⟨100,cQ v,true⟩) (by simp) (by simp[cK]) (by simpa[cK,pE]using q)
theorem TD(q:K (.sl 6 [cQ v])):bH 1 6 (.agg [(u8 0),(.str []),(i_ 0),(.str []),ff,(.v (.slice none 0 0))]) [(0,6,.agg (cQ v))] K:=by
 obtain⟨kd,tx,nu,un',fl,l2⟩:=v;rw[cQ]at q ⊢;exact cN (cs:=[u1 kd,.str tx,i_ nu,.str un',b_ fl,.sl 6 (ar l2)]) rfl q
theorem Ho(q:K (.agg (cQ v))):aY (.agg [(u8 0),(.str []),(i_ 0),(.str []),ff,(.v (.slice none 0 0))]) [(0,5,.agg (pE v)),(5,1,.sl 6 (ar v.list))] K:=by
 obtain⟨kd,tx,nu,un',fl,l2⟩:=v;rw[cQ]at q;exact bt (cs:=[u1 kd,.str tx,i_ nu,.str un',b_ fl,.sl 6 (ar l2)]) rfl q
theorem KL:(h++a:: t)[h.length]?=some a:=by simp
theorem DW:(h++a:: t).take (h.length+1)=h++[a]:=by
 rw[List.take_append,Of (by omega),show h.length+1-h.length=1 by omega];rfl
theorem Qz:(h++[a]++t).take (h.length+1)=h++[a]:=by rw[TO];exact DW
theorem Ls(v:Vl):([cQ v].all (gh 6))=true:=by
 obtain⟨kd,tx,nu,un',fl,l2⟩:=v;rw[cQ];rfl
theorem KC[Laid](hb:∀e∈h,gr h.length e)(pr:du rows)(ht:h'.take h.length=h):∃r' h'',Wk h.length [.sb id sz rows] h' [r'] h''∧r'=.sl sz rows∧h''=h:=by
 have hl:h.length≤h'.length:=by have:=congrArg List.length ht;simp at this;omega
 exact⟨_,_,(Wk.le (s:=[.sb id sz rows]) (s':=[.sl sz rows]) hl ⟨⟨rfl,rfl⟩,trivial⟩).trans (Wk.back (aS _) hl ht rfl hb (by
  have:=iR h.length (.sl sz rows) (by rw[Aw.Pure];exact pr);simpa using this)),rfl,rfl⟩
def Xr(n:Nat):Prop:=∀(l:List Vl) (id:Nat) (h:aa),aW l≤n→ct l=false→Ex p_ 81 [.sl 6 (ar l),.mp id] h (.sl 6 (ar l))
theorem WA{n:Nat}(hn:n<2^39)(hP:∀n',n'<n→Xr n'):Xr n:=by
 intro l id h hz hv;refine (V81 _ _).ex fun hb=>?_;unfold YE;have hlen:(ar l).length=l.length:=by simp[aJ]
 have hll:=fu l;refine zzk (n:=l.length) hlen fun _=>?_;refine aU (α:=Nat) (fun k=>k≤l.length) (fun k=>[.sb h.length 6 (ar (l.take k)),i_ k]) (fun k=>h++[.tok 100 6 k]) (fun k=>l.length-k) 0 (by simp) ((Wk.nil (aS _) 0 rfl).trans (Wk.tok (aS _) 0 100 6 rfl)) ?_;intro k hk;refine zzC ?_;rcases AT k l.length with q|q
 ·obtain⟨v,hx⟩:∃x,l[k]?=some x:=⟨l[k],dO q⟩;have hzv:=gX (gO hx);have hvv:=Tl (gO hx) hv;have hl2:ct v.list=false:=by
   obtain⟨kd,tx,nu,un',fl,l2⟩:=v;rw[pL,acW]at hvv;exact hvv.2
  have hz2:zV v=1+v.text.length+v.unit.length+aW v.list:=by
   obtain⟨kd,tx,nu,un',fl,l2⟩:=v;rw[zV];rfl
  have d1:=RS hx;have pr:=dd (l.take (k+1));obtain⟨R,hR⟩:∃R,ar (l.take k)=R:=⟨_,rfl⟩;have hRl:R.length=k:=by rw[←hR,aJ,aai,aaW];omega
  rw[hR]at d1 ⊢;refine zzL (by simpa using q) (ay (zzg (f:=cQ) (aJ l) rfl hx (zzY (by simp[cK]) (vz (tu (zzS (by kernel_rfl) (Mi hvv) (zzO (zzL rfl (zzA (B8 (zzA (vA (i:=5) (c:=.sl 6 (ar v.list)) (by simp[cK,aJ]) (Uy rfl (hP (aW v.list) (by omega) v.list id _ (aS _) hl2) ?_)))))))))))));refine Ho (TD (kP (h':=h++[.tok 100 6 (k+1)]++[vB v]) (id:=h.length) (k:=k) (base:=R) (rows:=[cQ v]) rfl (by simp) hRl.symm fw (Ls v) (by unfold dU maxLen;simp;omega) (by simp) (af (zzP (by unfold aN;omega) (af ?_)))));refine⟨k+1,q,Wk.back (M:=h.length+1) (by simp) (by simp) Qz (by rw[d1];rfl) ?_ ?_,by omega⟩
  ·intro e he;rcases IN.1 he with he|he
   ·exact nQ (by omega) (hb e he)
   ·simp only[Up]at he;subst he;trivial
  ·have hb:=iR (h.length+1) (.sl 6 (ar (l.take (k+1)))) (by rw[Aw.Pure];exact pr);rw[Bd]at hb;simp[Bd,hb]
 ·obtain rfl:k=l.length:=by omega
  refine zzK (by simp) ?_;rw[GO];exact KC hb (dd l) (by simp)
theorem Zj{l:List Vl}(hz:aW l<2^39)(hv:ct l=false):Ex p_ 81 [.sl 6 (ar l),.mp id] h (.sl 6 (ar l)):=by
 have:∀n,n<2^39→Xr n:=by
  intro n;induction n using Nat.strongRecOn with
  | _ n ih=>exact fun hn=>WA hn fun n' h=>ih n' h (by omega)
 exact this _ hz l id h (aS _) hv
def dQ(l:List Cu)(i:Nat):aD:=(l.map Cu.name).getD i []
def u3(l:List Cu)(i:Nat):AV:=.sl 6 (ar ((l.map Cu.value).getD i []))
theorem nk(h:l[k]?=some c):dQ l k=c.name:=by
 unfold dQ;rw[oF,lE,h];rfl
theorem aba(h:l[k]?=some c):u3 l k=.sl 6 (ar c.value):=by
 unfold u3;rw[oF,lE,h];rfl
theorem Tk(l:List Cu)(i:Nat):Aw.Pure (u3 l i):=by unfold u3;rw[Aw.Pure];exact dd _
def ny(l:List Cu):Prop:=∀x y,x<l.length→y<l.length→dQ l x=dQ l y→x=y
abbrev cB(c:Cu):dh:=.aC ⟨86,eT c,true⟩
theorem tX{n:Nat}(hn:h.length=n)(hh:h++[cB c]=h')(q:KS (.op n 0) h'):
 br 86 (.agg [(.str []),(.v (.slice none 0 0))]) h fun x g=>aE 2 x (.agg (eT c)) g fun g' => KS x g':=by
 subst hn;subst hh;refine cI (cs:=[(.str []),(.v (.slice none 0 0))]) (n:=h.length) (h':=h++[.aC ⟨86,[(.str []),(.v (.slice none 0 0))],true⟩]) rfl rfl rfl rfl ?_;refine cf (cs:=eT c) (h':=h++[cB c]) rfl (b:=⟨86,[(.str []),(.v (.slice none 0 0))],true⟩) (by simp) rfl rfl (by simp[eT]) (by simp[eT]) (by simp[eT,dH]) (by rw[Lt _ _ (aS _)];simp[eT,dw]) q
theorem oz(hb:h[id]?=some (cB c))(q:K (.str c.name)):ag false 1 (.op id (0+0)) h K:=aR rfl hb rfl q
theorem B3(hb:h[id]?=some (cB c))(q:K (.sl 6 (ar c.value))):ag false 1 (.op id (0+1)) h K:=aR rfl hb rfl q
theorem PQ{M:Nat}{f:Nat→AV}{nm:Nat→aD}(hf:∀i,Bd M (f i)):∀n a,gU M (qn (jv f nm a n))
 | 0,a=>by simp[jv,qn,gU]
 | n+1,a=>by
   rw[rq];simp only[qn,gU];exact⟨by simp[Bd],hf _,PQ hf n (a+1)⟩
theorem qk(hx:l[k]?=some c)(q:K (.agg (eT c))):aG 2 (.sl 2 (az l)) (i_ k) fun v=>ag true 2 v h K:=by
 refine zzg (f:=eT) rfl rfl hx ?_;exact zzY rfl q
theorem Ux[Laid]{xs ys args args':List AV}{r:AV}{K:AV→aa→Prop}(e:xs++args++ys=args')(c:Ex P f args' h r)(k:K r h):eJ P (.fn (.func f) xs ys) args h K:=by
 subst e;exact⟨c.1,c.2.mono fun v h' ⟨a,b⟩=>by subst a;subst b;exact k⟩
theorem su[Laid]{args args':List AV}{K0 K:AV→aa→Prop}(hb:cd P f=true)(e:args=args')(c:dY P f args' h K0)(k:∀r h',K0 r h'→(∀e∈h',gr h'.length e)→K r h'):eJ P (.fn (.func f) [] []) args h K:=by
 subst e;refine⟨hb, ?_⟩;simp only[List.nil_append,aa1];intro base ι S w vs h1 h2;refine (c base ι S w vs h1 h2).mono ?_;rintro e w' ⟨v,ι',S',r,h',a1,a2,a3,a4,a5,a6⟩;exact⟨v,ι',S',r,h',a1,a2,a3,a4,a5,k r h' a6 a4.bound⟩
theorem yn(hl:l.length<2^20)(inj:ny l):dY p_ 42 [.sl 2 (az l)] h fun v h' => v=.mp h.length∧h'=h++[.mp l.length (jv (u3 l) (dQ l) 0 l.length)]:=by
 refine dY.bd fun hb=>(V42 _).kb ?_;unfold W42;refine qa rfl rfl ?_;refine zzk (n:=l.length) (by simp[az]) fun _=>?_;refine aU (α:=Nat) (fun k=>k≤l.length) (fun k=>[i_ k]) (fun k=>h++[.mp k (jv (u3 l) (dQ l) 0 k)]) (fun k=>l.length-k) 0 (by simp) (Wk.refl _ _ _ (aS _)) ?_;intro k hk;refine zzC ?_;rcases AT k l.length with q|q
 ·obtain⟨c,hx⟩:∃x,l[k]?=some x:=⟨l[k],dO q⟩;refine zzL (by simpa using q) (qk hx (tX (n:=h.length+1) (h':=h++[.mp k (jv (u3 l) (dQ l) 0 k),cB c]) (by simp) (by simp) (zzA (oz (c:=c) (by simp) (zzA (B3 (c:=c) (by simp) (uu (h':=h++[.mp (k+1) (jv (u3 l) (dQ l) 0 (k+1)),cB c]) rfl KL rfl (by rw[←nk hx,←aba hx];exact Fs inj q) (by simp) (zzP (by unfold aN;omega) (af ?_)))))))));refine⟨k+1,q,Wk.back (M:=h.length+1) (by simp) (by simp) DW rfl ?_ (by simp[Bd]),by omega⟩;intro e he;rcases IN.1 he with he|he
  ·exact nQ (by omega) (hb e he)
  ·simp only[Up]at he;subst he;exact PQ (fun i=>iR _ _ (Tk l i)) _ _
 ·obtain rfl:k=l.length:=by omega
  refine zzK (by simp) ?_;exact⟨_,_,Wk.refl _ _ _ (by simp),rfl,rfl⟩
def zh(l:List Cu)(k:Nat):List (Nat×AV×AV):=jv (fun i=>.mp (2*i+3)) (dQ l) 0 k
section
variable {h1 tl:aa} {a b x y:dh}
end
theorem AN(q:K (.agg (eT c))):aY (.agg [(.str []),(.v (.slice none 0 0))]) [(0,1,.str c.name),(1,1,.sl 6 (ar c.value))] K:=bt (cs:=eT c) rfl q
theorem LR(q:K (.sl 2 [eT c])):bH 1 2 (.agg [(.str []),(.v (.slice none 0 0))]) [(0,2,.agg (eT c))] K:=cN (cs:=eT c) rfl q
theorem wY[Laid](pr:du rows):fg (.sl sz rows) (.sb id sz rows) h:=by
 refine fg.of ?_;rw[Xf pr];exact Le.refl _
end
section
open Go Go.Aw
variable [Laid]
def XU(x0:AV)(h:aa)(K:AV→aa→Prop):Prop:=
 br 100 x0 h fun p g=>iFL 5 false 1 p g fun q=>iC p_ 158 [q] g fun a c=>bu a fun r=>ab .eql r (i_ 0) fun i=>aB (fun j=>au i false (aG 6 a (i_ 0) fun s=>bh 0 s fun t=>iFL 0 false 1 t c fun u=>ab .neq u (u8 1) fun v=>eC [a] (j [ff,v] c)) (eC [a] (j [(aQ false i),un] c))) fun k d=>aH (nx k 0) tt (nx k 1) fun l=>aB (fun m=>au l false (aG 6 a (i_ 0) fun w=>bh 0 w fun x=>iFL 1 false 1 x d fun y=>iC p_ 73 [y] d fun z A=>fe z fun B=>eC [a] (m [ff,B] A)) (eC [a] (m [(aQ false l),un] d))) fun n e=>aH (nx n 0) tt (nx n 1) fun C=>ae C (K (.aF [(.str []),nS,ff]) e) (aG 6 a (i_ 0) fun D=>bh 0 D fun E=>iFL 1 false 1 E e fun o=>nj 6 a (some (i_ 1)) none fun F=>iC p_ 158 [F] e fun f b=>bu f fun G=>ab .eql G (i_ 0) fun H=>ae H (K (.aF [o,nS,ff]) b) (aG 6 f (i_ 0) fun I=>bh 0 I fun J=>iFL 0 false 1 J b fun L=>ab .eql L (u8 18) fun M=>ae M (nj 6 f (some (i_ 1)) none fun N=>iC p_ 159 [N] b fun O P=>K (.aF [o,O,tt]) P) (K (.aF [(.str []),nS,ff]) b)))
theorem ad0(x0:AV):cp p_ 118 [x0] (XU x0):=mkM Tryz.func118 (sn (sn (.seq (.seq (.bz (oR 0 4 (.bj 3 false (fR 4 6) [5] [13,19]::oR 10 2 (.bj 11 false (fR 12 7) [5] [21,28]::.op 19 false::[])))) .nil) .nil))) 54 [.tmp 2,.tmp 3,.tmp 4] (by kernel_rfl) fun _ _=>by kernel_rfl
def Yf(x0:AV)(h:aa)(K:AV→aa→Prop):Prop:=
 bJ [x0] h fun g a b =>
 bu (nx a 0) fun i=>ab .gtr i (i_ 0) fun c=>aB (fun d=>au c true (aG 6 (nx a 0) (i_ 0) fun j=>bh 0 j fun k=>iFL 0 false 1 k b fun l=>ab .eql l (u8 13) fun m=>eC [(nx a 0)] (d [tt,m] b)) (eC [(nx a 0)] (d [(aQ true c),un] b))) fun e f=>aH (nx e 0) (nx e 1) ff fun n=>ae n (nj 6 (nx a 0) (some (i_ 1)) none fun o=>g [o] f) (K (nx a 0) f)
theorem ael(x0:AV):cp p_ 158 [x0] (Yf x0):=mkM Tryz.func158 (sn (.seq (.one (.loop [] [0] (.seq (.seq (.bz (oR 0 4 (.bj 3 true (fR 4 6) [0] [6,12]::.op 10 false::[]))) .nil) .nil))) .nil)) 17 [.tmp 2] (by kernel_rfl) fun _ _=>by kernel_rfl
def Yg(x0:AV)(h:aa)(K:AV→aa→Prop):Prop:=
 iC p_ 158 [x0] h fun g i=>bJ [g] i fun j a b =>
 bu (nx a 0) fun k=>ab .gtr k (i_ 0) fun c=>aB (fun d=>au c true (bu (nx a 0) fun l=>ab .sub l (i_ 1) fun m=>aG 6 (nx a 0) m fun n=>bh 0 n fun o=>iFL 0 false 1 o b fun p=>ab .eql p (u8 13) fun q=>eC [(nx a 0)] (d [tt,q] b)) (eC [(nx a 0)] (d [(aQ true c),un] b))) fun e f=>aH (nx e 0) (nx e 1) ff fun r=>ae r (bu (nx a 0) fun s=>ab .sub s (i_ 1) fun t=>nj 6 (nx a 0) none (some t) fun u=>j [u] f) (K (nx a 0) f)
theorem aem(x0:AV):cp p_ 159 [x0] (Yg x0):=mkM Tryz.func159 (sn (sn (.seq (.one (.loop [] [0] (.seq (.seq (.bz (oR 0 4 (.bj 3 true (fR 4 9) [0] [8,17]::.op 13 false::[]))) .nil) .nil))) .nil))) 25 [.tmp 2] (by kernel_rfl) fun _ _=>by kernel_rfl
def W15(x0 x1:AV)(h:aa)(K:AV→aa→Prop):Prop:=
 iC p_ 40 [x0] h fun a b=>ab .neq a (i_ 0) fun f=>ae f (K (.aF [nS,a]) b) (iC p_ 30 [x1] b fun c d=>ab .neq c (i_ 0) fun g=>ae g (K (.aF [nS,c]) d) (iC p_ 42 [x1] d fun i j=>iC p_ 41 [x0,i] j fun e k=>aK 0 e fun l=>aK 1 e fun m=>K (.aF [l,m]) k))
theorem V15(x0 x1:AV):cp p_ 15 [x0,x1] (W15 x0 x1):=mkM Tryz.func15 .nil 24 [.tmp 4,.tmp 5] (by kernel_rfl) fun _ _=>by kernel_rfl
def X3(x0:AV)(h:aa)(K:AV→aa→Prop):Prop:=
 br 44 x0 h fun a g=>ag false 1 a g fun s=>iC p_ 40 [s] g fun i e=>ab .neq i (i_ 0) fun t=>ae t (K (.aF [nS,i]) e) (ag false 1 a e fun u=>rT u fun d=>bJ [(i_ 0)] e fun v b j =>
 ab .lss (nx b 0) d fun k=>aB (fun l=>au k true (eJ p_ (.fn (.func 187) [] [a]) [(nx b 0)] j fun w x=>eC [a,(.fn (.func 187) [] [a]),(nx b 0),d] (l [tt,w] x)) (eC [a,(.fn (.func 187) [] [a]),(nx b 0),d] (l [(aQ true k),un] j))) fun m n=>aH (nx m 0) (nx m 1) ff fun y=>ae y (ab .add (nx b 0) (i_ 1) fun z=>eC [a,(.fn (.func 187) [] [a]),d] (v [z] n)) (bJ [d] n fun A c o =>
 ab .lss (nx b 0) (nx c 0) fun p=>aB (fun q=>au p true (ab .sub (nx c 0) (i_ 1) fun B=>eJ p_ (.fn (.func 187) [] [a]) [B] o fun C D=>eC [a,(.fn (.func 187) [] [a]),(nx b 0),(nx c 0)] (q [tt,C] D)) (eC [a,(.fn (.func 187) [] [a]),(nx b 0),(nx c 0)] (q [(aQ true p),un] o))) fun r f=>aH (nx r 0) (nx r 1) ff fun E=>ae E (ab .sub (nx c 0) (i_ 1) fun F=>eC [a,(.fn (.func 187) [] [a]),(nx b 0)] (A [F] f)) (ag false 1 a f fun G=>Ik 6 G (some (nx b 0)) (nx c 0) (nx c 0) fun H=>iC p_ 188 [H] f fun I J=>K (.aF [I,(i_ 0)]) J)))
theorem ad9(x0:AV):cp p_ 146 [x0] (X3 x0):=mkM Tryz.func146 (sn (sn (sn (.seq (.draw 4 (oR 0 4 []) [] []) (.seq (.one (.loop [1,5,7] [6] (.seq (.seq (.bz (oR 0 4 (.bj 3 true (fR 4 3) [1,5,6,7] [19,22]::.op 7 false::[]))) .nil) .nil))) (.seq (.one (.loop [1,5,6] [7] (.seq (.seq (.bz (oR 0 4 (.bj 3 true (fR 4 4) [1,5,6,7] [29,33]::.op 8 false::[]))) .nil) .nil))) .nil)))))) 43 [.tmp 2,.tmp 3] (by kernel_rfl) fun _ _=>by kernel_rfl
def Yq(x0 x1:AV)(h:aa)(K:AV→aa→Prop):Prop:=
 ag false 1 x1 h fun a=>aG 6 a x0 fun b=>bh 0 b fun c=>iFL 0 false 1 c h fun d=>ab .eql d (u8 13) fun e=>K e h
theorem aew(x0 x1:AV):cp p_ 187 [x0,x1] (Yq x0 x1):=mkM Tryz.func187 .nil 11 [.tmp 3] (by kernel_rfl) fun _ _=>by kernel_rfl
def Yr(x0:AV)(h:aa)(K:AV→aa→Prop):Prop:=
 iC p_ 226 [x0] h fun a e=>bu a fun d=>bJ [(i_ 0)] e fun f b c =>
 ab .lss (nx b 0) d fun g=>ae g (aG 6 a (nx b 0) fun i=>iFL 5 false 1 i c fun j=>iC p_ 188 [j] c fun k l=>aG 6 a (nx b 0) fun m=>bh 5 m fun n=>aE 1 n k l fun o=>ab .add (nx b 0) (i_ 1) fun p=>eC [a,d] (f [p] o)) (K a c)
theorem aex(x0:AV):cp p_ 188 [x0] (Yr x0):=mkM Tryz.func188 (sn (sn (.seq (sn (.one (.loop [0,7] [8] .nil))) .nil))) 23 [.tmp 2] (by kernel_rfl) fun _ _=>by kernel_rfl
def Yy(x0:AV)(h:aa)(K:AV→aa→Prop):Prop:=
 nB false (xq x0) fun a=>ae a (K nS h) (jP 100 0 6 (.agg [(u8 0),(.str []),(i_ 0),(.str []),ff,nS]) [] h fun b c=>eE true 100 6 80 b x0 c fun d e=>K d e)
theorem aeE(x0:AV):cp p_ 226 [x0] (Yy x0):=mkM Tryz.func226 (sn (sn (.seq (.bz (oR 0 2 (.op 2 true::.op 3 false::[]))) .nil))) 8 [.tmp 2] (by kernel_rfl) fun _ _=>by kernel_rfl
def W99(x0 x1 x2:AV)(h:aa)(K:AV→aa→Prop):Prop:=
 br 37 (.agg [(u8 0),(.str []),(i_ 0),(u8 0),(u8 0),(u8 0),(u8 0)]) h fun a d=>gq p_ x0 fun L=>iFL 2 false 1 L d fun M=>aG 11 M x2 fun N=>iFL 0 true 3 N d fun O=>br 46 (.agg [(.str []),nS,(.str [])]) d fun b P=>aE 3 b O P fun l=>iFL 1 false 1 b l fun e=>aB (fun m=>iC p_ 61 [e] l fun Q f=>ae Q (gq p_ x0 fun R=>iFL 3 false 1 R f fun S=>iC p_ 15 [e,S] f fun n o=>aK 0 n fun p=>aK 1 n fun q=>aB (fun r=>ab .eql q (i_ 0) fun T=>ae T (iC p_ 146 [p] o fun s U=>aK 0 s fun V=>aK 1 s fun W=>eC [x0,x1,x2,a,b] (r [V,W] U)) (eC [x0,x1,x2,a,b] (r [p,q] o))) fun g t=>ab .neq (nx g 1) (i_ 0) fun X=>ae X (aY (.agg [(u8 0),(.str []),(i_ 0),(u8 0),(u8 0),(u8 0),(u8 0)]) [] fun Y=>iC p_ 147 [x0,x1] t fun Z a0=>aE 7 a Y a0 fun u=>ag true 7 a u fun r37=>K (.aF [r37,Z]) u) (iC p_ 76 [(nx g 0)] t fun v i=>ab .neq v (.str []) fun a1=>ae a1 (gq p_ x0 fun a2=>iFL 2 false 1 a2 i fun a3=>iC p_ 148 [a3,x2,v] i fun j w=>aK 0 j fun x=>aK 1 j fun a4=>aK 2 j fun d1=>ab .geq x (i_ 0) fun a5=>ae a5 (iC p_ 99 [x0,x1,x] w fun y a6=>aK 0 y fun a7=>aK 1 y fun a8=>aE 7 a a7 a6 fun z=>ag true 7 a z fun r55=>K (.aF [r55,a8]) z) (aY (.agg [(u8 0),(.str []),(i_ 0),(u8 0),(u8 0),(u8 0),(u8 0)]) [] fun a9=>aE 7 a a9 w fun A=>ag true 7 a A fun r58=>K (.aF [r58,a4]) A)) (eC [x0,x1,a,b] (m [(nx g 0)] i)))) (eC [x0,x1,a,b] (m [e] f))) fun B c=>aB (fun C=>iFL 2 false 1 b c fun b0=>ab .neq b0 (.str []) fun b1=>ae b1 (iFL 2 false 1 b c fun b2=>iFL 0 false 1 b c fun b3=>iC p_ 149 [b2,b3,(nx B 0)] c fun D E=>aK 0 D fun b4=>aK 1 D fun b5=>ab .neq b5 (i_ 0) fun b6=>ae b6 (aY (.agg [(u8 0),(.str []),(i_ 0),(u8 0),(u8 0),(u8 0),(u8 0)]) [] fun b7=>iC p_ 147 [x0,x1] E fun b8 b9=>aE 7 a b7 b9 fun F=>ag true 7 a F fun r78=>K (.aF [r78,b8]) F) (eC [x0,x1,a] (C [b4] E))) (eC [x0,x1,a] (C [(nx B 0)] c))) fun c0 c1=>iC p_ 16 [x1,(nx c0 0)] c1 fun G c2=>aK 0 G fun c3=>aK 1 G fun c4=>br 37 (.agg [(u8 0),(.str []),(i_ 0),(u8 0),(u8 0),(u8 0),(u8 0)]) c2 fun H c5=>aE 7 H c3 c5 fun k=>ab .neq c4 (i_ 0) fun c6=>ae c6 (aY (.agg [(u8 0),(.str []),(i_ 0),(u8 0),(u8 0),(u8 0),(u8 0)]) [] fun c7=>iC p_ 147 [x0,x1] k fun c8 c9=>aE 7 a c7 c9 fun I=>ag true 7 a I fun r93=>K (.aF [r93,c8]) I) (ag true 7 H k fun d0=>aE 7 a d0 k fun J=>ag true 7 a J fun r96=>K (.aF [r96,(.str [])]) J)
theorem V99(x0 x1 x2:AV):cp p_ 99 [x0,x1,x2] (W99 x0 x1 x2):=mkM Tryz.func99 (sn (sn (sn (.join [0,1,6,8] [9] (sn (.two (sn (.join [0,1,2,6,8] [10,11] .nil .nil)) .nil)) (.join [0,1,6] [9] .nil .nil))))) 112 [.cell 6 37,.tmp 7] (by kernel_rfl) fun _ _=>by kernel_rfl
def X4(x0 x1:AV)(h:aa)(K:AV→aa→Prop):Prop:=
 gq p_ x0 fun a=>iFL 4 false 1 a h fun b=>aG 12 b x1 fun c=>iFL 1 false 1 c h fun d=>ae d (K (.str [105,110,104,101,114,105,116]) h) (K (.str [105,110,105,116,105,97,108]) h)
theorem aea(x0 x1:AV):cp p_ 147 [x0,x1] (X4 x0 x1):=mkM Tryz.func147 .nil 13 [.tmp 4] (by kernel_rfl) fun _ _=>by kernel_rfl
def XE(x0 x1:AV)(h:aa)(K:AV→aa→Prop):Prop:=
 bH 2 1 (i_ 0) [(0,1,x0),(1,1,x1)] fun m=>iC p_ 150 [m] h fun b c=>ab .neq b (i_ 0) fun n=>ae n (K (.aF [(i_ 0),b]) c) (mR x0 fun o=>iY x0 o fun p=>gZ .u64 p fun q=>mR x1 fun r=>iY x1 r fun s=>gZ .u64 s fun t=>iC p_ 151 [q,t] c fun d e=>aK 0 d fun f=>aK 1 d fun u=>aB (fun a=>ab .lss f (.v (.int .u64 1000)) fun w=>ae w (iC p_ 152 [f,u,(.v (.int .u64 1000))] e fun g i=>aK 0 g fun j=>aK 1 g fun D=>ab .lss j (.v (.int .u64 1000000000000)) fun x=>ae x (gZ .i64 j fun y=>eC [x0,x1] (a [y] i)) (eC [x0,x1] (a [(i_ 1000000000000)] i))) (eC [x0,x1] (a [(i_ 1000000000000)] e))) fun k l=>ab .lss x0 (i_ 0) fun z=>ab .lss x1 (i_ 0) fun A=>rR .neq z A fun B=>ae B (mR (nx k 0) fun C=>K (.aF [C,(i_ 0)]) l) (K (.aF [(nx k 0),(i_ 0)]) l))
theorem adJ(x0 x1:AV):cp p_ 100 [x0,x1] (XE x0 x1):=mkM Tryz.func100 (sn (.seq (.seq (.bz (oR 0 2 (.op 2 true::oR 3 2 []))) .nil) (sn (sn (.join [0,1] [9] .nil .nil))))) 53 [.tmp 4,.tmp 5] (by kernel_rfl) fun _ _=>by kernel_rfl
def X7(x0:AV)(h:aa)(K:AV→aa→Prop):Prop:=
 bu x0 fun b=>bJ [(i_ 0)] h fun j a c =>
 ab .lss (nx a 0) b fun k=>ae k (aG 1 x0 (nx a 0) fun l=>ag false 1 l c fun d=>ab .lss d (i_ (-1000000000000)) fun e=>aB (fun f=>au e false (ab .gtr d (i_ 1000000000000) fun m=>eC [x0,b,(nx a 0)] (f [ff,m] c)) (eC [x0,b,(nx a 0)] (f [(aQ false e),un] c))) fun g i=>aH (nx g 0) tt (nx g 1) fun n=>ae n (K (i_ 8) i) (ab .add (nx a 0) (i_ 1) fun o=>eC [x0,b] (j [o] i))) (K (i_ 0) c)
theorem aed(x0:AV):cp p_ 150 [x0] (X7 x0):=mkM Tryz.func150 (sn (.seq (sn (.one (.loop [5,6] [7] (sn (sn (.seq (.one (sn (.seq (.bz (oR 0 3 (.bj 2 false (fR 3 2) [5,6,7] [13,15]::.op 5 false::[]))) .nil))) .nil)))))) .nil)) 18 [.tmp 2] (by kernel_rfl) fun _ _=>by kernel_rfl
def X8(x0 x1:AV)(h:aa)(K:AV→aa→Prop):Prop:=
 ab .and x0 (.v (.int .u64 4294967295)) fun a=>ab .shr x0 (.v (.int .u64 32)) fun b=>ab .and x1 (.v (.int .u64 4294967295)) fun c=>ab .shr x1 (.v (.int .u64 32)) fun d=>ab .mul a c fun f=>ab .mul b c fun g=>ab .shr f (.v (.int .u64 32)) fun i=>ab .add g i fun e=>ab .and e (.v (.int .u64 4294967295)) fun j=>ab .shr e (.v (.int .u64 32)) fun k=>ab .mul a d fun l=>ab .add j l fun m=>ab .mul b d fun n=>ab .add n k fun o=>ab .shr m (.v (.int .u64 32)) fun p=>ab .add o p fun q=>ab .mul x0 x1 fun r=>K (.aF [q,r]) h
theorem aee(x0 x1:AV):cp p_ 151 [x0,x1] (X8 x0 x1):=mkM Tryz.func151 .nil 51 [.tmp 4,.tmp 5] (by kernel_rfl) fun _ _=>by kernel_rfl
def X9(x0 x1 x2:AV)(h:aa)(K:AV→aa→Prop):Prop:=
 aB (fun J=>ab .eql x2 (.v (.int .u64 0)) fun L=>ae L (ag false 1 (ak [] (.global 2)) h fun c6=>False) (eC [x0,x1,x2] (J [] h))) fun c7 o=>aB (fun M=>ab .leq x2 x0 fun N=>ae N (ag false 1 (ak [] (.global 3)) o fun c8=>False) (eC [x0,x1,x2] (M [] o))) fun c9 p=>ab .eql x0 (.v (.int .u64 0)) fun O=>ae O (ab .quo x1 x2 fun P=>ab .rem x1 x2 fun Q=>K (.aF [P,Q]) p) (iC p_ 191 [x2] p fun R S=>gZ .u64 R fun a=>ab .shl x2 a fun b=>ab .shr b (.v (.int .u64 32)) fun c=>ab .and b (.v (.int .u64 4294967295)) fun e=>ab .shl x0 a fun T=>ab .sub (.v (.int .u64 64)) a fun U=>ab .shr x1 U fun V=>ab .or T V fun i=>ab .shl x1 a fun q=>ab .shr q (.v (.int .u64 32)) fun k=>ab .and q (.v (.int .u64 4294967295)) fun d=>ab .quo i c fun r=>ab .mul r c fun W=>ab .sub i W fun X=>aB (fun s=>bJ [r,X] S fun Y f t =>
 ab .geq (nx f 0) (.v (.int .u64 4294967296)) fun u=>aB (fun w=>au u false (ab .mul (nx f 0) e fun Z=>ab .mul (.v (.int .u64 4294967296)) (nx f 1) fun a0=>ab .add a0 k fun a1=>ab .gtr Z a1 fun a2=>eC [b,a,c,e,i,k,d,(nx f 0),(nx f 1)] (w [ff,a2] t)) (eC [b,a,c,e,i,k,d,(nx f 0),(nx f 1)] (w [(aQ false u),un] t))) fun x m=>aH (nx x 0) tt (nx x 1) fun a3=>ae a3 (ab .sub (nx f 0) (.v (.int .u64 1)) fun y=>ab .add (nx f 1) c fun z=>ab .geq z (.v (.int .u64 4294967296)) fun a4=>ae a4 (eC [b,a,c,e,i,k,d] (s [y] m)) (eC [b,a,c,e,i,k,d] (Y [y,z] m))) (eC [b,a,c,e,i,k,d] (s [(nx f 0)] m))) fun l a5=>ab .mul i (.v (.int .u64 4294967296)) fun a6=>ab .add a6 k fun a7=>ab .mul (nx l 0) b fun a8=>ab .sub a7 a8 fun j=>ab .quo j c fun A=>ab .mul A c fun a9=>ab .sub j a9 fun b0=>aB (fun B=>bJ [b0,A] a5 fun b1 g C =>
 ab .geq (nx g 1) (.v (.int .u64 4294967296)) fun D=>aB (fun E=>au D false (ab .mul (nx g 1) e fun b2=>ab .mul (.v (.int .u64 4294967296)) (nx g 0) fun b3=>ab .add b3 d fun b4=>ab .gtr b2 b4 fun b5=>eC [b,a,c,e,d,(nx l 0),(nx g 0),j,(nx g 1)] (E [ff,b5] C)) (eC [b,a,c,e,d,(nx l 0),(nx g 0),j,(nx g 1)] (E [(aQ false D),un] C))) fun F n=>aH (nx F 0) tt (nx F 1) fun b6=>ae b6 (ab .sub (nx g 1) (.v (.int .u64 1)) fun G=>ab .add (nx g 0) c fun H=>ab .geq H (.v (.int .u64 4294967296)) fun b7=>ae b7 (eC [b,a,d,(nx l 0),j] (B [G] n)) (eC [b,a,c,e,d,(nx l 0),j] (b1 [H,G] n))) (eC [b,a,d,(nx l 0),j] (B [(nx g 1)] n))) fun I b8=>ab .mul (nx l 0) (.v (.int .u64 4294967296)) fun b9=>ab .add b9 (nx I 0) fun c0=>ab .mul j (.v (.int .u64 4294967296)) fun c1=>ab .add c1 d fun c2=>ab .mul (nx I 0) b fun c3=>ab .sub c2 c3 fun c4=>ab .shr c4 a fun c5=>K (.aF [c0,c5]) b8)
theorem aef(x0 x1 x2:AV):cp p_ 152 [x0,x1,x2] (X9 x0 x1 x2):=mkM Tryz.func152 (sn (.join [0,1,2] [] .nil (.join [0,1,2] [] .nil (.seq (sn (.two (.seq (.draw 8 (oR 0 8 []) [] []) .nil) .nil)) (sn (sn (sn (sn (sn (sn (sn (sn (sn (sn (.join [2,8,9,10,11,13,14] [15] (.one (.loop [2,8,9,10,11,13,14] [15,16] (.seq (.seq (.bz (oR 0 3 (.bj 2 false (fR 3 8) [2,8,9,10,11,13,14,15,16] [69,77]::.op 11 false::[]))) .nil) .nil))) (sn (sn (sn (.join [2,8,14,15,17] [18] (.one (.loop [2,8,9,10,14,15,17] [16,18] (.seq (.seq (.bz (oR 0 3 (.bj 2 false (fR 3 8) [2,8,9,10,14,15,16,17,18] [104,112]::.op 11 false::[]))) .nil) .nil))) .nil))))))))))))))))))) 135 [.tmp 6,.tmp 7] (by kernel_rfl) fun _ _=>by kernel_rfl
def W76(x0:AV)(h:aa)(K:AV→aa→Prop):Prop:=
 bu x0 fun g=>ab .eql g (i_ 1) fun b=>aB (fun c=>au b true (aG 6 x0 (i_ 0) fun i=>bh 0 i fun j=>iFL 0 false 1 j h fun k=>ab .eql k (u8 1) fun l=>eC [x0] (c [tt,l] h)) (eC [x0] (c [(aQ true b),un] h))) fun d a=>aH (nx d 0) (nx d 1) ff fun m=>ae m (aG 6 x0 (i_ 0) fun n=>bh 0 n fun o=>iFL 1 false 1 o a fun p=>iC p_ 103 [p] a fun e q=>bH 4 1 (.str []) [(0,1,(.str [105,110,105,116,105,97,108])),(1,1,(.str [105,110,104,101,114,105,116])),(2,1,(.str [117,110,115,101,116])),(3,1,(.str [114,101,118,101,114,116]))] fun r=>iC p_ 64 [r,e] q fun s f=>ae s (K e f) (K (.str []) f)) (K (.str []) a)
theorem V76(x0:AV):cp p_ 76 [x0] (W76 x0):=mkM Tryz.func76 (sn (.seq (.seq (.bz (oR 0 4 (.bj 3 true (fR 4 6) [0] [7,13]::.op 10 false::[]))) (.two (sn (.seq (.bz (.op 0 true::oR 1 2 [])) .nil)) .nil)) .nil)) 25 [.tmp 2] (by kernel_rfl) fun _ _=>by kernel_rfl
def X5(x0 x1 x2:AV)(h:aa)(K:AV→aa→Prop):Prop:=
 iC p_ 37 [x0] h fun b a=>ab .neq b (i_ 0) fun m=>ae m (K (.aF [(i_ 0),(.str []),b]) a) (ab .lss x1 (i_ 0) fun c=>aB (fun d=>au c false (bu x0 fun n=>ab .geq x1 n fun o=>eC [x0,x1,x2] (d [ff,o] a)) (eC [x0,x1,x2] (d [(aQ false c),un] a))) fun e f=>aH (nx e 0) tt (nx e 1) fun g=>aB (fun i=>au g false (bH 4 1 (.str []) [(0,1,(.str [105,110,105,116,105,97,108])),(1,1,(.str [105,110,104,101,114,105,116])),(2,1,(.str [117,110,115,101,116])),(3,1,(.str [114,101,118,101,114,116]))] fun p=>iC p_ 64 [p,x2] f fun q r=>fe q fun s=>eC [x0,x1,x2] (i [ff,s] r)) (eC [x0,x1,x2] (i [(aQ false g),un] f))) fun j k=>aH (nx j 0) tt (nx j 1) fun t=>ae t (K (.aF [(i_ 0),(.str []),(i_ 2)]) k) (iC p_ 77 [x0,x1,x2] k fun l u=>aK 0 l fun v=>aK 1 l fun w=>K (.aF [v,w,(i_ 0)]) u))
theorem aeb(x0 x1 x2:AV):cp p_ 148 [x0,x1,x2] (X5 x0 x1 x2):=mkM Tryz.func148 (sn (sn (.seq (.seq (.bz (oR 0 3 (.bj 2 false (fR 3 4) [0,1,2] [19,23]::oR 7 2 (.bj 8 false [(9,true),(10,false),(11,false),(12,false)] [0,1,2] [25,29]::.op 13 false::[])))) .nil) .nil))) 40 [.tmp 6,.tmp 7,.tmp 8] (by kernel_rfl) fun _ _=>by kernel_rfl
def X6(x0 x1 x2:AV)(h:aa)(K:AV→aa→Prop):Prop:=
 iC p_ 40 [x2] h fun b c=>ab .neq b (i_ 0) fun g=>ae g (K (.aF [nS,b]) c) (iC p_ 154 [x0] c fun i j=>iC p_ 104 [i,x1] j fun d e=>ab .lss d (i_ 0) fun k=>ae k (K (.aF [nS,(i_ 6)]) e) (iC p_ 189 [x0,x2] e fun f a=>bu f fun l=>ab .eql l (i_ 0) fun m=>ae m (K (.aF [nS,(i_ 12)]) a) (aG 1 f d fun n=>ag false 1 n a fun o=>iC p_ 190 [o] a fun p q=>K (.aF [p,(i_ 0)]) q)))
theorem aec(x0 x1 x2:AV):cp p_ 149 [x0,x1,x2] (X6 x0 x1 x2):=mkM Tryz.func149 .nil 33 [.tmp 6,.tmp 7] (by kernel_rfl) fun _ _=>by kernel_rfl
def Ys(x0 x1:AV)(h:aa)(K:AV→aa→Prop):Prop:=
 bH 1 1 nS [(0,1,x1)] fun j=>aB (fun e=>ab .eql x0 (.str [109,97,114,103,105,110]) fun k=>ae k (iC p_ 227 [x1] h fun l m=>eC [x0] (e [l] m)) (eC [x0] (e [j] h))) fun a n=>iC p_ 154 [x0] n fun b f=>bu (nx a 0) fun o=>bu b fun p=>ab .neq o p fun q=>ae q (K nS f) (bu b fun g=>bJ [(i_ 0)] f fun r c d =>
 ab .lss (nx c 0) g fun s=>ae s (aG 1 b (nx c 0) fun t=>ag false 1 t d fun u=>aG 1 (nx a 0) (nx c 0) fun v=>ag false 1 v d fun w=>iC p_ 228 [u,w] d fun x i=>fe x fun y=>ae y (K nS i) (ab .add (nx c 0) (i_ 1) fun z=>eC [(nx a 0),b,g] (r [z] i))) (K (nx a 0) d))
theorem aey(x0 x1:AV):cp p_ 189 [x0,x1] (Ys x0 x1):=mkM Tryz.func189 (sn (.seq (.bz [.op 0 false,.op 1 true,.op 2 false]) (.join [0] [5] .nil (sn (sn (.seq (sn (.one (.loop [5,22,23] [24] .nil))) .nil)))))) 38 [.tmp 4] (by kernel_rfl) fun _ _=>by kernel_rfl
def Yt(x0:AV)(h:aa)(K:AV→aa→Prop):Prop:=
 bu x0 fun e=>bJ [nS,(i_ 0)] h fun f a c =>
 ab .lss (nx a 1) e fun g=>ae g (aG 6 x0 (nx a 1) fun i=>ag true 6 i c fun j=>br 100 (.agg [(u8 0),(.str []),(i_ 0),(.str []),ff,nS]) c fun d k=>aE 6 d j k fun b=>iFL 0 true 5 d b fun l=>iFL 5 false 1 d b fun m=>iQ p_ 190 [m] b fun n=>aY (.agg [(u8 0),(.str []),(i_ 0),(.str []),ff,nS]) [(0,5,l),(5,1,n)] fun o=>bH 1 6 (.agg [(u8 0),(.str []),(i_ 0),(.str []),ff,nS]) [(0,6,o)] fun p=>eE false 100 6 80 (nx a 0) p b fun q r=>ab .add (nx a 1) (i_ 1) fun s=>eC [x0,e] (f [q,s] r)) (K (nx a 0) c)
theorem aez(x0:AV):cp p_ 190 [x0] (Yt x0):=mkM Tryz.func190 (sn (sn (.seq (sn (.one (.loop [6,7] [3,8] (sn (sn (.seq (.one (sn (.draw 8 (oR 0 7 (.op 7 true::[])) (oR 8 2 []) []))) .nil)))))) .nil))) 23 [.tmp 2] (by kernel_rfl) fun _ _=>by kernel_rfl
def Yz(x0:AV)(h:aa)(K:AV→aa→Prop):Prop:=
 bu x0 fun x=>ab .eql x (i_ 0) fun j=>aB (fun k=>au j false (aG 6 x0 (i_ 0) fun y=>bh 0 y fun z=>iFL 0 false 1 z h fun A=>ab .eql A (u8 13) fun B=>eC [x0] (k [ff,B] h)) (eC [x0] (k [(aQ false j),un] h))) fun l g=>aH (nx l 0) tt (nx l 1) fun m=>aB (fun n=>au m false (bu x0 fun C=>ab .sub C (i_ 1) fun D=>aG 6 x0 D fun E=>bh 0 E fun F=>iFL 0 false 1 F g fun G=>ab .eql G (u8 13) fun H=>eC [x0] (n [ff,H] g)) (eC [x0] (n [(aQ false m),un] g))) fun o p=>aH (nx o 0) tt (nx o 1) fun I=>ae I (K nS p) (bu x0 fun b=>bJ [nS,(i_ 0)] p fun J a e =>
 ab .lss (nx a 1) b fun L=>ae L (aB (fun q=>aG 6 x0 (nx a 1) fun M=>ag true 6 M e fun N=>br 100 (.agg [(u8 0),(.str []),(i_ 0),(.str []),ff,nS]) e fun r O=>aE 6 r N O fun d=>bh 0 r fun P=>iFL 0 false 1 P d fun Q=>ab .eql Q (u8 13) fun R=>ae R (eC [x0,x0,b,(nx a 1)] (q [(nx a 0)] d)) (ab .gtr (nx a 1) (i_ 0) fun s=>aB (fun t=>au s true (ab .sub (nx a 1) (i_ 1) fun S=>aG 6 x0 S fun T=>bh 0 T fun U=>iFL 0 false 1 U d fun V=>ab .neq V (u8 13) fun W=>eC [x0,(nx a 0),(nx a 1),x0,b,(nx a 1)] (t [tt,W] d)) (eC [x0,(nx a 0),(nx a 1),x0,b,(nx a 1)] (t [(aQ true s),un] d))) fun u v=>aH (nx u 0) (nx u 1) ff fun X=>ae X (K nS v) (ab .add (nx a 1) (i_ 1) fun Y=>nj 6 x0 (some (nx a 1)) (some Y) fun Z=>bH 1 1 nS [(0,1,Z)] fun a0=>eE false 44 1 24 (nx a 0) a0 v fun a1 a2=>eC [x0,x0,b,(nx a 1)] (q [a1] a2)))) fun a3 a4=>ab .add (nx a 1) (i_ 1) fun a5=>eC [x0,x0,b] (J [(nx a3 0),a5] a4)) (bu (nx a 0) fun a6=>ab .gtr a6 (i_ 4) fun a7=>ae a7 (K nS e) (bH 3 1 (i_ 0) [(0,1,(i_ 0)),(1,1,(i_ 0)),(2,1,(i_ 1))] fun a8=>bu (nx a 0) fun a9=>ab .sub a9 (i_ 1) fun b0=>nj 1 a8 (some b0) none fun i=>bu i fun w=>bJ [(nx a 0),(i_ 0)] e fun b1 c f =>
 ab .lss (nx c 1) w fun b2=>ae b2 (aG 1 i (nx c 1) fun b3=>ag false 1 b3 f fun b4=>aG 1 (nx c 0) b4 fun b5=>ag false 1 b5 f fun b6=>bH 1 1 nS [(0,1,b6)] fun b7=>eE false 44 1 24 (nx c 0) b7 f fun b8 b9=>ab .add (nx c 1) (i_ 1) fun c0=>eC [i,w] (b1 [b8,c0] b9)) (K (nx c 0) f))))
theorem aeF(x0:AV):cp p_ 227 [x0] (Yz x0):=mkM Tryz.func227 (sn (.seq (.seq (.bz (oR 0 4 (.bj 3 false (fR 4 6) [0] [11,17]::oR 10 2 (.bj 11 false (fR 12 9) [0] [19,28]::.op 21 false::[])))) .nil) (sn (.seq (sn (.one (.loop [0,30,31] [3,32] (sn (sn (.join [0,30,31,32] [3] (.one (sn (sn (.seq (.seq (.bz (oR 0 3 (.bj 2 true (fR 3 8) [0,3,4,30,31,32] [43,51]::.op 11 false::[]))) .nil) (.bz (oR 0 6 (.op 6 true::oR 7 2 []))))))) .nil)))))) (sn (.seq (.seq (.bz (.op 0 true::oR 1 6 [])) (.one (.loop [69,70] [3,71] (sn (sn (.seq (.one (sn (.bz (oR 0 5 (.op 5 true::oR 6 2 []))))) .nil)))))) .nil)))))) 84 [.tmp 2] (by kernel_rfl) fun _ _=>by kernel_rfl
def YB(x0 x1:AV)(h:aa)(K:AV→aa→Prop):Prop:=
 iC p_ 74 [x0] h fun a b=>aK 0 a fun d=>aK 1 a fun e=>ab .neq e (i_ 0) fun f=>ae f (K ff b) (iC p_ 16 [d,x1] b fun c g=>aK 0 c fun k=>aK 1 c fun i=>ab .eql i (i_ 0) fun j=>K j g)
theorem aeG(x0 x1:AV):cp p_ 228 [x0,x1] (YB x0 x1):=mkM Tryz.func228 .nil 22 [.tmp 4] (by kernel_rfl) fun _ _=>by kernel_rfl
def W16(x0 x1:AV)(h:aa)(K:AV→aa→Prop):Prop:=
 br 37 (.agg [(u8 0),(.str []),(i_ 0),(u8 0),(u8 0),(u8 0),(u8 0)]) h fun a i=>ab .lss x0 (i_ 0) fun j=>aB (fun k=>au j false (ab .geq x0 (i_ 18) fun t=>eC [x0,x1,a] (k [ff,t] i)) (eC [x0,x1,a] (k [(aQ false j),un] i))) fun l b=>aH (nx l 0) tt (nx l 1) fun u=>ae u (aY (.agg [(u8 0),(.str []),(i_ 0),(u8 0),(u8 0),(u8 0),(u8 0)]) [] fun v=>aE 7 a v b fun m=>ag true 7 a m fun r11=>K (.aF [r11,(i_ 2)]) m) (bu x1 fun w=>ab .neq w (i_ 1) fun x=>ae x (aY (.agg [(u8 0),(.str []),(i_ 0),(u8 0),(u8 0),(u8 0),(u8 0)]) [] fun y=>aE 7 a y b fun n=>ag true 7 a n fun r16=>K (.aF [r16,(i_ 12)]) n) (aG 6 x1 (i_ 0) fun z=>ag true 6 z b fun A=>iC p_ 43 [A] b fun c B=>bu c fun o=>bJ [(i_ 0)] B fun C d e =>
 ab .lss (nx d 0) o fun D=>ae D (aG 7 c (nx d 0) fun E=>ag true 7 E e fun F=>br 37 (.agg [(u8 0),(.str []),(i_ 0),(u8 0),(u8 0),(u8 0),(u8 0)]) e fun f G=>aE 7 f F G fun p=>ag true 7 f p fun H=>iC p_ 31 [x0,H] p fun q g=>aK 0 q fun I=>aK 1 q fun N=>ae I (ag true 7 f g fun J=>aE 7 a J g fun r=>ag true 7 a r fun r38=>K (.aF [r38,(i_ 0)]) r) (ab .add (nx d 0) (i_ 1) fun L=>eC [x0,a,c,o] (C [L] g))) (aY (.agg [(u8 0),(.str []),(i_ 0),(u8 0),(u8 0),(u8 0),(u8 0)]) [] fun M=>aE 7 a M e fun s=>ag true 7 a s fun r42=>K (.aF [r42,(i_ 12)]) s)))
theorem V16(x0 x1:AV):cp p_ 16 [x0,x1] (W16 x0 x1):=mkM Tryz.func16 (sn (.seq (.seq (.bz (oR 0 3 (.bj 2 false (fR 3 2) [0,1,4] [12,14]::.op 5 false::[]))) .nil) (sn (.seq (sn (.one (.loop [0,4,24,25] [26] .nil))) .nil)))) 40 [.cell 4 37,.tmp 5] (by kernel_rfl) fun _ _=>by kernel_rfl
def W43(x0:AV)(h:aa)(K:AV→aa→Prop):Prop:=
 br 100 x0 h fun j k=>iFL 0 true 5 j k fun x=>br 98 (.agg [(u8 0),(.str []),(i_ 0),(.str []),ff]) k fun a y=>aE 5 a x y fun l=>aB (fun m=>ag true 6 j l fun z=>iC p_ 82 [z] l fun n A=>aK 0 n fun B=>aK 1 n fun C=>br 35 (.agg [(u8 0),(u8 0),(u8 0),(u8 0)]) A fun o D=>aE 4 o B D fun f=>ae C (ag true 4 o f fun E=>aY (.agg [(u8 0),(.str []),(i_ 0),(u8 0),(u8 0),(u8 0),(u8 0)]) [(0,1,(u8 7)),(3,4,E)] fun F=>bH 1 7 (.agg [(u8 0),(.str []),(i_ 0),(u8 0),(u8 0),(u8 0),(u8 0)]) [(0,7,F)] fun G=>eE false 37 7 40 nS G f fun H I=>eC [a] (m [H] I)) (eC [a] (m [nS] f))) fun c b=>iFL 0 false 1 a b fun g=>ab .eql g (u8 1) fun J=>ae J (iFL 1 false 1 a b fun L=>iC p_ 83 [L] b fun p M=>aY (.agg [(u8 0),(.str []),(i_ 0),(u8 0),(u8 0),(u8 0),(u8 0)]) [(0,1,(u8 1)),(1,1,p)] fun N=>bH 1 7 (.agg [(u8 0),(.str []),(i_ 0),(u8 0),(u8 0),(u8 0),(u8 0)]) [(0,7,N)] fun O=>eE false 37 7 40 (nx c 0) O M fun q r=>ab .eql p (.str [99,117,114,114,101,110,116,99,111,108,111,114]) fun P=>ae P (aY (.agg [(u8 0),(.str []),(i_ 0),(u8 0),(u8 0),(u8 0),(u8 0)]) [(0,1,(u8 8))] fun Q=>bH 1 7 (.agg [(u8 0),(.str []),(i_ 0),(u8 0),(u8 0),(u8 0),(u8 0)]) [(0,7,Q)] fun R=>eE false 37 7 40 q R r fun S T=>K S T) (K q r)) (ab .eql g (u8 12) fun U=>ae U (qj b fun d V=>jh .string d (.str [112,120]) (u8 2) V fun W=>jh .string d (.str [101,109]) (u8 3) W fun X=>jh .string d (.str [114,101,109]) (u8 4) X fun s=>iFL 3 false 1 a s fun Y=>iC p_ 83 [Y] s fun Z e=>kq .string false (u8 0) d Z e fun t=>ab .gtr t (u8 0) fun a0=>ae a0 (iFL 2 false 1 a e fun a1=>aY (.agg [(u8 0),(.str []),(i_ 0),(u8 0),(u8 0),(u8 0),(u8 0)]) [(0,1,t),(2,1,a1)] fun a2=>bH 1 7 (.agg [(u8 0),(.str []),(i_ 0),(u8 0),(u8 0),(u8 0),(u8 0)]) [(0,7,a2)] fun a3=>eE false 37 7 40 (nx c 0) a3 e fun a4 a5=>K a4 a5) (K (nx c 0) e)) (ab .eql g (u8 10) fun a6=>ae a6 (aB (fun u=>iFL 4 false 1 a b fun a7=>ae a7 (iFL 2 false 1 a b fun a8=>ab .quo a8 (i_ 1000) fun a9=>aY (.agg [(u8 0),(.str []),(i_ 0),(u8 0),(u8 0),(u8 0),(u8 0)]) [(0,1,(u8 6)),(2,1,a9)] fun b0=>bH 1 7 (.agg [(u8 0),(.str []),(i_ 0),(u8 0),(u8 0),(u8 0),(u8 0)]) [(0,7,b0)] fun b1=>eE false 37 7 40 (nx c 0) b1 b fun b2 b3=>eC [a] (u [b2] b3)) (eC [a] (u [(nx c 0)] b))) fun b4 v=>iFL 2 false 1 a v fun b5=>aY (.agg [(u8 0),(.str []),(i_ 0),(u8 0),(u8 0),(u8 0),(u8 0)]) [(0,1,(u8 5)),(2,1,b5)] fun b6=>bH 1 7 (.agg [(u8 0),(.str []),(i_ 0),(u8 0),(u8 0),(u8 0),(u8 0)]) [(0,7,b6)] fun b7=>eE false 37 7 40 (nx b4 0) b7 v fun w i=>iFL 2 false 1 a i fun b8=>ab .eql b8 (i_ 0) fun b9=>ae b9 (aY (.agg [(u8 0),(.str []),(i_ 0),(u8 0),(u8 0),(u8 0),(u8 0)]) [(0,1,(u8 2))] fun c0=>bH 1 7 (.agg [(u8 0),(.str []),(i_ 0),(u8 0),(u8 0),(u8 0),(u8 0)]) [(0,7,c0)] fun c1=>eE false 37 7 40 w c1 i fun c2 c3=>K c2 c3) (K w i)) (K (nx c 0) b)))
theorem V43(x0:AV):cp p_ 43 [x0] (W43 x0):=mkM Tryz.func43 (sn (sn (sn (.join [3] [4] (sn (sn (.two (.bz (oR 0 3 (.op 3 true::oR 4 2 []))) .nil))) (.seq (sn (.one (sn (.two (sn (.seq (.bz (oR 0 3 (.op 3 true::oR 4 2 []))) (sn (.two (.bz (oR 0 2 (.op 2 true::oR 3 2 []))) .nil)))) (sn (.two (sn (sn (.two (.bz (oR 0 5 (.op 5 true::oR 6 2 []))) .nil))) (sn (.two (.join [3] [4] (sn (.two (.bz (oR 0 5 (.op 5 true::oR 6 2 []))) .nil)) (.seq (.bz (oR 0 4 (.op 4 true::oR 5 2 []))) (sn (.two (.bz (oR 0 2 (.op 2 true::oR 3 2 []))) .nil)))) .nil)))))))) .nil))))) 82 [.tmp 2] (by kernel_rfl) fun _ _=>by kernel_rfl
def W82(x0:AV)(h:aa)(K:AV→aa→Prop):Prop:=
 br 100 x0 h fun c v=>br 35 (.agg [(u8 0),(u8 0),(u8 0),(u8 0)]) v fun a b=>aB (fun f=>bh 0 c fun w=>iFL 0 false 1 w b fun d=>ab .eql d (u8 1) fun x=>ae x (bh 0 c fun y=>iFL 1 false 1 y b fun z=>iC p_ 119 [z] b fun g A=>aK 0 g fun B=>aK 1 g fun C=>br 35 (.agg [(u8 0),(u8 0),(u8 0),(u8 0)]) A fun i D=>aE 4 i B D fun j=>ag true 4 i j fun E=>ab .eql C (i_ 0) fun F=>aE 4 a E j fun k=>ag true 4 a k fun r23=>K (.aF [r23,F]) k) (ab .eql d (u8 4) fun G=>ae G (bh 0 c fun H=>iFL 1 false 1 H b fun I=>iC p_ 120 [I] b fun l J=>aK 0 l fun L=>aK 1 l fun M=>aE 4 a L J fun m=>ag true 4 a m fun r33=>K (.aF [r33,M]) m) (ab .eql d (u8 2) fun N=>ae N (bh 0 c fun O=>iFL 1 false 1 O b fun P=>iC p_ 83 [P] b fun n o=>ab .eql n (.str [114,103,98]) fun p=>aB (fun q=>au p false (ab .eql n (.str [114,103,98,97]) fun Q=>eC [c,a] (q [ff,Q] o)) (eC [c,a] (q [(aQ false p),un] o))) fun r e=>aH (nx r 0) tt (nx r 1) fun R=>ae R (iFL 5 false 1 c e fun S=>iC p_ 121 [S] e fun s T=>aK 0 s fun U=>aK 1 s fun V=>aE 4 a U T fun t=>ag true 4 a t fun r53=>K (.aF [r53,V]) t) (eC [a] (f [] e))) (eC [a] (f [] b))))) fun Y W=>aY (.agg [(u8 0),(u8 0),(u8 0),(u8 0)]) [] fun X=>aE 4 a X W fun u=>ag true 4 a u fun r58=>K (.aF [r58,ff]) u
theorem V82(x0:AV):cp p_ 82 [x0] (W82 x0):=mkM Tryz.func82 (sn (.join [2] [] (sn (.one (sn (.two .nil (sn (.two .nil (sn (.two (sn (.seq (.bz (oR 0 3 (.bj 2 false (fR 3 2) [1,2] [38,40]::.op 5 false::[]))) .nil)) .nil)))))))) .nil)) 48 [.cell 2 35,.tmp 3] (by kernel_rfl) fun _ _=>by kernel_rfl
def W83(x0:AV)(h:aa)(K:AV→aa→Prop):Prop:=
 kK 5 x0 h fun a l=>bu a fun c=>bJ [(i_ 0)] l fun m b d =>
 ab .lss (nx b 0) c fun n=>ae n (aB (fun f=>aG 1 a (nx b 0) fun o=>ag false 1 o d fun e=>ab .geq e (u8 65) fun g=>aB (fun i=>au g true (ab .leq e (u8 90) fun p=>eC [a,(nx b 0),e,a,c,(nx b 0)] (i [tt,p] d)) (eC [a,(nx b 0),e,a,c,(nx b 0)] (i [(aQ true g),un] d))) fun j k=>aH (nx j 0) (nx j 1) ff fun q=>ae q (ab .add e (u8 97) fun r=>ab .sub r (u8 65) fun s=>aG 1 a (nx b 0) fun t=>aE 1 t s k fun u=>eC [a,a,c,(nx b 0)] (f [] u)) (eC [a,a,c,(nx b 0)] (f [] k))) fun y v=>ab .add (nx b 0) (i_ 1) fun w=>eC [a,a,c] (m [w] v)) (jV a d fun x=>K x d)
theorem V83(x0:AV):cp p_ 83 [x0] (W83 x0):=mkM Tryz.func83 (sn (sn (.seq (sn (.one (.loop [3,8,9] [10] (sn (sn (.join [3,8,9,10] [] (.one (sn (.seq (.bz (oR 0 3 (.bj 2 true (fR 3 2) [3,4,5,8,9,10] [17,19]::.op 5 false::[]))) .nil))) .nil)))))) .nil))) 30 [.tmp 2] (by kernel_rfl) fun _ _=>by kernel_rfl
def XV(x0:AV)(h:aa)(K:AV→aa→Prop):Prop:=
 br 35 (.agg [(u8 0),(u8 0),(u8 0),(u8 0)]) h fun b j=>qj j fun a k=>iC p_ 160 [(u8 0),(u8 0),(u8 0)] k fun l m=>jh .string a (.str [98,108,97,99,107]) l m fun n=>iC p_ 160 [(u8 255),(u8 255),(u8 255)] n fun o p=>jh .string a (.str [119,104,105,116,101]) o p fun q=>iC p_ 160 [(u8 255),(u8 0),(u8 0)] q fun r s=>jh .string a (.str [114,101,100]) r s fun t=>iC p_ 160 [(u8 0),(u8 255),(u8 0)] t fun u v=>jh .string a (.str [108,105,109,101]) u v fun w=>iC p_ 160 [(u8 0),(u8 0),(u8 255)] w fun x y=>jh .string a (.str [98,108,117,101]) x y fun z=>iC p_ 160 [(u8 255),(u8 255),(u8 0)] z fun A B=>jh .string a (.str [121,101,108,108,111,119]) A B fun C=>iC p_ 160 [(u8 128),(u8 128),(u8 128)] C fun D E=>jh .string a (.str [103,114,97,121]) D E fun F=>aY (.agg [(u8 0),(u8 0),(u8 0),(u8 0)]) [] fun G=>jh .string a (.str [116,114,97,110,115,112,97,114,101,110,116]) G F fun H=>iC p_ 83 [x0] H fun I d=>kq .string true (.agg [(u8 0),(u8 0),(u8 0),(u8 0)]) a I d fun e=>aK 0 e fun J=>aK 1 e fun L=>br 35 (.agg [(u8 0),(u8 0),(u8 0),(u8 0)]) d fun f M=>aE 4 f J M fun c=>fe L fun N=>ae N (aY (.agg [(u8 0),(u8 0),(u8 0),(u8 0)]) [] fun O=>aE 4 b O c fun g=>ag true 4 b g fun r39=>K (.aF [r39,(i_ 6)]) g) (ag true 4 f c fun P=>aE 4 b P c fun i=>ag true 4 b i fun r42=>K (.aF [r42,(i_ 0)]) i)
theorem ad1(x0:AV):cp p_ 119 [x0] (XV x0):=mkM Tryz.func119 .nil 26 [.cell 2 35,.tmp 3] (by kernel_rfl) fun _ _=>by kernel_rfl
def XW(x0:AV)(h:aa)(K:AV→aa→Prop):Prop:=
 br 35 (.agg [(u8 0),(u8 0),(u8 0),(u8 0)]) h fun a n=>aB (fun o=>gQ x0 fun g=>ab .eql g (i_ 3) fun p=>aB (fun q=>au p false (ab .eql g (i_ 4) fun Z=>eC [x0,a,g] (q [ff,Z] n)) (eC [x0,a,g] (q [(aQ false p),un] n))) fun r s=>aH (nx r 0) tt (nx r 1) fun a0=>ae a0 (bJ [(.str []),(i_ 0)] s fun a1 f t =>
 ab .lss (nx f 1) g fun a2=>ae a2 (ab .add (nx f 1) (i_ 1) fun a3=>mw x0 (some (nx f 1)) (some a3) fun a4=>ab .add (nx f 1) (i_ 1) fun a5=>mw x0 (some (nx f 1)) (some a5) fun a6=>ab .add a4 a6 fun a7=>ab .add (nx f 0) a7 fun a8=>ab .add (nx f 1) (i_ 1) fun a9=>eC [x0,a,g] (a1 [a8,a9] t)) (eC [a] (o [(nx f 0)] t))) (eC [a] (o [x0] s))) fun l u=>aB (fun w=>gQ (nx l 0) fun b0=>ab .eql b0 (i_ 6) fun b1=>ae b1 (ab .add (nx l 0) (.str [102,102]) fun b2=>eC [a] (w [b2] u)) (eC [a] (w [(nx l 0)] u))) fun b x=>gQ (nx b 0) fun b3=>ab .neq b3 (i_ 8) fun b4=>ae b4 (aY (.agg [(u8 0),(u8 0),(u8 0),(u8 0)]) [] fun b5=>aE 4 a b5 x fun y=>ag true 4 a y fun r34=>K (.aF [r34,ff]) y) (gQ (nx b 0) fun d=>bJ [(i_ 0)] x fun b6 c m =>
 ab .lss (nx c 0) d fun b7=>ae b7 (lF (nx b 0) (nx c 0) fun e=>ab .lss e (u8 48) fun z=>aB (fun A=>au z false (ab .gtr e (u8 57) fun b8=>eC [(nx b 0),a,e,d,(nx c 0)] (A [ff,b8] m)) (eC [(nx b 0),a,e,d,(nx c 0)] (A [(aQ false z),un] m))) fun B C=>aH (nx B 0) tt (nx B 1) fun D=>aB (fun E=>au D true (ab .lss e (u8 97) fun b9=>eC [(nx b 0),a,e,d,(nx c 0)] (E [tt,b9] C)) (eC [(nx b 0),a,e,d,(nx c 0)] (E [(aQ true D),un] C))) fun i F=>aB (fun G=>au (nx i 1) false (ab .gtr e (u8 102) fun c0=>eC [(nx b 0),a,e,d,(nx c 0),(nx i 0)] (G [ff,c0] F)) (eC [(nx b 0),a,e,d,(nx c 0),(nx i 0)] (G [(aQ false (nx i 1)),un] F))) fun H I=>aB (fun J=>au (nx i 0) true (aH (nx H 0) tt (nx H 1) fun c1=>eC [(nx b 0),a,e,d,(nx c 0)] (J [tt,c1] I)) (eC [(nx b 0),a,e,d,(nx c 0)] (J [(aQ true (nx i 0)),un] I))) fun L M=>aH (nx L 0) (nx L 1) ff fun N=>aB (fun O=>au N true (ab .lss e (u8 65) fun c2=>eC [(nx b 0),a,e,d,(nx c 0)] (O [tt,c2] M)) (eC [(nx b 0),a,e,d,(nx c 0)] (O [(aQ true N),un] M))) fun j P=>aB (fun Q=>au (nx j 1) false (ab .gtr e (u8 70) fun c3=>eC [(nx b 0),a,d,(nx c 0),(nx j 0)] (Q [ff,c3] P)) (eC [(nx b 0),a,d,(nx c 0),(nx j 0)] (Q [(aQ false (nx j 1)),un] P))) fun R S=>aB (fun T=>au (nx j 0) true (aH (nx R 0) tt (nx R 1) fun c4=>eC [(nx b 0),a,d,(nx c 0)] (T [tt,c4] S)) (eC [(nx b 0),a,d,(nx c 0)] (T [(aQ true (nx j 0)),un] S))) fun U V=>aH (nx U 0) (nx U 1) ff fun c5=>ae c5 (aY (.agg [(u8 0),(u8 0),(u8 0),(u8 0)]) [] fun c6=>aE 4 a c6 V fun W=>ag true 4 a W fun r75=>K (.aF [r75,ff]) W) (ab .add (nx c 0) (i_ 1) fun c7=>eC [(nx b 0),a,d] (b6 [c7] V))) (iC p_ 161 [(nx b 0),(i_ 16),(i_ 32)] m fun X c8=>aK 0 X fun k=>aK 1 X fun c9=>ab .shr k (.v (.int .u64 24)) fun d0=>gZ .u8 d0 fun d1=>ab .shr k (.v (.int .u64 16)) fun d2=>gZ .u8 d2 fun d3=>ab .shr k (.v (.int .u64 8)) fun d4=>gZ .u8 d4 fun d5=>gZ .u8 k fun d6=>aY (.agg [(u8 0),(u8 0),(u8 0),(u8 0)]) [(0,1,d1),(1,1,d3),(2,1,d5),(3,1,d6)] fun d7=>nB false (uU c9) fun d8=>aE 4 a d7 c8 fun Y=>ag true 4 a Y fun r91=>K (.aF [r91,d8]) Y))
theorem ad2(x0:AV):cp p_ 120 [x0] (XW x0):=mkM Tryz.func120 (sn (.join [2] [0] (sn (.seq (.bz (oR 0 3 (.bj 2 false (fR 3 2) [0,2,4] [15,17]::.op 5 false::[]))) (.two (sn (.seq (sn (.one (.loop [0,2,19] [5,20] (sn (sn (.seq (.one (sn (.draw 14 (oR 0 14 []) [] []))) .nil)))))) .nil)) .nil))) (.join [2] [0] .nil (sn (.seq (sn (.one (.loop [0,2,48] [49] (sn (sn (.seq (.one (sn (sn (.seq (.bz (oR 0 3 (.bj 2 false (fR 3 2) [0,2,8,48,49] [57,59]::oR 5 2 (.bj 6 true (fR 7 3) [0,2,8,48,49] [61,64]::.bj 9 false (fR 10 2) [0,2,8,48,49,61] [64,66]::.bj 6 true [(12,false)] [0,2,8,48,49] [61,67]::oR 13 2 (.bj 14 true (fR 15 3) [0,2,8,48,49] [69,72]::.bj 17 false (fR 18 2) [0,2,48,49,69] [72,74]::.bj 14 true [(20,false)] [0,2,48,49] [69,75]::.op 21 false::[]))))) .nil)))) .nil)))))) (sn (.seq (.MD [(0,0,false),(1,0,false),(2,0,false),(3,0,false),(4,0,false),(5,0,false),(6,0,false),(7,0,false),(8,0,false),(9,0,false),(10,0,false),(11,0,false),(12,0,false),(13,0,false),(14,2,false),(15,0,false)]) .nil))))))) 98 [.cell 2 35,.tmp 3] (by kernel_rfl) fun _ _=>by kernel_rfl
def XX(x0:AV)(h:aa)(K:AV→aa→Prop):Prop:=
 br 35 (.agg [(u8 0),(u8 0),(u8 0),(u8 0)]) h fun b s=>br 9 (.str []) s fun e t=>aE 1 e (.str []) t fun u=>br 259 nS u fun a v=>bu x0 fun j=>bJ [(i_ 0)] v fun w i f =>
 ab .lss (nx i 0) j fun x=>ae x (aG 6 x0 (nx i 0) fun y=>ag true 6 y f fun z=>br 100 (.agg [(u8 0),(.str []),(i_ 0),(.str []),ff,nS]) f fun k A=>aE 6 k z A fun l=>iFL 0 true 5 k l fun B=>eJ p_ (.fn (.func 162) [] [e,a]) [B] l fun a3 C=>ab .add (nx i 0) (i_ 1) fun D=>eC [b,e,a,(.fn (.func 162) [] [e,a]),x0,j] (w [D] C)) (aB (fun m=>ag false 1 e f fun c=>aB (fun n=>ab .eql c (.str [110,110,110]) fun E=>ae E (eC [b,a,c] (n [tt] f)) (ab .eql c (.str [110,44,110,44,110]) fun F=>eC [b,a,c] (n [F] f))) fun G g=>ae (nx G 0) (ag false 1 a g fun H=>bH 1 1 (i_ 0) [(0,1,(i_ 1000))] fun I=>eE false 2 1 8 H I g fun J L=>aE 1 a J L fun M=>eC [b,a] (m [] M)) (aB (fun o=>ab .eql c (.str [110,110,110,47,110]) fun N=>ae N (eC [b,a] (o [tt] g)) (ab .eql c (.str [110,44,110,44,110,44,110]) fun O=>eC [b,a] (o [O] g))) fun P p=>ae (nx P 0) (eC [b,a] (m [] p)) (aY (.agg [(u8 0),(u8 0),(u8 0),(u8 0)]) [] fun Q=>aE 4 b Q p fun q=>ag true 4 b q fun r42=>K (.aF [r42,ff]) q))) fun a4 d=>mI p_ (.fn (.func 163) [] [a]) [(i_ 0)] d fun R=>mI p_ (.fn (.func 163) [] [a]) [(i_ 1)] d fun S=>mI p_ (.fn (.func 163) [] [a]) [(i_ 2)] d fun T=>ag false 1 a d fun U=>aG 1 U (i_ 3) fun V=>ag false 1 V d fun W=>mg (i_ 1000) W fun X=>iY (i_ 0) X fun Y=>ab .mul Y (i_ 255) fun Z=>ab .quo Z (i_ 1000) fun a0=>gZ .u8 a0 fun a1=>aY (.agg [(u8 0),(u8 0),(u8 0),(u8 0)]) [(0,1,R),(1,1,S),(2,1,T),(3,1,a1)] fun a2=>aE 4 b a2 d fun r=>ag true 4 b r fun r58=>K (.aF [r58,tt]) r)
theorem ad3(x0:AV):cp p_ 121 [x0] (XX x0):=mkM Tryz.func121 (sn (sn (sn (sn (.seq (sn (.one (.loop [2,4,5,6,11,12] [13] .nil))) (.join [2,5] [] (sn (.one (.join [2,5,22] [24] .nil (.two (.bz (.op 0 false::.op 1 true::oR 2 2 [])) (.join [2,5] [30] .nil .nil))))) (sn (.seq (.draw 15 (oR 0 15 []) (oR 15 2 []) []) .nil)))))))) 49 [.cell 2 35,.tmp 3] (by kernel_rfl) fun _ _=>by kernel_rfl
def Yj(x0 x1 x2:AV)(h:aa)(K:AV→aa→Prop):Prop:=
 br 98 x0 h fun b a=>iFL 0 false 1 b a fun i=>ab .eql i (u8 13) fun j=>ae j (K (.aF []) a) (iFL 0 false 1 b a fun k=>ab .eql k (u8 10) fun l=>ae l (ag false 1 x1 a fun m=>ab .add m (.str [110]) fun n=>aE 1 x1 n a fun d=>ag false 1 x2 d fun o=>iFL 2 false 1 b d fun p=>bH 1 1 (i_ 0) [(0,1,p)] fun q=>eE false 2 1 8 o q d fun r s=>aE 1 x2 r s fun t=>K (.aF []) t) (iFL 0 false 1 b a fun u=>ab .eql u (u8 18) fun v=>ae v (ag false 1 x1 a fun w=>ab .add w (.str [44]) fun x=>aE 1 x1 x a fun y=>K (.aF []) y) (iFL 0 false 1 b a fun z=>ab .eql z (u8 9) fun e=>aB (fun f=>au e true (iFL 1 false 1 b a fun A=>ab .eql A (.str [47]) fun B=>eC [x1] (f [tt,B] a)) (eC [x1] (f [(aQ true e),un] a))) fun g c=>aH (nx g 0) (nx g 1) ff fun C=>ae C (ag false 1 x1 c fun D=>ab .add D (.str [47]) fun E=>aE 1 x1 E c fun F=>K (.aF []) F) (ag false 1 x1 c fun G=>ab .add G (.str [120]) fun H=>aE 1 x1 H c fun I=>K (.aF []) I))))
theorem aep(x0 x1 x2:AV):cp p_ 162 [x0,x1,x2] (Yj x0 x1 x2):=mkM Tryz.func162 (sn (.one (sn (.two .nil (sn (.two (sn (.bz (oR 0 3 (.op 3 true::oR 4 2 [])))) (sn (.two .nil (.seq (.bz (oR 0 4 (.bj 3 true (fR 4 3) [1] [31,34]::oR 7 2 []))) .nil))))))))) 38 [] (by kernel_rfl) fun _ _=>by kernel_rfl
def Yk(x0 x1:AV)(h:aa)(K:AV→aa→Prop):Prop:=
 ag false 1 x1 h fun a=>aG 1 a x0 fun b=>ag false 1 b h fun c=>ab .quo c (i_ 1000) fun d=>mg (i_ 255) d fun e=>iY (i_ 0) e fun f=>gZ .u8 f fun g=>K g h
theorem aeq(x0 x1:AV):cp p_ 163 [x0,x1] (Yk x0 x1):=mkM Tryz.func163 .nil 12 [.tmp 3] (by kernel_rfl) fun _ _=>by kernel_rfl
def Yh(x0 x1 x2:AV)(h:aa)(K:AV→aa→Prop):Prop:=
 br 35 (.agg [(u8 0),(u8 0),(u8 0),(u8 0)]) h fun a c=>aY (.agg [(u8 0),(u8 0),(u8 0),(u8 0)]) [(0,1,x0),(1,1,x1),(2,1,x2),(3,1,(u8 255))] fun d=>aE 4 a d c fun b=>ag true 4 a b fun r5=>K r5 b
theorem aen(x0 x1 x2:AV):cp p_ 160 [x0,x1,x2] (Yh x0 x1 x2):=mkM Tryz.func160 .nil 11 [.cell 6 35] (by kernel_rfl) fun _ _=>by kernel_rfl
def Yi(x0 x1 x2:AV)(h:aa)(K:AV→aa→Prop):Prop:=
 iC p_ 194 [x0,x1,x2] h fun a b=>aK 0 a fun c=>aK 1 a fun d=>nB true (uU d) fun e=>ae e (iC p_ 195 [(.str [80,97,114,115,101,85,105,110,116]),x0,x1,x2,d] b fun f g=>K (.aF [c,f]) g) (K (.aF [c,(.v .nilIface)]) b)
theorem aeo(x0 x1 x2:AV):cp p_ 161 [x0,x1,x2] (Yi x0 x1 x2):=mkM Tryz.func161 .nil 26 [.tmp 6,.tmp 7] (by kernel_rfl) fun _ _=>by kernel_rfl
def Yw(x0 x1 x2:AV)(h:aa)(K:AV→aa→Prop):Prop:=
 ab .eql x0 (.str []) fun b3=>ae b3 (rf 342 (i_ 2) fun b4=>K (.aF [(.v (.int .u64 0)),b4]) h) (ab .eql x1 (i_ 0) fun b=>aB (fun j=>ab .leq (i_ 2) x1 fun x=>aB (fun y=>au x true (ab .leq x1 (i_ 36) fun b5=>eC [x0,x1,x2,b,x0] (y [tt,b5] h)) (eC [x0,x1,x2,b,x0] (y [(aQ true x),un] h))) fun z k=>aH (nx z 0) (nx z 1) ff fun b6=>ae b6 (eC [x2,b,x0] (j [x0,x1] k)) (ab .eql x1 (i_ 0) fun b7=>ae b7 (lF x0 (i_ 0) fun b8=>ab .eql b8 (u8 48) fun b9=>ae b9 (gQ x0 fun c0=>ab .geq c0 (i_ 3) fun A=>aB (fun B=>au A true (lF x0 (i_ 1) fun c1=>iC p_ 230 [c1] k fun c2 c3=>ab .eql c2 (u8 98) fun c4=>eC [x0,x2,b,x0] (B [tt,c4] c3)) (eC [x0,x2,b,x0] (B [(aQ true A),un] k))) fun C q=>aH (nx C 0) (nx C 1) ff fun c5=>ae c5 (mw x0 (some (i_ 2)) none fun c6=>eC [x2,b,x0] (j [c6,(i_ 2)] q)) (gQ x0 fun c7=>ab .geq c7 (i_ 3) fun D=>aB (fun E=>au D true (lF x0 (i_ 1) fun c8=>iC p_ 230 [c8] q fun c9 d0=>ab .eql c9 (u8 111) fun d1=>eC [x0,x2,b,x0] (E [tt,d1] d0)) (eC [x0,x2,b,x0] (E [(aQ true D),un] q))) fun F r=>aH (nx F 0) (nx F 1) ff fun d2=>ae d2 (mw x0 (some (i_ 2)) none fun d3=>eC [x2,b,x0] (j [d3,(i_ 8)] r)) (gQ x0 fun d4=>ab .geq d4 (i_ 3) fun G=>aB (fun H=>au G true (lF x0 (i_ 1) fun d5=>iC p_ 230 [d5] r fun d6 d7=>ab .eql d6 (u8 120) fun d8=>eC [x0,x2,b,x0] (H [tt,d8] d7)) (eC [x0,x2,b,x0] (H [(aQ true G),un] r))) fun I J=>aH (nx I 0) (nx I 1) ff fun d9=>ae d9 (mw x0 (some (i_ 2)) none fun e0=>eC [x2,b,x0] (j [e0,(i_ 16)] J)) (mw x0 (some (i_ 1)) none fun e1=>eC [x2,b,x0] (j [e1,(i_ 8)] J))))) (eC [x2,b,x0] (j [x0,(i_ 10)] k))) (rf 342 (i_ 3) fun e2=>K (.aF [(.v (.int .u64 0)),e2]) k))) fun c s=>aB (fun L=>ab .eql x2 (i_ 0) fun e3=>ae e3 (eC [(nx c 0),(nx c 1),b,x0] (L [(i_ 64)] s)) (ab .lss x2 (i_ 0) fun M=>aB (fun N=>au M false (ab .gtr x2 (i_ 64) fun e4=>eC [(nx c 0),(nx c 1),x2,b,x0] (N [ff,e4] s)) (eC [(nx c 0),(nx c 1),x2,b,x0] (N [(aQ false M),un] s))) fun O P=>aH (nx O 0) tt (nx O 1) fun e5=>ae e5 (rf 342 (i_ 4) fun e6=>K (.aF [(.v (.int .u64 0)),e6]) P) (eC [(nx c 0),(nx c 1),b,x0] (L [x2] P)))) fun o t=>aB (fun u=>ab .eql (nx c 1) (i_ 10) fun e7=>ae e7 (eC [(nx c 0),(nx c 1),(nx o 0),b,x0] (u [(.v (.int .u64 1844674407370955162))] t)) (ab .eql (nx c 1) (i_ 16) fun e8=>ae e8 (eC [(nx c 0),(nx c 1),(nx o 0),b,x0] (u [(.v (.int .u64 1152921504606846976))] t)) (gZ .u64 (nx c 1) fun e9=>ab .quo (.v (.int .u64 18446744073709551615)) e9 fun f0=>ab .add f0 (.v (.int .u64 1)) fun f1=>eC [(nx c 0),(nx c 1),(nx o 0),b,x0] (u [f1] t)))) fun f f2=>gZ .u64 (nx o 0) fun f3=>ab .shl (.v (.int .u64 1)) f3 fun f4=>ab .sub f4 (.v (.int .u64 1)) fun d=>kK 5 (nx c 0) f2 fun e f5=>bu e fun g=>bJ [ff,(.v (.int .u64 0)),(i_ 0)] f5 fun f6 a l =>
 ab .lss (nx a 2) g fun f7=>ae f7 (aB (fun Q=>aG 1 e (nx a 2) fun f8=>ag false 1 f8 l fun i=>aB (fun R=>ab .eql i (u8 95) fun S=>aB (fun T=>au S true (eC [(nx c 1),b,x0,(nx f 0),d,(nx a 0),(nx a 1),i,e,g,(nx a 2)] (T [tt,b] l)) (eC [(nx c 1),b,x0,(nx f 0),d,(nx a 0),(nx a 1),i,e,g,(nx a 2)] (T [(aQ true S),un] l))) fun U w=>aH (nx U 0) (nx U 1) ff fun f9=>ae f9 (eC [(nx c 1),b,x0,(nx f 0),d,e,g,(nx a 2)] (Q [tt,(nx a 1)] w)) (ab .leq (u8 48) i fun V=>aB (fun W=>au V true (ab .leq i (u8 57) fun g0=>eC [(nx c 1),b,x0,(nx f 0),d,(nx a 0),(nx a 1),i,e,g,(nx a 2)] (W [tt,g0] w)) (eC [(nx c 1),b,x0,(nx f 0),d,(nx a 0),(nx a 1),i,e,g,(nx a 2)] (W [(aQ true V),un] w))) fun X Y=>aH (nx X 0) (nx X 1) ff fun g1=>ae g1 (ab .sub i (u8 48) fun g2=>eC [(nx c 1),b,x0,(nx f 0),d,(nx a 1),e,g,(nx a 2)] (R [(nx a 0),g2] Y)) (iC p_ 230 [i] Y fun g3 Z=>ab .leq (u8 97) g3 fun a0=>aB (fun a1=>au a0 true (iC p_ 230 [i] Z fun g4 g5=>ab .leq g4 (u8 122) fun g6=>eC [(nx c 1),b,x0,(nx f 0),d,(nx a 0),(nx a 1),i,e,g,(nx a 2)] (a1 [tt,g6] g5)) (eC [(nx c 1),b,x0,(nx f 0),d,(nx a 0),(nx a 1),i,e,g,(nx a 2)] (a1 [(aQ true a0),un] Z))) fun a2 a3=>aH (nx a2 0) (nx a2 1) ff fun g7=>ae g7 (iC p_ 230 [i] a3 fun g8 g9=>ab .sub g8 (u8 97) fun i0=>ab .add i0 (u8 10) fun i1=>eC [(nx c 1),b,x0,(nx f 0),d,(nx a 1),e,g,(nx a 2)] (R [(nx a 0),i1] g9)) (rf 342 (i_ 2) fun i2=>K (.aF [(.v (.int .u64 0)),i2]) a3)))) fun m p=>gZ .u8 (nx c 1) fun i3=>ab .geq (nx m 1) i3 fun i4=>ae i4 (rf 342 (i_ 2) fun i5=>K (.aF [(.v (.int .u64 0)),i5]) p) (ab .geq (nx a 1) (nx f 0) fun i6=>ae i6 (rf 342 (i_ 1) fun i7=>K (.aF [d,i7]) p) (gZ .u64 (nx c 1) fun i8=>ab .mul (nx a 1) i8 fun a4=>gZ .u64 (nx m 1) fun i9=>ab .add a4 i9 fun n=>ab .lss n a4 fun a5=>aB (fun a6=>au a5 false (ab .gtr n d fun j0=>eC [(nx c 1),b,x0,(nx f 0),d,(nx m 0),n,e,g,(nx a 2)] (a6 [ff,j0] p)) (eC [(nx c 1),b,x0,(nx f 0),d,(nx m 0),n,e,g,(nx a 2)] (a6 [(aQ false a5),un] p))) fun a7 a8=>aH (nx a7 0) tt (nx a7 1) fun j1=>ae j1 (rf 342 (i_ 1) fun j2=>K (.aF [d,j2]) a8) (eC [(nx c 1),b,x0,(nx f 0),d,e,g,(nx a 2)] (Q [(nx m 0),n] a8))))) fun a9 j3=>ab .add (nx a 2) (i_ 1) fun j4=>eC [(nx c 1),b,x0,(nx f 0),d,e,g] (f6 [(nx a9 0),(nx a9 1),j4] j3)) (aB (fun b0=>au (nx a 0) true (iC p_ 231 [x0] l fun j5 j6=>fe j5 fun j7=>eC [(nx a 1)] (b0 [tt,j7] j6)) (eC [(nx a 1)] (b0 [(aQ true (nx a 0)),un] l))) fun b1 b2=>aH (nx b1 0) (nx b1 1) ff fun j8=>ae j8 (rf 342 (i_ 2) fun j9=>K (.aF [(.v (.int .u64 0)),j9]) b2) (K (.aF [(nx a 1),(.v .nilIface)]) b2)))
theorem aeC(x0 x1 x2:AV):cp p_ 194 [x0,x1,x2] (Yw x0 x1 x2):=mkM Tryz.func194 (sn (sn (sn (sn (.join [2,8,9] [0,1] (.one (.seq (.bz (oR 0 3 (.bj 2 true (fR 3 2) [0,1,2,8,9] [28,30]::oR 5 2 []))) (.two .nil (sn (.two (sn (sn (.two (.one (.seq (.bz (oR 0 4 (.bj 3 true (fR 4 4) [0,2,8,9] [44,48]::oR 8 2 []))) (.two .nil (.seq (.bz (oR 0 4 (.bj 3 true (fR 4 4) [0,2,8,9] [56,60]::oR 8 2 []))) (.two .nil (.seq (.bz (oR 0 4 (.bj 3 true (fR 4 4) [0,2,8,9] [68,72]::oR 8 2 []))) .nil)))))) .nil))) .nil))))) (.join [0,1,8,9] [2] (sn (.two .nil (.seq (.bz (oR 0 3 (.bj 2 false (fR 3 2) [0,1,2,8,9] [80,82]::.op 5 false::[]))) .nil))) (sn (.join [0,1,2,8,9] [10] .nil (sn (sn (sn (.seq (sn (.one (.loop [1,8,9,10,11,99,100] [12,13,101] (sn (sn (.join [1,8,9,10,11,99,100,101] [12,13] (.one (sn (sn (.join [1,8,9,10,11,13,99,100,101] [12,16] (.one (.seq (.bz (oR 0 3 (.bj 2 true [(3,false)] [1,8,9,10,11,12,13,15,99,100,101] [109,110]::oR 4 2 []))) (.two .nil (.seq (.bz (oR 0 3 (.bj 2 true (fR 3 2) [1,8,9,10,11,12,13,15,99,100,101] [115,117]::oR 5 2 []))) (.two .nil (.seq (.bz (oR 0 4 (.bj 3 true (fR 4 3) [1,8,9,10,11,12,13,15,99,100,101] [125,128]::oR 7 2 []))) .nil)))))) (sn (sn (sn (sn (.seq (.seq (.bz (oR 0 4 (.bj 3 false (fR 4 3) [1,8,9,10,11,12,17,99,100,101] [155,158]::.op 7 false::[]))) .nil) .nil))))))))) .nil)))))) (.seq (.seq (.bz (oR 0 2 (.bj 1 true (fR 2 3) [13] [165,168]::.op 5 false::[]))) .nil) .nil))))))))))))) 172 [.tmp 6,.tmp 7] (by kernel_rfl) fun _ _=>by kernel_rfl
def YD(x0:AV)(h:aa)(K:AV→aa→Prop):Prop:=
 ab .or x0 (u8 32) fun a=>K a h
theorem aeI(x0:AV):cp p_ 230 [x0] (YD x0):=mkM Tryz.func230 .nil 5 [.tmp 2] (by kernel_rfl) fun _ _=>by kernel_rfl
end
end Go.Proofs.YtldpambpnajgiaaGreatDoor
namespace Go.Aw
section
open Go Go.RowKit Go.MapKept
variable{es:List (Nat×AV×AV)}{f:List UInt8→Option AV}{c:Nat}{p:Nat×AV×AV}{sn:List Nat}
abbrev EL:=List (Nat×List UInt8×AV)
def ki(L:EL):List (Nat×AV×AV):=L.map fun p=>(p.1,.str p.2.1,p.2.2)
def fL:EL→List UInt8→Option AV
 | [],_=>none
 | (_,k,v):: r,s=>if k=s then some v else fL r s
structure Tv(c:Nat)(L:EL):Prop where
 ks:(L.map (·.2.1)).Nodup
 ns:(L.map (·.1)).Nodup
 oT:∀p∈L,p.1<c
def Mp(c:Nat)(es:List (Nat×AV×AV))(f:List UInt8→Option AV):Prop:=∃L,es=ki L∧Tv c L∧∀s,fL L s=f s
theorem KE{s:List UInt8}:∀{L:EL},s∉L.map (·.2.1)→fL L s=none
 | [],_=>rfl
 | (n,k,v):: r,h=>by
  rw[IF,IS,not_or]at h;rw[fL,if_neg (fun e=>h.1 e.symm)];exact KE h.2
theorem Et{s:List UInt8}{v:AV}:∀{L:EL},fL L s=some v→∃n,(n,s,v)∈L
 | (n,k,x):: r,h=>by
  rw[fL]at h;split at h
  ·rename_i e;subst e;cases h;exact⟨n,by simp⟩
  ·obtain⟨m,hm⟩:=Et h;exact⟨m,by simp[hm]⟩
theorem H8{n:Nat}{s:List UInt8}{v:AV}:∀{L:EL},(L.map (·.2.1)).Nodup→(n,s,v)∈L→fL L s=some v
 | (m,k,x):: r,h,hm=>by
  rw[IF,List.nodup_cons]at h;rcases IS.1 hm with e|hm
  ·cases e;rw[fL,if_pos rfl]
  ·rw[fL,if_neg fun e=>h.1 (by subst e;exact aas.2 ⟨_,hm,rfl⟩)];exact H8 h.2 hm
theorem IL(s:List UInt8):∀L:EL,mi (.str s) (ki L)=some (fL L s)
 | []=>rfl
 | (n,k,v):: r=>by
  have:=IL s r;simp only[ki,IF]at this ⊢;rw[mi,th,fL]
  by_cases e:s=k
  ·subst e;simp
  ·rw[if_neg (fun q=>e q.symm),oN e];exact this
def mD(c:Nat)(s:List UInt8)(v:AV):EL→EL
 | []=>[(c,s,v)]
 | (n,k,x):: r=>if k=s then (n,s,v):: r else (n,k,x):: mD c s v r
theorem I8(c:Nat)(s:List UInt8)(v:AV)(t:List UInt8):∀L:EL,fL (mD c s v L) t=if t=s then some v else fL L t
 | []=>by simp only[mD,fL];by_cases e:s=t<;>simp[e,eq_comm]
 | (n,k,x):: r=>by
  rw[mD]
  by_cases e:k=s
  ·subst e;rw[if_pos rfl,fL,fL]
   by_cases q:k=t
   ·subst q;simp
   ·rw[if_neg q,if_neg q,if_neg (fun e=>q e.symm)]
  ·rw[if_neg e,fL,I8 c s v t r,fL]
   by_cases q:k=t
   ·subst q;rw[if_pos rfl,if_neg e,if_pos rfl]
   ·rw[if_neg q,if_neg q]
theorem zl(c:Nat)(s:List UInt8)(v:AV):∀L:EL,(mD c s v L).map (·.2.1)=if s∈L.map (·.2.1) then L.map (·.2.1) else L.map (·.2.1)++[s]
 | []=>by simp[mD]
 | (n,k,x):: r=>by
  rw[mD]
  by_cases e:k=s
  ·subst e;simp
  ·rw[if_neg e,IF,zl c s v r];have e':¬s=k:=fun q=>e q.symm;simp only[IF,IS,e',false_or];split<;>simp
theorem vk(c:Nat)(s:List UInt8)(v:AV):∀L:EL,(mD c s v L).map (·.1)=if s∈L.map (·.2.1) then L.map (·.1) else L.map (·.1)++[c]
 | []=>by simp[mD]
 | (n,k,x):: r=>by
  rw[mD]
  by_cases e:k=s
  ·subst e;simp
  ·rw[if_neg e,IF,vk c s v r];have e':¬s=k:=fun q=>e q.symm;simp only[IF,IS,e',false_or];split<;>simp
theorem Fq(c:Nat)(s:List UInt8)(v:AV):∀L:EL,oM c (.str s) v (ki L)=some (if s∈L.map (·.2.1) then c else c+1,ki (mD c s v L))
 | []=>by simp[ki,oM,mD]
 | (n,k,x):: r=>by
  have ih:=Fq c s v r;simp only[ki,IF]at ih ⊢;rw[oM,th]
  by_cases e:s=k
  ·subst e;simp[mD]
  ·rw[oN e];simp only[ih,mD,if_neg (fun q=>e q.symm:¬k=s),IF,IS,e,false_or]
theorem Tv.put{L:EL}(h:Tv c L)(s:List UInt8)(v:AV):Tv (if s∈L.map (·.2.1) then c else c+1) (mD c s v L):=by
 by_cases q:s∈L.map (·.2.1)
 ·rw[if_pos q];have e:=vk c s v L;rw[if_pos q]at e;refine⟨by rw[zl,if_pos q];exact h.ks,by rw[e];exact h.ns,fun p hp=>?_⟩;have:p.1∈(mD c s v L).map (·.1):=aas.2 ⟨p,hp,rfl⟩;rw[e]at this;obtain⟨p',hp',e'⟩:=aas.1 this;rw[←e'];exact h.oT _ hp'
 ·rw[if_neg q];have e:=vk c s v L;rw[if_neg q]at e;have hc:c∉L.map (·.1):=fun hm=>by obtain⟨p,hp,e⟩:=aas.1 hm;have:=h.oT p hp;omega
  refine⟨?_, ?_,fun p hp=>?_⟩
  ·rw[zl,if_neg q,List.nodup_append];exact⟨h.ks,by simp,fun a ha b hb e=>by rw[Up.1 hb]at e;subst e;exact q ha⟩
  ·rw[e,List.nodup_append];exact⟨h.ns,by simp,fun a ha b hb e=>by rw[Up.1 hb]at e;subst e;exact hc ha⟩
  ·have:p.1∈(mD c s v L).map (·.1):=aas.2 ⟨p,hp,rfl⟩;rw[e]at this;rcases IN.1 this with q|q
   ·obtain⟨p',hp',e'⟩:=aas.1 q;have:=h.oT _ hp';omega
   ·rw[Up.1 q];omega
def wN(s:List UInt8):EL→EL
 | []=>[]
 | (n,k,x):: r=>if k=s then r else (n,k,x):: wN s r
theorem HV(s:List UInt8):∀L:EL,(wN s L).Sublist L
 | []=>List.Sublist.refl _
 | (n,k,x):: r=>by
  rw[wN];split
  ·exact List.sublist_cons_self _ _
  ·exact (HV s r).cons_cons _
theorem OC(s t:List UInt8):∀{L:EL},(L.map (·.2.1)).Nodup→fL (wN s L) t=if t=s then none else fL L t
 | [],_=>by simp[wN,fL]
 | (n,k,x):: r,h=>by
  rw[IF,List.nodup_cons]at h;rw[wN]
  by_cases e:k=s
  ·subst e;rw[if_pos rfl,fL]
   by_cases q:t=k
   ·subst q;rw[if_pos rfl];exact KE h.1
   ·rw[if_neg q,if_neg (fun e=>q e.symm)]
  ·rw[if_neg e,fL,fL,OC s t h.2]
   by_cases q:k=t
   ·subst q;rw[if_pos rfl,if_neg e,if_pos rfl]
   ·rw[if_neg q,if_neg q]
theorem Kn(s:List UInt8):∀L:EL,wM (.str s) (ki L)=some (ki (wN s L))
 | []=>rfl
 | (n,k,x):: r=>by
  have ih:=Kn s r;simp only[ki,IF]at ih ⊢;rw[wM,th]
  by_cases e:s=k
  ·subst e;simp[wN]
  ·rw[oN e];simp only[ih,wN,if_neg (fun q=>e q.symm:¬k=s),IF]
theorem Ed{c:Nat}:∀{L:EL},(∀p∈L,p.1<c)→nP c (ki L)=true
 | [],_=>rfl
 | (n,k,x):: r,h=>by
  have ih:=Ed (L:=r) fun p hp=>h p (MK _ hp);simp only[ki,IF]at ih ⊢;rw[nP,show Nat.ble (n+1) c=true from Nat.ble_eq_true_of_le (h (n,k,x) (by simp))];exact ih
theorem HG{p:Nat×List UInt8×AV}:∀{L:EL},(L.map (·.1)).Nodup→p∈L→lr p.1 (ki L)=some (.str p.2.1,p.2.2)
 | (n,k,x):: r,h,hp=>by
  rw[IF,List.nodup_cons]at h;simp only[ki,IF];rw[lr];rcases IS.1 hp with rfl|hp
  ·simp
  ·rw[vC fun e=>h.1 (by rw[show n=p.1 from e];exact aas.2 ⟨p,hp,rfl⟩)];exact HG h.2 hp
theorem Mp.new:Mp 0 [] fun _=>none:=⟨[],rfl,⟨by simp,by simp,by simp⟩,fun _=>rfl⟩
theorem Mp.look(h:Mp c es f)(s:List UInt8):mi (.str s) es=some (f s):=by
 obtain⟨L,rfl,_,hf⟩:=h;rw[IL,hf]
theorem Mp.Jw(h:Mp c es f)(s:List UInt8)(v:AV):∃c' es',oM c (.str s) v es=some (c',es')∧Mp c' es' (fun t=>if t=s then some v else f t)∧c≤c'∧c'≤c+1:=by
 obtain⟨L,rfl,ml,hf⟩:=h;refine⟨_,_,Fq c s v L,⟨_,rfl,ml.put s v,fun t=>by rw[I8,hf]⟩, ?_, ?_⟩<;>split<;>omega
theorem Mp.del(h:Mp c es f)(s:List UInt8):∃es',wM (.str s) es=some es'∧Mp c es' (fun t=>if t=s then none else f t):=by
 obtain⟨L,rfl,ml,hf⟩:=h;have sub:=HV s L;exact⟨_,Kn s L,_,rfl,⟨ml.ks.sublist (sub.map _),ml.ns.sublist (sub.map _),fun p hp=>ml.oT p (sub.subset hp)⟩,fun t=>by rw[OC s t ml.ks,hf]⟩
theorem Mp.nP{c:Nat}{es:List (Nat×AV×AV)}{f:List UInt8→Option AV}(h:Mp c es f):nP c es=true:=by
 obtain⟨L,rfl,ml,_⟩:=h;exact Ed ml.oT
theorem Mp.ext{f g:List UInt8→Option AV}(h:Mp c es f)(e:∀s,f s=g s):Mp c es g:=by
 obtain⟨L,a,b,hf⟩:=h;exact⟨L,a,b,fun s=>(hf s).trans (e s)⟩
theorem Mp.tF(h:Mp c es f)(hp:p∈es):∃s v,p=(p.1,.str s,v)∧f s=some v∧lr p.1 es=some (.str s,v):=by
 obtain⟨L,rfl,ml,hf⟩:=h;obtain⟨⟨n,s,v⟩,hq,rfl⟩:=aas.1 hp;exact⟨s,v,rfl,by rw[←hf];exact H8 ml.ks hq,HG ml.ns hq⟩
theorem Mp.all(h:Mp c es f){s:List UInt8}{v:AV}(e:f s=some v):∃n,(n,.str s,v)∈es:=by
 obtain⟨L,rfl,ml,hf⟩:=h;rw[←hf]at e;obtain⟨n,hn⟩:=Et e;exact⟨n,aas.2 ⟨_,hn,rfl⟩⟩
theorem zb:∀es,fq [] es=es
 | []=>rfl
 | (n,k,v):: r=>by rw[fq];simp only[sc];rw[zb r]
theorem rp(h:p∈fq sn es):p∈es:=by
 rw[kM]at h;exact (acC.1 h).1
theorem Mp.left(h:Mp c es f){p q:Nat×AV×AV}(hp:p∈es)(hq:q∈fq sn es):q=p∨q∈fq (jt p.1 sn) es:=by
 by_cases e:q.1=p.1
 ·obtain⟨s,v,e1,_,b1⟩:=h.tF hp;obtain⟨s',v',e2,_,b2⟩:=h.tF (rp hq);rw[e,b1]at b2;simp only[ON,aaZ,AV.str.injEq]at b2;obtain⟨rfl,rfl⟩:=b2;rw[e]at e2;exact .inl (e2.trans e1.symm)
 ·right;rw[kM]at hq ⊢;obtain⟨a,b⟩:=acC.1 hq;refine acC.2 ⟨a, ?_⟩;rw[tS,vC e];simpa using b
theorem Mp.bd{c M:Nat}(h:Mp c es f)(hf:∀s v,f s=some v→Bd M v):gr M (.mp c es):=by
 show gU M (qn es);rw[nr];have:∀a∈qn es,∃p∈es,a=p.2.1∨a=p.2.2:=by
  clear h;induction es with
  | nil=>intro a ha;simp[qn]at ha
  | cons p r ih =>
    obtain⟨n,k,v⟩:=p;intro a ha;simp only[qn,IS]at ha;rcases ha with rfl|rfl|ha
    ·exact⟨_,acN,.inl rfl⟩
    ·exact⟨_,acN,.inr rfl⟩
    ·obtain⟨p,hp,q⟩:=ih a ha;exact⟨p,by simp[hp],q⟩
 intro a ha;obtain⟨p,hp,q⟩:=this a ha;obtain⟨s,v,e,fs,_⟩:=h.tF hp;rw[e]at q;rcases q with q|q<;>rw[q]
 ·simp[Bd]
 ·exact hf s v fs
end
end Go.Aw
namespace Go.Proofs.YtldpambpnajgiaaGreatDoor
section
open Go Go.Aw Go.dz
variable{K:AV→Prop}
def dT:List Vl→List Vl
 | []=>[]
 | v:: l=>if v.kind=13 then dT l else v:: l
def jf(l:List Vl):List Vl:=(dT (dT l).reverse).reverse
theorem wQ:∀l,∃k,dT l=l.drop k
 | []=>⟨0,rfl⟩
 | v:: l=>by
   rw[dT];split
   ·obtain⟨k,h⟩:=wQ l;exact⟨k+1,by simpa using h⟩
   ·exact⟨0,rfl⟩
theorem nb{v:Vl}{i:Nat}{c:AV}{h:aa}(hc:(cQ v)[i]?=some c)(q:K c):bh 0 (.ip (cQ v)) fun a=>bh i a fun b=>ag false 1 b h K:=by
 refine zzX (zzX (de (c:=c) (r:=(cQ v).drop (i+1)) ?_ q));obtain⟨hi,e⟩:=gE.1 hc;rw[List.drop_zero,acO hi,e]
theorem qb{n:Nat}(h0:0<n)(h1:n<2^40)(q:K (i_ ((n-1:Nat):Int))):ab .sub (i_ (n:Int)) (i_ 1) K:=by
 refine zzj (by unfold aN;omega) ?_;rw[show (n:Int)-1=((n-1:Nat):Int) by omega];exact q
theorem YT{n k:Nat}{x y:AV}{rows:List (List AV)}(ex:x=.sl n rows)(ey:y=i_ (k:Int))(hk:k≤rows.length)(q:K (.sl n (rows.take k))):nj n x none (some y) K:=by
 subst ex;subst ey;rw[CO];simp only[fc];refine⟨by simp,⟨by omega,by omega,by omega⟩, ?_⟩;simpa using q
theorem wK(l:List Vl)(hl:l.length<2^39):aP p_ 158 [.sl 6 (ar l)] (.sl 6 (ar (dT l))):=by
 refine (ael _).gives (by simp[dd]) (by simp[Aw.Pure,dd]) ?_;unfold Yf;refine aU (α:=List Vl) (fun m=>dT m=dT l) (fun m=>[.sl 6 (ar m)]) (fun _=>[]) (fun m=>m.length) l rfl (Wk.refl _ _ _ (aS _)) ?_;intro m hm
 match m,hm with
 | [],hm =>
   refine zzk (n:=0) rfl fun _=>?_;refine zzE (ay (zzM rfl (af (zzQ (zzK rfl ?_)))));rw[←hm];exact .pure (by simp[Aw.Pure,dd]) rfl
 | v:: r,hm =>
   refine zzk (n:=r.length+1) (by simp[aJ]) fun _=>?_;refine zzE (ay (zzN (tO (by omega)) (zzg (f:=cQ) (l:=v:: r) (a:=v) (aJ _) (n:=0) rfl rfl (nb (i:=0) (c:=u1 v.kind) (by simp[cK]) (zzG (af (zzR ?_)))))))
   by_cases hk:v.kind=13
   ·refine zzL (tO hk) (LS rfl (by simp[ar]) ?_);refine⟨r,by rw[←hm,dT,if_pos hk],Wk.refl _ _ _ (aS _),by simp⟩
   ·refine zzK (oN hk) ?_;rw[←hm,dT,if_neg hk];exact .pure (by simp[Aw.Pure,dd]) rfl
theorem wP(l:List Vl):(dT l).length≤l.length:=by
 obtain⟨k,h⟩:=wQ l;rw[h,List.length_drop];omega
theorem Rc(l:List Vl)(hl:l.length<2^39):aP p_ 159 [.sl 6 (ar l)] (.sl 6 (ar (jf l))):=by
 refine (aem _).gives (by simp[dd]) (by simp[Aw.Pure,dd]) ?_;unfold Yg;refine zzS (by kernel_rfl) (wK l hl) ?_;have hd:=wP l;refine aU (α:=List Vl) (fun m=>dT m=dT (dT l).reverse∧m.length≤l.length) (fun m=>[.sl 6 (ar m.reverse)]) (fun _=>[]) (fun m=>m.length) (dT l).reverse ⟨rfl,by simpa using hd⟩ (by rw[List.reverse_reverse];exact Wk.refl _ _ _ (aS _)) ?_;rintro m ⟨hm,hlen⟩
 match m,hm,hlen with
 | [],hm,_ =>
   refine zzk (n:=0) rfl fun _=>?_;refine zzE (ay (zzM rfl (af (zzQ (zzK rfl ?_)))));rw[jf,←hm];exact .pure (by simp[Aw.Pure,ar,du]) rfl
 | v:: r,hm,hlen =>
   have hlen':r.length+1≤l.length:=hlen;have hL:(ar (v:: r).reverse).length=r.length+1:=by simp[aJ]
   refine zzk (n:=r.length+1) hL fun _=>?_;refine zzE (ay (zzN (tO (by omega)) ?_));refine zzk (n:=r.length+1) hL fun _=>?_;refine qb (n:=r.length+1) (by omega) (by omega) (zzg (f:=cQ) (l:=(v:: r).reverse) (a:=v) (aJ _) (n:=r.length) rfl (by simp) (nb (i:=0) (c:=u1 v.kind) (by simp[cK]) (zzG (af (zzR ?_)))))
   by_cases hk:v.kind=13
   ·refine zzL (tO hk) ?_;refine zzk (n:=r.length+1) hL fun _=>?_;refine qb (n:=r.length+1) (by omega) (by omega) (YT (k:=r.length) rfl rfl (by rw[hL];omega) ?_);refine⟨r,⟨by rw[←hm,dT,if_pos hk],by omega⟩, ?_,by simp⟩;have e:(ar (v:: r).reverse).take r.length=ar r.reverse:=by simp[aJ]
    rw[e];exact Wk.refl _ _ _ (aS _)
   ·refine zzK (oN hk) ?_;rw[jf,←hm,dT,if_neg hk];exact .pure (by simp[Aw.Pure,dd]) rfl
def eB(v:Vl):aD×List Vl×Bool:=match dT v.list with
 | []=>([],[],false)
 | t:: r=>if t.kind=1∧db t.text=true then (match dT r with
   | []=>(t.text,[],false)
   | u:: s=>if u.kind=18 then (t.text,jf s,true) else ([],[],false)) else ([],[],false)
def sj(v:Vl):AV:=.aF [.str (eB v).1,if (eB v).2.2 then .sl 6 (ar (eB v).2.1) else .v (.slice none 0 0),b_ (eB v).2.2]
theorem JR(v:Vl):Aw.Pure (sj v):=by
 unfold sj;split<;>simp[Aw.Pure,bf,dd]
theorem P5{v:Vl}(h:eB v=([],[],false)):sj v=.aF [.str [],.v (.slice none 0 0),ff]:=by unfold sj;rw[h];rfl
theorem yD(v:Vl)(hl:v.list.length<2^38):aP p_ 118 [.agg (cQ v)] (sj v):=by
 refine (ad0 _).gives (by simp[zX]) (JR v) ?_;unfold XU;refine cI (cs:=cQ v) (n:=0) (h':=[vB v]) rfl (by simp[cK,dH]) rfl rfl (zzA (zzU (b:=⟨100,cQ v,true⟩) (c:=.sl 6 (ar v.list)) rfl (by simp[cK,aJ]) (zzS (by kernel_rfl) (wK v.list (by omega)) ?_)));have hdl:=wP v.list;have no:eB v=([],[],false)→fg (sj v) (.aF [.str [],.v (.slice none 0 0),ff]) [vB v]:=fun e=>by rw[P5 e];exact .pure (by simp) rfl
 cases hd:dT v.list with
 | nil =>
   refine zzk (n:=0) rfl fun _=>?_;refine zzG (ay (zzM rfl (af (zzR (ay (zzM rfl (af (zzR (zzL rfl ?_)))))))));exact no (by unfold eB;rw[hd])
 | cons t r =>
   rw[hd]at hdl;have hdl':r.length+1≤v.list.length:=hdl;refine zzk (n:=r.length+1) (by simp[aJ]) fun _=>?_;refine zzG (ay (zzN (oN (by omega)) (zzg (f:=cQ) (l:=t:: r) (a:=t) (aJ _) (n:=0) rfl rfl (nb (i:=0) (c:=u1 t.kind) (by simp[cK]) (zzH (af (zzQ (ay ?_))))))))
   by_cases hk:t.kind=1
   ·refine zzN (by rw[tO hk];rfl) (zzg (f:=cQ) (l:=t:: r) (a:=t) (aJ _) (n:=0) rfl rfl (nb (i:=1) (c:=.str t.text) (by simp[cK]) (zzS (by kernel_rfl) (oB t.text) (zzO (af (zzQ ?_))))))
    by_cases hc:db t.text=true
    ·refine zzK (by rw[hc];rfl) (zzg (f:=cQ) (l:=t:: r) (a:=t) (aJ _) (n:=0) rfl rfl (nb (i:=1) (c:=.str t.text) (by simp[cK]) (LS rfl (by simp[ar]) (zzS (by kernel_rfl) (wK r (by omega)) ?_))));have hel:=wP r;cases he:dT r with
     | nil =>
       refine zzk (n:=0) rfl fun _=>?_;refine zzG (zzL rfl ?_);have e:eB v=(t.text,[],false):=by unfold eB;rw[hd];simp only[hk,hc,and_self,if_true,he]
       unfold sj;rw[e];exact .pure (by simp) rfl
     | cons u s =>
       rw[he]at hel;have hel':s.length+1≤r.length:=hel;refine zzk (n:=s.length+1) (by simp[aJ]) fun _=>?_;refine zzG (zzK (oN (by omega)) (zzg (f:=cQ) (l:=u:: s) (a:=u) (aJ _) (n:=0) rfl rfl (nb (i:=0) (c:=u1 u.kind) (by simp[cK]) (zzG ?_))))
       by_cases hu:u.kind=18
       ·refine zzL (tO hu) (LS rfl (by simp[ar]) (zzS (by kernel_rfl) (Rc s (by omega)) ?_));have e:eB v=(t.text,jf s,true):=by unfold eB;rw[hd];simp only[hk,hc,and_self,if_true,he,hu]
        unfold sj;rw[e];exact .pure (by simp[Aw.Pure,bf,dd]) rfl
       ·refine zzK (oN hu) ?_;exact no (by unfold eB;rw[hd];simp only[hk,hc,and_self,if_true,he,hu,if_false])
    ·refine zzL (by simp[hc]) ?_;exact no (by unfold eB;rw[hd];simp[hc])
   ·refine zzM (by simp[hk]) (af (zzR (zzL rfl ?_)));exact no (by unfold eB;rw[hd];simp[hk])
theorem EV(b c:UInt8)(hc:c=118∨c=97∨c=114):nW b=c↔fk .or .u8 (b.toNat:Int) 32=(c.toNat:Int):=by
 have key:∀n:Fin 256,∀c∈[(118:UInt8),97,114],(nW (UInt8.ofNat n.val)=c↔fk .or .u8 ((n.val:Nat):Int) 32=(c.toNat:Int)):=by decide +kernel
 have:=key ⟨b.toNat,b.toNat_lt⟩ c (by simpa using hc);simpa using this
theorem yY(v:Vl):gJ v=(decide (v.kind=2)&&decide (bO v.text=sI)):=by
 obtain⟨kd,tx,nu,un',fl,l2⟩:=v;simp only[gJ,Vl.kind,Vl.text]
 match tx with
 | [a,b,c] =>
   have e1:=EV a 118 (.inl rfl);have e2:=EV b 97 (.inr (.inl rfl));have e3:=EV c 114 (.inr (.inr rfl));simp only[bO,sI,IF,List.map_nil,List.cons.injEq,and_true,e1,e2,e3];simp[Bool.and_assoc]
 | []=>simp[bO,sI]
 | [a]=>simp[bO,sI]
 | [a,b]=>simp[bO,sI]
 | a:: b:: c:: d:: r=>simp[bO,sI]
theorem Fu(v:Vl):pL v=(gJ v||ct v.list):=by
 rw[yY];obtain⟨kd,tx,nu,un',fl,l2⟩:=v;rw[pL];rfl
def K8(v:Vl):List aD:=if gJ v then (if (eB v).1=[] then [] else [(eB v).1]) else []
mutual
def NN:Vl→List aD
 | .mk k t n u f l=>K8 (.mk k t n u f l)++iO l
def iO:List Vl→List aD
 | []=>[]
 | v:: l=>NN v++iO l
end
theorem Xg(v:Vl):NN v=K8 v++iO v.list:=by
 obtain⟨kd,tx,nu,un',fl,l2⟩:=v;rw[NN];rfl
theorem zA:∀a b:List Vl,iO (a++b)=iO a++iO b
 | [],b=>by simp[iO]
 | v:: a,b=>by rw[acU,iO,iO,zA a b,TO]
theorem Tj{l:List Vl}{k:Nat}{v:Vl}(h:l[k]?=some v):iO (l.take (k+1))=iO (l.take k)++NN v:=by
 rw[Gt,h,zA];simp[iO]
def nA(ns:List aD)(f:aD→Option AV):aD→Option AV:=fun s=>if s∈ns then some tt else f s
theorem Al(a b:List aD)(f:aD→Option AV)(s:aD):nA b (nA a f) s=nA (a++b) f s:=by
 unfold nA
 by_cases h1:s∈b<;>by_cases h2:s∈a<;>simp[h1,h2]
theorem QX(f:aD→Option AV):nA [] f=f:=by funext s;simp[nA]
theorem gF{k:(List AV→aa→Prop)→Prop}{f:List AV→aa→Prop}(P:List AV→aa→Prop)(q:∀s h,P s h→f s h)(hk:∀F:List AV→aa→Prop,(∀s h,P s h→F s h)→k F):aB k f:=hk f q
def xQ(f:aD→Option AV):Prop:=∀s v,f s=some v→v=tt
theorem xQ.HJ{f:aD→Option AV}(h:xQ f)(ns:List aD):xQ (nA ns f):=by
 intro s v e;unfold nA at e;split at e
 ·cases e;rfl
 ·exact h s v e
theorem Mp.bdT{c M:Nat}{es:List (Nat×AV×AV)}{f:aD→Option AV}(h:Mp c es f)(t:xQ f):gr M (.mp c es):=h.bd fun s v e=>by rw[t s v e];simp[Bd]
theorem Aa{α:Type}{h t:List α}{i:Nat}{x:α}(hi:i<h.length):(h++t).set i x=h.set i x++t:=Mk _ _ hi
def QE(n:Nat):Prop:=∀(l:List Vl) (id:Nat) (h:aa) (c:Nat) (es:List (Nat×AV×AV)) (f:aD→Option AV),aW l≤n→h[id]?=some (.mp c es)→Mp c es f→xQ f →
 dY p_ 186 [.sl 6 (ar l),.mp id] h fun v h' => v=.aF []∧∃c' es',h'=h.set id (.mp c' es')∧Mp c' es' (nA (iO l) f)
theorem QU{n:Nat}(hn:n<2^38)(hP:∀n',n'<n→QE n'):QE n:=by
 intro l id h c es f hz hid hm ht;refine dY.bd fun hb=>(aev _ _).kb ?_;unfold Yp;have hlen:(ar l).length=l.length:=by simp[aJ]
 have hll:=fu l;have hlt:=(gE.1 hid).1;refine zzk (n:=l.length) hlen fun _=>?_;refine aU (α:=Nat×aa) (fun x=>x.1≤l.length∧∃c es,x.2=h.set id (.mp c es)∧Mp c es (nA (iO (l.take x.1)) f)) (fun x=>[i_ x.1]) (fun x=>x.2) (fun x=>l.length-x.1) (0,h) ⟨acr _,c,es,by rw[ou hid],by rw[List.take_zero,iO,QX];exact hm⟩ (Wk.refl _ _ _ (aS _)) ?_;rintro⟨k,G⟩ ⟨hk,c1,jD,rfl,m1⟩;dsimp only at hk m1 ⊢;refine zzC ?_;rcases AT k l.length with q|q
 ·obtain⟨v,hx⟩:∃x,l[k]?=some x:=⟨l[k],dO q⟩;have hzv:=gX (gO hx);have hz2:aW v.list<n∧v.list.length<2^38:=by
   have:=fu v.list;obtain⟨kd,tx,nu,un',fl,l2⟩:=v;rw[zV]at hzv;show aW l2<n∧l2.length<2^38;have:l2.length≤aW l2:=this;omega
  have hm1:(h.set id (.mp c1 jD)++[vB v])[id]?=some (.mp c1 jD):=by rw[iD (by simpa using hlt)];exact iN hlt
  have g2:∀c2 ga,(h.set id (.mp c2 ga)++[vB v])[id]?=some (.mp c2 ga):=fun c2 ga=>by rw[iD (by simpa using hlt)];exact iN hlt
  have s2:∀c2 ga c3 es3,(h.set id (.mp c2 ga)++[vB v]).set id (.mp c3 es3)=h.set id (.mp c3 es3)++[vB v]:=fun c2 ga c3 es3=>by rw[Aa (by simpa using hlt),aa5]
  have l2:∀c2 ga,(h.set id (.mp c2 ga)).length=h.length:=fun c2 ga=>by simp
  have gB:∀c1 jD c2 ga,(h.set id (.mp c2 ga)++[vB v])[(h.set id (.mp c1 jD)).length]?=some (vB v):=fun c1 jD c2 ga=>by rw[l2,←l2 c2 ga];simp
  refine zzL (by simpa using q) (zzg (f:=cQ) (aJ l) rfl hx (zzY (by simp[cK]) (vz ?_)));refine gF (fun s G=>s=[]∧∃c2 ga,G=h.set id (.mp c2 ga)++[vB v]∧Mp c2 ga (nA (iO (l.take k)++K8 v) f)) ?_ fun F hF=>?_
  ·rintro _ _ ⟨rfl,c2,ga,rfl,m2⟩;refine zzA (zzU (b:=⟨100,cQ v,true⟩) (c:=.sl 6 (ar v.list)) (gB _ _ _ _) (by simp[cK,aJ]) (su (by kernel_rfl) rfl (hP _ hz2.1 v.list id _ c2 ga _ (aS _) (g2 _ _) m2 (ht.HJ _)) ?_));rintro r H ⟨rfl,c3,es3,rfl,m3⟩ _;rw[s2];refine zzP (by unfold aN;omega) (af ?_);refine⟨(k+1,h.set id (.mp c3 es3)),⟨q,c3,es3,rfl,m3.ext fun s=>?_⟩, ?_,by dsimp only;omega⟩
   ·rw[Al,Tj hx,Xg,TO]
   ·refine Wk.back (M:=h.length) (by simp) (by simp) (by rw[←l2 c3 es3,acS (aS _),GO]) rfl (fun e he=>?_) (by simp[Bd]);rcases List.mem_or_eq_of_mem_set he with he|rfl
    ·exact hb e he
    ·exact Mp.bdT m3 ((ht.HJ _).HJ _)
  ·refine tu (zzS (by kernel_rfl) (uB v) ?_);cases hv:gJ v with
   | false =>
     refine zzK rfl (af ?_);exact hF _ _ ⟨rfl,c1,jD,rfl,by unfold K8;rw[hv];simpa using m1⟩
   | true =>
     refine zzL rfl (tu (zzS (by kernel_rfl) (yD v hz2.2) (zzB rfl (zzB rfl (zzB rfl (zzJ ?_))))))
     by_cases hn0:(eB v).1=[]
     ·refine zzK (by simp[hn0]) (af ?_);exact hF _ _ ⟨rfl,c1,jD,rfl,by unfold K8;rw[hv,if_pos rfl,if_pos hn0];simpa using m1⟩
     ·obtain⟨c2,ga,u2,m2,_⟩:=m1.Jw (eB v).1 tt;refine zzL (by simp[hn0]) (zze hm1 rfl u2 (s2 _ _ _ _) (af ?_));refine hF _ _ ⟨rfl,c2,ga,rfl,m2.ext fun s=>?_⟩;unfold K8;rw[hv,if_pos rfl,if_neg hn0,←Al];simp[nA]
 ·obtain rfl:k=l.length:=by omega
  refine zzK (by simp) ?_;rw[GO]at m1;exact⟨_,_,Wk.refl _ _ _ (by simp),rfl,c1,jD,rfl,m1⟩
theorem Ag{l:List Vl}{id:Nat}{h:aa}{c:Nat}{es:List (Nat×AV×AV)}{f:aD→Option AV}(hz:aW l<2^38)(hid:h[id]?=some (.mp c es))(hm:Mp c es f)(ht:xQ f):
 dY p_ 186 [.sl 6 (ar l),.mp id] h fun v h' => v=.aF []∧∃c' es',h'=h.set id (.mp c' es')∧Mp c' es' (nA (iO l) f):=by
 have:∀n,n<2^38→QE n:=by
  intro n;induction n using Nat.strongRecOn with
  | _ n ih=>exact fun hn=>QU hn fun n' h=>ih n' h (by omega)
 exact this _ hz l id h c es f (aS _) hid hm ht
theorem Tt(l:List Vl):∀k,aW (l.drop k)≤aW l:=by
 induction l with
 | nil=>intro k;simp
 | cons v l ih =>
   intro k;cases k with
   | zero=>exact aS _
   | succ k=>have:=ih k;rw[List.drop_succ_cons,aW];omega
theorem AJ(l:List Vl):aW l.reverse=aW l:=by
 induction l with
 | nil=>rfl
 | cons v l ih=>rw[List.reverse_cons,oS,ih,aW,aW,aW];omega
theorem td(l:List Vl):aW (dT l)≤aW l:=by
 obtain⟨k,h⟩:=wQ l;rw[h];exact Tt l k
theorem xN(l:List Vl):aW (jf l)≤aW l:=by
 unfold jf;rw[AJ];have h1:=td (dT l).reverse;rw[AJ]at h1;exact acx h1 (td l)
theorem u5(v:Vl):zV v=1+v.text.length+v.unit.length+aW v.list:=by
 obtain⟨kd,tx,nu,un',fl,l2⟩:=v;rw[zV];rfl
abbrev pQ(v:Vl):List Vl:=(eB v).2.1
theorem um(v:Vl):aW (pQ v)<zV v:=by
 have h0:=td v.list;have e:=u5 v;have hz:aW ([]:List Vl)=0:=by rw[aW]
 unfold pQ eB;split
 ·simp only;omega
 ·rename_i t r hd;rw[hd,aW]at h0;split
  ·split
   ·simp only;omega
   ·rename_i u s he;have h1:=td r;rw[he,aW]at h1;have h2:=xN s;split
    ·simp only;omega
    ·simp only;omega
  ·simp only;omega
theorem qB(v:Vl):aW v.list<zV v:=by have:=u5 v;omega
abbrev dJ:=aD→Option (List Vl)
def pA(a b:Option Nat):Option Nat:=match a,b with|some x,some y=>some (x+y)|_,_=>none
def eA(c:dJ):List Vl→Option Nat
 | []=>some 0
 | v:: l=>pA (if gJ v then (match c (eB v).1 with|some x=>some (aW x)|none=>if (eB v).2.2 then eA c (pQ v) else none) else (eA c v.list).map fun m=>1+v.text.length+v.unit.length+m) (eA c l)
termination_by l=>aW l
decreasing_by
 ·have:=um v;rw[aW];omega
 ·have:=qB v;rw[aW];omega
 ·have:=mF v;rw[aW];omega
def nD(c:dJ)(v:Vl):Option Nat:=if gJ v then (match c (eB v).1 with|some x=>some (aW x)|none=>if (eB v).2.2 then eA c (pQ v) else none) else (eA c v.list).map fun m=>1+v.text.length+v.unit.length+m
theorem mS(c:dJ):eA c []=some 0:=by rw[eA]
theorem kA(c:dJ)(v:Vl)(l:List Vl):eA c (v:: l)=pA (nD c v) (eA c l):=by rw[eA];rfl
theorem LW(a b d:Option Nat):pA (pA a b) d=pA a (pA b d):=by
 cases a<;>cases b<;>cases d<;>simp[pA,Nat.add_assoc]
theorem YX(a:Option Nat):pA (some 0) a=a:=by cases a<;>simp[pA]
theorem sE(c:dJ):∀a b:List Vl,eA c (a++b)=pA (eA c a) (eA c b)
 | [],b=>by rw[mS,YX];rfl
 | v:: a,b=>by rw[acU,kA,kA,sE c a b,LW]
theorem Gg{c:dJ}{l:List Vl}{k:Nat}{v:Vl}(h:l[k]?=some v):eA c (l.take (k+1))=pA (eA c (l.take k)) (nD c v):=by
 rw[Gt,h,sE,Option.toList_some,kA,mS];cases nD c v<;>simp[pA]
theorem N2(a:Option Nat):pA a none=none:=by cases a<;>rfl
theorem Gf{c:dJ}{v:Vl}(hv:nD c v=none):∀{l:List Vl},v∈l→eA c l=none
 | u:: l,h=>by
   rw[kA];rcases IS.1 h with rfl|h
   ·rw[hv];rfl
   ·rw[Gf hv h];exact N2 _
def dG(c:dJ):List Vl→List Vl
 | []=>[]
 | v:: l=>(if gJ v then (match c (eB v).1 with|some x=>x|none=>dG c (pQ v)) else [.mk v.kind v.text v.num v.unit v.flag (dG c v.list)])++dG c l
termination_by l=>aW l
decreasing_by
 ·have:=um v;rw[aW];omega
 ·have:=qB v;rw[aW];omega
 ·have:=mF v;rw[aW];omega
def ky(c:dJ)(v:Vl):List Vl:=if gJ v then (match c (eB v).1 with|some x=>x|none=>dG c (pQ v)) else [.mk v.kind v.text v.num v.unit v.flag (dG c v.list)]
theorem nZ(c:dJ):dG c []=[]:=by rw[dG]
theorem mW(c:dJ)(v:Vl)(l:List Vl):dG c (v:: l)=ky c v++dG c l:=by rw[dG];rfl
theorem zm(c:dJ):∀a b:List Vl,dG c (a++b)=dG c a++dG c b
 | [],b=>by rw[nZ];rfl
 | v:: a,b=>by rw[acU,mW,mW,zm c a b,TO]
theorem SO{c:dJ}{l:List Vl}{k:Nat}{v:Vl}(h:l[k]?=some v):dG c (l.take (k+1))=dG c (l.take k)++ky c v:=by
 rw[Gt,h,zm,Option.toList_some,mW,nZ,aa1]
structure oX(c:dJ):Prop where
 no:∀s x,c s=some x→ct x=false
 le:∀s x,c s=some x→aW x≤2000
theorem uv{a b:Option Nat}{n:Nat}(h:pA a b=some n):∃x y,a=some x∧b=some y∧n=x+y:=by
 cases a<;>cases b<;>simp[pA]at h;exact⟨_,_,rfl,rfl,h.symm⟩
theorem lS{c:dJ}(hc:oX c):∀(N:Nat) (l:List Vl) (n:Nat),aW l≤N→eA c l=some n→aW (dG c l)=n∧ct (dG c l)=false
 | N,[],n,_,h=>by
   rw[mS]at h;cases h;rw[nZ];exact⟨by rw[aW],by rw[ct]⟩
 | 0,v:: l,n,hz,_=>by have:=mF v;rw[aW]at hz;omega
 | N+1,v:: l,n,hz,h=>by
   rw[aW]at hz;have hp:=mF v;rw[kA]at h;obtain⟨x,y,hx,hy,rfl⟩:=uv h;obtain⟨i1,i2⟩:=lS hc N l y (by omega) hy;rw[mW,oS,uj,i1,i2];have:aW (ky c v)=x∧ct (ky c v)=false:=by
    unfold nD at hx;unfold ky;cases hv:gJ v with
    | true =>
      rw[hv,if_pos rfl]at hx;rw[if_pos rfl];cases hcn:c (eB v).1 with
      | some w =>
        rw[hcn]at hx;simp only[ON]at hx;exact⟨hx,hc.no _ _ hcn⟩
      | none =>
        rw[hcn]at hx;simp only at hx ⊢;split at hx
        ·exact lS hc N (pQ v) x (by have:=um v;omega) hx
        ·cases hx
    | false =>
      rw[hv,if_neg (by decide)]at hx;rw[if_neg (by decide)];obtain⟨m,hm,rfl⟩:=aar.1 hx;obtain⟨j1,j2⟩:=lS hc N v.list m (by have:=qB v;omega) hm;refine⟨by rw[aW,zV,j1,aW,Nat.add_zero], ?_⟩;rw[ct,ct,Bool.or_false,Fu,yY];rw[yY]at hv;show ((decide (v.kind=2)&&decide (bO v.text=sI))||ct (dG c v.list))=false;rw[hv,j2];rfl
   rw[this.1,this.2];exact⟨rfl,rfl⟩
theorem pT{c:dJ}(hc:oX c):∀(N:Nat) (l:List Vl) (n:Nat),aW l≤N→eA c l=some n→n≤2001*aW l
 | N,[],n,_,h=>by rw[mS]at h;cases h;exact acr _
 | 0,v:: l,n,hz,_=>by have:=mF v;rw[aW]at hz;omega
 | N+1,v:: l,n,hz,h=>by
   rw[aW]at hz ⊢;have hp:=mF v;rw[kA]at h;obtain⟨x,y,hx,hy,rfl⟩:=uv h;have i1:=pT hc N l y (by omega) hy;have:x≤2001*zV v:=by
    unfold nD at hx;cases hv:gJ v with
    | true =>
      rw[hv,if_pos rfl]at hx;cases hcn:c (eB v).1 with
      | some w =>
        rw[hcn]at hx;simp only[ON]at hx;have:=hc.le _ _ hcn;omega
      | none =>
        rw[hcn]at hx;simp only at hx;split at hx
        ·have h1:=um v;have:=pT hc N (pQ v) x (by omega) hx;omega
        ·cases hx
    | false =>
      rw[hv,if_neg (by decide)]at hx;obtain⟨m,hm,rfl⟩:=aar.1 hx;have h1:=u5 v;have:=pT hc N v.list m (by omega) hm;omega
   omega
def kU(c:dJ):aD→Option AV:=fun s=>(c s).map fun l=>.sl 6 (ar l)
theorem OA{c:dJ}{M:Nat}:∀s v,kU c s=some v→Bd M v:=by
 intro s v h;unfold kU at h;obtain⟨l,_,rfl⟩:=aar.1 h;exact iR _ _ (by simp[Aw.Pure,dd])
def T7:Option Nat→AV|some n=>i_ n|none=>i_ (-1)
structure tm(c:dJ)(id:Nat)(h:aa):Prop where
 ok:oX c
 at':∃cl es,h[id]?=some (.mp cl es)∧Mp cl es (kU c)
theorem tm.app{c:dJ}{id:Nat}{h:aa}(m:tm c id h)(t:aa):tm c id (h++t):=by
 obtain⟨ok,cl,es,h1,h2⟩:=m;exact⟨ok,cl,es,by rw[iD (gE.1 h1).1];exact h1,h2⟩
theorem tm.look{c:dJ}{id:Nat}{h:aa}(m:tm c id h){s:aD}{K:AV→Prop}(q:K (.aF [match c s with|some x=>.sl 6 (ar x)|none=>.v (.slice none 0 0),b_ (c s).isSome])):kq .string true (.v (.slice none 0 0)) (.mp id) (.str s) h K:=by
 obtain⟨ok,cl,es,h1,h2⟩:=m;refine rN rfl h1 rfl (h2.look s) rfl ?_;unfold kU;cases hc:c s with
 | none=>rw[hc]at q;exact q
 | some x=>rw[hc]at q;exact q
def QG(n:Nat):Prop:=∀(l:List Vl) (id:Nat) (h:aa) (c:dJ),aW l≤n→tm c id h→Ex p_ 80 [.sl 6 (ar l),.mp id] h (T7 (eA c l))
theorem Sz{n:Nat}(hn:n<2^38)(hP:∀n',n'<n→QG n'):QG n:=by
 intro l id h c hz hm;refine (V80 _ _).ex fun hb=>?_;unfold W80;have hlen:(ar l).length=l.length:=by simp[aJ]
 have hll:=fu l;refine zzk (n:=l.length) hlen fun _=>?_;refine aU (α:=Nat×Nat) (fun x=>x.1≤l.length∧eA c (l.take x.1)=some x.2) (fun x=>[i_ x.2,i_ x.1]) (fun _=>h) (fun x=>l.length-x.1) (0,0) ⟨acr _,by rw[List.take_zero,mS]⟩ (Wk.refl _ _ _ (aS _)) ?_;rintro⟨k,S⟩ ⟨hk,hS⟩;dsimp only at hk hS ⊢;refine zzC ?_;have hSle:=pT hm.ok _ _ _ (aS _) hS;have hzt:=jG l k;rcases AT k l.length with q|q
 ·obtain⟨v,hx⟩:∃x,l[k]?=some x:=⟨l[k],dO q⟩;have hmem:=gO hx;have hzv:=gX hmem;have hz2:=qB v;have hz3:=u5 v;have hz4:=um v;have hll2:=fu v.list;refine zzL (by simpa using q) (zzg (f:=cQ) (aJ l) rfl hx (zzY (by simp[cK]) (vz ?_)));have hm':=hm.app [vB v];refine gF (fun s G=>G=h++[vB v]∧∃a m:Int,s=[i_ a,i_ m]∧((nD c v=none∧m=-1)∨∃x:Nat,nD c v=some x∧0≤m∧a+m=S+x)) ?_ fun F hF=>?_
  ·rintro _ _ ⟨rfl,a,m,rfl,q1⟩;rcases q1 with⟨o1,rfl⟩|⟨x,o1,h0,hs⟩
   ·refine zzC (zzL rfl ?_);rw[Gf o1 hmem];exact lB hb (by simp[T7,Bd]) (by simp)
   ·have hsn:=Gg (c:=c) hx;rw[hS,o1]at hsn;have hle:=pT hm.ok _ _ _ (aS _) hsn;have hzt':=jG l (k+1);refine zzC (zzK (oN (by omega)) (zzP (by unfold aN;omega) (zzP (by unfold aN;omega) (af ?_))));refine⟨(k+1,S+x),⟨q,hsn⟩, ?_,by dsimp only;omega⟩;rw[hs];exact Wk.back (M:=h.length) (aS _) (by simp) (by simp) rfl hb (by simp[Bd])
  ·refine tu (zzS (by kernel_rfl) (uB v) (zzO ?_));cases hv:gJ v with
   | false =>
     refine zzL rfl (zzA (zzA (vA (i:=1) (c:=.str v.text) (by simp[cK]) ?_)));refine zzb fun _=>?_;refine zzP (by unfold aN;omega) (zzA (zzA (vA (i:=3) (c:=.str v.unit) (by simp[cK]) ?_)));refine zzb fun _=>?_;refine zzP (by unfold aN;omega) (zzP (by unfold aN;omega) (zzA (vA (i:=5) (c:=.sl 6 (ar v.list)) (by simp[cK,aJ]) (zzd (hP (aW v.list) (by omega) v.list id _ c (aS _) hm') (af ?_)))));have e:nD c v=(eA c v.list).map fun m=>1+v.text.length+v.unit.length+m:=by unfold nD;rw[hv];rfl
     cases hr:eA c v.list with
     | none=>exact hF _ _ ⟨rfl,_,-1,rfl,.inl ⟨by rw[e,hr];rfl,rfl⟩⟩
     | some r=>exact hF _ _ ⟨rfl,_,r,rfl,.inr ⟨1+v.text.length+v.unit.length+r,by rw[e,hr];rfl,by omega,by omega⟩⟩
   | true =>
     refine zzK rfl (tu (zzS (by kernel_rfl) (yD v (by omega)) (zzB rfl (zzB rfl (zzB rfl (hm'.look (zzB rfl (zzB rfl ?_))))))));have e:nD c v=(match c (eB v).1 with|some x=>some (aW x)|none=>if (eB v).2.2 then eA c (pQ v) else none):=by unfold nD;rw[hv];rfl
     cases hc:c (eB v).1 with
     | some x =>
       have:=hm.ok.le _ _ hc;refine zzL rfl (zzS (by kernel_rfl) (wJ x (by omega)) (af ?_));exact hF _ _ ⟨rfl,_,aW x,rfl,.inr ⟨_,by rw[e,hc],by omega,rfl⟩⟩
     | none =>
       refine zzK rfl ?_;cases hh:(eB v).2.2 with
       | true =>
         refine zzL rfl ?_;rw[if_pos rfl];refine zzd (hP (aW (pQ v)) (by omega) (pQ v) id _ c (aS _) hm') (af ?_);cases hr:eA c (pQ v) with
         | none=>exact hF _ _ ⟨rfl,_,-1,rfl,.inl ⟨by rw[e,hc,hh];exact hr,rfl⟩⟩
         | some r=>exact hF _ _ ⟨rfl,_,r,rfl,.inr ⟨_,by rw[e,hc,hh];exact hr,by omega,rfl⟩⟩
       | false =>
         refine zzK rfl (af ?_);exact hF _ _ ⟨rfl,_,-1,rfl,.inl ⟨by rw[e,hc,hh];rfl,rfl⟩⟩
 ·obtain rfl:k=l.length:=by omega
  refine zzK (by simp) ?_;rw[GO]at hS;rw[hS];exact lB hb (by simp[T7,Bd]) (by simp)
theorem VD{l:List Vl}{id:Nat}{h:aa}{c:dJ}(hz:aW l<2^38)(hm:tm c id h):Ex p_ 80 [.sl 6 (ar l),.mp id] h (T7 (eA c l)):=by
 have:∀n,n<2^38→QG n:=by
  intro n;induction n using Nat.strongRecOn with
  | _ n ih=>exact fun hn=>Sz hn fun n' h=>ih n' h (by omega)
 exact this _ hz l id h c (aS _) hm
end
end Go.Proofs.YtldpambpnajgiaaGreatDoor
end
