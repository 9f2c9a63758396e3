/-
 A piece of code meets the condition that 'ivc' makes of it;a function's body gives a contract.
 No conditions: lemmas over any program.
-/
import Derived.Test.YtfageokhpklkbaaGreatDoorL1
set_option linter.unusedVariables false
set_option linter.unusedSimpArgs false
namespace Go.Aw
open Go Go.RowKit
variable [Laid]

section
variable {P : Program} {o : Oper} {base : Nat} {ι : List Ix} {S : aJ} {a : Act} {w : World} {st : St} {K : AV → aa → Prop}

theorem Ie {op : BinOp} {neg : Bool} {t yt : TypeId} {x y : Operand} {ks : List Nat} (hr : ROK base ι S a w st) (ho : o.op = .binOp op t x y yt) (hop : op = (if neg then .neq else .eql)) (hg : P.eqGuardType P.depth t = false)
 (hagg : cW P t = true) (hks : gD P 8 t = some ks) (h : iJ neg ks (ae st.fr x) (ae st.fr y) fun v=>K v st.h) : bk P o base ι S a w st K:=by
 have hx:=hr.eval x
 have hy:=hr.eval y
 unfold iJ at h
 split at h
 ·rename_i xs ys e1 e2
  rw [e1,Rep] at hx
  rw [e2,Rep] at hy
  obtain ⟨vs,ex,rx⟩:=hx
  obtain ⟨us,ey,ry⟩:=hy
  split at h
  ·rename_i b eb
   have key:=Ep (P:=P) (w:=w) 8 t ks hks 10000 (by omega) xs ys vs us b rx ry eb
   simp only [eJ,hagg,if_true] at key
   have hgu : (eqGuard op t x y (.agg vs.toArray) (.agg us.toArray)).run P w = .ok () w:=run_eqGuard_agg w op t x y _ _ hg
   refine aM hr (u:=.bool (if neg then !b else b)) ?_ (by simp) h
   simp only [execOp,ho,ex,ey]
   refine cV ?_
   rw [Sem.run_bind,hgu]
   simp only [Result.andThen_ok]
   cases neg with
   | true=>subst hop;simp only [if_true,run_neq_struct,key,Result.andThen_ok]
   | false=>subst hop;simp only [Bool.false_eq_true,if_false,run_eql_struct,key,Result.andThen_ok]
  ·exact h.elim
 ·exact h.elim

omit [Laid] in
theorem aU {b : Bool} {X : Prop} (h : req b X) : b = true ∧ X:=by
 cases b with
 | true=>exact ⟨rfl,h⟩
 | false=>exact h.elim

theorem fJ {own : Bool} (hr : ROK base ι S a w st) (h : bg P own (ae st.fr) st.h o.op K) : bk P o base ι S a w st K:=by
 generalize ho : o.op = op at h
 unfold bg at h
 split at h
 ·exact Fx hr (.inl ho) h
 ·exact Fx hr (.inr ho) h
 ·exact Mj hr ho h
 ·rename_i bop t x y yt
  split at h
  ·rename_i hagg
   split at h
   ·obtain ⟨hg,h⟩:=aU h
    have hg : P.eqGuardType P.depth t = false:=by simpa using hg
    split at h
    ·rename_i ks hks;exact Ie (neg:=false) hr ho rfl hg hagg hks h
    ·exact h.elim
   ·obtain ⟨hg,h⟩:=aU h
    have hg : P.eqGuardType P.depth t = false:=by simpa using hg
    split at h
    ·rename_i ks hks;exact Ie (neg:=true) hr ho rfl hg hagg hks h
    ·exact h.elim
   ·exact h.elim
  ·split at h
   ·rename_i ht;exact L3 hr ho ht h
   ·exact Ic hr ho h
   ·exact Ic hr ho h
   ·rename_i ht
    split at h
    ·exact Fz (neg:=false) hr ho ht h
    ·exact Fz (neg:=true) hr ho ht h
    ·exact h.elim
   ·exact h.elim
 ·exact Nz hr ho h
 ·exact Nx hr ho h
 ·split at h
  ·exact Np hr ho h
  ·exact h.elim
 ·split at h
  ·rename_i hs hd;exact L6 hr ho hs hd h
  ·rename_i hs hd
   unfold pt at h
   split at h
   ·rename_i e;exact Ka hr ho hs hd ⟨_,e,h⟩
   ·exact h.elim
  ·rename_i hs hd;exact FD hr ho hs hd (aU h).1 (aU h).2
  ·rename_i hs hd;exact FA hr ho hs hd (aU h).1 (aU h).2
  ·exact h.elim
 ·exact L7 hr ho h
 ·split at h
  ·rename_i ht
   split at h
   ·rename_i hf;exact Kb hr ho ht hf (aU h).1 (aU h).2
   ·exact h.elim
  ·exact h.elim
 ·split at h
  ·rename_i ht;exact Mc hr ho ht h
  ·rename_i ht;exact L9 hr ho ht (aU h).1 (aU h).2
  ·exact h.elim
 ·split at h
  ·rename_i ht;exact NC hr ho ht h
  ·rename_i ht;exact O7 hr ho ht (aU h).1 (aU h).2
  ·rename_i ht;exact NB hr ho ht (aU h).1 (aU h).2
  ·exact h.elim
 ·split at h
  ·rename_i ht;exact Ma hr ho ht (aU h).1 (aU h).2
  ·rename_i ht;exact Mb hr ho ht (aU h).1 (aU h).2
  ·exact h.elim
 ·split at h
  ·rename_i ht
   split at h
   ·rename_i hf
    obtain ⟨hq,h⟩:=aU h
    simp only [Bool.and_eq_true,bne_iff_ne,ne_eq] at hq
    exact Nr hr ho ht hf hq.1 hq.2 h
   ·exact h.elim
  ·exact h.elim
 ·exact Mi hr ho h
 ·exact Nw hr ho (aU h).1 (aU h).2
 ·exact Nm hr ho h
 ·exact Me hr ho (aU h).1 (aU h).2
 ·exact Kd hr ho (aU h).1 (aU h).2
 ·split at h
  ·rename_i hz;exact J1 hr ho hz h
  ·exact h.elim
 ·exact Nn hr ho h
 ·split at h
  ·rename_i ht hz
   obtain ⟨hq,h⟩:=aU h
   simp only [Bool.and_eq_true] at hq
   exact Hz hr ho ht hz hq.1 hq.2 h
  ·rename_i ht hz;exact Hy hr ho ht hz (aU h).1 (aU h).2
  ·exact h.elim
 ·split at h
  ·rename_i ht
   split at h
   ·rename_i hz
    cases own with
    | true=>exact Kc hr ho ht hz (aU h).1 (aU h).2
    | false=>exact Mh hr ho ht hz (aU h).1 (aU h).2
   ·exact h.elim
  ·exact h.elim
 ·split at h
  ·rename_i ht
   split at h
   ·rename_i hz;exact Mf hr ho ht hz (aU h).1 (aU h).2
   ·exact h.elim
  ·exact h.elim
 ·exact L8 hr ho h
 ·rename_i c
  split at h
  ·rename_i hc
   split at h
   ·rename_i hat hax
    split at h
    ·rename_i ht;exact Md hr ho hc hat hax ht h
    ·rename_i ht;exact Nt hr ho hc hat hax ht h
    ·exact h.elim
   ·exact h.elim
  ·rename_i hc
   split at h
   ·rename_i hax;exact Nv hr ho hc hax h
   ·exact h.elim
  ·rename_i hc
   split at h
   ·rename_i hax;exact Nu hr ho hc hax h
   ·rename_i hax;exact Mg hr ho hc hax h
   ·exact h.elim
  ·rename_i hc
   split at h
   ·rename_i hat hax
    split at h
    ·rename_i ht htx;exact Nl hr ho hc hat hax ht htx (aU h).1 (aU h).2
    ·rename_i ht htx
     obtain ⟨hq,h⟩:=aU h
     simp only [Bool.and_eq_true,beq_iff_eq] at hq
     exact L1 hr ho hc hat hax ht htx hq.1 hq.2 h
    ·exact h.elim
   ·exact h.elim
  ·rename_i hc
   unfold aH at h
   split at h
   ·rename_i hx;exact L4 hr ho hc hx h.1 h.2
   ·exact h.elim
  ·rename_i hc;exact Ns hr ho hc h
  ·exact h.elim
 ·exact h.elim
end

/-! ### Operations in a row -/
omit [Laid] in
theorem dw {n : Nat} {fr : Fr} {d : Option Tmp} {x : AV} {t : Nat} (hd : ∀ e,d = some e → e ≠ t) : aL (bj n fr d x) t = aL fr t:=by
 unfold bj
 split
 ·rename_i e
  split
  ·rw [bZ,if_neg (hd e rfl)]
  ·rfl
 ·rfl

theorem ib {ops : Array Oper} {base : Nat} {ι : List Ix} {S : aJ} {a : Act} {w : World} {st : St} (hr : ROK base ι S a w st) {j d : Nat} (h1 : cf ops j = some d) :
 (∀ b,aL st.fr d = .v (.bool b) → yielded ops a.tmps j = some b) ∧ (aL st.fr d = .v undef → yielded ops a.tmps j = none):=by
 have r:=hr.get d
 unfold cf at h1
 unfold yielded
 rw [h1]
 simp only [Option.bind_some]
 constructor
 ·intro b e
  rw [e,bL,Array.getD_eq_getD_getElem?] at r
  cases hv : a.tmps[d]? with
  | none=>rw [hv] at r;cases r
  | some v=>rw [hv] at r;simp only [Option.getD_some] at r;subst r;rfl
 ·intro e
  rw [e,bL,Array.getD_eq_getD_getElem?] at r
  cases hv : a.tmps[d]? with
  | none=>rfl
  | some v=>rw [hv] at r;simp only [Option.getD_some] at r;subst r;rfl

omit [Laid] in
theorem ft {P : Program} {o : Oper} {a : Act} {w : World} {K K' : Act → World → Prop} {Q Q' : Exit → Act → World → Prop} (h1 : ∀ a w,K a w → K' a w) (h2 : ∀ e a w,Q e a w → Q' e a w) (h : o.wp P a w K Q) : o.wp P a w K' Q':=by
 unfold Oper.wp at *
 generalize (execOp a.eval o).run P w = r at *
 unfold Oper.upon at *
 split at h
 ·exact h1 _ _ h
 ·exact h1 _ _ h
 ·exact h1 _ _ h
 ·exact h.mono fun e w' k=>by
   cases e with
   | returned v=>exact h1 _ _ k
   | panicked ch=>exact h2 _ _ _ k
   | outgrown=>obtain ⟨a0,w0,k⟩:=k;exact ⟨a0,w0,h2 _ _ _ k⟩
 ·exact h.mono fun v w' k=>h1 _ _ k
 ·exact h2 _ _ _ h
 ·exact h.elim

omit [Laid] in
theorem gq {P : Program} {ops : Array Oper} {Q Q' : Exit → Act → World → Prop} (hq : ∀ e a w,Q e a w → Q' e a w) : ∀ (l : List Nat) (a : Act) (w : World),wpOps P ops Q l a w → wpOps P ops Q' l a w
 | [],a,w,h=>hq _ _ _ h
 | i :: l,a,w,h=>by
   simp only [wpOps] at *
   cases ho : ops[i]? with
   | none=>rw [ho] at h;exact gq hq l a w h
   | some o =>
     rw [ho] at h
     simp only at *
     split
     ·rename_i hw
      rw [if_pos hw] at h
      rcases h with h|⟨h,a0,w0,k⟩
      ·exact .inl (ft (fun a w=>gq hq l a w) hq h)
      ·exact .inr ⟨h,a0,w0,hq _ _ _ k⟩
     ·rename_i hw
      rw [if_neg hw] at h
      exact gq hq l _ w h


def nx (s : List AV) (k : Nat) : AV:=s.getD k .any
def cN (fr : Fr) (l : List Nat) : List AV:=l.map (aL fr)
def ig (fr : Fr) : List Nat → List AV → Nat → Fr
 | [],_,_=>fr
 | t :: ts,s,k=>ig (bK fr t (nx s k)) ts s (k + 1)
def aQ (k : (List AV → aa → Prop) → Prop) (f : List AV → aa → Prop) : Prop:=k f
def jmp (cs ms : List Nat) (fr fr' : Fr) (h' : aa) (J : List AV → aa → Prop) : Prop :=
 match cs with
 | []=>J (cN fr' ms) h'
 | c :: cs=>cN fr' (c :: cs) = cN fr (c :: cs) ∧ J (cN fr' ms) h'
omit [Laid] in
theorem jv {cs ms : List Nat} {fr fr' : Fr} {h' : aa} {J : List AV → aa → Prop} (h : jmp cs ms fr fr' h' J) : cN fr' cs = cN fr cs ∧ J (cN fr' ms) h':=by
 cases cs with
 | nil=>exact ⟨rfl,h⟩
 | cons c cs=>exact h
def join (cs ms : List Nat) (fr : Fr) (s : List AV) : Fr:=ig (fH cs fr) ms s 0

inductive Seg where
 | op (i : Nat) (own : Bool)
 | grp (j : Nat) (want : Bool) (l : List (Nat × Bool)) (cs ms : List Nat)
def Seg.ix : Seg → List Nat
 | .op i _=>[i]
 | .grp _ _ l _ _=>l.map (·.1)

section
variable (P : Program) (ops : Array Oper)
def vq : List (Nat × Bool) → St → (St → Prop) → Prop
 | [],st,K=>K st
 | (i,own) :: r,st,K=>match ops[i]? with
  | some o=>bg P own (ae st.fr) st.h o.op fun v h=>vq r (fh st o.dst v h) K
  | none=>False
def noL : List (Nat × Bool) → St → St
 | [],st=>st
 | (i,_) :: r,st=>match ops[i]? with
  | some o=>noL r (fh st o.dst (.v undef) st.h)
  | none=>noL r st
def gp : List Seg → St → (St → Prop) → Prop
 | [],st,K=>K st
 | .op i own :: r,st,K=>(match ops[i]? with
   | some o=>bg P own (ae st.fr) st.h o.op fun v h=>gp r (fh st o.dst v h) K
   | none=>False)
 | .grp j want l cs ms :: r,st,K=>(match cf ops j with
   | some d=>aQ (fun J=>aK (aL st.fr d) want (vq P ops l ⟨st.n,bK st.fr d (.v (.bool want)),st.h⟩ fun st' => jmp cs ms st.fr st'.fr st'.h J)
    (jmp cs ms st.fr (noL ops l ⟨st.n,bK st.fr d (bu want (aL st.fr d)),st.h⟩).fr st.h J)) fun s h=>gp r ⟨st.n,join cs ms st.fr s,h⟩ K
   | none=>False)
def fT : Seg → Bool
 | .op i _=>match ops[i]? with|some o=>o.guard.isNone|none=>false
 | .grp j want l _ _=>match cf ops j with
   | some d=>l.all (fun p=>match ops[p.1]? with|some o=>o.guard == some (j,want)|none=>false) && (l.dropLast).all (fun p=>match ops[p.1]? with|some o=>o.dst != some d|none=>false)
   | none=>false
def sP (l : List Seg) : Bool:=l.all (fT ops) && (l.map Seg.ix).flatten == List.range ops.size
end

omit [Laid] in
theorem pJ (ops : Array Oper) : ∀ (l : List (Nat × Bool)) (st : St),(noL ops l st).h = st.h ∧ (noL ops l st).n = st.n
 | [],st=>⟨rfl,rfl⟩
 | (i,own) :: l,st=>by
  unfold noL
  split
  ·exact pJ ops l _
  ·exact pJ ops l _

omit [Laid] in
theorem cp.ig {ι : List Ix} {S : aJ} {w : World} {tmps : Array Value} : ∀ (ms : List Nat) (fr : Fr) (s : List AV) (k : Nat),cp ι S w fr tmps → (∀ i t,ms[i]? = some t → Rep ι S w (nx s (k + i)) (tmps.getD t undef)) → cp ι S w (Aw.ig fr ms s k) tmps
 | [],fr,s,k,h,_=>h
 | t :: ts,fr,s,k,h,hs=>by
   rw [Aw.ig]
   refine cp.ig ts _ s (k + 1) (cp.say h (by simpa using hs 0 t rfl)) fun i u e=>?_
   have:=hs (i + 1) u (by simpa using e)
   rw [show k + 1 + i = k + (i + 1) by omega];exact this
omit [Laid] in
theorem uS {fr fr' : Fr} : ∀ {cs : List Nat},cN fr' cs = cN fr cs → ∀ t ∈ cs,aL fr' t = aL fr t
 | [],_,_,h=>by cases h
 | c :: cs,e,t,h=>by
   simp only [cN,List.map_cons,List.cons.injEq] at e
   rcases List.mem_cons.1 h with rfl|h
   ·exact e.1
   ·exact uS (cs:=cs) e.2 t h
omit [Laid] in
theorem iz : ∀ (fm : List Nat) (fr : Fr) (t : Nat),aL (fH fm fr) t = .any ∨ (t ∈ fm ∧ aL (fH fm fr) t = aL fr t)
 | [],fr,t=>.inl rfl
 | k :: r,fr,t=>by
   simp only [fH,List.map_cons,aL]
   split
   ·rename_i h;subst h;exact .inr ⟨List.mem_cons_self ..,rfl⟩
   ·rcases iz r fr t with q|⟨q1,q2⟩
    ·exact .inl q
    ·exact .inr ⟨List.mem_cons_of_mem _ q1,q2⟩
omit [Laid] in
theorem cp.fm {ι : List Ix} {S : aJ} {w : World} {tmps : Array Value} {fr fr' : Fr} {cs : List Nat} (h : cp ι S w fr' tmps) (e : cN fr' cs = cN fr cs) : cp ι S w (fH cs fr) tmps:=by
 intro t
 rcases iz cs fr t with q|⟨q1,q2⟩
 ·rw [q];simp
 ·rw [q2,← uS e t q1];exact h t
omit [Laid] in
theorem JP (fr : Fr) (ms : List Nat) (i t : Nat) (e : ms[i]? = some t) : nx (cN fr ms) i = aL fr t:=by
 unfold nx cN
 rw [List.getD_eq_getElem?_getD,List.getElem?_map,e];rfl
omit [Laid] in
theorem cp.join {ι : List Ix} {S : aJ} {w : World} {tmps : Array Value} {fr fr' : Fr} {cs ms : List Nat} (h : cp ι S w fr' tmps) (e : cN fr' cs = cN fr cs) : cp ι S w (Aw.join cs ms fr (cN fr' ms)) tmps :=
 cp.ig ms _ _ 0 (h.fm e) fun i t q=>by rw [Nat.zero_add,JP fr' ms i t q];exact h t

section
variable {P : Program} {ops : Array Oper} {m : Nat} {Q : Exit → St → Prop}

theorem uT {own : Bool} {i : Nat} {o : Oper} {l : List Nat} {K : St → Prop} (ho : ops[i]? = some o) {base : Nat} {ι : List Ix} {S : aJ} {a : Act} {w : World} {st : St} (hm : m ≤ st.h.length) (hr : ROK base ι S a w st)
 (hw : Region.wanted o (yielded ops a.tmps) = true) {K' : AV → aa → Prop} (h : bg P own (ae st.fr) st.h o.op K')
 (next : ∀ v h' ι' S' a' w',K' v h' → m ≤ h'.length → ROK base ι' S' a' w' (fh st o.dst v h') → wpOps P ops (bQ m base ι' S' w' (dv K Q)) l a' w') :
 wpOps P ops (bQ m base ι S w (dv K Q)) (i :: l) a w:=by
 simp only [wpOps,ho]
 rw [if_pos hw]
 left
 have:=fJ (P:=P) (o:=o) (a:=a) hr h (bQ m base ι S w (dv K Q))
 refine ft (fun a' w' k=>?_) (fun _ _ _ k=>k) this
 obtain ⟨ι',S',v,h2,hE,hR,hl,hk⟩:=k
 refine gq (fun e a w k=>?_) l a' w' (next v h2 ι' S' a' w' hk (by omega) hR)
 exact bQ.trans (hE.mono (by rw [hr.hp.len];exact hm) (Nat.le_refl _)) k
theorem HO {i : Nat} {o : Oper} {l : List Nat} {K : St → Prop} (ho : ops[i]? = some o) {base : Nat} {ι : List Ix} {S : aJ} {a : Act} {w : World} {st : St} (hr : ROK base ι S a w st)
 (hw : Region.wanted o (yielded ops a.tmps) = false) (next : ROK base ι S (a.put o.dst undef) w (fh st o.dst (.v undef) st.h) → wpOps P ops (bQ m base ι S w (dv K Q)) l (a.put o.dst undef) w) :
 wpOps P ops (bQ m base ι S w (dv K Q)) (i :: l) a w:=by
 simp only [wpOps,ho]
 rw [hw]
 simp only [Bool.false_eq_true,if_false]
 exact next (hr.put (x:=.v undef) (v:=undef) o.dst (by simp))

omit [Laid] in
theorem my {o : Oper} {j : Nat} {want : Bool} {tmps : Array Value} (hg : o.guard = some (j,want)) : Region.wanted o (yielded ops tmps) = (yielded ops tmps j == some want):=by simp [Region.wanted,hg]

omit [Laid] in
theorem oG {st : St} {d : Option Tmp} {x : AV} {h : aa} {t : Nat} (hd : d ≠ some t) : aL (fh st d x h).fr t = aL st.fr t:=by
 unfold fh
 exact dw fun e he q=>hd (by rw [he,q])

theorem AL {j d : Nat} {want : Bool} (hd : cf ops j = some d) {K : St → Prop} {rest : List Nat} : ∀ (l : List (Nat × Bool)) (base : Nat) (ι : List Ix) (S : aJ) (a : Act) (w : World) (st : St) (K' : St → Prop),
 l.all (fun p=>match ops[p.1]? with|some o=>o.guard == some (j,want)|none=>false) = true → (l.dropLast).all (fun p=>match ops[p.1]? with|some o=>o.dst != some d|none=>false) = true →
 m ≤ st.h.length → ROK base ι S a w st → (l ≠ [] → aL st.fr d = .v (.bool want)) → vq P ops l st K' →
 (∀ st' ι' S' a' w',K' st' → m ≤ st'.h.length → st'.n = st.n → ROK base ι' S' a' w' st' → wpOps P ops (bQ m base ι' S' w' (dv K Q)) rest a' w') →
 wpOps P ops (bQ m base ι S w (dv K Q)) (l.map (·.1) ++ rest) a w
 | [],base,ι,S,a,w,st,K',_,_,hm,hr,_,h,next=>next st ι S a w h hm rfl hr
 | (i,own) :: l,base,ι,S,a,w,st,K',hgs,hds,hm,hr,hc,h,next=>by
  simp only [List.all_cons,Bool.and_eq_true] at hgs
  obtain ⟨hg,hgs⟩:=hgs
  simp only [vq] at h
  cases ho : ops[i]? with
  | none=>rw [ho] at h;exact h.elim
  | some o =>
    simp only [ho,beq_iff_eq] at hg h
    simp only [List.map_cons,List.cons_append]
    have hy:=(ib hr hd).1 want (hc (by simp))
    refine uT ho hm hr (by rw [my hg,hy];simp) h fun v h' ι' S' a' w' k hm' hr' => ?_
    refine AL hd l base ι' S' a' w' _ K' hgs ?_ hm' hr' (fun hne=>?_) k (fun st' ι2 S2 a2 w2 k2 m2 n2 r2=>next st' ι2 S2 a2 w2 k2 m2 (by rw [n2];rfl) r2)
    ·cases l with
     | nil=>rfl
     | cons p l=>simp only [List.dropLast_cons_cons,List.all_cons,Bool.and_eq_true] at hds;exact hds.2
    ·cases l with
     | nil=>exact absurd rfl hne
     | cons p l =>
       simp only [List.dropLast_cons_cons,List.all_cons,Bool.and_eq_true,ho,bne_iff_ne,ne_eq] at hds
       rw [oG hds.1];exact hc (by simp)
theorem jV {j d : Nat} {want : Bool} (hd : cf ops j = some d) {K : St → Prop} {rest : List Nat} : ∀ (l : List (Nat × Bool)) (base : Nat) (ι : List Ix) (S : aJ) (a : Act) (w : World) (st : St),
 l.all (fun p=>match ops[p.1]? with|some o=>o.guard == some (j,want)|none=>false) = true → (l.dropLast).all (fun p=>match ops[p.1]? with|some o=>o.dst != some d|none=>false) = true →
 ROK base ι S a w st → (l ≠ [] → aL st.fr d = .v (.bool (!want)) ∨ aL st.fr d = .v undef) →
 (∀ a',ROK base ι S a' w (noL ops l st) → wpOps P ops (bQ m base ι S w (dv K Q)) rest a' w) →
 wpOps P ops (bQ m base ι S w (dv K Q)) (l.map (·.1) ++ rest) a w
 | [],base,ι,S,a,w,st,_,_,hr,_,next=>next a hr
 | (i,own) :: l,base,ι,S,a,w,st,hgs,hds,hr,hc,next=>by
  simp only [List.all_cons,Bool.and_eq_true] at hgs
  obtain ⟨hg,hgs⟩:=hgs
  simp only [noL] at next
  cases ho : ops[i]? with
  | none=>simp only [ho] at hg;cases hg
  | some o =>
    simp only [ho,beq_iff_eq] at hg next
    simp only [List.map_cons,List.cons_append]
    have hw : Region.wanted o (yielded ops a.tmps) = false:=by
     rw [my hg]
     rcases hc (by simp) with q|q
     ·rw [(ib hr hd).1 _ q];cases want <;> rfl
     ·rw [(ib hr hd).2 q];rfl
    refine HO ho hr hw fun hr' => ?_
    refine jV hd l base ι S _ w _ hgs ?_ hr' (fun hne=>?_) next
    ·cases l with
     | nil=>rfl
     | cons p l=>simp only [List.dropLast_cons_cons,List.all_cons,Bool.and_eq_true] at hds;exact hds.2
    ·cases l with
     | nil=>exact absurd rfl hne
     | cons p l =>
       simp only [List.dropLast_cons_cons,List.all_cons,Bool.and_eq_true,ho,bne_iff_ne,ne_eq] at hds
       rw [oG hds.1];exact hc (by simp)

theorem jl {K : St → Prop} : ∀ (l : List Seg) (base : Nat) (ι : List Ix) (S : aJ) (a : Act) (w : World) (st : St),l.all (fT ops) = true → m ≤ st.h.length → ROK base ι S a w st → gp P ops l st K →
 wpOps P ops (bQ m base ι S w (dv K Q)) (l.map Seg.ix).flatten a w
 | [],base,ι,S,a,w,st,_,hm,hr,h=>⟨ι,S,st,Evo.refl _ _ _ _ _,hm,hr,h⟩
 | .op i own :: r,base,ι,S,a,w,st,hok,hm,hr,h=>by
   simp only [List.all_cons,Bool.and_eq_true] at hok
   obtain ⟨hg,hok⟩:=hok
   simp only [gp] at h
   simp only [List.map_cons,List.flatten_cons,Seg.ix,List.singleton_append]
   cases ho : ops[i]? with
   | none=>rw [ho] at h;exact h.elim
   | some o =>
     simp only [ho] at h
     simp only [fT,ho,Option.isNone_iff_eq_none] at hg
     exact uT ho hm hr (by simp [Region.wanted,hg]) h fun v h' ι' S' a' w' k hm' hr' => jl r base ι' S' a' w' _ hok hm' hr' k
 | .grp j want l cs ms :: r,base,ι,S,a,w,st,hok,hm,hr,h=>by
   simp only [List.all_cons,Bool.and_eq_true] at hok
   obtain ⟨hg,hok⟩:=hok
   simp only [gp] at h
   simp only [List.map_cons,List.flatten_cons,Seg.ix]
   cases hd : cf ops j with
   | none=>rw [hd] at h;exact h.elim
   | some d =>
     simp only [hd] at h
     simp only [fT,hd,Bool.and_eq_true] at hg
     unfold aQ at h
     have after : ∀ {st' : St} {ι' : List Ix} {S' : aJ} {a' : Act} {w' : World},st'.n = st.n → jmp cs ms st.fr st'.fr st'.h (fun s h=>gp P ops r ⟨st.n,join cs ms st.fr s,h⟩ K) → m ≤ st'.h.length → ROK base ι' S' a' w' st' →
      wpOps P ops (bQ m base ι' S' w' (dv K Q)) (r.map Seg.ix).flatten a' w':=by
      intro st' ι' S' a' w' hn q hm' hr'
      obtain ⟨e1,k⟩:=jv q
      exact jl r base ι' S' a' w' ⟨st.n,join cs ms st.fr (cN st'.fr ms),st'.h⟩ hok hm' ⟨hr'.df,by rw [← hn];exact hr'.sz,hr'.fr.join e1,hr'.hp⟩ k
     have rv:=hr.get d
     rcases h with ⟨t,ht0,g1,g2⟩|⟨hu,g2⟩
     ·rw [ht0] at rv
      by_cases ht : t = want
      ·subst ht
       have hr2 : ROK base ι S a w ⟨st.n,bK st.fr d (.v (.bool t)),st.h⟩:=⟨hr.df,hr.sz,cp.say hr.fr rv,hr.hp⟩
       exact AL hd l base ι S a w ⟨st.n,bK st.fr d (.v (.bool t)),st.h⟩ _ hg.1 hg.2 hm hr2 (fun _=>by simp [bZ]) (g1 rfl) fun st' ι' S' a' w' k hm' hn' hr' => after hn' k hm' hr'
      ·have ht' : t = !want:=by cases t <;> cases want <;> simp_all
       subst ht'
       have hr2 : ROK base ι S a w ⟨st.n,bK st.fr d (bu want (aL st.fr d)),st.h⟩:=⟨hr.df,hr.sz,cp.say hr.fr (by rw [ht0];exact rv),hr.hp⟩
       refine jV hd l base ι S a w _ hg.1 hg.2 hr2 (fun _=>.inl (by simp [bZ,ht0,bu])) fun a' hr' => ?_
       have hh:=pJ ops l ⟨st.n,bK st.fr d (bu want (aL st.fr d)),st.h⟩
       exact after hh.2 (by rw [hh.1];exact g2 rfl) (by rw [hh.1];exact hm) hr'
     ·have hr2 : ROK base ι S a w ⟨st.n,bK st.fr d (bu want (aL st.fr d)),st.h⟩:=⟨hr.df,hr.sz,cp.say hr.fr (by rw [hu] at rv ⊢;exact rv),hr.hp⟩
      refine jV hd l base ι S a w _ hg.1 hg.2 hr2 (fun _=>.inr (by simp only [bZ,if_true,hu];rfl)) fun a' hr' => ?_
      have hh:=pJ ops l ⟨st.n,bK st.fr d (bu want (aL st.fr d)),st.h⟩
      exact after hh.2 (by rw [hh.1];exact g2) (by rw [hh.1];exact hm) hr'
end

/-! ### Loops -/
def Wk (n : Nat) (s : List AV) (h : aa) (s' : List AV) (h' : aa) : Prop :=
 n ≤ h'.length ∧ s'.length = s.length ∧ ∀ base ι S w vs,au ι S w s vs → HOK base ι S w h → ∃ ι' S',Evo n base ι S w ι' S' w ∧ au ι' S' w s' vs ∧ HOK base ι' S' w h'
def bO (s : List AV) (h : aa) (body : (List AV → aa → Prop) → List AV → aa → Prop) : Prop :=
 ∃ (α : Type) (I : α → Prop) (f : α → List AV) (g : α → aa) (μ : α → Nat) (x₀ : α),I x₀ ∧ Wk h.length s h (f x₀) (g x₀) ∧
  ∀ x,I x → body (fun s' h' => ∃ y,I y ∧ Wk h.length s' h' (f y) (g y) ∧ μ y < μ x) (f x) (g x)

omit [Laid] in
theorem au.az {ι : List Ix} {S : aJ} {w : World} {fr : Fr} {tmps : Array Value} (h : cp ι S w fr tmps) : ∀ ms : List Nat,au ι S w (cN fr ms) (ms.map fun t=>tmps.getD t undef)
 | []=>by simp [cN]
 | t :: ms=>(bD _ _ _ _).2 ⟨h t,au.az h ms⟩
omit [Laid] in
theorem au.nx {ι : List Ix} {S : aJ} {w : World} {s : List AV} {vs : List Value} (h : au ι S w s vs) {i : Nat} {v : Value} (e : vs[i]? = some v) : Rep ι S w (Aw.nx s i) v:=by
 obtain ⟨a,e1,r⟩:=h.get' i v e
 unfold Aw.nx
 rw [List.getD_eq_getElem?_getD,e1];exact r

theorem vr {P : Program} {m : Nat} {Q : Exit → St → Prop} {c : Code} {st : St} {cs ms : List Nat} (hm : m ≤ st.h.length) (body : (List AV → aa → Prop) → List AV → aa → Prop)
 (hb : ∀ next s h,st.h.length ≤ h.length → body next s h → AW P st.h.length c (dv (fun st' => req (Nat.beq st'.n st.n) (jmp cs ms st.fr st'.fr st'.h next)) Q) ⟨st.n,join cs ms st.fr s,h⟩) (hl : bO (cN st.fr ms) st.h body) : AW P m (.loop c) Q st:=by
 obtain ⟨α,I,f,g,μ,x₀,h₀,hw₀,round⟩:=hl
 intro base ι S a w _ hr
 have hfl : ∀ {s : List AV} {h' : aa} {x : α} {n : Nat},Wk n s h' (f x) (g x) → n ≤ (g x).length:=fun k=>k.1
 -- what stands at each round's beginning
 let Inv : α → Act → World → Prop:=fun x a' w' => I x ∧ ∃ ι' S',Evo st.h.length base ι S w ι' S' w' ∧ st.h.length ≤ (g x).length ∧ ROK base ι' S' a' w' ⟨st.n,join cs ms st.fr (f x),g x⟩ ∧ cp ι' S' w' (fH cs st.fr) a'.tmps
 have enter : ∀ {x : α} {a' : Act} {w' : World} {ι1 : List Ix} {S1 : aJ} {s : List AV} {h' : aa},Evo st.h.length base ι S w ι1 S1 w' → a'.defers = [] → a'.tmps.size = st.n → HOK base ι1 S1 w' h' → cp ι1 S1 w' (fH cs st.fr) a'.tmps → au ι1 S1 w' s (ms.map fun t=>a'.tmps.getD t undef) →
  I x → Wk st.h.length s h' (f x) (g x) → Inv x a' w':=by
  intro x a' w' ι1 S1 s h' hE hdf hsz hp hc hs hI hw
  obtain ⟨hw1,hw2,hw3⟩:=hw
  obtain ⟨ι2,S2,hE2,hs2,hp2⟩:=hw3 base ι1 S1 w' _ hs hp
  have hc2 : cp ι2 S2 w' (fH cs st.fr) a'.tmps:=by
   intro t
   have hbd : Bd st.h.length (aL (fH cs st.fr) t):=by
    rcases iz cs st.fr t with q|⟨_,q⟩
    ·rw [q];simp [Bd]
    ·rw [q];exact Rep.bd (by rw [hr.hp.len];exact Nat.le_refl _) _ _ (hr.fr t)
   exact Rep.eD hE2 _ _ hbd (hc t)
  exact ⟨hI,ι2,S2,hE.trans hE2,hw1,⟨hdf,hsz,cp.ig ms _ _ 0 hc2 fun i t e=>by rw [Nat.zero_add];exact hs2.nx (by rw [List.getElem?_map,e];rfl),hp2⟩,hc2⟩
 have entry : Inv x₀ a w:=enter (Evo.refl _ _ _ _ _) hr.df hr.sz hr.hp (hr.fr.norm cs) (au.az hr.fr ms) h₀ hw₀
 refine wp_loop_ghost Inv μ x₀ entry fun x a' w' ⟨hx,ι',S',hE,hm',hr',_⟩=>?_
 refine wp_mono (hb _ _ _ hm' (round x hx) base ι' S' a' w' hm' hr') ?_
 intro e a'' w'' k
 obtain ⟨ι'',S'',st'',h1,h2,h3,h4⟩:=k
 have out : Q e st'' → bQ m base ι S w Q e a'' w'':=fun q=>⟨ι'',S'',st'',(hE.trans h1).mono hm (Nat.le_refl _),Nat.le_trans hm h2,h3,q⟩
 cases e with
 | normal =>
   obtain ⟨hn,q⟩:=aU h4
   obtain ⟨e1,y,hy,hw,hlt⟩:=jv q
   have hn : st''.n = st.n:=Nat.eq_of_beq_eq_true hn
   exact ⟨y,enter (hE.trans h1) h3.df (by rw [← hn];exact h3.sz) h3.hp (h3.fr.fm e1) (au.az h3.fr ms) hy hw,hlt⟩
 | exit id=>exact out h4
 | goto l=>exact out h4
 | ret=>exact out h4
 | panic ch=>exact out h4
 | outgrown=>exact out h4

/-! ### Code -/
inductive Fk where
 | nil
 | one (i k : Nat) (own : Bool) (t : Fk)
 | two (a b : Fk)
inductive An where
 | nil
 | seq (a b : An)
 | join (cs ms : List Nat) (a b : An)
 | two (a b : An)
 | one (a : An)
 | loop (cs ms : List Nat) (a : An)
 | b8 (l : List Seg)
 | draw (t : Nat) (l r q : List Seg)
 | Bz (t : Nat) (A : List Nat) (l : List (Nat × Bool)) (r q : List Seg)
 | HZ (l : List (Nat × Nat × Bool))
 | MC (t : Fk)
def An.l : An → An|.seq a _=>a|.join _ _ a _=>a|.two a _=>a|.one a=>a|.loop _ _ a=>a|_=>.nil
def An.r : An → An|.seq _ b=>b|.join _ _ _ b=>b|.two _ b=>b|_=>.nil
def An.s : An → List Seg|.b8 l=>l|_=>[]
def An.j : An → Option (List Nat × List Nat)|.join c m _ _=>some (c,m)|.loop c m _=>some (c,m)|_=>none
def plain (n : Nat) : List Seg:=(List.range n).map fun i=>.op i false
def An.sg (t : An) (n : Nat) : List Seg:=match t with|.b8 l=>l|_=>plain n
end Go.Aw

