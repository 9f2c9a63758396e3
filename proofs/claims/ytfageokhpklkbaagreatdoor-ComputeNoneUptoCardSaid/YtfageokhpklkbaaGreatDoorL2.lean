/-
  From a function's body to what a call of it comes to. What stands behind a call or a round is told anew: memory that is written no more as values,slices that grow no more as they are. How the words of '..Ops' read at known values;calls with what is the caller's own. From a contract on abstract values to a given statement: arguments opened by their type,what is left behind a call that only writes new memory.
  No conditions.
-/
import Derived.Test.YtfageokhpklkbaaGreatDoorT0
import Derived.ProofKit
import Derived.OpenShut
import Derived.OpenVars
set_option linter.unusedVariables false
set_option linter.unusedSimpArgs false
section
namespace Go.Aw
open Go Go.RowKit
variable [Laid]

def ivc (P : Program) : Code → An → (Exit → St → Prop) → St → Prop
 | .skip,_,Q,st=>Q .normal st
 | .ret,_,Q,st=>Q .ret st
 | .exit id,_,Q,st=>Q (.exit id) st
 | .label _,_,Q,st=>Q .normal st
 | .goto l,_,Q,st=>Q (.goto l) st
 | .seq a b,t,Q,st=>(match t with
   | .join cs ms _ _=>aQ (fun J=>ivc P a t.l (dv (fun st' => req (Nat.beq st'.n st.n) (jmp cs ms st.fr st'.fr st'.h J)) Q) st) fun s h=>ivc P b t.r Q ⟨st.n,join cs ms st.fr s,h⟩
   | _=>ivc P a t.l (dv (fun st=>ivc P b t.r Q st) Q) st)
 | .block id c,t,Q,st=>ivc P c t.l (od id Q) st
 | .cond c a b,t,Q,st=>(match c with
   | .tmp x=>ao (aL st.fr x) (ivc P a t.l Q ⟨st.n,bK st.fr x (.v (.bool true)),st.h⟩) (ivc P b t.r Q ⟨st.n,bK st.fr x (.v (.bool false)),st.h⟩)
   | c=>ao (ae st.fr c) (ivc P a t.l Q st) (ivc P b t.r Q st))
 | .region _ ops draw,t,Q,st=>(match draw with
   | false=>req (sP ops (t.sg ops.size)) (gp P ops (t.sg ops.size) st (Q .normal))
   | true=>(match t with
     | .draw k l r q=>Ei P ops k l r q Q st
     | .Bz k A l r q=>yO P ops k A l r q Q st
     | .HZ l=>yQ P ops l Q st
     | .MC l=>yS P ops l Q st
     | _=>False))
 | .loop c,t,Q,st=>(match t with
   | .loop cs ms a=>bO (cN st.fr ms) st.h fun next s h=>ivc P c a (dv (fun st' => req (Nat.beq st'.n st.n) (jmp cs ms st.fr st'.fr st'.h next)) Q) ⟨st.n,join cs ms st.fr s,h⟩
   | _=>False)
 | _,_,_,_=>False

theorem AW.sE {P : Program} {m : Nat} {c : Code} {Q Q' : Exit → St → Prop} {st : St} (h : AW P m c Q st) (hq : ∀ e st,m ≤ st.h.length → Q e st → Q' e st) : AW P m c Q' st :=
 fun base ι S a w hm hr=>wp_mono (h base ι S a w hm hr) fun _ _ _ ⟨ι',S',st',h1,h2,h3,h4⟩=>⟨ι',S',st',h1,h2,h3,hq _ _ h2 h4⟩

theorem eC {P : Program} : ∀ (c : Code) (t : An) (Q : Exit → St → Prop) (st : St) (m : Nat),m ≤ st.h.length → ivc P c t Q st → AW P m c Q st
 | .skip,t,Q,st,m,_,h=>ta h
 | .ret,t,Q,st,m,_,h=>vt h
 | .exit id,t,Q,st,m,_,h=>sZ h
 | .label l,t,Q,st,m,_,h=>p7 h
 | .goto l,t,Q,st,m,_,h=>yz h
 | .seq a b,t,Q,st,m,hm,h=>by
   simp only [ivc] at h
   split at h
   ·rename_i cs ms a' b'
    refine mz (AW.sE (eC a _ _ st m hm h) fun e st' hm' k=>?_)
    cases e with
    | normal =>
      obtain ⟨hn,q⟩:=aU k
      obtain ⟨e1,k⟩:=jv q
      have hn : st'.n = st.n:=Nat.eq_of_beq_eq_true hn
      intro base ι S ac w _ hr
      exact eC b _ Q ⟨st.n,join cs ms st.fr (cN st'.fr ms),st'.h⟩ m hm' k base ι S ac w hm' ⟨hr.df,by rw [← hn];exact hr.sz,hr.fr.join e1,hr.hp⟩
    | _=>exact k
   ·refine mz (AW.sE (eC a _ _ st m hm h) fun e st' hm' k=>?_)
    cases e with
    | normal=>exact eC b _ Q _ m hm' k
    | _=>exact k
 | .block id c,t,Q,st,m,hm,h=>p6 (eC c t.l _ st m hm h)
 | .cond c a b,t,Q,st,m,hm,h=>by
   intro base ι S ac w hm' hr
   simp only [ivc] at h
   have other : ∀ {x : AV},Rep ι S w x (ac.eval c) → ao x (ivc P a t.l Q st) (ivc P b t.r Q st) → (Code.cond c a b).wp P (bQ m base ι S w Q) ac w:=by
    rintro x rx ⟨b',rfl,h1,h2⟩
    rw [bL] at rx
    cases b' with
    | true=>exact wp_cond_true rx (eC a t.l Q st m hm (h1 rfl) base ι S ac w hm hr)
    | false=>exact wp_cond_false rx (eC b t.r Q st m hm (h2 rfl) base ι S ac w hm hr)
   split at h
   ·rename_i x
    have rv:=hr.get x
    obtain ⟨b',e,h1,h2⟩:=h
    rw [e] at rv
    have he : ac.eval (.tmp x) = .bool b':=by rw [bL] at rv;exact rv
    cases b' with
    | true=>exact wp_cond_true he (eC a t.l Q ⟨st.n,bK st.fr x (.v (.bool true)),st.h⟩ m hm (h1 rfl) base ι S ac w hm ⟨hr.df,hr.sz,cp.say hr.fr rv,hr.hp⟩)
    | false=>exact wp_cond_false he (eC b t.r Q ⟨st.n,bK st.fr x (.v (.bool false)),st.h⟩ m hm (h2 rfl) base ι S ac w hm ⟨hr.df,hr.sz,cp.say hr.fr rv,hr.hp⟩)
   ·exact other (hr.eval _) h
 | .region id ops draw,t,Q,st,m,hm,h=>by
   cases draw with
   | false =>
     obtain ⟨hok,h⟩:=aU h
     simp only [sP,Bool.and_eq_true,beq_iff_eq] at hok
     intro base ι S a w _ hr
     have:=jl (m:=m) (Q:=Q) _ base ι S a w st hok.1 hm hr h
     rw [hok.2,sU] at this
     exact wp_region this
   | true =>
     simp only [ivc] at h
     split at h
     ·exact DF hm h
     ·exact yp hm h
     ·exact yq hm h
     ·exact yr hm h
     ·exact h.elim
 | .loop c,t,Q,st,m,hm,h=>by
   simp only [ivc] at h
   split at h
   ·rename_i cs ms a
    exact vr (cs:=cs) (ms:=ms) hm _ (fun next s h' hl k=>eC c a _ _ st.h.length hl k) h
   ·exact h.elim
 | .rangeFunc _ _ _ _,t,Q,st,m,hm,h=>h.elim
 | .scope _,t,Q,st,m,hm,h=>h.elim
 | .refuse _,t,Q,st,m,hm,h=>h.elim

def lB (P : Program) (st : St) : List ResultVar → (List AV → Prop) → Prop
 | [],K=>K []
 | .tmp t :: r,K=>lB P st r fun l=>K (ae st.fr (.tmp t) :: l)
 | .cell a t :: r,K=>req (tOk P t) (ab (cW P t) (P.cellsOf t) (ae st.fr (.tmp a)) st.h fun v=>lB P st r fun l=>K (v :: l))

def fO : List AV → AV
 | [x]=>x
 | l=>.tup l

def re (P : Program) (rs : List ResultVar) (K : AV → aa → Prop) : Exit → St → Prop
 | .normal,st=>lB P st rs fun l=>K (fO l) st.h
 | .ret,st=>lB P st rs fun l=>K (fO l) st.h
 | _,_=>False

theorem Fo {P : Program} {base : Nat} {ι : List Ix} {S : aJ} {a : Act} {w : World} {st : St} {t : TypeId} {x : Operand} {K : AV → Prop} (hr : ROK base ι S a w st) (hk : tOk P t = true) (h : ab (cW P t) (P.cellsOf t) (ae st.fr x) st.h K) :
 ∃ ad v u,a.eval x = .pointer (some ad) ∧ (loadVar t ad).run P w = .ok u w ∧ Rep ι S w v u ∧ K v:=by
 have hx:=hr.eval x
 unfold ab at h
 split at h
 ·rename_i cs e
  rw [e,Rep] at hx
  obtain ⟨b,off,ev,r⟩:=hx
  obtain ⟨vs,rv,hc⟩:=r.az
  obtain ⟨v,u,hrun,rv,k⟩:=jk (P:=P) hk rv hc h
  exact ⟨_,v,u,ev,hrun,rv,k⟩
 ·rename_i id off e
  rw [e,Rep] at hx
  obtain ⟨b,c1,ev⟩:=hx
  split at h
  ·rename_i blk eb
   obtain ⟨b',arr,fz,k1,k2,k3,k4,k5,k6,k7,k8,k9⟩:=hr.hp.live id blk eb
   rw [c1] at k1;cases k1
   have hcells : au ι S w blk.cells (arr.toList.take blk.cells.length):=by
    refine au.mk (by simp;omega) fun i c v e1 e2=>?_
    obtain ⟨v',e3,r⟩:=k6 i c e1
    rw [List.getElem?_take] at e2
    split at e2
    ·simp only [Array.getElem?_toList] at e2
     rw [e3] at e2;cases e2;exact r
    ·cases e2
   obtain ⟨v,u,hrun,rv,k⟩:=jk (P:=P) (b:=b) (off:=off) hk (hcells.drop off) (by
    intro i v e1
    rw [fx k3]
    rw [List.getElem?_drop,List.getElem?_take] at e1
    split at e1
    ·simpa using e1
    ·cases e1) h
   exact ⟨_,v,u,ev,hrun,rv,k⟩
  ·exact h.elim
 ·exact h.elim

def oY (a : Act) : ResultVar → Sem Value
 | .tmp t=>pure (a.tmps.getD t undef)
 | .cell x t=>do loadVar t (← asAddr (a.tmps.getD x undef))
omit [Laid] in
theorem nA (fn : Func) (a : Act) : results fn a.tmps = (do
 let vs ← fn.results.mapM (oY a)
 pure (if h : vs.size = 1 then vs[0] else .tuple vs)):=by
 unfold results
 congr 1

theorem iu {P : Program} {base : Nat} {ι : List Ix} {S : aJ} {a : Act} {w : World} {st : St} (hr : ROK base ι S a w st) : ∀ (rs : List ResultVar) (K : List AV → Prop),lB P st rs K →
 ∃ l vs,(rs.mapM (m:=Sem) (oY a)).run P w = .ok vs w ∧ au ι S w l vs ∧ K l
 | [],K,h=>⟨[],[],rfl,by simp,h⟩
 | .tmp t :: r,K,h=>by
   obtain ⟨l,vs,e,rl,k⟩:=iu hr r _ h
   refine ⟨_,a.eval (.tmp t) :: vs, ?_,by simpa using ⟨hr.eval (.tmp t),rl⟩,k⟩
   have e0 : (oY a (.tmp t)).run P w = .ok (a.eval (.tmp t)) w:=rfl
   simp only [List.mapM_cons,Sem.run_bind,Sem.run_pure,Result.andThen_ok,e,e0]
 | .cell x t :: r,K,h=>by
   obtain ⟨hk,h⟩:=aU h
   obtain ⟨ad,v,u,e1,e2,rv,h⟩:=Fo (P:=P) hr hk h
   obtain ⟨l,vs,e,rl,k⟩:=iu hr r _ h
   refine ⟨v :: l,u :: vs, ?_,by simpa using ⟨rv,rl⟩,k⟩
   have e1' : a.tmps.getD x undef = .pointer (some ad):=e1
   have e0 : (oY a (.cell x t)).run P w = .ok u w:=by simp only [oY,Sem.run_bind,e1',asAddr,Sem.run_pure,Result.andThen_ok,e2]
   simp only [List.mapM_cons,Sem.run_bind,Sem.run_pure,Result.andThen_ok,e0,e]

def gP : List AV → Nat → Fr
 | [],_=>[]
 | a :: r,i=>(i,a) :: gP r (i + 1)

omit [Laid] in
theorem tg {ι : List Ix} {S : aJ} {w : World} {args : List AV} {vs : List Value} (h1 : au ι S w args vs) (k : Nat) : cp ι S w (gP args 0) (vs.toArray ++ Array.replicate k undef):=by
 have key : ∀ (as : List AV) (us : List Value) (k : Nat),au ι S w as us → ∀ t,aL (gP as k) t = .any ∨ ∃ u,us[t - k]? = some u ∧ k ≤ t ∧ Rep ι S w (aL (gP as k) t) u:=by
  intro as
  induction as with
  | nil=>intro us k _ t;exact .inl rfl
  | cons a as ih =>
    intro us k h t
    cases us with
    | nil=>simp at h
    | cons u us =>
      simp only [bD] at h
      simp only [gP,aL]
      split
      ·rename_i e
       subst e
       exact .inr ⟨u,by simp,Nat.le_refl _,h.1⟩
      ·rename_i e
       rcases ih us (k + 1) h.2 t with q|⟨v,q1,q2,q3⟩
       ·exact .inl q
       ·exact .inr ⟨v,by rw [show t - k = t - (k + 1) + 1 by omega];simpa using q1,by omega,q3⟩
 intro t
 rcases key args vs 0 h1 t with q|⟨u,q1,_,q3⟩
 ·rw [q];simp
 ·have hlt : t < vs.length:=by
   have:=(List.getElem?_eq_some_iff.1 q1).1
   simpa using this
  have : (vs.toArray ++ Array.replicate k undef).getD t undef = u:=by
   rw [Array.getD_eq_getD_getElem?,Array.getElem?_append_left (by simpa using hlt)]
   simp only [Nat.sub_zero] at q1
   simp [q1]
  rw [this];exact q3

def kJ (P : Program) (f : FuncId) (c : Code) (n : Nat) (rs : List ResultVar) : Prop :=
 ∃ fn,P.funcs[f]? = some fn ∧ fn.body = some c ∧ fn.results.toList = rs ∧ fn.ntmps = n ∧ cq P f = true
omit [Laid] in
theorem kJ.hb {P : Program} {f : FuncId} {c : Code} {n : Nat} {rs : List ResultVar} (F : kJ P f c n rs) : cq P f = true:=let ⟨_,_,_,_,_,h⟩:=F;h

theorem kJ.gg {P : Program} {f : FuncId} {c : Code} {n : Nat} {rs : List ResultVar} (F : kJ P f c n rs) (t : An) {args : List AV} {h : aa} {K : AV → aa → Prop} (hl : args.length ≤ n)
 (q : ivc P c t (re P rs fun r h' => ∃ r' h'',Wk h.length [r] h' [r'] h'' ∧ K r' h'') ⟨n,gP args 0,h⟩) : ct P f args h K:=by
 obtain ⟨fn,hf,hb,hrs,hn,_⟩:=F
 subst hrs
 intro base ι S w vs h1 h2
 have hlen:=h1.length
 refine calls_of_wp hf hb (wp_mono (eC _ _ _ _ h.length (Nat.le_refl _) q base ι S _ w (Nat.le_refl _) ⟨rfl,by simp [hn];omega,tg h1 _,h2⟩) ?_)
 rintro e a' w' ⟨ι',S',st',hE,hm,hr,hq⟩
 have fin : lB P st' fn.results.toList (fun l=>∃ r' h'',Wk h.length [fO l] st'.h [r'] h'' ∧ K r' h'') → a'.defers = [] ∧ ∃ v,(results fn a'.tmps).run P w' = .ok v w' ∧
  ∃ u ι'' S'' r h',Ending.returned v = .returned u ∧ Evo h.length base ι S w ι'' S'' w' ∧ Rep ι'' S'' w' r u ∧ HOK base ι'' S'' w' h' ∧ h.length ≤ h'.length ∧ K r h':=by
  intro hq
  obtain ⟨l,us,e1,rl,r',h'',⟨wk1,wk2,wk3⟩,k⟩:=iu (P:=P) hr fn.results.toList _ hq
  have hv : Rep ι' S' w' (fO l) (if hh : us.length = 1 then us[0] else .tuple us.toArray):=by
   have hl:=rl.length
   match l,us,hl,rl with
   | [],[],_,_=>simp only [fO];rw [Rep];exact ⟨[],rfl,by simp⟩
   | [x],[u],_,rl=>simp at rl;simpa [fO] using rl
   | x :: y :: l,u :: v :: us,_,rl=>simp only [fO];rw [Rep];exact ⟨u :: v :: us,by simp,rl⟩
  obtain ⟨ι2,S2,hE2,hs2,hp2⟩:=wk3 base ι' S' w' [_] ((bD _ _ _ _).2 ⟨hv,by simp⟩) hr.hp
  refine ⟨hr.df,if hh : us.length = 1 then us[0] else .tuple us.toArray, ?_,_,ι2,S2,r',h'',rfl,hE.trans hE2,((bD _ _ _ _).1 hs2).1,hp2,wk1,k⟩
  rw [nA,← Array.toArray_toList (xs:=fn.results),List.mapM_toArray]
  simp only [Sem.run_bind,Sem.run_map,e1,Result.andThen_ok,Sem.run_pure]
  by_cases hh : us.length = 1 <;> simp [hh]
 cases e with
 | normal=>exact fin hq
 | ret=>exact fin hq
 | _=>exact hq.elim

theorem aI {P : Program} {f : FuncId} {args : List AV} {r : AV} {h : aa} {K : AV → aa → Prop} (hb : cq P f = true) (c : Con P f args r) (k : K r h) : aH P (.fn (.func f) [] []) args h K :=
 ⟨hb,by simpa using c.call k⟩
def Body (P : Program) (f : FuncId) (args : List AV) (W : aa → (AV → aa → Prop) → Prop) : Prop :=
 ∃ c t n rs,kJ P f c n rs ∧ args.length ≤ n ∧ ∀ h K,ivc P c t (re P rs K) ⟨n,gP args 0,h⟩ = W h K
theorem Body.gg {P : Program} {f : FuncId} {args : List AV} {W : aa → (AV → aa → Prop) → Prop} (b : Body P f args W) {h : aa} {K : AV → aa → Prop} (q : W h fun r h' => ∃ r' h'',Wk h.length [r] h' [r'] h'' ∧ K r' h'') : ct P f args h K :=
 let ⟨_,t,_,_,F,hl,e⟩:=b;F.gg t hl ((e h _).symm ▸ q)
abbrev u8 (n : Int) : AV:=.v (.int .u8 n)
abbrev tt : AV:=.v (.bool true)
abbrev ff : AV:=.v (.bool false)
abbrev un : AV:=.v undef
end Go.Aw
end

section
namespace Go.Aw
open Go Go.RowKit

/-! ### Less is said -/
mutual
def Le : AV → AV → Prop
 | _,.any=>True
 | .agg xs,.agg ys=>LeL xs ys
 | .tup xs,.tup ys=>LeL xs ys
 | .emp,.sl _ rows=>rows = []
 | .sb _ s r,.sl s' r' => s = s' ∧ r = r'
 | a,b=>a = b
def LeL : List AV → List AV → Prop
 | [],[]=>True
 | a :: as,b :: bs=>Le a b ∧ LeL as bs
 | _,_=>False
end
theorem Le.refl (a : AV) : Le a a :=
 AV.rec (motive_1:=fun a=>Le a a) (motive_2:=fun l=>LeL l l) (motive_3:=fun _=>True)
  (fun _=>rfl) (fun _=>rfl) trivial (fun _ h=>h) (fun _ h=>h) rfl (fun _ _ _=>rfl) (fun _ _ _ _=>rfl) (fun _ _=>rfl) (fun _ _ _ _=>rfl) (fun _ _=>rfl) (fun _ _ _ _ _=>rfl) (fun _ _ _=>rfl) (fun _=>rfl)
  trivial (fun _ _ h k=>⟨h,k⟩) trivial (fun _ _ _ _=>trivial) a
theorem Le.inv {a b : AV} (h : Le a b) : b = .any ∨ a = b ∨ (∃ xs ys,a = .agg xs ∧ b = .agg ys ∧ LeL xs ys) ∨ (∃ xs ys,a = .tup xs ∧ b = .tup ys ∧ LeL xs ys) ∨ (a = .emp ∧ ∃ s,b = .sl s []) ∨ ∃ id s r,a = .sb id s r ∧ b = .sl s r:=by
 unfold Le at h
 split at h
 ·exact .inl rfl
 ·exact .inr (.inr (.inl ⟨_,_,rfl,rfl,h⟩))
 ·exact .inr (.inr (.inr (.inl ⟨_,_,rfl,rfl,h⟩)))
 ·subst h;exact .inr (.inr (.inr (.inr (.inl ⟨rfl,_,rfl⟩))))
 ·obtain ⟨rfl,rfl⟩:=h;exact .inr (.inr (.inr (.inr (.inr ⟨_,_,_,rfl,rfl⟩))))
 ·exact .inr (.inl h)
theorem Rep.le {ι : List Ix} {S : aJ} {w : World} (a b : AV) (y : Value) (h : Le a b) (r : Rep ι S w a y) : Rep ι S w b y:=by
 have base : ∀ {a b : AV} {y : Value},(∀ xs ys,a = .agg xs → b = .agg ys → LeL xs ys → Rep ι S w b y) → (∀ xs ys,a = .tup xs → b = .tup ys → LeL xs ys → Rep ι S w b y) → Le a b → Rep ι S w a y → Rep ι S w b y:=by
  intro a b y h1 h2 h r
  rcases h.inv with rfl|rfl|⟨xs,ys,e1,e2,k⟩|⟨xs,ys,e1,e2,k⟩|⟨rfl,s,rfl⟩|⟨id,s,rr,rfl,rfl⟩
  ·simp
  ·exact r
  ·exact h1 xs ys e1 e2 k
  ·exact h2 xs ys e1 e2 k
  ·rw [Rep] at *
   obtain ⟨a,e⟩:=r
   exact ⟨a,0,e,Nat.le_refl _,Nat.zero_le _,.inl rfl⟩
  ·rw [Rep] at *
   exact r.1
 revert b y
 refine AV.rec (motive_1:=fun a=>∀ b y,Le a b → Rep ι S w a y → Rep ι S w b y) (motive_2:=fun as=>∀ bs vs,LeL as bs → au ι S w as vs → au ι S w bs vs) (motive_3:=fun _=>True) ?_ ?_ ?_ ?_ ?_ ?_ ?_ ?_ ?_ ?_ ?_ ?_ ?_ ?_ ?_ ?_ ?_ ?_ a
 case refine_4 =>
  intro cs ih b y h r
  refine base (fun xs ys e1 e2 k=>?_) (fun _ _ e1=>by cases e1) h r
  cases e1;subst e2
  rw [Rep] at *
  obtain ⟨vs,e,q⟩:=r
  exact ⟨vs,e,ih _ vs k q⟩
 case refine_5 =>
  intro cs ih b y h r
  refine base (fun _ _ e1=>by cases e1) (fun xs ys e1 e2 k=>?_) h r
  cases e1;subst e2
  rw [Rep] at *
  obtain ⟨vs,e,q⟩:=r
  exact ⟨vs,e,ih _ vs k q⟩
 case refine_15 =>
  intro bs vs h r
  cases bs with
  | nil=>exact r
  | cons=>simp [LeL] at h
 case refine_16 =>
  intro a as iha ihs bs vs h r
  cases bs with
  | nil=>simp [LeL] at h
  | cons b bs =>
    rw [LeL] at h
    cases vs with
    | nil=>simp at r
    | cons v vs =>
      simp only [bD] at r ⊢
      exact ⟨iha b v h.1 r.1,ihs bs vs h.2 r.2⟩
 case refine_17=>trivial
 case refine_18=>intros;trivial
 all_goals
  intros
  rename_i h r
  exact base (fun _ _ e1=>by cases e1) (fun _ _ e1=>by cases e1) h r
theorem au.le {ι : List Ix} {S : aJ} {w : World} : ∀ (as bs : List AV) (vs : List Value),LeL as bs → au ι S w as vs → au ι S w bs vs
 | [],[],vs,_,r=>r
 | [],_ :: _,_,h,_=>by simp [LeL] at h
 | _ :: _,[],_,h,_=>by simp [LeL] at h
 | a :: as,b :: bs,[],_,r=>by simp at r
 | a :: as,b :: bs,v :: vs,h,r=>by
   rw [LeL] at h
   simp only [bD] at r ⊢
   exact ⟨Rep.le a b v h.1 r.1,au.le as bs vs h.2 r.2⟩

variable [Laid]
/-! ### Told -/
section
variable (f : AV → AV) (L : Nat) (h : aa)
mutual
def tlA : AV → AV
 | .v x=>.v x
 | .str l=>.str l
 | .any=>.any
 | .emp=>.emp
 | .agg cs=>.agg (tlL cs)
 | .tup cs=>.tup (tlL cs)
 | .ip cs=>.ip (tlL cs)
 | .sl sz rows=>.sl sz (tlR rows)
 | .sb id sz rows=>if id < L then .sb id sz (tlR rows) else .sl sz (tlR rows)
 | .own id off len sz=>if id < L then .own id off len sz else match h[id]? with
   | some (.blk b)=>if off + len * sz ≤ b.cells.length then .sl sz ((chunks sz len (b.cells.drop off)).map (List.map f)) else .any
   | _=>.any
 | .op id off=>if id < L then .op id off else match h[id]? with
   | some (.blk b)=>.ip ((b.cells.drop off).map f)
   | _=>.any
 | .fn g xs ys=>.fn g (tlL xs) (tlL ys)
 | .ifc t x=>.ifc t (tlA x)
 | .mp id=>if id < L then .mp id else .any
def tlL : List AV → List AV
 | []=>[]
 | a :: as=>tlA a :: tlL as
def tlR : List (List AV) → List (List AV)
 | []=>[]
 | r :: rs=>tlL r :: tlR rs
end
end
def tl (L : Nat) (h : aa) : Nat → AV → AV
 | 0=>tlA (fun _=>.any) L h
 | d + 1=>tlA (tl L h d) L h
def tlE (L : Nat) (h : aa) : Ent → Ent
 | .blk b=>.blk { b with cells:=b.cells.map (tl L h 3) }
 | .mp c es=>.mp c (es.map fun p=>(p.1,tl L h 3 p.2.1,tl L h 3 p.2.2))
 | .it m s sn l=>if m < L then .it m s sn l else .dead
 | x=>x
def tlH (L : Nat) (h : aa) : aa:=(h.take L).map (tlE L h)

omit [Laid] in
theorem pO (f : AV → AV) (L : Nat) (h : aa) : ∀ l,tlL f L h l = l.map (tlA f L h)
 | []=>rfl
 | a :: as=>by rw [tlL,pO f L h as];rfl
omit [Laid] in
theorem uh (f : AV → AV) (L : Nat) (h : aa) : ∀ l,tlR f L h l = l.map (List.map (tlA f L h))
 | []=>rfl
 | a :: as=>by rw [tlR,uh f L h as,pO];rfl

def eV (L : Nat) (ι : List Ix) (S : aJ) (h : aa) : aJ:=fun b o=>S b o ∨ ∃ id x,L ≤ id ∧ h[id]? = some (.blk x) ∧ ι[id]? = some (.blk b) ∧ o < x.cells.length

section
variable {base : Nat} {ι : List Ix} {S : aJ} {w : World} {h : aa} {L : Nat}
theorem rf (hh : HOK base ι S w h) {f : AV → AV} (hf : ∀ v y,Rep ι S w v y → Rep (ι.take L) (eV L ι S h) w (f v) y) {id : Nat} (hid : L ≤ id) {x : Blk} (e : h[id]? = some (.blk x)) {b : Nat} (hb : ι[id]? = some (.blk b)) (off : Nat) :
 bn (ι.take L) (eV L ι S h) w ((x.cells.drop off).map f) b off:=by
 obtain ⟨b',arr,fz,h1,h2,h3,h4,h5,h6,h7,h8,h9⟩:=hh.live id x e
 rw [hb] at h1;cases h1
 refine bn.mk fun i c ec=>?_
 simp only [List.getElem?_map,Option.map_eq_some_iff,List.getElem?_drop] at ec
 obtain ⟨c0,ec0,rfl⟩:=ec
 obtain ⟨v,e1,r⟩:=h6 (off + i) c0 ec0
 exact ⟨v,by rw [fx h3];exact e1,.inr ⟨id,x,hid,e,hb,(List.getElem?_eq_some_iff.1 ec0).1⟩,hf c0 v r⟩

mutual
theorem Rep.tlA (hh : HOK base ι S w h) {f : AV → AV} (hf : ∀ v y,Rep ι S w v y → Rep (ι.take L) (eV L ι S h) w (f v) y) : ∀ (a : AV) (y : Value),Rep ι S w a y → Rep (ι.take L) (eV L ι S h) w (Aw.tlA f L h a) y
 | .v x,y,k=>by simpa [Aw.tlA] using k
 | .str x,y,k=>by simpa [Aw.tlA] using k
 | .any,y,k=>by simp [Aw.tlA]
 | .emp,y,k=>by simp only [Aw.tlA];rw [Rep] at *;exact k
 | .agg cs,y,k=>by simp only [Aw.tlA];rw [Rep] at *;obtain ⟨vs,e,k⟩:=k;exact ⟨vs,e,au.tlA hh hf cs vs k⟩
 | .tup cs,y,k=>by simp only [Aw.tlA];rw [Rep] at *;obtain ⟨vs,e,k⟩:=k;exact ⟨vs,e,au.tlA hh hf cs vs k⟩
 | .ip cs,y,k=>by simp only [Aw.tlA];rw [Rep] at *;obtain ⟨b,off,e,k⟩:=k;exact ⟨b,off,e,bn.tlA hh hf cs b off k⟩
 | .sl sz rows,y,k=>by
   simp only [Aw.tlA]
   rw [Rep] at *
   obtain ⟨a,cap,e,h1,h2,h3⟩:=k
   have hl : (tlR f L h rows).length = rows.length:=by rw [uh,List.length_map]
   refine ⟨a,cap,by rw [hl];exact e,by rw [hl];exact h1,h2, ?_⟩
   rcases h3 with rfl|⟨b,off,ea,hr⟩
   ·exact .inl rfl
   ·exact .inr ⟨b,off,ea,bA.tlA hh hf sz rows b off hr⟩
 | .sb tid sz rows,y,k=>by
   simp only [Aw.tlA]
   rw [Rep] at k
   obtain ⟨⟨a,cap,e,h1,h2,h3⟩,m,v,t1,t2,t3⟩:=k
   have hl : (tlR f L h rows).length = rows.length:=by rw [uh,List.length_map]
   have told : ∃ a cap,y = .slice a (tlR f L h rows).length cap ∧ (tlR f L h rows).length ≤ cap ∧ cap ≤ maxLen ∧ (tlR f L h rows = [] ∨ ∃ b off,a = some ⟨b,off,none⟩ ∧ bA (ι.take L) (eV L ι S h) w sz (tlR f L h rows) b off):=by
    refine ⟨a,cap,by rw [hl];exact e,by rw [hl];exact h1,h2, ?_⟩
    rcases h3 with rfl|⟨b,off,ea,hr⟩
    ·exact .inl rfl
    ·exact .inr ⟨b,off,ea,bA.tlA hh hf sz rows b off hr⟩
   split
   ·rename_i hlt
    rw [Rep]
    exact ⟨told,m,v,by rw [List.getElem?_take,if_pos hlt];exact t1,by rw [hl];exact t2,by rw [hl];exact t3⟩
   ·rw [Rep];exact told
 | .own tid off len sz,y,k=>by
   simp only [Aw.tlA]
   split
   ·rename_i hlt
    rw [Rep] at *
    obtain ⟨b,a,cap,n,ty,h1,h2⟩:=k
    exact ⟨b,a,cap,n,ty,by rw [List.getElem?_take,if_pos hlt];exact h1,h2⟩
   ·rename_i hge
    split
    ·rename_i x e
     split
     ·rename_i hfit
      rw [Rep] at *
      obtain ⟨b,a,cap,n,ty,h1,h2,h3,h4,h5,_⟩:=k
      obtain ⟨f1,f2⟩:=fM sz len (x.cells.drop off) (by simp;omega)
      have hcl:=fC sz len (x.cells.drop off)
      refine ⟨a,cap,by rw [List.length_map,hcl];exact h2,by rw [List.length_map,hcl];exact h3,h4, ?_⟩
      rcases h5 with h5|h5
      ·left
       have : len = 0:=by omega
       subst this;simp [chunks]
      ·right
       refine ⟨b,off,h5,bA.of_flat (fun r hr=>?_) ?_⟩
       ·obtain ⟨r0,hr0,rfl⟩:=List.mem_map.1 hr
        rw [List.length_map];exact f2 r0 hr0
       ·rw [← List.map_flatten,f1]
        have:=rf hh hf (Nat.le_of_not_lt hge) e h1 off
        refine bn.mk fun i c ec=>this.get i c ?_
        rw [List.getElem?_map,List.getElem?_take] at ec
        rw [List.getElem?_map]
        split at ec
        ·exact ec
        ·cases ec
     ·simp
    ·simp
 | .op tid off,y,k=>by
   simp only [Aw.tlA]
   split
   ·rename_i hlt
    rw [Rep] at *
    obtain ⟨b,h1,h2⟩:=k
    exact ⟨b,by rw [List.getElem?_take,if_pos hlt];exact h1,h2⟩
   ·rename_i hge
    split
    ·rename_i x e
     rw [Rep] at *
     obtain ⟨b,h1,h2⟩:=k
     exact ⟨b,off,h2,rf hh hf (Nat.le_of_not_lt hge) e h1 off⟩
    ·simp
 | .fn g xs ys,y,k=>by simp only [Aw.tlA];rw [Rep] at *;obtain ⟨vs,us,e,k1,k2⟩:=k;exact ⟨vs,us,e,au.tlA hh hf xs vs k1,au.tlA hh hf ys us k2⟩
 | .ifc t x,y,k=>by simp only [Aw.tlA];rw [Rep] at *;obtain ⟨v,e,k⟩:=k;exact ⟨v,e,Rep.tlA hh hf x v k⟩
 | .mp tid,y,k=>by
   simp only [Aw.tlA]
   split
   ·rename_i hlt
    rw [Rep] at *
    obtain ⟨b,h1,h2⟩:=k
    exact ⟨b,by rw [List.getElem?_take,if_pos hlt];exact h1,h2⟩
   ·simp
theorem au.tlA (hh : HOK base ι S w h) {f : AV → AV} (hf : ∀ v y,Rep ι S w v y → Rep (ι.take L) (eV L ι S h) w (f v) y) : ∀ (as : List AV) (vs : List Value),au ι S w as vs → au (ι.take L) (eV L ι S h) w (tlL f L h as) vs
 | [],vs,k=>by simpa [tlL] using k
 | a :: as,[],k=>by simp at k
 | a :: as,v :: vs,k=>by
   rw [tlL]
   simp only [bD] at k ⊢
   exact ⟨Rep.tlA hh hf a v k.1,au.tlA hh hf as vs k.2⟩
theorem bn.tlA (hh : HOK base ι S w h) {f : AV → AV} (hf : ∀ v y,Rep ι S w v y → Rep (ι.take L) (eV L ι S h) w (f v) y) : ∀ (cs : List AV) (b off : Nat),bn ι S w cs b off → bn (ι.take L) (eV L ι S h) w (tlL f L h cs) b off
 | [],b,off,k=>by simp [tlL,bn]
 | c :: cs,b,off,k=>by
   rw [tlL]
   rw [bn] at *
   obtain ⟨⟨u,h1,h2,h3⟩,k2⟩:=k
   exact ⟨⟨u,h1,.inl h2,Rep.tlA hh hf c u h3⟩,bn.tlA hh hf cs b (off + 1) k2⟩
theorem bA.tlA (hh : HOK base ι S w h) {f : AV → AV} (hf : ∀ v y,Rep ι S w v y → Rep (ι.take L) (eV L ι S h) w (f v) y) (sz : Nat) : ∀ (rows : List (List AV)) (b off : Nat),bA ι S w sz rows b off → bA (ι.take L) (eV L ι S h) w sz (tlR f L h rows) b off
 | [],b,off,k=>by simp [tlR,bA]
 | r :: rs,b,off,k=>by
   rw [tlR]
   rw [bA] at *
   exact ⟨by rw [pO,List.length_map];exact k.1,bn.tlA hh hf r b off k.2.1,bA.tlA hh hf sz rs b (off + sz) k.2.2⟩
end

theorem Rep.tl (hh : HOK base ι S w h) : ∀ (d : Nat) (v : AV) (y : Value),Rep ι S w v y → Rep (ι.take L) (eV L ι S h) w (Aw.tl L h d v) y
 | 0,v,y,k=>Rep.tlA hh (fun _ _ _=>by simp) v y k
 | d + 1,v,y,k=>Rep.tlA hh (Rep.tl hh d) v y k

theorem HOK.told (hh : HOK base ι S w h) (hL : L ≤ h.length) : Evo L base ι S w (ι.take L) (eV L ι S h) w ∧ HOK base (ι.take L) (eV L ι S h) w (tlH L h):=by
 have pre : ∀ {i : Nat},i < L → (ι.take L)[i]? = ι[i]?:=fun q=>by rw [List.getElem?_take,if_pos q]
 have ent : ∀ {i : Nat} {x : Ent},(tlH L h)[i]? = some x → i < L ∧ ∃ y,h[i]? = some y ∧ x = tlE L h y:=by
  intro i x e
  simp only [tlH,List.getElem?_map,Option.map_eq_some_iff,List.getElem?_take] at e
  obtain ⟨y,e1,rfl⟩:=e
  split at e1
  ·rename_i q;exact ⟨q,y,e1,rfl⟩
  ·cases e1
 have alv : ∀ {i : Nat},alive (tlH L h)[i]? → i < L ∧ alive h[i]?:=by
  intro i ha
  cases e : (tlH L h)[i]? with
  | none=>rw [e] at ha;exact ha.elim
  | some x =>
    obtain ⟨q,y,e1,rfl⟩:=ent e
    refine ⟨q, ?_⟩
    rw [e] at ha
    rw [e1]
    cases y <;> first|exact trivial|exact ha
 have newS : ∀ {b o : Nat},eV L ι S h b o → S b o ∨ (∃ id,L ≤ id ∧ alive h[id]? ∧ ixB ι[id]? b):=by
  rintro b o (q|⟨id,x,h1,h2,h3,_⟩)
  ·exact .inl q
  ·exact .inr ⟨id,h1,by rw [h2];exact trivial,by rw [h3];rfl⟩
 have old : ∀ {i b o : Nat},i < L → alive h[i]? → ixB ι[i]? b → eV L ι S h b o → S b o:=by
  intro i b o hi ha hb hs
  rcases newS hs with q|⟨id,h1,h2,h3⟩
  ·exact q
  ·have:=hh.inj i id b ha h2 hb h3
   omega
 have hE : Evo L base ι S w (ι.take L) (eV L ι S h) w :=
  ⟨fun i hi=>dM.of_eq (pre hi),fun _ _ q=>.inl q,fun b o q=>(newS q).imp (fun z=>z) fun ⟨id,_,h2,h3⟩=>(hh.tB h2 h3).1,fun _ _ _=>rfl,fun _ _ q=>q,Below.refl _ _⟩
 refine ⟨hE,⟨by simp [tlH,hh.len],fun id x e=>?_,fun id t sz n e=>?_,fun id en e=>?_,fun i j b ai aj hi hj=>?_,fun b o q=>?_,hh.bas,hh.gl.evo hE⟩⟩
 rotate_left 2
 ·obtain ⟨q,y,e1,rfl⟩:=ent e
  have ho:=hh.oth id y e1
  cases y with
  | blk y=>trivial
  | tok=>trivial
  | dead=>trivial
  | mp c es =>
    obtain ⟨b,arr,h1,h2,h3,h4,h5⟩:=ho
    exact ⟨b,arr,(pre q).trans h1,h2,h3,fun o ho=>h4 o (old q (by rw [e1];exact trivial) (by rw [h1];rfl) ho),h5.imp fun a y k=>Rep.tl hh 3 a y k⟩
  | it m s sn l =>
    obtain ⟨b,bm,h1,h2,h3,h4,h5⟩:=ho
    simp only [tlE]
    split
    ·rename_i hm
     exact ⟨b,bm,(pre q).trans h1,h2,h3,fun o ho=>h4 o (old q (by rw [e1];exact trivial) (by rw [h1];rfl) ho),(pre hm).trans h5⟩
    ·trivial
 rotate_left 2
 ·obtain ⟨q,y,e1,e2⟩:=ent e
  cases y with
  | tok=>cases e2
  | dead=>cases e2
  | mp=>cases e2
  | it m s sn l=>simp only [tlE] at e2;split at e2 <;> cases e2
  | blk y =>
    cases e2
    obtain ⟨b,arr,fz,h1,h2,h3,h4,h5,h6,h7,h8,h9⟩:=hh.live id y e1
    have hS : ∀ o,eV L ι S h b o → S b o:=fun o=>old q (by rw [e1];exact trivial) (by rw [h1];rfl)
    refine ⟨b,arr,fz,(pre q).trans h1,h2,h3,h4,by simpa using h5,fun i c ec=>?_,fun hw o ho=>h7 hw o (hS o ho),fun o ho=>by simpa using h8 o (hS o ho),fun hw o ho=>.inl (h9 hw o (by simpa using ho))⟩
    simp only [List.getElem?_map,Option.map_eq_some_iff] at ec
    obtain ⟨c0,ec0,rfl⟩:=ec
    obtain ⟨v,e3,r⟩:=h6 i c0 ec0
    exact ⟨v,e3,Rep.tl hh 3 c0 v r⟩
 ·obtain ⟨q,y,e1,e2⟩:=ent e
  cases y with
  | blk=>cases e2
  | dead=>cases e2
  | mp=>cases e2
  | it m s sn l=>simp only [tlE] at e2;split at e2 <;> cases e2
  | tok =>
    cases e2
    obtain ⟨v,h1,h2⟩:=hh.tok id _ _ _ e1
    exact ⟨v,(pre q).trans h1,h2.fm fun b hb _ _=>⟨rfl,fun o=>old q (by rw [e1];exact trivial) (by rw [h1];exact hb)⟩⟩
 ·obtain ⟨q1,a1⟩:=alv ai
  obtain ⟨q2,a2⟩:=alv aj
  rw [pre q1] at hi
  rw [pre q2] at hj
  exact hh.inj i j b a1 a2 hi hj
 ·rcases newS q with z|⟨id,_,h2,h3⟩
  ·exact hh.stb b o z
  ·exact (hh.tB h2 h3).2
end

/-! ### From one state to one that says less -/
theorem Wk.refl (n : Nat) (s : List AV) (h : aa) (hn : n ≤ h.length) : Wk n s h s h:=⟨hn,rfl,fun _ ι S _ _ r k=>⟨ι,S,Evo.refl _ _ _ _ _,r,k⟩⟩
theorem Wk.trans {n : Nat} {s s' s'' : List AV} {h h' h'' : aa} (a : Wk n s h s' h') (b : Wk n s' h' s'' h'') : Wk n s h s'' h'' :=
 ⟨b.1,b.2.1.trans a.2.1,fun base ι S w vs r k =>
  let ⟨ι',S',e1,r1,k1⟩:=a.2.2 base ι S w vs r k
  let ⟨ι'',S'',e2,r2,k2⟩:=b.2.2 base ι' S' w vs r1 k1
  ⟨ι'',S'',e1.trans e2,r2,k2⟩⟩
omit [Laid] in
theorem LeL.len : ∀ {as bs : List AV},LeL as bs → bs.length = as.length
 | [],[],_=>rfl
 | [],_ :: _,h=>by simp [LeL] at h
 | _ :: _,[],h=>by simp [LeL] at h
 | _ :: _,_ :: _,h=>by rw [LeL] at h;simp [h.2.len]
theorem Wk.le {n : Nat} {s s' : List AV} {h : aa} (hn : n ≤ h.length) (hs : LeL s s') : Wk n s h s' h :=
 ⟨hn,hs.len,fun _ ι S _ vs r k=>⟨ι,S,Evo.refl _ _ _ _ _,au.le s s' vs hs r,k⟩⟩
theorem Wk.tell {n : Nat} {s : List AV} {h : aa} (hn : n ≤ h.length) : Wk n s h (s.map (tl n h 3)) (tlH n h) :=
 ⟨by simp [tlH];omega,by simp,fun base ι S w vs r k=>by
  obtain ⟨e,k'⟩:=k.told hn
  refine ⟨_,_,e, ?_,k'⟩
  have:=au.tlA (L:=n) (f:=tl n h 2) k (Rep.tl k 2) s vs r
  rwa [pO] at this⟩
theorem Wk.end {n : Nat} {s s' : List AV} {h h' : aa} (hn : n ≤ h.length) (hs : LeL (s.map (tl n h 3)) s') (hh : tlH n h = h') : Wk n s h s' h':=by
 subst hh
 exact (Wk.tell hn).trans (Wk.le (by simp [tlH];omega) hs)
theorem Wk.tok {n : Nat} {s : List AV} {h : aa} (hn : n ≤ h.length) (i e sz : Nat) (hi : s[i]? = some .emp) : Wk n s h (s.set i (.sb h.length sz [])) (h ++ [.tok e sz 0]):=by
 refine ⟨by simp;omega,by simp,fun base ι S w vs r k=>?_⟩
 obtain ⟨v,hv,rv⟩:=r.get i _ hi
 rw [Rep] at rv
 obtain ⟨a,rfl⟩:=rv
 have hb:=k.begin (e:=e) (sz:=sz) (a:=a)
 have hE : Evo ι.length base ι S w (ι ++ [.tok 0 (.slice a 0 0)]) S w:=Evo.grow _
 have r2:=(au.evo hE (Nat.le_refl _) s vs r).set i (.sb h.length sz []) (.slice a 0 0) (by rw [← k.len];exact Rep.begin ι S w sz a)
 have : vs.set i (.slice a 0 0) = vs:=by
  refine List.ext_getElem? fun j=>?_
  by_cases q : j = i
  ·subst q;rw [List.getElem?_set_self (List.getElem?_eq_some_iff.1 hv).1,hv]
  ·rw [List.getElem?_set_ne (Ne.symm q)]
 rw [this] at r2
 exact ⟨_,S,hE.mono (by rw [k.len];exact hn) (Nat.le_refl _),r2,hb⟩

def Ret (r : AV) (r' : AV) (h' : aa) : Prop:=Le (tl 0 h' 3 r') r
theorem Ret.wk {r r' : AV} {h' : aa} (q : Ret r r' h') : ∃ r'' h'',Wk ([] : aa).length [r'] h' [r''] h'' ∧ r'' = r :=
 ⟨r,_,Wk.end (Nat.zero_le _) (by simp only [List.map_cons,List.map_nil,LeL];exact ⟨q,trivial⟩) rfl,rfl⟩
theorem Body.con {P : Program} {f : FuncId} {args : List AV} {W : aa → (AV → aa → Prop) → Prop} (b : Body P f args W) {r : AV} (pa : bM args) (pr : Pure r) (q : W [] fun r' h' => ∃ r'' h'',Wk ([] : aa).length [r'] h' [r''] h'' ∧ r'' = r) : Con P f args r :=
 ⟨pa,pr,b.gg q⟩
end Go.Aw
end

section
namespace Go.Aw
open Go Go.RowKit
variable [Laid]

omit [Laid] in
@[simp] theorem iPick_b (t : Bool) (a b : AV) (K : AV → Prop) : a8 (.v (.bool t)) a b K ↔ (t = true → K a) ∧ (t = false → K b):=by simp [a8]
omit [Laid] in
@[simp] theorem iCond_b (t : Bool) (A B : Prop) : ao (.v (.bool t)) A B ↔ (t = true → A) ∧ (t = false → B):=by simp [ao]
omit [Laid] in
@[simp] theorem iGuard_b (t w : Bool) (A B : Prop) : aK (.v (.bool t)) w A B ↔ (t = w → A) ∧ (t = (!w) → B):=by
 simp [aK,undef]
omit [Laid] in
@[simp] theorem iGuard_u (w : Bool) (A B : Prop) : aK (.v undef) w A B ↔ B:=by simp [aK,undef]
omit [Laid] in
@[simp] theorem negA_b (w t : Bool) : bu w (.v (.bool t)) = .v (.bool (!w)):=rfl
omit [Laid] in
@[simp] theorem negA_u (w : Bool) : bu w (.v undef) = .v undef:=rfl
omit [Laid] in
@[simp] theorem iNot_b (t : Bool) (K : AV → Prop) : dT (.v (.bool t)) K ↔ K (.v (.bool (!t))):=by simp [dT]
omit [Laid] in
@[simp] theorem iNeg_i (k : IntKind) (n : Int) (K : AV → Prop) : oK (.v (.int k n)) K ↔ iWr k (0 - n) K:=by
 constructor
 ·rintro ⟨k',n',e,h⟩;cases e;exact h
 ·intro h;exact ⟨k,n,rfl,h⟩
omit [Laid] in
@[simp] theorem iConv_i (k k' : IntKind) (n : Int) (K : AV → Prop) : lU k (.v (.int k' n)) K ↔ K (.v (.int k (k.wrap n))):=by
 constructor
 ·rintro ⟨k'',n',e,h⟩;cases e;exact h
 ·intro h;exact ⟨k',n,rfl,h⟩
omit [Laid] in
@[simp] theorem iWr_64 (n : Int) (K : AV → Prop) : iWr .i64 n K ↔ inI n ∧ K (.v (.int .i64 n)):=Iff.rfl
omit [Laid] in
@[simp] theorem iBin_ii (op : BinOp) (k : IntKind) (a b : Int) (K : AV → Prop) : af op (.v (.int k a)) (.v (.int k b)) K ↔ if fy op then kX op k a b K else mc op k a b K:=by
 unfold af
 simp
omit [Laid] in
@[simp] theorem iBin_ss (op : BinOp) (a b : List UInt8) (K : AV → Prop) : af op (.str a) (.str b) K ↔ nk op a b K:=Iff.rfl
omit [Laid] in
@[simp] theorem iLet_r (k : (List AV → aa → Prop) → Prop) (f : List AV → aa → Prop) : aQ k f ↔ k f:=Iff.rfl
omit [Laid] in
@[simp] theorem fW (a : AV) (s : List AV) : nx (a :: s) 0 = a:=rfl
omit [Laid] in
@[simp] theorem nx_succ (a : AV) (s : List AV) (k : Nat) : nx (a :: s) (k + 1) = nx s k:=rfl
omit [Laid] in
@[simp] theorem jj (a b : AV) (s : List AV) : nx (a :: b :: s) 1 = b:=rfl

attribute [simp] Value.oneCell' mc nk fy eqK eqS ldP cM dQ fp bc cv cx qC dJ Pure bM cd Le LeL

section
omit [Laid]
variable (K : AV → Prop) (KH : AV → aa → Prop) (h : aa)
@[simp] theorem iBinB_b (op : BinOp) (a b : Bool) : lS op (.v (.bool a)) (.v (.bool b)) K ↔ (match op with|.eql=>K (bool (a == b))|.neq=>K (bool (!(a == b)))|_=>False):=Iff.rfl
@[simp] theorem LI (neg : Bool) (ks : List Nat) (xs ys : List AV) : iJ neg ks (.agg xs) (.agg ys) K ↔ (match eqK ks xs ys with|some b=>K (bool (if neg then !b else b))|none=>False):=Iff.rfl
@[simp] theorem Jz (i : Nat) (cs : List AV) : bh i (.tup cs) K ↔ (match cs[i]? with|some c=>K c|none=>False):=Iff.rfl
@[simp] theorem iFld_a (g : Bool) (off n : Nat) (cs : List AV) : oJ g off n (.agg cs) K ↔ ldP g n (cs.drop off) K:=Iff.rfl
@[simp] theorem iIdxS_s (l : List UInt8) (k : IntKind) (n : Int) : iA (.str l) (.v (.int k n)) K ↔ (0 ≤ n ∧ n < l.length) ∧ K (.v (.int .u8 (l.getD n.toNat 0).toNat)):=Iff.rfl
@[simp] theorem iIdxA_a (g : Bool) (sz len : Nat) (cs : List AV) (k : IntKind) (n : Int) : lV g sz len (.agg cs) (.v (.int k n)) K ↔ (0 ≤ n ∧ n < len) ∧ ldP g sz (cs.drop (n.toNat * sz)) K:=Iff.rfl
@[simp] theorem iSlS_s (l : List UInt8) (lo hi : Option AV) : kY (.str l) lo hi K ↔ (match cM lo 0,cM hi l.length with
 | some a,some b=>(0 ≤ a ∧ a ≤ b ∧ b ≤ l.length) ∧ K (.str ((l.take b.toNat).drop a.toNat))
 | _,_=>False):=Iff.rfl
@[simp] theorem Na (n sz : Nat) (rows : List (List AV)) (lo hi : Option AV) : iSl n (.sl sz rows) lo hi K ↔ (match cM lo 0,cM hi rows.length with
 | some a,some b=>sz = n ∧ (0 ≤ a ∧ a ≤ b ∧ b ≤ rows.length) ∧ K (.sl sz ((rows.take b.toNat).drop a.toNat))
 | _,_=>False):=Iff.rfl
@[simp] theorem iSl_b (n id sz : Nat) (rows : List (List AV)) (lo hi : Option AV) : iSl n (.sb id sz rows) lo hi K ↔ iSl n (.sl sz rows) lo hi K:=Iff.rfl
@[simp] theorem iSl_o (n id off len sz : Nat) (lo hi : Option AV) : iSl n (.own id off len sz) lo hi K ↔ (match cM lo 0,cM hi len with
 | some a,some b=>sz = n ∧ (0 ≤ a ∧ a ≤ b ∧ b ≤ len) ∧ K (.own id (off + a.toNat * sz) (b - a).toNat sz)
 | _,_=>False):=Iff.rfl
@[simp] theorem iSl_e (n : Nat) (lo hi : Option AV) : iSl n .emp lo hi K ↔ (match cM lo 0,cM hi 0 with
 | some a,some b=>(a = 0 ∧ b = 0) ∧ K .emp
 | _,_=>False):=Iff.rfl
@[simp] theorem iSlA_o (n sz id off : Nat) (lo hi : Option AV) : oO n sz (.op id off) lo hi h K ↔ (match cM lo 0,cM hi n,h[id]? with
 | some a,some b,some (.blk blk)=>(off + n * sz ≤ blk.cells.length ∧ 0 ≤ a ∧ a ≤ b ∧ b ≤ n ∧ n ≤ maxLen) ∧ K (.own id (off + a.toNat * sz) (b - a).toNat sz)
 | _,_,_=>False):=Iff.rfl
@[simp] theorem y5 (m sz : Nat) (rows : List (List AV)) (k : IntKind) (n : Int) : aO m (.sl sz rows) (.v (.int k n)) K ↔ sz = m ∧ (0 ≤ n ∧ n < rows.length) ∧ K (.ip (rows.getD n.toNat [])):=Iff.rfl
@[simp] theorem iIdxP_b (m id sz : Nat) (rows : List (List AV)) (k : IntKind) (n : Int) : aO m (.sb id sz rows) (.v (.int k n)) K ↔ sz = m ∧ (0 ≤ n ∧ n < rows.length) ∧ K (.ip (rows.getD n.toNat [])):=Iff.rfl
@[simp] theorem yZ (m id off len sz : Nat) (k : IntKind) (n : Int) : aO m (.own id off len sz) (.v (.int k n)) K ↔ sz = m ∧ (0 ≤ n ∧ n < len) ∧ K (.op id (off + n.toNat * sz)):=Iff.rfl
@[simp] theorem iIdxQ_o (len sz id off : Nat) (k : IntKind) (n : Int) : eP len sz (.op id off) (.v (.int k n)) K ↔ (0 ≤ n ∧ n < len) ∧ K (.op id (off + n.toNat * sz)):=Iff.rfl
@[simp] theorem iIdxQ_i (len sz : Nat) (cs : List AV) (k : IntKind) (n : Int) : eP len sz (.ip cs) (.v (.int k n)) K ↔ (0 ≤ n ∧ n < len) ∧ K (.ip (cs.drop (n.toNat * sz))):=Iff.rfl
@[simp] theorem iFad_i (off : Nat) (cs : List AV) : ah off (.ip cs) K ↔ K (.ip (cs.drop off)):=Iff.rfl
@[simp] theorem iFad_o (off id o : Nat) : ah off (.op id o) K ↔ K (.op id (o + off)):=Iff.rfl
@[simp] theorem iNil_i (cs : List AV) : me (.ip cs) K ↔ K (.ip cs):=Iff.rfl
@[simp] theorem iNil_o (id o : Nat) : me (.op id o) K ↔ K (.op id o):=Iff.rfl
@[simp] theorem iNil_f (f : FuncId) (a b : List AV) : me (.fn (.func f) a b) K ↔ K (.fn (.func f) a b):=Iff.rfl
@[simp] theorem iNilF_i (P : Program) (cs : List AV) : dt P (.ip cs) K ↔ K (.ip cs):=Iff.rfl
@[simp] theorem iNilF_o (P : Program) (id o : Nat) : dt P (.op id o) K ↔ K (.op id o):=Iff.rfl
@[simp] theorem iNilF_f (P : Program) (f : FuncId) (a b : List AV) : dt P (.fn (.func f) a b) K ↔ K (.fn (.func f) a b):=Iff.rfl
@[simp] theorem iNilF_m (P : Program) (name : String) (t : TypeId) (v : AV) (r ys : List AV) : dt P (.fn (.method name) (.ifc t v :: r) ys) K ↔ (ml P name t).isSome = true ∧ K (.fn (.method name) (.ifc t v :: r) ys):=Iff.rfl
@[simp] theorem iMkI_r (t : TypeId) (x : AV) : wE t x K ↔ K (.ifc t x):=Iff.rfl
@[simp] theorem iAsI_i (has : TypeId → Bool) (t : TypeId) (v : AV) : oH has (.ifc t v) K ↔ has t = true ∧ K (.tup [.ifc t v,bool true]):=Iff.rfl
@[simp] theorem iIsN_some (neg b : Bool) : j0 neg (some b) K ↔ K (bool (fo neg b)):=Iff.rfl
@[simp] theorem negB_t (b : Bool) : fo true b = !b:=rfl
@[simp] theorem negB_f (b : Bool) : fo false b = b:=rfl
@[simp] theorem nilIT_n : pF (.v .nilIface) = some true:=rfl
@[simp] theorem nilIT_i (t : TypeId) (x : AV) : pF (.ifc t x) = some false:=rfl
@[simp] theorem nilPT_n : nz (.v (.pointer none)) = some true:=rfl
@[simp] theorem nilPT_o (a b : Nat) : nz (.op a b) = some false:=rfl
@[simp] theorem nilPT_i (cs : List AV) : nz (.ip cs) = some false:=rfl
@[simp] theorem nilST_n (a b : Nat) : pG (.v (.slice none a b)) = some true:=rfl
@[simp] theorem nilST_o (a b c d : Nat) : pG (.own a b (c + 1) d) = some false:=rfl
@[simp] theorem po (g : Bool) (sz : Nat) (cs : List AV) : ab g sz (.ip cs) h K ↔ ldP g sz cs K:=Iff.rfl
@[simp] theorem y6 (g : Bool) (sz id o : Nat) : ab g sz (.op id o) h K ↔ (match h[id]? with|some (.blk b)=>ldP g sz (b.cells.drop o) K|_=>False):=Iff.rfl
@[simp] theorem G7 (KS : aa → Prop) (sz id o : Nat) (v : AV) : aN sz (.op id o) v h KS ↔ (match h[id]? with
 | some (.blk b)=>(b.wr = true ∧ o + (bc v).length ≤ b.cells.length ∧ (bc v).length = sz ∧ (bc v).all cv = true) ∧ KS (h.set id (.blk { b with cells:=cx b.cells o (bc v) }))
 | _=>False):=Iff.rfl
@[simp] theorem iNew_r (t : TypeId) (v : AV) : bz t v h KH ↔ (bc v).all cv = true ∧ KH (.op h.length 0) (h ++ [.blk ⟨t,bc v,true⟩]):=Iff.rfl
@[simp] theorem G5 (zero : AV) (parts : List (Nat × Nat × AV)) : bl zero parts K ↔ (match dQ (bc zero) parts with|some cs=>K (.agg cs)|none=>False):=Iff.rfl
@[simp] theorem iMkSl_r (t len sz : Nat) (zero : AV) (parts : List (Nat × Nat × AV)) : fG t len sz zero parts h KH ↔ (match dQ (fp len (bc zero)) parts with
 | some cs=>(match len with
   | 0=>KH .emp h
   | len + 1=>KH (.own h.length 0 (len + 1) sz) (h ++ [.blk ⟨t,cs,true⟩]))
 | none=>False):=Iff.rfl
@[simp] theorem iMkSlP_r (len sz : Nat) (zero : AV) (parts : List (Nat × Nat × AV)) : bP len sz zero parts K ↔ (match dQ (fp len (bc zero)) parts with|some cs=>K (.sl sz (chunks sz len cs))|none=>False):=Iff.rfl
@[simp] theorem iMake_i (e sz bytes : Nat) (zero : AV) (k k' : IntKind) (l c : Int) : pq e sz bytes zero (.v (.int k l)) (.v (.int k' c)) h KH ↔ (0 ≤ l ∧ l ≤ c ∧ (bytes : Int) * c ≤ 281474976710656 ∧ c ≤ 9223372036854775807) ∧ KH (.own h.length 0 l.toNat sz) (h ++ [.blk ⟨e,fp c.toNat (bc zero),true⟩]):=Iff.rfl
@[simp] theorem rS (e : Nat) (l : List UInt8) : gK e (.str l) h KH ↔ KH (.own h.length 0 l.length 1) (h ++ [.blk ⟨e,l.map fe,true⟩]):=Iff.rfl
@[simp] theorem JA (l : List UInt8) : eS (.str l) K ↔ (l.length ≤ maxLen → K (int l.length)):=Iff.rfl
@[simp] theorem LJ (sz : Nat) (rows : List (List AV)) : bI (.sl sz rows) K ↔ (rows.length ≤ maxLen → K (int rows.length)):=Iff.rfl
@[simp] theorem iLen_b (id sz : Nat) (rows : List (List AV)) : bI (.sb id sz rows) K ↔ (rows.length ≤ maxLen → K (int rows.length)):=Iff.rfl
@[simp] theorem Ez (id off len sz : Nat) : bI (.own id off len sz) K ↔ (len ≤ maxLen → K (int len)):=Iff.rfl
@[simp] theorem iLenSQ_s (l : List UInt8) : gr (.str l) K ↔ K (int l.length):=Iff.rfl
@[simp] theorem iLenQ_s (sz : Nat) (rows : List (List AV)) : lW (.sl sz rows) K ↔ K (int rows.length):=Iff.rfl
@[simp] theorem iLenQ_b (id sz : Nat) (rows : List (List AV)) : lW (.sb id sz rows) K ↔ K (int rows.length):=Iff.rfl
@[simp] theorem iLenQ_o (id off len sz : Nat) : lW (.own id off len sz) K ↔ K (int len):=Iff.rfl
@[simp] theorem iLenQ_e : lW .emp K ↔ K (int 0):=Iff.rfl
@[simp] theorem iLen_e : bI .emp K ↔ K (int 0):=Iff.rfl
@[simp] theorem iMin_i (k : IntKind) (a b : Int) : jd (.v (.int k a)) (.v (.int k b)) K ↔ K (.v (.int k (if b < a then b else a))):=by simp [jd]
@[simp] theorem iMax_i (k : IntKind) (a b : Int) : fw (.v (.int k a)) (.v (.int k b)) K ↔ K (.v (.int k (if b > a then b else a))):=by simp [fw]
@[simp] theorem iStrS_s (l : List UInt8) : pt (.str l) K ↔ K (.str l):=Iff.rfl
@[simp] theorem srcR_s (sz : Nat) (rows : List (List AV)) : ej h sz (.sl sz rows) = some rows:=by simp [ej,eA]
@[simp] theorem srcR_b (sz id : Nat) (rows : List (List AV)) : ej h sz (.sb id sz rows) = some rows:=by simp [ej,eA]
@[simp] theorem srcR_e (sz : Nat) : ej h sz .emp = some []:=rfl
@[simp] theorem FG (sz id off len sz' : Nat) : ej h sz (.own id off len sz') = (match h[id]? with
 | some (.blk b)=>if sz' = sz ∧ off + len * sz ≤ b.cells.length then some (chunks sz len (b.cells.drop off)) else none
 | _=>none):=rfl
@[simp] theorem iApp_r (own : Bool) (e sz bytes : Nat) (x y : AV) : ee own e sz bytes x y h KH ↔ dP own e sz bytes x (ej h sz y) h KH:=Iff.rfl
@[simp] theorem iAppS_r (own : Bool) (e bytes : Nat) (x y : AV) : vn own e bytes x y h KH ↔ dP own e 1 bytes x (qC y) h KH:=Iff.rfl
@[simp] theorem iAppTo_ef (e sz bytes : Nat) (rows : List (List AV)) : dP false e sz bytes .emp (some rows) h KH ↔ rows.all (dJ sz) = true ∧ cT bytes rows.length ∧ KH (.sb h.length sz rows) (h ++ [.tok e sz rows.length]):=Iff.rfl
@[simp] theorem iAppTo_et (e sz bytes : Nat) (rows : List (List AV)) : dP true e sz bytes .emp (some rows) h KH ↔ rows.all (dJ sz) = true ∧ rows ≠ [] ∧ cT bytes rows.length ∧ KH (.own h.length 0 rows.length sz) (h ++ [.blk ⟨e,rows.flatten,true⟩]):=Iff.rfl
@[simp] theorem iAppTo_b (own : Bool) (e sz bytes id sz' : Nat) (base rows : List (List AV)) : dP own e sz bytes (.sb id sz' base) (some rows) h KH ↔ rows.all (dJ sz) = true ∧ (match h[id]? with
 | some (.tok e' sz'' k)=>(sz' = sz ∧ sz'' = sz ∧ e' = e ∧ k = base.length) ∧ cT bytes (k + rows.length) ∧ KH (.sb id sz (base ++ rows)) (h.set id (.tok e sz (k + rows.length)))
 | _=>False):=Iff.rfl
@[simp] theorem iAppTo_o (own : Bool) (e sz bytes id off len sz' : Nat) (rows : List (List AV)) : dP own e sz bytes (.own id off len sz') (some rows) h KH ↔ rows.all (dJ sz) = true ∧ (match h[id]? with
 | some (.blk b)=>(off = 0 ∧ sz' = sz ∧ b.wr = true ∧ b.ty = e ∧ len * sz ≤ b.cells.length) ∧ 0 < len + rows.length ∧ cT bytes (len + rows.length) ∧
  KH (.own h.length 0 (len + rows.length) sz) (h.set id .dead ++ [.blk ⟨e,b.cells.take (len * sz) ++ rows.flatten,true⟩])
 | _=>False):=Iff.rfl
end

@[simp] theorem iInv_i (P : Program) (row : TypeId → Option FuncId) (t : TypeId) (v : AV) (args : List AV) (h : aa) (KH : AV → aa → Prop) : wD P row (.ifc t v) args h KH ↔ (match row t with|some f=>ct P f (v :: args) h KH|none=>False):=Iff.rfl

/-! ### What is pure is told as it is -/
omit [Laid] in
theorem xK (f : AV → AV) (L : Nat) (h : aa) (a : AV) : Pure a → tlA f L h a = a:=by
 refine AV.rec (motive_1:=fun a=>Pure a → tlA f L h a = a) (motive_2:=fun l=>bM l → tlL f L h l = l) (motive_3:=fun r=>cd r → tlR f L h r = r) ?_ ?_ ?_ ?_ ?_ ?_ ?_ ?_ ?_ ?_ ?_ ?_ ?_ ?_ ?_ ?_ ?_ ?_ a
 all_goals intros
 all_goals simp_all [tlA,tlL,tlR]
omit [Laid] in
@[simp] theorem Kl (L : Nat) (h : aa) (d : Nat) (a : AV) (p : Pure a) : tl L h d a = a:=by
 cases d <;> exact xK _ L h a p
omit [Laid] in
@[simp] theorem Le_refl' (a : AV) : Le a a:=Le.refl a
def iw (r r' : AV) (h' : aa) : Prop:=∃ r'' h'',Wk ([] : aa).length [r'] h' [r''] h'' ∧ r'' = r
theorem iw.of {r r' : AV} {h' : aa} (q : Le (tl 0 h' 3 r') r) : iw r r' h':=Ret.wk q
theorem iw.pure {r r' : AV} {h' : aa} (p : Pure r') (e : r' = r) : iw r r' h':=by
 subst e;exact iw.of (by rw [Kl _ _ _ _ p];exact Le.refl _)
theorem Body.gives {P : Program} {f : FuncId} {args : List AV} {W : aa → (AV → aa → Prop) → Prop} (b : Body P f args W) {r : AV} (pa : bM args) (pr : Pure r) (q : W [] (iw r)) : Con P f args r:=b.con pa pr q

theorem a7 {α : Type} (I : α → Prop) (f : α → List AV) (g : α → aa) (μ : α → Nat) (x₀ : α) {s : List AV} {h : aa} {body : (List AV → aa → Prop) → List AV → aa → Prop} (h0 : I x₀) (w0 : Wk h.length s h (f x₀) (g x₀))
 (step : ∀ x,I x → body (fun s' h' => ∃ y,I y ∧ Wk h.length s' h' (f y) (g y) ∧ μ y < μ x) (f x) (g x)) : bO s h body :=
 ⟨α,I,f,g,μ,x₀,h0,w0,step⟩

/-! ### Values that name no memory -/
mutual
def Flat : AV → Prop
 | .v _|.str _|.any=>True
 | .agg cs|.tup cs=>AU cs
 | _=>False
def AU : List AV → Prop
 | []=>True
 | c :: cs=>Flat c ∧ AU cs
end
attribute [simp] Flat AU

theorem G6 {P : Program} {f : FuncId} {args args' : List AV} {r : AV} {h : aa} {K : AV → aa → Prop} (hb : cq P f = true) (c : Con P f args' r) (hl : LeL args args') (k : K r h) : aH P (.fn (.func f) [] []) args h K:=by
 refine ⟨hb, ?_⟩
 simp only [List.nil_append,List.append_nil]
 intro base ι S w vs h1 h2
 exact c.call k base ι S w vs (au.le _ _ vs hl h1) h2
end Go.Aw
end

section
namespace Go.Aw
open Go Go.RowKit Go.ChangeShapes Go.WideShapes

section
variable {H : Type} {enc : TypeId × Value → H} {P : Program}

theorem nS (hl : laidOutB P = true) {W W' : World} (hb : Below W.heap.size W W') : ∀ {ts : List TypeId} {vs : List Value} {ds : List (DataW H)} {ps : List MemPlace},
 ts.all (fun t=>P.readableRec t && decide (t < P.types.size)) = true → DataW.TrodAll enc P W 0 (fun _=>true) true ts vs ds ps → (∀ x ∈ ps,x.block < W.heap.size) →
 DataW.TrodAll enc P W' 0 (fun b=>decide (b < W.heap.size)) true ts vs ds ps
 | [],_,_,_,_,h,_=>by obtain ⟨rfl,rfl,rfl⟩:=trodAll_nil h;exact rfl
 | t :: ts,_,_,_,hr,h,hlt=>by
   obtain ⟨v,vs,d,ds,p,q,rfl,rfl,rfl,h1,h2⟩:=trodAll_cons h
   simp only [List.all_cons,Bool.and_eq_true,decide_eq_true_eq] at hr
   exact ⟨p,q,Below.trod hl hr.1.1 hr.1.2 h1 hb (fun x hx=>hlt x (by simp [hx])),nS hl hb hr.2 h2 (fun x hx=>hlt x (by simp [hx])),rfl⟩

theorem Fg {f : Func} {s : ChangeSpec} {apart fresh handsOn : Bool} {W W' : World} {args : Array Value} {ds gs : List (DataW H)} {before : List MemPlace} {tb : TypeId}
 (hl : laidOutB P = true) (hrd : f.params.toList.all (fun t=>P.readableRec t && decide (t < P.types.size)) = true) (hvr : varsRowed P s.vars = true) (hrt : f.resultTypes = #[tb]) (hb : P.underlying tb = some .bool)
 (hW : DataW.Whole enc P f.params.toList s.vars apart W args.toList ds gs before) (hfn : s.fn H (ds ++ gs) = { results:=[.lit (.bool true)],args:=ds,vars:=gs }) (hB : Below W.heap.size W W') :
 s.post enc P f apart fresh handsOn false W args (.bool true) W':=by
 have hlt:=hW.lt
 have hW0:=hW
 obtain ⟨p,q,hA,hV,rfl,hfz,hnd⟩:=hW
 have hA':=nS (enc:=enc) hl hB hrd hA (fun x hx=>hlt x (by simp [hx]))
 have hV':=Below.trodVars (enc:=enc) hl hB hvr hV
 refine ⟨ds,gs,p ++ q,[],p,q,hW0, ?_,by rw [hfn];exact hA',by rw [hfn];exact hV',hB.frame _,fun e=>by cases e⟩
 rw [hfn,hrt]
 exact trodAll_mk1 (shut_bool hb true)
end

/-! Arguments opened -/
def old (W : World) : aJ:=fun b _=>b < W.heap.size

theorem add_plain (b off i : Nat) : (⟨b,off,none⟩ : Addr).add i = ⟨b,off + i,none⟩:=dm b off i
theorem Con.calls [Laid] {P : Program} {f : FuncId} {as : List AV} (c : Con P f as (bool true)) {W : World} {vs : List Value} (hg : GOK (old W) W) (h : au [] (old W) W as vs) :
 Calls P f vs.toArray W fun e W' => e = .returned (.bool true) ∧ Below W.heap.size W W':=by
 obtain ⟨_,_,c⟩:=c
 refine (c W.heap.size [] (old W) W vs h (HOK.nil (old W) W (fun b o q=>q) hg)).mono ?_
 rintro e W' ⟨v,ι',S',r,h',e1,e2,e3,e4,_,rfl⟩
 simp at e3
 exact ⟨by rw [e1,e3],e2.bel⟩
theorem bn.ints {W : World} {g : Nat} {k : IntKind} {zs : List Int} (hc : ∀ i,i < zs.length → W.cell? ⟨g,i,none⟩ = some (.int k (zs.getD i 0))) : bn [] (old W) W (zs.map fun z=>.v (.int k z)) g 0:=by
 refine bn.mk fun i c e=>?_
 rw [List.getElem?_map] at e
 cases hz : zs[i]? with
 | none=>rw [hz] at e;cases e
 | some z =>
   rw [hz] at e
   cases e
   have hi:=(List.getElem?_eq_some_iff.1 hz).1
   have h1:=hc i hi
   rw [List.getD_eq_getElem?_getD,hz] at h1
   refine ⟨_,by rw [Nat.zero_add];exact h1, ?_,by simp⟩
   show g < W.heap.size
   unfold World.cell? at h1
   split at h1
   ·rename_i c1 c2 c3 hh
    exact (Array.getElem?_eq_some_iff.1 hh).1
   ·cases h1
end Go.Aw
end
