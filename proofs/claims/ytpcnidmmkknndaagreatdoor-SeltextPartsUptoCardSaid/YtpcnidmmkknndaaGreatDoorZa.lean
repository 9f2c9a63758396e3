/-
 Abstract values for a Go walk: what a value of the model stands for,in a memory of which only the cells that are never written again are told;with the rules by which the model's own wp follows from a condition on abstract values alone.
 No conditions.
-/
import Derived.WalkKit
import Derived.Deep.Quiet
import Derived.Stop.Asserts
import Derived.WalkSpells
import Derived.WalkLawsBesides
import Derived.Laws.StructEq
set_option linter.unusedVariables false
set_option linter.unusedSimpArgs false
set_option linter.unusedSectionVars false
set_option linter.defProp false
set_option autoImplicit true
set_option maxRecDepth 1000000
set_option maxHeartbeats 16000000
noncomputable section
namespace Go.Aw
section
abbrev bY:=@Nat.le_refl
abbrev dO:=@List.getElem?_eq_getElem
abbrev eQ:=@List.getElem?_eq_some_iff
abbrev gE:=@List.mem_of_getElem?
abbrev gO:=@List.getElem?_append_left
abbrev gT:=@List.getElem?_append_right
abbrev iD:=@List.getElem?_set_self
abbrev iF:=@List.getElem?_set_ne
abbrev iN:=@List.getElem?_map
abbrev iS:=@List.getElem?_eq_none
abbrev lE:=@Nat.eq_of_beq_eq_true
abbrev lT:=@Nat.le_of_ble_eq_true
abbrev nE:=@List.getD_eq_getElem?_getD
abbrev nO:=@decide_eq_false
abbrev oF:=@decide_eq_true
abbrev oN:=@of_decide_eq_true
abbrev tO:=@of_decide_eq_false
abbrev uP:=@Nat.lt_or_ge
abbrev At:=@List.all_eq_true
abbrev AS:=@Array.getElem?_eq_some_iff
abbrev AT:=@List.length_append
abbrev By:=@List.take_add_one
abbrev BY:=@List.take_length
abbrev DO:=@Option.some.inj
abbrev GO:=@List.map_cons
abbrev Is:=@List.mem_append
abbrev ID:=@List.mem_cons
abbrev IF:=@List.set_append_right
abbrev IN:=@List.set_append_left
abbrev Lt:=@List.mem_cons_of_mem
abbrev Mk:=@Int.toNat_natCast
abbrev MK:=@List.take_of_length_le
abbrev NO:=@Bool.and_eq_true
abbrev Of:=@decide_eq_true_eq
abbrev On:=@Option.some.injEq
abbrev ON:=@List.getElem?_take
abbrev To:=@List.append_assoc
abbrev TO:=@List.mem_singleton
abbrev Up:=@Nat.lt_of_lt_of_le
abbrev UP:=@Array.getElem?_eq_getElem
abbrev aaP:=@List.length_cons
abbrev aaQ:=@List.length_map
abbrev aaS:=@Option.map_eq_some_iff
abbrev aaT:=@List.mem_map
abbrev aaU:=@List.getElem?_drop
abbrev aaW:=@List.length_take
abbrev aaX:=@Bool.false_eq_true
abbrev aaY:=@Prod.mk.injEq
abbrev aaZ:=@List.append_nil
abbrev aa0:=@List.set_set
abbrev aa1:=@List.length_set
abbrev aa2:=@Nat.zero_le
abbrev aa3:=@Nat.not_lt_zero
abbrev aa4:=@Nat.zero_add
abbrev aa6:=@List.foldl_append
abbrev aa7:=@Nat.le_trans
abbrev aba:=@List.getElem_mem
abbrev abc:=@List.mem_filter
abbrev abe:=@List.mem_filterMap
abbrev abg:=@List.all_cons
abbrev abh:=@Result.andThen_ok
abbrev abi:=@Sem.run_bind
abbrev abj:=@Sem.run_pure
abbrev abl:=@Bool.or_eq_true
abbrev abm:=@Bool.not_eq_true'
abbrev abn:=@List.mem_cons_self
abbrev abo:=@List.drop_eq_getElem_cons
abbrev abq:=@List.flatten_cons
abbrev abr:=@List.length_nil
abbrev abt:=@List.take_append_of_le_length
abbrev abu:=@Nat.add_mul
abbrev abv:=@List.cons_append
abbrev abw:=@Option.map_some
abbrev abx:=@Bool.or_eq_false_iff
abbrev aby:=@Array.getElem?_eq_none
open Go Go.RowKit
inductive AV where
 | v (x:Value)
 | str (l:List UInt8)
 | any
 | agg (cs:List AV)
 | ay (cs:List AV)
 | emp
 | sl (sz:Nat) (rows:List (List AV))
 | sb (id sz:Nat) (rows:List (List AV))
 | ip (cs:List AV)
 | own (id off len sz:Nat)
 | op (id off:Nat)
 | fn (f:Fn) (first cap:List AV)
 | ib (t:TypeId) (x:AV)
 | mp (id:Nat)
 deriving Inhabited
structure jJ where
 ty:TypeId
 cells:List AV
 wr:Bool
inductive aK where
 | ak (b:jJ)
 | tok (e sz n:Nat)
 | dead
 | mp (c:Nat) (es:List (Nat×AV×AV))
 | it (m s:Nat) (sn:List Nat) (l:Nat)
abbrev aa:=List aK
inductive Ix where
 | ak (b:Nat)
 | tok (n:Nat) (v:Value)
abbrev i_(n:Int):AV:=.v (.int .i64 n)
abbrev b_(b:Bool):AV:=.v (.bool b)
abbrev aY:=Nat→Nat→Prop
section
variable (ι:List Ix) (S:aY) (w:World)
mutual
def ar:AV→Value→Prop
 | .v x,y=>y=x
 | .str l,y=>y=.string ⟨l.toArray⟩∧l.length≤maxLen
 | .any,_=>True
 | .agg cs,y=>∃vs:List Value,y=.agg vs.toArray∧aB cs vs
 | .ay cs,y=>∃vs:List Value,y=.tuple vs.toArray∧aB cs vs
 | .emp,y=>∃a,y=.slice a 0 0
 | .sl sz rows,y=>∃a cap,y=.slice a rows.length cap∧rows.length≤cap∧cap≤maxLen∧(rows=[]∨∃b off,a=some ⟨b,off,none⟩∧cn sz rows b off)
 | .sb id sz rows,y=>(∃a cap,y=.slice a rows.length cap∧rows.length≤cap∧cap≤maxLen∧(rows=[]∨∃b off,a=some ⟨b,off,none⟩∧cn sz rows b off))∧∃n v,ι[id]?=some (.tok n v)∧rows.length≤n∧(n=rows.length→y=v)
 | .ip cs,y=>∃b off,y=.pointer (some ⟨b,off,none⟩)∧bE cs b off
 | .own id off len sz,y=>∃b a cap n ty,ι[id]?=some (.ak b)∧y=.slice a len cap∧len≤cap∧cap≤maxLen∧(cap=0∨a=some ⟨b,off,none⟩)∧w.shape? b=some (ty,n)∧off+cap*sz≤n
 | .op id off,y=>∃b,ι[id]?=some (.ak b)∧y=.pointer (some ⟨b,off,none⟩)
 | .fn f xs ys,y=>∃vs us:List Value,y=.func f vs.toArray us.toArray∧aB xs vs∧aB ys us
 | .ib t x,y=>∃v,y=.iface t v∧ar x v
 | .mp id,y=>∃b,ι[id]?=some (.ak b)∧y=.map (some b)
def aB:List AV→List Value→Prop
 | [],vs=>vs=[]
 | a:: as,vs=>∃u us,vs=u:: us∧ar a u∧aB as us
def bE:List AV→Nat→Nat→Prop
 | [],_,_=>True
 | c:: cs,b,off=>(∃u,w.cell? ⟨b,off,none⟩=some u∧S b off∧ar c u)∧bE cs b (off+1)
def cn(sz:Nat):List (List AV)→Nat→Nat→Prop
 | [],_,_=>True
 | r:: rs,b,off=>r.length=sz∧bE r b off∧cn sz rs b (off+sz)
end
end
section
variable {ι:List Ix} {S:aY} {w:World}
@[simp] theorem cz(x y:Value):ar ι S w (.v x) y↔y=x:=by simp[ar]
@[simp] theorem aao(y:Value):ar ι S w .any y↔True:=by simp[ar]
@[simp] theorem eF(l:List UInt8)(y:Value):ar ι S w (.str l) y↔y=.string ⟨l.toArray⟩∧l.length≤maxLen:=by simp[ar]
@[simp] theorem dt(vs:List Value):aB ι S w [] vs↔vs=[]:=by simp[aB]
@[simp] theorem bP(a:AV)(as:List AV)(v:Value)(vs:List Value):aB ι S w (a:: as) (v:: vs)↔ar ι S w a v∧aB ι S w as vs:=by
 rw[aB];constructor
 ·rintro⟨u,us,e,h1,h2⟩;simp only[List.cons.injEq]at e;obtain⟨rfl,rfl⟩:=e;exact⟨h1,h2⟩
 ·rintro⟨h1,h2⟩;exact⟨_,_,rfl,h1,h2⟩
@[simp] theorem RQ(a:AV)(as:List AV):¬aB ι S w (a:: as) []:=by
 rw[aB];rintro⟨u,us,e,_⟩;cases e
theorem aB.length:∀{as:List AV} {vs:List Value},aB ι S w as vs→as.length=vs.length
 | [],vs,h=>by simp at h;simp[h]
 | a:: as,[],h=>by simp at h
 | a:: as,v:: vs,h=>by simp at h;simp[aB.length h.2]
theorem aB.get:∀{as:List AV} {vs:List Value},aB ι S w as vs→∀(i:Nat) (a:AV),as[i]?=some a→∃v,vs[i]?=some v∧ar ι S w a v
 | [],vs,h,i,a,e=>by simp at e
 | a:: as,[],h,_,_,_=>by simp at h
 | a:: as,v:: vs,h,0,x,e=>by simp at e h;subst e;exact⟨v,by simp,h.1⟩
 | a:: as,v:: vs,h,i+1,x,e=>by simp at e h;simpa using h.2.get i x e
def aB.get':∀{as:List AV} {vs:List Value},aB ι S w as vs→∀(i:Nat) (v:Value),vs[i]?=some v→∃a,as[i]?=some a∧ar ι S w a v:=by
 intro as vs h i v e;have hl:=h.length;obtain⟨hi,_⟩:=eQ.1 e;have:as[i]?=some as[i]:=dO (by omega);obtain⟨u,hu,hr⟩:=h.get i _ this;rw[e]at hu;cases hu;exact⟨_,this,hr⟩
theorem aB.set:∀{as:List AV} {vs:List Value},aB ι S w as vs→∀(i:Nat) (a:AV) (v:Value),ar ι S w a v→aB ι S w (as.set i a) (vs.set i v)
 | [],vs,h,i,a,v,_=>by simp at h;subst h;simp
 | a:: as,[],h,_,_,_,_=>by simp at h
 | a:: as,v:: vs,h,0,x,u,e=>by simp at h;simpa using⟨e,h.2⟩
 | a:: as,v:: vs,h,i+1,x,u,e=>by simp at h;simpa using⟨h.1,h.2.set i x u e⟩
theorem aB.append:∀{as bs:List AV} {vs us:List Value},aB ι S w as vs→aB ι S w bs us→aB ι S w (as++bs) (vs++us)
 | [],bs,vs,us,h,k=>by simp at h;subst h;simpa using k
 | a:: as,bs,[],us,h,_=>by simp at h
 | a:: as,bs,v:: vs,us,h,k=>by simp at h;simpa using⟨h.1,h.2.append k⟩
theorem aB.mk:∀{as:List AV} {vs:List Value},as.length=vs.length→(∀(i:Nat) (a:AV) (v:Value),as[i]?=some a→vs[i]?=some v→ar ι S w a v)→aB ι S w as vs
 | [],vs,h,_=>by simpa using (List.length_eq_zero_iff.1 (by simpa using h.symm))
 | a:: as,[],h,_=>by simp at h
 | a:: as,v:: vs,h,k=>by
   simp only[bP];exact⟨k 0 a v rfl rfl,aB.mk (by simpa using h) fun i x u e f=>k (i+1) x u (by simpa using e) (by simpa using f)⟩
theorem aB.take:∀{as:List AV} {vs:List Value} (n:Nat),aB ι S w as vs→aB ι S w (as.take n) (vs.take n)
 | [],vs,n,h=>by simp at h;subst h;simp
 | a:: as,[],n,h=>by simp at h
 | a:: as,v:: vs,0,h=>by simp
 | a:: as,v:: vs,n+1,h=>by simp at h;simpa using⟨h.1,h.2.take n⟩
theorem aB.drop:∀{as:List AV} {vs:List Value} (n:Nat),aB ι S w as vs→aB ι S w (as.drop n) (vs.drop n)
 | [],vs,n,h=>by simp at h;subst h;simp
 | a:: as,[],n,h=>by simp at h
 | a:: as,v:: vs,0,h=>by simpa using h
 | a:: as,v:: vs,n+1,h=>by simp at h;simpa using h.2.drop n
theorem bE.get:∀{cs:List AV} {b off:Nat},bE ι S w cs b off→∀(i:Nat) (c:AV),cs[i]?=some c→∃u,w.cell? ⟨b,off+i,none⟩=some u∧S b (off+i)∧ar ι S w c u
 | [],b,off,h,i,c,e=>by simp at e
 | c:: cs,b,off,h,0,x,e=>by simp at e;subst e;rw[bE]at h;simpa using h.1
 | c:: cs,b,off,h,i+1,x,e=>by
   simp at e;rw[bE]at h;have:=h.2.get i x e;rw[show off+(i+1)=off+1+i by omega];exact this
theorem bE.mk:∀{cs:List AV} {b off:Nat},(∀(i:Nat) (c:AV),cs[i]?=some c→∃u,w.cell? ⟨b,off+i,none⟩=some u∧S b (off+i)∧ar ι S w c u)→bE ι S w cs b off
 | [],b,off,h=>by simp[bE]
 | c:: cs,b,off,h=>by
   rw[bE];refine⟨by simpa using h 0 c rfl,bE.mk fun i x e=>?_⟩;have:=h (i+1) x (by simpa using e);rw[show off+1+i=off+(i+1) by omega];exact this
def bE.drop{cs:List AV}{b off:Nat}(h:bE ι S w cs b off)(k:Nat):bE ι S w (cs.drop k) b (off+k):=
 bE.mk fun i c e=>by
  have:=h.get (k+i) c (by simpa using e);rw[show off+k+i=off+(k+i) by omega];exact this
theorem bE.sI:∀{cs:List AV} {b off:Nat},bE ι S w cs b off→∃vs:List Value,aB ι S w cs vs∧∀(i:Nat) (v:Value),vs[i]?=some v→w.cell? ⟨b,off+i,none⟩=some v
 | [],b,off,h=>⟨[],by simp,by simp⟩
 | c:: cs,b,off,h=>by
   rw[bE]at h;obtain⟨⟨u,hu,_,hr⟩,h2⟩:=h;obtain⟨vs,hv,hc⟩:=h2.sI;refine⟨u:: vs,by simpa using⟨hr,hv⟩,fun i v e=>?_⟩;cases i with
   | zero=>simp at e;subst e;simpa using hu
   | succ i=>simp at e;have:=hc i v e;rw[show off+(i+1)=off+1+i by omega];exact this
theorem cn.get{sz:Nat}:∀{rows:List (List AV)} {b off:Nat},cn ι S w sz rows b off→∀(i:Nat) (r:List AV),rows[i]?=some r→r.length=sz∧bE ι S w r b (off+i*sz)
 | [],b,off,h,i,c,e=>by simp at e
 | r:: rs,b,off,h,0,x,e=>by simp at e;subst e;rw[cn]at h;simpa using⟨h.1,h.2.1⟩
 | r:: rs,b,off,h,i+1,x,e=>by
   simp at e;rw[cn]at h;have:=h.2.2.get i x e;rw[show off+(i+1)*sz=off+sz+i*sz by rw[abu];omega];exact this
theorem cn.mk{sz:Nat}:∀{rows:List (List AV)} {b off:Nat},(∀(i:Nat) (r:List AV),rows[i]?=some r→r.length=sz∧bE ι S w r b (off+i*sz))→cn ι S w sz rows b off
 | [],b,off,h=>by simp[cn]
 | r:: rs,b,off,h=>by
   rw[cn];have h0:=h 0 r rfl;refine⟨h0.1,by simpa using h0.2,cn.mk fun i x e=>?_⟩;have:=h (i+1) x (by simpa using e);rw[show off+sz+i*sz=off+(i+1)*sz by rw[abu];omega];exact this
end
def fX:Option Ix→Option Ix→Prop
 | some (.tok n v),y=>∃n' v',y=some (.tok n' v')∧((n'=n∧v'=v)∨n<n')
 | x,y=>y=x
theorem fX.refl:∀x,fX x x
 | some (.tok n v)=>⟨n,v,rfl,.inl ⟨rfl,rfl⟩⟩
 | some (.ak _)=>rfl
 | none=>rfl
def fX.of_eq(h:y=x):fX x y:=h▸fX.refl x
theorem fX.trans:∀{x y z:Option Ix},fX x y→fX y z→fX x z
 | some (.tok n v),y,z,h,k=>by
   obtain⟨n',v',rfl,h⟩:=h;obtain⟨n'',v'',rfl,k⟩:=k;refine⟨n'',v'',rfl, ?_⟩;rcases h with⟨rfl,rfl⟩|h
   ·exact k
   ·rcases k with⟨rfl,rfl⟩|k
    ·exact .inr h
    ·exact .inr (Nat.lt_trans h k)
 | some (.ak _),y,z,h,k=>by simp only[fX]at h;subst h;exact k
 | none,y,z,h,k=>by simp only[fX]at h;subst h;exact k
def fX.ak(h:fX (some (.ak b)) y):y=some (.ak b):=h
structure bS(n base:Nat)(ι:List Ix)(S:aY)(w:World)(ι':List Ix)(S':aY)(w':World):Prop where
 pre:∀i,i<n→fX ι[i]? ι'[i]?
 sub:∀b o,S b o→S' b o
 new:∀b o,S' b o→S b o∨base≤b
 cell:∀b o,S b o→w'.cell? ⟨b,o,none⟩=w.cell? ⟨b,o,none⟩
 xg:∀b x,w.shape? b=some x→w'.shape? b=some x
 mR:Below base w w'
def bS.refl(n base:Nat)(ι:List Ix)(S:aY)(w:World):bS n base ι S w ι S w:=
 ⟨fun _ _=>fX.refl _,fun _ _ h=>h,fun _ _ h=>.inl h,fun _ _ _=>rfl,fun _ _ h=>h,Below.refl _ _⟩
def bS.trans{n base:Nat}(h:bS n base ι S w ι' S' w')(k:bS n base ι' S' w' ι'' S'' w''):bS n base ι S w ι'' S'' w'':=
 ⟨fun i hi=>(h.pre i hi).trans (k.pre i hi),fun b o x=>k.sub b o (h.sub b o x),
  fun b o x=>(k.new b o x).elim (fun y=>h.new b o y) .inr,
  fun b o x=>(k.cell b o (h.sub b o x)).trans (h.cell b o x),fun b x hx=>k.xg b x (h.xg b x hx),h.mR.trans k.mR⟩
def bS.mono{n n' base base':Nat}(h:bS n base ι S w ι' S' w')(hn:n'≤n)(hb:base'≤base):bS n' base' ι S w ι' S' w':=
 ⟨fun i hi=>h.pre i (Up hi hn),h.sub,fun b o x=>(h.new b o x).imp id (fun y=>aa7 hb y),h.cell,h.xg,h.mR.mono hb⟩
mutual
def Bd(n:Nat):AV→Prop
 | .v _|.str _|.any|.emp=>True
 | .agg cs|.ay cs|.ip cs=>lV n cs
 | .sl _ rows=>wj n rows
 | .sb id _ rows=>id<n∧wj n rows
 | .own id _ _ _|.op id _|.mp id=>id<n
 | .fn _ xs ys=>lV n xs∧lV n ys
 | .ib _ x=>Bd n x
def lV(n:Nat):List AV→Prop
 | []=>True
 | a:: as=>Bd n a∧lV n as
def wj(n:Nat):List (List AV)→Prop
 | []=>True
 | r:: rs=>lV n r∧wj n rs
end
mutual
theorem ar.bd(hn:ι.length≤n):∀(a:AV) (y:Value),ar ι S w a y→Bd n a
 | .v _,_,_=>by simp[Bd]
 | .str _,_,_=>by simp[Bd]
 | .any,_,_=>by simp[Bd]
 | .emp,_,_=>by simp[Bd]
 | .agg cs,y,k=>by rw[ar]at k;rw[Bd];obtain⟨vs,e,k⟩:=k;exact aB.bd hn cs vs k
 | .ay cs,y,k=>by rw[ar]at k;rw[Bd];obtain⟨vs,e,k⟩:=k;exact aB.bd hn cs vs k
 | .sl sz rows,y,k=>by
   rw[ar]at k;rw[Bd];obtain⟨a,cap,e,h1,h2,h3⟩:=k;rcases h3 with rfl|⟨b,off,ea,hr⟩
   ·simp[wj]
   ·exact cn.bd hn sz rows b off hr
 | .sb tid sz rows,y,k=>by
   rw[ar]at k;rw[Bd];obtain⟨⟨a,cap,e,h1,h2,h3⟩,m,v,t1,_⟩:=k;refine⟨Up (eQ.1 t1).1 hn, ?_⟩;rcases h3 with rfl|⟨b,off,ea,hr⟩
   ·simp[wj]
   ·exact cn.bd hn sz rows b off hr
 | .ip cs,y,k=>by rw[ar]at k;rw[Bd];obtain⟨b,off,e,k⟩:=k;exact bE.bd hn cs b off k
 | .own tid off len sz,y,k=>by
   rw[ar]at k;rw[Bd];obtain⟨b,a,cap,m,ty,h1,_⟩:=k;exact Up (eQ.1 h1).1 hn
 | .op tid off,y,k=>by
   rw[ar]at k;rw[Bd];obtain⟨b,h1,_⟩:=k;exact Up (eQ.1 h1).1 hn
 | .fn f xs ys,y,k=>by rw[ar]at k;rw[Bd];obtain⟨vs,us,e,k1,k2⟩:=k;exact⟨aB.bd hn xs vs k1,aB.bd hn ys us k2⟩
 | .ib t x,y,k=>by rw[ar]at k;rw[Bd];obtain⟨v,e,k⟩:=k;exact ar.bd hn x v k
 | .mp tid,y,k=>by
   rw[ar]at k;rw[Bd];obtain⟨b,h1,_⟩:=k;exact Up (eQ.1 h1).1 hn
theorem aB.bd(hn:ι.length≤n):∀(as:List AV) (vs:List Value),aB ι S w as vs→lV n as
 | [],_,_=>by simp[lV]
 | a:: as,[],k=>by simp at k
 | a:: as,v:: vs,k=>by simp at k;rw[lV];exact⟨ar.bd hn a v k.1,aB.bd hn as vs k.2⟩
theorem bE.bd(hn:ι.length≤n):∀(cs:List AV) (b off:Nat),bE ι S w cs b off→lV n cs
 | [],_,_,_=>by simp[lV]
 | c:: cs,b,off,k=>by rw[bE]at k;rw[lV];obtain⟨⟨u,_,_,h⟩,k2⟩:=k;exact⟨ar.bd hn c u h,bE.bd hn cs b (off+1) k2⟩
theorem cn.bd(hn:ι.length≤n)(sz:Nat):∀(rows:List (List AV)) (b off:Nat),cn ι S w sz rows b off→wj n rows
 | [],_,_,_=>by simp[wj]
 | r:: rs,b,off,k=>by rw[cn]at k;rw[wj];exact⟨bE.bd hn r b off k.2.1,cn.bd hn sz rs b (off+sz) k.2.2⟩
end
mutual
theorem ar.ie{n base:Nat}(h:bS n base ι S w ι' S' w'):∀(a:AV) (y:Value),Bd n a→ar ι S w a y→ar ι' S' w' a y
 | .v x,y,p,k=>by simpa using k
 | .str x,y,p,k=>by simpa using k
 | .any,y,p,k=>by simp
 | .agg cs,y,p,k=>by rw[ar]at *;rw[Bd]at p;obtain⟨vs,e,k⟩:=k;exact⟨vs,e,aB.ie h cs vs p k⟩
 | .ay cs,y,p,k=>by rw[ar]at *;rw[Bd]at p;obtain⟨vs,e,k⟩:=k;exact⟨vs,e,aB.ie h cs vs p k⟩
 | .emp,y,p,k=>by rw[ar]at *;exact k
 | .sl sz rows,y,p,k=>by
   rw[ar]at *;rw[Bd]at p;obtain⟨a,cap,e,h1,h2,h3⟩:=k;exact⟨a,cap,e,h1,h2,h3.imp (fun q=>q) fun⟨b,off,ea,hr⟩=>⟨b,off,ea,cn.ie h sz rows b off p hr⟩⟩
 | .sb tid sz rows,y,p,k=>by
   rw[ar]at *;rw[Bd]at p;obtain⟨⟨a,cap,e,h1,h2,h3⟩,m,v,t1,t2,t3⟩:=k;refine⟨⟨a,cap,e,h1,h2,h3.imp (fun q=>q) fun⟨b,off,ea,hr⟩=>⟨b,off,ea,cn.ie h sz rows b off p.2 hr⟩⟩, ?_⟩;have hp:=h.pre tid p.1;rw[t1]at hp;obtain⟨m',v',e',q⟩:=hp;refine⟨m',v',e', ?_⟩;rcases q with⟨rfl,rfl⟩|q
   ·exact⟨t2,t3⟩
   ·exact⟨by omega,fun z=>by omega⟩
 | .ip cs,y,p,k=>by rw[ar]at *;rw[Bd]at p;obtain⟨b,off,e,k⟩:=k;exact⟨b,off,e,bE.ie h cs b off p k⟩
 | .own tid off len sz,y,p,k=>by
   rw[ar]at *;rw[Bd]at p;obtain⟨b,a,cap,m,ty,h1,h2,h3,h4,h5,h6,h7⟩:=k;exact⟨b,a,cap,m,ty,(h1▸h.pre tid p).ak,h2,h3,h4,h5,h.xg _ _ h6,h7⟩
 | .op tid off,y,p,k=>by
   rw[ar]at *;rw[Bd]at p;obtain⟨b,h1,h2⟩:=k;exact⟨b,(h1▸h.pre tid p).ak,h2⟩
 | .fn f xs ys,y,p,k=>by rw[ar]at *;rw[Bd]at p;obtain⟨vs,us,e,k1,k2⟩:=k;exact⟨vs,us,e,aB.ie h xs vs p.1 k1,aB.ie h ys us p.2 k2⟩
 | .ib t x,y,p,k=>by rw[ar]at *;rw[Bd]at p;obtain⟨v,e,k⟩:=k;exact⟨v,e,ar.ie h x v p k⟩
 | .mp tid,y,p,k=>by
   rw[ar]at *;rw[Bd]at p;obtain⟨b,h1,h2⟩:=k;exact⟨b,(h1▸h.pre tid p).ak,h2⟩
theorem aB.ie{n base:Nat}(h:bS n base ι S w ι' S' w'):∀(as:List AV) (vs:List Value),lV n as→aB ι S w as vs→aB ι' S' w' as vs
 | [],vs,p,k=>by simpa using k
 | a:: as,[],p,k=>by simp at k
 | a:: as,v:: vs,p,k=>by simp at k;rw[lV]at p;simpa using⟨ar.ie h a v p.1 k.1,aB.ie h as vs p.2 k.2⟩
theorem bE.ie{n base:Nat}(h:bS n base ι S w ι' S' w'):∀(cs:List AV) (b off:Nat),lV n cs→bE ι S w cs b off→bE ι' S' w' cs b off
 | [],b,off,p,k=>by simp[bE]
 | c:: cs,b,off,p,k=>by
   rw[bE]at *;rw[lV]at p;obtain⟨⟨u,h1,h2,h3⟩,k2⟩:=k;exact⟨⟨u,by rw[h.cell b off h2];exact h1,h.sub _ _ h2,ar.ie h c u p.1 h3⟩,bE.ie h cs b (off+1) p.2 k2⟩
theorem cn.ie{n base:Nat}(h:bS n base ι S w ι' S' w')(sz:Nat):∀(rows:List (List AV)) (b off:Nat),wj n rows→cn ι S w sz rows b off→cn ι' S' w' sz rows b off
 | [],b,off,p,k=>by simp[cn]
 | r:: rs,b,off,p,k=>by
   rw[cn]at *;rw[wj]at p;exact⟨k.1,bE.ie h r b off p.1 k.2.1,cn.ie h sz rs b (off+sz) p.2 k.2.2⟩
end
def ar.fW{n base:Nat}(h:bS n base ι S w ι' S' w')(hn:ι.length≤n)(a:AV)(y:Value)(k:ar ι S w a y):ar ι' S' w' a y:=ar.ie h a y (ar.bd hn a y k) k
def aB.fW{n base:Nat}(h:bS n base ι S w ι' S' w')(hn:ι.length≤n)(as:List AV)(vs:List Value)(k:aB ι S w as vs):aB ι' S' w' as vs:=aB.ie h as vs (aB.bd hn as vs k) k
def bE.fW{n base:Nat}(h:bS n base ι S w ι' S' w')(hn:ι.length≤n)(cs:List AV)(b off:Nat)(k:bE ι S w cs b off):bE ι' S' w' cs b off:=bE.ie h cs b off (bE.bd hn cs b off k) k
def cn.fW{n base:Nat}(h:bS n base ι S w ι' S' w')(hn:ι.length≤n)(sz:Nat)(rows:List (List AV))(b off:Nat)(k:cn ι S w sz rows b off):cn ι' S' w' sz rows b off:=cn.ie h sz rows b off (cn.bd hn sz rows b off k) k
/-! ### Maps,and walks over them -/
section
variable (ι:List Ix) (S:aY) (w:World)
def sN:List (Nat×AV×AV)→List MapEntry→Prop
 | [],l=>l=[]
 | (n,k,c):: r,l=>∃e l',l=e:: l'∧e.born=n∧ar ι S w k e.key∧ar ι S w c e.val∧sN r l'
def sO(base:Nat)(ix:Option Ix):aK→Prop
 | .mp c es=>∃b arr,ix=some (.ak b)∧base≤b∧w.heap[b]?=some (.map arr c)∧(∀o,¬S b o)∧sN ι S w es arr.toList
 | .it m s sn l=>∃b bm,ix=some (.ak b)∧base≤b∧w.heap[b]?=some (.mapIter (some bm) s sn.toArray l)∧(∀o,¬S b o)∧ι[m]?=some (.ak bm)
 | _=>True
end
theorem sN.imp{f:AV→AV}(hf:∀a y,ar ι S w a y→ar ι' S' w' (f a) y):∀{es:List (Nat×AV×AV)} {l:List MapEntry},sN ι S w es l→sN ι' S' w' (es.map fun p=>(p.1,f p.2.1,f p.2.2)) l
 | [],_,h=>h
 | (_,_,_):: _,_,⟨e,l',h1,h2,h3,h4,h5⟩=>⟨e,l',h1,h2,hf _ _ h3,hf _ _ h4,sN.imp hf h5⟩
theorem sN.bd:∀{es:List (Nat×AV×AV)} {l:List MapEntry},sN ι S w es l→(∀p∈es,(∀y,ar ι S w p.2.1 y→ar ι' S' w' p.2.1 y)∧∀y,ar ι S w p.2.2 y→ar ι' S' w' p.2.2 y)→sN ι' S' w' es l
 | [],_,h,_=>h
 | (n,k,c):: r,_,⟨e,l',h1,h2,h3,h4,h5⟩,hb=>⟨e,l',h1,h2,(hb (n,k,c) (abn ..)).1 _ h3,(hb (n,k,c) (abn ..)).2 _ h4,sN.bd h5 fun p hp=>hb p (Lt _ hp)⟩
def sN.fW{n base:Nat}(hE:bS n base ι S w ι' S' w')(hn:ι.length≤n){es:List (Nat×AV×AV)}(h:sN ι S w es l):sN ι' S' w' es l:=
 sN.bd h fun p _=>⟨fun y=>ar.fW hE hn _ y,fun y=>ar.fW hE hn _ y⟩
theorem sO.step{n base b0:Nat}{ix ix':Option Ix}{en:aK}(h:sO ι S w base ix en)(hE:bS n b0 ι S w ι' S' w')(hn:ι.length≤n)(hix:ix'=ix)
 (same:∀b,ix=some (.ak b)→b<w.heap.size→w'.heap[b]?=w.heap[b]?∧∀o,S' b o→S b o):sO ι' S' w' base ix' en:=by
 subst hix;have lt:∀{b:Nat} {o:Obj},w.heap[b]?=some o→b<w.heap.size:=fun k=>(AS.1 k).1;cases en with
 | mp c es =>
   obtain⟨b,arr,h1,h2,h3,h4,h5⟩:=h;obtain⟨q1,q2⟩:=same b h1 (lt h3);exact⟨b,arr,h1,h2,by rw[q1];exact h3,fun o ho=>h4 o (q2 o ho),h5.fW hE hn⟩
 | it m s sn l =>
   obtain⟨b,bm,h1,h2,h3,h4,h5⟩:=h;obtain⟨q1,q2⟩:=same b h1 (lt h3);refine⟨b,bm,h1,h2,by rw[q1];exact h3,fun o ho=>h4 o (q2 o ho), ?_⟩;have hm:m<ι.length:=(eQ.1 h5).1;exact (h5▸hE.pre m (Up hm hn)).ak
 | ak=>trivial
 | tok=>trivial
 | dead=>trivial
def sO.at{base:Nat}{ix:Option Ix}{en:aK}(h:sO ι S w base ix en)(hk:(∃c es,en=.mp c es)∨∃m s sn l,en=.it m s sn l):∃b,ix=some (.ak b)∧base≤b∧b<w.heap.size:=by
 rcases hk with⟨c,es,rfl⟩|⟨m,s,sn,l,rfl⟩
 ·obtain⟨b,arr,h1,h2,h3,_⟩:=h;exact⟨b,h1,h2,(AS.1 h3).1⟩
 ·obtain⟨b,bm,h1,h2,h3,_⟩:=h;exact⟨b,h1,h2,(AS.1 h3).1⟩
end
section
open Go Go.RowKit
mutual
def Pure:AV→Prop
 | .v _|.str _|.any|.emp=>True
 | .agg cs|.ay cs|.ip cs=>aO cs
 | .sl _ rows=>cG rows
 | .own .. | .op .. | .sb .. | .mp _=>False
 | .fn _ xs ys=>aO xs∧aO ys
 | .ib _ x=>Pure x
def aO:List AV→Prop
 | []=>True
 | a:: as=>Pure a∧aO as
def cG:List (List AV)→Prop
 | []=>True
 | r:: rs=>aO r∧cG rs
end
mutual
theorem ar.pure:∀(a:AV) (y:Value),Pure a→ar ι S w a y→ar ι' S w a y
 | .v x,y,_,k=>by simpa using k
 | .str x,y,_,k=>by simpa using k
 | .any,y,_,k=>by simp
 | .agg cs,y,p,k=>by rw[ar]at *;rw[Pure]at p;obtain⟨vs,e,k⟩:=k;exact⟨vs,e,aB.pure cs vs p k⟩
 | .ay cs,y,p,k=>by rw[ar]at *;rw[Pure]at p;obtain⟨vs,e,k⟩:=k;exact⟨vs,e,aB.pure cs vs p k⟩
 | .emp,y,_,k=>by rw[ar]at *;exact k
 | .sl sz rows,y,p,k=>by
   rw[ar]at *;rw[Pure]at p;obtain⟨a,cap,e,h1,h2,h3⟩:=k;exact⟨a,cap,e,h1,h2,h3.imp id fun⟨b,off,ea,hr⟩=>⟨b,off,ea,cn.pure sz rows b off p hr⟩⟩
 | .ip cs,y,p,k=>by rw[ar]at *;rw[Pure]at p;obtain⟨b,off,e,k⟩:=k;exact⟨b,off,e,bE.pure cs b off p k⟩
 | .own id off len sz,y,p,k=>by rw[Pure]at p;exact p.elim
 | .sb id sz rows,y,p,k=>by rw[Pure]at p;exact p.elim
 | .op id off,y,p,k=>by rw[Pure]at p;exact p.elim
 | .fn f xs ys,y,p,k=>by rw[ar]at *;rw[Pure]at p;obtain⟨vs,us,e,k1,k2⟩:=k;exact⟨vs,us,e,aB.pure xs vs p.1 k1,aB.pure ys us p.2 k2⟩
 | .ib t x,y,p,k=>by rw[ar]at *;rw[Pure]at p;obtain⟨v,e,k⟩:=k;exact⟨v,e,ar.pure x v p k⟩
 | .mp id,y,p,k=>by rw[Pure]at p;exact p.elim
theorem aB.pure:∀(as:List AV) (vs:List Value),aO as→aB ι S w as vs→aB ι' S w as vs
 | [],vs,_,k=>by simpa using k
 | a:: as,[],_,k=>by simp at k
 | a:: as,v:: vs,p,k=>by rw[aO]at p;simp at k;simpa using⟨ar.pure a v p.1 k.1,aB.pure as vs p.2 k.2⟩
theorem bE.pure:∀(cs:List AV) (b off:Nat),aO cs→bE ι S w cs b off→bE ι' S w cs b off
 | [],b,off,_,k=>by simp[bE]
 | c:: cs,b,off,p,k=>by
   rw[bE]at *;rw[aO]at p;obtain⟨⟨u,h1,h2,h3⟩,k2⟩:=k;exact⟨⟨u,h1,h2,ar.pure c u p.1 h3⟩,bE.pure cs b (off+1) p.2 k2⟩
theorem cn.pure(sz:Nat):∀(rows:List (List AV)) (b off:Nat),cG rows→cn ι S w sz rows b off→cn ι' S w sz rows b off
 | [],b,off,_,k=>by simp[cn]
 | r:: rs,b,off,p,k=>by
   rw[cn]at *;rw[cG]at p;exact⟨k.1,bE.pure r b off p.1 k.2.1,cn.pure sz rs b (off+sz) p.2 k.2.2⟩
end
class Laid where
 Vk:Nat→Option (List AV)
 pure:∀g cs,Vk g=some cs→aO cs
variable [Laid]
def CA(S:aY)(w:World):Prop:=∀g cs,Laid.Vk g=some cs→bE [] S w cs g 0∧∃ty,w.shape? g=some (ty,cs.length)
def CA.fW{n base:Nat}(h:CA S w)(hE:bS n base ι S w ι' S' w'):CA S' w':=fun g cs e =>
 ⟨bE.fW (n:=0) (base:=base) (ι:=[]) (ι':=[]) ⟨fun _ q=>absurd q (aa3 _),hE.sub,hE.new,hE.cell,hE.xg,hE.mR⟩ (bY _) cs g 0 (h g cs e).1,let ⟨ty,k⟩:=(h g cs e).2;⟨ty,hE.xg _ _ k⟩⟩
def uQ(base:Nat)(S:aY)(w:World)(e sz n:Nat)(v:Value):Prop:=
 ∃a cap,v=.slice a n cap∧n≤cap∧cap≤maxLen∧(cap=0∨∃b arr fz,a=some ⟨b,0,none⟩∧base≤b∧w.heap[b]?=some (.cells arr e fz) ∧
  (∀o,o<arr.size→¬(fz.1≤o∧o<fz.2))∧cap*sz≤arr.size∧∀o,S b o→o<n*sz)
def Cs(v:Value)(b:Nat):Prop:=∃a l cap,v=.slice (some a) l cap∧a.block=b∧cap≠0
def AJ:Option Ix→Nat→Prop
 | some (.ak c),b=>c=b
 | some (.tok _ v),b=>Cs v b
 | none,_=>False
def alive:Option aK→Prop
 | some .dead|none=>False
 | _=>True
omit [Laid] in
def uQ.fF{base:Nat}{e sz n:Nat}(h:uQ base S w e sz n v)(k:∀b,Cs v b→base≤b→b<w.heap.size→w'.heap[b]?=w.heap[b]?∧∀o,S' b o→S b o):uQ base S' w' e sz n v:=by
 obtain⟨a,cap,e1,h1,h2,h3⟩:=h;refine⟨a,cap,e1,h1,h2, ?_⟩;rcases h3 with h3|⟨b,arr,fz,ea,k1,k2,k3,k4,k5⟩
 ·exact .inl h3
 ·by_cases hc:cap=0
  ·exact .inl hc
  ·have hb:b<w.heap.size:=by
    rcases uP b w.heap.size with q|q
    ·exact q
    ·rw[aby q]at k2;cases k2
   obtain⟨q1,q2⟩:=k b ⟨_,_,_,by rw[e1,ea],rfl,hc⟩ k1 hb;exact .inr ⟨b,arr,fz,ea,k1,by rw[q1];exact k2,k3,k4,fun o ho=>k5 o (q2 o ho)⟩
structure cK(base:Nat)(ι:List Ix)(S:aY)(w:World)(h:aa):Prop where
 len:ι.length=h.length
 live:∀(id:Nat) (x:jJ),h[id]?=some (.ak x)→∃b arr fz,ι[id]?=some (.ak b)∧base≤b∧w.heap[b]?=some (.cells arr x.ty fz) ∧
  (∀o,o<arr.size→¬(fz.1≤o∧o<fz.2))∧x.cells.length≤arr.size ∧
  (∀(i:Nat) (c:AV),x.cells[i]?=some c→∃v,arr[i]?=some v∧ar ι S w c v) ∧
  (x.wr=true→∀o,¬S b o)∧(∀o,S b o→o<x.cells.length)∧(x.wr=false→∀o,o<x.cells.length→S b o)
 tok:∀(id e sz n:Nat),h[id]?=some (.tok e sz n)→∃v,ι[id]?=some (.tok n v)∧uQ base S w e sz n v
 ky:∀(id:Nat) (en:aK),h[id]?=some en→sO ι S w base ι[id]? en
 inj:∀(i j b:Nat),alive h[i]?→alive h[j]?→AJ ι[i]? b→AJ ι[j]? b→i=j
 iK:∀b o,S b o→b<w.heap.size
 kC:base≤w.heap.size
 gl:CA S w
abbrev Fr:=List (Nat×AV)
def bB:Fr→Nat→AV
 | [],_=>.any
 | (s,y):: r,t=>if s=t then y else bB r t
def eY:Fr→Nat→AV→Fr
 | [],t,x=>[(t,x)]
 | (s,y):: r,t,x=>if s=t then (t,x):: r else if t<s then (t,x):: (s,y):: r else (s,y):: eY r t x
def kb(fF:List Nat)(fr:Fr):Fr:=fF.map fun t=>(t,bB fr t)
def bO(n:Nat)(fr:Fr)(d:Option Tmp)(x:AV):Fr:=match d with|some t=>if t<n then eY fr t x else fr|none=>fr
def dH(ι:List Ix)(S:aY)(w:World)(fr:Fr)(tmps:Array Value):Prop:=∀t,ar ι S w (bB fr t) (tmps.getD t undef)
omit [Laid] in
def dH.fW{fr:Fr}{tmps:Array Value}{n base:Nat}(hE:bS n base ι S w ι' S' w')(hn:ι.length≤n)(h:dH ι S w fr tmps):dH ι' S' w' fr tmps:=
 fun t=>ar.fW hE hn _ _ (h t)
omit [Laid] in
theorem fL:∀(fr:Fr) (t:Nat) (x:AV) (u:Nat),bB (eY fr t x) u=if t=u then x else bB fr u
 | [],t,x,u=>by simp[eY,bB]
 | (s,y):: r,t,x,u=>by
  unfold eY;split
  ·rename_i h;subst h;simp only[bB];split<;>rfl
  ·split
   ·simp only[bB]
   ·simp only[bB];rw[fL r t x u];split
    ·rename_i h1 h2 h3;split
     ·omega
     ·rfl
    ·rfl
omit [Laid] in
def LF:∀(fr:Fr) {t u:Nat} (x y:AV),t≠u→eY (eY fr t x) u y=eY (eY fr u y) t x:=by
 have key:∀(fr:Fr) {t u:Nat} (x y:AV),t<u→eY (eY fr t x) u y=eY (eY fr u y) t x:=by
  intro fr;induction fr with
  | nil =>
    intro t u x y h;have h1:t≠u:=by omega
    have h2:¬u<t:=by omega
    simp[eY,h1,h2,h,Ne.symm h1]
  | cons p r ih =>
    intro t u x y h;obtain⟨s,z⟩:=p;have h1:t≠u:=by omega
    have h2:¬u<t:=by omega
    by_cases a:s=t
    ·subst a;have e1:¬u<s:=by omega
     simp[eY,h1,e1]
    ·by_cases b:s=u
     ·subst b;have e1:s≠t:=by omega
      simp[eY,h1,e1,h,h2]
     ·by_cases c:t<s
      ·by_cases d:u<s
       ·simp[eY,a,b,c,d,h1,h2,h,Ne.symm h1]
       ·simp[eY,a,b,c,d,h1,h2]
      ·by_cases d:u<s
       ·omega
       ·simp[eY,a,b,c,d,ih x y h]
 intro fr t u x y h;rcases Nat.lt_or_gt_of_ne h with q|q
 ·exact key fr x y q
 ·exact (key fr y x q).symm
structure St where
 n:Nat
 fr:Fr
 h:aa
structure bZ(base:Nat)(ι:List Ix)(S:aY)(a:Act)(w:World)(st:St):Prop where
 df:a.defers=[]
 sz:a.tmps.size=st.n
 fr:dH ι S w st.fr a.tmps
 hp:cK base ι S w st.h
def dz(m base:Nat)(ι:List Ix)(S:aY)(w:World)(Q:Exit→St→Prop):Exit→Act→World→Prop:=fun e a' w' =>
 ∃ι' S' st',bS m base ι S w ι' S' w'∧m≤st'.h.length∧bZ base ι' S' a' w' st'∧Q e st'
def AW(P:Program)(m:Nat)(c:Code)(Q:Exit→St→Prop)(st:St):Prop:=
 ∀base ι S a w,m≤st.h.length→bZ base ι S a w st→c.wp P (dz m base ι S w Q) a w
abbrev iL(next:St→Prop)(Q:Exit→St→Prop):Exit→St→Prop
 | .normal,st=>next st
 | e,st=>Q e st
def dz.trans{m base:Nat}{ι ι':List Ix}{S S':aY}{w w':World}{Q:Exit→St→Prop}{e:Exit}{a'':Act}{w'':World}
 (hE:bS m base ι S w ι' S' w') (h:dz m base ι' S' w' Q e a'' w''):dz m base ι S w Q e a'' w'':=
 let ⟨ι'',S'',st'',h1,h2,h3,h4⟩:=h;⟨ι'',S'',st'',hE.trans h1,h2,h3,h4⟩
section
variable {P:Program} {m:Nat} {Q:Exit→St→Prop} {st:St}
def GI(h:Q .normal st):AW P m .skip Q st:=
 fun _ ι S _ _ hm hr=>wp_skip ⟨ι,S,st,bS.refl _ _ _ _ _,hm,hr,h⟩
def JW(h:Q .ret st):AW P m .ret Q st:=
 fun _ ι S _ _ hm hr=>wp_ret ⟨ι,S,st,bS.refl _ _ _ _ _,hm,hr,h⟩
def GF{id:Nat}(h:Q (.exit id) st):AW P m (.exit id) Q st:=
 fun _ ι S _ _ hm hr=>wp_exit ⟨ι,S,st,bS.refl _ _ _ _ _,hm,hr,h⟩
def DY(h:Q .normal st):AW P m (.label l) Q st:=
 fun _ ι S _ _ hm hr=>wp_label ⟨ι,S,st,bS.refl _ _ _ _ _,hm,hr,h⟩
def GG(h:Q (.goto l) st):AW P m (.goto l) Q st:=
 fun _ ι S _ _ hm hr=>wp_goto ⟨ι,S,st,bS.refl _ _ _ _ _,hm,hr,h⟩
def zQ(h:AW P m x (iL (AW P m y Q) Q) st):AW P m (.seq x y) Q st:=by
 intro base ι S a w hm hr;refine wp_seq (wp_mono (h base ι S a w hm hr) ?_);intro e a' w' k;obtain⟨ι',S',st',h1,h2,h3,h4⟩:=k;cases e with
 | normal=>exact wp_mono (h4 base ι' S' a' w' h2 h3) fun _ _ _ k=>k.trans h1
 | exit id=>exact⟨ι',S',st',h1,h2,h3,h4⟩
 | goto l=>exact⟨ι',S',st',h1,h2,h3,h4⟩
 | ret=>exact⟨ι',S',st',h1,h2,h3,h4⟩
 | panic ch=>exact⟨ι',S',st',h1,h2,h3,h4⟩
 | outgrown=>exact⟨ι',S',st',h1,h2,h3,h4⟩
def Af(id:Nat)(Q:Exit→St→Prop):Exit→St→Prop
 | .exit id',st=>if id'=id then Q .normal st else Q (.exit id') st
 | e,st=>Q e st
def DW{id:Nat}(h:AW P m c (Af id Q) st):AW P m (.block id c) Q st:=by
 intro base ι S a w hm hr;refine wp_block (wp_mono (h base ι S a w hm hr) ?_);intro e a' w' k;obtain⟨ι',S',st',h1,h2,h3,h4⟩:=k;cases e with
 | exit id' =>
   simp only[Exit.inBlock,Af]at h4 ⊢;split
   ·rename_i he;rw[if_pos he]at h4;exact⟨ι',S',st',h1,h2,h3,h4⟩
   ·rename_i he;rw[if_neg he]at h4;exact⟨ι',S',st',h1,h2,h3,h4⟩
 | normal=>exact⟨ι',S',st',h1,h2,h3,h4⟩
 | goto l=>exact⟨ι',S',st',h1,h2,h3,h4⟩
 | ret=>exact⟨ι',S',st',h1,h2,h3,h4⟩
 | panic ch=>exact⟨ι',S',st',h1,h2,h3,h4⟩
 | outgrown=>exact⟨ι',S',st',h1,h2,h3,h4⟩
def bZ.get{base:Nat}{st:St}(hr:bZ base ι S a w st)(t:Nat):
 ar ι S w (bB st.fr t) (a.tmps.getD t undef):=hr.fr t
omit [Laid] in
def dH.put{fr:Fr}{tmps:Array Value}(h:dH ι S w fr tmps)(ht:t<tmps.size)(r:ar ι S w x v):dH ι S w (eY fr t x) (tmps.setIfInBounds t v):=by
 intro u;rw[fL]
 by_cases hu:t=u
 ·subst hu;rw[if_pos rfl];simpa[Array.getD_eq_getD_getElem?,ht]using r
 ·rw[if_neg hu];have:=h u;simpa[Array.getD_eq_getD_getElem?,Array.getElem?_setIfInBounds,hu]using this
omit [Laid] in
def dH.Dd{fr:Fr}{tmps:Array Value}(h:dH ι S w fr tmps)(r:ar ι S w x (tmps.getD t undef)):dH ι S w (eY fr t x) tmps:=by
 intro u;rw[fL]
 by_cases hu:t=u
 ·subst hu;rw[if_pos rfl];exact r
 ·rw[if_neg hu];exact h u
omit [Laid] in
def KL(fF:List Nat)(fr:Fr)(t:Nat):bB (kb fF fr) t=bB fr t∨bB (kb fF fr) t=.any:=by
 unfold kb;induction fF with
 | nil=>exact .inr rfl
 | cons k r ih =>
   simp only[GO,bB];split
   ·rename_i h;subst h;exact .inl rfl
   ·exact ih
omit [Laid] in
def dH.norm{fr:Fr}{tmps:Array Value}(h:dH ι S w fr tmps)(fF:List Nat):dH ι S w (kb fF fr) tmps:=by
 intro t;rcases KL fF fr t with e|e
 ·rw[e];exact h t
 ·rw[e];simp
theorem bZ.put{base:Nat}{st:St}(hr:bZ base ι S a w st)(d:Option Tmp)(h:ar ι S w x v):
 bZ base ι S (a.put d v) w ⟨st.n,bO st.n st.fr d x,st.h⟩:=by
 cases d with
 | none=>exact hr
 | some t =>
   by_cases ht:t<st.n
   ·have hsz:=hr.sz;refine⟨hr.df,by simpa[Act.put]using hr.sz, ?_,hr.hp⟩;simp only[Act.put,bO,if_pos ht];exact dH.put hr.fr (by rw[hsz];exact ht) h
   ·refine⟨hr.df,by simpa[Act.put]using hr.sz, ?_,hr.hp⟩;have:a.tmps.setIfInBounds t v=a.tmps:=by
     have hs:=hr.sz;have hge:¬t<a.tmps.size:=by rw[hs];exact ht
     simp[Array.setIfInBounds,hge]
    simp only[Act.put,bO,if_neg ht,this];exact hr.fr
end
omit [Laid] in
theorem wp_loop_ghost{α:Type}{P:Program}{Q:Exit→Act→World→Prop}{c:Code}(I:α→Act→World→Prop)(μ:α→Nat)(x₀:α)(h₀:I x₀ a w)
 (round:∀x a w,I x a w→c.wp P (Exit.then (fun a' w' => ∃y,I y a' w'∧μ y<μ x) Q) a w):(Code.loop c).wp P Q a w:=by
 intro b k cs;have key:∀n x a w,μ x=n→I x a w→∃e a' w',Q e a' w'∧Arrives P (lone (b.at a (.code c:: .inLoop c:: k)) cs w) b k cs e a' w':=by
  intro n;induction n using Nat.strongRecOn with
  | _ n ih =>
    intro x a w hn hI;obtain⟨e,a₁,w₁,hq,harr⟩:=round x a w hI b (.inLoop c:: k) cs;cases e with
    | normal =>
      obtain⟨y,hI₁,hlt⟩:=hq;obtain⟨e₂,a₂,w₂,hq₂,harr₂⟩:=ih (μ y) (hn▸hlt) y a₁ w₁ rfl hI₁;exact⟨e₂,a₂,w₂,hq₂,.of_steps (Steps.trans harr (.one step_inLoop)) harr₂⟩
    | exit id=>exact⟨_,a₁,w₁,hq,.pass (x:=.inLoop c) rfl (fun _ _=>.inl (by simp)) harr⟩
    | goto l=>exact⟨_,a₁,w₁,hq,.pass (x:=.inLoop c) rfl (fun _ _=>.inl (by simp)) harr⟩
    | ret=>exact⟨_,a₁,w₁,hq,.pass (x:=.inLoop c) rfl (fun _ _=>.inl (by simp)) harr⟩
    | panic ch=>exact⟨_,a₁,w₁,hq,.pass (x:=.inLoop c) rfl (fun _ _=>.inl (by simp)) harr⟩
    | outgrown=>exact⟨_,a₁,w₁,hq,.pass (x:=.inLoop c) rfl (fun _ _=>.inl (by simp)) harr⟩
 obtain⟨e,a',w',hq,harr⟩:=key _ x₀ a w rfl h₀;exact⟨e,a',w',hq,.of_steps (.one step_loop) harr⟩
def bW(P:Program)(f:FuncId)(args:List AV)(h:aa)(K:AV→aa→Prop):Prop:=
 ∀base ι S w vs,aB ι S w args vs→cK base ι S w h→Calls P f vs.toArray w fun e w' =>
  ∃v ι' S' r h',e=.returned v∧bS h.length base ι S w ι' S' w'∧ar ι' S' w' r v∧cK base ι' S' w' h'∧h.length≤h'.length∧K r h'
def bW.mono{args:List AV}{K K':AV→aa→Prop}(c:bW P f args h K)(hk:∀r h',K r h'→K' r h'):bW P f args h K':=
 fun base ι S w vs h1 h2=>(c base ι S w vs h1 h2).mono fun _ _ ⟨v,ι',S',r,h',a1,a2,a3,a4,a5,a6⟩=>⟨v,ι',S',r,h',a1,a2,a3,a4,a5,hk _ _ a6⟩
def bn(P:Program)(f:FuncId)(args:List AV)(r:AV):Prop:=aO args∧Pure r∧bW P f args [] fun r' _=>r'=r
def cK.nil(S:aY)(w:World)(h:∀b o,S b o→b<w.heap.size)(hg:CA S w):cK w.heap.size [] S w []:=
 ⟨rfl,by simp,by simp,by simp,fun i j b hi _=>by simp[alive]at hi,h,bY _,hg⟩
def cK.over{base:Nat}(hh:cK base ι S w h)(hE:bS ι.length w.heap.size ι S w ι S' w')(hst:∀b o,S' b o→b<w'.heap.size):cK base ι S' w' h:=by
 refine⟨hh.len,fun id x e=>?_,fun id t sz n e=>?_,fun id en e=>(hh.ky id en e).step hE (bY _) rfl fun b _ hb=>⟨hE.mR.block b hb,fun o ho=>(hE.new b o ho).elim (fun q=>q) fun k=>absurd hb (Nat.not_lt.2 k)⟩,hh.inj,hst,aa7 hh.kC hE.mR.size,hh.gl.fW hE⟩;rotate_left
 ·obtain⟨v,h1,h2⟩:=hh.tok id t sz n e;refine⟨v,h1,h2.fF fun b hb _ hlt=>⟨hE.mR.block b hlt,fun o ho=>?_⟩⟩;rcases hE.new b o ho with k|k
  ·exact k
  ·omega
 obtain⟨b,arr,fz,h1,h2,h3,h4,h5,h6,h7,h8,h9⟩:=hh.live id x e;have hb:b<w.heap.size:=by
  rcases uP b w.heap.size with k|k
  ·exact k
  ·rw[aby k]at h3;cases h3
 refine⟨b,arr,fz,h1,h2,by rw[hE.mR.block b hb];exact h3,h4,h5,fun i c e=>?_,fun hw o ho=>?_,fun o ho=>?_,fun q o ho=>hE.sub _ _ (h9 q o ho)⟩
 ·obtain⟨v,e1,e2⟩:=h6 i c e;exact⟨v,e1,ar.fW hE (bY _) c v e2⟩
 ·rcases hE.new b o ho with k|k
  ·exact h7 hw o k
  ·omega
 ·rcases hE.new b o ho with k|k
  ·exact h8 o k
  ·omega
def bn.call{args:List AV}(c:bn P f args r){K:AV→aa→Prop}(hk:K r h):bW P f args h K:=by
 obtain⟨pa,pr,c⟩:=c;intro base ι S w vs h1 h2;refine (c w.heap.size [] S w vs (aB.pure args vs pa h1) (cK.nil S w h2.iK h2.gl)).mono ?_;rintro e w' ⟨v,ι',S',r',h',e1,e2,e3,e4,_,rfl⟩;have hE:bS ι.length w.heap.size ι S w ι S' w':=⟨fun _ _=>fX.refl _,e2.sub,e2.new,e2.cell,e2.xg,e2.mR⟩;exact⟨v,ι,S',r',h,e1,hE.mono (by rw[h2.len];exact bY _) h2.kC,ar.pure r' v pr e3,h2.over hE e4.iK,bY _,hk⟩
end
section
open Go Go.RowKit
variable [Laid]
/-! ### Values -/
def pT:Value→AV
 | .string s=>if s.size≤maxLen then .str s.data.toList else .any
 | x=>.v x
def kD:Value→AV
 | .agg cs=>.agg (cs.toList.map pT)
 | x=>pT x
omit [Laid] in
theorem uN(ι:List Ix)(S:aY)(w:World)(x:Value):ar ι S w (pT x) x:=by
 unfold pT;split
 ·split
  ·rename_i s h;cases s with
   | mk d=>simpa[ByteArray.size]using h
  ·simp
 ·simp
omit [Laid] in
theorem tM(ι:List Ix)(S:aY)(w:World)(x:Value):ar ι S w (kD x) x:=by
 unfold kD;split
 ·rename_i cs;rw[ar];refine⟨cs.toList,by simp,aB.mk (by simp) fun i a v e f=>?_⟩;simp only[iN,f,abw,On]at e;subst e;exact uN ι S w v
 ·exact uN ι S w x
def aE(fr:Fr):Operand→AV
 | .tmp t=>bB fr t
 | .const v=>kD v
 | .global g=>match Laid.Vk g with|some cs=>.ip cs|none=>.any
 | .func f=>.fn (.func f) [] []
theorem bZ.eval{base:Nat}{ι:List Ix}{S:aY}{a:Act}{w:World}{st:St}(hr:bZ base ι S a w st)(x:Operand):ar ι S w (aE st.fr x) (a.eval x):=by
 cases x with
 | tmp t=>exact hr.get t
 | const v=>exact tM ι S w v
 | global g =>
   simp only[aE,Act.eval];split
   ·rename_i cs e;rw[ar];exact⟨g,0,rfl,bE.pure cs g 0 (Laid.pure g cs e) (hr.hp.gl g cs e).1⟩
   ·simp
 | func f=>simp only[aE,Act.eval];rw[ar];exact⟨[],[],rfl,by simp,by simp⟩
def bh:AV→List AV
 | .agg cs=>cs
 | x=>[x]
def bG:AV→Bool
 | .v x=>x.oneCell'
 | .any|.agg _|.ay _=>false
 | _=>true
omit [Laid] in
theorem zF{ι:List Ix}{S:aY}{w:World}{a:AV}{v:Value}(h:bG a=true)(r:ar ι S w a v):v.oneCell'=true:=by
 cases a<;>simp only[bG,aaX]at h
 case v x=>simp at r;subst r;exact h
 case str l=>simp at r;rw[r.1];rfl
 case emp=>rw[ar]at r;obtain⟨a,rfl⟩:=r;rfl
 case sl=>rw[ar]at r;obtain⟨a,cap,rfl,_⟩:=r;rfl
 case sb=>rw[ar]at r;obtain⟨⟨a,cap,rfl,_⟩,_⟩:=r;rfl
 case ip=>rw[ar]at r;obtain⟨a,cap,rfl,_⟩:=r;rfl
 case own=>rw[ar]at r;obtain⟨b,a,cap,n,ty,_,rfl,_⟩:=r;rfl
 case op=>rw[ar]at r;obtain⟨b,_,rfl⟩:=r;rfl
 case fn=>rw[ar]at r;obtain⟨b,c,rfl,_⟩:=r;rfl
 case ib=>rw[ar]at r;obtain⟨b,rfl,_⟩:=r;rfl
 case mp=>rw[ar]at r;obtain⟨b,_,rfl⟩:=r;rfl
omit [Laid] in
theorem Lk{v:Value}(h:v.oneCell'=true):v.cells=#[v]:=by cases v<;>first|rfl|cases h
omit [Laid] in
theorem uO{ι:List Ix}{S:aY}{w:World}{a:AV}{v:Value}(r:ar ι S w a v)(h:(bh a).all bG=true):∃vs:List Value,v.cells=vs.toArray∧aB ι S w (bh a) vs∧∀u∈vs,u.oneCell'=true:=by
 have key:∀{cs:List AV} {vs:List Value},aB ι S w cs vs→cs.all bG=true→∀u∈vs,u.oneCell'=true:=by
  intro cs;induction cs with
  | nil=>intro vs h _ u hu;simp at h;subst h;cases hu
  | cons c cs ih =>
    intro vs h hs u hu;cases vs with
    | nil=>simp at h
    | cons v vs =>
      simp at h hs;simp only[ID]at hu;rcases hu with rfl|hu
      ·exact zF hs.1 h.1
      ·exact ih h.2 (by simpa using hs.2) u hu
 cases a
 case agg cs =>
  rw[ar]at r;obtain⟨vs,rfl,k⟩:=r;exact⟨vs,rfl,k,key k h⟩
 all_goals
  simp only[bh,abg,List.all_nil,Bool.and_true]at h;have:=zF h r;exact⟨[v],by rw[Lk this],(bP _ _ _ _).2 ⟨r,by simp⟩,by simpa using this⟩
/-! ### Memory -/
omit [Laid] in
theorem yG{w:World}(o:Obj){b:Nat}{x:TypeId×Nat}(h:w.shape? b=some x):(w.alloc o).shape? b=some x:=by
 unfold World.shape? at *;have hb:b<w.heap.size:=by
  rcases uP b w.heap.size with k|k
  ·exact k
  ·rw[aby k]at h;cases h
 rw[show (w.alloc o).heap[b]?=w.heap[b]? from Below.heap_alloc w o b hb];exact h
omit [Laid] in
theorem bS.alloc{base:Nat}{ι:List Ix}{S:aY}{w:World}(hb:base≤w.heap.size)(hs:∀b o,S b o→b<w.heap.size)(o:Obj)(k:List Ix):bS ι.length base ι S w (ι++k) S (w.alloc o):=
 ⟨fun i hi=>fX.of_eq (gO hi),fun _ _ h=>h,fun _ _ h=>.inl h,
  fun b f h=>World.cell?_of_block (w:=w) (Below.heap_alloc w o b (hs b f h)),fun _ _ h=>yG o h,(Below.refl _ _).alloc hb o⟩
omit [Laid] in
theorem xO{w:World}{b:Nat}{o:Obj}(k:w.heap[b]?=some o):b<w.heap.size:=by
 rcases uP b w.heap.size with q|q
 ·exact q
 ·rw[aby q]at k;cases k
theorem cK.vZ{base:Nat}{ι ι':List Ix}{S S':aY}{w w':World}{h h':aa}(hh:cK base ι S w h)(hE:bS ι.length base ι S w ι' S' w')(hlen:ι'.length=h'.length)(T:Nat)
 (old:∀i,i≠T→alive h'[i]?→h'[i]?=h[i]?∧ι'[i]?=ι[i]?∧∀b,AJ ι[i]? b→b<w.heap.size→w'.heap[b]?=w.heap[b]?∧∀o,S' b o→S b o)
 (newb:∀x,h'[T]?=some (.ak x)→∃b arr fz,ι'[T]?=some (.ak b)∧base≤b∧w'.heap[b]?=some (.cells arr x.ty fz)∧(∀o,o<arr.size→¬(fz.1≤o∧o<fz.2))∧x.cells.length≤arr.size ∧
  (∀(i:Nat) (c:AV),x.cells[i]?=some c→∃v,arr[i]?=some v∧ar ι' S' w' c v)∧(x.wr=true→∀o,¬S' b o)∧(∀o,S' b o→o<x.cells.length)∧(x.wr=false→∀o,o<x.cells.length→S' b o))
 (newt:∀e sz n,h'[T]?=some (.tok e sz n)→∃v,ι'[T]?=some (.tok n v)∧uQ base S' w' e sz n v)
 (newo:∀en,h'[T]?=some en→sO ι' S' w' base ι'[T]? en)
 (hinj:∀j b,j≠T→alive h'[T]?→alive h'[j]?→AJ ι'[T]? b→AJ ι'[j]? b→False)
 (hstb:∀b o,S' b o→b<w'.heap.size) (hbas:base≤w'.heap.size):cK base ι' S' w' h':=by
 refine⟨hlen,fun id x e=>?_,fun id t sz n e=>?_,fun id en e=>?_,fun i j b ai aj hi hj=>?_,hstb,hbas,hh.gl.fW hE⟩;rotate_left 2
 ·by_cases q:id=T
  ·subst q;exact newo en e
  ·by_cases hd:en=.dead
   ·subst hd;trivial
   ·obtain⟨o1,o2,o3⟩:=old id q (by rw[e];cases en<;>first|trivial|exact absurd rfl hd);exact (hh.ky id en (o1▸e)).step hE (bY _) o2 fun b hb=>o3 b (by rw[hb];rfl)
 rotate_left 1
 ·by_cases q:id=T
  ·subst q;exact newb x e
  ·obtain⟨o1,o2,o3⟩:=old id q (by rw[e];exact trivial);obtain⟨b,arr,fz,h1,h2,h3,h4,h5,h6,h7,h8,h9⟩:=hh.live id x (o1▸e);obtain⟨p1,p2⟩:=o3 b (by rw[h1];rfl) (xO h3);exact⟨b,arr,fz,o2.trans h1,h2,p1.trans h3,h4,h5,fun i c ec=>let ⟨v,e1,e2⟩:=h6 i c ec;⟨v,e1,ar.fW hE (bY _) c v e2⟩,
    fun hw o ho=>h7 hw o (p2 o ho),fun o ho=>h8 o (p2 o ho),fun hw o ho=>hE.sub _ _ (h9 hw o ho)⟩
 ·by_cases q:id=T
  ·subst q;exact newt t sz n e
  ·obtain⟨o1,o2,o3⟩:=old id q (by rw[e];exact trivial);obtain⟨v,h1,h2⟩:=hh.tok id t sz n (o1▸e);exact⟨v,o2.trans h1,h2.fF fun b hb _ hlt=>o3 b (by rw[h1];exact hb) hlt⟩
 ·by_cases q:i=T
  ·by_cases r:j=T
   ·rw[q,r]
   ·subst q;exact (hinj j b r ai aj hi hj).elim
  ·by_cases r:j=T
   ·subst r;exact (hinj i b q aj ai hj hi).elim
   ·obtain⟨o1,o2,_⟩:=old i q ai;obtain⟨p1,p2,_⟩:=old j r aj;exact hh.inj i j b (o1▸ai) (p1▸aj) (o2▸hi) (p2▸hj)
theorem cK.BS{base:Nat}{ι:List Ix}{S:aY}{w:World}{h:aa}(hh:cK base ι S w h){i b:Nat}(ha:alive h[i]?)(hb:AJ ι[i]? b):base≤b∧b<w.heap.size:=by
 cases e:h[i]? with
 | none=>rw[e]at ha;exact ha.elim
 | some x =>
   cases x with
   | dead=>rw[e]at ha;exact ha.elim
   | ak x =>
     obtain⟨c,arr,fz,h1,h2,h3,_⟩:=hh.live i x e;rw[h1]at hb;have:c=b:=hb;subst this;exact⟨h2,xO h3⟩
   | mp c es =>
     obtain⟨d,h1,h2,h3⟩:=(hh.ky i _ e).at (.inl ⟨_,_,rfl⟩);rw[h1]at hb;have:d=b:=hb;subst this;exact⟨h2,h3⟩
   | it m s sn l =>
     obtain⟨d,h1,h2,h3⟩:=(hh.ky i _ e).at (.inr ⟨_,_,_,_,rfl⟩);rw[h1]at hb;have:d=b:=hb;subst this;exact⟨h2,h3⟩
   | tok t sz n =>
     obtain⟨v,h1,a,cap,ev,_,_,h4⟩:=hh.tok i t sz n e;rw[h1]at hb;obtain⟨a',l',cap',ev',hb,hc⟩:=hb;rw[ev]at ev';cases ev';rcases h4 with h4|⟨c,arr,fz,ea,k1,k2,_⟩
     ·exact absurd h4 hc
     ·cases ea;simp only at hb;subst hb;exact⟨k1,xO k2⟩
omit [Laid] in
theorem Qt{α:Type}{l k:List α}{i:Nat}(h:i<l.length):(l++k)[i]?=l[i]?:=gO h
omit [Laid] in
theorem kG{α:Type}{l:List α}{x:α}:(l++[x])[l.length]?=some x:=by simp
omit [Laid] in
theorem nQ{α:Type}{l:List α}{x:α}{i:Nat}(h:i≠l.length):(l++[x])[i]?=l[i]?:=by
 rcases uP i l.length with q|q
 ·exact Qt q
 ·rw[iS (by simp;omega),iS q]
theorem cK.push{base:Nat}{ι:List Ix}{S S':aY}{w w':World}{h:aa}(hh:cK base ι S w h)(ix:Ix)(en:aK)(hE:bS ι.length base ι S w (ι++[ix]) S' w')
 (same:∀b,b<w.heap.size→base≤b→w'.heap[b]?=w.heap[b]?∧∀o,S' b o→S b o)
 (newb:∀x,en=.ak x→∃b arr fz,ix=.ak b∧base≤b∧w'.heap[b]?=some (.cells arr x.ty fz)∧(∀o,o<arr.size→¬(fz.1≤o∧o<fz.2))∧x.cells.length≤arr.size ∧
  (∀(i:Nat) (c:AV),x.cells[i]?=some c→∃v,arr[i]?=some v∧ar (ι++[ix]) S' w' c v)∧(x.wr=true→∀o,¬S' b o)∧(∀o,S' b o→o<x.cells.length)∧(x.wr=false→∀o,o<x.cells.length→S' b o))
 (newt:∀e sz n,en=.tok e sz n→∃v,ix=.tok n v∧uQ base S' w' e sz n v)
 (newo:sO (ι++[ix]) S' w' base (some ix) en)
 (hnew:en≠.dead→∀b,AJ (some ix) b→w.heap.size≤b) (hstb:∀b o,S' b o→b<w'.heap.size):cK base (ι++[ix]) S' w' (h++[en]):=by
 have hl:=hh.len;refine hh.vZ hE (by simp[hl]) h.length (fun i hi ha=>?_) (fun x e=>?_) (fun e sz n q=>?_) (fun en' q=>by rw[kG]at q;cases q;rw[←hl,kG];exact newo) (fun j b hj aT aj hi hj' => ?_) hstb (aa7 hh.kC hE.mR.size)
 ·have hi':i≠ι.length:=by rw[hl];exact hi
  refine⟨nQ hi,nQ hi',fun b hb hlt=>?_⟩;rw[nQ hi]at ha;exact same b hlt (hh.BS ha hb).1
 ·rw[kG]at e;obtain⟨b,arr,fz,h1,h2⟩:=newb x (by simpa using e);exact⟨b,arr,fz,by rw[←hl,kG,h1],h2⟩
 ·rw[kG]at q;obtain⟨v,h1,h2⟩:=newt e sz n (by simpa using q);exact⟨v,by rw[←hl,kG,h1],h2⟩
 ·rw[←hl,kG]at hi;rw[nQ hj]at aj;rw[nQ (by rw[hl];exact hj)]at hj';have hd:en≠.dead:=by rintro rfl;rw[kG]at aT;exact aT
  have h1:=hnew hd b hi;have h2:=(hh.BS aj hj').2;omega
theorem cK.alloc{base:Nat}{ι:List Ix}{S:aY}{w:World}{h:aa}(hh:cK base ι S w h)(t:TypeId)(cs:List AV)(vs:List Value)(r:aB ι S w cs vs)(fz:Nat×Nat:=(0,0))(more:List Value:=[])
 (hf:∀o,o<vs.length+more.length→¬(fz.1≤o∧o<fz.2)) :
 cK base (ι++[.ak w.heap.size]) S (w.alloc (.cells (vs++more).toArray t fz)) (h++[.ak ⟨t,cs,true⟩]):=by
 have hE:bS ι.length base ι S w (ι++[.ak w.heap.size]) S (w.alloc (.cells (vs++more).toArray t fz)):=bS.alloc hh.kC (fun b o=>hh.iK b o) _ _;have hnew:(w.alloc (.cells (vs++more).toArray t fz)).heap[w.heap.size]?=some (.cells (vs++more).toArray t fz):=by
  show (w.heap.push _)[w.heap.size]?=_;simp
 have hl:=r.length;have hf':∀o,o<(vs++more).toArray.size→¬(fz.1≤o∧o<fz.2):=by intro o ho;exact hf o (by simpa using ho)
 refine hh.push _ _ hE (fun b hb _=>⟨Below.heap_alloc w _ b hb,fun _ q=>q⟩) (fun x e=>?_) (fun _ _ _ e=>by cases e) trivial (fun _ b hb=>?_) (fun b o s=>?_)
 ·cases e;refine⟨w.heap.size,(vs++more).toArray,fz,rfl,hh.kC,hnew,hf',by simp[hl]<;>omega,fun i c e=>?_,fun _ o s=>?_,fun o s=>?_,fun q=>by cases q⟩
  ·obtain⟨v,e1,e2⟩:=r.get i c e;obtain⟨hi,_⟩:=eQ.1 e1;exact⟨v,by simp only[List.getElem?_toArray];rw[gO hi];exact e1,ar.fW hE (bY _) c v e2⟩
  ·have:=hh.iK _ _ s;omega
  ·have:=hh.iK _ _ s;omega
 ·have:w.heap.size=b:=hb;omega
 ·have:=hh.iK b o s;show b<(w.heap.push _).size;simp;omega
omit [Laid] in
theorem tq{w:World}{b:Nat}{arr:Array Value}{t:TypeId}{fz:Nat×Nat}(h:w.heap[b]?=some (.cells arr t fz))(o:Nat)(v:Value):
 (w.setCell ⟨b,o,none⟩ v).heap[b]?=some (.cells (arr.setIfInBounds o v) t fz):=by
 simp only[World.setCell,Array.getElem?_modify,if_true,h,abw];simp
omit [Laid] in
theorem wC{w:World}(a:Addr)(v:Value)(b:Nat):(w.setCell a v).shape? b=w.shape? b:=by
 unfold World.shape? World.setCell;simp only[Array.getElem?_modify]
 by_cases hb:a.block=b
 ·simp only[hb,if_true];cases h:w.heap[b]? with
  | none=>rfl
  | some o=>cases o<;>simp;split<;>simp
 ·simp only[hb,if_false]
theorem cK.set{base:Nat}{ι:List Ix}{S:aY}{w:World}{h:aa}(hh:cK base ι S w h){id:Nat}{x:jJ}(e:h[id]?=some (.ak x))(hw:x.wr=true){b:Nat}(hb:ι[id]?=some (.ak b))
 {o:Nat} (ho:o<x.cells.length) {c:AV} {v:Value} (r:ar ι S w c v) :
 bS ι.length base ι S w ι S (w.setCell ⟨b,o,none⟩ v)∧cK base ι S (w.setCell ⟨b,o,none⟩ v) (h.set id (.ak { x with cells:=x.cells.set o c })):=by
 obtain⟨b',arr,fz,h1,h2,h3,h4,h5,h6,h7,h8,h9⟩:=hh.live id x e;rw[hb]at h1;cases h1;have hlt:id<h.length:=(eQ.1 e).1;have hE:bS ι.length base ι S w ι S (w.setCell ⟨b,o,none⟩ v):=by
  refine⟨fun _ _=>fX.refl _,fun _ _ h=>h,fun _ _ h=>.inl h,fun b' o' s=>?_,fun b' y hy=>by rw[wC];exact hy,(Below.refl _ _).setCell h2 v⟩;have hne:b'≠b:=fun q=>h7 hw o' (q▸s);exact World.cell?_of_block (w:=w) (Below.heap_setCell w _ v b' hne)
 refine⟨hE,hh.vZ hE (by simp[hh.len]) id (fun i hi ha=>?_) (fun y ey=>?_) (fun t sz n q=>?_) (fun en q=>by rw[iD hlt]at q;cases q;trivial) (fun j c' hj _ aj hi hj' => ?_) (fun b' o' s=>by have:=hh.iK b' o' s;simpa[World.setCell]using this) (by have:=hh.kC;simpa[World.setCell]using this)⟩
 ·rw[iF (Ne.symm hi)]at ha ⊢;refine⟨rfl,rfl,fun c' hc _=>⟨Below.heap_setCell w _ v c' fun q=>?_,fun _ q=>q⟩⟩;simp only at q;subst q;exact hi (hh.inj i id c' ha (by rw[e];exact trivial) hc (by rw[hb];rfl))
 ·rw[iD hlt]at ey;cases ey;refine⟨b,arr.setIfInBounds o v,fz,hb,h2,tq h3 o v,by simpa using h4,by simpa using h5,fun i d ed=>?_,h7,by simpa using h8,fun q=>by rw[hw]at q;cases q⟩
  by_cases hi:i=o
  ·subst hi;simp only[iD ho,On]at ed;subst ed;refine⟨v, ?_,ar.fW hE (bY _) c v r⟩;rw[Array.getElem?_setIfInBounds];simp;omega
  ·have ed':x.cells[i]?=some d:=by rw[iF (Ne.symm hi)]at ed;exact ed
   obtain⟨u,e1,e2⟩:=h6 i d ed';exact⟨u,by rw[Array.getElem?_setIfInBounds_ne (Ne.symm hi)];exact e1,ar.fW hE (bY _) d u e2⟩
 ·rw[iD hlt]at q;cases q
 ·rw[iF (Ne.symm hj)]at aj;exact hj (hh.inj j id c' aj (by rw[e];exact trivial) hj' hi)
def bX:List AV→Nat→List AV→List AV
 | cells,_,[]=>cells
 | cells,o,c:: cs=>bX (cells.set o c) (o+1) cs
omit [Laid] in
theorem qp:∀(cs cells:List AV) (o:Nat),(bX cells o cs).length=cells.length
 | [],_,_=>rfl
 | c:: cs,cells,o=>by rw[bX,qp cs];simp
omit [Laid] in
theorem addr_add(b o i:Nat):(⟨b,o,none⟩:Addr).add i=⟨b,o+i,none⟩:=by
 unfold Addr.add;split
 ·simp_all
 ·rfl
omit [Laid] in
theorem gb{w:World}{b:Nat}{arr:Array Value}{t:TypeId}{fz:Nat×Nat}(h:w.heap[b]?=some (.cells arr t fz))(o:Nat):w.cell? ⟨b,o,none⟩=arr[o]?:=by
 unfold World.cell?;simp[h]
omit [Laid] in
theorem pW{w:World}{b:Nat}{arr:Array Value}{t:TypeId}{fz:Nat×Nat}(h:w.heap[b]?=some (.cells arr t fz))(o:Nat):w.frozen? ⟨b,o,none⟩=(decide (fz.1≤o)&&decide (o<fz.2)):=by
 unfold World.frozen?;simp[h]
theorem uC{P:Program}{base:Nat}{ι:List Ix}{S:aY}:∀(vs:List Value) (cs:List AV) (w:World) (h:aa),cK base ι S w h→∀{id:Nat} {x:jJ} {b:Nat},h[id]?=some (.ak x)→x.wr=true→ι[id]?=some (.ak b) →
 ∀(o i:Nat),o+i+cs.length≤x.cells.length→aB ι S w cs vs→(∀u∈vs,u.oneCell'=true) →
 ∃w',(storeCells ⟨b,o,none⟩ vs i).run P w=.ok () w'∧bS ι.length base ι S w ι S w'∧cK base ι S w' (h.set id (.ak { x with cells:=bX x.cells (o+i) cs }))
 | [],cs,w,h,hh,id,x,b,e,hw,hb,o,i,hl,r,hv=>by
   have:cs=[]:=by have:=r.length;simpa using this
   subst this;refine⟨w,rfl,bS.refl _ _ _ _ _, ?_⟩;have hlt:id<h.length:=(eQ.1 e).1;have:h.set id (.ak { x with cells:=bX x.cells (o+i) [] })=h:=by
    rw[bX];refine List.ext_getElem? fun j=>?_
    by_cases hj:j=id
    ·subst hj;rw[iD hlt,e]
    ·rw[iF (Ne.symm hj)]
   rw[this];exact hh
 | v:: vs,[],w,h,hh,id,x,b,e,hw,hb,o,i,hl,r,hv=>by simp at r
 | v:: vs,c:: cs,w,h,hh,id,x,b,e,hw,hb,o,i,hl,r,hv=>by
   simp only[bP]at r;simp only[aaP]at hl;have ho:o+i<x.cells.length:=by omega
   obtain⟨hE,hH⟩:=hh.set e hw hb ho r.1;have hlt:id<h.length:=(eQ.1 e).1;obtain⟨b',arr,fz,h1,h2,h3,h4,h5,h6,h7,h8,h9⟩:=hh.live id x e;rw[hb]at h1;cases h1;have hrun:(store ((⟨b,o,none⟩:Addr).add i) v).run P w=.ok () (w.setCell ⟨b,o+i,none⟩ v):=by
    rw[addr_add,run_store P w _ v _ (hv v (by simp)),gb h3,pW h3];have:arr[o+i]?=some arr[o+i]:=UP (by omega);rw[this];have:=h4 (o+i) (by omega);simp only[NO,Of,this,if_false]
   obtain⟨w',k1,k2,k3⟩:=uC vs cs (w.setCell ⟨b,o+i,none⟩ v) _ hH (id:=id) (x:={ x with cells:=x.cells.set (o+i) c }) (b:=b) (by rw[iD hlt]) hw hb o (i+1) (by simp;omega)
    (aB.fW hE (bY _) cs vs r.2) (fun u hu=>hv u (by simp[hu]))
   refine⟨w', ?_,hE.trans k2, ?_⟩
   ·rw[storeCells];simp only[abi,hrun,Result.andThen];exact k1
   ·simp only[aa0]at k3;rw[bX];exact k3
def aJ(n:Int):Prop:=-9223372036854775808≤n∧n≤9223372036854775807
def qz(k:IntKind)(n:Int)(K:AV→Prop):Prop:=
 match k with
 | .i64=>aJ n∧K (.v (.int .i64 n))
 | k=>K (.v (.int k (k.wrap n)))
def DJ(k:IntKind):Int:=if k.signed then -1 else k.max
def dq(op:BinOp)(k:IntKind)(x y:Int):Int:=
 let a:=BitVec.ofInt k.bits x
 let b:=BitVec.ofInt k.bits y
 match op with
 | .and=>k.wrap (a &&& b).toNat
 | .or=>k.wrap (a ||| b).toNat
 | .xor=>k.wrap (a ^^^ b).toNat
 | _=>k.wrap (a &&& ~~~b).toNat
def ql(op:BinOp)(k:IntKind)(a b:Int)(K:AV→Prop):Prop:=
 match op with
 | .add=>qz k (a+b) K
 | .sub=>qz k (a-b) K
 | .mul=>qz k (a*b) K
 | .quo=>b≠0∧K (.v (.int k (k.wrap (a.tdiv b))))
 | .rem=>b≠0∧K (.v (.int k (a.tmod b)))
 | .and=>K (.v (.int k (dq .and k a b)))
 | .or=>K (.v (.int k (dq .or k a b)))
 | .xor=>K (.v (.int k (dq .xor k a b)))
 | .andNot=>K (.v (.int k (dq .andNot k a b)))
 | .eql=>K (b_ (decide (a=b)))
 | .neq=>K (b_ (!decide (a=b)))
 | .lss=>K (b_ (decide (a<b)))
 | .leq=>K (b_ (decide (a≤b)))
 | .gtr=>K (b_ (decide (b<a)))
 | .geq=>K (b_ (decide (b≤a)))
 | _=>False
def yV(op:BinOp)(a b:List UInt8)(K:AV→Prop):Prop:=
 match op with
 | .add=>a.length+b.length≤maxLen∧K (.str (a++b))
 | .eql=>K (b_ (decide (a=b)))
 | .neq=>K (b_ (!decide (a=b)))
 | .lss=>K (b_ (Op.bytesLess a b))
 | .leq=>K (b_ (Op.bytesLess a b||decide (a=b)))
 | .gtr=>K (b_ (!(Op.bytesLess a b||decide (a=b))))
 | .geq=>K (b_ (!Op.bytesLess a b))
 | _=>False
def wX(op:BinOp)(k:IntKind)(a b:Int)(K:AV→Prop):Prop:=
 0≤b∧match op with
 | .shl=>K (.v (.int k (k.wrap (a*2^(min b.toNat k.bits)))))
 | .shr=>K (.v (.int k (a.fdiv (2^(min b.toNat k.bits)))))
 | _=>False
def lI:BinOp→Bool|.shl|.shr=>true|_=>false
def ag(op:BinOp)(x y:AV)(K:AV→Prop):Prop:=
 match x,y with
 | .v (.int k a),.v (.int k' b)=>if lI op then wX op k a b K else k=k'∧ql op k a b K
 | .str a,.str b=>yV op a b K
 | _,_=>False
def qJ(op:BinOp)(x y:AV)(K:AV→Prop):Prop:=
 match x,y with
 | .v (.bool a),.v (.bool b)=>(match op with|.eql=>K (b_ (a == b))|.neq=>K (b_ (!(a == b)))|_=>False)
 | _,_=>False
def Ey:Nat→AV→AV→Option Bool
 | 0,.v (.bool a),.v (.bool b)=>some (a == b)
 | 1,.v (.int k a),.v (.int k' b)=>if k=k' then some (decide (a=b)) else none
 | 2,.str a,.str b=>some (decide (a=b))
 | _,_,_=>none
def jh:List Nat→List AV→List AV→Option Bool
 | [],[],[]=>some true
 | k:: ks,x:: xs,y:: ys=>match Ey k x y,jh ks xs ys with|some a,some b=>some (a&&b)|_,_=>none
 | _,_,_=>none
def mc(neg:Bool)(ks:List Nat)(x y:AV)(K:AV→Prop):Prop:=
 match x,y with
 | .agg xs,.agg ys=>(match jh ks xs ys with|some b=>K (b_ (if neg then !b else b))|none=>False)
 | _,_=>False
def bQ(c a b:AV)(K:AV→Prop):Prop:=∃t,c=.v (.bool t)∧(t=true→K a)∧(t=false→K b)
def af(c:AV)(A B:Prop):Prop:=∃t,c=.v (.bool t)∧(t=true→A)∧(t=false→B)
def aM(c:AV)(want:Bool)(A B:Prop):Prop:=(∃t,c=.v (.bool t)∧(t=want→A)∧(t=(!want)→B))∨(c=.v undef∧B)
def cr(x:AV)(K:AV→Prop):Prop:=∃t,x=.v (.bool t)∧K (b_ (!t))
def oX(x:AV)(K:AV→Prop):Prop:=∃k n,x=.v (.int k n)∧qz k (0-n) K
def cy(k:IntKind)(x:AV)(K:AV→Prop):Prop:=∃k' n,x=.v (.int k' n)∧K (.v (.int k (k.wrap n)))
def aR(i:Nat)(x:AV)(K:AV→Prop):Prop:=
 match x with
 | .ay cs=>match cs[i]? with|some c=>K c|none=>False
 | _=>False
def lP(g:Bool)(sz:Nat)(cs:List AV)(K:AV→Prop):Prop:=
 match g with
 | true=>sz≤cs.length∧K (.agg (cs.take sz))
 | false=>match cs with|c:: _=>K c|[]=>False
def rU(g:Bool)(off n:Nat)(x:AV)(K:AV→Prop):Prop:=
 match x with
 | .agg cs=>lP g n (cs.drop off) K
 | _=>False
def eD(x i:AV)(K:AV→Prop):Prop:=
 match x,i with
 | .str l,.v (.int _ n)=>(0≤n∧n<l.length)∧K (.v (.int .u8 (l.getD n.toNat 0).toNat))
 | _,_=>False
def mM(g:Bool)(sz len:Nat)(x i:AV)(K:AV→Prop):Prop:=
 match x,i with
 | .agg cs,.v (.int _ n)=>(0≤n∧n<len)∧lP g sz (cs.drop (n.toNat*sz)) K
 | _,_=>False
def eX:Option AV→Int→Option Int
 | none,d=>some d
 | some (.v (.int _ n)),_=>some n
 | _,_=>none
def eV(x:AV)(lo hi:Option AV)(K:AV→Prop):Prop:=
 match x with
 | .str l=>(match eX lo 0,eX hi l.length with
   | some a,some b=>(0≤a∧a≤b∧b≤l.length)∧K (.str ((l.take b.toNat).drop a.toNat))
   | _,_=>False)
 | _=>False
def ni:AV→AV
 | .v (.slice none 0 0)=>.emp
 | .sb _ sz rows=>.sl sz rows
 | x=>x
def lr(n:Nat)(x:AV)(lo hi:Option AV)(K:AV→Prop):Prop:=
 match ni x with
 | .sl sz rows=>(match eX lo 0,eX hi rows.length with
   | some a,some b=>sz=n∧(0≤a∧a≤b∧b≤rows.length)∧K (.sl sz ((rows.take b.toNat).drop a.toNat))
   | _,_=>False)
 | .own id off len sz=>(match eX lo 0,eX hi len with
   | some a,some b=>sz=n∧(0≤a∧a≤b∧b≤len)∧K (.own id (off+a.toNat*sz) (b-a).toNat sz)
   | _,_=>False)
 | .emp=>(match eX lo 0,eX hi 0 with
   | some a,some b=>(a=0∧b=0)∧K .emp
   | _,_=>False)
 | _=>False
def chunks(sz:Nat):Nat→List AV→List (List AV)
 | 0,_=>[]
 | n+1,cs=>cs.take sz:: chunks sz n (cs.drop sz)
def qm(n sz:Nat)(x:AV)(lo hi:Option AV)(h:aa)(K:AV→Prop):Prop:=
 match x with
 | .op id off=>(match eX lo 0,eX hi n,h[id]? with
   | some a,some b,some (.ak ak)=>(off+n*sz≤ak.cells.length∧0≤a∧a≤b∧b≤n∧n≤maxLen)∧K (.own id (off+a.toNat*sz) (b-a).toNat sz)
   | _,_,_=>False)
 | .ip cs=>(match eX lo 0,eX hi n with
   | some a,some b=>(n*sz≤cs.length∧0<n∧n≤maxLen∧a=0∧b=n)∧K (.sl sz (chunks sz n cs))
   | _,_=>False)
 | _=>False
def aI(m:Nat)(x i:AV)(K:AV→Prop):Prop:=
 match ni x,i with
 | .sl sz rows,.v (.int _ n)=>sz=m∧(0≤n∧n<rows.length)∧K (.ip (rows.getD n.toNat []))
 | .own id off len sz,.v (.int _ n)=>sz=m∧(0≤n∧n<len)∧K (.op id (off+n.toNat*sz))
 | _,_=>False
def eU(len sz:Nat)(x i:AV)(K:AV→Prop):Prop:=
 match x,i with
 | .op id off,.v (.int _ n)=>(0≤n∧n<len)∧K (.op id (off+n.toNat*sz))
 | .ip cs,.v (.int _ n)=>(0≤n∧n<len)∧K (.ip (cs.drop (n.toNat*sz)))
 | _,_=>False
def bg(off:Nat)(x:AV)(K:AV→Prop):Prop:=
 match x with
 | .ip cs=>K (.ip (cs.drop off))
 | .op id o=>K (.op id (o+off))
 | _=>False
def wW(x:AV)(K:AV→Prop):Prop:=
 match x with
 | .ip _|.op _ _=>K x
 | .fn (.func _) _ _=>K x
 | _=>False
def ah(g:Bool)(sz:Nat)(x:AV)(h:aa)(K:AV→Prop):Prop:=
 match x with
 | .ip cs=>lP g sz cs K
 | .op id o=>(match h[id]? with
   | some (.ak b)=>lP g sz (b.cells.drop o) K
   | _=>False)
 | _=>False
def ao(sz:Nat)(x v:AV)(h:aa)(K:aa→Prop):Prop:=
 match x with
 | .op id o=>(match h[id]? with
   | some (.ak b)=>(b.wr=true∧o+(bh v).length≤b.cells.length∧(bh v).length=sz∧(bh v).all bG=true)∧K (h.set id (.ak { b with cells:=bX b.cells o (bh v) }))
   | _=>False)
 | _=>False
def aV(t:TypeId)(v:AV)(h:aa)(K:AV→aa→Prop):Prop:=
 (bh v).all bG=true∧K (.op h.length 0) (h++[.ak ⟨t,bh v,true⟩])
def dP:List AV→List (Nat×Nat×AV)→Option (List AV)
 | cells,[]=>some cells
 | cells,(o,n,x):: r=>if (bh x).length=n∧o+n≤cells.length∧(bh x).all bG=true then dP (bX cells o (bh x)) r else none
def aW(zero:AV)(parts:List (Nat×Nat×AV))(K:AV→Prop):Prop:=
 match dP (bh zero) parts with
 | some cs=>K (.agg cs)
 | none=>False
def gI:Nat→List AV→List AV
 | 0,_=>[]
 | n+1,z=>z++gI n z
def qM(t len sz:Nat)(zero:AV)(parts:List (Nat×Nat×AV))(h:aa)(K:AV→aa→Prop):Prop:=
 match dP (gI len (bh zero)) parts with
 | some cs=>(match len with
   | 0=>K .emp h
   | len+1=>K (.own h.length 0 (len+1) sz) (h++[.ak ⟨t,cs,true⟩]))
 | none=>False
def bt(len sz:Nat)(zero:AV)(parts:List (Nat×Nat×AV))(K:AV→Prop):Prop:=
 match dP (gI len (bh zero)) parts with
 | some cs=>K (.sl sz (chunks sz len cs))
 | none=>False
def jA(h:aa)(sz:Nat)(x:AV):Option (List (List AV)):=
 match ni x with
 | .emp=>some []
 | .sl sz' rows=>if sz'=sz then some rows else none
 | .own id off len sz' => (match h[id]? with
   | some (.ak b)=>if sz'=sz∧off+len*sz≤b.cells.length then some (chunks sz len (b.cells.drop off)) else none
   | _=>none)
 | _=>none
def bf(b:UInt8):AV:=.v (.int .u8 b.toNat)
def Cl:AV→Option (List (List AV))
 | .str l=>some (l.map fun b=>[bf b])
 | _=>none
def dy(sz:Nat)(r:List AV):Bool:=r.length == sz&&r.all bG
def jG(bytes n:Nat):Prop:=n≤maxLen∧n*bytes≤140737488355328
def w9:AV→AV
 | .v (.slice none 0 0)=>.emp
 | x=>x
def eI(own:Bool)(e sz bytes:Nat)(x:AV)(src:Option (List (List AV)))(h:aa)(K:AV→aa→Prop):Prop:=
 match src with
 | none=>False
 | some rows=>rows.all (dy sz)=true∧match w9 x with
   | .emp=>(match own with
     | false=>jG bytes rows.length∧K (.sb h.length sz rows) (h++[.tok e sz rows.length])
     | true=>rows≠[]∧jG bytes rows.length∧K (.own h.length 0 rows.length sz) (h++[.ak ⟨e,rows.flatten,true⟩]))
   | .sb id sz' base=>(match h[id]? with
     | some (.tok e' sz'' k)=>(sz'=sz∧sz''=sz∧e'=e∧k=base.length)∧jG bytes (k+rows.length)∧K (.sb id sz (base++rows)) (h.set id (.tok e sz (k+rows.length)))
     | _=>False)
   | .own id off len sz' => (match h[id]? with
     | some (.ak b)=>(off=0∧sz'=sz∧b.wr=true∧b.ty=e∧len*sz≤b.cells.length)∧0<len+rows.length∧jG bytes (len+rows.length) ∧
      K (.own h.length 0 (len+rows.length) sz) (h.set id .dead++[.ak ⟨e,b.cells.take (len*sz)++rows.flatten,true⟩])
     | _=>False)
   | _=>False
def bR(own:Bool)(e sz bytes:Nat)(x y:AV)(h:aa)(K:AV→aa→Prop):Prop:=eI own e sz bytes x (jA h sz y) h K
def mL(own:Bool)(e bytes:Nat)(x y:AV)(h:aa)(K:AV→aa→Prop):Prop:=eI own e 1 bytes x (Cl y) h K
def jU(P:Program)(e:TypeId):Nat:=((P.info? e).map (·.bytes)).getD 0
def sK(P:Program)(e:TypeId):Bool:=
 match P.info? e with
 | some i=>(match i.zero with|some z=>z.cells.size == i.size|none=>false)
 | none=>false
def qK(e sz bytes:Nat)(zero len cap:AV)(h:aa)(K:AV→aa→Prop):Prop:=
 match len,cap with
 | .v (.int _ l),.v (.int _ c)=>(0≤l∧l≤c∧(bytes:Int)*c≤281474976710656∧c≤9223372036854775807)∧K (.own h.length 0 l.toNat sz) (h++[.ak ⟨e,gI c.toNat (bh zero),true⟩])
 | _,_=>False
def iO(e:Nat)(x:AV)(h:aa)(K:AV→aa→Prop):Prop:=
 match x with
 | .str l=>K (.own h.length 0 l.length 1) (h++[.ak ⟨e,l.map bf,true⟩])
 | _=>False
def wF:List AV→Option (List UInt8)
 | []=>some []
 | .v (.int .u8 n):: r=>(wF r).map (UInt8.ofNat n.toNat:: ·)
 | _=>none
def cP(x:AV)(h:aa)(K:AV→Prop):Prop:=
 match (jA h 1 x).bind fun p=>wF p.flatten with
 | some l=>K (.str l)
 | none=>False
def BR(P:Program)(e:TypeId):Bool:=match P.underlying e with|some (.int .u8)=>true|_=>false
def cZ(x:AV)(K:AV→Prop):Prop:=
 match x with
 | .str l=>l.length≤maxLen→K (i_ l.length)
 | _=>False
def bq(x:AV)(K:AV→Prop):Prop:=
 match ni x with
 | .sl _ rows=>rows.length≤maxLen→K (i_ rows.length)
 | .own _ _ len _=>len≤maxLen→K (i_ len)
 | .emp=>K (i_ 0)
 | _=>False
def nZ(x y:AV)(K:AV→Prop):Prop:=
 match x,y with
 | .v (.int k a),.v (.int k' b)=>k=k'∧K (.v (.int k (if b<a then b else a)))
 | _,_=>False
def kA(x y:AV)(K:AV→Prop):Prop:=
 match x,y with
 | .v (.int k a),.v (.int k' b)=>k=k'∧K (.v (.int k (if b > a then b else a)))
 | _,_=>False
/-! ### Types -/
def rV:TypeDesc→Bool
 | .struct _|.array _ _=>true
 | _=>false
def fA(P:Program)(t:TypeId):Bool:=match P.underlying t with|some d=>rV d|none=>false
def fU(P:Program)(t:TypeId):Bool:=(P.info? t).isSome&&(P.underlying t).isSome
def jI(P:Program)(t:TypeId):Option AV:=(P.info? t).bind fun i=>i.zero.map kD
def um(g:TypeId→Option (List Nat))(P:Program):Nat→List Field→Option (List Nat)
 | _,[]=>some []
 | o,f:: fs=>if f.offset=o∧f.name ≠ "_" then (g f.type).bind fun ks=>if P.cellsOf f.type=ks.length∧0<ks.length then (um g P (o+ks.length) fs).map (ks++·) else none else none
def Cg:Nat→List Nat→List Nat
 | 0,_=>[]
 | n+1,ks=>ks++Cg n ks
def mI(P:Program):Nat→TypeId→Option (List Nat)
 | 0,_=>none
 | d+1,t =>
   if fU P t then
    match P.underlying t with
    | some .bool=>some [0]
    | some (.int _)=>some [1]
    | some .string=>some [2]
    | some (.struct fs)=>if P.stoodInHeld t then none else um (mI P d) P 0 fs.toList
    | some (.array n e)=>(mI P d e).bind fun ks=>if P.cellsOf e=ks.length∧0<ks.length then some (Cg n ks) else none
    | _=>none
   else none
def dw(P:Program)(f:FuncId):Bool:=(P.funcs[f]?).any (fun fn=>fn.body.isSome&&fn.name != "runtime.NumGoroutine")
def bx(P:Program)(x:AV)(args:List AV)(h:aa)(K:AV→aa→Prop):Prop:=
 match x with
 | .fn (.func f) first cap=>dw P f=true∧bW P f (first++args++cap) h K
 | _=>False
def AI(x:AV)(K:AV→Prop):Prop:=
 match x with
 | .str _=>K x
 | _=>False
/-! ### Interfaces,nil -/
def vv:AV→Option Bool|.v .nilIface=>some true|.ib _ _=>some false|_=>none
def tD:AV→Option Bool|.v (.pointer none)=>some true|.op _ _=>some false|.ip _=>some false|_=>none
def vw:AV→Option Bool
 | .v (.slice none _ _)=>some true
 | .own _ _ len _=>(match len with|0=>none|_+1=>some false)
 | .sl _ rows=>(match rows with|[]=>none|_:: _=>some false)
 | .sb _ _ rows=>(match rows with|[]=>none|_:: _=>some false)
 | _=>none
def rZ(neg b:Bool):Bool:=match neg with|true=>!b|false=>b
def kI(neg:Bool)(r:Option Bool)(K:AV→Prop):Prop:=match r with|some b=>K (b_ (rZ neg b))|none=>False
def xK(neg:Bool)(d:TypeDesc)(y:Operand)(x:AV)(K:AV→Prop):Prop:=
 match d,y with
 | .interface _,.const .nilIface=>kI neg (vv x) K
 | .pointer _,.const (.pointer none)=>kI neg (tD x) K
 | .slice _,.const (.slice none _ _)=>kI neg (vw x) K
 | _,_=>False
def oY(P:Program)(name:String)(t:TypeId):Option FuncId:=
 match P.info? t,P.underlying t with
 | some i,some (.pointer _)=>(match i.methods.find? (·.name == name) with
   | some m=>(match m.path.toList,m.func with|[],some (f,true)=>(match dw P f with|true=>some f|false=>none)|_,_=>none)
   | none=>none)
 | _,_=>none
def EM(P:Program)(asserted t:TypeId):Bool:=
 match P.underlying asserted,P.info? t with
 | some (.interface want),some i=>(lacking want i.methods).isEmpty
 | _,_=>false
def oW(t:TypeId)(x:AV)(K:AV→Prop):Prop:=K (.ib t x)
def yT(has:TypeId→Bool)(x:AV)(K:AV→Prop):Prop:=
 match x with
 | .ib t v=>has t=true∧K (.ay [.ib t v,b_ true])
 | _=>False
def wV(P:Program)(row:TypeId→Option FuncId)(x:AV)(args:List AV)(h:aa)(K:AV→aa→Prop):Prop:=
 match x with
 | .ib t v=>(match row t with|some f=>bW P f (v:: args) h K|none=>False)
 | _=>False
def ca(P:Program)(x:AV)(K:AV→Prop):Prop:=
 match x with
 | .fn (.method name) (.ib t v:: r) ys=>(oY P name t).isSome=true∧K (.fn (.method name) (.ib t v:: r) ys)
 | x=>wW x K
abbrev cF(b:Bool)(X:Prop):Prop:=match b with|true=>X|false=>False
def bF(P:Program)(own:Bool)(ev:Operand→AV)(h:aa)(op:Op)(K:AV→aa→Prop):Prop:=
 match op with
 | .move x|.assign x=>K (ev x) h
 | .pick c a b=>bQ (ev c) (ev a) (ev b) fun v=>K v h
 | .binOp op t x y _ =>
   if fA P t then
    match op with
    | .eql=>cF (!P.eqGuardType P.depth t) (match mI P 8 t with|some ks=>mc false ks (ev x) (ev y) fun v=>K v h|none=>False)
    | .neq=>cF (!P.eqGuardType P.depth t) (match mI P 8 t with|some ks=>mc true ks (ev x) (ev y) fun v=>K v h|none=>False)
    | _=>False
   else match P.underlying t with
    | some .bool=>qJ op (ev x) (ev y) fun v=>K v h
    | some (.int _)|some .string=>ag op (ev x) (ev y) fun v=>K v h
    | some d=>(match op with
      | .eql=>xK false d y (ev x) fun v=>K v h
      | .neq=>xK true d y (ev x) fun v=>K v h
      | _=>False)
    | none=>False
 | .unOp .not _ x=>cr (ev x) fun v=>K v h
 | .unOp .neg _ x=>oX (ev x) fun v=>K v h
 | .unOp .xor t x=>(match P.underlying t with|some (.int k)=>ag .xor (.v (.int k (DJ k))) (ev x) fun v=>K v h|_=>False)
 | .convert s d x =>
   match P.underlying s,P.underlying d with
   | some (.int _),some (.int k)=>cy k (ev x) fun v=>K v h
   | some .string,some .string=>AI (ev x) fun v=>K v h
   | some .string,some (.slice e)=>cF (BR P e) (iO e (ev x) h K)
   | some (.slice e),some .string=>cF (BR P e) (cP (ev x) h fun v=>K v h)
   | _,_=>False
 | .extract x i=>aR i (ev x) fun v=>K v h
 | .field t x i =>
   match P.underlying t with
   | some (.struct fs)=>match fs[i]? with
     | some f=>cF (fU P f.type) (rU (fA P f.type) f.offset (P.cellsOf f.type) (ev x) fun v=>K v h)
     | none=>False
   | _=>False
 | .index t x i =>
   match P.underlying t with
   | some .string=>eD (ev x) (ev i) fun v=>K v h
   | some (.array n e)=>cF (fU P e) (mM (fA P e) (P.cellsOf e) n (ev x) (ev i) fun v=>K v h)
   | _=>False
 | .slice t x lo hi none =>
   match P.underlying t with
   | some .string=>eV (ev x) (lo.map ev) (hi.map ev) fun v=>K v h
   | some (.slice e)=>cF (fU P e) (lr (P.cellsOf e) (ev x) (lo.map ev) (hi.map ev) fun v=>K v h)
   | some (.array n e)=>cF (fU P e) (qm n (P.cellsOf e) (ev x) (lo.map ev) (hi.map ev) h fun v=>K v h)
   | _=>False
 | .indexAddr t x i =>
   match P.underlying t with
   | some (.slice e)=>cF (fU P e) (aI (P.cellsOf e) (ev x) (ev i) fun v=>K v h)
   | some (.array n e)=>cF (fU P e) (eU n (P.cellsOf e) (ev x) (ev i) fun v=>K v h)
   | _=>False
 | .fieldAddr t x i =>
   match P.underlying t with
   | some (.struct fs)=>match fs[i]? with
     | some f=>cF (P.cellsOf f.type != 0&&fU P f.type) (bg f.offset (ev x) fun v=>K v h)
     | none=>False
   | _=>False
 | .nilCheck x=>ca P (ev x) fun v=>K v h
 | .makeInterface t x=>cF (P.concrete t) (oW t (ev x) fun v=>K v h)
 | .typeAssert x _ asserted true=>yT (EM P asserted) (ev x) fun v=>K v h
 | .load t x=>cF (fU P t) (ah (fA P t) (P.cellsOf t) (ev x) h fun v=>K v h)
 | .store t x v=>cF (fU P t) (ao (P.cellsOf t) (ev x) (ev v) h fun h' => K (.v undef) h')
 | .alloc t=>match jI P t with
   | some z=>aV t z h K
   | none=>False
 | .box t x=>aV t (ev x) h K
 | .build t parts =>
   match P.underlying t,jI P t with
   | some (.struct fs),some z=>cF (fs.toList.all (fun f=>fU P f.type)&&parts.toList.all (fun p=>(fs[p.1]?).isSome))
    (aW z (parts.toList.map fun p=>(((fs[p.1]?).map (·.offset)).getD 0,((fs[p.1]?).map (fun f=>P.cellsOf f.type)).getD 0,ev p.2)) fun v=>K v h)
   | some (.array _ e),some z=>cF (fU P e) (aW z (parts.toList.map fun p=>(p.1*P.cellsOf e,P.cellsOf e,ev p.2)) fun v=>K v h)
   | _,_=>False
 | .buildSlice t len parts =>
   match P.underlying t with
   | some (.slice e)=>(match jI P e with
     | some z=>cF (sK P e&&fU P e&&decide (len*P.cellsOf e≤16777216)&&decide (len≤16777216)) (match own with
      | true=>bt len (P.cellsOf e) z (parts.toList.map fun p=>(p.1*P.cellsOf e,P.cellsOf e,ev p.2)) fun v=>K v h
      | false=>qM e len (P.cellsOf e) z (parts.toList.map fun p=>(p.1*P.cellsOf e,P.cellsOf e,ev p.2)) h K)
     | none=>False)
   | _=>False
 | .makeSlice t l c =>
   match P.underlying t with
   | some (.slice e)=>(match jI P e with
     | some z=>cF (sK P e&&decide (0<P.cellsOf e)) (qK e (P.cellsOf e) (jU P e) z (ev l) (ev c) h K)
     | none=>False)
   | _=>False
 | .makeFunc f xs ys=>K (.fn f (xs.toList.map ev) (ys.toList.map ev)) h
 | .call c =>
   match c.callee with
   | .builtin .len=>(match c.argTypes[0]?,c.args[0]? with
     | some t,some x=>(match P.underlying t with
       | some .string=>cZ (ev x) fun v=>K v h
       | some (.slice _)=>bq (ev x) fun v=>K v h
       | _=>False)
     | _,_=>False)
   | .builtin .min=>(match c.args.toList with|[x,y]=>nZ (ev x) (ev y) fun v=>K v h|_=>False)
   | .builtin .max=>(match c.args.toList with|[x,y]=>kA (ev x) (ev y) fun v=>K v h|[x,y,z]=>kA (ev x) (ev y) fun u=>kA u (ev z) fun v=>K v h|_=>False)
   | .builtin .append=>(match c.argTypes.toList,c.args.toList with
     | [t,tx],[x,y]=>(match P.underlying t,P.underlying tx with
       | some (.slice e),some (.slice _)=>cF (sK P e) (bR own e (P.cellsOf e) (jU P e) (ev x) (ev y) h K)
       | some (.slice e),some .string=>cF (sK P e&&P.cellsOf e == 1) (mL own e (jU P e) (ev x) (ev y) h K)
       | _,_=>False)
     | _,_=>False)
   | .value x=>bx P (ev x) (c.args.toList.map ev) h K
   | .invoke x name=>wV P (oY P name) (ev x) (c.args.toList.map ev) h K
   | _=>False
 | _=>False
def xf(st:St)(d:Option Tmp)(x:AV)(h:aa):St:=⟨st.n,bO st.n st.fr d x,h⟩
def cd(want:Bool)(c:AV):AV:=match c with|.v (.bool _)=>.v (.bool (!want))|c=>c
def eN(ops:Array Oper)(j:Nat):Option Tmp:=(ops[j]?).bind (·.dst)
omit [Laid] in
def ar.ni(h:ar ι S w x y):ar ι S w (Aw.ni x) y:=by
 unfold Aw.ni;split
 ·rw[cz]at h;subst h;rw[ar];exact⟨none,rfl⟩
 ·rw[ar]at h;rw[ar];exact h.1
 ·exact h
omit [Laid] in
def ar.w9(h:ar ι S w x y):ar ι S w (Aw.w9 x) y:=by
 unfold Aw.w9;split
 ·rw[cz]at h;subst h;rw[ar];exact⟨none,rfl⟩
 ·exact h
def ct(P:Program)(o:Oper)(base:Nat)(ι:List Ix)(S:aY)(a:Act)(w:World)(st:St)(K:AV→aa→Prop):Prop:=
 ∀Q:Exit→Act→World→Prop,o.wp P a w (fun a' w' => ∃ι' S' v h',bS ι.length base ι S w ι' S' w'∧bZ base ι' S' a' w' (xf st o.dst v h')∧st.h.length≤h'.length∧K v h') Q
section
variable {P:Program} {o:Oper} {base:Nat} {ι ι':List Ix} {S S':aY} {a:Act} {w w':World} {st:St} {K:AV→aa→Prop} {v:AV} {u:Value} {h':aa}
def ir(hr:bZ base ι S a w st)(hrun:(execOp a.eval o).run P w=.ok (.value u) w')(hE:bS ι.length base ι S w ι' S' w')(r:ar ι' S' w' v u)
 (hh:cK base ι' S' w' h') (hl:st.h.length≤h'.length) (k:K v h'):ct P o base ι S a w st K:=by
 intro Q;unfold Oper.wp;rw[hrun,Oper.upon_value];refine⟨ι',S',v,h',hE, ?_,hl,k⟩;have:bZ base ι' S' a w' ⟨st.n,st.fr,h'⟩:=⟨hr.df,hr.sz,dH.fW hE (bY _) hr.fr,hh⟩;exact this.put o.dst r
def Ju(hr:bZ base ι S a w st)(hrun:(execOp a.eval o).run P w=.ok .skip w')(hE:bS ι.length base ι S w ι' S' w')
 (hh:cK base ι' S' w' h') (hl:st.h.length≤h'.length) (k:K (.v undef) h'):ct P o base ι S a w st K:=by
 intro Q;unfold Oper.wp;rw[hrun,Oper.upon_skip];refine⟨ι',S',.v undef,h',hE, ?_,hl,k⟩;have:bZ base ι' S' a w' ⟨st.n,st.fr,h'⟩:=⟨hr.df,hr.sz,dH.fW hE (bY _) hr.fr,hh⟩;exact this.put (x:=.v undef) (v:=undef) o.dst (by simp)
def bc(hr:bZ base ι S a w st)(hrun:(execOp a.eval o).run P w=.ok (.value u) w)(r:ar ι S w v u)(k:K v st.h):ct P o base ι S a w st K:=
 ir hr hrun (bS.refl _ _ _ _ _) r hr.hp (bY _) k
end
omit [Laid] in
def fO(h:x.run P w=.ok u w'):(do pure (Next.value (←x)):Sem Next).run P w=.ok (.value u) w':=by
 rw[abi,h];rfl
omit [Laid] in
def Z8(h:x.run P w=.ok () w'):(do x;pure Next.skip:Sem Next).run P w=.ok .skip w':=by
 rw[abi,h];rfl
omit [Laid] in
def nK(h:P.info? t=some i):(typeInfo t).run P w=.ok i w:=by
 simp[typeInfo,h]
omit [Laid] in
def dM(h:fU P t=true):(sizeOf t).run P w=.ok (P.cellsOf t) w:=by
 unfold fU at h;simp only[NO,Option.isSome_iff_exists]at h;obtain⟨⟨i,hi⟩,_⟩:=h;simp[sizeOf,nK hi,Program.cellsOf,hi]
omit [Laid] in
def vH(h:fU P t=true):(isAgg t).run P w=.ok (fA P t) w:=by
 unfold fU at h;simp only[NO,Option.isSome_iff_exists]at h;obtain⟨_,⟨d,hd⟩⟩:=h;unfold isAgg fA;simp only[abi,run_underlying hd,abh,hd];cases d<;>rfl
omit [Laid] in
def vn{K:AV→Prop}(h:qz k n K):K (.v (.int k (k.wrap n))):=by
 unfold qz at h;split at h
 ·obtain⟨h1,h2⟩:=h;rw[IntWalk.i64_in n ⟨h1.1,h1.2⟩];exact h2
 ·exact h
section
variable {P:Program} {o:Oper} {base:Nat} {ι:List Ix} {S:aY} {a:Act} {w:World} {st:St} {K:AV→aa→Prop}
def LO(hr:bZ base ι S a w st)(ho:o.op=.move x∨o.op=.assign x)(h:K (aE st.fr x) st.h):ct P o base ι S a w st K:=
 bc hr (by rcases ho with ho|ho<;>simp[execOp,ho]) (hr.eval x) h
def U5(hr:bZ base ι S a w st)(ho:o.op=.pick c x y)(h:bQ (aE st.fr c) (aE st.fr x) (aE st.fr y) fun v=>K v st.h):ct P o base ι S a w st K:=by
 obtain⟨t,e,h1,h2⟩:=h;have hc:=hr.eval c;rw[e]at hc;simp only[cz]at hc;cases t with
 | true=>exact bc hr (u:=a.eval x) (by simp[execOp,ho,hc,asBool]) (hr.eval x) (h1 rfl)
 | false=>exact bc hr (u:=a.eval y) (by simp[execOp,ho,hc,asBool]) (hr.eval y) (h2 rfl)
omit [Laid] in
def Rc{op:BinOp}{K:AV→Prop}(hs:lI op=false)(h:ql op k x y K):∃u,(binOp op t (.int k x) (.int k y)).run P w=.ok u w∧K (.v u):=by
 cases op<;>simp only[lI,Bool.true_eq_false]at hs<;>simp only[ql]at h
 case add=>exact⟨_,by simp[binOp,Op.intArith],vn h⟩
 case sub=>exact⟨_,by simp[binOp,Op.intArith],vn h⟩
 case mul=>exact⟨_,by simp[binOp,Op.intArith],vn h⟩
 case quo=>exact⟨_,by simp[binOp,Op.intDiv,h.1],h.2⟩
 case rem=>exact⟨_,by simp[binOp,Op.intDiv,h.1],h.2⟩
 case and=>exact⟨_,by simp only[binOp,Op.intBits];rw[if_neg (by simp)];rfl,h⟩
 case or=>exact⟨_,by simp only[binOp,Op.intBits];rw[if_neg (by simp)];rfl,h⟩
 case xor=>exact⟨_,by simp only[binOp,Op.intBits];rw[if_neg (by simp)];rfl,h⟩
 case andNot=>exact⟨_,by simp only[binOp,Op.intBits];rw[if_neg (by simp)];rfl,h⟩
 case eql=>exact⟨_,by simp only[binOp,Op.intCmp];simp;rfl,h⟩
 case neq=>exact⟨_,by simp only[binOp,Op.intCmp];simp;rfl,h⟩
 case lss=>exact⟨_,by simp only[binOp,Op.intCmp];rw[if_neg (by simp)];rfl,h⟩
 case leq=>exact⟨_,by simp only[binOp,Op.intCmp];rw[if_neg (by simp)];rfl,h⟩
 case gtr=>exact⟨_,by simp only[binOp,Op.intCmp];rw[if_neg (by simp)];rfl,h⟩
 case geq=>exact⟨_,by simp only[binOp,Op.intCmp];rw[if_neg (by simp)];rfl,h⟩
omit [Laid] in
def LN{op:BinOp}{K:AV→Prop}(hs:lI op=true)(h:wX op k x y K):∃u,(binOp op t (.int k x) (.int k' y)).run P w=.ok u w∧K (.v u):=by
 obtain⟨h0,h⟩:=h;have h0':¬y<0:=by omega
 cases op<;>simp only[lI,aaX]at hs<;>simp only at h
 case shl=>exact⟨_,by simp[binOp,Op.shift,h0'],h⟩
 case shr=>exact⟨_,by simp[binOp,Op.shift,h0'],h⟩
omit [Laid] in
def Re{op:BinOp}{t:TypeId}{K:AV→Prop}(hx:x.length≤maxLen)(hy:y.length≤maxLen)(h:yV op x y K):
 ∃v u,(binOp op t (.string ⟨x.toArray⟩) (.string ⟨y.toArray⟩)).run P w=.ok u w∧(∀ι S,ar ι S w v u)∧K v:=by
 have dec:∀a b:List UInt8,(a == b)=decide (a=b):=fun a b=>by by_cases q:a=b<;>simp[q]
 cases op<;>simp only[yV]at h
 case add =>
  refine⟨_,.string ⟨(x++y).toArray⟩, ?_,fun ι S=>by simpa using h.1,h.2⟩;have h1:=h.1;unfold maxLen at h1;have e1:(⟨x.toArray⟩:ByteArray).size=x.length:=rfl;have e2:(⟨y.toArray⟩:ByteArray).size=y.length:=rfl;have e3:(⟨x.toArray⟩++⟨y.toArray⟩:ByteArray)=⟨(x++y).toArray⟩:=by
   apply ByteArray.ext;simp
  simp only[binOp_string_add,Op.stringOp,e1,e2,e3];rw[if_neg (by simp only[IntKind.max,IntKind.signed,IntKind.bits];simp;omega)];rfl
 case eql=>exact⟨_,_,by simp[binOp,Op.stringOp];rfl,fun ι S=>by simp[dec],h⟩
 case neq=>exact⟨_,_,by simp[binOp,Op.stringOp];rfl,fun ι S=>by simp[dec],h⟩
 case lss=>exact⟨_,_,by simp[binOp,Op.stringOp];rfl,fun ι S=>by simp,h⟩
 case leq=>exact⟨_,_,by simp[binOp,Op.stringOp];rfl,fun ι S=>by simp[dec],h⟩
 case gtr=>exact⟨_,_,by simp[binOp,Op.stringOp];rfl,fun ι S=>by simp[dec],h⟩
 case geq=>exact⟨_,_,by simp[binOp,Op.stringOp];rfl,fun ι S=>by simp,h⟩
omit [Laid] in
def ki{op:BinOp}(h:p.oneCell'=true)(h':p≠.nilIface):(eqGuard op t x y p q).run P w=.ok () w:=by
 unfold eqGuard;cases op<;>(try rfl)<;>cases p<;>first|rfl|(exact absurd rfl h')|cases h
def Pv{op:BinOp}{t yt:TypeId}(hr:bZ base ι S a w st)(ho:o.op=.binOp op t x y yt)
 (h:ag op (aE st.fr x) (aE st.fr y) fun v=>K v st.h):ct P o base ι S a w st K:=by
 have hx:=hr.eval x;have hy:=hr.eval y;generalize aE st.fr x=X at *;generalize aE st.fr y=Y at *;unfold ag at h;split at h
 ·rename_i k p k' q;simp only[cz]at hx hy;have hg:(eqGuard op t x y (a.eval x) (a.eval y)).run P w=.ok () w:=ki (by rw[hx];rfl) (by rw[hx];intro e;cases e);split at h
  ·rename_i hs;obtain⟨u,e,k1⟩:=LN (P:=P) (w:=w) (t:=t) (k':=k') hs h;exact bc hr (u:=u) (by simp only[execOp,ho];exact fO (by rw[abi,hg];simpa[hx,hy]using e)) (by simp) k1
  ·rename_i hs;obtain⟨rfl,h⟩:=h;obtain⟨u,e,k1⟩:=Rc (P:=P) (w:=w) (t:=t) (by simpa using hs) h;exact bc hr (u:=u) (by simp only[execOp,ho];exact fO (by rw[abi,hg];simpa[hx,hy]using e)) (by simp) k1
 ·rename_i p q;simp only[eF]at hx hy;have hg:(eqGuard op t x y (a.eval x) (a.eval y)).run P w=.ok () w:=ki (by rw[hx.1];rfl) (by rw[hx.1];intro e;cases e);obtain⟨v,u,e,r,k1⟩:=Re (P:=P) (w:=w) (t:=t) hx.2 hy.2 h;exact bc hr (u:=u) (by simp only[execOp,ho];exact fO (by rw[abi,hg];simpa[hx.1,hy.1]using e)) (r ι S) k1
 ·exact h.elim
def UO{op:BinOp}{t yt:TypeId}(hr:bZ base ι S a w st)(ho:o.op=.binOp op t x y yt)(ht:P.underlying t=some .bool)
 (h:qJ op (aE st.fr x) (aE st.fr y) fun v=>K v st.h):ct P o base ι S a w st K:=by
 have hx:=hr.eval x;have hy:=hr.eval y;generalize aE st.fr x=X at *;generalize aE st.fr y=Y at *;unfold qJ at h;split at h
 ·rename_i p q;simp only[cz]at hx hy;have hg:(eqGuard op t x y (a.eval x) (a.eval y)).run P w=.ok () w:=ki (by rw[hx];rfl) (by rw[hx];intro e;cases e);split at h
  ·exact bc hr (u:=.bool (p == q)) (by simp only[execOp,ho];exact fO (by rw[abi,hg];simpa[hx,hy]using run_eql_bool w t p q ht)) (by simp) h
  ·exact bc hr (u:=.bool (!(p == q))) (by simp only[execOp,ho];exact fO (by rw[abi,hg];simpa[hx,hy]using run_neq_bool w t p q ht)) (by simp) h
  ·exact h.elim
 ·exact h.elim
def WC(hr:bZ base ι S a w st)(ho:o.op=.unOp .not t x)(h:cr (aE st.fr x) fun v=>K v st.h):ct P o base ι S a w st K:=by
 obtain⟨b,e,h⟩:=h;have hx:=hr.eval x;rw[e]at hx;simp only[cz]at hx;exact bc hr (u:=.bool (!b)) (by simp[execOp,ho,hx,Op.unary]) (by simp) h
def Wz(hr:bZ base ι S a w st)(ho:o.op=.unOp .neg t x)(h:oX (aE st.fr x) fun v=>K v st.h):ct P o base ι S a w st K:=by
 obtain⟨k,n,e,h⟩:=h;have hx:=hr.eval x;rw[e]at hx;simp only[cz]at hx;exact bc hr (u:=.int k (k.wrap (0-n))) (by simp[execOp,ho,hx,Op.unary,Op.intArith]) (by simp) (vn h)
def Ws(hr:bZ base ι S a w st)(ho:o.op=.unOp .xor t x)(h:ag .xor (.v (.int k (DJ k))) (aE st.fr x) fun v=>K v st.h):ct P o base ι S a w st K:=by
 have hx:=hr.eval x;generalize aE st.fr x=X at *;unfold ag at h;split at h
 ·rename_i k1 p k2 q e1;cases e1;simp only[cz]at hx;simp only[lI,aaX,if_false]at h;obtain⟨rfl,h⟩:=h;simp only[ql]at h;exact bc hr (u:=.int k (dq .xor k (DJ k) q)) (by simp only[execOp,ho];exact fO (by
   have e2:Op.unary .xor (.int k q)=Op.intBits .xor k (DJ k) q:=rfl;rw[hx,e2];simp only[Op.intBits];rfl)) (by simp) h
 ·rename_i e1;cases e1
 ·exact h.elim
def UR(hr:bZ base ι S a w st)(ho:o.op=.convert s d x)(hs:P.underlying s=some (.int k'))(hd:P.underlying d=some (.int k))
 (h:cy k (aE st.fr x) fun v=>K v st.h):ct P o base ι S a w st K:=by
 obtain⟨k',n,e,h⟩:=h;have hx:=hr.eval x;rw[e]at hx;simp only[cz]at hx;exact bc hr (u:=.int k (k.wrap n)) (by simp[execOp,ho,hx,convert,run_underlying hs,run_underlying hd,Conv.intToInt]) (by simp) h
def Rg(hr:bZ base ι S a w st)(ho:o.op=.convert s d x)(hs:P.underlying s=some .string)(hd:P.underlying d=some .string)
 (h:∃l,aE st.fr x=.str l∧K (aE st.fr x) st.h):ct P o base ι S a w st K:=by
 obtain⟨l,e,h⟩:=h;have hx:=hr.eval x;have hx':=hx;rw[e]at hx;simp only[eF]at hx;exact bc hr (u:=a.eval x) (by simp only[execOp,ho];exact fO (by simp[convert,run_underlying hs,run_underlying hd,hx.1])) hx' h
def US(hr:bZ base ι S a w st)(ho:o.op=.extract x i)(h:aR i (aE st.fr x) fun v=>K v st.h):ct P o base ι S a w st K:=by
 have hx:=hr.eval x;unfold aR at h;split at h
 ·rename_i cs e;rw[e,ar]at hx;obtain⟨vs,e1,r⟩:=hx;split at h
  ·rename_i c ec;obtain⟨v,ev,rv⟩:=r.get i c ec;exact bc hr (u:=v) (by simp only[execOp,ho,e1];exact fO (by simp[Instr.extract,ev])) rv h
  ·exact h.elim
 ·exact h.elim
omit [Laid] in
def FH{cs:List AV}{vs:List Value}{off:Nat}{K:AV→Prop}(ht:fU P t=true)(r:aB ι S w cs vs)(h:lP (fA P t) (P.cellsOf t) (cs.drop off) K):
 ∃v u,(part t vs.toArray off).run P w=.ok u w∧ar ι S w v u∧K v:=by
 unfold part;simp only[abi,vH ht,abh];unfold lP at h;split at h
 ·rename_i hg;rw[hg];simp only[if_true,abi,dM ht,abh,abj];refine⟨_,_,rfl, ?_,h.2⟩;rw[ar];refine⟨(vs.drop off).take (P.cellsOf t), ?_,(r.drop off).take _⟩;simp[List.extract_eq_take_drop,Nat.add_sub_cancel_left]
 ·rename_i hg;rw[hg];simp only[aaX,if_false];split at h
  ·rename_i c rest e;have ec:cs[off]?=some c:=by
    have:=congrArg (fun l=>l[0]?) e;simpa using this
   obtain⟨v,ev,rv⟩:=r.get off c ec;exact⟨c,v,by simp[ev],rv,h⟩
  ·exact h.elim
def Rh{fs:Array Field}(hr:bZ base ι S a w st)(ho:o.op=.field t x i)(ht:P.underlying t=some (.struct fs))(hf:fs[i]?=some f)(hk:fU P f.type=true)
 (h:rU (fA P f.type) f.offset (P.cellsOf f.type) (aE st.fr x) fun v=>K v st.h):ct P o base ι S a w st K:=by
 have hx:=hr.eval x;unfold rU at h;split at h
 ·rename_i cs e;rw[e,ar]at hx;obtain⟨vs,e1,r⟩:=hx;obtain⟨v,u,hrun,rv,k⟩:=FH (P:=P) hk r h;exact bc hr (u:=u) (by simp only[execOp,ho,e1];exact fO (by simp[Instr.field,run_underlying ht,hf,asAgg,hrun])) rv k
 ·exact h.elim
def UY(hr:bZ base ι S a w st)(ho:o.op=.index t x i)(ht:P.underlying t=some .string)(h:eD (aE st.fr x) (aE st.fr i) fun v=>K v st.h):ct P o base ι S a w st K:=by
 have hx:=hr.eval x;have hi:=hr.eval i;unfold eD at h;split at h
 ·rename_i l k n e1 e2;rw[e1]at hx;rw[e2]at hi;simp only[eF,cz]at hx hi;obtain⟨⟨h0,h1⟩,h⟩:=h;have hn:n.toNat<l.length:=by omega
  refine bc hr (u:=.int .u8 (l.getD n.toNat 0).toNat) (by
   simp only[execOp,ho,hx.1,hi];refine fO ?_;have q:(⟨l.toArray⟩:ByteArray)[n.toNat]?=some (l.getD n.toNat 0):=by
    rw[ByteArray.getElem?_lt' _ _ (show n.toNat<(⟨l.toArray⟩:ByteArray).size from hn)];show some (l.toArray[n.toNat])=_;simp[nE,hn]
   simp only[Instr.index,abi,asIntOf,abj,abh,run_underlying ht,if_pos h0,q]) (by simp) h
 ·exact h.elim
end
section
variable {P:Program} {o:Oper} {base:Nat} {ι:List Ix} {S:aY} {a:Act} {w:World} {st:St} {K:AV→aa→Prop}
theorem UU{t e:TypeId}{n:Nat}{x i:Operand}(hr:bZ base ι S a w st)(ho:o.op=.index t x i)(ht:P.underlying t=some (.array n e))(hk:fU P e=true)
 (h:mM (fA P e) (P.cellsOf e) n (aE st.fr x) (aE st.fr i) fun v=>K v st.h):ct P o base ι S a w st K:=by
 have hx:=hr.eval x;have hi:=hr.eval i;unfold mM at h;split at h
 ·rename_i cs k j e1 e2;rw[e1,ar]at hx;rw[e2,cz]at hi;obtain⟨vs,ev,r⟩:=hx;obtain⟨⟨h0,h1⟩,h⟩:=h;obtain⟨v,u,hrun,rv,kk⟩:=FH (P:=P) (w:=w) hk r h;refine bc hr (u:=u) (by
   simp only[execOp,ho,ev,hi];exact fO (by simp only[Instr.index,abi,asIntOf,abj,abh,run_underlying ht];rw[if_pos ⟨h0,h1⟩];simp only[abi,dM hk,abh];exact hrun)) rv kk
 ·exact h.elim
theorem Db{fr:Fr}(hE:∀x,ar ι S w (aE fr x) (a.eval x)){x:Option Operand}{d n:Int}(h:eX (x.map (aE fr)) d=some n):(x=none∧n=d)∨∃y k,x=some y∧a.eval y=.int k n:=by
 cases x with
 | none=>left;simp[eX]at h;exact⟨rfl,h.symm⟩
 | some y =>
   right;have hy:=hE y;simp only[abw]at h;cases he:aE fr y with
   | v z =>
     rw[he]at h hy;cases z<;>simp only[eX,On,reduceCtorEq]at h;rename_i k q;subst h;rw[cz]at hy;exact⟨y,k,rfl,hy⟩
   | _=>rw[he]at h;simp[eX]at h
theorem qQ{isl:Bool}{len cap:Nat}{lo hi:Option Operand}{p q:Int}{fr:Fr}(hE:∀x,ar ι S w (aE fr x) (a.eval x))(h1:eX (lo.map (aE fr)) 0=some p)(h2:eX (hi.map (aE fr)) len=some q)
 (hp:0≤p) (hpq:p≤q) (hq:q≤cap):(Instr.sliceBounds isl len cap (lo.map a.eval) (hi.map a.eval) none).run P w=.ok (p.toNat,q.toNat,cap) w:=by
 have bound:∀(k:IntKind) (n:Int) (y:Nat) (c:BoundsCode),0≤n→n≤y→(Instr.sliceBound (.int k n) y c).run P w=.ok n.toNat w:=fun k n y c g1 g2=>run_sliceBound w k n y c g1 g2;unfold Instr.sliceBounds;rcases Db hE h1 with⟨rfl,rfl⟩|⟨yl,kl,rfl,el⟩<;>rcases Db hE h2 with⟨rfl,rfl⟩|⟨yh,kh,rfl,eh⟩
 ·simp
 ·simp[eh,bound kh q cap _ (by omega) hq]
 ·simp[el,bound kl p len _ hp hpq]
 ·simp only[abw,abi,abj,abh,eh,el];rw[bound kh q cap _ (by omega) hq];simp only[abh];rw[bound kl p q.toNat _ hp (by omega)];rfl
theorem WE{t:TypeId}{x:Operand}{lo hi:Option Operand}(hr:bZ base ι S a w st)(ho:o.op=.slice t x lo hi none)(ht:P.underlying t=some .string)
 (h:eV (aE st.fr x) (lo.map (aE st.fr)) (hi.map (aE st.fr)) fun v=>K v st.h):ct P o base ι S a w st K:=by
 have hx:=hr.eval x;unfold eV at h;split at h
 ·rename_i l e;rw[e,eF]at hx;split at h
  ·rename_i p q e1 e2;obtain⟨⟨g0,g1,g2⟩,h⟩:=h;have hb:=qQ (P:=P) (isl:=false) (len:=l.length) (cap:=l.length) hr.eval e1 e2 g0 g1 g2;refine bc hr (u:=.string ⟨((l.take q.toNat).drop p.toNat).toArray⟩) ?_ ?_ h
   ·simp only[execOp,ho,hx.1,Option.map_none];refine fO ?_;have hsz:(⟨l.toArray⟩:ByteArray).size=l.length:=rfl;simp only[Instr.sliceAt,abi,run_underlying ht,abh,Instr.slice,Option.isSome_none,aaX,if_false,hsz,hb,abj]
    congr 2
    apply ByteArray.ext;simp[ByteArray.data_extract];rw[List.drop_take]
   ·simp only[eF];refine⟨trivial, ?_⟩;have:=hx.2;simp;omega
  ·exact h.elim
 ·exact h.elim
theorem Z9{t e:TypeId}{x:Operand}{lo hi:Option Operand}(hr:bZ base ι S a w st)(ho:o.op=.slice t x lo hi none)(ht:P.underlying t=some (.slice e))(hk:fU P e=true)
 (h:lr (P.cellsOf e) (aE st.fr x) (lo.map (aE st.fr)) (hi.map (aE st.fr)) fun v=>K v st.h):ct P o base ι S a w st K:=by
 have hx:=(hr.eval x).ni;have run:∀(b:Option Addr) (len cap:Nat) (p q:Int),a.eval x=.slice b len cap→eX (lo.map (aE st.fr)) 0=some p→eX (hi.map (aE st.fr)) len=some q→0≤p→p≤q→q≤cap →
  (execOp a.eval o).run P w=.ok (.value (.slice (if cap=p.toNat then b else b.map (·.add (p.toNat*P.cellsOf e))) (q.toNat-p.toNat) (cap-p.toNat))) w:=by
  intro b len cap p q ex e1 e2 g0 g1 g2;have hb:=qQ (P:=P) (isl:=true) (len:=len) (cap:=cap) hr.eval e1 e2 g0 g1 g2;simp only[execOp,ho,ex,Option.map_none];exact fO (by simp only[Instr.sliceAt,abi,run_underlying ht,abh,Instr.slice,hb,dM hk,abj])
 unfold lr at h;split at h
 ·rename_i sz rows ex;rw[ex,ar]at hx;obtain⟨b,cap,ev,c1,c2,c3⟩:=hx;split at h
  ·rename_i p q e1 e2;obtain⟨rfl,⟨g0,g1,g2⟩,h⟩:=h;refine bc hr (run b _ cap p q ev e1 e2 g0 g1 (by omega)) ?_ h;rw[ar];have hl:((rows.take q.toNat).drop p.toNat).length=q.toNat-p.toNat:=by simp;omega
   refine⟨_,_,by rw[hl],by omega,by omega, ?_⟩
   by_cases hem:(rows.take q.toNat).drop p.toNat=[]
   ·exact .inl hem
   ·right;have hlen:0<q.toNat-p.toNat:=by rw[←hl];exact List.length_pos_iff.2 hem
    rcases c3 with c3|⟨bb,off,eb,rr⟩
    ·subst c3;simp at hem
    ·subst eb;rw[if_neg (by omega)];refine⟨bb,off+p.toNat*P.cellsOf e,by simp[addr_add],cn.mk fun i r er=>?_⟩;have er':rows[p.toNat+i]?=some r:=by
      rw[aaU]at er;rw[ON]at er;split at er<;>first|exact er|cases er
     have:=rr.get _ _ er';refine⟨this.1, ?_⟩;rw[Nat.add_assoc,←abu];exact this.2
  ·exact h.elim
 ·rename_i id off len sz ex;rw[ex,ar]at hx;obtain⟨bb,b,cap,n,ty,c1,ev,c2,c3,c4,c5,c6⟩:=hx;split at h
  ·rename_i p q e1 e2;obtain⟨rfl,⟨g0,g1,g2⟩,h⟩:=h;refine bc hr (run b _ cap p q ev e1 e2 g0 g1 (by omega)) ?_ h;rw[ar];have hmul:p.toNat*P.cellsOf e+(cap-p.toNat)*P.cellsOf e=cap*P.cellsOf e:=by rw[←abu];congr 1;omega
   refine⟨bb,_,_,n,ty,c1,by congr 1;omega,by omega,by omega, ?_,c5,by omega⟩
   by_cases hz:cap-p.toNat=0
   ·exact .inl hz
   ·right;rcases c4 with c4|c4
    ·omega
    ·rw[if_neg (by omega),c4];simp[addr_add]
  ·exact h.elim
 ·rename_i ex;rw[ex,ar]at hx;obtain⟨b,ev⟩:=hx;split at h
  ·rename_i p q e1 e2;obtain⟨⟨g0,g1⟩,h⟩:=h;subst g0;subst g1;refine bc hr (run b 0 0 0 0 ev e1 (by simpa using e2) (by omega) (by omega) (by omega)) ?_ h;rw[ar];exact⟨_,rfl⟩
  ·exact h.elim
 ·exact h.elim
omit [Laid] in
theorem jf(sz:Nat):∀(n:Nat) (cs:List AV),n*sz≤cs.length→(chunks sz n cs).flatten=cs.take (n*sz)∧∀r∈chunks sz n cs,r.length=sz
 | 0,_,_=>by simp[chunks]
 | n+1,cs,h=>by
   rw[abu,Nat.one_mul]at h;obtain⟨h1,h2⟩:=jf sz n (cs.drop sz) (by simp;omega);refine⟨?_,fun r hr=>?_⟩
   ·simp only[chunks,abq,h1];rw[abu,Nat.one_mul,Nat.add_comm,List.take_add]
   ·simp only[chunks,ID]at hr;rcases hr with rfl|hr
    ·simp;omega
    ·exact h2 r hr
omit [Laid] in
theorem jV(sz:Nat):∀(n:Nat) (cs:List AV),(chunks sz n cs).length=n
 | 0,_=>rfl
 | n+1,cs=>by simp[chunks,jV sz n]
omit [Laid] in
theorem kp{sz:Nat}:∀{rows:List (List AV)},(∀r∈rows,r.length=sz)→rows.flatten.length=rows.length*sz
 | [],_=>by simp
 | r:: rs,h=>by
   have:=kp (rows:=rs) fun x hx=>h x (Lt _ hx);simp only[abq,AT,this,aaP,abu,Nat.one_mul,h r (abn ..)];omega
omit [Laid] in
theorem cn.of_flat{ι:List Ix}{S:aY}{w:World}{sz:Nat}:∀{rows:List (List AV)} {b off:Nat},(∀r∈rows,r.length=sz)→bE ι S w rows.flatten b off→cn ι S w sz rows b off
 | [],_,_,_,_=>by simp[cn]
 | r:: rs,b,off,h,k=>by
   rw[cn];have hr:=h r (abn ..);refine⟨hr,bE.mk fun i c e=>?_,cn.of_flat (fun x hx=>h x (Lt _ hx)) ?_⟩
   ·refine k.get i c ?_;rw[abq,gO (eQ.1 e).1];exact e
   ·have:=k.drop sz;rw[abq,List.drop_left' hr]at this;exact this
theorem WD{t e:TypeId}{n:Nat}{x:Operand}{lo hi:Option Operand}(hr:bZ base ι S a w st)(ho:o.op=.slice t x lo hi none)(ht:P.underlying t=some (.array n e))(hk:fU P e=true)
 (h:qm n (P.cellsOf e) (aE st.fr x) (lo.map (aE st.fr)) (hi.map (aE st.fr)) st.h fun v=>K v st.h):ct P o base ι S a w st K:=by
 have hx:=hr.eval x;unfold qm at h;split at h
 ·rename_i id off ex;rw[ex,ar]at hx;obtain⟨b,c1,ev⟩:=hx;split at h
  ·rename_i p q ak e1 e2 eb;obtain⟨⟨hroom,g0,g1,g2,g3⟩,h⟩:=h;have hb:=qQ (P:=P) (isl:=false) (len:=n) (cap:=n) hr.eval e1 e2 g0 g1 g2;obtain⟨b',arr,fz,k1,k2,k3,k4,k5,k6,k7,k8,k9⟩:=hr.hp.live id ak eb;rw[c1]at k1;cases k1;refine bc hr (u:=.slice (some (if n=p.toNat then ⟨b,off,none⟩ else (⟨b,off,none⟩:Addr).add (p.toNat*P.cellsOf e))) (q.toNat-p.toNat) (n-p.toNat)) ?_ ?_ h
   ·simp only[execOp,ho,ev,Option.map_none];exact fO (by simp only[Instr.sliceAt,abi,run_underlying ht,abh,Instr.sureAddr,abj,hb,dM hk])
   ·rw[ar];have hmul:p.toNat*P.cellsOf e+(n-p.toNat)*P.cellsOf e=n*P.cellsOf e:=by rw[←abu];congr 1;omega
    refine⟨b,_,_,arr.size,ak.ty,c1,by congr 1;omega,by omega,by omega, ?_,by unfold World.shape?;rw[k3],by omega⟩
    by_cases hz:n-p.toNat=0
    ·exact .inl hz
    ·right;rw[if_neg (by omega),addr_add]
  ·exact h.elim
 ·rename_i cs ex;rw[ex,ar]at hx;obtain⟨b,off,ev,rc⟩:=hx;split at h
  ·rename_i p q e1 e2;obtain⟨⟨hroom,g0,g1,rfl,rfl⟩,h⟩:=h;have hb:=qQ (P:=P) (isl:=false) (len:=n) (cap:=n) hr.eval e1 e2 (Int.le_refl _) (by omega) (Int.le_refl _);have hz:¬n=(0:Int).toNat:=by simp;omega
   refine bc hr (u:=.slice (some ((⟨b,off,none⟩:Addr).add ((0:Int).toNat*P.cellsOf e))) (((n:Int)).toNat-(0:Int).toNat) (n-(0:Int).toNat)) ?_ ?_ h
   ·simp only[execOp,ho,ev,Option.map_none];refine fO (by simp only[Instr.sliceAt,abi,run_underlying ht,abh,Instr.sureAddr,abj,hb,dM hk];rw[if_neg hz])
   ·obtain⟨f1,f2⟩:=jf (P.cellsOf e) n cs hroom;have hl:=jV (P.cellsOf e) n cs;rw[ar];refine⟨some ((⟨b,off,none⟩:Addr).add ((0:Int).toNat*P.cellsOf e)),n,by rw[hl];simp,by rw[hl];exact bY _,g1,.inr ⟨b,off,by rw[addr_add];simp, ?_⟩⟩;refine cn.of_flat f2 (bE.mk fun i c hc=>rc.get i c ?_);rw[f1,ON]at hc;split at hc
    ·exact hc
    ·cases hc
  ·exact h.elim
 ·exact h.elim
theorem UW{t e:TypeId}{x i:Operand}(hr:bZ base ι S a w st)(ho:o.op=.indexAddr t x i)(ht:P.underlying t=some (.slice e))(hk:fU P e=true)
 (h:aI (P.cellsOf e) (aE st.fr x) (aE st.fr i) fun v=>K v st.h):ct P o base ι S a w st K:=by
 have hx:=(hr.eval x).ni;have hi:=hr.eval i;have run:∀(b:Addr) (len cap:Nat) (k:IntKind) (j:Int),a.eval x=.slice (some b) len cap→a.eval i=.int k j→0≤j→j<len →
  (execOp a.eval o).run P w=.ok (.value (.pointer (some (b.add (j.toNat*P.cellsOf e))))) w:=by
  intro b len cap k j ex ei g0 g1;simp only[execOp,ho,ex,ei];refine fO ?_;simp only[Instr.indexAt,abi,asIntOf,abj,abh,run_underlying ht];rw[if_pos ⟨g0,g1⟩];simp only[abi,dM hk,abh,abj]
 unfold aI at h;split at h
 ·rename_i sz rows k j e1 e2;rw[e1,ar]at hx;rw[e2,cz]at hi;obtain⟨b,cap,ev,c1,c2,c3⟩:=hx;obtain⟨rfl,⟨g0,g1⟩,h⟩:=h;have hj:j.toNat<rows.length:=by omega
  rcases c3 with c3|⟨bb,off,eb,rr⟩
  ·subst c3;simp at hj
  ·subst eb;refine bc hr (run _ _ cap k j ev hi g0 g1) ?_ h;have er:rows[j.toNat]?=some (rows.getD j.toNat []):=by simp[nE,hj]
   rw[ar];exact⟨bb,off+j.toNat*P.cellsOf e,by rw[addr_add],(rr.get _ _ er).2⟩
 ·rename_i id off len sz k j e1 e2;rw[e1,ar]at hx;rw[e2,cz]at hi;obtain⟨bb,b,cap,n,ty,c1,ev,c2,c3,c4,c5,c6⟩:=hx;obtain⟨rfl,⟨g0,g1⟩,h⟩:=h;rcases c4 with c4|c4
  ·omega
  ·subst c4;refine bc hr (run _ _ cap k j ev hi g0 g1) ?_ h;rw[ar];exact⟨bb,c1,by rw[addr_add]⟩
 ·exact h.elim
theorem UX{t e:TypeId}{n:Nat}{x i:Operand}(hr:bZ base ι S a w st)(ho:o.op=.indexAddr t x i)(ht:P.underlying t=some (.array n e))(hk:fU P e=true)
 (h:eU n (P.cellsOf e) (aE st.fr x) (aE st.fr i) fun v=>K v st.h):ct P o base ι S a w st K:=by
 have hx:=hr.eval x;have hi:=hr.eval i;have run:∀(b:Addr) (k:IntKind) (j:Int),a.eval x=.pointer (some b)→a.eval i=.int k j→0≤j→j<n →
  (execOp a.eval o).run P w=.ok (.value (.pointer (some (b.add (j.toNat*P.cellsOf e))))) w:=by
  intro b k j ex ei g0 g1;simp only[execOp,ho,ex,ei];refine fO ?_;simp only[Instr.indexAt,abi,asIntOf,abj,abh,run_underlying ht,Instr.sureAddr];rw[if_pos ⟨g0,g1⟩];simp only[abi,dM hk,abh,abj]
 unfold eU at h;split at h
 ·rename_i id off k j e1 e2;rw[e1,ar]at hx;rw[e2,cz]at hi;obtain⟨b,c1,ev⟩:=hx;obtain⟨⟨g0,g1⟩,h⟩:=h;refine bc hr (run _ k j ev hi g0 g1) ?_ h;rw[ar];exact⟨b,c1,by rw[addr_add]⟩
 ·rename_i cs k j e1 e2;rw[e1,ar]at hx;rw[e2,cz]at hi;obtain⟨b,off,ev,r⟩:=hx;obtain⟨⟨g0,g1⟩,h⟩:=h;refine bc hr (run _ k j ev hi g0 g1) ?_ h;rw[ar];exact⟨b,_,by rw[addr_add],r.drop _⟩
 ·exact h.elim
theorem Wt{t:TypeId}{x:Operand}{i:Nat}{fs:Array Field}{f:Field}(hr:bZ base ι S a w st)(ho:o.op=.fieldAddr t x i)(ht:P.underlying t=some (.struct fs))(hf:fs[i]?=some f)
 (hz:P.cellsOf f.type≠0) (hk:fU P f.type=true) (h:bg f.offset (aE st.fr x) fun v=>K v st.h):ct P o base ι S a w st K:=by
 have hx:=hr.eval x;have run:∀(b:Addr),a.eval x=.pointer (some b)→(execOp a.eval o).run P w=.ok (.value (.pointer (some (b.add f.offset)))) w:=by
  intro b ex;simp only[execOp,ho,ex];refine fO ?_;simp only[Instr.fieldAt,abi,run_underlying ht,abh,hf,Instr.sureAddr,abj,fieldPlace,dM hk,hz,if_false]
 unfold bg at h;split at h
 ·rename_i cs e;rw[e,ar]at hx;obtain⟨b,off,ev,r⟩:=hx;refine bc hr (run _ ev) ?_ h;rw[ar];exact⟨b,_,by rw[addr_add],r.drop _⟩
 ·rename_i id off e;rw[e,ar]at hx;obtain⟨b,c1,ev⟩:=hx;refine bc hr (run _ ev) ?_ h;rw[ar];exact⟨b,c1,by rw[addr_add]⟩
 ·exact h.elim
theorem WA{x:Operand}(hr:bZ base ι S a w st)(ho:o.op=.nilCheck x)(h:wW (aE st.fr x) fun v=>K v st.h):ct P o base ι S a w st K:=by
 have hx:=hr.eval x;have hx':=hx;unfold wW at h;split at h
 ·rename_i e;rw[e,ar]at hx;obtain⟨b,off,ev,r⟩:=hx;exact bc hr (u:=a.eval x) (by simp[execOp,ho,ev]) hx' h
 ·rename_i e;rw[e,ar]at hx;obtain⟨b,c1,ev⟩:=hx;exact bc hr (u:=a.eval x) (by simp[execOp,ho,ev]) hx' h
 ·rename_i e;rw[e,ar]at hx;obtain⟨vs,us,ev,_⟩:=hx;exact bc hr (u:=a.eval x) (by simp[execOp,ho,ev]) hx' h
 ·exact h.elim
omit [Laid] in
theorem oC{t:TypeId}{cs:List AV}{vs:List Value}{b off:Nat}{K:AV→Prop}(hk:fU P t=true)(r:aB ι S w cs vs)(hc:∀(i:Nat) (v:Value),vs[i]?=some v→w.cell? ⟨b,off+i,none⟩=some v)
 (h:lP (fA P t) (P.cellsOf t) cs K):∃v u,(loadVar t ⟨b,off,none⟩).run P w=.ok u w∧ar ι S w v u∧K v:=by
 unfold loadVar;simp only[abi,vH hk,abh];unfold lP at h;split at h
 ·rename_i hg;rw[hg];have hl:=r.length;have hrun:=run_loadCells_list (P:=P) (w:=w) ⟨b,off,none⟩ (vs.take (P.cellsOf t)) (by
   intro j v e;rw[addr_add];refine hc j v ?_;rw[ON]at e;split at e<;>first|exact e|cases e)
  have hlen:(vs.take (P.cellsOf t)).length=P.cellsOf t:=by simp;omega
  rw[hlen]at hrun;refine⟨_,.agg (vs.take (P.cellsOf t)).toArray, ?_, ?_,h.2⟩
  ·simp only[if_true,abi,dM hk,abh,hrun,abj]
  ·rw[ar];exact⟨_,rfl,r.take _⟩
 ·rename_i hg;rw[hg];simp only[aaX,if_false];split at h
  ·rename_i c rest;obtain⟨v,ev,rv⟩:=r.get 0 c rfl;have:=hc 0 v ev;exact⟨c,v,by simp only[run_load];rw[show (⟨b,off,none⟩:Addr)=⟨b,off+0,none⟩ by rfl,this],rv,h⟩
  ·exact h.elim
theorem U0{t:TypeId}{x:Operand}(hr:bZ base ι S a w st)(ho:o.op=.load t x)(hk:fU P t=true)(h:ah (fA P t) (P.cellsOf t) (aE st.fr x) st.h fun v=>K v st.h):ct P o base ι S a w st K:=by
 have hx:=hr.eval x;unfold ah at h;split at h
 ·rename_i cs e;rw[e,ar]at hx;obtain⟨b,off,ev,r⟩:=hx;obtain⟨vs,rv,hc⟩:=r.sI;obtain⟨v,u,hrun,rv,k⟩:=oC (P:=P) hk rv hc h;exact bc hr (u:=u) (by simp only[execOp,ho,ev];exact fO (by simp only[Instr.loadAt,Instr.sureAddr,abi,abj,abh,hrun])) rv k
 ·rename_i id off e;rw[e,ar]at hx;obtain⟨b,c1,ev⟩:=hx;split at h
  ·rename_i ak eb;obtain⟨b',arr,fz,k1,k2,k3,k4,k5,k6,k7,k8,k9⟩:=hr.hp.live id ak eb;rw[c1]at k1;cases k1;have hcells:aB ι S w ak.cells (arr.toList.take ak.cells.length):=by
    refine aB.mk (by simp;omega) fun i c v e1 e2=>?_;obtain⟨v',e3,r⟩:=k6 i c e1;rw[ON]at e2;split at e2
    ·simp only[Array.getElem?_toList]at e2;rw[e3]at e2;cases e2;exact r
    ·cases e2
   obtain⟨v,u,hrun,rv,k⟩:=oC (P:=P) (b:=b) (off:=off) hk (hcells.drop off) (by
    intro i v e1;rw[gb k3];rw[aaU,ON]at e1;split at e1
    ·simpa using e1
    ·cases e1) h
   exact bc hr (u:=u) (by simp only[execOp,ho,ev];exact fO (by simp only[Instr.loadAt,Instr.sureAddr,abi,abj,abh,hrun])) rv k
  ·exact h.elim
 ·exact h.elim
theorem Rj{t:TypeId}{x v:Operand}(hr:bZ base ι S a w st)(ho:o.op=.store t x v)(hk:fU P t=true)(h:ao (P.cellsOf t) (aE st.fr x) (aE st.fr v) st.h fun h' => K (.v undef) h'):ct P o base ι S a w st K:=by
 have hx:=hr.eval x;have hv:=hr.eval v;unfold ao at h;split at h
 ·rename_i id off e;rw[e,ar]at hx;obtain⟨b,c1,ev⟩:=hx;split at h
  ·rename_i ak eb;obtain⟨⟨g1,g2,g3,g4⟩,h⟩:=h;obtain⟨vs,ecs,rv,one⟩:=uO hv g4;obtain⟨w',hrun,hE,hH⟩:=uC (P:=P) vs (bh (aE st.fr v)) w st.h hr.hp eb g1 c1 off 0 (by omega) rv one;rw[Nat.add_zero]at hH;refine Ju hr (w':=w') ?_ hE hH (by simp) h;simp only[execOp,ho,ev];refine Z8 ?_;have hl:=rv.length;simp only[Instr.storeAt,Instr.sureAddr,abi,abj,abh,storeVar,dM hk,ecs];rw[if_neg (by simp;omega)];exact hrun
  ·exact h.elim
 ·exact h.elim
theorem Px{t:TypeId}{x:AV}{u:Value}(hr:bZ base ι S a w st)(hrun:(execOp a.eval o).run P w=.ok (.value (.pointer (some ⟨w.heap.size,0,none⟩))) (w.alloc (.cells u.cells t)))(r:ar ι S w x u)
 (h:aV t x st.h K):ct P o base ι S a w st K:=by
 obtain⟨g,h⟩:=h;obtain⟨vs,ecs,rv,one⟩:=uO r g;have hH:=hr.hp.alloc t (bh x) vs rv (more:=[]) (fz:=(0,0)) (by intro o _ h;omega);rw[aaZ,←ecs]at hH;refine ir hr hrun (bS.alloc hr.hp.kC (fun b o=>hr.hp.iK b o) _ _) ?_ hH (by simp) h;rw[ar];exact⟨w.heap.size,by rw[gT (by rw[hr.hp.len];exact bY _)];simp[hr.hp.len],rfl⟩
theorem Wq{t:TypeId}{x:Operand}(hr:bZ base ι S a w st)(ho:o.op=.box t x)(h:aV t (aE st.fr x) st.h K):ct P o base ι S a w st K:=
 Px hr (u:=a.eval x) (by simp only[execOp,ho];exact fO (by simp[Instr.box,newVar,newRow])) (hr.eval x) h
theorem Rf{t:TypeId}{z:AV}(hr:bZ base ι S a w st)(ho:o.op=.alloc t)(hz:jI P t=some z)(h:aV t z st.h K):ct P o base ι S a w st K:=by
 unfold jI at hz;cases hi:P.info? t with
 | none=>rw[hi]at hz;cases hz
 | some i =>
   rw[hi]at hz;simp only[Option.bind_some,aaS]at hz;obtain⟨u,hu,rfl⟩:=hz;exact Px hr (u:=u) (by simp only[execOp,ho];exact fO (by simp[Instr.alloc,zeroValue,nK hi,hu,newVar,newRow])) (tM ι S w u) h
theorem UT{f:Fn}{xs ys:Array Operand}(hr:bZ base ι S a w st)(ho:o.op=.makeFunc f xs ys)(h:K (.fn f (xs.toList.map (aE st.fr)) (ys.toList.map (aE st.fr))) st.h):ct P o base ι S a w st K:=by
 refine bc hr (u:=.func f (xs.map a.eval) (ys.map a.eval)) (by simp[execOp,ho,Instr.makeFunc]) ?_ h;rw[ar];have key:∀l:List Operand,aB ι S w (l.map (aE st.fr)) (l.map a.eval):=by
  intro l;induction l with
  | nil=>simp
  | cons x l ih=>simpa using⟨hr.eval x,ih⟩
 exact⟨xs.toList.map a.eval,ys.toList.map a.eval,by congr 1<;>(apply Array.ext';simp),key _,key _⟩
theorem aB.Jj(hr:bZ base ι S a w st):∀l:List Operand,aB ι S w (l.map (aE st.fr)) (l.map a.eval)
 | []=>by simp
 | x:: l=>by simpa using⟨hr.eval x,aB.Jj hr l⟩
omit [Laid] in
theorem vc{c:Call}(ho:o.op=.call c)(hc:c.callee=.builtin .len){n:Nat}(hb:(Builtin.len_ c.argTypes o.type (c.args.map a.eval)).run P w=.ok (.int .i64 n) w):(execOp a.eval o).run P w=.ok (.value (.int .i64 n)) w:=by
 simp only[execOp,ho,resolve,hc,abi,abj,abh,invoke,builtin,hb]
theorem UZ{c:Call}{t:TypeId}{x:Operand}(hr:bZ base ι S a w st)(ho:o.op=.call c)(hc:c.callee=.builtin .len)(hat:c.argTypes[0]?=some t)(hax:c.args[0]?=some x)
 (ht:P.underlying t=some .string) (h:cZ (aE st.fr x) fun v=>K v st.h):ct P o base ι S a w st K:=by
 have hx:=hr.eval x;have hax':(c.args.map a.eval)[0]?=some (a.eval x):=by simp[hax]
 unfold cZ at h;split at h
 ·rename_i l e;rw[e,eF]at hx;refine bc hr (vc ho hc (n:=l.length) ?_) (by simp) (h hx.2);simp only[Builtin.len_,hat,hax',abi,run_underlying ht,abh,hx.1,abj,goInt];rfl
 ·exact h.elim
theorem Wv{c:Call}{t et:TypeId}{x:Operand}(hr:bZ base ι S a w st)(ho:o.op=.call c)(hc:c.callee=.builtin .len)(hat:c.argTypes[0]?=some t)(hax:c.args[0]?=some x)
 (ht:P.underlying t=some (.slice et)) (h:bq (aE st.fr x) fun v=>K v st.h):ct P o base ι S a w st K:=by
 have hx:=(hr.eval x).ni;have hax':(c.args.map a.eval)[0]?=some (a.eval x):=by simp[hax]
 unfold bq at h;split at h
 ·rename_i sz rows e;rw[e,ar]at hx;obtain⟨b,cap,ev,c1,c2,c3⟩:=hx;refine bc hr (vc ho hc (n:=rows.length) ?_) (by simp) (h (by omega));simp only[Builtin.len_,hat,hax',abi,run_underlying ht,abh,ev,abj,goInt]
 ·rename_i id off len sz e;rw[e,ar]at hx;obtain⟨bb,b,cap,n,ty,c1,ev,c2,c3,c4,c5,c6⟩:=hx;refine bc hr (vc ho hc (n:=len) ?_) (by simp) (h (by omega));simp only[Builtin.len_,hat,hax',abi,run_underlying ht,abh,ev,abj,goInt]
 ·rename_i e;rw[e,ar]at hx;obtain⟨b,ev⟩:=hx;refine bc hr (vc ho hc (n:=0) ?_) (by simp) h;simp only[Builtin.len_,hat,hax',abi,run_underlying ht,abh,ev,abj,goInt]
 ·exact h.elim
omit [Laid] in
theorem xF{c:Call}{b:Builtin}{s:Sem Value}{u:Value}{w':World}(ho:o.op=.call c)(hc:c.callee=.builtin b)
 (hb:∀cs,builtin b c.argTypes o.type cs (c.args.map a.eval)=(do pure (.value (←s)))) (hs:s.run P w=.ok u w'):(execOp a.eval o).run P w=.ok (.value u) w':=by
 simp only[execOp,ho,resolve,hc,abi,abj,abh,invoke,hb,hs]
theorem Wx{c:Call}{x y:Operand}(hr:bZ base ι S a w st)(ho:o.op=.call c)(hc:c.callee=.builtin .min)(hax:c.args.toList=[x,y])
 (h:nZ (aE st.fr x) (aE st.fr y) fun v=>K v st.h):ct P o base ι S a w st K:=by
 have hx:=hr.eval x;have hy:=hr.eval y;unfold nZ at h;split at h
 ·rename_i k p k' q e1 e2;rw[e1,cz]at hx;rw[e2,cz]at hy;obtain⟨rfl,h⟩:=h;have hargs:c.args.map a.eval=#[.int k p,.int k q]:=by apply Array.ext';simp[hax,hx,hy]
  exact bc hr (xF ho hc (fun _=>rfl) (by rw[hargs];exact run_min_int2 w _ _ k k p q)) (by simp) h
 ·exact h.elim
theorem Ww{c:Call}{x y:Operand}(hr:bZ base ι S a w st)(ho:o.op=.call c)(hc:c.callee=.builtin .max)(hax:c.args.toList=[x,y])
 (h:kA (aE st.fr x) (aE st.fr y) fun v=>K v st.h):ct P o base ι S a w st K:=by
 have hx:=hr.eval x;have hy:=hr.eval y;unfold kA at h;split at h
 ·rename_i k p k' q e1 e2;rw[e1,cz]at hx;rw[e2,cz]at hy;obtain⟨rfl,h⟩:=h;have hargs:c.args.map a.eval=#[.int k p,.int k q]:=by apply Array.ext';simp[hax,hx,hy]
  exact bc hr (xF ho hc (fun _=>rfl) (by rw[hargs];exact run_max_int2 w _ _ k k p q)) (by simp) h
 ·exact h.elim
theorem U2{c:Call}{x y z:Operand}(hr:bZ base ι S a w st)(ho:o.op=.call c)(hc:c.callee=.builtin .max)(hax:c.args.toList=[x,y,z])
 (h:kA (aE st.fr x) (aE st.fr y) fun u=>kA u (aE st.fr z) fun v=>K v st.h):ct P o base ι S a w st K:=by
 have hx:=hr.eval x;have hy:=hr.eval y;have hz:=hr.eval z;unfold kA at h;split at h
 ·rename_i k p k' q e1 e2;rw[e1,cz]at hx;rw[e2,cz]at hy;obtain⟨rfl,h⟩:=h;split at h
  ·rename_i k1 p1 k2 q1 e3 e4;cases e3;rw[e4,cz]at hz;obtain⟨rfl,h⟩:=h;have hargs:c.args.map a.eval=#[.int k p,.int k q,.int k q1]:=by apply Array.ext';simp[hax,hx,hy,hz]
   refine bc hr (xF ho hc (fun _=>rfl) (by rw[hargs];exact (show (Builtin.max_ c.argTypes o.type #[.int k p,.int k q,.int k q1]).run P w=.ok (.int k (if q1 > (if q > p then q else p) then q1 else (if q > p then q else p))) w by simp[Builtin.max_,Builtin.max2]))) (by simp) h
  ·exact h.elim
 ·exact h.elim
theorem UQ{c:Call}{x:Operand}{f:FuncId}{first cap:List AV}(hr:bZ base ι S a w st)(ho:o.op=.call c)(hc:c.callee=.value x)(hx:aE st.fr x=.fn (.func f) first cap)
 (hf:(P.funcs[f]?).any (fun fn=>fn.body.isSome&&fn.name != "runtime.NumGoroutine")=true) (h:bW P f (first++c.args.toList.map (aE st.fr)++cap) st.h K):ct P o base ι S a w st K:=by
 have hv:=hr.eval x;rw[hx,ar]at hv;obtain⟨vs,us,ev,r1,r2⟩:=hv;obtain⟨fn,hfn,hb⟩:∃fn,P.funcs[f]?=some fn∧(fn.body.isSome&&fn.name != "runtime.NumGoroutine")=true:=by
  cases hq:P.funcs[f]? with
  | none=>rw[hq]at hf;cases hf
  | some fn=>rw[hq]at hf;exact⟨fn,rfl,hf⟩
 simp only[NO,bne_iff_ne,ne_eq]at hb;have hargs:aB ι S w (first++c.args.toList.map (aE st.fr)++cap) (vs++c.args.toList.map a.eval++us):=(r1.append (aB.Jj hr _)).append r2;have hrun:(execOp a.eval o).run P w=.ok (.enter f (vs++c.args.toList.map a.eval++us).toArray) w:=by
  have e2:(vs.toArray++c.args.map a.eval)++us.toArray=(vs++c.args.toList.map a.eval++us).toArray:=by apply Array.ext';simp
  have hne:(fn.name == "runtime.NumGoroutine")=false:=by simpa using hb.2
  have hbn:fn.body.isNone=false:=by cases hbb:fn.body<;>simp_all
  simp only[execOp,ho,resolve,hc,abi,ev,Deferred.ofValue,abj,abh,invoke,e2,callFunc,run_program,hfn,hne,hbn,aaX,if_false]
 intro Q;unfold Oper.wp;rw[hrun,Oper.upon_enter];refine (h base ι S w _ hargs hr.hp).mono ?_;rintro e w' ⟨v,ι',S',r,h',rfl,hE,rv,hH,hl,k⟩;refine⟨ι',S',r,h', ?_, ?_,hl,k⟩
 ·rw[hr.hp.len];exact hE
 ·have:bZ base ι' S' a w' ⟨st.n,st.fr,h'⟩:=⟨hr.df,hr.sz,dH.fW hE (by rw[hr.hp.len];exact bY _) hr.fr,hH⟩;exact this.put o.dst rv
end
/-! ### Built values -/
omit [Laid] in
theorem KG:∀{cs:List AV} {us:List Value} (cells:List AV) (vs:List Value) (o:Nat),aB ι S w cells vs→aB ι S w cs us→o+cs.length≤cells.length →
 ∃vs',(us.toArray.zipIdx.foldl (fun cs (c,j)=>cs.setIfInBounds (o+j) c) vs.toArray)=vs'.toArray∧aB ι S w (bX cells o cs) vs':=by
 intro cs;have key:∀(cs:List AV) (us:List Value) (cells:List AV) (vs:List Value) (o k:Nat),aB ι S w cells vs→aB ι S w cs us→o+k+cs.length≤cells.length →
  ∃vs',((us.zipIdx k).foldl (fun (cs:Array Value) (c:Value×Nat)=>cs.setIfInBounds (o+c.2) c.1) vs.toArray)=vs'.toArray∧aB ι S w (bX cells (o+k) cs) vs':=by
  intro cs;induction cs with
  | nil=>intro us cells vs o k h1 h2 _;simp at h2;subst h2;exact⟨vs,rfl,h1⟩
  | cons c cs ih =>
    intro us cells vs o k h1 h2 hl;cases us with
    | nil=>simp at h2
    | cons u us =>
      simp only[bP]at h2;simp only[aaP]at hl;simp only[List.zipIdx_cons,List.foldl_cons];have e:vs.toArray.setIfInBounds (o+k) u=(vs.set (o+k) u).toArray:=by simp
      rw[e];obtain⟨vs',e1,e2⟩:=ih us (cells.set (o+k) c) (vs.set (o+k) u) o (k+1) (h1.set _ _ _ h2.1) h2.2 (by simp;omega);exact⟨vs',e1,e2⟩
 intro us cells vs o h1 h2 hl;obtain⟨vs',e1,e2⟩:=key cs us cells vs o 0 h1 h2 hl;refine⟨vs', ?_,e2⟩;rw[←e1];simp[←Array.foldl_toList]
omit [Laid] in
theorem rR(place:Nat→Option (Nat×Nat)):∀(parts:List (Nat×AV×Value)) (cells:List AV) (vs:List Value) (r:List AV),aB ι S w cells vs →
 (∀p∈parts,ar ι S w p.2.1 p.2.2∧(place p.1).isSome) →
 dP cells (parts.map fun p=>(((place p.1).getD (0,0)).1,((place p.1).getD (0,0)).2,p.2.1))=some r →
 ∃vs',Instr.fill place vs.toArray (parts.map fun p=>(p.1,p.2.2))=some vs'.toArray∧aB ι S w r vs'
 | [],cells,vs,r,h1,_,h=>by
   simp only[List.map_nil,dP,On]at h;subst h;exact⟨vs,rfl,h1⟩
 | (i,x,v):: parts,cells,vs,r,h1,hp,h=>by
  obtain⟨hx,hi⟩:=hp (i,x,v) (by simp);obtain⟨⟨off,size⟩,hpl⟩:=Option.isSome_iff_exists.1 hi;simp only[GO,dP,hpl,Option.getD_some]at h;split at h
  ·rename_i hc;obtain⟨c1,c2,c3⟩:=hc;obtain⟨us,e1,r1,one⟩:=uO hx c3;dsimp only at c1 c3 e1 r1;obtain⟨vs',e2,r2⟩:=KG cells vs off h1 r1 (by omega);obtain⟨vs'',e3,r3⟩:=rR place parts _ vs' r r2 (fun p q=>hp p (by simp[q])) h;refine⟨vs'', ?_,r3⟩;simp only[GO,Instr.fill,hpl,e1];have l1:=r1.length;have l2:=h1.length;have l3:us.toArray.size=us.length:=by simp
   rw[if_neg (by simp;omega),e2];exact e3
  ·cases h
omit [Laid] in
theorem Bo{w:World}(fs:List Field)(h:fs.all (fun f=>fU P f.type)=true):
 (fs.mapM (fun f=>(do pure (f.offset,←sizeOf f.type):Sem (Nat×Nat)))).run P w=.ok (fs.map fun f=>(f.offset,P.cellsOf f.type)) w:=by
 induction fs with
 | nil=>rfl
 | cons f fs ih =>
   simp only[abg,NO]at h;simp only[List.mapM_cons,abi,dM h.1,abh,abj,ih h.2,GO]
omit [Laid] in
def Kv(x:Value):bh (pT x)=[pT x]:=by
 unfold pT;split
 ·split<;>rfl
 ·rfl
omit [Laid] in
def tY(z:Value):∃vs:List Value,z.cells=vs.toArray∧∀ι S w,aB ι S w (bh (kD z)) vs:=by
 have one:∀x:Value,∀ι S w,aB ι S w (bh (pT x)) [x]:=fun x ι S w=>by
  rw[Kv];simpa using uN ι S w x
 cases z
 case agg cs =>
  refine⟨cs.toList,by simp[Value.cells],fun ι S w=>?_⟩;have:=tM ι S w (.agg cs);simp only[kD]at this ⊢;rw[ar]at this;obtain⟨vs,e,r⟩:=this;simp only[Value.agg.injEq]at e;subst e;simpa[bh]using r
 all_goals exact⟨[_],rfl,fun ι S w=>by simp only[kD];exact one _ ι S w⟩
omit [Laid] in
def Bx(h:jI P t=some z):∃u,(∀w,(zeroValue t).run P w=.ok u w)∧z=kD u:=by
 unfold jI at h;cases hi:P.info? t with
 | none=>rw[hi]at h;cases h
 | some i =>
   rw[hi]at h;simp only[Option.bind_some,aaS]at h;obtain⟨u,hu,rfl⟩:=h;exact⟨u,fun w=>by simp[zeroValue,nK hi,hu],rfl⟩
section
variable {P:Program} {o:Oper} {base:Nat} {ι:List Ix} {S:aY} {a:Act} {w:World} {st:St} {K:AV→aa→Prop}
def parts_eq(hr:bZ base ι S a w st)(place:Nat→Option (Nat×Nat))(parts:Array (Nat×Operand)):
 (∀p∈(parts.toList.map fun p=>(p.1,aE st.fr p.2,a.eval p.2)),ar ι S w p.2.1 p.2.2)∧(parts.map fun (i,x)=>(i,a.eval x)).toList=(parts.toList.map fun p=>(p.1,aE st.fr p.2,a.eval p.2)).map fun p=>(p.1,p.2.2):=by
 refine⟨fun p hp=>?_,by simp⟩;simp only[aaT]at hp;obtain⟨q,_,rfl⟩:=hp;exact hr.eval q.2
def Oq{parts:Array (Nat×Operand)}{fs:Array Field}(hr:bZ base ι S a w st)(ho:o.op=.build t parts)(ht:P.underlying t=some (.struct fs))(hz:jI P t=some z)
 (hk:fs.toList.all (fun f=>fU P f.type)=true) (hp:parts.toList.all (fun p=>(fs[p.1]?).isSome)=true)
 (h:aW z (parts.toList.map fun p=>(((fs[p.1]?).map (·.offset)).getD 0,((fs[p.1]?).map (fun f=>P.cellsOf f.type)).getD 0,aE st.fr p.2)) fun v=>K v st.h):ct P o base ι S a w st K:=by
 obtain⟨u,hu,rfl⟩:=Bx hz;obtain⟨vs,ez,rz⟩:=tY u;unfold aW at h;split at h
 ·rename_i cs e
  let places:Array (Nat×Nat):=(fs.toList.map fun f=>(f.offset,P.cellsOf f.type)).toArray
  obtain⟨q1,q2⟩:=parts_eq hr (places[·]?) parts;have hpl:∀i:Nat,places[i]?=(fs[i]?).map fun f=>(f.offset,P.cellsOf f.type):=fun i=>by simp[places]
  obtain⟨vs',e1,r1⟩:=rR (ι:=ι) (S:=S) (w:=w) (places[·]?) (parts.toList.map fun p=>(p.1,aE st.fr p.2,a.eval p.2)) (bh (kD u)) vs cs (rz ι S w) (fun p hpm=>⟨q1 p hpm,by
   simp only[aaT]at hpm;obtain⟨q,hq,rfl⟩:=hpm;have:=At.1 hp q hq;rw[hpl];simpa using this⟩) (by
   rw[←e,List.map_map]
   congr 1
   refine List.map_congr_left fun p hpm=>?_;have:=At.1 hp p hpm;simp only[Function.comp,hpl];obtain⟨f,hf⟩:=Option.isSome_iff_exists.1 this;simp[hf])
  refine bc hr (u:=.agg vs'.toArray) ?_ (by rw[ar];exact⟨vs',rfl,r1⟩) h;simp only[execOp,ho];refine fO ?_;have hm:(fs.mapM (fun f=>(do pure (f.offset,←sizeOf f.type):Sem (Nat×Nat)))).run P w=.ok places w:=by
   rw[←Array.toArray_toList (xs:=fs)];have:=Bo (P:=P) (w:=w) fs.toList hk;rw[List.mapM_toArray];simp only[Sem.run_map,this,abh,places]
  simp only[Instr.build,abi,hu,abh,run_underlying ht,hm,ez,q2,e1,abj]
 ·exact h.elim
def Oo{parts:Array (Nat×Operand)}(hr:bZ base ι S a w st)(ho:o.op=.build t parts)(ht:P.underlying t=some (.array n e))(hz:jI P t=some z)
 (hk:fU P e=true) (h:aW z (parts.toList.map fun p=>(p.1*P.cellsOf e,P.cellsOf e,aE st.fr p.2)) fun v=>K v st.h):ct P o base ι S a w st K:=by
 obtain⟨u,hu,rfl⟩:=Bx hz;obtain⟨vs,ez,rz⟩:=tY u;unfold aW at h;split at h
 ·rename_i cs e';obtain⟨q1,q2⟩:=parts_eq hr (fun i=>some (i*P.cellsOf e,P.cellsOf e)) parts;obtain⟨vs',e1,r1⟩:=rR (ι:=ι) (S:=S) (w:=w) (fun i=>some (i*P.cellsOf e,P.cellsOf e)) (parts.toList.map fun p=>(p.1,aE st.fr p.2,a.eval p.2)) (bh (kD u)) vs cs (rz ι S w) (fun p hpm=>⟨q1 p hpm,rfl⟩) (by
   rw[←e',List.map_map];rfl)
  refine bc hr (u:=.agg vs'.toArray) ?_ (by rw[ar];exact⟨vs',rfl,r1⟩) h;simp only[execOp,ho];refine fO ?_;simp only[Instr.build,abi,hu,abh,run_underlying ht,dM hk,ez,q2,e1,abj]
 ·exact h.elim
end
/-! ### Structs and arrays compared -/
omit [Laid] in
theorem u9:∀{ks ks':List Nat} {xs ys:List AV} {r:Bool},jh (ks++ks') xs ys=some r →
 ∃p q,jh ks (xs.take ks.length) (ys.take ks.length)=some p∧jh ks' (xs.drop ks.length) (ys.drop ks.length)=some q∧r=(p&&q)
 | [],ks',xs,ys,r,h=>⟨true,r,rfl,by simpa using h,by simp⟩
 | k:: ks,ks',[],ys,r,h=>by simp[jh]at h
 | k:: ks,ks',x:: xs,[],r,h=>by simp[jh]at h
 | k:: ks,ks',x:: xs,y:: ys,r,h=>by
   simp only[abv,jh]at h;split at h
   ·rename_i p q e1 e2;obtain⟨p',q',e3,e4,e5⟩:=u9 e2;simp only[On]at h;exact⟨p&&p',q',by simp[jh,e1,e3],by simpa using e4,by rw[←h,e5,Bool.and_assoc]⟩
   ·cases h
omit [Laid] in
theorem mH:∀{ks:List Nat} {xs ys:List AV} {r:Bool},jh ks xs ys=some r→xs.length=ks.length∧ys.length=ks.length
 | [],[],[],_,_=>⟨rfl,rfl⟩
 | [],x:: xs,_,_,h=>by simp[jh]at h
 | [],[],y:: ys,_,h=>by simp[jh]at h
 | k:: ks,[],_,_,h=>by simp[jh]at h
 | k:: ks,x:: xs,[],_,h=>by simp[jh]at h
 | k:: ks,x:: xs,y:: ys,r,h=>by
   simp only[jh]at h;split at h
   ·rename_i e1 e2;have:=mH e2;simp[this.1,this.2]
   ·cases h
def ik(P:Program)(t:TypeId)(vs:List Value):Value:=if fA P t then .agg vs.toArray else vs.headD undef
omit [Laid] in
theorem pH{w:World}{vs:List Value}{off:Nat}(hk:fU P t=true)(hl:off+P.cellsOf t≤vs.length)(h1:fA P t=false→P.cellsOf t=1):
 (part t vs.toArray off).run P w=.ok (ik P t ((vs.drop off).take (P.cellsOf t))) w:=by
 unfold part ik;simp only[abi,vH hk,abh];cases hg:fA P t with
 | true =>
   simp only[if_true,abi,dM hk,abh,abj]
   congr 2
   apply Array.ext';simp[List.extract_eq_take_drop,Nat.add_sub_cancel_left]
 | false =>
   have h1:=h1 hg;simp only[aaX,if_false];have hlt:off<vs.length:=by omega
   have e2:vs.toArray[off]?=some vs[off]:=by simp[hlt]
   have e:(vs.drop off).take 1=[vs[off]]:=by rw[abo hlt];rfl
   simp only[e2,h1,e];rfl
omit [Laid] in
def mJ{ks:List Nat}(h:mI P d t=some ks):fU P t=true∧(fA P t=false→ks.length=1):=by
 cases d with
 | zero=>simp[mI]at h
 | succ d =>
   unfold mI at h;split at h
   ·rename_i hk;refine⟨hk,fun hg=>?_⟩;unfold fA at hg;split at h<;>rename_i e<;>(try rw[e]at hg)<;>(try simp only[rV,Bool.true_eq_false]at hg)<;>(try (simp only[On]at h;subst h;rfl))<;>cases h
   ·cases h
omit [Laid] in
theorem CP{P:Program}{g:TypeId→Option (List Nat)}{D:Nat}{xs ys:List AV}{vs us:List Value}(hx:aB ι S w xs vs)(hy:aB ι S w ys us)
 (ih:∀t ks,g t=some ks→fU P t=true∧(fA P t=false→ks.length=1)∧∀xs ys vs us r,aB ι S w xs vs→aB ι S w ys us→jh ks xs ys=some r→(Op.equalIn D t (ik P t vs) (ik P t us)).run P w=.ok r w) :
 ∀(fs:List Field) (o:Nat) (ks:List Nat) (r:Bool),um g P o fs=some ks→jh ks (xs.drop o) (ys.drop o)=some r→(Op.eqFields D vs.toArray us.toArray fs).run P w=.ok r w
 | [],o,ks,r,h,k=>by
   simp only[um,On]at h;subst h;have:r=true:=by
    cases hxs:xs.drop o<;>cases hys:ys.drop o<;>rw[hxs,hys]at k<;>simp[jh]at k;first|exact k|exact k.symm
   subst this;rfl
 | f:: fs,o,ks,r,h,k=>by
   simp only[um]at h;split at h
   ·rename_i hc;obtain⟨ho,hn⟩:=hc;cases hg:g f.type with
    | none=>rw[hg]at h;cases h
    | some k1 =>
      rw[hg]at h;simp only[Option.bind_some]at h;split at h
      ·rename_i hz;cases hf:um g P (o+k1.length) fs with
       | none=>rw[hf]at h;cases h
       | some k2 =>
         rw[hf]at h;simp only[abw,On]at h;subst h;obtain⟨p,q,e1,e2,e3⟩:=u9 k;obtain⟨t1,t2,t3⟩:=ih f.type k1 hg;have l1:=(mH e1).1;have l2:=(mH e1).2;have lx:=hx.length;have ly:=hy.length;simp only[aaW,List.length_drop]at l1 l2;obtain⟨hz,hz0⟩:=hz;have hpx:o+P.cellsOf f.type≤vs.length:=by omega
         have hpy:o+P.cellsOf f.type≤us.length:=by omega
         have h1:fA P f.type=false→P.cellsOf f.type=1:=fun q=>by rw[hz];exact t2 q
         have hq:=t3 _ _ _ _ p ((hx.drop o).take k1.length) ((hy.drop o).take k1.length) e1;have rec':=CP hx hy ih fs (o+k1.length) k2 q hf (by simpa[List.drop_drop]using e2);simp only[Op.eqFields,ho];rw[if_pos hn];simp only[abi,pH (P:=P) (w:=w) t1 hpx h1,pH (P:=P) (w:=w) t1 hpy h1,abh,hz,hq,Sem.run_ite];cases p with
         | true=>simp only[Bool.not_true,aaX,if_false,rec'];rw[e3];rfl
         | false=>simp only[Bool.not_false,if_true,abj];rw[e3];rfl
      ·cases h
   ·cases h
omit [Laid] in
def Qq{ks:List Nat}:∀{n:Nat} {xs ys:List AV} {r:Bool},jh (Cg (n+1) ks) xs ys=some r →
 ∃p q,jh ks (xs.take ks.length) (ys.take ks.length)=some p∧jh (Cg n ks) (xs.drop ks.length) (ys.drop ks.length)=some q∧r=(p&&q):=fun h=>u9 h
omit [Laid] in
theorem Ez{P:Program}{D:Nat}{e:TypeId}{ks:List Nat}{xs ys:List AV}{vs us:List Value}(hx:aB ι S w xs vs)(hy:aB ι S w ys us)
 (hk:fU P e=true) (h1:fA P e=false→ks.length=1) (hz:P.cellsOf e=ks.length) (hz0:0<ks.length)
 (ih:∀xs ys vs us r,aB ι S w xs vs→aB ι S w ys us→jh ks xs ys=some r→(Op.equalIn D e (ik P e vs) (ik P e us)).run P w=.ok r w) :
 ∀(n s:Nat) (r:Bool),jh (Cg n ks) (xs.drop (s*ks.length)) (ys.drop (s*ks.length))=some r →
  (forIn (m:=Sem) (List.range' s n) ((none,()):Option Bool×Unit) (fun i _=>do
   let a ←part e vs.toArray (i*ks.length)
   let b ←part e us.toArray (i*ks.length)
   let r ←Op.equalIn D e a b
   if (!r)=true then pure (.done (some false,())) else pure (.yield (none,())))).run P w=.ok (if r then (none,()) else (some false,())) w
 | 0,s,r,h=>by
   have:r=true:=by
    cases hxs:xs.drop (s*ks.length)<;>cases hys:ys.drop (s*ks.length)<;>rw[hxs,hys]at h<;>simp[jh,Cg]at h;first|exact h|exact h.symm
   subst this;rfl
 | n+1,s,r,h=>by
   obtain⟨p,q,e1,e2,e3⟩:=Qq h;have l1:=(mH e1).1;have l2:=(mH e1).2;have lx:=hx.length;have ly:=hy.length;simp only[aaW,List.length_drop]at l1 l2;have hpx:s*ks.length+P.cellsOf e≤vs.length:=by omega
   have hpy:s*ks.length+P.cellsOf e≤us.length:=by omega
   have h1':fA P e=false→P.cellsOf e=1:=fun q=>by rw[hz];exact h1 q
   have hq:=ih _ _ _ _ p ((hx.drop (s*ks.length)).take ks.length) ((hy.drop (s*ks.length)).take ks.length) e1;have rec':=Ez hx hy hk h1 hz hz0 ih n (s+1) q (by rw[abu,Nat.one_mul];simpa[List.drop_drop]using e2);rw[List.range'_succ];simp only[List.forIn_cons,abi,pH (P:=P) (w:=w) hk hpx h1',pH (P:=P) (w:=w) hk hpy h1',abh,hz,hq,Sem.run_ite];cases p with
   | true=>simp only[Bool.not_true,aaX,if_false,abj,abh,rec'];rw[e3];rfl
   | false=>simp only[Bool.not_false,if_true,abj,abh];rw[e3];rfl
omit [Laid] in
theorem KF:∀(d:Nat) (t:TypeId) (ks:List Nat),mI P d t=some ks→∀(D:Nat),d≤D→∀(xs ys:List AV) (vs us:List Value) (r:Bool),aB ι S w xs vs→aB ι S w ys us →
 jh ks xs ys=some r→(Op.equalIn D t (ik P t vs) (ik P t us)).run P w=.ok r w
 | 0,t,ks,h,_,_,_,_,_,_,_,_,_,_=>by simp[mI]at h
 | d+1,t,ks,h,0,hD,_,_,_,_,_,_,_,_=>by omega
 | d+1,t,ks,h,D+1,hD,xs,ys,vs,us,r,hx,hy,hr=>by
   have ih:=fun t ks h=>KF (P:=P) (ι:=ι) (S:=S) (w:=w) d t ks h D (by omega);obtain⟨hok,hone⟩:=mJ h;unfold mI at h;rw[if_pos hok]at h;have scalar:∀k:Nat,ks=[k]→fA P t=false→∃x y u v,Ey k x y=some r∧ar ι S w x u∧ar ι S w y v∧ik P t vs=u∧ik P t us=v:=by
    intro k hks hg;subst hks;have l:=mH hr
    match xs,ys,vs,us,l,hx,hy,hr with
    | [x],[y],u:: vs',v:: us',_,hx,hy,hr =>
      simp only[bP]at hx hy;simp only[jh]at hr;split at hr
      ·rename_i a b e1 e2;simp only[On]at hr e2;subst e2;simp only[Bool.and_true]at hr;subst hr;exact⟨x,y,u,v,e1,hx.1,hy.1,by simp[ik,hg],by simp[ik,hg]⟩
      ·cases hr
    | [x],[y],[],_,_,hx,_,_=>simp at hx
    | [x],[y],_:: _,[],_,_,hy,_=>simp at hy
   split at h
   ·rename_i e;obtain⟨x,y,u,v,e1,rx,ry,rfl,rfl⟩:=scalar 0 (by simpa using h.symm) (by simp[fA,e,rV]);unfold Ey at e1;split at e1<;>first|(exfalso;omega)|skip
    ·simp only[cz]at rx ry;simp only[On]at e1;rw[rx,ry,←e1];exact run_equalIn_bool' w D t _ _ e
    ·cases e1
   ·rename_i k e;obtain⟨x,y,u,v,e1,rx,ry,rfl,rfl⟩:=scalar 1 (by simpa using h.symm) (by simp[fA,e,rV]);unfold Ey at e1;split at e1<;>first|(exfalso;omega)|skip
    ·simp only[cz]at rx ry;split at e1
     ·rename_i hk;subst hk;simp only[On]at e1;rw[rx,ry,run_equalIn_int w D t _ k _ _ e,←e1];rfl
     ·cases e1
    ·cases e1
   ·rename_i e;obtain⟨x,y,u,v,e1,rx,ry,rfl,rfl⟩:=scalar 2 (by simpa using h.symm) (by simp[fA,e,rV]);unfold Ey at e1;split at e1<;>first|(exfalso;omega)|skip
    ·rename_i _ _ p q _;simp only[eF]at rx ry;simp only[On]at e1;rw[rx.1,ry.1,run_equalIn_string w D t _ _ e,←e1];simp only[ByteArray.toList_mk]
     congr 1
     by_cases hpq:p=q<;>simp[hpq]
    ·cases e1
   ·rename_i fs e;split at h
    ·cases h
    ·rename_i hsi;have hg:fA P t=true:=by simp[fA,e,rV]
     have hf:P.fieldsOf t=fs:=by simp[Program.fieldsOf,e]
     simp only[ik,hg,if_true];rw[run_equalIn_struct w D t _ _ (by rw[hf];exact e) (by simpa using hsi),hf];exact CP hx hy (fun t ks h=>⟨(mJ h).1,(mJ h).2,fun xs ys vs us r a b c=>ih t ks h xs ys vs us r a b c⟩) fs.toList 0 ks r h (by simpa using hr)
   ·rename_i n el e;cases hf:mI P d el with
    | none=>rw[hf]at h;cases h
    | some k1 =>
      rw[hf]at h;simp only[Option.bind_some]at h;split at h
      ·rename_i hz;simp only[On]at h;subst h;have hg:fA P t=true:=by simp[fA,e,rV]
       simp only[ik,hg,if_true];have key:=Ez hx hy (mJ hf).1 (mJ hf).2 hz.1 hz.2 (fun xs ys vs us r a b c=>ih el k1 hf xs ys vs us r a b c) n 0 r (by simpa using hr);simp only[Op.equalIn,abi,run_underlying e,abh,dM (mJ hf).1,hz.1];have hfor:∀(f:Nat→Option Bool×Unit→Sem (ForInStep (Option Bool×Unit))),forIn (m:=Sem) [:n] ((none,()):Option Bool×Unit) f=forIn (List.range' 0 n) ((none,()):Option Bool×Unit) f:=fun f=>by
        simp[Std.Legacy.Range.forIn_eq_forIn_range',Std.Legacy.Range.size]
       rw[hfor,key];cases r<;>rfl
      ·cases h
   ·cases h
end
end Go.Aw
end
