/-
 Abstract values for a Go walk: what a value of the model stands for,in a memory of which only the cells that are never written again are told;with the rules by which the model's own wp follows from a condition on abstract values alone.
 No conditions.
-/
import Derived.WalkKit
import Derived.Deep.Quiet
import Derived.Stop.Asserts
import Derived.WalkSpells
import Derived.WalkLawsBesides
import Derived.Laws.StructEq
set_option linter.unusedVariables false
set_option linter.unusedSimpArgs false
set_option linter.unusedSectionVars false
set_option linter.defProp false
set_option autoImplicit true
set_option maxRecDepth 1000000
set_option maxHeartbeats 16000000
noncomputable section
namespace Go.Aw
section
abbrev bY:=@Nat.le_refl
abbrev dO:=@List.getElem?_eq_getElem
abbrev eQ:=@List.getElem?_eq_some_iff
abbrev gE:=@List.mem_of_getElem?
abbrev gO:=@List.getElem?_append_left
abbrev gT:=@List.getElem?_append_right
abbrev iD:=@List.getElem?_set_self
abbrev iF:=@List.getElem?_set_ne
abbrev iN:=@List.getElem?_map
abbrev iS:=@List.getElem?_eq_none
abbrev lE:=@Nat.eq_of_beq_eq_true
abbrev lT:=@Nat.le_of_ble_eq_true
abbrev nE:=@List.getD_eq_getElem?_getD
abbrev nO:=@decide_eq_false
abbrev oF:=@decide_eq_true
abbrev oN:=@of_decide_eq_true
abbrev tO:=@of_decide_eq_false
abbrev uP:=@Nat.lt_or_ge
abbrev At:=@List.all_eq_true
abbrev AS:=@Array.getElem?_eq_some_iff
abbrev AT:=@List.length_append
abbrev By:=@List.take_add_one
abbrev BY:=@List.take_length
abbrev DO:=@Option.some.inj
abbrev GO:=@List.map_cons
abbrev Is:=@List.mem_append
abbrev ID:=@List.mem_cons
abbrev IF:=@List.set_append_right
abbrev IN:=@List.set_append_left
abbrev Lt:=@List.mem_cons_of_mem
abbrev Mk:=@Int.toNat_natCast
abbrev MK:=@List.take_of_length_le
abbrev NO:=@Bool.and_eq_true
abbrev Of:=@decide_eq_true_eq
abbrev On:=@Option.some.injEq
abbrev ON:=@List.getElem?_take
abbrev To:=@List.append_assoc
abbrev TO:=@List.mem_singleton
abbrev Up:=@Nat.lt_of_lt_of_le
abbrev UP:=@Array.getElem?_eq_getElem
abbrev abL:=@List.length_cons
abbrev abM:=@List.length_map
abbrev abO:=@Option.map_eq_some_iff
abbrev abP:=@List.mem_map
abbrev abQ:=@List.getElem?_drop
abbrev abS:=@List.length_take
abbrev abT:=@Bool.false_eq_true
abbrev abU:=@Prod.mk.injEq
abbrev abV:=@List.append_nil
abbrev abW:=@List.set_set
abbrev abX:=@List.length_set
abbrev abY:=@Nat.zero_le
abbrev abZ:=@Nat.not_lt_zero
abbrev ab0:=@Nat.zero_add
abbrev ab2:=@List.foldl_append
abbrev ab3:=@Nat.le_trans
abbrev ab6:=@List.getElem_mem
abbrev ab8:=@List.mem_filter
abbrev aca:=@List.mem_filterMap
abbrev acd:=@List.all_cons
abbrev ace:=@Result.andThen_ok
abbrev acf:=@Sem.run_bind
abbrev acg:=@Sem.run_pure
abbrev aci:=@Bool.or_eq_true
abbrev acj:=@Bool.not_eq_true'
abbrev ack:=@List.mem_cons_self
abbrev acm:=@List.drop_eq_getElem_cons
abbrev aco:=@List.flatten_cons
abbrev acp:=@List.length_nil
abbrev acq:=@List.take_append_of_le_length
abbrev acr:=@Nat.add_mul
abbrev acs:=@List.cons_append
abbrev acu:=@Option.map_some
abbrev acv:=@Bool.or_eq_false_iff
abbrev acw:=@Array.getElem?_eq_none
open Go Go.RowKit
inductive AV where
 | v (x:Value)
 | str (l:List UInt8)
 | any
 | agg (cs:List AV)
 | aA (cs:List AV)
 | emp
 | sl (sz:Nat) (rows:List (List AV))
 | sb (id sz:Nat) (rows:List (List AV))
 | ip (cs:List AV)
 | own (id off len sz:Nat)
 | op (id off:Nat)
 | fn (f:Fn) (first cap:List AV)
 | il (t:TypeId) (x:AV)
 | mp (id:Nat)
 deriving Inhabited
structure jM where
 ty:TypeId
 cells:List AV
 wr:Bool
inductive aL where
 | ah (b:jM)
 | tok (e sz n:Nat)
 | dead
 | mp (c:Nat) (es:List (Nat×AV×AV))
 | it (m s:Nat) (sn:List Nat) (l:Nat)
abbrev aa:=List aL
inductive Ix where
 | ah (b:Nat)
 | tok (n:Nat) (v:Value)
abbrev i_(n:Int):AV:=.v (.int .i64 n)
abbrev b_(b:Bool):AV:=.v (.bool b)
abbrev aZ:=Nat→Nat→Prop
section
variable (ι:List Ix) (S:aZ) (w:World)
mutual
def ar:AV→Value→Prop
 | .v x,y=>y=x
 | .str l,y=>y=.string ⟨l.toArray⟩∧l.length≤maxLen
 | .any,_=>True
 | .agg cs,y=>∃vs:List Value,y=.agg vs.toArray∧aE cs vs
 | .aA cs,y=>∃vs:List Value,y=.tuple vs.toArray∧aE cs vs
 | .emp,y=>∃a,y=.slice a 0 0
 | .sl sz rows,y=>∃a cap,y=.slice a rows.length cap∧rows.length≤cap∧cap≤maxLen∧(rows=[]∨∃b off,a=some ⟨b,off,none⟩∧cr sz rows b off)
 | .sb id sz rows,y=>(∃a cap,y=.slice a rows.length cap∧rows.length≤cap∧cap≤maxLen∧(rows=[]∨∃b off,a=some ⟨b,off,none⟩∧cr sz rows b off))∧∃n v,ι[id]?=some (.tok n v)∧rows.length≤n∧(n=rows.length→y=v)
 | .ip cs,y=>∃b off,y=.pointer (some ⟨b,off,none⟩)∧bD cs b off
 | .own id off len sz,y=>∃b a cap n ty,ι[id]?=some (.ah b)∧y=.slice a len cap∧len≤cap∧cap≤maxLen∧(cap=0∨a=some ⟨b,off,none⟩)∧w.shape? b=some (ty,n)∧off+cap*sz≤n
 | .op id off,y=>∃b,ι[id]?=some (.ah b)∧y=.pointer (some ⟨b,off,none⟩)
 | .fn f xs ys,y=>∃vs us:List Value,y=.func f vs.toArray us.toArray∧aE xs vs∧aE ys us
 | .il t x,y=>∃v,y=.iface t v∧ar x v
 | .mp id,y=>∃b,ι[id]?=some (.ah b)∧y=.map (some b)
def aE:List AV→List Value→Prop
 | [],vs=>vs=[]
 | a:: as,vs=>∃u us,vs=u:: us∧ar a u∧aE as us
def bD:List AV→Nat→Nat→Prop
 | [],_,_=>True
 | c:: cs,b,off=>(∃u,w.cell? ⟨b,off,none⟩=some u∧S b off∧ar c u)∧bD cs b (off+1)
def cr(sz:Nat):List (List AV)→Nat→Nat→Prop
 | [],_,_=>True
 | r:: rs,b,off=>r.length=sz∧bD r b off∧cr sz rs b (off+sz)
end
end
section
variable {ι:List Ix} {S:aZ} {w:World}
@[simp] theorem cD(x y:Value):ar ι S w (.v x) y↔y=x:=by simp[ar]
@[simp] theorem abi(y:Value):ar ι S w .any y↔True:=by simp[ar]
@[simp] theorem eK(l:List UInt8)(y:Value):ar ι S w (.str l) y↔y=.string ⟨l.toArray⟩∧l.length≤maxLen:=by simp[ar]
@[simp] theorem dq(vs:List Value):aE ι S w [] vs↔vs=[]:=by simp[aE]
@[simp] theorem bN(a:AV)(as:List AV)(v:Value)(vs:List Value):aE ι S w (a:: as) (v:: vs)↔ar ι S w a v∧aE ι S w as vs:=by
 rw[aE];constructor
 ·rintro⟨u,us,e,h1,h2⟩;simp only[List.cons.injEq]at e;obtain⟨rfl,rfl⟩:=e;exact⟨h1,h2⟩
 ·rintro⟨h1,h2⟩;exact⟨_,_,rfl,h1,h2⟩
@[simp] theorem Sw(a:AV)(as:List AV):¬aE ι S w (a:: as) []:=by
 rw[aE];rintro⟨u,us,e,_⟩;cases e
theorem aE.length:∀{as:List AV} {vs:List Value},aE ι S w as vs→as.length=vs.length
 | [],vs,h=>by simp at h;simp[h]
 | a:: as,[],h=>by simp at h
 | a:: as,v:: vs,h=>by simp at h;simp[aE.length h.2]
theorem aE.get:∀{as:List AV} {vs:List Value},aE ι S w as vs→∀(i:Nat) (a:AV),as[i]?=some a→∃v,vs[i]?=some v∧ar ι S w a v
 | [],vs,h,i,a,e=>by simp at e
 | a:: as,[],h,_,_,_=>by simp at h
 | a:: as,v:: vs,h,0,x,e=>by simp at e h;subst e;exact⟨v,by simp,h.1⟩
 | a:: as,v:: vs,h,i+1,x,e=>by simp at e h;simpa using h.2.get i x e
def aE.get':∀{as:List AV} {vs:List Value},aE ι S w as vs→∀(i:Nat) (v:Value),vs[i]?=some v→∃a,as[i]?=some a∧ar ι S w a v:=by
 intro as vs h i v e;have hl:=h.length;obtain⟨hi,_⟩:=eQ.1 e;have:as[i]?=some as[i]:=dO (by omega);obtain⟨u,hu,hr⟩:=h.get i _ this;rw[e]at hu;cases hu;exact⟨_,this,hr⟩
theorem aE.set:∀{as:List AV} {vs:List Value},aE ι S w as vs→∀(i:Nat) (a:AV) (v:Value),ar ι S w a v→aE ι S w (as.set i a) (vs.set i v)
 | [],vs,h,i,a,v,_=>by simp at h;subst h;simp
 | a:: as,[],h,_,_,_,_=>by simp at h
 | a:: as,v:: vs,h,0,x,u,e=>by simp at h;simpa using⟨e,h.2⟩
 | a:: as,v:: vs,h,i+1,x,u,e=>by simp at h;simpa using⟨h.1,h.2.set i x u e⟩
theorem aE.append:∀{as bs:List AV} {vs us:List Value},aE ι S w as vs→aE ι S w bs us→aE ι S w (as++bs) (vs++us)
 | [],bs,vs,us,h,k=>by simp at h;subst h;simpa using k
 | a:: as,bs,[],us,h,_=>by simp at h
 | a:: as,bs,v:: vs,us,h,k=>by simp at h;simpa using⟨h.1,h.2.append k⟩
theorem aE.mk:∀{as:List AV} {vs:List Value},as.length=vs.length→(∀(i:Nat) (a:AV) (v:Value),as[i]?=some a→vs[i]?=some v→ar ι S w a v)→aE ι S w as vs
 | [],vs,h,_=>by simpa using (List.length_eq_zero_iff.1 (by simpa using h.symm))
 | a:: as,[],h,_=>by simp at h
 | a:: as,v:: vs,h,k=>by
   simp only[bN];exact⟨k 0 a v rfl rfl,aE.mk (by simpa using h) fun i x u e f=>k (i+1) x u (by simpa using e) (by simpa using f)⟩
theorem aE.take:∀{as:List AV} {vs:List Value} (n:Nat),aE ι S w as vs→aE ι S w (as.take n) (vs.take n)
 | [],vs,n,h=>by simp at h;subst h;simp
 | a:: as,[],n,h=>by simp at h
 | a:: as,v:: vs,0,h=>by simp
 | a:: as,v:: vs,n+1,h=>by simp at h;simpa using⟨h.1,h.2.take n⟩
theorem aE.drop:∀{as:List AV} {vs:List Value} (n:Nat),aE ι S w as vs→aE ι S w (as.drop n) (vs.drop n)
 | [],vs,n,h=>by simp at h;subst h;simp
 | a:: as,[],n,h=>by simp at h
 | a:: as,v:: vs,0,h=>by simpa using h
 | a:: as,v:: vs,n+1,h=>by simp at h;simpa using h.2.drop n
theorem bD.get:∀{cs:List AV} {b off:Nat},bD ι S w cs b off→∀(i:Nat) (c:AV),cs[i]?=some c→∃u,w.cell? ⟨b,off+i,none⟩=some u∧S b (off+i)∧ar ι S w c u
 | [],b,off,h,i,c,e=>by simp at e
 | c:: cs,b,off,h,0,x,e=>by simp at e;subst e;rw[bD]at h;simpa using h.1
 | c:: cs,b,off,h,i+1,x,e=>by
   simp at e;rw[bD]at h;have:=h.2.get i x e;rw[show off+(i+1)=off+1+i by omega];exact this
theorem bD.mk:∀{cs:List AV} {b off:Nat},(∀(i:Nat) (c:AV),cs[i]?=some c→∃u,w.cell? ⟨b,off+i,none⟩=some u∧S b (off+i)∧ar ι S w c u)→bD ι S w cs b off
 | [],b,off,h=>by simp[bD]
 | c:: cs,b,off,h=>by
   rw[bD];refine⟨by simpa using h 0 c rfl,bD.mk fun i x e=>?_⟩;have:=h (i+1) x (by simpa using e);rw[show off+1+i=off+(i+1) by omega];exact this
def bD.drop{cs:List AV}{b off:Nat}(h:bD ι S w cs b off)(k:Nat):bD ι S w (cs.drop k) b (off+k):=
 bD.mk fun i c e=>by
  have:=h.get (k+i) c (by simpa using e);rw[show off+k+i=off+(k+i) by omega];exact this
theorem bD.sH:∀{cs:List AV} {b off:Nat},bD ι S w cs b off→∃vs:List Value,aE ι S w cs vs∧∀(i:Nat) (v:Value),vs[i]?=some v→w.cell? ⟨b,off+i,none⟩=some v
 | [],b,off,h=>⟨[],by simp,by simp⟩
 | c:: cs,b,off,h=>by
   rw[bD]at h;obtain⟨⟨u,hu,_,hr⟩,h2⟩:=h;obtain⟨vs,hv,hc⟩:=h2.sH;refine⟨u:: vs,by simpa using⟨hr,hv⟩,fun i v e=>?_⟩;cases i with
   | zero=>simp at e;subst e;simpa using hu
   | succ i=>simp at e;have:=hc i v e;rw[show off+(i+1)=off+1+i by omega];exact this
theorem cr.get{sz:Nat}:∀{rows:List (List AV)} {b off:Nat},cr ι S w sz rows b off→∀(i:Nat) (r:List AV),rows[i]?=some r→r.length=sz∧bD ι S w r b (off+i*sz)
 | [],b,off,h,i,c,e=>by simp at e
 | r:: rs,b,off,h,0,x,e=>by simp at e;subst e;rw[cr]at h;simpa using⟨h.1,h.2.1⟩
 | r:: rs,b,off,h,i+1,x,e=>by
   simp at e;rw[cr]at h;have:=h.2.2.get i x e;rw[show off+(i+1)*sz=off+sz+i*sz by rw[acr];omega];exact this
theorem cr.mk{sz:Nat}:∀{rows:List (List AV)} {b off:Nat},(∀(i:Nat) (r:List AV),rows[i]?=some r→r.length=sz∧bD ι S w r b (off+i*sz))→cr ι S w sz rows b off
 | [],b,off,h=>by simp[cr]
 | r:: rs,b,off,h=>by
   rw[cr];have h0:=h 0 r rfl;refine⟨h0.1,by simpa using h0.2,cr.mk fun i x e=>?_⟩;have:=h (i+1) x (by simpa using e);rw[show off+sz+i*sz=off+(i+1)*sz by rw[acr];omega];exact this
end
def fW:Option Ix→Option Ix→Prop
 | some (.tok n v),y=>∃n' v',y=some (.tok n' v')∧((n'=n∧v'=v)∨n<n')
 | x,y=>y=x
theorem fW.refl:∀x,fW x x
 | some (.tok n v)=>⟨n,v,rfl,.inl ⟨rfl,rfl⟩⟩
 | some (.ah _)=>rfl
 | none=>rfl
def fW.of_eq(h:y=x):fW x y:=h▸fW.refl x
theorem fW.trans:∀{x y z:Option Ix},fW x y→fW y z→fW x z
 | some (.tok n v),y,z,h,k=>by
   obtain⟨n',v',rfl,h⟩:=h;obtain⟨n'',v'',rfl,k⟩:=k;refine⟨n'',v'',rfl, ?_⟩;rcases h with⟨rfl,rfl⟩|h
   ·exact k
   ·rcases k with⟨rfl,rfl⟩|k
    ·exact .inr h
    ·exact .inr (Nat.lt_trans h k)
 | some (.ah _),y,z,h,k=>by simp only[fW]at h;subst h;exact k
 | none,y,z,h,k=>by simp only[fW]at h;subst h;exact k
def fW.ah(h:fW (some (.ah b)) y):y=some (.ah b):=h
structure bU(n base:Nat)(ι:List Ix)(S:aZ)(w:World)(ι':List Ix)(S':aZ)(w':World):Prop where
 pre:∀i,i<n→fW ι[i]? ι'[i]?
 sub:∀b o,S b o→S' b o
 new:∀b o,S' b o→S b o∨base≤b
 cell:∀b o,S b o→w'.cell? ⟨b,o,none⟩=w.cell? ⟨b,o,none⟩
 xz:∀b x,w.shape? b=some x→w'.shape? b=some x
 oh:Below base w w'
def bU.refl(n base:Nat)(ι:List Ix)(S:aZ)(w:World):bU n base ι S w ι S w:=
 ⟨fun _ _=>fW.refl _,fun _ _ h=>h,fun _ _ h=>.inl h,fun _ _ _=>rfl,fun _ _ h=>h,Below.refl _ _⟩
def bU.trans{n base:Nat}(h:bU n base ι S w ι' S' w')(k:bU n base ι' S' w' ι'' S'' w''):bU n base ι S w ι'' S'' w'':=
 ⟨fun i hi=>(h.pre i hi).trans (k.pre i hi),fun b o x=>k.sub b o (h.sub b o x),
  fun b o x=>(k.new b o x).elim (fun y=>h.new b o y) .inr,
  fun b o x=>(k.cell b o (h.sub b o x)).trans (h.cell b o x),fun b x hx=>k.xz b x (h.xz b x hx),h.oh.trans k.oh⟩
def bU.mono{n n' base base':Nat}(h:bU n base ι S w ι' S' w')(hn:n'≤n)(hb:base'≤base):bU n' base' ι S w ι' S' w':=
 ⟨fun i hi=>h.pre i (Up hi hn),h.sub,fun b o x=>(h.new b o x).imp id (fun y=>ab3 hb y),h.cell,h.xz,h.oh.mono hb⟩
mutual
def Bd(n:Nat):AV→Prop
 | .v _|.str _|.any|.emp=>True
 | .agg cs|.aA cs|.ip cs=>lX n cs
 | .sl _ rows=>wF n rows
 | .sb id _ rows=>id<n∧wF n rows
 | .own id _ _ _|.op id _|.mp id=>id<n
 | .fn _ xs ys=>lX n xs∧lX n ys
 | .il _ x=>Bd n x
def lX(n:Nat):List AV→Prop
 | []=>True
 | a:: as=>Bd n a∧lX n as
def wF(n:Nat):List (List AV)→Prop
 | []=>True
 | r:: rs=>lX n r∧wF n rs
end
mutual
theorem ar.bd(hn:ι.length≤n):∀(a:AV) (y:Value),ar ι S w a y→Bd n a
 | .v _,_,_=>by simp[Bd]
 | .str _,_,_=>by simp[Bd]
 | .any,_,_=>by simp[Bd]
 | .emp,_,_=>by simp[Bd]
 | .agg cs,y,k=>by rw[ar]at k;rw[Bd];obtain⟨vs,e,k⟩:=k;exact aE.bd hn cs vs k
 | .aA cs,y,k=>by rw[ar]at k;rw[Bd];obtain⟨vs,e,k⟩:=k;exact aE.bd hn cs vs k
 | .sl sz rows,y,k=>by
   rw[ar]at k;rw[Bd];obtain⟨a,cap,e,h1,h2,h3⟩:=k;rcases h3 with rfl|⟨b,off,ea,hr⟩
   ·simp[wF]
   ·exact cr.bd hn sz rows b off hr
 | .sb tid sz rows,y,k=>by
   rw[ar]at k;rw[Bd];obtain⟨⟨a,cap,e,h1,h2,h3⟩,m,v,t1,_⟩:=k;refine⟨Up (eQ.1 t1).1 hn, ?_⟩;rcases h3 with rfl|⟨b,off,ea,hr⟩
   ·simp[wF]
   ·exact cr.bd hn sz rows b off hr
 | .ip cs,y,k=>by rw[ar]at k;rw[Bd];obtain⟨b,off,e,k⟩:=k;exact bD.bd hn cs b off k
 | .own tid off len sz,y,k=>by
   rw[ar]at k;rw[Bd];obtain⟨b,a,cap,m,ty,h1,_⟩:=k;exact Up (eQ.1 h1).1 hn
 | .op tid off,y,k=>by
   rw[ar]at k;rw[Bd];obtain⟨b,h1,_⟩:=k;exact Up (eQ.1 h1).1 hn
 | .fn f xs ys,y,k=>by rw[ar]at k;rw[Bd];obtain⟨vs,us,e,k1,k2⟩:=k;exact⟨aE.bd hn xs vs k1,aE.bd hn ys us k2⟩
 | .il t x,y,k=>by rw[ar]at k;rw[Bd];obtain⟨v,e,k⟩:=k;exact ar.bd hn x v k
 | .mp tid,y,k=>by
   rw[ar]at k;rw[Bd];obtain⟨b,h1,_⟩:=k;exact Up (eQ.1 h1).1 hn
theorem aE.bd(hn:ι.length≤n):∀(as:List AV) (vs:List Value),aE ι S w as vs→lX n as
 | [],_,_=>by simp[lX]
 | a:: as,[],k=>by simp at k
 | a:: as,v:: vs,k=>by simp at k;rw[lX];exact⟨ar.bd hn a v k.1,aE.bd hn as vs k.2⟩
theorem bD.bd(hn:ι.length≤n):∀(cs:List AV) (b off:Nat),bD ι S w cs b off→lX n cs
 | [],_,_,_=>by simp[lX]
 | c:: cs,b,off,k=>by rw[bD]at k;rw[lX];obtain⟨⟨u,_,_,h⟩,k2⟩:=k;exact⟨ar.bd hn c u h,bD.bd hn cs b (off+1) k2⟩
theorem cr.bd(hn:ι.length≤n)(sz:Nat):∀(rows:List (List AV)) (b off:Nat),cr ι S w sz rows b off→wF n rows
 | [],_,_,_=>by simp[wF]
 | r:: rs,b,off,k=>by rw[cr]at k;rw[wF];exact⟨bD.bd hn r b off k.2.1,cr.bd hn sz rs b (off+sz) k.2.2⟩
end
mutual
theorem ar.im{n base:Nat}(h:bU n base ι S w ι' S' w'):∀(a:AV) (y:Value),Bd n a→ar ι S w a y→ar ι' S' w' a y
 | .v x,y,p,k=>by simpa using k
 | .str x,y,p,k=>by simpa using k
 | .any,y,p,k=>by simp
 | .agg cs,y,p,k=>by rw[ar]at *;rw[Bd]at p;obtain⟨vs,e,k⟩:=k;exact⟨vs,e,aE.im h cs vs p k⟩
 | .aA cs,y,p,k=>by rw[ar]at *;rw[Bd]at p;obtain⟨vs,e,k⟩:=k;exact⟨vs,e,aE.im h cs vs p k⟩
 | .emp,y,p,k=>by rw[ar]at *;exact k
 | .sl sz rows,y,p,k=>by
   rw[ar]at *;rw[Bd]at p;obtain⟨a,cap,e,h1,h2,h3⟩:=k;exact⟨a,cap,e,h1,h2,h3.imp (fun q=>q) fun⟨b,off,ea,hr⟩=>⟨b,off,ea,cr.im h sz rows b off p hr⟩⟩
 | .sb tid sz rows,y,p,k=>by
   rw[ar]at *;rw[Bd]at p;obtain⟨⟨a,cap,e,h1,h2,h3⟩,m,v,t1,t2,t3⟩:=k;refine⟨⟨a,cap,e,h1,h2,h3.imp (fun q=>q) fun⟨b,off,ea,hr⟩=>⟨b,off,ea,cr.im h sz rows b off p.2 hr⟩⟩, ?_⟩;have hp:=h.pre tid p.1;rw[t1]at hp;obtain⟨m',v',e',q⟩:=hp;refine⟨m',v',e', ?_⟩;rcases q with⟨rfl,rfl⟩|q
   ·exact⟨t2,t3⟩
   ·exact⟨by omega,fun z=>by omega⟩
 | .ip cs,y,p,k=>by rw[ar]at *;rw[Bd]at p;obtain⟨b,off,e,k⟩:=k;exact⟨b,off,e,bD.im h cs b off p k⟩
 | .own tid off len sz,y,p,k=>by
   rw[ar]at *;rw[Bd]at p;obtain⟨b,a,cap,m,ty,h1,h2,h3,h4,h5,h6,h7⟩:=k;exact⟨b,a,cap,m,ty,(h1▸h.pre tid p).ah,h2,h3,h4,h5,h.xz _ _ h6,h7⟩
 | .op tid off,y,p,k=>by
   rw[ar]at *;rw[Bd]at p;obtain⟨b,h1,h2⟩:=k;exact⟨b,(h1▸h.pre tid p).ah,h2⟩
 | .fn f xs ys,y,p,k=>by rw[ar]at *;rw[Bd]at p;obtain⟨vs,us,e,k1,k2⟩:=k;exact⟨vs,us,e,aE.im h xs vs p.1 k1,aE.im h ys us p.2 k2⟩
 | .il t x,y,p,k=>by rw[ar]at *;rw[Bd]at p;obtain⟨v,e,k⟩:=k;exact⟨v,e,ar.im h x v p k⟩
 | .mp tid,y,p,k=>by
   rw[ar]at *;rw[Bd]at p;obtain⟨b,h1,h2⟩:=k;exact⟨b,(h1▸h.pre tid p).ah,h2⟩
theorem aE.im{n base:Nat}(h:bU n base ι S w ι' S' w'):∀(as:List AV) (vs:List Value),lX n as→aE ι S w as vs→aE ι' S' w' as vs
 | [],vs,p,k=>by simpa using k
 | a:: as,[],p,k=>by simp at k
 | a:: as,v:: vs,p,k=>by simp at k;rw[lX]at p;simpa using⟨ar.im h a v p.1 k.1,aE.im h as vs p.2 k.2⟩
theorem bD.im{n base:Nat}(h:bU n base ι S w ι' S' w'):∀(cs:List AV) (b off:Nat),lX n cs→bD ι S w cs b off→bD ι' S' w' cs b off
 | [],b,off,p,k=>by simp[bD]
 | c:: cs,b,off,p,k=>by
   rw[bD]at *;rw[lX]at p;obtain⟨⟨u,h1,h2,h3⟩,k2⟩:=k;exact⟨⟨u,by rw[h.cell b off h2];exact h1,h.sub _ _ h2,ar.im h c u p.1 h3⟩,bD.im h cs b (off+1) p.2 k2⟩
theorem cr.im{n base:Nat}(h:bU n base ι S w ι' S' w')(sz:Nat):∀(rows:List (List AV)) (b off:Nat),wF n rows→cr ι S w sz rows b off→cr ι' S' w' sz rows b off
 | [],b,off,p,k=>by simp[cr]
 | r:: rs,b,off,p,k=>by
   rw[cr]at *;rw[wF]at p;exact⟨k.1,bD.im h r b off p.1 k.2.1,cr.im h sz rs b (off+sz) p.2 k.2.2⟩
end
def ar.fU{n base:Nat}(h:bU n base ι S w ι' S' w')(hn:ι.length≤n)(a:AV)(y:Value)(k:ar ι S w a y):ar ι' S' w' a y:=ar.im h a y (ar.bd hn a y k) k
def aE.fU{n base:Nat}(h:bU n base ι S w ι' S' w')(hn:ι.length≤n)(as:List AV)(vs:List Value)(k:aE ι S w as vs):aE ι' S' w' as vs:=aE.im h as vs (aE.bd hn as vs k) k
def bD.fU{n base:Nat}(h:bU n base ι S w ι' S' w')(hn:ι.length≤n)(cs:List AV)(b off:Nat)(k:bD ι S w cs b off):bD ι' S' w' cs b off:=bD.im h cs b off (bD.bd hn cs b off k) k
def cr.fU{n base:Nat}(h:bU n base ι S w ι' S' w')(hn:ι.length≤n)(sz:Nat)(rows:List (List AV))(b off:Nat)(k:cr ι S w sz rows b off):cr ι' S' w' sz rows b off:=cr.im h sz rows b off (cr.bd hn sz rows b off k) k
/-! ### Maps,and walks over them -/
section
variable (ι:List Ix) (S:aZ) (w:World)
def sM:List (Nat×AV×AV)→List MapEntry→Prop
 | [],l=>l=[]
 | (n,k,c):: r,l=>∃e l',l=e:: l'∧e.born=n∧ar ι S w k e.key∧ar ι S w c e.val∧sM r l'
def sN(base:Nat)(ix:Option Ix):aL→Prop
 | .mp c es=>∃b arr,ix=some (.ah b)∧base≤b∧w.heap[b]?=some (.map arr c)∧(∀o,¬S b o)∧sM ι S w es arr.toList
 | .it m s sn l=>∃b bm,ix=some (.ah b)∧base≤b∧w.heap[b]?=some (.mapIter (some bm) s sn.toArray l)∧(∀o,¬S b o)∧ι[m]?=some (.ah bm)
 | _=>True
end
theorem sM.imp{f:AV→AV}(hf:∀a y,ar ι S w a y→ar ι' S' w' (f a) y):∀{es:List (Nat×AV×AV)} {l:List MapEntry},sM ι S w es l→sM ι' S' w' (es.map fun p=>(p.1,f p.2.1,f p.2.2)) l
 | [],_,h=>h
 | (_,_,_):: _,_,⟨e,l',h1,h2,h3,h4,h5⟩=>⟨e,l',h1,h2,hf _ _ h3,hf _ _ h4,sM.imp hf h5⟩
theorem sM.bd:∀{es:List (Nat×AV×AV)} {l:List MapEntry},sM ι S w es l→(∀p∈es,(∀y,ar ι S w p.2.1 y→ar ι' S' w' p.2.1 y)∧∀y,ar ι S w p.2.2 y→ar ι' S' w' p.2.2 y)→sM ι' S' w' es l
 | [],_,h,_=>h
 | (n,k,c):: r,_,⟨e,l',h1,h2,h3,h4,h5⟩,hb=>⟨e,l',h1,h2,(hb (n,k,c) (ack ..)).1 _ h3,(hb (n,k,c) (ack ..)).2 _ h4,sM.bd h5 fun p hp=>hb p (Lt _ hp)⟩
def sM.fU{n base:Nat}(hE:bU n base ι S w ι' S' w')(hn:ι.length≤n){es:List (Nat×AV×AV)}(h:sM ι S w es l):sM ι' S' w' es l:=
 sM.bd h fun p _=>⟨fun y=>ar.fU hE hn _ y,fun y=>ar.fU hE hn _ y⟩
theorem sN.step{n base b0:Nat}{ix ix':Option Ix}{en:aL}(h:sN ι S w base ix en)(hE:bU n b0 ι S w ι' S' w')(hn:ι.length≤n)(hix:ix'=ix)
 (same:∀b,ix=some (.ah b)→b<w.heap.size→w'.heap[b]?=w.heap[b]?∧∀o,S' b o→S b o):sN ι' S' w' base ix' en:=by
 subst hix;have lt:∀{b:Nat} {o:Obj},w.heap[b]?=some o→b<w.heap.size:=fun k=>(AS.1 k).1;cases en with
 | mp c es =>
   obtain⟨b,arr,h1,h2,h3,h4,h5⟩:=h;obtain⟨q1,q2⟩:=same b h1 (lt h3);exact⟨b,arr,h1,h2,by rw[q1];exact h3,fun o ho=>h4 o (q2 o ho),h5.fU hE hn⟩
 | it m s sn l =>
   obtain⟨b,bm,h1,h2,h3,h4,h5⟩:=h;obtain⟨q1,q2⟩:=same b h1 (lt h3);refine⟨b,bm,h1,h2,by rw[q1];exact h3,fun o ho=>h4 o (q2 o ho), ?_⟩;have hm:m<ι.length:=(eQ.1 h5).1;exact (h5▸hE.pre m (Up hm hn)).ah
 | ah=>trivial
 | tok=>trivial
 | dead=>trivial
def sN.at{base:Nat}{ix:Option Ix}{en:aL}(h:sN ι S w base ix en)(hk:(∃c es,en=.mp c es)∨∃m s sn l,en=.it m s sn l):∃b,ix=some (.ah b)∧base≤b∧b<w.heap.size:=by
 rcases hk with⟨c,es,rfl⟩|⟨m,s,sn,l,rfl⟩
 ·obtain⟨b,arr,h1,h2,h3,_⟩:=h;exact⟨b,h1,h2,(AS.1 h3).1⟩
 ·obtain⟨b,bm,h1,h2,h3,_⟩:=h;exact⟨b,h1,h2,(AS.1 h3).1⟩
end
section
open Go Go.RowKit
mutual
def Pure:AV→Prop
 | .v _|.str _|.any|.emp=>True
 | .agg cs|.aA cs|.ip cs=>aR cs
 | .sl _ rows=>cJ rows
 | .own .. | .op .. | .sb .. | .mp _=>False
 | .fn _ xs ys=>aR xs∧aR ys
 | .il _ x=>Pure x
def aR:List AV→Prop
 | []=>True
 | a:: as=>Pure a∧aR as
def cJ:List (List AV)→Prop
 | []=>True
 | r:: rs=>aR r∧cJ rs
end
mutual
theorem ar.pure:∀(a:AV) (y:Value),Pure a→ar ι S w a y→ar ι' S w a y
 | .v x,y,_,k=>by simpa using k
 | .str x,y,_,k=>by simpa using k
 | .any,y,_,k=>by simp
 | .agg cs,y,p,k=>by rw[ar]at *;rw[Pure]at p;obtain⟨vs,e,k⟩:=k;exact⟨vs,e,aE.pure cs vs p k⟩
 | .aA cs,y,p,k=>by rw[ar]at *;rw[Pure]at p;obtain⟨vs,e,k⟩:=k;exact⟨vs,e,aE.pure cs vs p k⟩
 | .emp,y,_,k=>by rw[ar]at *;exact k
 | .sl sz rows,y,p,k=>by
   rw[ar]at *;rw[Pure]at p;obtain⟨a,cap,e,h1,h2,h3⟩:=k;exact⟨a,cap,e,h1,h2,h3.imp id fun⟨b,off,ea,hr⟩=>⟨b,off,ea,cr.pure sz rows b off p hr⟩⟩
 | .ip cs,y,p,k=>by rw[ar]at *;rw[Pure]at p;obtain⟨b,off,e,k⟩:=k;exact⟨b,off,e,bD.pure cs b off p k⟩
 | .own id off len sz,y,p,k=>by rw[Pure]at p;exact p.elim
 | .sb id sz rows,y,p,k=>by rw[Pure]at p;exact p.elim
 | .op id off,y,p,k=>by rw[Pure]at p;exact p.elim
 | .fn f xs ys,y,p,k=>by rw[ar]at *;rw[Pure]at p;obtain⟨vs,us,e,k1,k2⟩:=k;exact⟨vs,us,e,aE.pure xs vs p.1 k1,aE.pure ys us p.2 k2⟩
 | .il t x,y,p,k=>by rw[ar]at *;rw[Pure]at p;obtain⟨v,e,k⟩:=k;exact⟨v,e,ar.pure x v p k⟩
 | .mp id,y,p,k=>by rw[Pure]at p;exact p.elim
theorem aE.pure:∀(as:List AV) (vs:List Value),aR as→aE ι S w as vs→aE ι' S w as vs
 | [],vs,_,k=>by simpa using k
 | a:: as,[],_,k=>by simp at k
 | a:: as,v:: vs,p,k=>by rw[aR]at p;simp at k;simpa using⟨ar.pure a v p.1 k.1,aE.pure as vs p.2 k.2⟩
theorem bD.pure:∀(cs:List AV) (b off:Nat),aR cs→bD ι S w cs b off→bD ι' S w cs b off
 | [],b,off,_,k=>by simp[bD]
 | c:: cs,b,off,p,k=>by
   rw[bD]at *;rw[aR]at p;obtain⟨⟨u,h1,h2,h3⟩,k2⟩:=k;exact⟨⟨u,h1,h2,ar.pure c u p.1 h3⟩,bD.pure cs b (off+1) p.2 k2⟩
theorem cr.pure(sz:Nat):∀(rows:List (List AV)) (b off:Nat),cJ rows→cr ι S w sz rows b off→cr ι' S w sz rows b off
 | [],b,off,_,k=>by simp[cr]
 | r:: rs,b,off,p,k=>by
   rw[cr]at *;rw[cJ]at p;exact⟨k.1,bD.pure r b off p.1 k.2.1,cr.pure sz rs b (off+sz) p.2 k.2.2⟩
end
class Laid where
 Wf:Nat→Option (List AV)
 pure:∀g cs,Wf g=some cs→aR cs
variable [Laid]
def CV(S:aZ)(w:World):Prop:=∀g cs,Laid.Wf g=some cs→bD [] S w cs g 0∧∃ty,w.shape? g=some (ty,cs.length)
def CV.fU{n base:Nat}(h:CV S w)(hE:bU n base ι S w ι' S' w'):CV S' w':=fun g cs e =>
 ⟨bD.fU (n:=0) (base:=base) (ι:=[]) (ι':=[]) ⟨fun _ q=>absurd q (abZ _),hE.sub,hE.new,hE.cell,hE.xz,hE.oh⟩ (bY _) cs g 0 (h g cs e).1,let ⟨ty,k⟩:=(h g cs e).2;⟨ty,hE.xz _ _ k⟩⟩
def u4(base:Nat)(S:aZ)(w:World)(e sz n:Nat)(v:Value):Prop:=
 ∃a cap,v=.slice a n cap∧n≤cap∧cap≤maxLen∧(cap=0∨∃b arr fz,a=some ⟨b,0,none⟩∧base≤b∧w.heap[b]?=some (.cells arr e fz) ∧
  (∀o,o<arr.size→¬(fz.1≤o∧o<fz.2))∧cap*sz≤arr.size∧∀o,S b o→o<n*sz)
def CN(v:Value)(b:Nat):Prop:=∃a l cap,v=.slice (some a) l cap∧a.block=b∧cap≠0
def AB:Option Ix→Nat→Prop
 | some (.ah c),b=>c=b
 | some (.tok _ v),b=>CN v b
 | none,_=>False
def alive:Option aL→Prop
 | some .dead|none=>False
 | _=>True
omit [Laid] in
def u4.fB{base:Nat}{e sz n:Nat}(h:u4 base S w e sz n v)(k:∀b,CN v b→base≤b→b<w.heap.size→w'.heap[b]?=w.heap[b]?∧∀o,S' b o→S b o):u4 base S' w' e sz n v:=by
 obtain⟨a,cap,e1,h1,h2,h3⟩:=h;refine⟨a,cap,e1,h1,h2, ?_⟩;rcases h3 with h3|⟨b,arr,fz,ea,k1,k2,k3,k4,k5⟩
 ·exact .inl h3
 ·by_cases hc:cap=0
  ·exact .inl hc
  ·have hb:b<w.heap.size:=by
    rcases uP b w.heap.size with q|q
    ·exact q
    ·rw[acw q]at k2;cases k2
   obtain⟨q1,q2⟩:=k b ⟨_,_,_,by rw[e1,ea],rfl,hc⟩ k1 hb;exact .inr ⟨b,arr,fz,ea,k1,by rw[q1];exact k2,k3,k4,fun o ho=>k5 o (q2 o ho)⟩
structure cN(base:Nat)(ι:List Ix)(S:aZ)(w:World)(h:aa):Prop where
 len:ι.length=h.length
 live:∀(id:Nat) (x:jM),h[id]?=some (.ah x)→∃b arr fz,ι[id]?=some (.ah b)∧base≤b∧w.heap[b]?=some (.cells arr x.ty fz) ∧
  (∀o,o<arr.size→¬(fz.1≤o∧o<fz.2))∧x.cells.length≤arr.size ∧
  (∀(i:Nat) (c:AV),x.cells[i]?=some c→∃v,arr[i]?=some v∧ar ι S w c v) ∧
  (x.wr=true→∀o,¬S b o)∧(∀o,S b o→o<x.cells.length)∧(x.wr=false→∀o,o<x.cells.length→S b o)
 tok:∀(id e sz n:Nat),h[id]?=some (.tok e sz n)→∃v,ι[id]?=some (.tok n v)∧u4 base S w e sz n v
 ky:∀(id:Nat) (en:aL),h[id]?=some en→sN ι S w base ι[id]? en
 inj:∀(i j b:Nat),alive h[i]?→alive h[j]?→AB ι[i]? b→AB ι[j]? b→i=j
 iY:∀b o,S b o→b<w.heap.size
 kC:base≤w.heap.size
 gl:CV S w
abbrev Fr:=List (Nat×AV)
def bC:Fr→Nat→AV
 | [],_=>.any
 | (s,y):: r,t=>if s=t then y else bC r t
def fg:Fr→Nat→AV→Fr
 | [],t,x=>[(t,x)]
 | (s,y):: r,t,x=>if s=t then (t,x):: r else if t<s then (t,x):: (s,y):: r else (s,y):: fg r t x
def kb(fB:List Nat)(fr:Fr):Fr:=fB.map fun t=>(t,bC fr t)
def bL(n:Nat)(fr:Fr)(d:Option Tmp)(x:AV):Fr:=match d with|some t=>if t<n then fg fr t x else fr|none=>fr
def dD(ι:List Ix)(S:aZ)(w:World)(fr:Fr)(tmps:Array Value):Prop:=∀t,ar ι S w (bC fr t) (tmps.getD t undef)
omit [Laid] in
def dD.fU{fr:Fr}{tmps:Array Value}{n base:Nat}(hE:bU n base ι S w ι' S' w')(hn:ι.length≤n)(h:dD ι S w fr tmps):dD ι' S' w' fr tmps:=
 fun t=>ar.fU hE hn _ _ (h t)
omit [Laid] in
theorem fD:∀(fr:Fr) (t:Nat) (x:AV) (u:Nat),bC (fg fr t x) u=if t=u then x else bC fr u
 | [],t,x,u=>by simp[fg,bC]
 | (s,y):: r,t,x,u=>by
  unfold fg;split
  ·rename_i h;subst h;simp only[bC];split<;>rfl
  ·split
   ·simp only[bC]
   ·simp only[bC];rw[fD r t x u];split
    ·rename_i h1 h2 h3;split
     ·omega
     ·rfl
    ·rfl
omit [Laid] in
def Mc:∀(fr:Fr) {t u:Nat} (x y:AV),t≠u→fg (fg fr t x) u y=fg (fg fr u y) t x:=by
 have key:∀(fr:Fr) {t u:Nat} (x y:AV),t<u→fg (fg fr t x) u y=fg (fg fr u y) t x:=by
  intro fr;induction fr with
  | nil =>
    intro t u x y h;have h1:t≠u:=by omega
    have h2:¬u<t:=by omega
    simp[fg,h1,h2,h,Ne.symm h1]
  | cons p r ih =>
    intro t u x y h;obtain⟨s,z⟩:=p;have h1:t≠u:=by omega
    have h2:¬u<t:=by omega
    by_cases a:s=t
    ·subst a;have e1:¬u<s:=by omega
     simp[fg,h1,e1]
    ·by_cases b:s=u
     ·subst b;have e1:s≠t:=by omega
      simp[fg,h1,e1,h,h2]
     ·by_cases c:t<s
      ·by_cases d:u<s
       ·simp[fg,a,b,c,d,h1,h2,h,Ne.symm h1]
       ·simp[fg,a,b,c,d,h1,h2]
      ·by_cases d:u<s
       ·omega
       ·simp[fg,a,b,c,d,ih x y h]
 intro fr t u x y h;rcases Nat.lt_or_gt_of_ne h with q|q
 ·exact key fr x y q
 ·exact (key fr y x q).symm
structure St where
 n:Nat
 fr:Fr
 h:aa
structure cd(base:Nat)(ι:List Ix)(S:aZ)(a:Act)(w:World)(st:St):Prop where
 df:a.defers=[]
 sz:a.tmps.size=st.n
 fr:dD ι S w st.fr a.tmps
 hp:cN base ι S w st.h
def dy(m base:Nat)(ι:List Ix)(S:aZ)(w:World)(Q:Exit→St→Prop):Exit→Act→World→Prop:=fun e a' w' =>
 ∃ι' S' st',bU m base ι S w ι' S' w'∧m≤st'.h.length∧cd base ι' S' a' w' st'∧Q e st'
def AW(P:Program)(m:Nat)(c:Code)(Q:Exit→St→Prop)(st:St):Prop:=
 ∀base ι S a w,m≤st.h.length→cd base ι S a w st→c.wp P (dy m base ι S w Q) a w
abbrev iZ(next:St→Prop)(Q:Exit→St→Prop):Exit→St→Prop
 | .normal,st=>next st
 | e,st=>Q e st
def dy.trans{m base:Nat}{ι ι':List Ix}{S S':aZ}{w w':World}{Q:Exit→St→Prop}{e:Exit}{a'':Act}{w'':World}
 (hE:bU m base ι S w ι' S' w') (h:dy m base ι' S' w' Q e a'' w''):dy m base ι S w Q e a'' w'':=
 let ⟨ι'',S'',st'',h1,h2,h3,h4⟩:=h;⟨ι'',S'',st'',hE.trans h1,h2,h3,h4⟩
section
variable {P:Program} {m:Nat} {Q:Exit→St→Prop} {st:St}
def He(h:Q .normal st):AW P m .skip Q st:=
 fun _ ι S _ _ hm hr=>wp_skip ⟨ι,S,st,bU.refl _ _ _ _ _,hm,hr,h⟩
def Kt(h:Q .ret st):AW P m .ret Q st:=
 fun _ ι S _ _ hm hr=>wp_ret ⟨ι,S,st,bU.refl _ _ _ _ _,hm,hr,h⟩
def Hc{id:Nat}(h:Q (.exit id) st):AW P m (.exit id) Q st:=
 fun _ ι S _ _ hm hr=>wp_exit ⟨ι,S,st,bU.refl _ _ _ _ _,hm,hr,h⟩
def El(h:Q .normal st):AW P m (.label l) Q st:=
 fun _ ι S _ _ hm hr=>wp_label ⟨ι,S,st,bU.refl _ _ _ _ _,hm,hr,h⟩
def Hd(h:Q (.goto l) st):AW P m (.goto l) Q st:=
 fun _ ι S _ _ hm hr=>wp_goto ⟨ι,S,st,bU.refl _ _ _ _ _,hm,hr,h⟩
def zI(h:AW P m x (iZ (AW P m y Q) Q) st):AW P m (.seq x y) Q st:=by
 intro base ι S a w hm hr;refine wp_seq (wp_mono (h base ι S a w hm hr) ?_);intro e a' w' k;obtain⟨ι',S',st',h1,h2,h3,h4⟩:=k;cases e with
 | normal=>exact wp_mono (h4 base ι' S' a' w' h2 h3) fun _ _ _ k=>k.trans h1
 | exit id=>exact⟨ι',S',st',h1,h2,h3,h4⟩
 | goto l=>exact⟨ι',S',st',h1,h2,h3,h4⟩
 | ret=>exact⟨ι',S',st',h1,h2,h3,h4⟩
 | panic ch=>exact⟨ι',S',st',h1,h2,h3,h4⟩
 | outgrown=>exact⟨ι',S',st',h1,h2,h3,h4⟩
def z8(id:Nat)(Q:Exit→St→Prop):Exit→St→Prop
 | .exit id',st=>if id'=id then Q .normal st else Q (.exit id') st
 | e,st=>Q e st
def Ej{id:Nat}(h:AW P m c (z8 id Q) st):AW P m (.block id c) Q st:=by
 intro base ι S a w hm hr;refine wp_block (wp_mono (h base ι S a w hm hr) ?_);intro e a' w' k;obtain⟨ι',S',st',h1,h2,h3,h4⟩:=k;cases e with
 | exit id' =>
   simp only[Exit.inBlock,z8]at h4 ⊢;split
   ·rename_i he;rw[if_pos he]at h4;exact⟨ι',S',st',h1,h2,h3,h4⟩
   ·rename_i he;rw[if_neg he]at h4;exact⟨ι',S',st',h1,h2,h3,h4⟩
 | normal=>exact⟨ι',S',st',h1,h2,h3,h4⟩
 | goto l=>exact⟨ι',S',st',h1,h2,h3,h4⟩
 | ret=>exact⟨ι',S',st',h1,h2,h3,h4⟩
 | panic ch=>exact⟨ι',S',st',h1,h2,h3,h4⟩
 | outgrown=>exact⟨ι',S',st',h1,h2,h3,h4⟩
def cd.get{base:Nat}{st:St}(hr:cd base ι S a w st)(t:Nat):
 ar ι S w (bC st.fr t) (a.tmps.getD t undef):=hr.fr t
omit [Laid] in
def dD.put{fr:Fr}{tmps:Array Value}(h:dD ι S w fr tmps)(ht:t<tmps.size)(r:ar ι S w x v):dD ι S w (fg fr t x) (tmps.setIfInBounds t v):=by
 intro u;rw[fD]
 by_cases hu:t=u
 ·subst hu;rw[if_pos rfl];simpa[Array.getD_eq_getD_getElem?,ht]using r
 ·rw[if_neg hu];have:=h u;simpa[Array.getD_eq_getD_getElem?,Array.getElem?_setIfInBounds,hu]using this
omit [Laid] in
def dD.Dz{fr:Fr}{tmps:Array Value}(h:dD ι S w fr tmps)(r:ar ι S w x (tmps.getD t undef)):dD ι S w (fg fr t x) tmps:=by
 intro u;rw[fD]
 by_cases hu:t=u
 ·subst hu;rw[if_pos rfl];exact r
 ·rw[if_neg hu];exact h u
omit [Laid] in
def Lq(fB:List Nat)(fr:Fr)(t:Nat):bC (kb fB fr) t=bC fr t∨bC (kb fB fr) t=.any:=by
 unfold kb;induction fB with
 | nil=>exact .inr rfl
 | cons k r ih =>
   simp only[GO,bC];split
   ·rename_i h;subst h;exact .inl rfl
   ·exact ih
omit [Laid] in
def dD.norm{fr:Fr}{tmps:Array Value}(h:dD ι S w fr tmps)(fB:List Nat):dD ι S w (kb fB fr) tmps:=by
 intro t;rcases Lq fB fr t with e|e
 ·rw[e];exact h t
 ·rw[e];simp
theorem cd.put{base:Nat}{st:St}(hr:cd base ι S a w st)(d:Option Tmp)(h:ar ι S w x v):
 cd base ι S (a.put d v) w ⟨st.n,bL st.n st.fr d x,st.h⟩:=by
 cases d with
 | none=>exact hr
 | some t =>
   by_cases ht:t<st.n
   ·have hsz:=hr.sz;refine⟨hr.df,by simpa[Act.put]using hr.sz, ?_,hr.hp⟩;simp only[Act.put,bL,if_pos ht];exact dD.put hr.fr (by rw[hsz];exact ht) h
   ·refine⟨hr.df,by simpa[Act.put]using hr.sz, ?_,hr.hp⟩;have:a.tmps.setIfInBounds t v=a.tmps:=by
     have hs:=hr.sz;have hge:¬t<a.tmps.size:=by rw[hs];exact ht
     simp[Array.setIfInBounds,hge]
    simp only[Act.put,bL,if_neg ht,this];exact hr.fr
end
omit [Laid] in
theorem wp_loop_ghost{α:Type}{P:Program}{Q:Exit→Act→World→Prop}{c:Code}(I:α→Act→World→Prop)(μ:α→Nat)(x₀:α)(h₀:I x₀ a w)
 (round:∀x a w,I x a w→c.wp P (Exit.then (fun a' w' => ∃y,I y a' w'∧μ y<μ x) Q) a w):(Code.loop c).wp P Q a w:=by
 intro b k cs;have key:∀n x a w,μ x=n→I x a w→∃e a' w',Q e a' w'∧Arrives P (lone (b.at a (.code c:: .inLoop c:: k)) cs w) b k cs e a' w':=by
  intro n;induction n using Nat.strongRecOn with
  | _ n ih =>
    intro x a w hn hI;obtain⟨e,a₁,w₁,hq,harr⟩:=round x a w hI b (.inLoop c:: k) cs;cases e with
    | normal =>
      obtain⟨y,hI₁,hlt⟩:=hq;obtain⟨e₂,a₂,w₂,hq₂,harr₂⟩:=ih (μ y) (hn▸hlt) y a₁ w₁ rfl hI₁;exact⟨e₂,a₂,w₂,hq₂,.of_steps (Steps.trans harr (.one step_inLoop)) harr₂⟩
    | exit id=>exact⟨_,a₁,w₁,hq,.pass (x:=.inLoop c) rfl (fun _ _=>.inl (by simp)) harr⟩
    | goto l=>exact⟨_,a₁,w₁,hq,.pass (x:=.inLoop c) rfl (fun _ _=>.inl (by simp)) harr⟩
    | ret=>exact⟨_,a₁,w₁,hq,.pass (x:=.inLoop c) rfl (fun _ _=>.inl (by simp)) harr⟩
    | panic ch=>exact⟨_,a₁,w₁,hq,.pass (x:=.inLoop c) rfl (fun _ _=>.inl (by simp)) harr⟩
    | outgrown=>exact⟨_,a₁,w₁,hq,.pass (x:=.inLoop c) rfl (fun _ _=>.inl (by simp)) harr⟩
 obtain⟨e,a',w',hq,harr⟩:=key _ x₀ a w rfl h₀;exact⟨e,a',w',hq,.of_steps (.one step_loop) harr⟩
def bX(P:Program)(f:FuncId)(args:List AV)(h:aa)(K:AV→aa→Prop):Prop:=
 ∀base ι S w vs,aE ι S w args vs→cN base ι S w h→Calls P f vs.toArray w fun e w' =>
  ∃v ι' S' r h',e=.returned v∧bU h.length base ι S w ι' S' w'∧ar ι' S' w' r v∧cN base ι' S' w' h'∧h.length≤h'.length∧K r h'
def bX.mono{args:List AV}{K K':AV→aa→Prop}(c:bX P f args h K)(hk:∀r h',K r h'→K' r h'):bX P f args h K':=
 fun base ι S w vs h1 h2=>(c base ι S w vs h1 h2).mono fun _ _ ⟨v,ι',S',r,h',a1,a2,a3,a4,a5,a6⟩=>⟨v,ι',S',r,h',a1,a2,a3,a4,a5,hk _ _ a6⟩
def bn(P:Program)(f:FuncId)(args:List AV)(r:AV):Prop:=aR args∧Pure r∧bX P f args [] fun r' _=>r'=r
def cN.nil(S:aZ)(w:World)(h:∀b o,S b o→b<w.heap.size)(hg:CV S w):cN w.heap.size [] S w []:=
 ⟨rfl,by simp,by simp,by simp,fun i j b hi _=>by simp[alive]at hi,h,bY _,hg⟩
def cN.over{base:Nat}(hh:cN base ι S w h)(hE:bU ι.length w.heap.size ι S w ι S' w')(hst:∀b o,S' b o→b<w'.heap.size):cN base ι S' w' h:=by
 refine⟨hh.len,fun id x e=>?_,fun id t sz n e=>?_,fun id en e=>(hh.ky id en e).step hE (bY _) rfl fun b _ hb=>⟨hE.oh.block b hb,fun o ho=>(hE.new b o ho).elim (fun q=>q) fun k=>absurd hb (Nat.not_lt.2 k)⟩,hh.inj,hst,ab3 hh.kC hE.oh.size,hh.gl.fU hE⟩;rotate_left
 ·obtain⟨v,h1,h2⟩:=hh.tok id t sz n e;refine⟨v,h1,h2.fB fun b hb _ hlt=>⟨hE.oh.block b hlt,fun o ho=>?_⟩⟩;rcases hE.new b o ho with k|k
  ·exact k
  ·omega
 obtain⟨b,arr,fz,h1,h2,h3,h4,h5,h6,h7,h8,h9⟩:=hh.live id x e;have hb:b<w.heap.size:=by
  rcases uP b w.heap.size with k|k
  ·exact k
  ·rw[acw k]at h3;cases h3
 refine⟨b,arr,fz,h1,h2,by rw[hE.oh.block b hb];exact h3,h4,h5,fun i c e=>?_,fun hw o ho=>?_,fun o ho=>?_,fun q o ho=>hE.sub _ _ (h9 q o ho)⟩
 ·obtain⟨v,e1,e2⟩:=h6 i c e;exact⟨v,e1,ar.fU hE (bY _) c v e2⟩
 ·rcases hE.new b o ho with k|k
  ·exact h7 hw o k
  ·omega
 ·rcases hE.new b o ho with k|k
  ·exact h8 o k
  ·omega
def bn.call{args:List AV}(c:bn P f args r){K:AV→aa→Prop}(hk:K r h):bX P f args h K:=by
 obtain⟨pa,pr,c⟩:=c;intro base ι S w vs h1 h2;refine (c w.heap.size [] S w vs (aE.pure args vs pa h1) (cN.nil S w h2.iY h2.gl)).mono ?_;rintro e w' ⟨v,ι',S',r',h',e1,e2,e3,e4,_,rfl⟩;have hE:bU ι.length w.heap.size ι S w ι S' w':=⟨fun _ _=>fW.refl _,e2.sub,e2.new,e2.cell,e2.xz,e2.oh⟩;exact⟨v,ι,S',r',h,e1,hE.mono (by rw[h2.len];exact bY _) h2.kC,ar.pure r' v pr e3,h2.over hE e4.iY,bY _,hk⟩
end
section
open Go Go.RowKit
variable [Laid]
/-! ### Values -/
def pW:Value→AV
 | .string s=>if s.size≤maxLen then .str s.data.toList else .any
 | x=>.v x
def kD:Value→AV
 | .agg cs=>.agg (cs.toList.map pW)
 | x=>pW x
omit [Laid] in
theorem u2(ι:List Ix)(S:aZ)(w:World)(x:Value):ar ι S w (pW x) x:=by
 unfold pW;split
 ·split
  ·rename_i s h;cases s with
   | mk d=>simpa[ByteArray.size]using h
  ·simp
 ·simp
omit [Laid] in
theorem tP(ι:List Ix)(S:aZ)(w:World)(x:Value):ar ι S w (kD x) x:=by
 unfold kD;split
 ·rename_i cs;rw[ar];refine⟨cs.toList,by simp,aE.mk (by simp) fun i a v e f=>?_⟩;simp only[iN,f,acu,On]at e;subst e;exact u2 ι S w v
 ·exact u2 ι S w x
def aG(fr:Fr):Operand→AV
 | .tmp t=>bC fr t
 | .const v=>kD v
 | .global g=>match Laid.Wf g with|some cs=>.ip cs|none=>.any
 | .func f=>.fn (.func f) [] []
theorem cd.eval{base:Nat}{ι:List Ix}{S:aZ}{a:Act}{w:World}{st:St}(hr:cd base ι S a w st)(x:Operand):ar ι S w (aG st.fr x) (a.eval x):=by
 cases x with
 | tmp t=>exact hr.get t
 | const v=>exact tP ι S w v
 | global g =>
   simp only[aG,Act.eval];split
   ·rename_i cs e;rw[ar];exact⟨g,0,rfl,bD.pure cs g 0 (Laid.pure g cs e) (hr.hp.gl g cs e).1⟩
   ·simp
 | func f=>simp only[aG,Act.eval];rw[ar];exact⟨[],[],rfl,by simp,by simp⟩
def bh:AV→List AV
 | .agg cs=>cs
 | x=>[x]
def bT:AV→Bool
 | .v x=>x.oneCell'
 | .any|.agg _|.aA _=>false
 | _=>true
omit [Laid] in
theorem zz{ι:List Ix}{S:aZ}{w:World}{a:AV}{v:Value}(h:bT a=true)(r:ar ι S w a v):v.oneCell'=true:=by
 cases a<;>simp only[bT,abT]at h
 case v x=>simp at r;subst r;exact h
 case str l=>simp at r;rw[r.1];rfl
 case emp=>rw[ar]at r;obtain⟨a,rfl⟩:=r;rfl
 case sl=>rw[ar]at r;obtain⟨a,cap,rfl,_⟩:=r;rfl
 case sb=>rw[ar]at r;obtain⟨⟨a,cap,rfl,_⟩,_⟩:=r;rfl
 case ip=>rw[ar]at r;obtain⟨a,cap,rfl,_⟩:=r;rfl
 case own=>rw[ar]at r;obtain⟨b,a,cap,n,ty,_,rfl,_⟩:=r;rfl
 case op=>rw[ar]at r;obtain⟨b,_,rfl⟩:=r;rfl
 case fn=>rw[ar]at r;obtain⟨b,c,rfl,_⟩:=r;rfl
 case il=>rw[ar]at r;obtain⟨b,rfl,_⟩:=r;rfl
 case mp=>rw[ar]at r;obtain⟨b,_,rfl⟩:=r;rfl
omit [Laid] in
theorem LU{v:Value}(h:v.oneCell'=true):v.cells=#[v]:=by cases v<;>first|rfl|cases h
omit [Laid] in
theorem u3{ι:List Ix}{S:aZ}{w:World}{a:AV}{v:Value}(r:ar ι S w a v)(h:(bh a).all bT=true):∃vs:List Value,v.cells=vs.toArray∧aE ι S w (bh a) vs∧∀u∈vs,u.oneCell'=true:=by
 have key:∀{cs:List AV} {vs:List Value},aE ι S w cs vs→cs.all bT=true→∀u∈vs,u.oneCell'=true:=by
  intro cs;induction cs with
  | nil=>intro vs h _ u hu;simp at h;subst h;cases hu
  | cons c cs ih =>
    intro vs h hs u hu;cases vs with
    | nil=>simp at h
    | cons v vs =>
      simp at h hs;simp only[ID]at hu;rcases hu with rfl|hu
      ·exact zz hs.1 h.1
      ·exact ih h.2 (by simpa using hs.2) u hu
 cases a
 case agg cs =>
  rw[ar]at r;obtain⟨vs,rfl,k⟩:=r;exact⟨vs,rfl,k,key k h⟩
 all_goals
  simp only[bh,acd,List.all_nil,Bool.and_true]at h;have:=zz h r;exact⟨[v],by rw[LU this],(bN _ _ _ _).2 ⟨r,by simp⟩,by simpa using this⟩
/-! ### Memory -/
omit [Laid] in
theorem yV{w:World}(o:Obj){b:Nat}{x:TypeId×Nat}(h:w.shape? b=some x):(w.alloc o).shape? b=some x:=by
 unfold World.shape? at *;have hb:b<w.heap.size:=by
  rcases uP b w.heap.size with k|k
  ·exact k
  ·rw[acw k]at h;cases h
 rw[show (w.alloc o).heap[b]?=w.heap[b]? from Below.heap_alloc w o b hb];exact h
omit [Laid] in
theorem bU.alloc{base:Nat}{ι:List Ix}{S:aZ}{w:World}(hb:base≤w.heap.size)(hs:∀b o,S b o→b<w.heap.size)(o:Obj)(k:List Ix):bU ι.length base ι S w (ι++k) S (w.alloc o):=
 ⟨fun i hi=>fW.of_eq (gO hi),fun _ _ h=>h,fun _ _ h=>.inl h,
  fun b f h=>World.cell?_of_block (w:=w) (Below.heap_alloc w o b (hs b f h)),fun _ _ h=>yV o h,(Below.refl _ _).alloc hb o⟩
omit [Laid] in
theorem yj{w:World}{b:Nat}{o:Obj}(k:w.heap[b]?=some o):b<w.heap.size:=by
 rcases uP b w.heap.size with q|q
 ·exact q
 ·rw[acw q]at k;cases k
theorem cN.wo{base:Nat}{ι ι':List Ix}{S S':aZ}{w w':World}{h h':aa}(hh:cN base ι S w h)(hE:bU ι.length base ι S w ι' S' w')(hlen:ι'.length=h'.length)(T:Nat)
 (old:∀i,i≠T→alive h'[i]?→h'[i]?=h[i]?∧ι'[i]?=ι[i]?∧∀b,AB ι[i]? b→b<w.heap.size→w'.heap[b]?=w.heap[b]?∧∀o,S' b o→S b o)
 (newb:∀x,h'[T]?=some (.ah x)→∃b arr fz,ι'[T]?=some (.ah b)∧base≤b∧w'.heap[b]?=some (.cells arr x.ty fz)∧(∀o,o<arr.size→¬(fz.1≤o∧o<fz.2))∧x.cells.length≤arr.size ∧
  (∀(i:Nat) (c:AV),x.cells[i]?=some c→∃v,arr[i]?=some v∧ar ι' S' w' c v)∧(x.wr=true→∀o,¬S' b o)∧(∀o,S' b o→o<x.cells.length)∧(x.wr=false→∀o,o<x.cells.length→S' b o))
 (newt:∀e sz n,h'[T]?=some (.tok e sz n)→∃v,ι'[T]?=some (.tok n v)∧u4 base S' w' e sz n v)
 (newo:∀en,h'[T]?=some en→sN ι' S' w' base ι'[T]? en)
 (hinj:∀j b,j≠T→alive h'[T]?→alive h'[j]?→AB ι'[T]? b→AB ι'[j]? b→False)
 (hstb:∀b o,S' b o→b<w'.heap.size) (hbas:base≤w'.heap.size):cN base ι' S' w' h':=by
 refine⟨hlen,fun id x e=>?_,fun id t sz n e=>?_,fun id en e=>?_,fun i j b ai aj hi hj=>?_,hstb,hbas,hh.gl.fU hE⟩;rotate_left 2
 ·by_cases q:id=T
  ·subst q;exact newo en e
  ·by_cases hd:en=.dead
   ·subst hd;trivial
   ·obtain⟨o1,o2,o3⟩:=old id q (by rw[e];cases en<;>first|trivial|exact absurd rfl hd);exact (hh.ky id en (o1▸e)).step hE (bY _) o2 fun b hb=>o3 b (by rw[hb];rfl)
 rotate_left 1
 ·by_cases q:id=T
  ·subst q;exact newb x e
  ·obtain⟨o1,o2,o3⟩:=old id q (by rw[e];exact trivial);obtain⟨b,arr,fz,h1,h2,h3,h4,h5,h6,h7,h8,h9⟩:=hh.live id x (o1▸e);obtain⟨p1,p2⟩:=o3 b (by rw[h1];rfl) (yj h3);exact⟨b,arr,fz,o2.trans h1,h2,p1.trans h3,h4,h5,fun i c ec=>let ⟨v,e1,e2⟩:=h6 i c ec;⟨v,e1,ar.fU hE (bY _) c v e2⟩,
    fun hw o ho=>h7 hw o (p2 o ho),fun o ho=>h8 o (p2 o ho),fun hw o ho=>hE.sub _ _ (h9 hw o ho)⟩
 ·by_cases q:id=T
  ·subst q;exact newt t sz n e
  ·obtain⟨o1,o2,o3⟩:=old id q (by rw[e];exact trivial);obtain⟨v,h1,h2⟩:=hh.tok id t sz n (o1▸e);exact⟨v,o2.trans h1,h2.fB fun b hb _ hlt=>o3 b (by rw[h1];exact hb) hlt⟩
 ·by_cases q:i=T
  ·by_cases r:j=T
   ·rw[q,r]
   ·subst q;exact (hinj j b r ai aj hi hj).elim
  ·by_cases r:j=T
   ·subst r;exact (hinj i b q aj ai hj hi).elim
   ·obtain⟨o1,o2,_⟩:=old i q ai;obtain⟨p1,p2,_⟩:=old j r aj;exact hh.inj i j b (o1▸ai) (p1▸aj) (o2▸hi) (p2▸hj)
theorem cN.BS{base:Nat}{ι:List Ix}{S:aZ}{w:World}{h:aa}(hh:cN base ι S w h){i b:Nat}(ha:alive h[i]?)(hb:AB ι[i]? b):base≤b∧b<w.heap.size:=by
 cases e:h[i]? with
 | none=>rw[e]at ha;exact ha.elim
 | some x =>
   cases x with
   | dead=>rw[e]at ha;exact ha.elim
   | ah x =>
     obtain⟨c,arr,fz,h1,h2,h3,_⟩:=hh.live i x e;rw[h1]at hb;have:c=b:=hb;subst this;exact⟨h2,yj h3⟩
   | mp c es =>
     obtain⟨d,h1,h2,h3⟩:=(hh.ky i _ e).at (.inl ⟨_,_,rfl⟩);rw[h1]at hb;have:d=b:=hb;subst this;exact⟨h2,h3⟩
   | it m s sn l =>
     obtain⟨d,h1,h2,h3⟩:=(hh.ky i _ e).at (.inr ⟨_,_,_,_,rfl⟩);rw[h1]at hb;have:d=b:=hb;subst this;exact⟨h2,h3⟩
   | tok t sz n =>
     obtain⟨v,h1,a,cap,ev,_,_,h4⟩:=hh.tok i t sz n e;rw[h1]at hb;obtain⟨a',l',cap',ev',hb,hc⟩:=hb;rw[ev]at ev';cases ev';rcases h4 with h4|⟨c,arr,fz,ea,k1,k2,_⟩
     ·exact absurd h4 hc
     ·cases ea;simp only at hb;subst hb;exact⟨k1,yj k2⟩
omit [Laid] in
theorem Q4{α:Type}{l k:List α}{i:Nat}(h:i<l.length):(l++k)[i]?=l[i]?:=gO h
omit [Laid] in
theorem kH{α:Type}{l:List α}{x:α}:(l++[x])[l.length]?=some x:=by simp
omit [Laid] in
theorem nL{α:Type}{l:List α}{x:α}{i:Nat}(h:i≠l.length):(l++[x])[i]?=l[i]?:=by
 rcases uP i l.length with q|q
 ·exact Q4 q
 ·rw[iS (by simp;omega),iS q]
theorem cN.push{base:Nat}{ι:List Ix}{S S':aZ}{w w':World}{h:aa}(hh:cN base ι S w h)(ix:Ix)(en:aL)(hE:bU ι.length base ι S w (ι++[ix]) S' w')
 (same:∀b,b<w.heap.size→base≤b→w'.heap[b]?=w.heap[b]?∧∀o,S' b o→S b o)
 (newb:∀x,en=.ah x→∃b arr fz,ix=.ah b∧base≤b∧w'.heap[b]?=some (.cells arr x.ty fz)∧(∀o,o<arr.size→¬(fz.1≤o∧o<fz.2))∧x.cells.length≤arr.size ∧
  (∀(i:Nat) (c:AV),x.cells[i]?=some c→∃v,arr[i]?=some v∧ar (ι++[ix]) S' w' c v)∧(x.wr=true→∀o,¬S' b o)∧(∀o,S' b o→o<x.cells.length)∧(x.wr=false→∀o,o<x.cells.length→S' b o))
 (newt:∀e sz n,en=.tok e sz n→∃v,ix=.tok n v∧u4 base S' w' e sz n v)
 (newo:sN (ι++[ix]) S' w' base (some ix) en)
 (hnew:en≠.dead→∀b,AB (some ix) b→w.heap.size≤b) (hstb:∀b o,S' b o→b<w'.heap.size):cN base (ι++[ix]) S' w' (h++[en]):=by
 have hl:=hh.len;refine hh.wo hE (by simp[hl]) h.length (fun i hi ha=>?_) (fun x e=>?_) (fun e sz n q=>?_) (fun en' q=>by rw[kH]at q;cases q;rw[←hl,kH];exact newo) (fun j b hj aT aj hi hj' => ?_) hstb (ab3 hh.kC hE.oh.size)
 ·have hi':i≠ι.length:=by rw[hl];exact hi
  refine⟨nL hi,nL hi',fun b hb hlt=>?_⟩;rw[nL hi]at ha;exact same b hlt (hh.BS ha hb).1
 ·rw[kH]at e;obtain⟨b,arr,fz,h1,h2⟩:=newb x (by simpa using e);exact⟨b,arr,fz,by rw[←hl,kH,h1],h2⟩
 ·rw[kH]at q;obtain⟨v,h1,h2⟩:=newt e sz n (by simpa using q);exact⟨v,by rw[←hl,kH,h1],h2⟩
 ·rw[←hl,kH]at hi;rw[nL hj]at aj;rw[nL (by rw[hl];exact hj)]at hj';have hd:en≠.dead:=by rintro rfl;rw[kH]at aT;exact aT
  have h1:=hnew hd b hi;have h2:=(hh.BS aj hj').2;omega
theorem cN.alloc{base:Nat}{ι:List Ix}{S:aZ}{w:World}{h:aa}(hh:cN base ι S w h)(t:TypeId)(cs:List AV)(vs:List Value)(r:aE ι S w cs vs)(fz:Nat×Nat:=(0,0))(more:List Value:=[])
 (hf:∀o,o<vs.length+more.length→¬(fz.1≤o∧o<fz.2)) :
 cN base (ι++[.ah w.heap.size]) S (w.alloc (.cells (vs++more).toArray t fz)) (h++[.ah ⟨t,cs,true⟩]):=by
 have hE:bU ι.length base ι S w (ι++[.ah w.heap.size]) S (w.alloc (.cells (vs++more).toArray t fz)):=bU.alloc hh.kC (fun b o=>hh.iY b o) _ _;have hnew:(w.alloc (.cells (vs++more).toArray t fz)).heap[w.heap.size]?=some (.cells (vs++more).toArray t fz):=by
  show (w.heap.push _)[w.heap.size]?=_;simp
 have hl:=r.length;have hf':∀o,o<(vs++more).toArray.size→¬(fz.1≤o∧o<fz.2):=by intro o ho;exact hf o (by simpa using ho)
 refine hh.push _ _ hE (fun b hb _=>⟨Below.heap_alloc w _ b hb,fun _ q=>q⟩) (fun x e=>?_) (fun _ _ _ e=>by cases e) trivial (fun _ b hb=>?_) (fun b o s=>?_)
 ·cases e;refine⟨w.heap.size,(vs++more).toArray,fz,rfl,hh.kC,hnew,hf',by simp[hl]<;>omega,fun i c e=>?_,fun _ o s=>?_,fun o s=>?_,fun q=>by cases q⟩
  ·obtain⟨v,e1,e2⟩:=r.get i c e;obtain⟨hi,_⟩:=eQ.1 e1;exact⟨v,by simp only[List.getElem?_toArray];rw[gO hi];exact e1,ar.fU hE (bY _) c v e2⟩
  ·have:=hh.iY _ _ s;omega
  ·have:=hh.iY _ _ s;omega
 ·have:w.heap.size=b:=hb;omega
 ·have:=hh.iY b o s;show b<(w.heap.push _).size;simp;omega
omit [Laid] in
theorem tz{w:World}{b:Nat}{arr:Array Value}{t:TypeId}{fz:Nat×Nat}(h:w.heap[b]?=some (.cells arr t fz))(o:Nat)(v:Value):
 (w.setCell ⟨b,o,none⟩ v).heap[b]?=some (.cells (arr.setIfInBounds o v) t fz):=by
 simp only[World.setCell,Array.getElem?_modify,if_true,h,acu];simp
omit [Laid] in
theorem wN{w:World}(a:Addr)(v:Value)(b:Nat):(w.setCell a v).shape? b=w.shape? b:=by
 unfold World.shape? World.setCell;simp only[Array.getElem?_modify]
 by_cases hb:a.block=b
 ·simp only[hb,if_true];cases h:w.heap[b]? with
  | none=>rfl
  | some o=>cases o<;>simp;split<;>simp
 ·simp only[hb,if_false]
theorem cN.set{base:Nat}{ι:List Ix}{S:aZ}{w:World}{h:aa}(hh:cN base ι S w h){id:Nat}{x:jM}(e:h[id]?=some (.ah x))(hw:x.wr=true){b:Nat}(hb:ι[id]?=some (.ah b))
 {o:Nat} (ho:o<x.cells.length) {c:AV} {v:Value} (r:ar ι S w c v) :
 bU ι.length base ι S w ι S (w.setCell ⟨b,o,none⟩ v)∧cN base ι S (w.setCell ⟨b,o,none⟩ v) (h.set id (.ah { x with cells:=x.cells.set o c })):=by
 obtain⟨b',arr,fz,h1,h2,h3,h4,h5,h6,h7,h8,h9⟩:=hh.live id x e;rw[hb]at h1;cases h1;have hlt:id<h.length:=(eQ.1 e).1;have hE:bU ι.length base ι S w ι S (w.setCell ⟨b,o,none⟩ v):=by
  refine⟨fun _ _=>fW.refl _,fun _ _ h=>h,fun _ _ h=>.inl h,fun b' o' s=>?_,fun b' y hy=>by rw[wN];exact hy,(Below.refl _ _).setCell h2 v⟩;have hne:b'≠b:=fun q=>h7 hw o' (q▸s);exact World.cell?_of_block (w:=w) (Below.heap_setCell w _ v b' hne)
 refine⟨hE,hh.wo hE (by simp[hh.len]) id (fun i hi ha=>?_) (fun y ey=>?_) (fun t sz n q=>?_) (fun en q=>by rw[iD hlt]at q;cases q;trivial) (fun j c' hj _ aj hi hj' => ?_) (fun b' o' s=>by have:=hh.iY b' o' s;simpa[World.setCell]using this) (by have:=hh.kC;simpa[World.setCell]using this)⟩
 ·rw[iF (Ne.symm hi)]at ha ⊢;refine⟨rfl,rfl,fun c' hc _=>⟨Below.heap_setCell w _ v c' fun q=>?_,fun _ q=>q⟩⟩;simp only at q;subst q;exact hi (hh.inj i id c' ha (by rw[e];exact trivial) hc (by rw[hb];rfl))
 ·rw[iD hlt]at ey;cases ey;refine⟨b,arr.setIfInBounds o v,fz,hb,h2,tz h3 o v,by simpa using h4,by simpa using h5,fun i d ed=>?_,h7,by simpa using h8,fun q=>by rw[hw]at q;cases q⟩
  by_cases hi:i=o
  ·subst hi;simp only[iD ho,On]at ed;subst ed;refine⟨v, ?_,ar.fU hE (bY _) c v r⟩;rw[Array.getElem?_setIfInBounds];simp;omega
  ·have ed':x.cells[i]?=some d:=by rw[iF (Ne.symm hi)]at ed;exact ed
   obtain⟨u,e1,e2⟩:=h6 i d ed';exact⟨u,by rw[Array.getElem?_setIfInBounds_ne (Ne.symm hi)];exact e1,ar.fU hE (bY _) d u e2⟩
 ·rw[iD hlt]at q;cases q
 ·rw[iF (Ne.symm hj)]at aj;exact hj (hh.inj j id c' aj (by rw[e];exact trivial) hj' hi)
def cf:List AV→Nat→List AV→List AV
 | cells,_,[]=>cells
 | cells,o,c:: cs=>cf (cells.set o c) (o+1) cs
omit [Laid] in
theorem qu:∀(cs cells:List AV) (o:Nat),(cf cells o cs).length=cells.length
 | [],_,_=>rfl
 | c:: cs,cells,o=>by rw[cf,qu cs];simp
omit [Laid] in
theorem addr_add(b o i:Nat):(⟨b,o,none⟩:Addr).add i=⟨b,o+i,none⟩:=by
 unfold Addr.add;split
 ·simp_all
 ·rfl
omit [Laid] in
theorem fZ{w:World}{b:Nat}{arr:Array Value}{t:TypeId}{fz:Nat×Nat}(h:w.heap[b]?=some (.cells arr t fz))(o:Nat):w.cell? ⟨b,o,none⟩=arr[o]?:=by
 unfold World.cell?;simp[h]
omit [Laid] in
theorem qa{w:World}{b:Nat}{arr:Array Value}{t:TypeId}{fz:Nat×Nat}(h:w.heap[b]?=some (.cells arr t fz))(o:Nat):w.frozen? ⟨b,o,none⟩=(decide (fz.1≤o)&&decide (o<fz.2)):=by
 unfold World.frozen?;simp[h]
theorem uN{P:Program}{base:Nat}{ι:List Ix}{S:aZ}:∀(vs:List Value) (cs:List AV) (w:World) (h:aa),cN base ι S w h→∀{id:Nat} {x:jM} {b:Nat},h[id]?=some (.ah x)→x.wr=true→ι[id]?=some (.ah b) →
 ∀(o i:Nat),o+i+cs.length≤x.cells.length→aE ι S w cs vs→(∀u∈vs,u.oneCell'=true) →
 ∃w',(storeCells ⟨b,o,none⟩ vs i).run P w=.ok () w'∧bU ι.length base ι S w ι S w'∧cN base ι S w' (h.set id (.ah { x with cells:=cf x.cells (o+i) cs }))
 | [],cs,w,h,hh,id,x,b,e,hw,hb,o,i,hl,r,hv=>by
   have:cs=[]:=by have:=r.length;simpa using this
   subst this;refine⟨w,rfl,bU.refl _ _ _ _ _, ?_⟩;have hlt:id<h.length:=(eQ.1 e).1;have:h.set id (.ah { x with cells:=cf x.cells (o+i) [] })=h:=by
    rw[cf];refine List.ext_getElem? fun j=>?_
    by_cases hj:j=id
    ·subst hj;rw[iD hlt,e]
    ·rw[iF (Ne.symm hj)]
   rw[this];exact hh
 | v:: vs,[],w,h,hh,id,x,b,e,hw,hb,o,i,hl,r,hv=>by simp at r
 | v:: vs,c:: cs,w,h,hh,id,x,b,e,hw,hb,o,i,hl,r,hv=>by
   simp only[bN]at r;simp only[abL]at hl;have ho:o+i<x.cells.length:=by omega
   obtain⟨hE,hH⟩:=hh.set e hw hb ho r.1;have hlt:id<h.length:=(eQ.1 e).1;obtain⟨b',arr,fz,h1,h2,h3,h4,h5,h6,h7,h8,h9⟩:=hh.live id x e;rw[hb]at h1;cases h1;have hrun:(store ((⟨b,o,none⟩:Addr).add i) v).run P w=.ok () (w.setCell ⟨b,o+i,none⟩ v):=by
    rw[addr_add,run_store P w _ v _ (hv v (by simp)),fZ h3,qa h3];have:arr[o+i]?=some arr[o+i]:=UP (by omega);rw[this];have:=h4 (o+i) (by omega);simp only[NO,Of,this,if_false]
   obtain⟨w',k1,k2,k3⟩:=uN vs cs (w.setCell ⟨b,o+i,none⟩ v) _ hH (id:=id) (x:={ x with cells:=x.cells.set (o+i) c }) (b:=b) (by rw[iD hlt]) hw hb o (i+1) (by simp;omega)
    (aE.fU hE (bY _) cs vs r.2) (fun u hu=>hv u (by simp[hu]))
   refine⟨w', ?_,hE.trans k2, ?_⟩
   ·rw[storeCells];simp only[acf,hrun,Result.andThen];exact k1
   ·simp only[abW]at k3;rw[cf];exact k3
def aK(n:Int):Prop:=-9223372036854775808≤n∧n≤9223372036854775807
def qC(k:IntKind)(n:Int)(K:AV→Prop):Prop:=
 match k with
 | .i64=>aK n∧K (.v (.int .i64 n))
 | k=>K (.v (.int k (k.wrap n)))
def D6(k:IntKind):Int:=if k.signed then -1 else k.max
def dn(op:BinOp)(k:IntKind)(x y:Int):Int:=
 let a:=BitVec.ofInt k.bits x
 let b:=BitVec.ofInt k.bits y
 match op with
 | .and=>k.wrap (a &&& b).toNat
 | .or=>k.wrap (a ||| b).toNat
 | .xor=>k.wrap (a ^^^ b).toNat
 | _=>k.wrap (a &&& ~~~b).toNat
def qo(op:BinOp)(k:IntKind)(a b:Int)(K:AV→Prop):Prop:=
 match op with
 | .add=>qC k (a+b) K
 | .sub=>qC k (a-b) K
 | .mul=>qC k (a*b) K
 | .quo=>b≠0∧K (.v (.int k (k.wrap (a.tdiv b))))
 | .rem=>b≠0∧K (.v (.int k (a.tmod b)))
 | .and=>K (.v (.int k (dn .and k a b)))
 | .or=>K (.v (.int k (dn .or k a b)))
 | .xor=>K (.v (.int k (dn .xor k a b)))
 | .andNot=>K (.v (.int k (dn .andNot k a b)))
 | .eql=>K (b_ (decide (a=b)))
 | .neq=>K (b_ (!decide (a=b)))
 | .lss=>K (b_ (decide (a<b)))
 | .leq=>K (b_ (decide (a≤b)))
 | .gtr=>K (b_ (decide (b<a)))
 | .geq=>K (b_ (decide (b≤a)))
 | _=>False
def zk(op:BinOp)(a b:List UInt8)(K:AV→Prop):Prop:=
 match op with
 | .add=>a.length+b.length≤maxLen∧K (.str (a++b))
 | .eql=>K (b_ (decide (a=b)))
 | .neq=>K (b_ (!decide (a=b)))
 | .lss=>K (b_ (Op.bytesLess a b))
 | .leq=>K (b_ (Op.bytesLess a b||decide (a=b)))
 | .gtr=>K (b_ (!(Op.bytesLess a b||decide (a=b))))
 | .geq=>K (b_ (!Op.bytesLess a b))
 | _=>False
def xf(op:BinOp)(k:IntKind)(a b:Int)(K:AV→Prop):Prop:=
 0≤b∧match op with
 | .shl=>K (.v (.int k (k.wrap (a*2^(min b.toNat k.bits)))))
 | .shr=>K (.v (.int k (a.fdiv (2^(min b.toNat k.bits)))))
 | _=>False
def lN:BinOp→Bool|.shl|.shr=>true|_=>false
def ag(op:BinOp)(x y:AV)(K:AV→Prop):Prop:=
 match x,y with
 | .v (.int k a),.v (.int k' b)=>if lN op then xf op k a b K else k=k'∧qo op k a b K
 | .str a,.str b=>zk op a b K
 | _,_=>False
def oy(op:BinOp)(x y:AV)(K:AV→Prop):Prop:=
 match x,y with
 | .v (.bool a),.v (.bool b)=>(match op with|.eql=>K (b_ (a == b))|.neq=>K (b_ (!(a == b)))|_=>False)
 | _,_=>False
def EY:Nat→AV→AV→Option Bool
 | 0,.v (.bool a),.v (.bool b)=>some (a == b)
 | 1,.v (.int k a),.v (.int k' b)=>if k=k' then some (decide (a=b)) else none
 | 2,.str a,.str b=>some (decide (a=b))
 | _,_,_=>none
def jn:List Nat→List AV→List AV→Option Bool
 | [],[],[]=>some true
 | k:: ks,x:: xs,y:: ys=>match EY k x y,jn ks xs ys with|some a,some b=>some (a&&b)|_,_=>none
 | _,_,_=>none
def me(neg:Bool)(ks:List Nat)(x y:AV)(K:AV→Prop):Prop:=
 match x,y with
 | .agg xs,.agg ys=>(match jn ks xs ys with|some b=>K (b_ (if neg then !b else b))|none=>False)
 | _,_=>False
def bA(c a b:AV)(K:AV→Prop):Prop:=∃t,c=.v (.bool t)∧(t=true→K a)∧(t=false→K b)
def af(c:AV)(A B:Prop):Prop:=∃t,c=.v (.bool t)∧(t=true→A)∧(t=false→B)
def aI(c:AV)(want:Bool)(A B:Prop):Prop:=(∃t,c=.v (.bool t)∧(t=want→A)∧(t=(!want)→B))∨(c=.v undef∧B)
def cq(x:AV)(K:AV→Prop):Prop:=∃t,x=.v (.bool t)∧K (b_ (!t))
def pd(x:AV)(K:AV→Prop):Prop:=∃k n,x=.v (.int k n)∧qC k (0-n) K
def cy(k:IntKind)(x:AV)(K:AV→Prop):Prop:=∃k' n,x=.v (.int k' n)∧K (.v (.int k (k.wrap n)))
def aU(i:Nat)(x:AV)(K:AV→Prop):Prop:=
 match x with
 | .aA cs=>match cs[i]? with|some c=>K c|none=>False
 | _=>False
def lR(g:Bool)(sz:Nat)(cs:List AV)(K:AV→Prop):Prop:=
 match g with
 | true=>sz≤cs.length∧K (.agg (cs.take sz))
 | false=>match cs with|c:: _=>K c|[]=>False
def rX(g:Bool)(off n:Nat)(x:AV)(K:AV→Prop):Prop:=
 match x with
 | .agg cs=>lR g n (cs.drop off) K
 | _=>False
def eJ(x i:AV)(K:AV→Prop):Prop:=
 match x,i with
 | .str l,.v (.int _ n)=>(0≤n∧n<l.length)∧K (.v (.int .u8 (l.getD n.toNat 0).toNat))
 | _,_=>False
def mN(g:Bool)(sz len:Nat)(x i:AV)(K:AV→Prop):Prop:=
 match x,i with
 | .agg cs,.v (.int _ n)=>(0≤n∧n<len)∧lR g sz (cs.drop (n.toNat*sz)) K
 | _,_=>False
def fc:Option AV→Int→Option Int
 | none,d=>some d
 | some (.v (.int _ n)),_=>some n
 | _,_=>none
def eW(x:AV)(lo hi:Option AV)(K:AV→Prop):Prop:=
 match x with
 | .str l=>(match fc lo 0,fc hi l.length with
   | some a,some b=>(0≤a∧a≤b∧b≤l.length)∧K (.str ((l.take b.toNat).drop a.toNat))
   | _,_=>False)
 | _=>False
def nf:AV→AV
 | .v (.slice none 0 0)=>.emp
 | .sb _ sz rows=>.sl sz rows
 | x=>x
def lD(n:Nat)(x:AV)(lo hi:Option AV)(K:AV→Prop):Prop:=
 match nf x with
 | .sl sz rows=>(match fc lo 0,fc hi rows.length with
   | some a,some b=>sz=n∧(0≤a∧a≤b∧b≤rows.length)∧K (.sl sz ((rows.take b.toNat).drop a.toNat))
   | _,_=>False)
 | .own id off len sz=>(match fc lo 0,fc hi len with
   | some a,some b=>sz=n∧(0≤a∧a≤b∧b≤len)∧K (.own id (off+a.toNat*sz) (b-a).toNat sz)
   | _,_=>False)
 | .emp=>(match fc lo 0,fc hi 0 with
   | some a,some b=>(a=0∧b=0)∧K .emp
   | _,_=>False)
 | _=>False
def chunks(sz:Nat):Nat→List AV→List (List AV)
 | 0,_=>[]
 | n+1,cs=>cs.take sz:: chunks sz n (cs.drop sz)
def qp(n sz:Nat)(x:AV)(lo hi:Option AV)(h:aa)(K:AV→Prop):Prop:=
 match x with
 | .op id off=>(match fc lo 0,fc hi n,h[id]? with
   | some a,some b,some (.ah ah)=>(off+n*sz≤ah.cells.length∧0≤a∧a≤b∧b≤n∧n≤maxLen)∧K (.own id (off+a.toNat*sz) (b-a).toNat sz)
   | _,_,_=>False)
 | .ip cs=>(match fc lo 0,fc hi n with
   | some a,some b=>(n*sz≤cs.length∧0<n∧n≤maxLen∧a=0∧b=n)∧K (.sl sz (chunks sz n cs))
   | _,_=>False)
 | _=>False
def aO(m:Nat)(x i:AV)(K:AV→Prop):Prop:=
 match nf x,i with
 | .sl sz rows,.v (.int _ n)=>sz=m∧(0≤n∧n<rows.length)∧K (.ip (rows.getD n.toNat []))
 | .own id off len sz,.v (.int _ n)=>sz=m∧(0≤n∧n<len)∧K (.op id (off+n.toNat*sz))
 | _,_=>False
def eV(len sz:Nat)(x i:AV)(K:AV→Prop):Prop:=
 match x,i with
 | .op id off,.v (.int _ n)=>(0≤n∧n<len)∧K (.op id (off+n.toNat*sz))
 | .ip cs,.v (.int _ n)=>(0≤n∧n<len)∧K (.ip (cs.drop (n.toNat*sz)))
 | _,_=>False
def bo(off:Nat)(x:AV)(K:AV→Prop):Prop:=
 match x with
 | .ip cs=>K (.ip (cs.drop off))
 | .op id o=>K (.op id (o+off))
 | _=>False
def xe(x:AV)(K:AV→Prop):Prop:=
 match x with
 | .ip _|.op _ _=>K x
 | .fn (.func _) _ _=>K x
 | _=>False
def ak(g:Bool)(sz:Nat)(x:AV)(h:aa)(K:AV→Prop):Prop:=
 match x with
 | .ip cs=>lR g sz cs K
 | .op id o=>(match h[id]? with
   | some (.ah b)=>lR g sz (b.cells.drop o) K
   | _=>False)
 | _=>False
def ao(sz:Nat)(x v:AV)(h:aa)(K:aa→Prop):Prop:=
 match x with
 | .op id o=>(match h[id]? with
   | some (.ah b)=>(b.wr=true∧o+(bh v).length≤b.cells.length∧(bh v).length=sz∧(bh v).all bT=true)∧K (h.set id (.ah { b with cells:=cf b.cells o (bh v) }))
   | _=>False)
 | _=>False
def aV(t:TypeId)(v:AV)(h:aa)(K:AV→aa→Prop):Prop:=
 (bh v).all bT=true∧K (.op h.length 0) (h++[.ah ⟨t,bh v,true⟩])
def dS:List AV→List (Nat×Nat×AV)→Option (List AV)
 | cells,[]=>some cells
 | cells,(o,n,x):: r=>if (bh x).length=n∧o+n≤cells.length∧(bh x).all bT=true then dS (cf cells o (bh x)) r else none
def aX(zero:AV)(parts:List (Nat×Nat×AV))(K:AV→Prop):Prop:=
 match dS (bh zero) parts with
 | some cs=>K (.agg cs)
 | none=>False
def ic:Nat→List AV→List AV
 | 0,_=>[]
 | n+1,z=>z++ic n z
def qP(t len sz:Nat)(zero:AV)(parts:List (Nat×Nat×AV))(h:aa)(K:AV→aa→Prop):Prop:=
 match dS (ic len (bh zero)) parts with
 | some cs=>(match len with
   | 0=>K .emp h
   | len+1=>K (.own h.length 0 (len+1) sz) (h++[.ah ⟨t,cs,true⟩]))
 | none=>False
def bt(len sz:Nat)(zero:AV)(parts:List (Nat×Nat×AV))(K:AV→Prop):Prop:=
 match dS (ic len (bh zero)) parts with
 | some cs=>K (.sl sz (chunks sz len cs))
 | none=>False
def jG(h:aa)(sz:Nat)(x:AV):Option (List (List AV)):=
 match nf x with
 | .emp=>some []
 | .sl sz' rows=>if sz'=sz then some rows else none
 | .own id off len sz' => (match h[id]? with
   | some (.ah b)=>if sz'=sz∧off+len*sz≤b.cells.length then some (chunks sz len (b.cells.drop off)) else none
   | _=>none)
 | _=>none
def bg(b:UInt8):AV:=.v (.int .u8 b.toNat)
def CG:AV→Option (List (List AV))
 | .str l=>some (l.map fun b=>[bg b])
 | _=>none
def dx(sz:Nat)(r:List AV):Bool:=r.length == sz&&r.all bT
def jK(bytes n:Nat):Prop:=n≤maxLen∧n*bytes≤140737488355328
def xq:AV→AV
 | .v (.slice none 0 0)=>.emp
 | x=>x
def eM(own:Bool)(e sz bytes:Nat)(x:AV)(src:Option (List (List AV)))(h:aa)(K:AV→aa→Prop):Prop:=
 match src with
 | none=>False
 | some rows=>rows.all (dx sz)=true∧match xq x with
   | .emp=>(match own with
     | false=>jK bytes rows.length∧K (.sb h.length sz rows) (h++[.tok e sz rows.length])
     | true=>rows≠[]∧jK bytes rows.length∧K (.own h.length 0 rows.length sz) (h++[.ah ⟨e,rows.flatten,true⟩]))
   | .sb id sz' base=>(match h[id]? with
     | some (.tok e' sz'' k)=>(sz'=sz∧sz''=sz∧e'=e∧k=base.length)∧jK bytes (k+rows.length)∧K (.sb id sz (base++rows)) (h.set id (.tok e sz (k+rows.length)))
     | _=>False)
   | .own id off len sz' => (match h[id]? with
     | some (.ah b)=>(off=0∧sz'=sz∧b.wr=true∧b.ty=e∧len*sz≤b.cells.length)∧0<len+rows.length∧jK bytes (len+rows.length) ∧
      K (.own h.length 0 (len+rows.length) sz) (h.set id .dead++[.ah ⟨e,b.cells.take (len*sz)++rows.flatten,true⟩])
     | _=>False)
   | _=>False
def bR(own:Bool)(e sz bytes:Nat)(x y:AV)(h:aa)(K:AV→aa→Prop):Prop:=eM own e sz bytes x (jG h sz y) h K
def mM(own:Bool)(e bytes:Nat)(x y:AV)(h:aa)(K:AV→aa→Prop):Prop:=eM own e 1 bytes x (CG y) h K
def jV(P:Program)(e:TypeId):Nat:=((P.info? e).map (·.bytes)).getD 0
def sJ(P:Program)(e:TypeId):Bool:=
 match P.info? e with
 | some i=>(match i.zero with|some z=>z.cells.size == i.size|none=>false)
 | none=>false
def qO(e sz bytes:Nat)(zero len cap:AV)(h:aa)(K:AV→aa→Prop):Prop:=
 match len,cap with
 | .v (.int _ l),.v (.int _ c)=>(0≤l∧l≤c∧(bytes:Int)*c≤281474976710656∧c≤9223372036854775807)∧K (.own h.length 0 l.toNat sz) (h++[.ah ⟨e,ic c.toNat (bh zero),true⟩])
 | _,_=>False
def jb(e:Nat)(x:AV)(h:aa)(K:AV→aa→Prop):Prop:=
 match x with
 | .str l=>K (.own h.length 0 l.length 1) (h++[.ah ⟨e,l.map bg,true⟩])
 | _=>False
def wQ:List AV→Option (List UInt8)
 | []=>some []
 | .v (.int .u8 n):: r=>(wQ r).map (UInt8.ofNat n.toNat:: ·)
 | _=>none
def cR(x:AV)(h:aa)(K:AV→Prop):Prop:=
 match (jG h 1 x).bind fun p=>wQ p.flatten with
 | some l=>K (.str l)
 | none=>False
def BR(P:Program)(e:TypeId):Bool:=match P.underlying e with|some (.int .u8)=>true|_=>false
def de(x:AV)(K:AV→Prop):Prop:=
 match x with
 | .str l=>l.length≤maxLen→K (i_ l.length)
 | _=>False
def br(x:AV)(K:AV→Prop):Prop:=
 match nf x with
 | .sl _ rows=>rows.length≤maxLen→K (i_ rows.length)
 | .own _ _ len _=>len≤maxLen→K (i_ len)
 | .emp=>K (i_ 0)
 | _=>False
def nU(x y:AV)(K:AV→Prop):Prop:=
 match x,y with
 | .v (.int k a),.v (.int k' b)=>k=k'∧K (.v (.int k (if b<a then b else a)))
 | _,_=>False
def kA(x y:AV)(K:AV→Prop):Prop:=
 match x,y with
 | .v (.int k a),.v (.int k' b)=>k=k'∧K (.v (.int k (if b > a then b else a)))
 | _,_=>False
/-! ### Types -/
def rY:TypeDesc→Bool
 | .struct _|.array _ _=>true
 | _=>false
def fy(P:Program)(t:TypeId):Bool:=match P.underlying t with|some d=>rY d|none=>false
def fS(P:Program)(t:TypeId):Bool:=(P.info? t).isSome&&(P.underlying t).isSome
def jL(P:Program)(t:TypeId):Option AV:=(P.info? t).bind fun i=>i.zero.map kD
def uz(g:TypeId→Option (List Nat))(P:Program):Nat→List Field→Option (List Nat)
 | _,[]=>some []
 | o,f:: fs=>if f.offset=o∧f.name ≠ "_" then (g f.type).bind fun ks=>if P.cellsOf f.type=ks.length∧0<ks.length then (uz g P (o+ks.length) fs).map (ks++·) else none else none
def CB:Nat→List Nat→List Nat
 | 0,_=>[]
 | n+1,ks=>ks++CB n ks
def mJ(P:Program):Nat→TypeId→Option (List Nat)
 | 0,_=>none
 | d+1,t =>
   if fS P t then
    match P.underlying t with
    | some .bool=>some [0]
    | some (.int _)=>some [1]
    | some .string=>some [2]
    | some (.struct fs)=>if P.stoodInHeld t then none else uz (mJ P d) P 0 fs.toList
    | some (.array n e)=>(mJ P d e).bind fun ks=>if P.cellsOf e=ks.length∧0<ks.length then some (CB n ks) else none
    | _=>none
   else none
def dv(P:Program)(f:FuncId):Bool:=(P.funcs[f]?).any (fun fn=>fn.body.isSome&&fn.name != "runtime.NumGoroutine")
def bx(P:Program)(x:AV)(args:List AV)(h:aa)(K:AV→aa→Prop):Prop:=
 match x with
 | .fn (.func f) first cap=>dv P f=true∧bX P f (first++args++cap) h K
 | _=>False
def AA(x:AV)(K:AV→Prop):Prop:=
 match x with
 | .str _=>K x
 | _=>False
/-! ### Interfaces,nil -/
def vK:AV→Option Bool|.v .nilIface=>some true|.il _ _=>some false|_=>none
def tG:AV→Option Bool|.v (.pointer none)=>some true|.op _ _=>some false|.ip _=>some false|_=>none
def vM:AV→Option Bool
 | .v (.slice none _ _)=>some true
 | .own _ _ len _=>(match len with|0=>none|_+1=>some false)
 | .sl _ rows=>(match rows with|[]=>none|_:: _=>some false)
 | .sb _ _ rows=>(match rows with|[]=>none|_:: _=>some false)
 | _=>none
def se(neg b:Bool):Bool:=match neg with|true=>!b|false=>b
def kJ(neg:Bool)(r:Option Bool)(K:AV→Prop):Prop:=match r with|some b=>K (b_ (se neg b))|none=>False
def ye(neg:Bool)(d:TypeDesc)(y:Operand)(x:AV)(K:AV→Prop):Prop:=
 match d,y with
 | .interface _,.const .nilIface=>kJ neg (vK x) K
 | .pointer _,.const (.pointer none)=>kJ neg (tG x) K
 | .slice _,.const (.slice none _ _)=>kJ neg (vM x) K
 | _,_=>False
def pf(P:Program)(name:String)(t:TypeId):Option FuncId:=
 match P.info? t,P.underlying t with
 | some i,some (.pointer _)=>(match i.methods.find? (·.name == name) with
   | some m=>(match m.path.toList,m.func with|[],some (f,true)=>(match dv P f with|true=>some f|false=>none)|_,_=>none)
   | none=>none)
 | _,_=>none
def Fj(P:Program)(asserted t:TypeId):Bool:=
 match P.underlying asserted,P.info? t with
 | some (.interface want),some i=>(lacking want i.methods).isEmpty
 | _,_=>false
def pb(t:TypeId)(x:AV)(K:AV→Prop):Prop:=K (.il t x)
def zi(has:TypeId→Bool)(x:AV)(K:AV→Prop):Prop:=
 match x with
 | .il t v=>has t=true∧K (.aA [.il t v,b_ true])
 | _=>False
def xd(P:Program)(row:TypeId→Option FuncId)(x:AV)(args:List AV)(h:aa)(K:AV→aa→Prop):Prop:=
 match x with
 | .il t v=>(match row t with|some f=>bX P f (v:: args) h K|none=>False)
 | _=>False
def cg(P:Program)(x:AV)(K:AV→Prop):Prop:=
 match x with
 | .fn (.method name) (.il t v:: r) ys=>(pf P name t).isSome=true∧K (.fn (.method name) (.il t v:: r) ys)
 | x=>xe x K
abbrev cO(b:Bool)(X:Prop):Prop:=match b with|true=>X|false=>False
def bE(P:Program)(own:Bool)(ev:Operand→AV)(h:aa)(op:Op)(K:AV→aa→Prop):Prop:=
 match op with
 | .move x|.assign x=>K (ev x) h
 | .pick c a b=>bA (ev c) (ev a) (ev b) fun v=>K v h
 | .binOp op t x y _ =>
   if fy P t then
    match op with
    | .eql=>cO (!P.eqGuardType P.depth t) (match mJ P 8 t with|some ks=>me false ks (ev x) (ev y) fun v=>K v h|none=>False)
    | .neq=>cO (!P.eqGuardType P.depth t) (match mJ P 8 t with|some ks=>me true ks (ev x) (ev y) fun v=>K v h|none=>False)
    | _=>False
   else match P.underlying t with
    | some .bool=>oy op (ev x) (ev y) fun v=>K v h
    | some (.int _)|some .string=>ag op (ev x) (ev y) fun v=>K v h
    | some d=>(match op with
      | .eql=>ye false d y (ev x) fun v=>K v h
      | .neq=>ye true d y (ev x) fun v=>K v h
      | _=>False)
    | none=>False
 | .unOp .not _ x=>cq (ev x) fun v=>K v h
 | .unOp .neg _ x=>pd (ev x) fun v=>K v h
 | .unOp .xor t x=>(match P.underlying t with|some (.int k)=>ag .xor (.v (.int k (D6 k))) (ev x) fun v=>K v h|_=>False)
 | .convert s d x =>
   match P.underlying s,P.underlying d with
   | some (.int _),some (.int k)=>cy k (ev x) fun v=>K v h
   | some .string,some .string=>AA (ev x) fun v=>K v h
   | some .string,some (.slice e)=>cO (BR P e) (jb e (ev x) h K)
   | some (.slice e),some .string=>cO (BR P e) (cR (ev x) h fun v=>K v h)
   | _,_=>False
 | .extract x i=>aU i (ev x) fun v=>K v h
 | .field t x i =>
   match P.underlying t with
   | some (.struct fs)=>match fs[i]? with
     | some f=>cO (fS P f.type) (rX (fy P f.type) f.offset (P.cellsOf f.type) (ev x) fun v=>K v h)
     | none=>False
   | _=>False
 | .index t x i =>
   match P.underlying t with
   | some .string=>eJ (ev x) (ev i) fun v=>K v h
   | some (.array n e)=>cO (fS P e) (mN (fy P e) (P.cellsOf e) n (ev x) (ev i) fun v=>K v h)
   | _=>False
 | .slice t x lo hi none =>
   match P.underlying t with
   | some .string=>eW (ev x) (lo.map ev) (hi.map ev) fun v=>K v h
   | some (.slice e)=>cO (fS P e) (lD (P.cellsOf e) (ev x) (lo.map ev) (hi.map ev) fun v=>K v h)
   | some (.array n e)=>cO (fS P e) (qp n (P.cellsOf e) (ev x) (lo.map ev) (hi.map ev) h fun v=>K v h)
   | _=>False
 | .indexAddr t x i =>
   match P.underlying t with
   | some (.slice e)=>cO (fS P e) (aO (P.cellsOf e) (ev x) (ev i) fun v=>K v h)
   | some (.array n e)=>cO (fS P e) (eV n (P.cellsOf e) (ev x) (ev i) fun v=>K v h)
   | _=>False
 | .fieldAddr t x i =>
   match P.underlying t with
   | some (.struct fs)=>match fs[i]? with
     | some f=>cO (P.cellsOf f.type != 0&&fS P f.type) (bo f.offset (ev x) fun v=>K v h)
     | none=>False
   | _=>False
 | .nilCheck x=>cg P (ev x) fun v=>K v h
 | .makeInterface t x=>cO (P.concrete t) (pb t (ev x) fun v=>K v h)
 | .typeAssert x _ asserted true=>zi (Fj P asserted) (ev x) fun v=>K v h
 | .load t x=>cO (fS P t) (ak (fy P t) (P.cellsOf t) (ev x) h fun v=>K v h)
 | .store t x v=>cO (fS P t) (ao (P.cellsOf t) (ev x) (ev v) h fun h' => K (.v undef) h')
 | .alloc t=>match jL P t with
   | some z=>aV t z h K
   | none=>False
 | .box t x=>aV t (ev x) h K
 | .build t parts =>
   match P.underlying t,jL P t with
   | some (.struct fs),some z=>cO (fs.toList.all (fun f=>fS P f.type)&&parts.toList.all (fun p=>(fs[p.1]?).isSome))
    (aX z (parts.toList.map fun p=>(((fs[p.1]?).map (·.offset)).getD 0,((fs[p.1]?).map (fun f=>P.cellsOf f.type)).getD 0,ev p.2)) fun v=>K v h)
   | some (.array _ e),some z=>cO (fS P e) (aX z (parts.toList.map fun p=>(p.1*P.cellsOf e,P.cellsOf e,ev p.2)) fun v=>K v h)
   | _,_=>False
 | .buildSlice t len parts =>
   match P.underlying t with
   | some (.slice e)=>(match jL P e with
     | some z=>cO (sJ P e&&fS P e&&decide (len*P.cellsOf e≤16777216)&&decide (len≤16777216)) (match own with
      | true=>bt len (P.cellsOf e) z (parts.toList.map fun p=>(p.1*P.cellsOf e,P.cellsOf e,ev p.2)) fun v=>K v h
      | false=>qP e len (P.cellsOf e) z (parts.toList.map fun p=>(p.1*P.cellsOf e,P.cellsOf e,ev p.2)) h K)
     | none=>False)
   | _=>False
 | .makeSlice t l c =>
   match P.underlying t with
   | some (.slice e)=>(match jL P e with
     | some z=>cO (sJ P e&&decide (0<P.cellsOf e)) (qO e (P.cellsOf e) (jV P e) z (ev l) (ev c) h K)
     | none=>False)
   | _=>False
 | .makeFunc f xs ys=>K (.fn f (xs.toList.map ev) (ys.toList.map ev)) h
 | .call c =>
   match c.callee with
   | .builtin .len=>(match c.argTypes[0]?,c.args[0]? with
     | some t,some x=>(match P.underlying t with
       | some .string=>de (ev x) fun v=>K v h
       | some (.slice _)=>br (ev x) fun v=>K v h
       | _=>False)
     | _,_=>False)
   | .builtin .min=>(match c.args.toList with|[x,y]=>nU (ev x) (ev y) fun v=>K v h|_=>False)
   | .builtin .max=>(match c.args.toList with|[x,y]=>kA (ev x) (ev y) fun v=>K v h|[x,y,z]=>kA (ev x) (ev y) fun u=>kA u (ev z) fun v=>K v h|_=>False)
   | .builtin .append=>(match c.argTypes.toList,c.args.toList with
     | [t,tx],[x,y]=>(match P.underlying t,P.underlying tx with
       | some (.slice e),some (.slice _)=>cO (sJ P e) (bR own e (P.cellsOf e) (jV P e) (ev x) (ev y) h K)
       | some (.slice e),some .string=>cO (sJ P e&&P.cellsOf e == 1) (mM own e (jV P e) (ev x) (ev y) h K)
       | _,_=>False)
     | _,_=>False)
   | .value x=>bx P (ev x) (c.args.toList.map ev) h K
   | .invoke x name=>xd P (pf P name) (ev x) (c.args.toList.map ev) h K
   | _=>False
 | _=>False
def xy(st:St)(d:Option Tmp)(x:AV)(h:aa):St:=⟨st.n,bL st.n st.fr d x,h⟩
def bI(want:Bool)(c:AV):AV:=match c with|.v (.bool _)=>.v (.bool (!want))|c=>c
def eS(ops:Array Oper)(j:Nat):Option Tmp:=(ops[j]?).bind (·.dst)
omit [Laid] in
def ar.nf(h:ar ι S w x y):ar ι S w (Aw.nf x) y:=by
 unfold Aw.nf;split
 ·rw[cD]at h;subst h;rw[ar];exact⟨none,rfl⟩
 ·rw[ar]at h;rw[ar];exact h.1
 ·exact h
omit [Laid] in
def ar.xq(h:ar ι S w x y):ar ι S w (Aw.xq x) y:=by
 unfold Aw.xq;split
 ·rw[cD]at h;subst h;rw[ar];exact⟨none,rfl⟩
 ·exact h
def cv(P:Program)(o:Oper)(base:Nat)(ι:List Ix)(S:aZ)(a:Act)(w:World)(st:St)(K:AV→aa→Prop):Prop:=
 ∀Q:Exit→Act→World→Prop,o.wp P a w (fun a' w' => ∃ι' S' v h',bU ι.length base ι S w ι' S' w'∧cd base ι' S' a' w' (xy st o.dst v h')∧st.h.length≤h'.length∧K v h') Q
section
variable {P:Program} {o:Oper} {base:Nat} {ι ι':List Ix} {S S':aZ} {a:Act} {w w':World} {st:St} {K:AV→aa→Prop} {v:AV} {u:Value} {h':aa}
def iH(hr:cd base ι S a w st)(hrun:(execOp a.eval o).run P w=.ok (.value u) w')(hE:bU ι.length base ι S w ι' S' w')(r:ar ι' S' w' v u)
 (hh:cN base ι' S' w' h') (hl:st.h.length≤h'.length) (k:K v h'):cv P o base ι S a w st K:=by
 intro Q;unfold Oper.wp;rw[hrun,Oper.upon_value];refine⟨ι',S',v,h',hE, ?_,hl,k⟩;have:cd base ι' S' a w' ⟨st.n,st.fr,h'⟩:=⟨hr.df,hr.sz,dD.fU hE (bY _) hr.fr,hh⟩;exact this.put o.dst r
def J0(hr:cd base ι S a w st)(hrun:(execOp a.eval o).run P w=.ok .skip w')(hE:bU ι.length base ι S w ι' S' w')
 (hh:cN base ι' S' w' h') (hl:st.h.length≤h'.length) (k:K (.v undef) h'):cv P o base ι S a w st K:=by
 intro Q;unfold Oper.wp;rw[hrun,Oper.upon_skip];refine⟨ι',S',.v undef,h',hE, ?_,hl,k⟩;have:cd base ι' S' a w' ⟨st.n,st.fr,h'⟩:=⟨hr.df,hr.sz,dD.fU hE (bY _) hr.fr,hh⟩;exact this.put (x:=.v undef) (v:=undef) o.dst (by simp)
def bf(hr:cd base ι S a w st)(hrun:(execOp a.eval o).run P w=.ok (.value u) w)(r:ar ι S w v u)(k:K v st.h):cv P o base ι S a w st K:=
 iH hr hrun (bU.refl _ _ _ _ _) r hr.hp (bY _) k
end
omit [Laid] in
def fG(h:x.run P w=.ok u w'):(do pure (Next.value (←x)):Sem Next).run P w=.ok (.value u) w':=by
 rw[acf,h];rfl
omit [Laid] in
def aa1(h:x.run P w=.ok () w'):(do x;pure Next.skip:Sem Next).run P w=.ok .skip w':=by
 rw[acf,h];rfl
omit [Laid] in
def nD(h:P.info? t=some i):(typeInfo t).run P w=.ok i w:=by
 simp[typeInfo,h]
omit [Laid] in
def dM(h:fS P t=true):(sizeOf t).run P w=.ok (P.cellsOf t) w:=by
 unfold fS at h;simp only[NO,Option.isSome_iff_exists]at h;obtain⟨⟨i,hi⟩,_⟩:=h;simp[sizeOf,nD hi,Program.cellsOf,hi]
omit [Laid] in
def vV(h:fS P t=true):(isAgg t).run P w=.ok (fy P t) w:=by
 unfold fS at h;simp only[NO,Option.isSome_iff_exists]at h;obtain⟨_,⟨d,hd⟩⟩:=h;unfold isAgg fy;simp only[acf,run_underlying hd,ace,hd];cases d<;>rfl
omit [Laid] in
def vD{K:AV→Prop}(h:qC k n K):K (.v (.int k (k.wrap n))):=by
 unfold qC at h;split at h
 ·obtain⟨h1,h2⟩:=h;rw[IntWalk.i64_in n ⟨h1.1,h1.2⟩];exact h2
 ·exact h
section
variable {P:Program} {o:Oper} {base:Nat} {ι:List Ix} {S:aZ} {a:Act} {w:World} {st:St} {K:AV→aa→Prop}
def Mp(hr:cd base ι S a w st)(ho:o.op=.move x∨o.op=.assign x)(h:K (aG st.fr x) st.h):cv P o base ι S a w st K:=
 bf hr (by rcases ho with ho|ho<;>simp[execOp,ho]) (hr.eval x) h
def VT(hr:cd base ι S a w st)(ho:o.op=.pick c x y)(h:bA (aG st.fr c) (aG st.fr x) (aG st.fr y) fun v=>K v st.h):cv P o base ι S a w st K:=by
 obtain⟨t,e,h1,h2⟩:=h;have hc:=hr.eval c;rw[e]at hc;simp only[cD]at hc;cases t with
 | true=>exact bf hr (u:=a.eval x) (by simp[execOp,ho,hc,asBool]) (hr.eval x) (h1 rfl)
 | false=>exact bf hr (u:=a.eval y) (by simp[execOp,ho,hc,asBool]) (hr.eval y) (h2 rfl)
omit [Laid] in
def RS{op:BinOp}{K:AV→Prop}(hs:lN op=false)(h:qo op k x y K):∃u,(binOp op t (.int k x) (.int k y)).run P w=.ok u w∧K (.v u):=by
 cases op<;>simp only[lN,Bool.true_eq_false]at hs<;>simp only[qo]at h
 case add=>exact⟨_,by simp[binOp,Op.intArith],vD h⟩
 case sub=>exact⟨_,by simp[binOp,Op.intArith],vD h⟩
 case mul=>exact⟨_,by simp[binOp,Op.intArith],vD h⟩
 case quo=>exact⟨_,by simp[binOp,Op.intDiv,h.1],h.2⟩
 case rem=>exact⟨_,by simp[binOp,Op.intDiv,h.1],h.2⟩
 case and=>exact⟨_,by simp only[binOp,Op.intBits];rw[if_neg (by simp)];rfl,h⟩
 case or=>exact⟨_,by simp only[binOp,Op.intBits];rw[if_neg (by simp)];rfl,h⟩
 case xor=>exact⟨_,by simp only[binOp,Op.intBits];rw[if_neg (by simp)];rfl,h⟩
 case andNot=>exact⟨_,by simp only[binOp,Op.intBits];rw[if_neg (by simp)];rfl,h⟩
 case eql=>exact⟨_,by simp only[binOp,Op.intCmp];simp;rfl,h⟩
 case neq=>exact⟨_,by simp only[binOp,Op.intCmp];simp;rfl,h⟩
 case lss=>exact⟨_,by simp only[binOp,Op.intCmp];rw[if_neg (by simp)];rfl,h⟩
 case leq=>exact⟨_,by simp only[binOp,Op.intCmp];rw[if_neg (by simp)];rfl,h⟩
 case gtr=>exact⟨_,by simp only[binOp,Op.intCmp];rw[if_neg (by simp)];rfl,h⟩
 case geq=>exact⟨_,by simp only[binOp,Op.intCmp];rw[if_neg (by simp)];rfl,h⟩
omit [Laid] in
def Mn{op:BinOp}{K:AV→Prop}(hs:lN op=true)(h:xf op k x y K):∃u,(binOp op t (.int k x) (.int k' y)).run P w=.ok u w∧K (.v u):=by
 obtain⟨h0,h⟩:=h;have h0':¬y<0:=by omega
 cases op<;>simp only[lN,abT]at hs<;>simp only at h
 case shl=>exact⟨_,by simp[binOp,Op.shift,h0'],h⟩
 case shr=>exact⟨_,by simp[binOp,Op.shift,h0'],h⟩
omit [Laid] in
def RT{op:BinOp}{t:TypeId}{K:AV→Prop}(hx:x.length≤maxLen)(hy:y.length≤maxLen)(h:zk op x y K):
 ∃v u,(binOp op t (.string ⟨x.toArray⟩) (.string ⟨y.toArray⟩)).run P w=.ok u w∧(∀ι S,ar ι S w v u)∧K v:=by
 have dec:∀a b:List UInt8,(a == b)=decide (a=b):=fun a b=>by by_cases q:a=b<;>simp[q]
 cases op<;>simp only[zk]at h
 case add =>
  refine⟨_,.string ⟨(x++y).toArray⟩, ?_,fun ι S=>by simpa using h.1,h.2⟩;have h1:=h.1;unfold maxLen at h1;have e1:(⟨x.toArray⟩:ByteArray).size=x.length:=rfl;have e2:(⟨y.toArray⟩:ByteArray).size=y.length:=rfl;have e3:(⟨x.toArray⟩++⟨y.toArray⟩:ByteArray)=⟨(x++y).toArray⟩:=by
   apply ByteArray.ext;simp
  simp only[binOp_string_add,Op.stringOp,e1,e2,e3];rw[if_neg (by simp only[IntKind.max,IntKind.signed,IntKind.bits];simp;omega)];rfl
 case eql=>exact⟨_,_,by simp[binOp,Op.stringOp];rfl,fun ι S=>by simp[dec],h⟩
 case neq=>exact⟨_,_,by simp[binOp,Op.stringOp];rfl,fun ι S=>by simp[dec],h⟩
 case lss=>exact⟨_,_,by simp[binOp,Op.stringOp];rfl,fun ι S=>by simp,h⟩
 case leq=>exact⟨_,_,by simp[binOp,Op.stringOp];rfl,fun ι S=>by simp[dec],h⟩
 case gtr=>exact⟨_,_,by simp[binOp,Op.stringOp];rfl,fun ι S=>by simp[dec],h⟩
 case geq=>exact⟨_,_,by simp[binOp,Op.stringOp];rfl,fun ι S=>by simp,h⟩
omit [Laid] in
def kj{op:BinOp}(h:p.oneCell'=true)(h':p≠.nilIface):(eqGuard op t x y p q).run P w=.ok () w:=by
 unfold eqGuard;cases op<;>(try rfl)<;>cases p<;>first|rfl|(exact absurd rfl h')|cases h
def Qb{op:BinOp}{t yt:TypeId}(hr:cd base ι S a w st)(ho:o.op=.binOp op t x y yt)
 (h:ag op (aG st.fr x) (aG st.fr y) fun v=>K v st.h):cv P o base ι S a w st K:=by
 have hx:=hr.eval x;have hy:=hr.eval y;generalize aG st.fr x=X at *;generalize aG st.fr y=Y at *;unfold ag at h;split at h
 ·rename_i k p k' q;simp only[cD]at hx hy;have hg:(eqGuard op t x y (a.eval x) (a.eval y)).run P w=.ok () w:=kj (by rw[hx];rfl) (by rw[hx];intro e;cases e);split at h
  ·rename_i hs;obtain⟨u,e,k1⟩:=Mn (P:=P) (w:=w) (t:=t) (k':=k') hs h;exact bf hr (u:=u) (by simp only[execOp,ho];exact fG (by rw[acf,hg];simpa[hx,hy]using e)) (by simp) k1
  ·rename_i hs;obtain⟨rfl,h⟩:=h;obtain⟨u,e,k1⟩:=RS (P:=P) (w:=w) (t:=t) (by simpa using hs) h;exact bf hr (u:=u) (by simp only[execOp,ho];exact fG (by rw[acf,hg];simpa[hx,hy]using e)) (by simp) k1
 ·rename_i p q;simp only[eK]at hx hy;have hg:(eqGuard op t x y (a.eval x) (a.eval y)).run P w=.ok () w:=kj (by rw[hx.1];rfl) (by rw[hx.1];intro e;cases e);obtain⟨v,u,e,r,k1⟩:=RT (P:=P) (w:=w) (t:=t) hx.2 hy.2 h;exact bf hr (u:=u) (by simp only[execOp,ho];exact fG (by rw[acf,hg];simpa[hx.1,hy.1]using e)) (r ι S) k1
 ·exact h.elim
def VD{op:BinOp}{t yt:TypeId}(hr:cd base ι S a w st)(ho:o.op=.binOp op t x y yt)(ht:P.underlying t=some .bool)
 (h:oy op (aG st.fr x) (aG st.fr y) fun v=>K v st.h):cv P o base ι S a w st K:=by
 have hx:=hr.eval x;have hy:=hr.eval y;generalize aG st.fr x=X at *;generalize aG st.fr y=Y at *;unfold oy at h;split at h
 ·rename_i p q;simp only[cD]at hx hy;have hg:(eqGuard op t x y (a.eval x) (a.eval y)).run P w=.ok () w:=kj (by rw[hx];rfl) (by rw[hx];intro e;cases e);split at h
  ·exact bf hr (u:=.bool (p == q)) (by simp only[execOp,ho];exact fG (by rw[acf,hg];simpa[hx,hy]using run_eql_bool w t p q ht)) (by simp) h
  ·exact bf hr (u:=.bool (!(p == q))) (by simp only[execOp,ho];exact fG (by rw[acf,hg];simpa[hx,hy]using run_neq_bool w t p q ht)) (by simp) h
  ·exact h.elim
 ·exact h.elim
def XB(hr:cd base ι S a w st)(ho:o.op=.unOp .not t x)(h:cq (aG st.fr x) fun v=>K v st.h):cv P o base ι S a w st K:=by
 obtain⟨b,e,h⟩:=h;have hx:=hr.eval x;rw[e]at hx;simp only[cD]at hx;exact bf hr (u:=.bool (!b)) (by simp[execOp,ho,hx,Op.unary]) (by simp) h
def Xz(hr:cd base ι S a w st)(ho:o.op=.unOp .neg t x)(h:pd (aG st.fr x) fun v=>K v st.h):cv P o base ι S a w st K:=by
 obtain⟨k,n,e,h⟩:=h;have hx:=hr.eval x;rw[e]at hx;simp only[cD]at hx;exact bf hr (u:=.int k (k.wrap (0-n))) (by simp[execOp,ho,hx,Op.unary,Op.intArith]) (by simp) (vD h)
def Xs(hr:cd base ι S a w st)(ho:o.op=.unOp .xor t x)(h:ag .xor (.v (.int k (D6 k))) (aG st.fr x) fun v=>K v st.h):cv P o base ι S a w st K:=by
 have hx:=hr.eval x;generalize aG st.fr x=X at *;unfold ag at h;split at h
 ·rename_i k1 p k2 q e1;cases e1;simp only[cD]at hx;simp only[lN,abT,if_false]at h;obtain⟨rfl,h⟩:=h;simp only[qo]at h;exact bf hr (u:=.int k (dn .xor k (D6 k) q)) (by simp only[execOp,ho];exact fG (by
   have e2:Op.unary .xor (.int k q)=Op.intBits .xor k (D6 k) q:=rfl;rw[hx,e2];simp only[Op.intBits];rfl)) (by simp) h
 ·rename_i e1;cases e1
 ·exact h.elim
def VF(hr:cd base ι S a w st)(ho:o.op=.convert s d x)(hs:P.underlying s=some (.int k'))(hd:P.underlying d=some (.int k))
 (h:cy k (aG st.fr x) fun v=>K v st.h):cv P o base ι S a w st K:=by
 obtain⟨k',n,e,h⟩:=h;have hx:=hr.eval x;rw[e]at hx;simp only[cD]at hx;exact bf hr (u:=.int k (k.wrap n)) (by simp[execOp,ho,hx,convert,run_underlying hs,run_underlying hd,Conv.intToInt]) (by simp) h
def RV(hr:cd base ι S a w st)(ho:o.op=.convert s d x)(hs:P.underlying s=some .string)(hd:P.underlying d=some .string)
 (h:∃l,aG st.fr x=.str l∧K (aG st.fr x) st.h):cv P o base ι S a w st K:=by
 obtain⟨l,e,h⟩:=h;have hx:=hr.eval x;have hx':=hx;rw[e]at hx;simp only[eK]at hx;exact bf hr (u:=a.eval x) (by simp only[execOp,ho];exact fG (by simp[convert,run_underlying hs,run_underlying hd,hx.1])) hx' h
def VG(hr:cd base ι S a w st)(ho:o.op=.extract x i)(h:aU i (aG st.fr x) fun v=>K v st.h):cv P o base ι S a w st K:=by
 have hx:=hr.eval x;unfold aU at h;split at h
 ·rename_i cs e;rw[e,ar]at hx;obtain⟨vs,e1,r⟩:=hx;split at h
  ·rename_i c ec;obtain⟨v,ev,rv⟩:=r.get i c ec;exact bf hr (u:=v) (by simp only[execOp,ho,e1];exact fG (by simp[Instr.extract,ev])) rv h
  ·exact h.elim
 ·exact h.elim
omit [Laid] in
def Gh{cs:List AV}{vs:List Value}{off:Nat}{K:AV→Prop}(ht:fS P t=true)(r:aE ι S w cs vs)(h:lR (fy P t) (P.cellsOf t) (cs.drop off) K):
 ∃v u,(part t vs.toArray off).run P w=.ok u w∧ar ι S w v u∧K v:=by
 unfold part;simp only[acf,vV ht,ace];unfold lR at h;split at h
 ·rename_i hg;rw[hg];simp only[if_true,acf,dM ht,ace,acg];refine⟨_,_,rfl, ?_,h.2⟩;rw[ar];refine⟨(vs.drop off).take (P.cellsOf t), ?_,(r.drop off).take _⟩;simp[List.extract_eq_take_drop,Nat.add_sub_cancel_left]
 ·rename_i hg;rw[hg];simp only[abT,if_false];split at h
  ·rename_i c rest e;have ec:cs[off]?=some c:=by
    have:=congrArg (fun l=>l[0]?) e;simpa using this
   obtain⟨v,ev,rv⟩:=r.get off c ec;exact⟨c,v,by simp[ev],rv,h⟩
  ·exact h.elim
def RW{fs:Array Field}(hr:cd base ι S a w st)(ho:o.op=.field t x i)(ht:P.underlying t=some (.struct fs))(hf:fs[i]?=some f)(hk:fS P f.type=true)
 (h:rX (fy P f.type) f.offset (P.cellsOf f.type) (aG st.fr x) fun v=>K v st.h):cv P o base ι S a w st K:=by
 have hx:=hr.eval x;unfold rX at h;split at h
 ·rename_i cs e;rw[e,ar]at hx;obtain⟨vs,e1,r⟩:=hx;obtain⟨v,u,hrun,rv,k⟩:=Gh (P:=P) hk r h;exact bf hr (u:=u) (by simp only[execOp,ho,e1];exact fG (by simp[Instr.field,run_underlying ht,hf,asAgg,hrun])) rv k
 ·exact h.elim
def VL(hr:cd base ι S a w st)(ho:o.op=.index t x i)(ht:P.underlying t=some .string)(h:eJ (aG st.fr x) (aG st.fr i) fun v=>K v st.h):cv P o base ι S a w st K:=by
 have hx:=hr.eval x;have hi:=hr.eval i;unfold eJ at h;split at h
 ·rename_i l k n e1 e2;rw[e1]at hx;rw[e2]at hi;simp only[eK,cD]at hx hi;obtain⟨⟨h0,h1⟩,h⟩:=h;have hn:n.toNat<l.length:=by omega
  refine bf hr (u:=.int .u8 (l.getD n.toNat 0).toNat) (by
   simp only[execOp,ho,hx.1,hi];refine fG ?_;have q:(⟨l.toArray⟩:ByteArray)[n.toNat]?=some (l.getD n.toNat 0):=by
    rw[ByteArray.getElem?_lt' _ _ (show n.toNat<(⟨l.toArray⟩:ByteArray).size from hn)];show some (l.toArray[n.toNat])=_;simp[nE,hn]
   simp only[Instr.index,acf,asIntOf,acg,ace,run_underlying ht,if_pos h0,q]) (by simp) h
 ·exact h.elim
end
section
variable {P:Program} {o:Oper} {base:Nat} {ι:List Ix} {S:aZ} {a:Act} {w:World} {st:St} {K:AV→aa→Prop}
theorem VI{t e:TypeId}{n:Nat}{x i:Operand}(hr:cd base ι S a w st)(ho:o.op=.index t x i)(ht:P.underlying t=some (.array n e))(hk:fS P e=true)
 (h:mN (fy P e) (P.cellsOf e) n (aG st.fr x) (aG st.fr i) fun v=>K v st.h):cv P o base ι S a w st K:=by
 have hx:=hr.eval x;have hi:=hr.eval i;unfold mN at h;split at h
 ·rename_i cs k j e1 e2;rw[e1,ar]at hx;rw[e2,cD]at hi;obtain⟨vs,ev,r⟩:=hx;obtain⟨⟨h0,h1⟩,h⟩:=h;obtain⟨v,u,hrun,rv,kk⟩:=Gh (P:=P) (w:=w) hk r h;refine bf hr (u:=u) (by
   simp only[execOp,ho,ev,hi];exact fG (by simp only[Instr.index,acf,asIntOf,acg,ace,run_underlying ht];rw[if_pos ⟨h0,h1⟩];simp only[acf,dM hk,ace];exact hrun)) rv kk
 ·exact h.elim
theorem Dx{fr:Fr}(hE:∀x,ar ι S w (aG fr x) (a.eval x)){x:Option Operand}{d n:Int}(h:fc (x.map (aG fr)) d=some n):(x=none∧n=d)∨∃y k,x=some y∧a.eval y=.int k n:=by
 cases x with
 | none=>left;simp[fc]at h;exact⟨rfl,h.symm⟩
 | some y =>
   right;have hy:=hE y;simp only[acu]at h;cases he:aG fr y with
   | v z =>
     rw[he]at h hy;cases z<;>simp only[fc,On,reduceCtorEq]at h;rename_i k q;subst h;rw[cD]at hy;exact⟨y,k,rfl,hy⟩
   | _=>rw[he]at h;simp[fc]at h
theorem qT{isl:Bool}{len cap:Nat}{lo hi:Option Operand}{p q:Int}{fr:Fr}(hE:∀x,ar ι S w (aG fr x) (a.eval x))(h1:fc (lo.map (aG fr)) 0=some p)(h2:fc (hi.map (aG fr)) len=some q)
 (hp:0≤p) (hpq:p≤q) (hq:q≤cap):(Instr.sliceBounds isl len cap (lo.map a.eval) (hi.map a.eval) none).run P w=.ok (p.toNat,q.toNat,cap) w:=by
 have bound:∀(k:IntKind) (n:Int) (y:Nat) (c:BoundsCode),0≤n→n≤y→(Instr.sliceBound (.int k n) y c).run P w=.ok n.toNat w:=fun k n y c g1 g2=>run_sliceBound w k n y c g1 g2;unfold Instr.sliceBounds;rcases Dx hE h1 with⟨rfl,rfl⟩|⟨yl,kl,rfl,el⟩<;>rcases Dx hE h2 with⟨rfl,rfl⟩|⟨yh,kh,rfl,eh⟩
 ·simp
 ·simp[eh,bound kh q cap _ (by omega) hq]
 ·simp[el,bound kl p len _ hp hpq]
 ·simp only[acu,acf,acg,ace,eh,el];rw[bound kh q cap _ (by omega) hq];simp only[ace];rw[bound kl p q.toNat _ hp (by omega)];rfl
theorem XD{t:TypeId}{x:Operand}{lo hi:Option Operand}(hr:cd base ι S a w st)(ho:o.op=.slice t x lo hi none)(ht:P.underlying t=some .string)
 (h:eW (aG st.fr x) (lo.map (aG st.fr)) (hi.map (aG st.fr)) fun v=>K v st.h):cv P o base ι S a w st K:=by
 have hx:=hr.eval x;unfold eW at h;split at h
 ·rename_i l e;rw[e,eK]at hx;split at h
  ·rename_i p q e1 e2;obtain⟨⟨g0,g1,g2⟩,h⟩:=h;have hb:=qT (P:=P) (isl:=false) (len:=l.length) (cap:=l.length) hr.eval e1 e2 g0 g1 g2;refine bf hr (u:=.string ⟨((l.take q.toNat).drop p.toNat).toArray⟩) ?_ ?_ h
   ·simp only[execOp,ho,hx.1,Option.map_none];refine fG ?_;have hsz:(⟨l.toArray⟩:ByteArray).size=l.length:=rfl;simp only[Instr.sliceAt,acf,run_underlying ht,ace,Instr.slice,Option.isSome_none,abT,if_false,hsz,hb,acg]
    congr 2
    apply ByteArray.ext;simp[ByteArray.data_extract];rw[List.drop_take]
   ·simp only[eK];refine⟨trivial, ?_⟩;have:=hx.2;simp;omega
  ·exact h.elim
 ·exact h.elim
theorem aa2{t e:TypeId}{x:Operand}{lo hi:Option Operand}(hr:cd base ι S a w st)(ho:o.op=.slice t x lo hi none)(ht:P.underlying t=some (.slice e))(hk:fS P e=true)
 (h:lD (P.cellsOf e) (aG st.fr x) (lo.map (aG st.fr)) (hi.map (aG st.fr)) fun v=>K v st.h):cv P o base ι S a w st K:=by
 have hx:=(hr.eval x).nf;have run:∀(b:Option Addr) (len cap:Nat) (p q:Int),a.eval x=.slice b len cap→fc (lo.map (aG st.fr)) 0=some p→fc (hi.map (aG st.fr)) len=some q→0≤p→p≤q→q≤cap →
  (execOp a.eval o).run P w=.ok (.value (.slice (if cap=p.toNat then b else b.map (·.add (p.toNat*P.cellsOf e))) (q.toNat-p.toNat) (cap-p.toNat))) w:=by
  intro b len cap p q ex e1 e2 g0 g1 g2;have hb:=qT (P:=P) (isl:=true) (len:=len) (cap:=cap) hr.eval e1 e2 g0 g1 g2;simp only[execOp,ho,ex,Option.map_none];exact fG (by simp only[Instr.sliceAt,acf,run_underlying ht,ace,Instr.slice,hb,dM hk,acg])
 unfold lD at h;split at h
 ·rename_i sz rows ex;rw[ex,ar]at hx;obtain⟨b,cap,ev,c1,c2,c3⟩:=hx;split at h
  ·rename_i p q e1 e2;obtain⟨rfl,⟨g0,g1,g2⟩,h⟩:=h;refine bf hr (run b _ cap p q ev e1 e2 g0 g1 (by omega)) ?_ h;rw[ar];have hl:((rows.take q.toNat).drop p.toNat).length=q.toNat-p.toNat:=by simp;omega
   refine⟨_,_,by rw[hl],by omega,by omega, ?_⟩
   by_cases hem:(rows.take q.toNat).drop p.toNat=[]
   ·exact .inl hem
   ·right;have hlen:0<q.toNat-p.toNat:=by rw[←hl];exact List.length_pos_iff.2 hem
    rcases c3 with c3|⟨bb,off,eb,rr⟩
    ·subst c3;simp at hem
    ·subst eb;rw[if_neg (by omega)];refine⟨bb,off+p.toNat*P.cellsOf e,by simp[addr_add],cr.mk fun i r er=>?_⟩;have er':rows[p.toNat+i]?=some r:=by
      rw[abQ]at er;rw[ON]at er;split at er<;>first|exact er|cases er
     have:=rr.get _ _ er';refine⟨this.1, ?_⟩;rw[Nat.add_assoc,←acr];exact this.2
  ·exact h.elim
 ·rename_i id off len sz ex;rw[ex,ar]at hx;obtain⟨bb,b,cap,n,ty,c1,ev,c2,c3,c4,c5,c6⟩:=hx;split at h
  ·rename_i p q e1 e2;obtain⟨rfl,⟨g0,g1,g2⟩,h⟩:=h;refine bf hr (run b _ cap p q ev e1 e2 g0 g1 (by omega)) ?_ h;rw[ar];have hmul:p.toNat*P.cellsOf e+(cap-p.toNat)*P.cellsOf e=cap*P.cellsOf e:=by rw[←acr];congr 1;omega
   refine⟨bb,_,_,n,ty,c1,by congr 1;omega,by omega,by omega, ?_,c5,by omega⟩
   by_cases hz:cap-p.toNat=0
   ·exact .inl hz
   ·right;rcases c4 with c4|c4
    ·omega
    ·rw[if_neg (by omega),c4];simp[addr_add]
  ·exact h.elim
 ·rename_i ex;rw[ex,ar]at hx;obtain⟨b,ev⟩:=hx;split at h
  ·rename_i p q e1 e2;obtain⟨⟨g0,g1⟩,h⟩:=h;subst g0;subst g1;refine bf hr (run b 0 0 0 0 ev e1 (by simpa using e2) (by omega) (by omega) (by omega)) ?_ h;rw[ar];exact⟨_,rfl⟩
  ·exact h.elim
 ·exact h.elim
omit [Laid] in
theorem jl(sz:Nat):∀(n:Nat) (cs:List AV),n*sz≤cs.length→(chunks sz n cs).flatten=cs.take (n*sz)∧∀r∈chunks sz n cs,r.length=sz
 | 0,_,_=>by simp[chunks]
 | n+1,cs,h=>by
   rw[acr,Nat.one_mul]at h;obtain⟨h1,h2⟩:=jl sz n (cs.drop sz) (by simp;omega);refine⟨?_,fun r hr=>?_⟩
   ·simp only[chunks,aco,h1];rw[acr,Nat.one_mul,Nat.add_comm,List.take_add]
   ·simp only[chunks,ID]at hr;rcases hr with rfl|hr
    ·simp;omega
    ·exact h2 r hr
omit [Laid] in
theorem jW(sz:Nat):∀(n:Nat) (cs:List AV),(chunks sz n cs).length=n
 | 0,_=>rfl
 | n+1,cs=>by simp[chunks,jW sz n]
omit [Laid] in
theorem kp{sz:Nat}:∀{rows:List (List AV)},(∀r∈rows,r.length=sz)→rows.flatten.length=rows.length*sz
 | [],_=>by simp
 | r:: rs,h=>by
   have:=kp (rows:=rs) fun x hx=>h x (Lt _ hx);simp only[aco,AT,this,abL,acr,Nat.one_mul,h r (ack ..)];omega
omit [Laid] in
theorem cr.of_flat{ι:List Ix}{S:aZ}{w:World}{sz:Nat}:∀{rows:List (List AV)} {b off:Nat},(∀r∈rows,r.length=sz)→bD ι S w rows.flatten b off→cr ι S w sz rows b off
 | [],_,_,_,_=>by simp[cr]
 | r:: rs,b,off,h,k=>by
   rw[cr];have hr:=h r (ack ..);refine⟨hr,bD.mk fun i c e=>?_,cr.of_flat (fun x hx=>h x (Lt _ hx)) ?_⟩
   ·refine k.get i c ?_;rw[aco,gO (eQ.1 e).1];exact e
   ·have:=k.drop sz;rw[aco,List.drop_left' hr]at this;exact this
theorem XC{t e:TypeId}{n:Nat}{x:Operand}{lo hi:Option Operand}(hr:cd base ι S a w st)(ho:o.op=.slice t x lo hi none)(ht:P.underlying t=some (.array n e))(hk:fS P e=true)
 (h:qp n (P.cellsOf e) (aG st.fr x) (lo.map (aG st.fr)) (hi.map (aG st.fr)) st.h fun v=>K v st.h):cv P o base ι S a w st K:=by
 have hx:=hr.eval x;unfold qp at h;split at h
 ·rename_i id off ex;rw[ex,ar]at hx;obtain⟨b,c1,ev⟩:=hx;split at h
  ·rename_i p q ah e1 e2 eb;obtain⟨⟨hroom,g0,g1,g2,g3⟩,h⟩:=h;have hb:=qT (P:=P) (isl:=false) (len:=n) (cap:=n) hr.eval e1 e2 g0 g1 g2;obtain⟨b',arr,fz,k1,k2,k3,k4,k5,k6,k7,k8,k9⟩:=hr.hp.live id ah eb;rw[c1]at k1;cases k1;refine bf hr (u:=.slice (some (if n=p.toNat then ⟨b,off,none⟩ else (⟨b,off,none⟩:Addr).add (p.toNat*P.cellsOf e))) (q.toNat-p.toNat) (n-p.toNat)) ?_ ?_ h
   ·simp only[execOp,ho,ev,Option.map_none];exact fG (by simp only[Instr.sliceAt,acf,run_underlying ht,ace,Instr.sureAddr,acg,hb,dM hk])
   ·rw[ar];have hmul:p.toNat*P.cellsOf e+(n-p.toNat)*P.cellsOf e=n*P.cellsOf e:=by rw[←acr];congr 1;omega
    refine⟨b,_,_,arr.size,ah.ty,c1,by congr 1;omega,by omega,by omega, ?_,by unfold World.shape?;rw[k3],by omega⟩
    by_cases hz:n-p.toNat=0
    ·exact .inl hz
    ·right;rw[if_neg (by omega),addr_add]
  ·exact h.elim
 ·rename_i cs ex;rw[ex,ar]at hx;obtain⟨b,off,ev,rc⟩:=hx;split at h
  ·rename_i p q e1 e2;obtain⟨⟨hroom,g0,g1,rfl,rfl⟩,h⟩:=h;have hb:=qT (P:=P) (isl:=false) (len:=n) (cap:=n) hr.eval e1 e2 (Int.le_refl _) (by omega) (Int.le_refl _);have hz:¬n=(0:Int).toNat:=by simp;omega
   refine bf hr (u:=.slice (some ((⟨b,off,none⟩:Addr).add ((0:Int).toNat*P.cellsOf e))) (((n:Int)).toNat-(0:Int).toNat) (n-(0:Int).toNat)) ?_ ?_ h
   ·simp only[execOp,ho,ev,Option.map_none];refine fG (by simp only[Instr.sliceAt,acf,run_underlying ht,ace,Instr.sureAddr,acg,hb,dM hk];rw[if_neg hz])
   ·obtain⟨f1,f2⟩:=jl (P.cellsOf e) n cs hroom;have hl:=jW (P.cellsOf e) n cs;rw[ar];refine⟨some ((⟨b,off,none⟩:Addr).add ((0:Int).toNat*P.cellsOf e)),n,by rw[hl];simp,by rw[hl];exact bY _,g1,.inr ⟨b,off,by rw[addr_add];simp, ?_⟩⟩;refine cr.of_flat f2 (bD.mk fun i c hc=>rc.get i c ?_);rw[f1,ON]at hc;split at hc
    ·exact hc
    ·cases hc
  ·exact h.elim
 ·exact h.elim
theorem VJ{t e:TypeId}{x i:Operand}(hr:cd base ι S a w st)(ho:o.op=.indexAddr t x i)(ht:P.underlying t=some (.slice e))(hk:fS P e=true)
 (h:aO (P.cellsOf e) (aG st.fr x) (aG st.fr i) fun v=>K v st.h):cv P o base ι S a w st K:=by
 have hx:=(hr.eval x).nf;have hi:=hr.eval i;have run:∀(b:Addr) (len cap:Nat) (k:IntKind) (j:Int),a.eval x=.slice (some b) len cap→a.eval i=.int k j→0≤j→j<len →
  (execOp a.eval o).run P w=.ok (.value (.pointer (some (b.add (j.toNat*P.cellsOf e))))) w:=by
  intro b len cap k j ex ei g0 g1;simp only[execOp,ho,ex,ei];refine fG ?_;simp only[Instr.indexAt,acf,asIntOf,acg,ace,run_underlying ht];rw[if_pos ⟨g0,g1⟩];simp only[acf,dM hk,ace,acg]
 unfold aO at h;split at h
 ·rename_i sz rows k j e1 e2;rw[e1,ar]at hx;rw[e2,cD]at hi;obtain⟨b,cap,ev,c1,c2,c3⟩:=hx;obtain⟨rfl,⟨g0,g1⟩,h⟩:=h;have hj:j.toNat<rows.length:=by omega
  rcases c3 with c3|⟨bb,off,eb,rr⟩
  ·subst c3;simp at hj
  ·subst eb;refine bf hr (run _ _ cap k j ev hi g0 g1) ?_ h;have er:rows[j.toNat]?=some (rows.getD j.toNat []):=by simp[nE,hj]
   rw[ar];exact⟨bb,off+j.toNat*P.cellsOf e,by rw[addr_add],(rr.get _ _ er).2⟩
 ·rename_i id off len sz k j e1 e2;rw[e1,ar]at hx;rw[e2,cD]at hi;obtain⟨bb,b,cap,n,ty,c1,ev,c2,c3,c4,c5,c6⟩:=hx;obtain⟨rfl,⟨g0,g1⟩,h⟩:=h;rcases c4 with c4|c4
  ·omega
  ·subst c4;refine bf hr (run _ _ cap k j ev hi g0 g1) ?_ h;rw[ar];exact⟨bb,c1,by rw[addr_add]⟩
 ·exact h.elim
theorem VK{t e:TypeId}{n:Nat}{x i:Operand}(hr:cd base ι S a w st)(ho:o.op=.indexAddr t x i)(ht:P.underlying t=some (.array n e))(hk:fS P e=true)
 (h:eV n (P.cellsOf e) (aG st.fr x) (aG st.fr i) fun v=>K v st.h):cv P o base ι S a w st K:=by
 have hx:=hr.eval x;have hi:=hr.eval i;have run:∀(b:Addr) (k:IntKind) (j:Int),a.eval x=.pointer (some b)→a.eval i=.int k j→0≤j→j<n →
  (execOp a.eval o).run P w=.ok (.value (.pointer (some (b.add (j.toNat*P.cellsOf e))))) w:=by
  intro b k j ex ei g0 g1;simp only[execOp,ho,ex,ei];refine fG ?_;simp only[Instr.indexAt,acf,asIntOf,acg,ace,run_underlying ht,Instr.sureAddr];rw[if_pos ⟨g0,g1⟩];simp only[acf,dM hk,ace,acg]
 unfold eV at h;split at h
 ·rename_i id off k j e1 e2;rw[e1,ar]at hx;rw[e2,cD]at hi;obtain⟨b,c1,ev⟩:=hx;obtain⟨⟨g0,g1⟩,h⟩:=h;refine bf hr (run _ k j ev hi g0 g1) ?_ h;rw[ar];exact⟨b,c1,by rw[addr_add]⟩
 ·rename_i cs k j e1 e2;rw[e1,ar]at hx;rw[e2,cD]at hi;obtain⟨b,off,ev,r⟩:=hx;obtain⟨⟨g0,g1⟩,h⟩:=h;refine bf hr (run _ k j ev hi g0 g1) ?_ h;rw[ar];exact⟨b,_,by rw[addr_add],r.drop _⟩
 ·exact h.elim
theorem Xt{t:TypeId}{x:Operand}{i:Nat}{fs:Array Field}{f:Field}(hr:cd base ι S a w st)(ho:o.op=.fieldAddr t x i)(ht:P.underlying t=some (.struct fs))(hf:fs[i]?=some f)
 (hz:P.cellsOf f.type≠0) (hk:fS P f.type=true) (h:bo f.offset (aG st.fr x) fun v=>K v st.h):cv P o base ι S a w st K:=by
 have hx:=hr.eval x;have run:∀(b:Addr),a.eval x=.pointer (some b)→(execOp a.eval o).run P w=.ok (.value (.pointer (some (b.add f.offset)))) w:=by
  intro b ex;simp only[execOp,ho,ex];refine fG ?_;simp only[Instr.fieldAt,acf,run_underlying ht,ace,hf,Instr.sureAddr,acg,fieldPlace,dM hk,hz,if_false]
 unfold bo at h;split at h
 ·rename_i cs e;rw[e,ar]at hx;obtain⟨b,off,ev,r⟩:=hx;refine bf hr (run _ ev) ?_ h;rw[ar];exact⟨b,_,by rw[addr_add],r.drop _⟩
 ·rename_i id off e;rw[e,ar]at hx;obtain⟨b,c1,ev⟩:=hx;refine bf hr (run _ ev) ?_ h;rw[ar];exact⟨b,c1,by rw[addr_add]⟩
 ·exact h.elim
theorem XA{x:Operand}(hr:cd base ι S a w st)(ho:o.op=.nilCheck x)(h:xe (aG st.fr x) fun v=>K v st.h):cv P o base ι S a w st K:=by
 have hx:=hr.eval x;have hx':=hx;unfold xe at h;split at h
 ·rename_i e;rw[e,ar]at hx;obtain⟨b,off,ev,r⟩:=hx;exact bf hr (u:=a.eval x) (by simp[execOp,ho,ev]) hx' h
 ·rename_i e;rw[e,ar]at hx;obtain⟨b,c1,ev⟩:=hx;exact bf hr (u:=a.eval x) (by simp[execOp,ho,ev]) hx' h
 ·rename_i e;rw[e,ar]at hx;obtain⟨vs,us,ev,_⟩:=hx;exact bf hr (u:=a.eval x) (by simp[execOp,ho,ev]) hx' h
 ·exact h.elim
omit [Laid] in
theorem oG{t:TypeId}{cs:List AV}{vs:List Value}{b off:Nat}{K:AV→Prop}(hk:fS P t=true)(r:aE ι S w cs vs)(hc:∀(i:Nat) (v:Value),vs[i]?=some v→w.cell? ⟨b,off+i,none⟩=some v)
 (h:lR (fy P t) (P.cellsOf t) cs K):∃v u,(loadVar t ⟨b,off,none⟩).run P w=.ok u w∧ar ι S w v u∧K v:=by
 unfold loadVar;simp only[acf,vV hk,ace];unfold lR at h;split at h
 ·rename_i hg;rw[hg];have hl:=r.length;have hrun:=run_loadCells_list (P:=P) (w:=w) ⟨b,off,none⟩ (vs.take (P.cellsOf t)) (by
   intro j v e;rw[addr_add];refine hc j v ?_;rw[ON]at e;split at e<;>first|exact e|cases e)
  have hlen:(vs.take (P.cellsOf t)).length=P.cellsOf t:=by simp;omega
  rw[hlen]at hrun;refine⟨_,.agg (vs.take (P.cellsOf t)).toArray, ?_, ?_,h.2⟩
  ·simp only[if_true,acf,dM hk,ace,hrun,acg]
  ·rw[ar];exact⟨_,rfl,r.take _⟩
 ·rename_i hg;rw[hg];simp only[abT,if_false];split at h
  ·rename_i c rest;obtain⟨v,ev,rv⟩:=r.get 0 c rfl;have:=hc 0 v ev;exact⟨c,v,by simp only[run_load];rw[show (⟨b,off,none⟩:Addr)=⟨b,off+0,none⟩ by rfl,this],rv,h⟩
  ·exact h.elim
theorem VN{t:TypeId}{x:Operand}(hr:cd base ι S a w st)(ho:o.op=.load t x)(hk:fS P t=true)(h:ak (fy P t) (P.cellsOf t) (aG st.fr x) st.h fun v=>K v st.h):cv P o base ι S a w st K:=by
 have hx:=hr.eval x;unfold ak at h;split at h
 ·rename_i cs e;rw[e,ar]at hx;obtain⟨b,off,ev,r⟩:=hx;obtain⟨vs,rv,hc⟩:=r.sH;obtain⟨v,u,hrun,rv,k⟩:=oG (P:=P) hk rv hc h;exact bf hr (u:=u) (by simp only[execOp,ho,ev];exact fG (by simp only[Instr.loadAt,Instr.sureAddr,acf,acg,ace,hrun])) rv k
 ·rename_i id off e;rw[e,ar]at hx;obtain⟨b,c1,ev⟩:=hx;split at h
  ·rename_i ah eb;obtain⟨b',arr,fz,k1,k2,k3,k4,k5,k6,k7,k8,k9⟩:=hr.hp.live id ah eb;rw[c1]at k1;cases k1;have hcells:aE ι S w ah.cells (arr.toList.take ah.cells.length):=by
    refine aE.mk (by simp;omega) fun i c v e1 e2=>?_;obtain⟨v',e3,r⟩:=k6 i c e1;rw[ON]at e2;split at e2
    ·simp only[Array.getElem?_toList]at e2;rw[e3]at e2;cases e2;exact r
    ·cases e2
   obtain⟨v,u,hrun,rv,k⟩:=oG (P:=P) (b:=b) (off:=off) hk (hcells.drop off) (by
    intro i v e1;rw[fZ k3];rw[abQ,ON]at e1;split at e1
    ·simpa using e1
    ·cases e1) h
   exact bf hr (u:=u) (by simp only[execOp,ho,ev];exact fG (by simp only[Instr.loadAt,Instr.sureAddr,acf,acg,ace,hrun])) rv k
  ·exact h.elim
 ·exact h.elim
theorem RY{t:TypeId}{x v:Operand}(hr:cd base ι S a w st)(ho:o.op=.store t x v)(hk:fS P t=true)(h:ao (P.cellsOf t) (aG st.fr x) (aG st.fr v) st.h fun h' => K (.v undef) h'):cv P o base ι S a w st K:=by
 have hx:=hr.eval x;have hv:=hr.eval v;unfold ao at h;split at h
 ·rename_i id off e;rw[e,ar]at hx;obtain⟨b,c1,ev⟩:=hx;split at h
  ·rename_i ah eb;obtain⟨⟨g1,g2,g3,g4⟩,h⟩:=h;obtain⟨vs,ecs,rv,one⟩:=u3 hv g4;obtain⟨w',hrun,hE,hH⟩:=uN (P:=P) vs (bh (aG st.fr v)) w st.h hr.hp eb g1 c1 off 0 (by omega) rv one;rw[Nat.add_zero]at hH;refine J0 hr (w':=w') ?_ hE hH (by simp) h;simp only[execOp,ho,ev];refine aa1 ?_;have hl:=rv.length;simp only[Instr.storeAt,Instr.sureAddr,acf,acg,ace,storeVar,dM hk,ecs];rw[if_neg (by simp;omega)];exact hrun
  ·exact h.elim
 ·exact h.elim
theorem Qd{t:TypeId}{x:AV}{u:Value}(hr:cd base ι S a w st)(hrun:(execOp a.eval o).run P w=.ok (.value (.pointer (some ⟨w.heap.size,0,none⟩))) (w.alloc (.cells u.cells t)))(r:ar ι S w x u)
 (h:aV t x st.h K):cv P o base ι S a w st K:=by
 obtain⟨g,h⟩:=h;obtain⟨vs,ecs,rv,one⟩:=u3 r g;have hH:=hr.hp.alloc t (bh x) vs rv (more:=[]) (fz:=(0,0)) (by intro o _ h;omega);rw[abV,←ecs]at hH;refine iH hr hrun (bU.alloc hr.hp.kC (fun b o=>hr.hp.iY b o) _ _) ?_ hH (by simp) h;rw[ar];exact⟨w.heap.size,by rw[gT (by rw[hr.hp.len];exact bY _)];simp[hr.hp.len],rfl⟩
theorem Xr{t:TypeId}{x:Operand}(hr:cd base ι S a w st)(ho:o.op=.box t x)(h:aV t (aG st.fr x) st.h K):cv P o base ι S a w st K:=
 Qd hr (u:=a.eval x) (by simp only[execOp,ho];exact fG (by simp[Instr.box,newVar,newRow])) (hr.eval x) h
theorem RU{t:TypeId}{z:AV}(hr:cd base ι S a w st)(ho:o.op=.alloc t)(hz:jL P t=some z)(h:aV t z st.h K):cv P o base ι S a w st K:=by
 unfold jL at hz;cases hi:P.info? t with
 | none=>rw[hi]at hz;cases hz
 | some i =>
   rw[hi]at hz;simp only[Option.bind_some,abO]at hz;obtain⟨u,hu,rfl⟩:=hz;exact Qd hr (u:=u) (by simp only[execOp,ho];exact fG (by simp[Instr.alloc,zeroValue,nD hi,hu,newVar,newRow])) (tP ι S w u) h
theorem VH{f:Fn}{xs ys:Array Operand}(hr:cd base ι S a w st)(ho:o.op=.makeFunc f xs ys)(h:K (.fn f (xs.toList.map (aG st.fr)) (ys.toList.map (aG st.fr))) st.h):cv P o base ι S a w st K:=by
 refine bf hr (u:=.func f (xs.map a.eval) (ys.map a.eval)) (by simp[execOp,ho,Instr.makeFunc]) ?_ h;rw[ar];have key:∀l:List Operand,aE ι S w (l.map (aG st.fr)) (l.map a.eval):=by
  intro l;induction l with
  | nil=>simp
  | cons x l ih=>simpa using⟨hr.eval x,ih⟩
 exact⟨xs.toList.map a.eval,ys.toList.map a.eval,by congr 1<;>(apply Array.ext';simp),key _,key _⟩
theorem aE.JO(hr:cd base ι S a w st):∀l:List Operand,aE ι S w (l.map (aG st.fr)) (l.map a.eval)
 | []=>by simp
 | x:: l=>by simpa using⟨hr.eval x,aE.JO hr l⟩
omit [Laid] in
theorem vq{c:Call}(ho:o.op=.call c)(hc:c.callee=.builtin .len){n:Nat}(hb:(Builtin.len_ c.argTypes o.type (c.args.map a.eval)).run P w=.ok (.int .i64 n) w):(execOp a.eval o).run P w=.ok (.value (.int .i64 n)) w:=by
 simp only[execOp,ho,resolve,hc,acf,acg,ace,invoke,builtin,hb]
theorem VM{c:Call}{t:TypeId}{x:Operand}(hr:cd base ι S a w st)(ho:o.op=.call c)(hc:c.callee=.builtin .len)(hat:c.argTypes[0]?=some t)(hax:c.args[0]?=some x)
 (ht:P.underlying t=some .string) (h:de (aG st.fr x) fun v=>K v st.h):cv P o base ι S a w st K:=by
 have hx:=hr.eval x;have hax':(c.args.map a.eval)[0]?=some (a.eval x):=by simp[hax]
 unfold de at h;split at h
 ·rename_i l e;rw[e,eK]at hx;refine bf hr (vq ho hc (n:=l.length) ?_) (by simp) (h hx.2);simp only[Builtin.len_,hat,hax',acf,run_underlying ht,ace,hx.1,acg,goInt];rfl
 ·exact h.elim
theorem Xv{c:Call}{t et:TypeId}{x:Operand}(hr:cd base ι S a w st)(ho:o.op=.call c)(hc:c.callee=.builtin .len)(hat:c.argTypes[0]?=some t)(hax:c.args[0]?=some x)
 (ht:P.underlying t=some (.slice et)) (h:br (aG st.fr x) fun v=>K v st.h):cv P o base ι S a w st K:=by
 have hx:=(hr.eval x).nf;have hax':(c.args.map a.eval)[0]?=some (a.eval x):=by simp[hax]
 unfold br at h;split at h
 ·rename_i sz rows e;rw[e,ar]at hx;obtain⟨b,cap,ev,c1,c2,c3⟩:=hx;refine bf hr (vq ho hc (n:=rows.length) ?_) (by simp) (h (by omega));simp only[Builtin.len_,hat,hax',acf,run_underlying ht,ace,ev,acg,goInt]
 ·rename_i id off len sz e;rw[e,ar]at hx;obtain⟨bb,b,cap,n,ty,c1,ev,c2,c3,c4,c5,c6⟩:=hx;refine bf hr (vq ho hc (n:=len) ?_) (by simp) (h (by omega));simp only[Builtin.len_,hat,hax',acf,run_underlying ht,ace,ev,acg,goInt]
 ·rename_i e;rw[e,ar]at hx;obtain⟨b,ev⟩:=hx;refine bf hr (vq ho hc (n:=0) ?_) (by simp) h;simp only[Builtin.len_,hat,hax',acf,run_underlying ht,ace,ev,acg,goInt]
 ·exact h.elim
omit [Laid] in
theorem xY{c:Call}{b:Builtin}{s:Sem Value}{u:Value}{w':World}(ho:o.op=.call c)(hc:c.callee=.builtin b)
 (hb:∀cs,builtin b c.argTypes o.type cs (c.args.map a.eval)=(do pure (.value (←s)))) (hs:s.run P w=.ok u w'):(execOp a.eval o).run P w=.ok (.value u) w':=by
 simp only[execOp,ho,resolve,hc,acf,acg,ace,invoke,hb,hs]
theorem Xx{c:Call}{x y:Operand}(hr:cd base ι S a w st)(ho:o.op=.call c)(hc:c.callee=.builtin .min)(hax:c.args.toList=[x,y])
 (h:nU (aG st.fr x) (aG st.fr y) fun v=>K v st.h):cv P o base ι S a w st K:=by
 have hx:=hr.eval x;have hy:=hr.eval y;unfold nU at h;split at h
 ·rename_i k p k' q e1 e2;rw[e1,cD]at hx;rw[e2,cD]at hy;obtain⟨rfl,h⟩:=h;have hargs:c.args.map a.eval=#[.int k p,.int k q]:=by apply Array.ext';simp[hax,hx,hy]
  exact bf hr (xY ho hc (fun _=>rfl) (by rw[hargs];exact run_min_int2 w _ _ k k p q)) (by simp) h
 ·exact h.elim
theorem Xw{c:Call}{x y:Operand}(hr:cd base ι S a w st)(ho:o.op=.call c)(hc:c.callee=.builtin .max)(hax:c.args.toList=[x,y])
 (h:kA (aG st.fr x) (aG st.fr y) fun v=>K v st.h):cv P o base ι S a w st K:=by
 have hx:=hr.eval x;have hy:=hr.eval y;unfold kA at h;split at h
 ·rename_i k p k' q e1 e2;rw[e1,cD]at hx;rw[e2,cD]at hy;obtain⟨rfl,h⟩:=h;have hargs:c.args.map a.eval=#[.int k p,.int k q]:=by apply Array.ext';simp[hax,hx,hy]
  exact bf hr (xY ho hc (fun _=>rfl) (by rw[hargs];exact run_max_int2 w _ _ k k p q)) (by simp) h
 ·exact h.elim
theorem VP{c:Call}{x y z:Operand}(hr:cd base ι S a w st)(ho:o.op=.call c)(hc:c.callee=.builtin .max)(hax:c.args.toList=[x,y,z])
 (h:kA (aG st.fr x) (aG st.fr y) fun u=>kA u (aG st.fr z) fun v=>K v st.h):cv P o base ι S a w st K:=by
 have hx:=hr.eval x;have hy:=hr.eval y;have hz:=hr.eval z;unfold kA at h;split at h
 ·rename_i k p k' q e1 e2;rw[e1,cD]at hx;rw[e2,cD]at hy;obtain⟨rfl,h⟩:=h;split at h
  ·rename_i k1 p1 k2 q1 e3 e4;cases e3;rw[e4,cD]at hz;obtain⟨rfl,h⟩:=h;have hargs:c.args.map a.eval=#[.int k p,.int k q,.int k q1]:=by apply Array.ext';simp[hax,hx,hy,hz]
   refine bf hr (xY ho hc (fun _=>rfl) (by rw[hargs];exact (show (Builtin.max_ c.argTypes o.type #[.int k p,.int k q,.int k q1]).run P w=.ok (.int k (if q1 > (if q > p then q else p) then q1 else (if q > p then q else p))) w by simp[Builtin.max_,Builtin.max2]))) (by simp) h
  ·exact h.elim
 ·exact h.elim
theorem VE{c:Call}{x:Operand}{f:FuncId}{first cap:List AV}(hr:cd base ι S a w st)(ho:o.op=.call c)(hc:c.callee=.value x)(hx:aG st.fr x=.fn (.func f) first cap)
 (hf:(P.funcs[f]?).any (fun fn=>fn.body.isSome&&fn.name != "runtime.NumGoroutine")=true) (h:bX P f (first++c.args.toList.map (aG st.fr)++cap) st.h K):cv P o base ι S a w st K:=by
 have hv:=hr.eval x;rw[hx,ar]at hv;obtain⟨vs,us,ev,r1,r2⟩:=hv;obtain⟨fn,hfn,hb⟩:∃fn,P.funcs[f]?=some fn∧(fn.body.isSome&&fn.name != "runtime.NumGoroutine")=true:=by
  cases hq:P.funcs[f]? with
  | none=>rw[hq]at hf;cases hf
  | some fn=>rw[hq]at hf;exact⟨fn,rfl,hf⟩
 simp only[NO,bne_iff_ne,ne_eq]at hb;have hargs:aE ι S w (first++c.args.toList.map (aG st.fr)++cap) (vs++c.args.toList.map a.eval++us):=(r1.append (aE.JO hr _)).append r2;have hrun:(execOp a.eval o).run P w=.ok (.enter f (vs++c.args.toList.map a.eval++us).toArray) w:=by
  have e2:(vs.toArray++c.args.map a.eval)++us.toArray=(vs++c.args.toList.map a.eval++us).toArray:=by apply Array.ext';simp
  have hne:(fn.name == "runtime.NumGoroutine")=false:=by simpa using hb.2
  have hbn:fn.body.isNone=false:=by cases hbb:fn.body<;>simp_all
  simp only[execOp,ho,resolve,hc,acf,ev,Deferred.ofValue,acg,ace,invoke,e2,callFunc,run_program,hfn,hne,hbn,abT,if_false]
 intro Q;unfold Oper.wp;rw[hrun,Oper.upon_enter];refine (h base ι S w _ hargs hr.hp).mono ?_;rintro e w' ⟨v,ι',S',r,h',rfl,hE,rv,hH,hl,k⟩;refine⟨ι',S',r,h', ?_, ?_,hl,k⟩
 ·rw[hr.hp.len];exact hE
 ·have:cd base ι' S' a w' ⟨st.n,st.fr,h'⟩:=⟨hr.df,hr.sz,dD.fU hE (by rw[hr.hp.len];exact bY _) hr.fr,hH⟩;exact this.put o.dst rv
end
/-! ### Built values -/
omit [Laid] in
theorem Lm:∀{cs:List AV} {us:List Value} (cells:List AV) (vs:List Value) (o:Nat),aE ι S w cells vs→aE ι S w cs us→o+cs.length≤cells.length →
 ∃vs',(us.toArray.zipIdx.foldl (fun cs (c,j)=>cs.setIfInBounds (o+j) c) vs.toArray)=vs'.toArray∧aE ι S w (cf cells o cs) vs':=by
 intro cs;have key:∀(cs:List AV) (us:List Value) (cells:List AV) (vs:List Value) (o k:Nat),aE ι S w cells vs→aE ι S w cs us→o+k+cs.length≤cells.length →
  ∃vs',((us.zipIdx k).foldl (fun (cs:Array Value) (c:Value×Nat)=>cs.setIfInBounds (o+c.2) c.1) vs.toArray)=vs'.toArray∧aE ι S w (cf cells (o+k) cs) vs':=by
  intro cs;induction cs with
  | nil=>intro us cells vs o k h1 h2 _;simp at h2;subst h2;exact⟨vs,rfl,h1⟩
  | cons c cs ih =>
    intro us cells vs o k h1 h2 hl;cases us with
    | nil=>simp at h2
    | cons u us =>
      simp only[bN]at h2;simp only[abL]at hl;simp only[List.zipIdx_cons,List.foldl_cons];have e:vs.toArray.setIfInBounds (o+k) u=(vs.set (o+k) u).toArray:=by simp
      rw[e];obtain⟨vs',e1,e2⟩:=ih us (cells.set (o+k) c) (vs.set (o+k) u) o (k+1) (h1.set _ _ _ h2.1) h2.2 (by simp;omega);exact⟨vs',e1,e2⟩
 intro us cells vs o h1 h2 hl;obtain⟨vs',e1,e2⟩:=key cs us cells vs o 0 h1 h2 hl;refine⟨vs', ?_,e2⟩;rw[←e1];simp[←Array.foldl_toList]
omit [Laid] in
theorem rU(place:Nat→Option (Nat×Nat)):∀(parts:List (Nat×AV×Value)) (cells:List AV) (vs:List Value) (r:List AV),aE ι S w cells vs →
 (∀p∈parts,ar ι S w p.2.1 p.2.2∧(place p.1).isSome) →
 dS cells (parts.map fun p=>(((place p.1).getD (0,0)).1,((place p.1).getD (0,0)).2,p.2.1))=some r →
 ∃vs',Instr.fill place vs.toArray (parts.map fun p=>(p.1,p.2.2))=some vs'.toArray∧aE ι S w r vs'
 | [],cells,vs,r,h1,_,h=>by
   simp only[List.map_nil,dS,On]at h;subst h;exact⟨vs,rfl,h1⟩
 | (i,x,v):: parts,cells,vs,r,h1,hp,h=>by
  obtain⟨hx,hi⟩:=hp (i,x,v) (by simp);obtain⟨⟨off,size⟩,hpl⟩:=Option.isSome_iff_exists.1 hi;simp only[GO,dS,hpl,Option.getD_some]at h;split at h
  ·rename_i hc;obtain⟨c1,c2,c3⟩:=hc;obtain⟨us,e1,r1,one⟩:=u3 hx c3;dsimp only at c1 c3 e1 r1;obtain⟨vs',e2,r2⟩:=Lm cells vs off h1 r1 (by omega);obtain⟨vs'',e3,r3⟩:=rU place parts _ vs' r r2 (fun p q=>hp p (by simp[q])) h;refine⟨vs'', ?_,r3⟩;simp only[GO,Instr.fill,hpl,e1];have l1:=r1.length;have l2:=h1.length;have l3:us.toArray.size=us.length:=by simp
   rw[if_neg (by simp;omega),e2];exact e3
  ·cases h
omit [Laid] in
theorem Bo{w:World}(fs:List Field)(h:fs.all (fun f=>fS P f.type)=true):
 (fs.mapM (fun f=>(do pure (f.offset,←sizeOf f.type):Sem (Nat×Nat)))).run P w=.ok (fs.map fun f=>(f.offset,P.cellsOf f.type)) w:=by
 induction fs with
 | nil=>rfl
 | cons f fs ih =>
   simp only[acd,NO]at h;simp only[List.mapM_cons,acf,dM h.1,ace,acg,ih h.2,GO]
omit [Laid] in
def La(x:Value):bh (pW x)=[pW x]:=by
 unfold pW;split
 ·split<;>rfl
 ·rfl
omit [Laid] in
def uc(z:Value):∃vs:List Value,z.cells=vs.toArray∧∀ι S w,aE ι S w (bh (kD z)) vs:=by
 have one:∀x:Value,∀ι S w,aE ι S w (bh (pW x)) [x]:=fun x ι S w=>by
  rw[La];simpa using u2 ι S w x
 cases z
 case agg cs =>
  refine⟨cs.toList,by simp[Value.cells],fun ι S w=>?_⟩;have:=tP ι S w (.agg cs);simp only[kD]at this ⊢;rw[ar]at this;obtain⟨vs,e,r⟩:=this;simp only[Value.agg.injEq]at e;subst e;simpa[bh]using r
 all_goals exact⟨[_],rfl,fun ι S w=>by simp only[kD];exact one _ ι S w⟩
omit [Laid] in
def BA(h:jL P t=some z):∃u,(∀w,(zeroValue t).run P w=.ok u w)∧z=kD u:=by
 unfold jL at h;cases hi:P.info? t with
 | none=>rw[hi]at h;cases h
 | some i =>
   rw[hi]at h;simp only[Option.bind_some,abO]at h;obtain⟨u,hu,rfl⟩:=h;exact⟨u,fun w=>by simp[zeroValue,nD hi,hu],rfl⟩
section
variable {P:Program} {o:Oper} {base:Nat} {ι:List Ix} {S:aZ} {a:Act} {w:World} {st:St} {K:AV→aa→Prop}
def parts_eq(hr:cd base ι S a w st)(place:Nat→Option (Nat×Nat))(parts:Array (Nat×Operand)):
 (∀p∈(parts.toList.map fun p=>(p.1,aG st.fr p.2,a.eval p.2)),ar ι S w p.2.1 p.2.2)∧(parts.map fun (i,x)=>(i,a.eval x)).toList=(parts.toList.map fun p=>(p.1,aG st.fr p.2,a.eval p.2)).map fun p=>(p.1,p.2.2):=by
 refine⟨fun p hp=>?_,by simp⟩;simp only[abP]at hp;obtain⟨q,_,rfl⟩:=hp;exact hr.eval q.2
def OZ{parts:Array (Nat×Operand)}{fs:Array Field}(hr:cd base ι S a w st)(ho:o.op=.build t parts)(ht:P.underlying t=some (.struct fs))(hz:jL P t=some z)
 (hk:fs.toList.all (fun f=>fS P f.type)=true) (hp:parts.toList.all (fun p=>(fs[p.1]?).isSome)=true)
 (h:aX z (parts.toList.map fun p=>(((fs[p.1]?).map (·.offset)).getD 0,((fs[p.1]?).map (fun f=>P.cellsOf f.type)).getD 0,aG st.fr p.2)) fun v=>K v st.h):cv P o base ι S a w st K:=by
 obtain⟨u,hu,rfl⟩:=BA hz;obtain⟨vs,ez,rz⟩:=uc u;unfold aX at h;split at h
 ·rename_i cs e
  let places:Array (Nat×Nat):=(fs.toList.map fun f=>(f.offset,P.cellsOf f.type)).toArray
  obtain⟨q1,q2⟩:=parts_eq hr (places[·]?) parts;have hpl:∀i:Nat,places[i]?=(fs[i]?).map fun f=>(f.offset,P.cellsOf f.type):=fun i=>by simp[places]
  obtain⟨vs',e1,r1⟩:=rU (ι:=ι) (S:=S) (w:=w) (places[·]?) (parts.toList.map fun p=>(p.1,aG st.fr p.2,a.eval p.2)) (bh (kD u)) vs cs (rz ι S w) (fun p hpm=>⟨q1 p hpm,by
   simp only[abP]at hpm;obtain⟨q,hq,rfl⟩:=hpm;have:=At.1 hp q hq;rw[hpl];simpa using this⟩) (by
   rw[←e,List.map_map]
   congr 1
   refine List.map_congr_left fun p hpm=>?_;have:=At.1 hp p hpm;simp only[Function.comp,hpl];obtain⟨f,hf⟩:=Option.isSome_iff_exists.1 this;simp[hf])
  refine bf hr (u:=.agg vs'.toArray) ?_ (by rw[ar];exact⟨vs',rfl,r1⟩) h;simp only[execOp,ho];refine fG ?_;have hm:(fs.mapM (fun f=>(do pure (f.offset,←sizeOf f.type):Sem (Nat×Nat)))).run P w=.ok places w:=by
   rw[←Array.toArray_toList (xs:=fs)];have:=Bo (P:=P) (w:=w) fs.toList hk;rw[List.mapM_toArray];simp only[Sem.run_map,this,ace,places]
  simp only[Instr.build,acf,hu,ace,run_underlying ht,hm,ez,q2,e1,acg]
 ·exact h.elim
def OY{parts:Array (Nat×Operand)}(hr:cd base ι S a w st)(ho:o.op=.build t parts)(ht:P.underlying t=some (.array n e))(hz:jL P t=some z)
 (hk:fS P e=true) (h:aX z (parts.toList.map fun p=>(p.1*P.cellsOf e,P.cellsOf e,aG st.fr p.2)) fun v=>K v st.h):cv P o base ι S a w st K:=by
 obtain⟨u,hu,rfl⟩:=BA hz;obtain⟨vs,ez,rz⟩:=uc u;unfold aX at h;split at h
 ·rename_i cs e';obtain⟨q1,q2⟩:=parts_eq hr (fun i=>some (i*P.cellsOf e,P.cellsOf e)) parts;obtain⟨vs',e1,r1⟩:=rU (ι:=ι) (S:=S) (w:=w) (fun i=>some (i*P.cellsOf e,P.cellsOf e)) (parts.toList.map fun p=>(p.1,aG st.fr p.2,a.eval p.2)) (bh (kD u)) vs cs (rz ι S w) (fun p hpm=>⟨q1 p hpm,rfl⟩) (by
   rw[←e',List.map_map];rfl)
  refine bf hr (u:=.agg vs'.toArray) ?_ (by rw[ar];exact⟨vs',rfl,r1⟩) h;simp only[execOp,ho];refine fG ?_;simp only[Instr.build,acf,hu,ace,run_underlying ht,dM hk,ez,q2,e1,acg]
 ·exact h.elim
end
/-! ### Structs and arrays compared -/
omit [Laid] in
theorem vp:∀{ks ks':List Nat} {xs ys:List AV} {r:Bool},jn (ks++ks') xs ys=some r →
 ∃p q,jn ks (xs.take ks.length) (ys.take ks.length)=some p∧jn ks' (xs.drop ks.length) (ys.drop ks.length)=some q∧r=(p&&q)
 | [],ks',xs,ys,r,h=>⟨true,r,rfl,by simpa using h,by simp⟩
 | k:: ks,ks',[],ys,r,h=>by simp[jn]at h
 | k:: ks,ks',x:: xs,[],r,h=>by simp[jn]at h
 | k:: ks,ks',x:: xs,y:: ys,r,h=>by
   simp only[acs,jn]at h;split at h
   ·rename_i p q e1 e2;obtain⟨p',q',e3,e4,e5⟩:=vp e2;simp only[On]at h;exact⟨p&&p',q',by simp[jn,e1,e3],by simpa using e4,by rw[←h,e5,Bool.and_assoc]⟩
   ·cases h
omit [Laid] in
theorem mI:∀{ks:List Nat} {xs ys:List AV} {r:Bool},jn ks xs ys=some r→xs.length=ks.length∧ys.length=ks.length
 | [],[],[],_,_=>⟨rfl,rfl⟩
 | [],x:: xs,_,_,h=>by simp[jn]at h
 | [],[],y:: ys,_,h=>by simp[jn]at h
 | k:: ks,[],_,_,h=>by simp[jn]at h
 | k:: ks,x:: xs,[],_,h=>by simp[jn]at h
 | k:: ks,x:: xs,y:: ys,r,h=>by
   simp only[jn]at h;split at h
   ·rename_i e1 e2;have:=mI e2;simp[this.1,this.2]
   ·cases h
def iu(P:Program)(t:TypeId)(vs:List Value):Value:=if fy P t then .agg vs.toArray else vs.headD undef
omit [Laid] in
theorem pL{w:World}{vs:List Value}{off:Nat}(hk:fS P t=true)(hl:off+P.cellsOf t≤vs.length)(h1:fy P t=false→P.cellsOf t=1):
 (part t vs.toArray off).run P w=.ok (iu P t ((vs.drop off).take (P.cellsOf t))) w:=by
 unfold part iu;simp only[acf,vV hk,ace];cases hg:fy P t with
 | true =>
   simp only[if_true,acf,dM hk,ace,acg]
   congr 2
   apply Array.ext';simp[List.extract_eq_take_drop,Nat.add_sub_cancel_left]
 | false =>
   have h1:=h1 hg;simp only[abT,if_false];have hlt:off<vs.length:=by omega
   have e2:vs.toArray[off]?=some vs[off]:=by simp[hlt]
   have e:(vs.drop off).take 1=[vs[off]]:=by rw[acm hlt];rfl
   simp only[e2,h1,e];rfl
omit [Laid] in
def mL{ks:List Nat}(h:mJ P d t=some ks):fS P t=true∧(fy P t=false→ks.length=1):=by
 cases d with
 | zero=>simp[mJ]at h
 | succ d =>
   unfold mJ at h;split at h
   ·rename_i hk;refine⟨hk,fun hg=>?_⟩;unfold fy at hg;split at h<;>rename_i e<;>(try rw[e]at hg)<;>(try simp only[rY,Bool.true_eq_false]at hg)<;>(try (simp only[On]at h;subst h;rfl))<;>cases h
   ·cases h
omit [Laid] in
theorem Dc{P:Program}{g:TypeId→Option (List Nat)}{D:Nat}{xs ys:List AV}{vs us:List Value}(hx:aE ι S w xs vs)(hy:aE ι S w ys us)
 (ih:∀t ks,g t=some ks→fS P t=true∧(fy P t=false→ks.length=1)∧∀xs ys vs us r,aE ι S w xs vs→aE ι S w ys us→jn ks xs ys=some r→(Op.equalIn D t (iu P t vs) (iu P t us)).run P w=.ok r w) :
 ∀(fs:List Field) (o:Nat) (ks:List Nat) (r:Bool),uz g P o fs=some ks→jn ks (xs.drop o) (ys.drop o)=some r→(Op.eqFields D vs.toArray us.toArray fs).run P w=.ok r w
 | [],o,ks,r,h,k=>by
   simp only[uz,On]at h;subst h;have:r=true:=by
    cases hxs:xs.drop o<;>cases hys:ys.drop o<;>rw[hxs,hys]at k<;>simp[jn]at k;first|exact k|exact k.symm
   subst this;rfl
 | f:: fs,o,ks,r,h,k=>by
   simp only[uz]at h;split at h
   ·rename_i hc;obtain⟨ho,hn⟩:=hc;cases hg:g f.type with
    | none=>rw[hg]at h;cases h
    | some k1 =>
      rw[hg]at h;simp only[Option.bind_some]at h;split at h
      ·rename_i hz;cases hf:uz g P (o+k1.length) fs with
       | none=>rw[hf]at h;cases h
       | some k2 =>
         rw[hf]at h;simp only[acu,On]at h;subst h;obtain⟨p,q,e1,e2,e3⟩:=vp k;obtain⟨t1,t2,t3⟩:=ih f.type k1 hg;have l1:=(mI e1).1;have l2:=(mI e1).2;have lx:=hx.length;have ly:=hy.length;simp only[abS,List.length_drop]at l1 l2;obtain⟨hz,hz0⟩:=hz;have hpx:o+P.cellsOf f.type≤vs.length:=by omega
         have hpy:o+P.cellsOf f.type≤us.length:=by omega
         have h1:fy P f.type=false→P.cellsOf f.type=1:=fun q=>by rw[hz];exact t2 q
         have hq:=t3 _ _ _ _ p ((hx.drop o).take k1.length) ((hy.drop o).take k1.length) e1;have rec':=Dc hx hy ih fs (o+k1.length) k2 q hf (by simpa[List.drop_drop]using e2);simp only[Op.eqFields,ho];rw[if_pos hn];simp only[acf,pL (P:=P) (w:=w) t1 hpx h1,pL (P:=P) (w:=w) t1 hpy h1,ace,hz,hq,Sem.run_ite];cases p with
         | true=>simp only[Bool.not_true,abT,if_false,rec'];rw[e3];rfl
         | false=>simp only[Bool.not_false,if_true,acg];rw[e3];rfl
      ·cases h
   ·cases h
omit [Laid] in
def Q0{ks:List Nat}:∀{n:Nat} {xs ys:List AV} {r:Bool},jn (CB (n+1) ks) xs ys=some r →
 ∃p q,jn ks (xs.take ks.length) (ys.take ks.length)=some p∧jn (CB n ks) (xs.drop ks.length) (ys.drop ks.length)=some q∧r=(p&&q):=fun h=>vp h
omit [Laid] in
theorem EZ{P:Program}{D:Nat}{e:TypeId}{ks:List Nat}{xs ys:List AV}{vs us:List Value}(hx:aE ι S w xs vs)(hy:aE ι S w ys us)
 (hk:fS P e=true) (h1:fy P e=false→ks.length=1) (hz:P.cellsOf e=ks.length) (hz0:0<ks.length)
 (ih:∀xs ys vs us r,aE ι S w xs vs→aE ι S w ys us→jn ks xs ys=some r→(Op.equalIn D e (iu P e vs) (iu P e us)).run P w=.ok r w) :
 ∀(n s:Nat) (r:Bool),jn (CB n ks) (xs.drop (s*ks.length)) (ys.drop (s*ks.length))=some r →
  (forIn (m:=Sem) (List.range' s n) ((none,()):Option Bool×Unit) (fun i _=>do
   let a ←part e vs.toArray (i*ks.length)
   let b ←part e us.toArray (i*ks.length)
   let r ←Op.equalIn D e a b
   if (!r)=true then pure (.done (some false,())) else pure (.yield (none,())))).run P w=.ok (if r then (none,()) else (some false,())) w
 | 0,s,r,h=>by
   have:r=true:=by
    cases hxs:xs.drop (s*ks.length)<;>cases hys:ys.drop (s*ks.length)<;>rw[hxs,hys]at h<;>simp[jn,CB]at h;first|exact h|exact h.symm
   subst this;rfl
 | n+1,s,r,h=>by
   obtain⟨p,q,e1,e2,e3⟩:=Q0 h;have l1:=(mI e1).1;have l2:=(mI e1).2;have lx:=hx.length;have ly:=hy.length;simp only[abS,List.length_drop]at l1 l2;have hpx:s*ks.length+P.cellsOf e≤vs.length:=by omega
   have hpy:s*ks.length+P.cellsOf e≤us.length:=by omega
   have h1':fy P e=false→P.cellsOf e=1:=fun q=>by rw[hz];exact h1 q
   have hq:=ih _ _ _ _ p ((hx.drop (s*ks.length)).take ks.length) ((hy.drop (s*ks.length)).take ks.length) e1;have rec':=EZ hx hy hk h1 hz hz0 ih n (s+1) q (by rw[acr,Nat.one_mul];simpa[List.drop_drop]using e2);rw[List.range'_succ];simp only[List.forIn_cons,acf,pL (P:=P) (w:=w) hk hpx h1',pL (P:=P) (w:=w) hk hpy h1',ace,hz,hq,Sem.run_ite];cases p with
   | true=>simp only[Bool.not_true,abT,if_false,acg,ace,rec'];rw[e3];rfl
   | false=>simp only[Bool.not_false,if_true,acg,ace];rw[e3];rfl
omit [Laid] in
theorem Ll:∀(d:Nat) (t:TypeId) (ks:List Nat),mJ P d t=some ks→∀(D:Nat),d≤D→∀(xs ys:List AV) (vs us:List Value) (r:Bool),aE ι S w xs vs→aE ι S w ys us →
 jn ks xs ys=some r→(Op.equalIn D t (iu P t vs) (iu P t us)).run P w=.ok r w
 | 0,t,ks,h,_,_,_,_,_,_,_,_,_,_=>by simp[mJ]at h
 | d+1,t,ks,h,0,hD,_,_,_,_,_,_,_,_=>by omega
 | d+1,t,ks,h,D+1,hD,xs,ys,vs,us,r,hx,hy,hr=>by
   have ih:=fun t ks h=>Ll (P:=P) (ι:=ι) (S:=S) (w:=w) d t ks h D (by omega);obtain⟨hok,hone⟩:=mL h;unfold mJ at h;rw[if_pos hok]at h;have scalar:∀k:Nat,ks=[k]→fy P t=false→∃x y u v,EY k x y=some r∧ar ι S w x u∧ar ι S w y v∧iu P t vs=u∧iu P t us=v:=by
    intro k hks hg;subst hks;have l:=mI hr
    match xs,ys,vs,us,l,hx,hy,hr with
    | [x],[y],u:: vs',v:: us',_,hx,hy,hr =>
      simp only[bN]at hx hy;simp only[jn]at hr;split at hr
      ·rename_i a b e1 e2;simp only[On]at hr e2;subst e2;simp only[Bool.and_true]at hr;subst hr;exact⟨x,y,u,v,e1,hx.1,hy.1,by simp[iu,hg],by simp[iu,hg]⟩
      ·cases hr
    | [x],[y],[],_,_,hx,_,_=>simp at hx
    | [x],[y],_:: _,[],_,_,hy,_=>simp at hy
   split at h
   ·rename_i e;obtain⟨x,y,u,v,e1,rx,ry,rfl,rfl⟩:=scalar 0 (by simpa using h.symm) (by simp[fy,e,rY]);unfold EY at e1;split at e1<;>first|(exfalso;omega)|skip
    ·simp only[cD]at rx ry;simp only[On]at e1;rw[rx,ry,←e1];exact run_equalIn_bool' w D t _ _ e
    ·cases e1
   ·rename_i k e;obtain⟨x,y,u,v,e1,rx,ry,rfl,rfl⟩:=scalar 1 (by simpa using h.symm) (by simp[fy,e,rY]);unfold EY at e1;split at e1<;>first|(exfalso;omega)|skip
    ·simp only[cD]at rx ry;split at e1
     ·rename_i hk;subst hk;simp only[On]at e1;rw[rx,ry,run_equalIn_int w D t _ k _ _ e,←e1];rfl
     ·cases e1
    ·cases e1
   ·rename_i e;obtain⟨x,y,u,v,e1,rx,ry,rfl,rfl⟩:=scalar 2 (by simpa using h.symm) (by simp[fy,e,rY]);unfold EY at e1;split at e1<;>first|(exfalso;omega)|skip
    ·rename_i _ _ p q _;simp only[eK]at rx ry;simp only[On]at e1;rw[rx.1,ry.1,run_equalIn_string w D t _ _ e,←e1];simp only[ByteArray.toList_mk]
     congr 1
     by_cases hpq:p=q<;>simp[hpq]
    ·cases e1
   ·rename_i fs e;split at h
    ·cases h
    ·rename_i hsi;have hg:fy P t=true:=by simp[fy,e,rY]
     have hf:P.fieldsOf t=fs:=by simp[Program.fieldsOf,e]
     simp only[iu,hg,if_true];rw[run_equalIn_struct w D t _ _ (by rw[hf];exact e) (by simpa using hsi),hf];exact Dc hx hy (fun t ks h=>⟨(mL h).1,(mL h).2,fun xs ys vs us r a b c=>ih t ks h xs ys vs us r a b c⟩) fs.toList 0 ks r h (by simpa using hr)
   ·rename_i n el e;cases hf:mJ P d el with
    | none=>rw[hf]at h;cases h
    | some k1 =>
      rw[hf]at h;simp only[Option.bind_some]at h;split at h
      ·rename_i hz;simp only[On]at h;subst h;have hg:fy P t=true:=by simp[fy,e,rY]
       simp only[iu,hg,if_true];have key:=EZ hx hy (mL hf).1 (mL hf).2 hz.1 hz.2 (fun xs ys vs us r a b c=>ih el k1 hf xs ys vs us r a b c) n 0 r (by simpa using hr);simp only[Op.equalIn,acf,run_underlying e,ace,dM (mL hf).1,hz.1];have hfor:∀(f:Nat→Option Bool×Unit→Sem (ForInStep (Option Bool×Unit))),forIn (m:=Sem) [:n] ((none,()):Option Bool×Unit) f=forIn (List.range' 0 n) ((none,()):Option Bool×Unit) f:=fun f=>by
        simp[Std.Legacy.Range.forIn_eq_forIn_range',Std.Legacy.Range.size]
       rw[hfor,key];cases r<;>rfl
      ·cases h
   ·cases h
end
end Go.Aw
end
