/-
 Abstract values for a Go walk: what a value of the model stands for,in a memory of which only the cells that are never written again are told;with the rules by which the model's own wp follows from a condition on abstract values alone.
 No conditions.
-/
import Derived.WalkKit
import Derived.Deep.Quiet
import Derived.Stop.Asserts
import Derived.WalkSpells
import Derived.WalkLawsBesides
import Derived.Laws.StructEq
set_option linter.unusedVariables false
set_option linter.unusedSimpArgs false
set_option linter.unusedSectionVars false
set_option linter.defProp false
set_option autoImplicit true
set_option maxRecDepth 1000000
set_option maxHeartbeats 16000000
noncomputable section
namespace Go.Aw
section
abbrev aS:=@Nat.le_refl
abbrev bY:=@List.getElem?_eq_getElem
abbrev dO:=@List.getElem?_eq_some_iff
abbrev eQ:=@List.mem_of_getElem?
abbrev gE:=@List.getElem?_append_left
abbrev iD:=@List.getElem?_append_right
abbrev iF:=@List.getElem?_set_self
abbrev iN:=@List.getElem?_set_ne
abbrev iS:=@List.getElem?_map
abbrev lE:=@List.getElem?_eq_none
abbrev lT:=@Nat.eq_of_beq_eq_true
abbrev nE:=@Nat.le_of_ble_eq_true
abbrev nO:=@List.getD_eq_getElem?_getD
abbrev oF:=@decide_eq_false
abbrev tO:=@decide_eq_true
abbrev uP:=@of_decide_eq_true
abbrev At:=@of_decide_eq_false
abbrev AS:=@Nat.lt_or_ge
abbrev AT:=@List.all_eq_true
abbrev By:=@Array.getElem?_eq_some_iff
abbrev BY:=@List.length_append
abbrev DO:=@List.take_add_one
abbrev Gt:=@List.take_length
abbrev GO:=@Option.some.inj
abbrev ID:=@List.mem_range
abbrev IF:=@List.map_cons
abbrev IN:=@List.mem_append
abbrev IS:=@List.mem_cons
abbrev Lt:=@List.set_append_right
abbrev Mk:=@List.set_append_left
abbrev MK:=@List.mem_cons_of_mem
abbrev NO:=@Int.toNat_natCast
abbrev Of:=@List.take_of_length_le
abbrev On:=@Bool.and_eq_true
abbrev OF:=@decide_eq_true_eq
abbrev ON:=@Option.some.injEq
abbrev To:=@List.getElem?_take
abbrev TO:=@List.append_assoc
abbrev Up:=@List.mem_singleton
abbrev UP:=@Nat.lt_of_lt_of_le
abbrev aaa:=@Array.getElem?_eq_getElem
abbrev aab:=@List.length_cons
abbrev aac:=@List.length_map
abbrev aae:=@Option.map_eq_some_iff
abbrev aaf:=@List.mem_map
abbrev aag:=@List.getElem?_drop
abbrev aah:=@List.getElem?_range
abbrev aai:=@List.length_take
abbrev aaj:=@Bool.false_eq_true
abbrev aak:=@Prod.mk.injEq
abbrev aal:=@List.append_nil
abbrev aam:=@List.set_set
abbrev aan:=@List.length_set
abbrev aao:=@Nat.zero_le
abbrev aap:=@Nat.not_lt_zero
abbrev aaq:=@Nat.zero_add
abbrev aas:=@List.foldl_append
abbrev aat:=@Nat.le_trans
abbrev aaw:=@List.getElem_mem
abbrev aay:=@List.mem_filter
abbrev aaz:=@List.filter_append
abbrev aaA:=@List.mem_filterMap
abbrev aaC:=@List.all_cons
abbrev aaD:=@Result.andThen_ok
abbrev aaE:=@Sem.run_bind
abbrev aaF:=@Sem.run_pure
abbrev aaH:=@Bool.or_eq_true
abbrev aaI:=@Bool.not_eq_true'
abbrev aaJ:=@List.mem_cons_self
abbrev aaK:=@List.drop_eq_getElem_cons
abbrev aaM:=@List.flatten_cons
abbrev aaN:=@List.length_nil
abbrev aaO:=@List.take_append_of_le_length
abbrev aaP:=@Nat.add_mul
abbrev aaQ:=@List.cons_append
abbrev aaR:=@Option.map_some
abbrev aaS:=@Bool.or_eq_false_iff
abbrev aaT:=@Array.getElem?_eq_none
open Go Go.RowKit
inductive AV where
 | v (x:Value)
 | str (l:List UInt8)
 | any
 | agg (cs:List AV)
 | aw (cs:List AV)
 | emp
 | sl (sz:Nat) (rows:List (List AV))
 | sb (id sz:Nat) (rows:List (List AV))
 | ip (cs:List AV)
 | own (id off len sz:Nat)
 | op (id off:Nat)
 | fn (f:Fn) (first cap:List AV)
 | fJ (t:TypeId) (x:AV)
 | mp (id:Nat)
 deriving Inhabited
structure jl where
 ty:TypeId
 cells:List AV
 wr:Bool
inductive aY where
 | ak (b:jl)
 | tok (e sz n:Nat)
 | dead
 | mp (c:Nat) (es:List (Nat×AV×AV))
 | it (m s:Nat) (sn:List Nat) (l:Nat)
abbrev aa:=List aY
inductive Ix where
 | ak (b:Nat)
 | tok (n:Nat) (v:Value)
abbrev i_(n:Int):AV:=.v (.int .i64 n)
abbrev b_(b:Bool):AV:=.v (.bool b)
abbrev bj:=Nat→Nat→Prop
section
variable (ι:List Ix) (S:bj) (w:World)
mutual
def ax:AV→Value→Prop
 | .v x,y=>y=x
 | .str l,y=>y=.string ⟨l.toArray⟩∧l.length≤maxLen
 | .any,_=>True
 | .agg cs,y=>∃vs:List Value,y=.agg vs.toArray∧aD cs vs
 | .aw cs,y=>∃vs:List Value,y=.tuple vs.toArray∧aD cs vs
 | .emp,y=>∃a,y=.slice a 0 0
 | .sl sz rows,y=>∃a cap,y=.slice a rows.length cap∧rows.length≤cap∧cap≤maxLen∧(rows=[]∨∃b off,a=some ⟨b,off,none⟩∧cg sz rows b off)
 | .sb id sz rows,y=>(∃a cap,y=.slice a rows.length cap∧rows.length≤cap∧cap≤maxLen∧(rows=[]∨∃b off,a=some ⟨b,off,none⟩∧cg sz rows b off))∧∃n v,ι[id]?=some (.tok n v)∧rows.length≤n∧(n=rows.length→y=v)
 | .ip cs,y=>∃b off,y=.pointer (some ⟨b,off,none⟩)∧bI cs b off
 | .own id off len sz,y=>∃b a cap n ty,ι[id]?=some (.ak b)∧y=.slice a len cap∧len≤cap∧cap≤maxLen∧(cap=0∨a=some ⟨b,off,none⟩)∧w.shape? b=some (ty,n)∧off+cap*sz≤n
 | .op id off,y=>∃b,ι[id]?=some (.ak b)∧y=.pointer (some ⟨b,off,none⟩)
 | .fn f xs ys,y=>∃vs us:List Value,y=.func f vs.toArray us.toArray∧aD xs vs∧aD ys us
 | .fJ t x,y=>∃v,y=.iface t v∧ax x v
 | .mp id,y=>∃b,ι[id]?=some (.ak b)∧y=.map (some b)
def aD:List AV→List Value→Prop
 | [],vs=>vs=[]
 | a:: as_,vs=>∃u us,vs=u:: us∧ax a u∧aD as_ us
def bI:List AV→Nat→Nat→Prop
 | [],_,_=>True
 | c:: cs,b,off=>(∃u,w.cell? ⟨b,off,none⟩=some u∧S b off∧ax c u)∧bI cs b (off+1)
def cg(sz:Nat):List (List AV)→Nat→Nat→Prop
 | [],_,_=>True
 | r:: rs,b,off=>r.length=sz∧bI r b off∧cg sz rs b (off+sz)
end
end
section
variable {ι:List Ix} {S:bj} {w:World}
@[simp] theorem cE(x y:Value):ax ι S w (.v x) y↔y=x:=by simp[ax]
@[simp] theorem Zd(y:Value):ax ι S w .any y↔True:=by simp[ax]
@[simp] theorem dG(l:List UInt8)(y:Value):ax ι S w (.str l) y↔y=.string ⟨l.toArray⟩∧l.length≤maxLen:=by simp[ax]
@[simp] theorem di(vs:List Value):aD ι S w [] vs↔vs=[]:=by simp[aD]
@[simp] theorem bL(a:AV)(as_:List AV)(v:Value)(vs:List Value):aD ι S w (a:: as_) (v:: vs)↔ax ι S w a v∧aD ι S w as_ vs:=by
 rw[aD];constructor
 ·rintro⟨u,us,e,h1,h2⟩;simp only[List.cons.injEq]at e;obtain⟨rfl,rfl⟩:=e;exact⟨h1,h2⟩
 ·rintro⟨h1,h2⟩;exact⟨_,_,rfl,h1,h2⟩
@[simp] theorem Qg(a:AV)(as_:List AV):¬aD ι S w (a:: as_) []:=by
 rw[aD];rintro⟨u,us,e,_⟩;cases e
theorem aD.length:∀{as_:List AV} {vs:List Value},aD ι S w as_ vs→as_.length=vs.length
 | [],vs,h=>by simp at h;simp[h]
 | a:: as_,[],h=>by simp at h
 | a:: as_,v:: vs,h=>by simp at h;simp[aD.length h.2]
theorem aD.get:∀{as_:List AV} {vs:List Value},aD ι S w as_ vs→∀(i:Nat) (a:AV),as_[i]?=some a→∃v,vs[i]?=some v∧ax ι S w a v
 | [],vs,h,i,a,e=>by simp at e
 | a:: as_,[],h,_,_,_=>by simp at h
 | a:: as_,v:: vs,h,0,x,e=>by simp at e h;subst e;exact⟨v,by simp,h.1⟩
 | a:: as_,v:: vs,h,i+1,x,e=>by simp at e h;simpa using h.2.get i x e
def aD.get':∀{as_:List AV} {vs:List Value},aD ι S w as_ vs→∀(i:Nat) (v:Value),vs[i]?=some v→∃a,as_[i]?=some a∧ax ι S w a v:=by
 intro as_ vs h i v e;have hl:=h.length;obtain⟨hi,_⟩:=dO.1 e;have:as_[i]?=some as_[i]:=bY (by omega);obtain⟨u,hu,hr⟩:=h.get i _ this;rw[e]at hu;cases hu;exact⟨_,this,hr⟩
theorem aD.set:∀{as_:List AV} {vs:List Value},aD ι S w as_ vs→∀(i:Nat) (a:AV) (v:Value),ax ι S w a v→aD ι S w (as_.set i a) (vs.set i v)
 | [],vs,h,i,a,v,_=>by simp at h;subst h;simp
 | a:: as_,[],h,_,_,_,_=>by simp at h
 | a:: as_,v:: vs,h,0,x,u,e=>by simp at h;simpa using⟨e,h.2⟩
 | a:: as_,v:: vs,h,i+1,x,u,e=>by simp at h;simpa using⟨h.1,h.2.set i x u e⟩
theorem aD.append:∀{as_ bs:List AV} {vs us:List Value},aD ι S w as_ vs→aD ι S w bs us→aD ι S w (as_++bs) (vs++us)
 | [],bs,vs,us,h,k=>by simp at h;subst h;simpa using k
 | a:: as_,bs,[],us,h,_=>by simp at h
 | a:: as_,bs,v:: vs,us,h,k=>by simp at h;simpa using⟨h.1,h.2.append k⟩
theorem aD.mk:∀{as_:List AV} {vs:List Value},as_.length=vs.length→(∀(i:Nat) (a:AV) (v:Value),as_[i]?=some a→vs[i]?=some v→ax ι S w a v)→aD ι S w as_ vs
 | [],vs,h,_=>by simpa using (List.length_eq_zero_iff.1 (by simpa using h.symm))
 | a:: as_,[],h,_=>by simp at h
 | a:: as_,v:: vs,h,k=>by
   simp only[bL];exact⟨k 0 a v rfl rfl,aD.mk (by simpa using h) fun i x u e f=>k (i+1) x u (by simpa using e) (by simpa using f)⟩
theorem aD.take:∀{as_:List AV} {vs:List Value} (n:Nat),aD ι S w as_ vs→aD ι S w (as_.take n) (vs.take n)
 | [],vs,n,h=>by simp at h;subst h;simp
 | a:: as_,[],n,h=>by simp at h
 | a:: as_,v:: vs,0,h=>by simp
 | a:: as_,v:: vs,n+1,h=>by simp at h;simpa using⟨h.1,h.2.take n⟩
theorem aD.drop:∀{as_:List AV} {vs:List Value} (n:Nat),aD ι S w as_ vs→aD ι S w (as_.drop n) (vs.drop n)
 | [],vs,n,h=>by simp at h;subst h;simp
 | a:: as_,[],n,h=>by simp at h
 | a:: as_,v:: vs,0,h=>by simpa using h
 | a:: as_,v:: vs,n+1,h=>by simp at h;simpa using h.2.drop n
theorem bI.get:∀{cs:List AV} {b off:Nat},bI ι S w cs b off→∀(i:Nat) (c:AV),cs[i]?=some c→∃u,w.cell? ⟨b,off+i,none⟩=some u∧S b (off+i)∧ax ι S w c u
 | [],b,off,h,i,c,e=>by simp at e
 | c:: cs,b,off,h,0,x,e=>by simp at e;subst e;rw[bI]at h;simpa using h.1
 | c:: cs,b,off,h,i+1,x,e=>by
   simp at e;rw[bI]at h;have:=h.2.get i x e;rw[show off+(i+1)=off+1+i by omega];exact this
theorem bI.mk:∀{cs:List AV} {b off:Nat},(∀(i:Nat) (c:AV),cs[i]?=some c→∃u,w.cell? ⟨b,off+i,none⟩=some u∧S b (off+i)∧ax ι S w c u)→bI ι S w cs b off
 | [],b,off,h=>by simp[bI]
 | c:: cs,b,off,h=>by
   rw[bI];refine⟨by simpa using h 0 c rfl,bI.mk fun i x e=>?_⟩;have:=h (i+1) x (by simpa using e);rw[show off+1+i=off+(i+1) by omega];exact this
def bI.drop{cs:List AV}{b off:Nat}(h:bI ι S w cs b off)(k:Nat):bI ι S w (cs.drop k) b (off+k):=
 bI.mk fun i c e=>by
  have:=h.get (k+i) c (by simpa using e);rw[show off+k+i=off+(k+i) by omega];exact this
theorem bI.rF:∀{cs:List AV} {b off:Nat},bI ι S w cs b off→∃vs:List Value,aD ι S w cs vs∧∀(i:Nat) (v:Value),vs[i]?=some v→w.cell? ⟨b,off+i,none⟩=some v
 | [],b,off,h=>⟨[],by simp,by simp⟩
 | c:: cs,b,off,h=>by
   rw[bI]at h;obtain⟨⟨u,hu,_,hr⟩,h2⟩:=h;obtain⟨vs,hv,hc⟩:=h2.rF;refine⟨u:: vs,by simpa using⟨hr,hv⟩,fun i v e=>?_⟩;cases i with
   | zero=>simp at e;subst e;simpa using hu
   | succ i=>simp at e;have:=hc i v e;rw[show off+(i+1)=off+1+i by omega];exact this
theorem cg.get{sz:Nat}:∀{rows:List (List AV)} {b off:Nat},cg ι S w sz rows b off→∀(i:Nat) (r:List AV),rows[i]?=some r→r.length=sz∧bI ι S w r b (off+i*sz)
 | [],b,off,h,i,c,e=>by simp at e
 | r:: rs,b,off,h,0,x,e=>by simp at e;subst e;rw[cg]at h;simpa using⟨h.1,h.2.1⟩
 | r:: rs,b,off,h,i+1,x,e=>by
   simp at e;rw[cg]at h;have:=h.2.2.get i x e;rw[show off+(i+1)*sz=off+sz+i*sz by rw[aaP];omega];exact this
theorem cg.mk{sz:Nat}:∀{rows:List (List AV)} {b off:Nat},(∀(i:Nat) (r:List AV),rows[i]?=some r→r.length=sz∧bI ι S w r b (off+i*sz))→cg ι S w sz rows b off
 | [],b,off,h=>by simp[cg]
 | r:: rs,b,off,h=>by
   rw[cg];have h0:=h 0 r rfl;refine⟨h0.1,by simpa using h0.2,cg.mk fun i x e=>?_⟩;have:=h (i+1) x (by simpa using e);rw[show off+sz+i*sz=off+(i+1)*sz by rw[aaP];omega];exact this
end
def eW:Option Ix→Option Ix→Prop
 | some (.tok n v),y=>∃n' v',y=some (.tok n' v')∧((n'=n∧v'=v)∨n<n')
 | x,y=>y=x
theorem eW.refl:∀x,eW x x
 | some (.tok n v)=>⟨n,v,rfl,.inl ⟨rfl,rfl⟩⟩
 | some (.ak _)=>rfl
 | none=>rfl
def eW.of_eq(h:y=x):eW x y:=h▸eW.refl x
theorem eW.trans:∀{x y z:Option Ix},eW x y→eW y z→eW x z
 | some (.tok n v),y,z,h,k=>by
   obtain⟨n',v',rfl,h⟩:=h;obtain⟨n'',v'',rfl,k⟩:=k;refine⟨n'',v'',rfl, ?_⟩;rcases h with⟨rfl,rfl⟩|h
   ·exact k
   ·rcases k with⟨rfl,rfl⟩|k
    ·exact .inr h
    ·exact .inr (Nat.lt_trans h k)
 | some (.ak _),y,z,h,k=>by simp only[eW]at h;subst h;exact k
 | none,y,z,h,k=>by simp only[eW]at h;subst h;exact k
def eW.ak(h:eW (some (.ak b)) y):y=some (.ak b):=h
structure bM(n base:Nat)(ι:List Ix)(S:bj)(w:World)(ι':List Ix)(S':bj)(w':World):Prop where
 pre:∀i,i<n→eW ι[i]? ι'[i]?
 sub:∀b o,S b o→S' b o
 new:∀b o,S' b o→S b o∨base≤b
 cell:∀b o,S b o→w'.cell? ⟨b,o,none⟩=w.cell? ⟨b,o,none⟩
 vj:∀b x,w.shape? b=some x→w'.shape? b=some x
 mI:Below base w w'
def bM.refl(n base:Nat)(ι:List Ix)(S:bj)(w:World):bM n base ι S w ι S w:=
 ⟨fun _ _=>eW.refl _,fun _ _ h=>h,fun _ _ h=>.inl h,fun _ _ _=>rfl,fun _ _ h=>h,Below.refl _ _⟩
def bM.trans{n base:Nat}(h:bM n base ι S w ι' S' w')(k:bM n base ι' S' w' ι'' S'' w''):bM n base ι S w ι'' S'' w'':=
 ⟨fun i hi=>(h.pre i hi).trans (k.pre i hi),fun b o x=>k.sub b o (h.sub b o x),
  fun b o x=>(k.new b o x).elim (fun y=>h.new b o y) .inr,
  fun b o x=>(k.cell b o (h.sub b o x)).trans (h.cell b o x),fun b x hx=>k.vj b x (h.vj b x hx),h.mI.trans k.mI⟩
def bM.mono{n n' base base':Nat}(h:bM n base ι S w ι' S' w')(hn:n'≤n)(hb:base'≤base):bM n' base' ι S w ι' S' w':=
 ⟨fun i hi=>h.pre i (UP hi hn),h.sub,fun b o x=>(h.new b o x).imp id (fun y=>aat hb y),h.cell,h.vj,h.mI.mono hb⟩
mutual
def Bd(n:Nat):AV→Prop
 | .v _|.str _|.any|.emp=>True
 | .agg cs|.aw cs|.ip cs=>jg n cs
 | .sl _ rows=>uY n rows
 | .sb id _ rows=>id<n∧uY n rows
 | .own id _ _ _|.op id _|.mp id=>id<n
 | .fn _ xs ys=>jg n xs∧jg n ys
 | .fJ _ x=>Bd n x
def jg(n:Nat):List AV→Prop
 | []=>True
 | a:: as_=>Bd n a∧jg n as_
def uY(n:Nat):List (List AV)→Prop
 | []=>True
 | r:: rs=>jg n r∧uY n rs
end
mutual
theorem ax.bd(hn:ι.length≤n):∀(a:AV) (y:Value),ax ι S w a y→Bd n a
 | .v _,_,_=>by simp[Bd]
 | .str _,_,_=>by simp[Bd]
 | .any,_,_=>by simp[Bd]
 | .emp,_,_=>by simp[Bd]
 | .agg cs,y,k=>by rw[ax]at k;rw[Bd];obtain⟨vs,e,k⟩:=k;exact aD.bd hn cs vs k
 | .aw cs,y,k=>by rw[ax]at k;rw[Bd];obtain⟨vs,e,k⟩:=k;exact aD.bd hn cs vs k
 | .sl sz rows,y,k=>by
   rw[ax]at k;rw[Bd];obtain⟨a,cap,e,h1,h2,h3⟩:=k;rcases h3 with rfl|⟨b,off,ea,hr⟩
   ·simp[uY]
   ·exact cg.bd hn sz rows b off hr
 | .sb tid sz rows,y,k=>by
   rw[ax]at k;rw[Bd];obtain⟨⟨a,cap,e,h1,h2,h3⟩,m,v,t1,_⟩:=k;refine⟨UP (dO.1 t1).1 hn, ?_⟩;rcases h3 with rfl|⟨b,off,ea,hr⟩
   ·simp[uY]
   ·exact cg.bd hn sz rows b off hr
 | .ip cs,y,k=>by rw[ax]at k;rw[Bd];obtain⟨b,off,e,k⟩:=k;exact bI.bd hn cs b off k
 | .own tid off len sz,y,k=>by
   rw[ax]at k;rw[Bd];obtain⟨b,a,cap,m,ty,h1,_⟩:=k;exact UP (dO.1 h1).1 hn
 | .op tid off,y,k=>by
   rw[ax]at k;rw[Bd];obtain⟨b,h1,_⟩:=k;exact UP (dO.1 h1).1 hn
 | .fn f xs ys,y,k=>by rw[ax]at k;rw[Bd];obtain⟨vs,us,e,k1,k2⟩:=k;exact⟨aD.bd hn xs vs k1,aD.bd hn ys us k2⟩
 | .fJ t x,y,k=>by rw[ax]at k;rw[Bd];obtain⟨v,e,k⟩:=k;exact ax.bd hn x v k
 | .mp tid,y,k=>by
   rw[ax]at k;rw[Bd];obtain⟨b,h1,_⟩:=k;exact UP (dO.1 h1).1 hn
theorem aD.bd(hn:ι.length≤n):∀(as_:List AV) (vs:List Value),aD ι S w as_ vs→jg n as_
 | [],_,_=>by simp[jg]
 | a:: as_,[],k=>by simp at k
 | a:: as_,v:: vs,k=>by simp at k;rw[jg];exact⟨ax.bd hn a v k.1,aD.bd hn as_ vs k.2⟩
theorem bI.bd(hn:ι.length≤n):∀(cs:List AV) (b off:Nat),bI ι S w cs b off→jg n cs
 | [],_,_,_=>by simp[jg]
 | c:: cs,b,off,k=>by rw[bI]at k;rw[jg];obtain⟨⟨u,_,_,h⟩,k2⟩:=k;exact⟨ax.bd hn c u h,bI.bd hn cs b (off+1) k2⟩
theorem cg.bd(hn:ι.length≤n)(sz:Nat):∀(rows:List (List AV)) (b off:Nat),cg ι S w sz rows b off→uY n rows
 | [],_,_,_=>by simp[uY]
 | r:: rs,b,off,k=>by rw[cg]at k;rw[uY];exact⟨bI.bd hn r b off k.2.1,cg.bd hn sz rs b (off+sz) k.2.2⟩
end
mutual
theorem ax.fM{n base:Nat}(h:bM n base ι S w ι' S' w'):∀(a:AV) (y:Value),Bd n a→ax ι S w a y→ax ι' S' w' a y
 | .v x,y,p,k=>by simpa using k
 | .str x,y,p,k=>by simpa using k
 | .any,y,p,k=>by simp
 | .agg cs,y,p,k=>by rw[ax]at *;rw[Bd]at p;obtain⟨vs,e,k⟩:=k;exact⟨vs,e,aD.fM h cs vs p k⟩
 | .aw cs,y,p,k=>by rw[ax]at *;rw[Bd]at p;obtain⟨vs,e,k⟩:=k;exact⟨vs,e,aD.fM h cs vs p k⟩
 | .emp,y,p,k=>by rw[ax]at *;exact k
 | .sl sz rows,y,p,k=>by
   rw[ax]at *;rw[Bd]at p;obtain⟨a,cap,e,h1,h2,h3⟩:=k;exact⟨a,cap,e,h1,h2,h3.imp (fun q=>q) fun⟨b,off,ea,hr⟩=>⟨b,off,ea,cg.fM h sz rows b off p hr⟩⟩
 | .sb tid sz rows,y,p,k=>by
   rw[ax]at *;rw[Bd]at p;obtain⟨⟨a,cap,e,h1,h2,h3⟩,m,v,t1,t2,t3⟩:=k;refine⟨⟨a,cap,e,h1,h2,h3.imp (fun q=>q) fun⟨b,off,ea,hr⟩=>⟨b,off,ea,cg.fM h sz rows b off p.2 hr⟩⟩, ?_⟩;have hp:=h.pre tid p.1;rw[t1]at hp;obtain⟨m',v',e',q⟩:=hp;refine⟨m',v',e', ?_⟩;rcases q with⟨rfl,rfl⟩|q
   ·exact⟨t2,t3⟩
   ·exact⟨by omega,fun z=>by omega⟩
 | .ip cs,y,p,k=>by rw[ax]at *;rw[Bd]at p;obtain⟨b,off,e,k⟩:=k;exact⟨b,off,e,bI.fM h cs b off p k⟩
 | .own tid off len sz,y,p,k=>by
   rw[ax]at *;rw[Bd]at p;obtain⟨b,a,cap,m,ty,h1,h2,h3,h4,h5,h6,h7⟩:=k;exact⟨b,a,cap,m,ty,(h1▸h.pre tid p).ak,h2,h3,h4,h5,h.vj _ _ h6,h7⟩
 | .op tid off,y,p,k=>by
   rw[ax]at *;rw[Bd]at p;obtain⟨b,h1,h2⟩:=k;exact⟨b,(h1▸h.pre tid p).ak,h2⟩
 | .fn f xs ys,y,p,k=>by rw[ax]at *;rw[Bd]at p;obtain⟨vs,us,e,k1,k2⟩:=k;exact⟨vs,us,e,aD.fM h xs vs p.1 k1,aD.fM h ys us p.2 k2⟩
 | .fJ t x,y,p,k=>by rw[ax]at *;rw[Bd]at p;obtain⟨v,e,k⟩:=k;exact⟨v,e,ax.fM h x v p k⟩
 | .mp tid,y,p,k=>by
   rw[ax]at *;rw[Bd]at p;obtain⟨b,h1,h2⟩:=k;exact⟨b,(h1▸h.pre tid p).ak,h2⟩
theorem aD.fM{n base:Nat}(h:bM n base ι S w ι' S' w'):∀(as_:List AV) (vs:List Value),jg n as_→aD ι S w as_ vs→aD ι' S' w' as_ vs
 | [],vs,p,k=>by simpa using k
 | a:: as_,[],p,k=>by simp at k
 | a:: as_,v:: vs,p,k=>by simp at k;rw[jg]at p;simpa using⟨ax.fM h a v p.1 k.1,aD.fM h as_ vs p.2 k.2⟩
theorem bI.fM{n base:Nat}(h:bM n base ι S w ι' S' w'):∀(cs:List AV) (b off:Nat),jg n cs→bI ι S w cs b off→bI ι' S' w' cs b off
 | [],b,off,p,k=>by simp[bI]
 | c:: cs,b,off,p,k=>by
   rw[bI]at *;rw[jg]at p;obtain⟨⟨u,h1,h2,h3⟩,k2⟩:=k;exact⟨⟨u,by rw[h.cell b off h2];exact h1,h.sub _ _ h2,ax.fM h c u p.1 h3⟩,bI.fM h cs b (off+1) p.2 k2⟩
theorem cg.fM{n base:Nat}(h:bM n base ι S w ι' S' w')(sz:Nat):∀(rows:List (List AV)) (b off:Nat),uY n rows→cg ι S w sz rows b off→cg ι' S' w' sz rows b off
 | [],b,off,p,k=>by simp[cg]
 | r:: rs,b,off,p,k=>by
   rw[cg]at *;rw[uY]at p;exact⟨k.1,bI.fM h r b off p.1 k.2.1,cg.fM h sz rs b (off+sz) p.2 k.2.2⟩
end
def ax.fq{n base:Nat}(h:bM n base ι S w ι' S' w')(hn:ι.length≤n)(a:AV)(y:Value)(k:ax ι S w a y):ax ι' S' w' a y:=ax.fM h a y (ax.bd hn a y k) k
def aD.fq{n base:Nat}(h:bM n base ι S w ι' S' w')(hn:ι.length≤n)(as_:List AV)(vs:List Value)(k:aD ι S w as_ vs):aD ι' S' w' as_ vs:=aD.fM h as_ vs (aD.bd hn as_ vs k) k
def bI.fq{n base:Nat}(h:bM n base ι S w ι' S' w')(hn:ι.length≤n)(cs:List AV)(b off:Nat)(k:bI ι S w cs b off):bI ι' S' w' cs b off:=bI.fM h cs b off (bI.bd hn cs b off k) k
def cg.fq{n base:Nat}(h:bM n base ι S w ι' S' w')(hn:ι.length≤n)(sz:Nat)(rows:List (List AV))(b off:Nat)(k:cg ι S w sz rows b off):cg ι' S' w' sz rows b off:=cg.fM h sz rows b off (cg.bd hn sz rows b off k) k
/-! ### Maps,and walks over them -/
section
variable (ι:List Ix) (S:bj) (w:World)
def pM:List (Nat×AV×AV)→List MapEntry→Prop
 | [],l=>l=[]
 | (n,k,c):: r,l=>∃e l',l=e:: l'∧e.born=n∧ax ι S w k e.key∧ax ι S w c e.val∧pM r l'
def rJ(base:Nat)(ix:Option Ix):aY→Prop
 | .mp c es=>∃b arr,ix=some (.ak b)∧base≤b∧w.heap[b]?=some (.map arr c)∧(∀o,¬S b o)∧pM ι S w es arr.toList
 | .it m s sn l=>∃b bm,ix=some (.ak b)∧base≤b∧w.heap[b]?=some (.mapIter (some bm) s sn.toArray l)∧(∀o,¬S b o)∧ι[m]?=some (.ak bm)
 | _=>True
end
theorem pM.imp{f:AV→AV}(hf:∀a y,ax ι S w a y→ax ι' S' w' (f a) y):∀{es:List (Nat×AV×AV)} {l:List MapEntry},pM ι S w es l→pM ι' S' w' (es.map fun p=>(p.1,f p.2.1,f p.2.2)) l
 | [],_,h=>h
 | (_,_,_):: _,_,⟨e,l',h1,h2,h3,h4,h5⟩=>⟨e,l',h1,h2,hf _ _ h3,hf _ _ h4,pM.imp hf h5⟩
theorem pM.bd:∀{es:List (Nat×AV×AV)} {l:List MapEntry},pM ι S w es l→(∀p∈es,(∀y,ax ι S w p.2.1 y→ax ι' S' w' p.2.1 y)∧∀y,ax ι S w p.2.2 y→ax ι' S' w' p.2.2 y)→pM ι' S' w' es l
 | [],_,h,_=>h
 | (n,k,c):: r,_,⟨e,l',h1,h2,h3,h4,h5⟩,hb=>⟨e,l',h1,h2,(hb (n,k,c) (aaJ ..)).1 _ h3,(hb (n,k,c) (aaJ ..)).2 _ h4,pM.bd h5 fun p hp=>hb p (MK _ hp)⟩
def pM.fq{n base:Nat}(hE:bM n base ι S w ι' S' w')(hn:ι.length≤n){es:List (Nat×AV×AV)}(h:pM ι S w es l):pM ι' S' w' es l:=
 pM.bd h fun p _=>⟨fun y=>ax.fq hE hn _ y,fun y=>ax.fq hE hn _ y⟩
theorem rJ.step{n base b0:Nat}{ix ix':Option Ix}{en:aY}(h:rJ ι S w base ix en)(hE:bM n b0 ι S w ι' S' w')(hn:ι.length≤n)(hix:ix'=ix)
 (same:∀b,ix=some (.ak b)→b<w.heap.size→w'.heap[b]?=w.heap[b]?∧∀o,S' b o→S b o):rJ ι' S' w' base ix' en:=by
 subst hix;have lt:∀{b:Nat} {o:Obj},w.heap[b]?=some o→b<w.heap.size:=fun k=>(By.1 k).1;cases en with
 | mp c es =>
   obtain⟨b,arr,h1,h2,h3,h4,h5⟩:=h;obtain⟨q1,q2⟩:=same b h1 (lt h3);exact⟨b,arr,h1,h2,by rw[q1];exact h3,fun o ho=>h4 o (q2 o ho),h5.fq hE hn⟩
 | it m s sn l =>
   obtain⟨b,bm,h1,h2,h3,h4,h5⟩:=h;obtain⟨q1,q2⟩:=same b h1 (lt h3);refine⟨b,bm,h1,h2,by rw[q1];exact h3,fun o ho=>h4 o (q2 o ho), ?_⟩;have hm:m<ι.length:=(dO.1 h5).1;exact (h5▸hE.pre m (UP hm hn)).ak
 | ak=>trivial
 | tok=>trivial
 | dead=>trivial
def rJ.at{base:Nat}{ix:Option Ix}{en:aY}(h:rJ ι S w base ix en)(hk:(∃c es,en=.mp c es)∨∃m s sn l,en=.it m s sn l):∃b,ix=some (.ak b)∧base≤b∧b<w.heap.size:=by
 rcases hk with⟨c,es,rfl⟩|⟨m,s,sn,l,rfl⟩
 ·obtain⟨b,arr,h1,h2,h3,_⟩:=h;exact⟨b,h1,h2,(By.1 h3).1⟩
 ·obtain⟨b,bm,h1,h2,h3,_⟩:=h;exact⟨b,h1,h2,(By.1 h3).1⟩
end
section
open Go Go.RowKit
mutual
def Pure:AV→Prop
 | .v _|.str _|.any|.emp=>True
 | .agg cs|.aw cs|.ip cs=>aq cs
 | .sl _ rows=>aX rows
 | .own .. | .op .. | .sb .. | .mp _=>False
 | .fn _ xs ys=>aq xs∧aq ys
 | .fJ _ x=>Pure x
def aq:List AV→Prop
 | []=>True
 | a:: as_=>Pure a∧aq as_
def aX:List (List AV)→Prop
 | []=>True
 | r:: rs=>aq r∧aX rs
end
mutual
theorem ax.pure:∀(a:AV) (y:Value),Pure a→ax ι S w a y→ax ι' S w a y
 | .v x,y,_,k=>by simpa using k
 | .str x,y,_,k=>by simpa using k
 | .any,y,_,k=>by simp
 | .agg cs,y,p,k=>by rw[ax]at *;rw[Pure]at p;obtain⟨vs,e,k⟩:=k;exact⟨vs,e,aD.pure cs vs p k⟩
 | .aw cs,y,p,k=>by rw[ax]at *;rw[Pure]at p;obtain⟨vs,e,k⟩:=k;exact⟨vs,e,aD.pure cs vs p k⟩
 | .emp,y,_,k=>by rw[ax]at *;exact k
 | .sl sz rows,y,p,k=>by
   rw[ax]at *;rw[Pure]at p;obtain⟨a,cap,e,h1,h2,h3⟩:=k;exact⟨a,cap,e,h1,h2,h3.imp id fun⟨b,off,ea,hr⟩=>⟨b,off,ea,cg.pure sz rows b off p hr⟩⟩
 | .ip cs,y,p,k=>by rw[ax]at *;rw[Pure]at p;obtain⟨b,off,e,k⟩:=k;exact⟨b,off,e,bI.pure cs b off p k⟩
 | .own id off len sz,y,p,k=>by rw[Pure]at p;exact p.elim
 | .sb id sz rows,y,p,k=>by rw[Pure]at p;exact p.elim
 | .op id off,y,p,k=>by rw[Pure]at p;exact p.elim
 | .fn f xs ys,y,p,k=>by rw[ax]at *;rw[Pure]at p;obtain⟨vs,us,e,k1,k2⟩:=k;exact⟨vs,us,e,aD.pure xs vs p.1 k1,aD.pure ys us p.2 k2⟩
 | .fJ t x,y,p,k=>by rw[ax]at *;rw[Pure]at p;obtain⟨v,e,k⟩:=k;exact⟨v,e,ax.pure x v p k⟩
 | .mp id,y,p,k=>by rw[Pure]at p;exact p.elim
theorem aD.pure:∀(as_:List AV) (vs:List Value),aq as_→aD ι S w as_ vs→aD ι' S w as_ vs
 | [],vs,_,k=>by simpa using k
 | a:: as_,[],_,k=>by simp at k
 | a:: as_,v:: vs,p,k=>by rw[aq]at p;simp at k;simpa using⟨ax.pure a v p.1 k.1,aD.pure as_ vs p.2 k.2⟩
theorem bI.pure:∀(cs:List AV) (b off:Nat),aq cs→bI ι S w cs b off→bI ι' S w cs b off
 | [],b,off,_,k=>by simp[bI]
 | c:: cs,b,off,p,k=>by
   rw[bI]at *;rw[aq]at p;obtain⟨⟨u,h1,h2,h3⟩,k2⟩:=k;exact⟨⟨u,h1,h2,ax.pure c u p.1 h3⟩,bI.pure cs b (off+1) p.2 k2⟩
theorem cg.pure(sz:Nat):∀(rows:List (List AV)) (b off:Nat),aX rows→cg ι S w sz rows b off→cg ι' S w sz rows b off
 | [],b,off,_,k=>by simp[cg]
 | r:: rs,b,off,p,k=>by
   rw[cg]at *;rw[aX]at p;exact⟨k.1,bI.pure r b off p.1 k.2.1,cg.pure sz rs b (off+sz) p.2 k.2.2⟩
end
class Laid where
 TW:Nat→Option (List AV)
 pure:∀g cs,TW g=some cs→aq cs
variable [Laid]
def BA(S:bj)(w:World):Prop:=∀g cs,Laid.TW g=some cs→bI [] S w cs g 0∧∃ty,w.shape? g=some (ty,cs.length)
def BA.fq{n base:Nat}(h:BA S w)(hE:bM n base ι S w ι' S' w'):BA S' w':=fun g cs e =>
 ⟨bI.fq (n:=0) (base:=base) (ι:=[]) (ι':=[]) ⟨fun _ q=>absurd q (aap _),hE.sub,hE.new,hE.cell,hE.vj,hE.mI⟩ (aS _) cs g 0 (h g cs e).1,let ⟨ty,k⟩:=(h g cs e).2;⟨ty,hE.vj _ _ k⟩⟩
def tV(base:Nat)(S:bj)(w:World)(e sz n:Nat)(v:Value):Prop:=
 ∃a cap,v=.slice a n cap∧n≤cap∧cap≤maxLen∧(cap=0∨∃b arr fz,a=some ⟨b,0,none⟩∧base≤b∧w.heap[b]?=some (.cells arr e fz) ∧
  (∀o,o<arr.size→¬(fz.1≤o∧o<fz.2))∧cap*sz≤arr.size∧∀o,S b o→o<n*sz)
def Bp(v:Value)(b:Nat):Prop:=∃a l cap,v=.slice (some a) l cap∧a.block=b∧cap≠0
def zc:Option Ix→Nat→Prop
 | some (.ak c),b=>c=b
 | some (.tok _ v),b=>Bp v b
 | none,_=>False
def alive:Option aY→Prop
 | some .dead|none=>False
 | _=>True
omit [Laid] in
def tV.eT{base:Nat}{e sz n:Nat}(h:tV base S w e sz n v)(k:∀b,Bp v b→base≤b→b<w.heap.size→w'.heap[b]?=w.heap[b]?∧∀o,S' b o→S b o):tV base S' w' e sz n v:=by
 obtain⟨a,cap,e1,h1,h2,h3⟩:=h;refine⟨a,cap,e1,h1,h2, ?_⟩;rcases h3 with h3|⟨b,arr,fz,ea,k1,k2,k3,k4,k5⟩
 ·exact .inl h3
 ·by_cases hc:cap=0
  ·exact .inl hc
  ·have hb:b<w.heap.size:=by
    rcases AS b w.heap.size with q|q
    ·exact q
    ·rw[aaT q]at k2;cases k2
   obtain⟨q1,q2⟩:=k b ⟨_,_,_,by rw[e1,ea],rfl,hc⟩ k1 hb;exact .inr ⟨b,arr,fz,ea,k1,by rw[q1];exact k2,k3,k4,fun o ho=>k5 o (q2 o ho)⟩
structure cy(base:Nat)(ι:List Ix)(S:bj)(w:World)(h:aa):Prop where
 len:ι.length=h.length
 live:∀(id:Nat) (x:jl),h[id]?=some (.ak x)→∃b arr fz,ι[id]?=some (.ak b)∧base≤b∧w.heap[b]?=some (.cells arr x.ty fz) ∧
  (∀o,o<arr.size→¬(fz.1≤o∧o<fz.2))∧x.cells.length≤arr.size ∧
  (∀(i:Nat) (c:AV),x.cells[i]?=some c→∃v,arr[i]?=some v∧ax ι S w c v) ∧
  (x.wr=true→∀o,¬S b o)∧(∀o,S b o→o<x.cells.length)∧(x.wr=false→∀o,o<x.cells.length→S b o)
 tok:∀(id e sz n:Nat),h[id]?=some (.tok e sz n)→∃v,ι[id]?=some (.tok n v)∧tV base S w e sz n v
 im:∀(id:Nat) (en:aY),h[id]?=some en→rJ ι S w base ι[id]? en
 inj:∀(i j b:Nat),alive h[i]?→alive h[j]?→zc ι[i]? b→zc ι[j]? b→i=j
 fV:∀b o,S b o→b<w.heap.size
 ji:base≤w.heap.size
 gl:BA S w
abbrev Fr:=List (Nat×AV)
def bF:Fr→Nat→AV
 | [],_=>.any
 | (s,y):: r,t=>if s=t then y else bF r t
def dQ:Fr→Nat→AV→Fr
 | [],t,x=>[(t,x)]
 | (s,y):: r,t,x=>if s=t then (t,x):: r else if t<s then (t,x):: (s,y):: r else (s,y):: dQ r t x
def iV(eT:List Nat)(fr:Fr):Fr:=eT.map fun t=>(t,bF fr t)
def bJ(n:Nat)(fr:Fr)(d:Option Tmp)(x:AV):Fr:=match d with|some t=>if t<n then dQ fr t x else fr|none=>fr
def dd(ι:List Ix)(S:bj)(w:World)(fr:Fr)(tmps:Array Value):Prop:=∀t,ax ι S w (bF fr t) (tmps.getD t undef)
omit [Laid] in
def dd.fq{fr:Fr}{tmps:Array Value}{n base:Nat}(hE:bM n base ι S w ι' S' w')(hn:ι.length≤n)(h:dd ι S w fr tmps):dd ι' S' w' fr tmps:=
 fun t=>ax.fq hE hn _ _ (h t)
omit [Laid] in
theorem eX:∀(fr:Fr) (t:Nat) (x:AV) (u:Nat),bF (dQ fr t x) u=if t=u then x else bF fr u
 | [],t,x,u=>by simp[dQ,bF]
 | (s,y):: r,t,x,u=>by
  unfold dQ;split
  ·rename_i h;subst h;simp only[bF];split<;>rfl
  ·split
   ·simp only[bF]
   ·simp only[bF];rw[eX r t x u];split
    ·rename_i h1 h2 h3;split
     ·omega
     ·rfl
    ·rfl
omit [Laid] in
def Kd:∀(fr:Fr) {t u:Nat} (x y:AV),t≠u→dQ (dQ fr t x) u y=dQ (dQ fr u y) t x:=by
 have key:∀(fr:Fr) {t u:Nat} (x y:AV),t<u→dQ (dQ fr t x) u y=dQ (dQ fr u y) t x:=by
  intro fr;induction fr with
  | nil =>
    intro t u x y h;have h1:t≠u:=by omega
    have h2:¬u<t:=by omega
    simp[dQ,h1,h2,h,Ne.symm h1]
  | cons p r ih =>
    intro t u x y h;obtain⟨s,z⟩:=p;have h1:t≠u:=by omega
    have h2:¬u<t:=by omega
    by_cases a:s=t
    ·subst a;have e1:¬u<s:=by omega
     simp[dQ,h1,e1]
    ·by_cases b:s=u
     ·subst b;have e1:s≠t:=by omega
      simp[dQ,h1,e1,h,h2]
     ·by_cases c:t<s
      ·by_cases d:u<s
       ·simp[dQ,a,b,c,d,h1,h2,h,Ne.symm h1]
       ·simp[dQ,a,b,c,d,h1,h2]
      ·by_cases d:u<s
       ·omega
       ·simp[dQ,a,b,c,d,ih x y h]
 intro fr t u x y h;rcases Nat.lt_or_gt_of_ne h with q|q
 ·exact key fr x y q
 ·exact (key fr y x q).symm
structure St where
 n:Nat
 fr:Fr
 h:aa
structure bW(base:Nat)(ι:List Ix)(S:bj)(a:Act)(w:World)(st:St):Prop where
 df:a.defers=[]
 sz:a.tmps.size=st.n
 fr:dd ι S w st.fr a.tmps
 hp:cy base ι S w st.h
def cY(m base:Nat)(ι:List Ix)(S:bj)(w:World)(Q:Exit→St→Prop):Exit→Act→World→Prop:=fun e a' w' =>
 ∃ι' S' st',bM m base ι S w ι' S' w'∧m≤st'.h.length∧bW base ι' S' a' w' st'∧Q e st'
def AW(P:Program)(m:Nat)(c:Code)(Q:Exit→St→Prop)(st:St):Prop:=
 ∀base ι S a w,m≤st.h.length→bW base ι S a w st→c.wp P (cY m base ι S w Q) a w
abbrev gh(next:St→Prop)(Q:Exit→St→Prop):Exit→St→Prop
 | .normal,st=>next st
 | e,st=>Q e st
def cY.trans{m base:Nat}{ι ι':List Ix}{S S':bj}{w w':World}{Q:Exit→St→Prop}{e:Exit}{a'':Act}{w'':World}
 (hE:bM m base ι S w ι' S' w') (h:cY m base ι' S' w' Q e a'' w''):cY m base ι S w Q e a'' w'':=
 let ⟨ι'',S'',st'',h1,h2,h3,h4⟩:=h;⟨ι'',S'',st'',hE.trans h1,h2,h3,h4⟩
section
variable {P:Program} {m:Nat} {Q:Exit→St→Prop} {st:St}
def Fz(h:Q .normal st):AW P m .skip Q st:=
 fun _ ι S _ _ hm hr=>wp_skip ⟨ι,S,st,bM.refl _ _ _ _ _,hm,hr,h⟩
def Ip(h:Q .ret st):AW P m .ret Q st:=
 fun _ ι S _ _ hm hr=>wp_ret ⟨ι,S,st,bM.refl _ _ _ _ _,hm,hr,h⟩
def Fx{id:Nat}(h:Q (.exit id) st):AW P m (.exit id) Q st:=
 fun _ ι S _ _ hm hr=>wp_exit ⟨ι,S,st,bM.refl _ _ _ _ _,hm,hr,h⟩
def Db(h:Q .normal st):AW P m (.label l) Q st:=
 fun _ ι S _ _ hm hr=>wp_label ⟨ι,S,st,bM.refl _ _ _ _ _,hm,hr,h⟩
def Fy(h:Q (.goto l) st):AW P m (.goto l) Q st:=
 fun _ ι S _ _ hm hr=>wp_goto ⟨ι,S,st,bM.refl _ _ _ _ _,hm,hr,h⟩
def yA(h:AW P m x (gh (AW P m y Q) Q) st):AW P m (.seq x y) Q st:=by
 intro base ι S a w hm hr;refine wp_seq (wp_mono (h base ι S a w hm hr) ?_);intro e a' w' k;obtain⟨ι',S',st',h1,h2,h3,h4⟩:=k;cases e with
 | normal=>exact wp_mono (h4 base ι' S' a' w' h2 h3) fun _ _ _ k=>k.trans h1
 | exit id=>exact⟨ι',S',st',h1,h2,h3,h4⟩
 | goto l=>exact⟨ι',S',st',h1,h2,h3,h4⟩
 | ret=>exact⟨ι',S',st',h1,h2,h3,h4⟩
 | panic ch=>exact⟨ι',S',st',h1,h2,h3,h4⟩
 | outgrown=>exact⟨ι',S',st',h1,h2,h3,h4⟩
def yL(id:Nat)(Q:Exit→St→Prop):Exit→St→Prop
 | .exit id',st=>if id'=id then Q .normal st else Q (.exit id') st
 | e,st=>Q e st
def C9{id:Nat}(h:AW P m c (yL id Q) st):AW P m (.block id c) Q st:=by
 intro base ι S a w hm hr;refine wp_block (wp_mono (h base ι S a w hm hr) ?_);intro e a' w' k;obtain⟨ι',S',st',h1,h2,h3,h4⟩:=k;cases e with
 | exit id' =>
   simp only[Exit.inBlock,yL]at h4 ⊢;split
   ·rename_i he;rw[if_pos he]at h4;exact⟨ι',S',st',h1,h2,h3,h4⟩
   ·rename_i he;rw[if_neg he]at h4;exact⟨ι',S',st',h1,h2,h3,h4⟩
 | normal=>exact⟨ι',S',st',h1,h2,h3,h4⟩
 | goto l=>exact⟨ι',S',st',h1,h2,h3,h4⟩
 | ret=>exact⟨ι',S',st',h1,h2,h3,h4⟩
 | panic ch=>exact⟨ι',S',st',h1,h2,h3,h4⟩
 | outgrown=>exact⟨ι',S',st',h1,h2,h3,h4⟩
def bW.get{base:Nat}{st:St}(hr:bW base ι S a w st)(t:Nat):
 ax ι S w (bF st.fr t) (a.tmps.getD t undef):=hr.fr t
omit [Laid] in
def dd.put{fr:Fr}{tmps:Array Value}(h:dd ι S w fr tmps)(ht:t<tmps.size)(r:ax ι S w x v):dd ι S w (dQ fr t x) (tmps.setIfInBounds t v):=by
 intro u;rw[eX]
 by_cases hu:t=u
 ·subst hu;rw[if_pos rfl];simpa[Array.getD_eq_getD_getElem?,ht]using r
 ·rw[if_neg hu];have:=h u;simpa[Array.getD_eq_getD_getElem?,Array.getElem?_setIfInBounds,hu]using this
omit [Laid] in
def dd.Cf{fr:Fr}{tmps:Array Value}(h:dd ι S w fr tmps)(r:ax ι S w x (tmps.getD t undef)):dd ι S w (dQ fr t x) tmps:=by
 intro u;rw[eX]
 by_cases hu:t=u
 ·subst hu;rw[if_pos rfl];exact r
 ·rw[if_neg hu];exact h u
omit [Laid] in
def Jl(eT:List Nat)(fr:Fr)(t:Nat):bF (iV eT fr) t=bF fr t∨bF (iV eT fr) t=.any:=by
 unfold iV;induction eT with
 | nil=>exact .inr rfl
 | cons k r ih =>
   simp only[IF,bF];split
   ·rename_i h;subst h;exact .inl rfl
   ·exact ih
omit [Laid] in
def dd.norm{fr:Fr}{tmps:Array Value}(h:dd ι S w fr tmps)(eT:List Nat):dd ι S w (iV eT fr) tmps:=by
 intro t;rcases Jl eT fr t with e|e
 ·rw[e];exact h t
 ·rw[e];simp
theorem bW.put{base:Nat}{st:St}(hr:bW base ι S a w st)(d:Option Tmp)(h:ax ι S w x v):
 bW base ι S (a.put d v) w ⟨st.n,bJ st.n st.fr d x,st.h⟩:=by
 cases d with
 | none=>exact hr
 | some t =>
   by_cases ht:t<st.n
   ·have hsz:=hr.sz;refine⟨hr.df,by simpa[Act.put]using hr.sz, ?_,hr.hp⟩;simp only[Act.put,bJ,if_pos ht];exact dd.put hr.fr (by rw[hsz];exact ht) h
   ·refine⟨hr.df,by simpa[Act.put]using hr.sz, ?_,hr.hp⟩;have:a.tmps.setIfInBounds t v=a.tmps:=by
     have hs:=hr.sz;have hge:¬t<a.tmps.size:=by rw[hs];exact ht
     simp[Array.setIfInBounds,hge]
    simp only[Act.put,bJ,if_neg ht,this];exact hr.fr
end
omit [Laid] in
theorem wp_loop_ghost{α:Type}{P:Program}{Q:Exit→Act→World→Prop}{c:Code}(I:α→Act→World→Prop)(μ:α→Nat)(x₀:α)(h₀:I x₀ a w)
 (round:∀x a w,I x a w→c.wp P (Exit.then (fun a' w' => ∃y,I y a' w'∧μ y<μ x) Q) a w):(Code.loop c).wp P Q a w:=by
 intro b k cs;have key:∀n x a w,μ x=n→I x a w→∃e a' w',Q e a' w'∧Arrives P (lone (b.at a (.code c:: .inLoop c:: k)) cs w) b k cs e a' w':=by
  intro n;induction n using Nat.strongRecOn with
  | _ n ih =>
    intro x a w hn hI;obtain⟨e,a₁,w₁,hq,harr⟩:=round x a w hI b (.inLoop c:: k) cs;cases e with
    | normal =>
      obtain⟨y,hI₁,hlt⟩:=hq;obtain⟨e₂,a₂,w₂,hq₂,harr₂⟩:=ih (μ y) (hn▸hlt) y a₁ w₁ rfl hI₁;exact⟨e₂,a₂,w₂,hq₂,.of_steps (Steps.trans harr (.one step_inLoop)) harr₂⟩
    | exit id=>exact⟨_,a₁,w₁,hq,.pass (x:=.inLoop c) rfl (fun _ _=>.inl (by simp)) harr⟩
    | goto l=>exact⟨_,a₁,w₁,hq,.pass (x:=.inLoop c) rfl (fun _ _=>.inl (by simp)) harr⟩
    | ret=>exact⟨_,a₁,w₁,hq,.pass (x:=.inLoop c) rfl (fun _ _=>.inl (by simp)) harr⟩
    | panic ch=>exact⟨_,a₁,w₁,hq,.pass (x:=.inLoop c) rfl (fun _ _=>.inl (by simp)) harr⟩
    | outgrown=>exact⟨_,a₁,w₁,hq,.pass (x:=.inLoop c) rfl (fun _ _=>.inl (by simp)) harr⟩
 obtain⟨e,a',w',hq,harr⟩:=key _ x₀ a w rfl h₀;exact⟨e,a',w',hq,.of_steps (.one step_loop) harr⟩
def cw(P:Program)(f:FuncId)(args:List AV)(h:aa)(K:AV→aa→Prop):Prop:=
 ∀base ι S w vs,aD ι S w args vs→cy base ι S w h→Calls P f vs.toArray w fun e w' =>
  ∃v ι' S' r h',e=.returned v∧bM h.length base ι S w ι' S' w'∧ax ι' S' w' r v∧cy base ι' S' w' h'∧h.length≤h'.length∧K r h'
def cw.mono{args:List AV}{K K':AV→aa→Prop}(c:cw P f args h K)(hk:∀r h',K r h'→K' r h'):cw P f args h K':=
 fun base ι S w vs h1 h2=>(c base ι S w vs h1 h2).mono fun _ _ ⟨v,ι',S',r,h',a1,a2,a3,a4,a5,a6⟩=>⟨v,ι',S',r,h',a1,a2,a3,a4,a5,hk _ _ a6⟩
def aV(P:Program)(f:FuncId)(args:List AV)(r:AV):Prop:=aq args∧Pure r∧cw P f args [] fun r' _=>r'=r
def cy.nil(S:bj)(w:World)(h:∀b o,S b o→b<w.heap.size)(hg:BA S w):cy w.heap.size [] S w []:=
 ⟨rfl,by simp,by simp,by simp,fun i j b hi _=>by simp[alive]at hi,h,aS _,hg⟩
def cy.over{base:Nat}(hh:cy base ι S w h)(hE:bM ι.length w.heap.size ι S w ι S' w')(hst:∀b o,S' b o→b<w'.heap.size):cy base ι S' w' h:=by
 refine⟨hh.len,fun id x e=>?_,fun id t sz n e=>?_,fun id en e=>(hh.im id en e).step hE (aS _) rfl fun b _ hb=>⟨hE.mI.block b hb,fun o ho=>(hE.new b o ho).elim (fun q=>q) fun k=>absurd hb (Nat.not_lt.2 k)⟩,hh.inj,hst,aat hh.ji hE.mI.size,hh.gl.fq hE⟩;rotate_left
 ·obtain⟨v,h1,h2⟩:=hh.tok id t sz n e;refine⟨v,h1,h2.eT fun b hb _ hlt=>⟨hE.mI.block b hlt,fun o ho=>?_⟩⟩;rcases hE.new b o ho with k|k
  ·exact k
  ·omega
 obtain⟨b,arr,fz,h1,h2,h3,h4,h5,h6,h7,h8,h9⟩:=hh.live id x e;have hb:b<w.heap.size:=by
  rcases AS b w.heap.size with k|k
  ·exact k
  ·rw[aaT k]at h3;cases h3
 refine⟨b,arr,fz,h1,h2,by rw[hE.mI.block b hb];exact h3,h4,h5,fun i c e=>?_,fun hw o ho=>?_,fun o ho=>?_,fun q o ho=>hE.sub _ _ (h9 q o ho)⟩
 ·obtain⟨v,e1,e2⟩:=h6 i c e;exact⟨v,e1,ax.fq hE (aS _) c v e2⟩
 ·rcases hE.new b o ho with k|k
  ·exact h7 hw o k
  ·omega
 ·rcases hE.new b o ho with k|k
  ·exact h8 o k
  ·omega
def aV.call{args:List AV}(c:aV P f args r){K:AV→aa→Prop}(hk:K r h):cw P f args h K:=by
 obtain⟨pa,pr,c⟩:=c;intro base ι S w vs h1 h2;refine (c w.heap.size [] S w vs (aD.pure args vs pa h1) (cy.nil S w h2.fV h2.gl)).mono ?_;rintro e w' ⟨v,ι',S',r',h',e1,e2,e3,e4,_,rfl⟩;have hE:bM ι.length w.heap.size ι S w ι S' w':=⟨fun _ _=>eW.refl _,e2.sub,e2.new,e2.cell,e2.vj,e2.mI⟩;exact⟨v,ι,S',r',h,e1,hE.mono (by rw[h2.len];exact aS _) h2.ji,ax.pure r' v pr e3,h2.over hE e4.fV,aS _,hk⟩
end
section
open Go Go.RowKit
variable [Laid]
/-! ### Values -/
def oY:Value→AV
 | .string s=>if s.size≤maxLen then .str s.data.toList else .any
 | x=>.v x
def jq:Value→AV
 | .agg cs=>.agg (cs.toList.map oY)
 | x=>oY x
omit [Laid] in
theorem tT(ι:List Ix)(S:bj)(w:World)(x:Value):ax ι S w (oY x) x:=by
 unfold oY;split
 ·split
  ·rename_i s h;cases s with
   | mk d=>simpa[ByteArray.size]using h
  ·simp
 ·simp
omit [Laid] in
theorem sF(ι:List Ix)(S:bj)(w:World)(x:Value):ax ι S w (jq x) x:=by
 unfold jq;split
 ·rename_i cs;rw[ax];refine⟨cs.toList,by simp,aD.mk (by simp) fun i a v e f=>?_⟩;simp only[iS,f,aaR,ON]at e;subst e;exact tT ι S w v
 ·exact tT ι S w x
def aH(fr:Fr):Operand→AV
 | .tmp t=>bF fr t
 | .const v=>jq v
 | .global g=>match Laid.TW g with|some cs=>.ip cs|none=>.any
 | .func f=>.fn (.func f) [] []
theorem bW.eval{base:Nat}{ι:List Ix}{S:bj}{a:Act}{w:World}{st:St}(hr:bW base ι S a w st)(x:Operand):ax ι S w (aH st.fr x) (a.eval x):=by
 cases x with
 | tmp t=>exact hr.get t
 | const v=>exact sF ι S w v
 | global g =>
   simp only[aH,Act.eval];split
   ·rename_i cs e;rw[ax];exact⟨g,0,rfl,bI.pure cs g 0 (Laid.pure g cs e) (hr.hp.gl g cs e).1⟩
   ·simp
 | func f=>simp only[aH,Act.eval];rw[ax];exact⟨[],[],rfl,by simp,by simp⟩
def bl:AV→List AV
 | .agg cs=>cs
 | x=>[x]
def bw:AV→Bool
 | .v x=>x.oneCell'
 | .any|.agg _|.aw _=>false
 | _=>true
omit [Laid] in
theorem yr{ι:List Ix}{S:bj}{w:World}{a:AV}{v:Value}(h:bw a=true)(r:ax ι S w a v):v.oneCell'=true:=by
 cases a<;>simp only[bw,aaj]at h
 case v x=>simp at r;subst r;exact h
 case str l=>simp at r;rw[r.1];rfl
 case emp=>rw[ax]at r;obtain⟨a,rfl⟩:=r;rfl
 case sl=>rw[ax]at r;obtain⟨a,cap,rfl,_⟩:=r;rfl
 case sb=>rw[ax]at r;obtain⟨⟨a,cap,rfl,_⟩,_⟩:=r;rfl
 case ip=>rw[ax]at r;obtain⟨a,cap,rfl,_⟩:=r;rfl
 case own=>rw[ax]at r;obtain⟨b,a,cap,n,ty,_,rfl,_⟩:=r;rfl
 case op=>rw[ax]at r;obtain⟨b,_,rfl⟩:=r;rfl
 case fn=>rw[ax]at r;obtain⟨b,c,rfl,_⟩:=r;rfl
 case fJ=>rw[ax]at r;obtain⟨b,rfl,_⟩:=r;rfl
 case mp=>rw[ax]at r;obtain⟨b,_,rfl⟩:=r;rfl
omit [Laid] in
theorem JU{v:Value}(h:v.oneCell'=true):v.cells=#[v]:=by cases v<;>first|rfl|cases h
omit [Laid] in
theorem tU{ι:List Ix}{S:bj}{w:World}{a:AV}{v:Value}(r:ax ι S w a v)(h:(bl a).all bw=true):∃vs:List Value,v.cells=vs.toArray∧aD ι S w (bl a) vs∧∀u∈vs,u.oneCell'=true:=by
 have key:∀{cs:List AV} {vs:List Value},aD ι S w cs vs→cs.all bw=true→∀u∈vs,u.oneCell'=true:=by
  intro cs;induction cs with
  | nil=>intro vs h _ u hu;simp at h;subst h;cases hu
  | cons c cs ih =>
    intro vs h hs u hu;cases vs with
    | nil=>simp at h
    | cons v vs =>
      simp at h hs;simp only[IS]at hu;rcases hu with rfl|hu
      ·exact yr hs.1 h.1
      ·exact ih h.2 (by simpa using hs.2) u hu
 cases a
 case agg cs =>
  rw[ax]at r;obtain⟨vs,rfl,k⟩:=r;exact⟨vs,rfl,k,key k h⟩
 all_goals
  simp only[bl,aaC,List.all_nil,Bool.and_true]at h;have:=yr h r;exact⟨[v],by rw[JU this],(bL _ _ _ _).2 ⟨r,by simp⟩,by simpa using this⟩
/-! ### Memory -/
omit [Laid] in
theorem xH{w:World}(o:Obj){b:Nat}{x:TypeId×Nat}(h:w.shape? b=some x):(w.alloc o).shape? b=some x:=by
 unfold World.shape? at *;have hb:b<w.heap.size:=by
  rcases AS b w.heap.size with k|k
  ·exact k
  ·rw[aaT k]at h;cases h
 rw[show (w.alloc o).heap[b]?=w.heap[b]? from Below.heap_alloc w o b hb];exact h
omit [Laid] in
theorem bM.alloc{base:Nat}{ι:List Ix}{S:bj}{w:World}(hb:base≤w.heap.size)(hs:∀b o,S b o→b<w.heap.size)(o:Obj)(k:List Ix):bM ι.length base ι S w (ι++k) S (w.alloc o):=
 ⟨fun i hi=>eW.of_eq (gE hi),fun _ _ h=>h,fun _ _ h=>.inl h,
  fun b f h=>World.cell?_of_block (w:=w) (Below.heap_alloc w o b (hs b f h)),fun _ _ h=>xH o h,(Below.refl _ _).alloc hb o⟩
omit [Laid] in
theorem wY{w:World}{b:Nat}{o:Obj}(k:w.heap[b]?=some o):b<w.heap.size:=by
 rcases AS b w.heap.size with q|q
 ·exact q
 ·rw[aaT q]at k;cases k
theorem cy.wu{base:Nat}{ι ι':List Ix}{S S':bj}{w w':World}{h h':aa}(hh:cy base ι S w h)(hE:bM ι.length base ι S w ι' S' w')(hlen:ι'.length=h'.length)(T:Nat)
 (old:∀i,i≠T→alive h'[i]?→h'[i]?=h[i]?∧ι'[i]?=ι[i]?∧∀b,zc ι[i]? b→b<w.heap.size→w'.heap[b]?=w.heap[b]?∧∀o,S' b o→S b o)
 (newb:∀x,h'[T]?=some (.ak x)→∃b arr fz,ι'[T]?=some (.ak b)∧base≤b∧w'.heap[b]?=some (.cells arr x.ty fz)∧(∀o,o<arr.size→¬(fz.1≤o∧o<fz.2))∧x.cells.length≤arr.size ∧
  (∀(i:Nat) (c:AV),x.cells[i]?=some c→∃v,arr[i]?=some v∧ax ι' S' w' c v)∧(x.wr=true→∀o,¬S' b o)∧(∀o,S' b o→o<x.cells.length)∧(x.wr=false→∀o,o<x.cells.length→S' b o))
 (newt:∀e sz n,h'[T]?=some (.tok e sz n)→∃v,ι'[T]?=some (.tok n v)∧tV base S' w' e sz n v)
 (newo:∀en,h'[T]?=some en→rJ ι' S' w' base ι'[T]? en)
 (hinj:∀j b,j≠T→alive h'[T]?→alive h'[j]?→zc ι'[T]? b→zc ι'[j]? b→False)
 (hstb:∀b o,S' b o→b<w'.heap.size) (hbas:base≤w'.heap.size):cy base ι' S' w' h':=by
 refine⟨hlen,fun id x e=>?_,fun id t sz n e=>?_,fun id en e=>?_,fun i j b ai aj hi hj=>?_,hstb,hbas,hh.gl.fq hE⟩;rotate_left 2
 ·by_cases q:id=T
  ·subst q;exact newo en e
  ·by_cases hd:en=.dead
   ·subst hd;trivial
   ·obtain⟨o1,o2,o3⟩:=old id q (by rw[e];cases en<;>first|trivial|exact absurd rfl hd);exact (hh.im id en (o1▸e)).step hE (aS _) o2 fun b hb=>o3 b (by rw[hb];rfl)
 rotate_left 1
 ·by_cases q:id=T
  ·subst q;exact newb x e
  ·obtain⟨o1,o2,o3⟩:=old id q (by rw[e];exact trivial);obtain⟨b,arr,fz,h1,h2,h3,h4,h5,h6,h7,h8,h9⟩:=hh.live id x (o1▸e);obtain⟨p1,p2⟩:=o3 b (by rw[h1];rfl) (wY h3);exact⟨b,arr,fz,o2.trans h1,h2,p1.trans h3,h4,h5,fun i c ec=>let ⟨v,e1,e2⟩:=h6 i c ec;⟨v,e1,ax.fq hE (aS _) c v e2⟩,
    fun hw o ho=>h7 hw o (p2 o ho),fun o ho=>h8 o (p2 o ho),fun hw o ho=>hE.sub _ _ (h9 hw o ho)⟩
 ·by_cases q:id=T
  ·subst q;exact newt t sz n e
  ·obtain⟨o1,o2,o3⟩:=old id q (by rw[e];exact trivial);obtain⟨v,h1,h2⟩:=hh.tok id t sz n (o1▸e);exact⟨v,o2.trans h1,h2.eT fun b hb _ hlt=>o3 b (by rw[h1];exact hb) hlt⟩
 ·by_cases q:i=T
  ·by_cases r:j=T
   ·rw[q,r]
   ·subst q;exact (hinj j b r ai aj hi hj).elim
  ·by_cases r:j=T
   ·subst r;exact (hinj i b q aj ai hj hi).elim
   ·obtain⟨o1,o2,_⟩:=old i q ai;obtain⟨p1,p2,_⟩:=old j r aj;exact hh.inj i j b (o1▸ai) (p1▸aj) (o2▸hi) (p2▸hj)
theorem cy.Ax{base:Nat}{ι:List Ix}{S:bj}{w:World}{h:aa}(hh:cy base ι S w h){i b:Nat}(ha:alive h[i]?)(hb:zc ι[i]? b):base≤b∧b<w.heap.size:=by
 cases e:h[i]? with
 | none=>rw[e]at ha;exact ha.elim
 | some x =>
   cases x with
   | dead=>rw[e]at ha;exact ha.elim
   | ak x =>
     obtain⟨c,arr,fz,h1,h2,h3,_⟩:=hh.live i x e;rw[h1]at hb;have:c=b:=hb;subst this;exact⟨h2,wY h3⟩
   | mp c es =>
     obtain⟨d,h1,h2,h3⟩:=(hh.im i _ e).at (.inl ⟨_,_,rfl⟩);rw[h1]at hb;have:d=b:=hb;subst this;exact⟨h2,h3⟩
   | it m s sn l =>
     obtain⟨d,h1,h2,h3⟩:=(hh.im i _ e).at (.inr ⟨_,_,_,_,rfl⟩);rw[h1]at hb;have:d=b:=hb;subst this;exact⟨h2,h3⟩
   | tok t sz n =>
     obtain⟨v,h1,a,cap,ev,_,_,h4⟩:=hh.tok i t sz n e;rw[h1]at hb;obtain⟨a',l',cap',ev',hb,hc⟩:=hb;rw[ev]at ev';cases ev';rcases h4 with h4|⟨c,arr,fz,ea,k1,k2,_⟩
     ·exact absurd h4 hc
     ·cases ea;simp only at hb;subst hb;exact⟨k1,wY k2⟩
omit [Laid] in
theorem Ph{α:Type}{l k:List α}{i:Nat}(h:i<l.length):(l++k)[i]?=l[i]?:=gE h
omit [Laid] in
theorem js{α:Type}{l:List α}{x:α}:(l++[x])[l.length]?=some x:=by simp
omit [Laid] in
theorem mO{α:Type}{l:List α}{x:α}{i:Nat}(h:i≠l.length):(l++[x])[i]?=l[i]?:=by
 rcases AS i l.length with q|q
 ·exact Ph q
 ·rw[lE (by simp;omega),lE q]
theorem cy.push{base:Nat}{ι:List Ix}{S S':bj}{w w':World}{h:aa}(hh:cy base ι S w h)(ix:Ix)(en:aY)(hE:bM ι.length base ι S w (ι++[ix]) S' w')
 (same:∀b,b<w.heap.size→base≤b→w'.heap[b]?=w.heap[b]?∧∀o,S' b o→S b o)
 (newb:∀x,en=.ak x→∃b arr fz,ix=.ak b∧base≤b∧w'.heap[b]?=some (.cells arr x.ty fz)∧(∀o,o<arr.size→¬(fz.1≤o∧o<fz.2))∧x.cells.length≤arr.size ∧
  (∀(i:Nat) (c:AV),x.cells[i]?=some c→∃v,arr[i]?=some v∧ax (ι++[ix]) S' w' c v)∧(x.wr=true→∀o,¬S' b o)∧(∀o,S' b o→o<x.cells.length)∧(x.wr=false→∀o,o<x.cells.length→S' b o))
 (newt:∀e sz n,en=.tok e sz n→∃v,ix=.tok n v∧tV base S' w' e sz n v)
 (newo:rJ (ι++[ix]) S' w' base (some ix) en)
 (hnew:en≠.dead→∀b,zc (some ix) b→w.heap.size≤b) (hstb:∀b o,S' b o→b<w'.heap.size):cy base (ι++[ix]) S' w' (h++[en]):=by
 have hl:=hh.len;refine hh.wu hE (by simp[hl]) h.length (fun i hi ha=>?_) (fun x e=>?_) (fun e sz n q=>?_) (fun en' q=>by rw[js]at q;cases q;rw[←hl,js];exact newo) (fun j b hj aT aj hi hj' => ?_) hstb (aat hh.ji hE.mI.size)
 ·have hi':i≠ι.length:=by rw[hl];exact hi
  refine⟨mO hi,mO hi',fun b hb hlt=>?_⟩;rw[mO hi]at ha;exact same b hlt (hh.Ax ha hb).1
 ·rw[js]at e;obtain⟨b,arr,fz,h1,h2⟩:=newb x (by simpa using e);exact⟨b,arr,fz,by rw[←hl,js,h1],h2⟩
 ·rw[js]at q;obtain⟨v,h1,h2⟩:=newt e sz n (by simpa using q);exact⟨v,by rw[←hl,js,h1],h2⟩
 ·rw[←hl,js]at hi;rw[mO hj]at aj;rw[mO (by rw[hl];exact hj)]at hj';have hd:en≠.dead:=by rintro rfl;rw[js]at aT;exact aT
  have h1:=hnew hd b hi;have h2:=(hh.Ax aj hj').2;omega
theorem cy.alloc{base:Nat}{ι:List Ix}{S:bj}{w:World}{h:aa}(hh:cy base ι S w h)(t:TypeId)(cs:List AV)(vs:List Value)(r:aD ι S w cs vs)(fz:Nat×Nat:=(0,0))(more:List Value:=[])
 (hf:∀o,o<vs.length+more.length→¬(fz.1≤o∧o<fz.2)) :
 cy base (ι++[.ak w.heap.size]) S (w.alloc (.cells (vs++more).toArray t fz)) (h++[.ak ⟨t,cs,true⟩]):=by
 have hE:bM ι.length base ι S w (ι++[.ak w.heap.size]) S (w.alloc (.cells (vs++more).toArray t fz)):=bM.alloc hh.ji (fun b o=>hh.fV b o) _ _;have hnew:(w.alloc (.cells (vs++more).toArray t fz)).heap[w.heap.size]?=some (.cells (vs++more).toArray t fz):=by
  show (w.heap.push _)[w.heap.size]?=_;simp
 have hl:=r.length;have hf':∀o,o<(vs++more).toArray.size→¬(fz.1≤o∧o<fz.2):=by intro o ho;exact hf o (by simpa using ho)
 refine hh.push _ _ hE (fun b hb _=>⟨Below.heap_alloc w _ b hb,fun _ q=>q⟩) (fun x e=>?_) (fun _ _ _ e=>by cases e) trivial (fun _ b hb=>?_) (fun b o s=>?_)
 ·cases e;refine⟨w.heap.size,(vs++more).toArray,fz,rfl,hh.ji,hnew,hf',by simp[hl]<;>omega,fun i c e=>?_,fun _ o s=>?_,fun o s=>?_,fun q=>by cases q⟩
  ·obtain⟨v,e1,e2⟩:=r.get i c e;obtain⟨hi,_⟩:=dO.1 e1;exact⟨v,by simp only[List.getElem?_toArray];rw[gE hi];exact e1,ax.fq hE (aS _) c v e2⟩
  ·have:=hh.fV _ _ s;omega
  ·have:=hh.fV _ _ s;omega
 ·have:w.heap.size=b:=hb;omega
 ·have:=hh.fV b o s;show b<(w.heap.push _).size;simp;omega
omit [Laid] in
theorem rZ{w:World}{b:Nat}{arr:Array Value}{t:TypeId}{fz:Nat×Nat}(h:w.heap[b]?=some (.cells arr t fz))(o:Nat)(v:Value):
 (w.setCell ⟨b,o,none⟩ v).heap[b]?=some (.cells (arr.setIfInBounds o v) t fz):=by
 simp only[World.setCell,Array.getElem?_modify,if_true,h,aaR];simp
omit [Laid] in
theorem vh{w:World}(a:Addr)(v:Value)(b:Nat):(w.setCell a v).shape? b=w.shape? b:=by
 unfold World.shape? World.setCell;simp only[Array.getElem?_modify]
 by_cases hb:a.block=b
 ·simp only[hb,if_true];cases h:w.heap[b]? with
  | none=>rfl
  | some o=>cases o<;>simp;split<;>simp
 ·simp only[hb,if_false]
theorem cy.set{base:Nat}{ι:List Ix}{S:bj}{w:World}{h:aa}(hh:cy base ι S w h){id:Nat}{x:jl}(e:h[id]?=some (.ak x))(hw:x.wr=true){b:Nat}(hb:ι[id]?=some (.ak b))
 {o:Nat} (ho:o<x.cells.length) {c:AV} {v:Value} (r:ax ι S w c v) :
 bM ι.length base ι S w ι S (w.setCell ⟨b,o,none⟩ v)∧cy base ι S (w.setCell ⟨b,o,none⟩ v) (h.set id (.ak { x with cells:=x.cells.set o c })):=by
 obtain⟨b',arr,fz,h1,h2,h3,h4,h5,h6,h7,h8,h9⟩:=hh.live id x e;rw[hb]at h1;cases h1;have hlt:id<h.length:=(dO.1 e).1;have hE:bM ι.length base ι S w ι S (w.setCell ⟨b,o,none⟩ v):=by
  refine⟨fun _ _=>eW.refl _,fun _ _ h=>h,fun _ _ h=>.inl h,fun b' o' s=>?_,fun b' y hy=>by rw[vh];exact hy,(Below.refl _ _).setCell h2 v⟩;have hne:b'≠b:=fun q=>h7 hw o' (q▸s);exact World.cell?_of_block (w:=w) (Below.heap_setCell w _ v b' hne)
 refine⟨hE,hh.wu hE (by simp[hh.len]) id (fun i hi ha=>?_) (fun y ey=>?_) (fun t sz n q=>?_) (fun en q=>by rw[iF hlt]at q;cases q;trivial) (fun j c' hj _ aj hi hj' => ?_) (fun b' o' s=>by have:=hh.fV b' o' s;simpa[World.setCell]using this) (by have:=hh.ji;simpa[World.setCell]using this)⟩
 ·rw[iN (Ne.symm hi)]at ha ⊢;refine⟨rfl,rfl,fun c' hc _=>⟨Below.heap_setCell w _ v c' fun q=>?_,fun _ q=>q⟩⟩;simp only at q;subst q;exact hi (hh.inj i id c' ha (by rw[e];exact trivial) hc (by rw[hb];rfl))
 ·rw[iF hlt]at ey;cases ey;refine⟨b,arr.setIfInBounds o v,fz,hb,h2,rZ h3 o v,by simpa using h4,by simpa using h5,fun i d ed=>?_,h7,by simpa using h8,fun q=>by rw[hw]at q;cases q⟩
  by_cases hi:i=o
  ·subst hi;simp only[iF ho,ON]at ed;subst ed;refine⟨v, ?_,ax.fq hE (aS _) c v r⟩;rw[Array.getElem?_setIfInBounds];simp;omega
  ·have ed':x.cells[i]?=some d:=by rw[iN (Ne.symm hi)]at ed;exact ed
   obtain⟨u,e1,e2⟩:=h6 i d ed';exact⟨u,by rw[Array.getElem?_setIfInBounds_ne (Ne.symm hi)];exact e1,ax.fq hE (aS _) d u e2⟩
 ·rw[iF hlt]at q;cases q
 ·rw[iN (Ne.symm hj)]at aj;exact hj (hh.inj j id c' aj (by rw[e];exact trivial) hj' hi)
def bU:List AV→Nat→List AV→List AV
 | cells,_,[]=>cells
 | cells,o,c:: cs=>bU (cells.set o c) (o+1) cs
omit [Laid] in
theorem pK:∀(cs cells:List AV) (o:Nat),(bU cells o cs).length=cells.length
 | [],_,_=>rfl
 | c:: cs,cells,o=>by rw[bU,pK cs];simp
omit [Laid] in
theorem addr_add(b o i:Nat):(⟨b,o,none⟩:Addr).add i=⟨b,o+i,none⟩:=by
 unfold Addr.add;split
 ·simp_all
 ·rfl
omit [Laid] in
theorem hY{w:World}{b:Nat}{arr:Array Value}{t:TypeId}{fz:Nat×Nat}(h:w.heap[b]?=some (.cells arr t fz))(o:Nat):w.cell? ⟨b,o,none⟩=arr[o]?:=by
 unfold World.cell?;simp[h]
omit [Laid] in
theorem rW{w:World}{b:Nat}{arr:Array Value}{t:TypeId}{fz:Nat×Nat}(h:w.heap[b]?=some (.cells arr t fz))(o:Nat):w.frozen? ⟨b,o,none⟩=(decide (fz.1≤o)&&decide (o<fz.2)):=by
 unfold World.frozen?;simp[h]
theorem tJ{P:Program}{base:Nat}{ι:List Ix}{S:bj}:∀(vs:List Value) (cs:List AV) (w:World) (h:aa),cy base ι S w h→∀{id:Nat} {x:jl} {b:Nat},h[id]?=some (.ak x)→x.wr=true→ι[id]?=some (.ak b) →
 ∀(o i:Nat),o+i+cs.length≤x.cells.length→aD ι S w cs vs→(∀u∈vs,u.oneCell'=true) →
 ∃w',(storeCells ⟨b,o,none⟩ vs i).run P w=.ok () w'∧bM ι.length base ι S w ι S w'∧cy base ι S w' (h.set id (.ak { x with cells:=bU x.cells (o+i) cs }))
 | [],cs,w,h,hh,id,x,b,e,hw,hb,o,i,hl,r,hv=>by
   have:cs=[]:=by have:=r.length;simpa using this
   subst this;refine⟨w,rfl,bM.refl _ _ _ _ _, ?_⟩;have hlt:id<h.length:=(dO.1 e).1;have:h.set id (.ak { x with cells:=bU x.cells (o+i) [] })=h:=by
    rw[bU];refine List.ext_getElem? fun j=>?_
    by_cases hj:j=id
    ·subst hj;rw[iF hlt,e]
    ·rw[iN (Ne.symm hj)]
   rw[this];exact hh
 | v:: vs,[],w,h,hh,id,x,b,e,hw,hb,o,i,hl,r,hv=>by simp at r
 | v:: vs,c:: cs,w,h,hh,id,x,b,e,hw,hb,o,i,hl,r,hv=>by
   simp only[bL]at r;simp only[aab]at hl;have ho:o+i<x.cells.length:=by omega
   obtain⟨hE,hH⟩:=hh.set e hw hb ho r.1;have hlt:id<h.length:=(dO.1 e).1;obtain⟨b',arr,fz,h1,h2,h3,h4,h5,h6,h7,h8,h9⟩:=hh.live id x e;rw[hb]at h1;cases h1;have hrun:(store ((⟨b,o,none⟩:Addr).add i) v).run P w=.ok () (w.setCell ⟨b,o+i,none⟩ v):=by
    rw[addr_add,run_store P w _ v _ (hv v (by simp)),hY h3,rW h3];have:arr[o+i]?=some arr[o+i]:=aaa (by omega);rw[this];have:=h4 (o+i) (by omega);simp only[On,OF,this,if_false]
   obtain⟨w',k1,k2,k3⟩:=tJ vs cs (w.setCell ⟨b,o+i,none⟩ v) _ hH (id:=id) (x:={ x with cells:=x.cells.set (o+i) c }) (b:=b) (by rw[iF hlt]) hw hb o (i+1) (by simp;omega)
    (aD.fq hE (aS _) cs vs r.2) (fun u hu=>hv u (by simp[hu]))
   refine⟨w', ?_,hE.trans k2, ?_⟩
   ·rw[storeCells];simp only[aaE,hrun,Result.andThen];exact k1
   ·simp only[aam]at k3;rw[bU];exact k3
def aZ(n:Int):Prop:=-9223372036854775808≤n∧n≤9223372036854775807
def u9(k:IntKind)(n:Int)(K:AV→Prop):Prop:=
 match k with
 | .i64=>aZ n∧K (.v (.int .i64 n))
 | k=>K (.v (.int k (k.wrap n)))
def CZ(k:IntKind):Int:=if k.signed then -1 else k.max
def dn(op:BinOp)(k:IntKind)(x y:Int):Int:=
 let a:=BitVec.ofInt k.bits x
 let b:=BitVec.ofInt k.bits y
 match op with
 | .and=>k.wrap (a &&& b).toNat
 | .or=>k.wrap (a ||| b).toNat
 | .xor=>k.wrap (a ^^^ b).toNat
 | _=>k.wrap (a &&& ~~~b).toNat
def sO(op:BinOp)(k:IntKind)(a b:Int)(K:AV→Prop):Prop:=
 match op with
 | .add=>u9 k (a+b) K
 | .sub=>u9 k (a-b) K
 | .mul=>u9 k (a*b) K
 | .quo=>b≠0∧K (.v (.int k (k.wrap (a.tdiv b))))
 | .rem=>b≠0∧K (.v (.int k (a.tmod b)))
 | .and=>K (.v (.int k (dn .and k a b)))
 | .or=>K (.v (.int k (dn .or k a b)))
 | .xor=>K (.v (.int k (dn .xor k a b)))
 | .andNot=>K (.v (.int k (dn .andNot k a b)))
 | .eql=>K (b_ (decide (a=b)))
 | .neq=>K (b_ (!decide (a=b)))
 | .lss=>K (b_ (decide (a<b)))
 | .leq=>K (b_ (decide (a≤b)))
 | .gtr=>K (b_ (decide (b<a)))
 | .geq=>K (b_ (decide (b≤a)))
 | _=>False
def x6(op:BinOp)(a b:List UInt8)(K:AV→Prop):Prop:=
 match op with
 | .add=>a.length+b.length≤maxLen∧K (.str (a++b))
 | .eql=>K (b_ (decide (a=b)))
 | .neq=>K (b_ (!decide (a=b)))
 | .lss=>K (b_ (Op.bytesLess a b))
 | .leq=>K (b_ (Op.bytesLess a b||decide (a=b)))
 | .gtr=>K (b_ (!(Op.bytesLess a b||decide (a=b))))
 | .geq=>K (b_ (!Op.bytesLess a b))
 | _=>False
def vO(op:BinOp)(k:IntKind)(a b:Int)(K:AV→Prop):Prop:=
 0≤b∧match op with
 | .shl=>K (.v (.int k (k.wrap (a*2^(min b.toNat k.bits)))))
 | .shr=>K (.v (.int k (a.fdiv (2^(min b.toNat k.bits)))))
 | _=>False
def kp:BinOp→Bool|.shl|.shr=>true|_=>false
def ag(op:BinOp)(x y:AV)(K:AV→Prop):Prop:=
 match x,y with
 | .v (.int k a),.v (.int k' b)=>if kp op then vO op k a b K else k=k'∧sO op k a b K
 | .str a,.str b=>x6 op a b K
 | _,_=>False
def oI(op:BinOp)(x y:AV)(K:AV→Prop):Prop:=
 match x,y with
 | .v (.bool a),.v (.bool b)=>(match op with|.eql=>K (b_ (a == b))|.neq=>K (b_ (!(a == b)))|_=>False)
 | _,_=>False
def Ga:Nat→AV→AV→Option Bool
 | 0,.v (.bool a),.v (.bool b)=>some (a == b)
 | 1,.v (.int k a),.v (.int k' b)=>if k=k' then some (decide (a=b)) else none
 | 2,.str a,.str b=>some (decide (a=b))
 | _,_,_=>none
def ij:List Nat→List AV→List AV→Option Bool
 | [],[],[]=>some true
 | k:: ks,x:: xs,y:: ys=>match Ga k x y,ij ks xs ys with|some a,some b=>some (a&&b)|_,_=>none
 | _,_,_=>none
def sN(neg:Bool)(ks:List Nat)(x y:AV)(K:AV→Prop):Prop:=
 match x,y with
 | .agg xs,.agg ys=>(match ij ks xs ys with|some b=>K (b_ (if neg then !b else b))|none=>False)
 | _,_=>False
def bG(c a b:AV)(K:AV→Prop):Prop:=∃t,c=.v (.bool t)∧(t=true→K a)∧(t=false→K b)
def af(c:AV)(A B:Prop):Prop:=∃t,c=.v (.bool t)∧(t=true→A)∧(t=false→B)
def aL(c:AV)(want:Bool)(A B:Prop):Prop:=(∃t,c=.v (.bool t)∧(t=want→A)∧(t=(!want)→B))∨(c=.v undef∧B)
def bT(x:AV)(K:AV→Prop):Prop:=∃t,x=.v (.bool t)∧K (b_ (!t))
def sQ(x:AV)(K:AV→Prop):Prop:=∃k n,x=.v (.int k n)∧u9 k (0-n) K
def cH(k:IntKind)(x:AV)(K:AV→Prop):Prop:=∃k' n,x=.v (.int k' n)∧K (.v (.int k (k.wrap n)))
def ay(i:Nat)(x:AV)(K:AV→Prop):Prop:=
 match x with
 | .aw cs=>match cs[i]? with|some c=>K c|none=>False
 | _=>False
def ky(g:Bool)(sz:Nat)(cs:List AV)(K:AV→Prop):Prop:=
 match g with
 | true=>sz≤cs.length∧K (.agg (cs.take sz))
 | false=>match cs with|c:: _=>K c|[]=>False
def qT(g:Bool)(off n:Nat)(x:AV)(K:AV→Prop):Prop:=
 match x with
 | .agg cs=>ky g n (cs.drop off) K
 | _=>False
def dW(x i:AV)(K:AV→Prop):Prop:=
 match x,i with
 | .str l,.v (.int _ n)=>(0≤n∧n<l.length)∧K (.v (.int .u8 (l.getD n.toNat 0).toNat))
 | _,_=>False
def pW(g:Bool)(sz len:Nat)(x i:AV)(K:AV→Prop):Prop:=
 match x,i with
 | .agg cs,.v (.int _ n)=>(0≤n∧n<len)∧ky g sz (cs.drop (n.toNat*sz)) K
 | _,_=>False
def dS:Option AV→Int→Option Int
 | none,d=>some d
 | some (.v (.int _ n)),_=>some n
 | _,_=>none
def eS(x:AV)(lo hi:Option AV)(K:AV→Prop):Prop:=
 match x with
 | .str l=>(match dS lo 0,dS hi l.length with
   | some a,some b=>(0≤a∧a≤b∧b≤l.length)∧K (.str ((l.take b.toNat).drop a.toNat))
   | _,_=>False)
 | _=>False
def lQ:AV→AV
 | .v (.slice none 0 0)=>.emp
 | .sb _ sz rows=>.sl sz rows
 | x=>x
def iB(n:Nat)(x:AV)(lo hi:Option AV)(K:AV→Prop):Prop:=
 match lQ x with
 | .sl sz rows=>(match dS lo 0,dS hi rows.length with
   | some a,some b=>sz=n∧(0≤a∧a≤b∧b≤rows.length)∧K (.sl sz ((rows.take b.toNat).drop a.toNat))
   | _,_=>False)
 | .own id off len sz=>(match dS lo 0,dS hi len with
   | some a,some b=>sz=n∧(0≤a∧a≤b∧b≤len)∧K (.own id (off+a.toNat*sz) (b-a).toNat sz)
   | _,_=>False)
 | .emp=>(match dS lo 0,dS hi 0 with
   | some a,some b=>(a=0∧b=0)∧K .emp
   | _,_=>False)
 | _=>False
def chunks(sz:Nat):Nat→List AV→List (List AV)
 | 0,_=>[]
 | n+1,cs=>cs.take sz:: chunks sz n (cs.drop sz)
def Au(n sz:Nat)(x:AV)(lo hi:Option AV)(h:aa)(K:AV→Prop):Prop:=
 match x with
 | .op id off=>(match dS lo 0,dS hi n,h[id]? with
   | some a,some b,some (.ak ak)=>(off+n*sz≤ak.cells.length∧0≤a∧a≤b∧b≤n∧n≤maxLen)∧K (.own id (off+a.toNat*sz) (b-a).toNat sz)
   | _,_,_=>False)
 | .ip cs=>(match dS lo 0,dS hi n with
   | some a,some b=>(n*sz≤cs.length∧0<n∧n≤maxLen∧a=0∧b=n)∧K (.sl sz (chunks sz n cs))
   | _,_=>False)
 | _=>False
def au(m:Nat)(x i:AV)(K:AV→Prop):Prop:=
 match lQ x,i with
 | .sl sz rows,.v (.int _ n)=>sz=m∧(0≤n∧n<rows.length)∧K (.ip (rows.getD n.toNat []))
 | .own id off len sz,.v (.int _ n)=>sz=m∧(0≤n∧n<len)∧K (.op id (off+n.toNat*sz))
 | _,_=>False
def fW(len sz:Nat)(x i:AV)(K:AV→Prop):Prop:=
 match x,i with
 | .op id off,.v (.int _ n)=>(0≤n∧n<len)∧K (.op id (off+n.toNat*sz))
 | .ip cs,.v (.int _ n)=>(0≤n∧n<len)∧K (.ip (cs.drop (n.toNat*sz)))
 | _,_=>False
def aN(off:Nat)(x:AV)(K:AV→Prop):Prop:=
 match x with
 | .ip cs=>K (.ip (cs.drop off))
 | .op id o=>K (.op id (o+off))
 | _=>False
def vN(x:AV)(K:AV→Prop):Prop:=
 match x with
 | .ip _|.op _ _=>K x
 | .fn (.func _) _ _=>K x
 | _=>False
def ae(g:Bool)(sz:Nat)(x:AV)(h:aa)(K:AV→Prop):Prop:=
 match x with
 | .ip cs=>ky g sz cs K
 | .op id o=>(match h[id]? with
   | some (.ak b)=>ky g sz (b.cells.drop o) K
   | _=>False)
 | _=>False
def ah(sz:Nat)(x v:AV)(h:aa)(K:aa→Prop):Prop:=
 match x with
 | .op id o=>(match h[id]? with
   | some (.ak b)=>(b.wr=true∧o+(bl v).length≤b.cells.length∧(bl v).length=sz∧(bl v).all bw=true)∧K (h.set id (.ak { b with cells:=bU b.cells o (bl v) }))
   | _=>False)
 | _=>False
def aB(t:TypeId)(v:AV)(h:aa)(K:AV→aa→Prop):Prop:=
 (bl v).all bw=true∧K (.op h.length 0) (h++[.ak ⟨t,bl v,true⟩])
def dD:List AV→List (Nat×Nat×AV)→Option (List AV)
 | cells,[]=>some cells
 | cells,(o,n,x):: r=>if (bl x).length=n∧o+n≤cells.length∧(bl x).all bw=true then dD (bU cells o (bl x)) r else none
def bf(zero:AV)(parts:List (Nat×Nat×AV))(K:AV→Prop):Prop:=
 match dD (bl zero) parts with
 | some cs=>K (.agg cs)
 | none=>False
def eZ:Nat→List AV→List AV
 | 0,_=>[]
 | n+1,z=>z++eZ n z
def dF(t len sz:Nat)(zero:AV)(parts:List (Nat×Nat×AV))(h:aa)(K:AV→aa→Prop):Prop:=
 match dD (eZ len (bl zero)) parts with
 | some cs=>(match len with
   | 0=>K .emp h
   | len+1=>K (.own h.length 0 (len+1) sz) (h++[.ak ⟨t,cs,true⟩]))
 | none=>False
def bz(len sz:Nat)(zero:AV)(parts:List (Nat×Nat×AV))(K:AV→Prop):Prop:=
 match dD (eZ len (bl zero)) parts with
 | some cs=>K (.sl sz (chunks sz len cs))
 | none=>False
def iL(h:aa)(sz:Nat)(x:AV):Option (List (List AV)):=
 match lQ x with
 | .emp=>some []
 | .sl sz' rows=>if sz'=sz then some rows else none
 | .own id off len sz' => (match h[id]? with
   | some (.ak b)=>if sz'=sz∧off+len*sz≤b.cells.length then some (chunks sz len (b.cells.drop off)) else none
   | _=>none)
 | _=>none
def bS(b:UInt8):AV:=.v (.int .u8 b.toNat)
def Bk:AV→Option (List (List AV))
 | .str l=>some (l.map fun b=>[bS b])
 | _=>none
def da(sz:Nat)(r:List AV):Bool:=r.length == sz&&r.all bw
def gM(bytes n:Nat):Prop:=n≤maxLen∧n*bytes≤140737488355328
def xD:AV→AV
 | .v (.slice none 0 0)=>.emp
 | x=>x
def ep(own:Bool)(e sz bytes:Nat)(x:AV)(src:Option (List (List AV)))(h:aa)(K:AV→aa→Prop):Prop:=
 match src with
 | none=>False
 | some rows=>rows.all (da sz)=true∧match xD x with
   | .emp=>(match own with
     | false=>gM bytes rows.length∧K (.sb h.length sz rows) (h++[.tok e sz rows.length])
     | true=>rows≠[]∧gM bytes rows.length∧K (.own h.length 0 rows.length sz) (h++[.ak ⟨e,rows.flatten,true⟩]))
   | .sb id sz' base=>(match h[id]? with
     | some (.tok e' sz'' k)=>(sz'=sz∧sz''=sz∧e'=e∧k=base.length)∧gM bytes (k+rows.length)∧K (.sb id sz (base++rows)) (h.set id (.tok e sz (k+rows.length)))
     | _=>False)
   | .own id off len sz' => (match h[id]? with
     | some (.ak b)=>(off=0∧sz'=sz∧b.wr=true∧b.ty=e∧len*sz≤b.cells.length)∧0<len+rows.length∧gM bytes (len+rows.length) ∧
      K (.own h.length 0 (len+rows.length) sz) (h.set id .dead++[.ak ⟨e,b.cells.take (len*sz)++rows.flatten,true⟩])
     | _=>False)
   | _=>False
def bN(own:Bool)(e sz bytes:Nat)(x y:AV)(h:aa)(K:AV→aa→Prop):Prop:=ep own e sz bytes x (iL h sz y) h K
def CQ(own:Bool)(e bytes:Nat)(x y:AV)(h:aa)(K:AV→aa→Prop):Prop:=ep own e 1 bytes x (Bk y) h K
def iP(P:Program)(e:TypeId):Nat:=((P.info? e).map (·.bytes)).getD 0
def rG(P:Program)(e:TypeId):Bool:=
 match P.info? e with
 | some i=>(match i.zero with|some z=>z.cells.size == i.size|none=>false)
 | none=>false
def jO(e sz bytes:Nat)(zero len cap:AV)(h:aa)(K:AV→aa→Prop):Prop:=
 match len,cap with
 | .v (.int _ l),.v (.int _ c)=>(0≤l∧l≤c∧(bytes:Int)*c≤281474976710656∧c≤9223372036854775807)∧K (.own h.length 0 l.toNat sz) (h++[.ak ⟨e,eZ c.toNat (bl zero),true⟩])
 | _,_=>False
def jP(e:Nat)(x:AV)(h:aa)(K:AV→aa→Prop):Prop:=
 match x with
 | .str l=>K (.own h.length 0 l.length 1) (h++[.ak ⟨e,l.map bS,true⟩])
 | _=>False
def zG:List AV→Option (List UInt8)
 | []=>some []
 | .v (.int .u8 n):: r=>(zG r).map (UInt8.ofNat n.toNat:: ·)
 | _=>none
def dk(x:AV)(h:aa)(K:AV→Prop):Prop:=
 match (iL h 1 x).bind fun p=>zG p.flatten with
 | some l=>K (.str l)
 | none=>False
def Av(P:Program)(e:TypeId):Bool:=match P.underlying e with|some (.int .u8)=>true|_=>false
def cn(x:AV)(K:AV→Prop):Prop:=
 match x with
 | .str l=>l.length≤maxLen→K (i_ l.length)
 | _=>False
def aU(x:AV)(K:AV→Prop):Prop:=
 match lQ x with
 | .sl _ rows=>rows.length≤maxLen→K (i_ rows.length)
 | .own _ _ len _=>len≤maxLen→K (i_ len)
 | .emp=>K (i_ 0)
 | _=>False
def kD(x y:AV)(K:AV→Prop):Prop:=
 match x,y with
 | .v (.int k a),.v (.int k' b)=>k=k'∧K (.v (.int k (if b<a then b else a)))
 | _,_=>False
def iy(x y:AV)(K:AV→Prop):Prop:=
 match x,y with
 | .v (.int k a),.v (.int k' b)=>k=k'∧K (.v (.int k (if b > a then b else a)))
 | _,_=>False
/-! ### Types -/
def qV:TypeDesc→Bool
 | .struct _|.array _ _=>true
 | _=>false
def eK(P:Program)(t:TypeId):Bool:=match P.underlying t with|some d=>qV d|none=>false
def fo(P:Program)(t:TypeId):Bool:=(P.info? t).isSome&&(P.underlying t).isSome
def iw(P:Program)(t:TypeId):Option AV:=(P.info? t).bind fun i=>i.zero.map jq
def tp(g:TypeId→Option (List Nat))(P:Program):Nat→List Field→Option (List Nat)
 | _,[]=>some []
 | o,f:: fs=>if f.offset=o∧f.name ≠ "_" then (g f.type).bind fun ks=>if P.cellsOf f.type=ks.length∧0<ks.length then (tp g P (o+ks.length) fs).map (ks++·) else none else none
def Bf:Nat→List Nat→List Nat
 | 0,_=>[]
 | n+1,ks=>ks++Bf n ks
def kZ(P:Program):Nat→TypeId→Option (List Nat)
 | 0,_=>none
 | d+1,t =>
   if fo P t then
    match P.underlying t with
    | some .bool=>some [0]
    | some (.int _)=>some [1]
    | some .string=>some [2]
    | some (.struct fs)=>if P.stoodInHeld t then none else tp (kZ P d) P 0 fs.toList
    | some (.array n e)=>(kZ P d e).bind fun ks=>if P.cellsOf e=ks.length∧0<ks.length then some (Bf n ks) else none
    | _=>none
   else none
def cJ(P:Program)(f:FuncId):Bool:=(P.funcs[f]?).any (fun fn=>fn.body.isSome&&fn.name != "runtime.NumGoroutine")
def bA(P:Program)(x:AV)(args:List AV)(h:aa)(K:AV→aa→Prop):Prop:=
 match x with
 | .fn (.func f) first cap=>cJ P f=true∧cw P f (first++args++cap) h K
 | _=>False
def zb(x:AV)(K:AV→Prop):Prop:=
 match x with
 | .str _=>K x
 | _=>False
/-! ### Interfaces,nil -/
def uA:AV→Option Bool|.v .nilIface=>some true|.fJ _ _=>some false|_=>none
def sj:AV→Option Bool|.v (.pointer none)=>some true|.op _ _=>some false|.ip _=>some false|_=>none
def sk:AV→Option Bool
 | .v (.slice none _ _)=>some true
 | .own _ _ len _=>(match len with|0=>none|_+1=>some false)
 | .sl _ rows=>(match rows with|[]=>none|_:: _=>some false)
 | .sb _ _ rows=>(match rows with|[]=>none|_:: _=>some false)
 | _=>none
def q9(neg b:Bool):Bool:=match neg with|true=>!b|false=>b
def iH(neg:Bool)(r:Option Bool)(K:AV→Prop):Prop:=match r with|some b=>K (b_ (q9 neg b))|none=>False
def wT(neg:Bool)(d:TypeDesc)(y:Operand)(x:AV)(K:AV→Prop):Prop:=
 match d,y with
 | .interface _,.const .nilIface=>iH neg (uA x) K
 | .pointer _,.const (.pointer none)=>iH neg (sj x) K
 | .slice _,.const (.slice none _ _)=>iH neg (sk x) K
 | _,_=>False
def od(P:Program)(name:String)(t:TypeId):Option FuncId:=
 match P.info? t,P.underlying t with
 | some i,some (.pointer _)=>(match i.methods.find? (·.name == name) with
   | some m=>(match m.path.toList,m.func with|[],some (f,true)=>(match cJ P f with|true=>some f|false=>none)|_,_=>none)
   | none=>none)
 | _,_=>none
def DY(P:Program)(asserted t:TypeId):Bool:=
 match P.underlying asserted,P.info? t with
 | some (.interface want),some i=>(lacking want i.methods).isEmpty
 | _,_=>false
def pE(t:TypeId)(x:AV)(K:AV→Prop):Prop:=K (.fJ t x)
def xZ(has:TypeId→Bool)(x:AV)(K:AV→Prop):Prop:=
 match x with
 | .fJ t v=>has t=true∧K (.aw [.fJ t v,b_ true])
 | _=>False
def vK(P:Program)(row:TypeId→Option FuncId)(x:AV)(args:List AV)(h:aa)(K:AV→aa→Prop):Prop:=
 match x with
 | .fJ t v=>(match row t with|some f=>cw P f (v:: args) h K|none=>False)
 | _=>False
def ca(P:Program)(x:AV)(K:AV→Prop):Prop:=
 match x with
 | .fn (.method name) (.fJ t v:: r) ys=>(od P name t).isSome=true∧K (.fn (.method name) (.fJ t v:: r) ys)
 | x=>vN x K
abbrev cG(b:Bool)(X:Prop):Prop:=match b with|true=>X|false=>False
def bH(P:Program)(own:Bool)(ev:Operand→AV)(h:aa)(op:Op)(K:AV→aa→Prop):Prop:=
 match op with
 | .move x|.assign x=>K (ev x) h
 | .pick c a b=>bG (ev c) (ev a) (ev b) fun v=>K v h
 | .binOp op t x y _ =>
   if eK P t then
    match op with
    | .eql=>cG (!P.eqGuardType P.depth t) (match kZ P 8 t with|some ks=>sN false ks (ev x) (ev y) fun v=>K v h|none=>False)
    | .neq=>cG (!P.eqGuardType P.depth t) (match kZ P 8 t with|some ks=>sN true ks (ev x) (ev y) fun v=>K v h|none=>False)
    | _=>False
   else match P.underlying t with
    | some .bool=>oI op (ev x) (ev y) fun v=>K v h
    | some (.int _)|some .string=>ag op (ev x) (ev y) fun v=>K v h
    | some d=>(match op with
      | .eql=>wT false d y (ev x) fun v=>K v h
      | .neq=>wT true d y (ev x) fun v=>K v h
      | _=>False)
    | none=>False
 | .unOp .not _ x=>bT (ev x) fun v=>K v h
 | .unOp .neg _ x=>sQ (ev x) fun v=>K v h
 | .unOp .xor t x=>(match P.underlying t with|some (.int k)=>ag .xor (.v (.int k (CZ k))) (ev x) fun v=>K v h|_=>False)
 | .convert s d x =>
   match P.underlying s,P.underlying d with
   | some (.int _),some (.int k)=>cH k (ev x) fun v=>K v h
   | some .string,some .string=>zb (ev x) fun v=>K v h
   | some .string,some (.slice e)=>cG (Av P e) (jP e (ev x) h K)
   | some (.slice e),some .string=>cG (Av P e) (dk (ev x) h fun v=>K v h)
   | _,_=>False
 | .extract x i=>ay i (ev x) fun v=>K v h
 | .field t x i =>
   match P.underlying t with
   | some (.struct fs)=>match fs[i]? with
     | some f=>cG (fo P f.type) (qT (eK P f.type) f.offset (P.cellsOf f.type) (ev x) fun v=>K v h)
     | none=>False
   | _=>False
 | .index t x i =>
   match P.underlying t with
   | some .string=>dW (ev x) (ev i) fun v=>K v h
   | some (.array n e)=>cG (fo P e) (pW (eK P e) (P.cellsOf e) n (ev x) (ev i) fun v=>K v h)
   | _=>False
 | .slice t x lo hi none =>
   match P.underlying t with
   | some .string=>eS (ev x) (lo.map ev) (hi.map ev) fun v=>K v h
   | some (.slice e)=>cG (fo P e) (iB (P.cellsOf e) (ev x) (lo.map ev) (hi.map ev) fun v=>K v h)
   | some (.array n e)=>cG (fo P e) (Au n (P.cellsOf e) (ev x) (lo.map ev) (hi.map ev) h fun v=>K v h)
   | _=>False
 | .indexAddr t x i =>
   match P.underlying t with
   | some (.slice e)=>cG (fo P e) (au (P.cellsOf e) (ev x) (ev i) fun v=>K v h)
   | some (.array n e)=>cG (fo P e) (fW n (P.cellsOf e) (ev x) (ev i) fun v=>K v h)
   | _=>False
 | .fieldAddr t x i =>
   match P.underlying t with
   | some (.struct fs)=>match fs[i]? with
     | some f=>cG (P.cellsOf f.type != 0&&fo P f.type) (aN f.offset (ev x) fun v=>K v h)
     | none=>False
   | _=>False
 | .nilCheck x=>ca P (ev x) fun v=>K v h
 | .makeInterface t x=>cG (P.concrete t) (pE t (ev x) fun v=>K v h)
 | .typeAssert x _ asserted true=>xZ (DY P asserted) (ev x) fun v=>K v h
 | .load t x=>cG (fo P t) (ae (eK P t) (P.cellsOf t) (ev x) h fun v=>K v h)
 | .store t x v=>cG (fo P t) (ah (P.cellsOf t) (ev x) (ev v) h fun h' => K (.v undef) h')
 | .alloc t=>match iw P t with
   | some z=>aB t z h K
   | none=>False
 | .box t x=>aB t (ev x) h K
 | .build t parts =>
   match P.underlying t,iw P t with
   | some (.struct fs),some z=>cG (fs.toList.all (fun f=>fo P f.type)&&parts.toList.all (fun p=>(fs[p.1]?).isSome))
    (bf z (parts.toList.map fun p=>(((fs[p.1]?).map (·.offset)).getD 0,((fs[p.1]?).map (fun f=>P.cellsOf f.type)).getD 0,ev p.2)) fun v=>K v h)
   | some (.array _ e),some z=>cG (fo P e) (bf z (parts.toList.map fun p=>(p.1*P.cellsOf e,P.cellsOf e,ev p.2)) fun v=>K v h)
   | _,_=>False
 | .buildSlice t len parts =>
   match P.underlying t with
   | some (.slice e)=>(match iw P e with
     | some z=>cG (rG P e&&fo P e&&decide (len*P.cellsOf e≤16777216)&&decide (len≤16777216)) (match own with
      | true=>bz len (P.cellsOf e) z (parts.toList.map fun p=>(p.1*P.cellsOf e,P.cellsOf e,ev p.2)) fun v=>K v h
      | false=>dF e len (P.cellsOf e) z (parts.toList.map fun p=>(p.1*P.cellsOf e,P.cellsOf e,ev p.2)) h K)
     | none=>False)
   | _=>False
 | .makeSlice t l c =>
   match P.underlying t with
   | some (.slice e)=>(match iw P e with
     | some z=>cG (rG P e&&decide (0<P.cellsOf e)) (jO e (P.cellsOf e) (iP P e) z (ev l) (ev c) h K)
     | none=>False)
   | _=>False
 | .makeFunc f xs ys=>K (.fn f (xs.toList.map ev) (ys.toList.map ev)) h
 | .call c =>
   match c.callee with
   | .builtin .len=>(match c.argTypes[0]?,c.args[0]? with
     | some t,some x=>(match P.underlying t with
       | some .string=>cn (ev x) fun v=>K v h
       | some (.slice _)=>aU (ev x) fun v=>K v h
       | _=>False)
     | _,_=>False)
   | .builtin .min=>(match c.args.toList with|[x,y]=>kD (ev x) (ev y) fun v=>K v h|_=>False)
   | .builtin .max=>(match c.args.toList with|[x,y]=>iy (ev x) (ev y) fun v=>K v h|[x,y,z]=>iy (ev x) (ev y) fun u=>iy u (ev z) fun v=>K v h|_=>False)
   | .builtin .append=>(match c.argTypes.toList,c.args.toList with
     | [t,tx],[x,y]=>(match P.underlying t,P.underlying tx with
       | some (.slice e),some (.slice _)=>cG (rG P e) (bN own e (P.cellsOf e) (iP P e) (ev x) (ev y) h K)
       | some (.slice e),some .string=>cG (rG P e&&P.cellsOf e == 1) (CQ own e (iP P e) (ev x) (ev y) h K)
       | _,_=>False)
     | _,_=>False)
   | .value x=>bA P (ev x) (c.args.toList.map ev) h K
   | .invoke x name=>vK P (od P name) (ev x) (c.args.toList.map ev) h K
   | _=>False
 | _=>False
def we(st:St)(d:Option Tmp)(x:AV)(h:aa):St:=⟨st.n,bJ st.n st.fr d x,h⟩
def bO(want:Bool)(c:AV):AV:=match c with|.v (.bool _)=>.v (.bool (!want))|c=>c
def dM(ops:Array Oper)(j:Nat):Option Tmp:=(ops[j]?).bind (·.dst)
omit [Laid] in
def ax.lQ(h:ax ι S w x y):ax ι S w (Aw.lQ x) y:=by
 unfold Aw.lQ;split
 ·rw[cE]at h;subst h;rw[ax];exact⟨none,rfl⟩
 ·rw[ax]at h;rw[ax];exact h.1
 ·exact h
omit [Laid] in
def ax.xD(h:ax ι S w x y):ax ι S w (Aw.xD x) y:=by
 unfold Aw.xD;split
 ·rw[cE]at h;subst h;rw[ax];exact⟨none,rfl⟩
 ·exact h
def cl(P:Program)(o:Oper)(base:Nat)(ι:List Ix)(S:bj)(a:Act)(w:World)(st:St)(K:AV→aa→Prop):Prop:=
 ∀Q:Exit→Act→World→Prop,o.wp P a w (fun a' w' => ∃ι' S' v h',bM ι.length base ι S w ι' S' w'∧bW base ι' S' a' w' (we st o.dst v h')∧st.h.length≤h'.length∧K v h') Q
section
variable {P:Program} {o:Oper} {base:Nat} {ι ι':List Ix} {S S':bj} {a:Act} {w w':World} {st:St} {K:AV→aa→Prop} {v:AV} {u:Value} {h':aa}
def fX(hr:bW base ι S a w st)(hrun:(execOp a.eval o).run P w=.ok (.value u) w')(hE:bM ι.length base ι S w ι' S' w')(r:ax ι' S' w' v u)
 (hh:cy base ι' S' w' h') (hl:st.h.length≤h'.length) (k:K v h'):cl P o base ι S a w st K:=by
 intro Q;unfold Oper.wp;rw[hrun,Oper.upon_value];refine⟨ι',S',v,h',hE, ?_,hl,k⟩;have:bW base ι' S' a w' ⟨st.n,st.fr,h'⟩:=⟨hr.df,hr.sz,dd.fq hE (aS _) hr.fr,hh⟩;exact this.put o.dst r
def HZ(hr:bW base ι S a w st)(hrun:(execOp a.eval o).run P w=.ok .skip w')(hE:bM ι.length base ι S w ι' S' w')
 (hh:cy base ι' S' w' h') (hl:st.h.length≤h'.length) (k:K (.v undef) h'):cl P o base ι S a w st K:=by
 intro Q;unfold Oper.wp;rw[hrun,Oper.upon_skip];refine⟨ι',S',.v undef,h',hE, ?_,hl,k⟩;have:bW base ι' S' a w' ⟨st.n,st.fr,h'⟩:=⟨hr.df,hr.sz,dd.fq hE (aS _) hr.fr,hh⟩;exact this.put (x:=.v undef) (v:=undef) o.dst (by simp)
def bn(hr:bW base ι S a w st)(hrun:(execOp a.eval o).run P w=.ok (.value u) w)(r:ax ι S w v u)(k:K v st.h):cl P o base ι S a w st K:=
 fX hr hrun (bM.refl _ _ _ _ _) r hr.hp (aS _) k
end
omit [Laid] in
def fa(h:x.run P w=.ok u w'):(do pure (Next.value (←x)):Sem Next).run P w=.ok (.value u) w':=by
 rw[aaE,h];rfl
omit [Laid] in
def Y5(h:x.run P w=.ok () w'):(do x;pure Next.skip:Sem Next).run P w=.ok .skip w':=by
 rw[aaE,h];rfl
omit [Laid] in
def mB(h:P.info? t=some i):(typeInfo t).run P w=.ok i w:=by
 simp[typeInfo,h]
omit [Laid] in
def dp(h:fo P t=true):(sizeOf t).run P w=.ok (P.cellsOf t) w:=by
 unfold fo at h;simp only[On,Option.isSome_iff_exists]at h;obtain⟨⟨i,hi⟩,_⟩:=h;simp[sizeOf,mB hi,Program.cellsOf,hi]
omit [Laid] in
def uH(h:fo P t=true):(isAgg t).run P w=.ok (eK P t) w:=by
 unfold fo at h;simp only[On,Option.isSome_iff_exists]at h;obtain⟨_,⟨d,hd⟩⟩:=h;unfold isAgg eK;simp only[aaE,run_underlying hd,aaD,hd];cases d<;>rfl
omit [Laid] in
def ux{K:AV→Prop}(h:u9 k n K):K (.v (.int k (k.wrap n))):=by
 unfold u9 at h;split at h
 ·obtain⟨h1,h2⟩:=h;rw[IntWalk.i64_in n ⟨h1.1,h1.2⟩];exact h2
 ·exact h
section
variable {P:Program} {o:Oper} {base:Nat} {ι:List Ix} {S:bj} {a:Act} {w:World} {st:St} {K:AV→aa→Prop}
def Kl(hr:bW base ι S a w st)(ho:o.op=.move x∨o.op=.assign x)(h:K (aH st.fr x) st.h):cl P o base ι S a w st K:=
 bn hr (by rcases ho with ho|ho<;>simp[execOp,ho]) (hr.eval x) h
def TN(hr:bW base ι S a w st)(ho:o.op=.pick c x y)(h:bG (aH st.fr c) (aH st.fr x) (aH st.fr y) fun v=>K v st.h):cl P o base ι S a w st K:=by
 obtain⟨t,e,h1,h2⟩:=h;have hc:=hr.eval c;rw[e]at hc;simp only[cE]at hc;cases t with
 | true=>exact bn hr (u:=a.eval x) (by simp[execOp,ho,hc,asBool]) (hr.eval x) (h1 rfl)
 | false=>exact bn hr (u:=a.eval y) (by simp[execOp,ho,hc,asBool]) (hr.eval y) (h2 rfl)
omit [Laid] in
def PR{op:BinOp}{K:AV→Prop}(hs:kp op=false)(h:sO op k x y K):∃u,(binOp op t (.int k x) (.int k y)).run P w=.ok u w∧K (.v u):=by
 cases op<;>simp only[kp,Bool.true_eq_false]at hs<;>simp only[sO]at h
 case add=>exact⟨_,by simp[binOp,Op.intArith],ux h⟩
 case sub=>exact⟨_,by simp[binOp,Op.intArith],ux h⟩
 case mul=>exact⟨_,by simp[binOp,Op.intArith],ux h⟩
 case quo=>exact⟨_,by simp[binOp,Op.intDiv,h.1],h.2⟩
 case rem=>exact⟨_,by simp[binOp,Op.intDiv,h.1],h.2⟩
 case and=>exact⟨_,by simp only[binOp,Op.intBits];rw[if_neg (by simp)];rfl,h⟩
 case or=>exact⟨_,by simp only[binOp,Op.intBits];rw[if_neg (by simp)];rfl,h⟩
 case xor=>exact⟨_,by simp only[binOp,Op.intBits];rw[if_neg (by simp)];rfl,h⟩
 case andNot=>exact⟨_,by simp only[binOp,Op.intBits];rw[if_neg (by simp)];rfl,h⟩
 case eql=>exact⟨_,by simp only[binOp,Op.intCmp];simp;rfl,h⟩
 case neq=>exact⟨_,by simp only[binOp,Op.intCmp];simp;rfl,h⟩
 case lss=>exact⟨_,by simp only[binOp,Op.intCmp];rw[if_neg (by simp)];rfl,h⟩
 case leq=>exact⟨_,by simp only[binOp,Op.intCmp];rw[if_neg (by simp)];rfl,h⟩
 case gtr=>exact⟨_,by simp only[binOp,Op.intCmp];rw[if_neg (by simp)];rfl,h⟩
 case geq=>exact⟨_,by simp only[binOp,Op.intCmp];rw[if_neg (by simp)];rfl,h⟩
omit [Laid] in
def Kk{op:BinOp}{K:AV→Prop}(hs:kp op=true)(h:vO op k x y K):∃u,(binOp op t (.int k x) (.int k' y)).run P w=.ok u w∧K (.v u):=by
 obtain⟨h0,h⟩:=h;have h0':¬y<0:=by omega
 cases op<;>simp only[kp,aaj]at hs<;>simp only at h
 case shl=>exact⟨_,by simp[binOp,Op.shift,h0'],h⟩
 case shr=>exact⟨_,by simp[binOp,Op.shift,h0'],h⟩
omit [Laid] in
def PT{op:BinOp}{t:TypeId}{K:AV→Prop}(hx:x.length≤maxLen)(hy:y.length≤maxLen)(h:x6 op x y K):
 ∃v u,(binOp op t (.string ⟨x.toArray⟩) (.string ⟨y.toArray⟩)).run P w=.ok u w∧(∀ι S,ax ι S w v u)∧K v:=by
 have dec:∀a b:List UInt8,(a == b)=decide (a=b):=fun a b=>by by_cases q:a=b<;>simp[q]
 cases op<;>simp only[x6]at h
 case add =>
  refine⟨_,.string ⟨(x++y).toArray⟩, ?_,fun ι S=>by simpa using h.1,h.2⟩;have h1:=h.1;unfold maxLen at h1;have e1:(⟨x.toArray⟩:ByteArray).size=x.length:=rfl;have e2:(⟨y.toArray⟩:ByteArray).size=y.length:=rfl;have e3:(⟨x.toArray⟩++⟨y.toArray⟩:ByteArray)=⟨(x++y).toArray⟩:=by
   apply ByteArray.ext;simp
  simp only[binOp_string_add,Op.stringOp,e1,e2,e3];rw[if_neg (by simp only[IntKind.max,IntKind.signed,IntKind.bits];simp;omega)];rfl
 case eql=>exact⟨_,_,by simp[binOp,Op.stringOp];rfl,fun ι S=>by simp[dec],h⟩
 case neq=>exact⟨_,_,by simp[binOp,Op.stringOp];rfl,fun ι S=>by simp[dec],h⟩
 case lss=>exact⟨_,_,by simp[binOp,Op.stringOp];rfl,fun ι S=>by simp,h⟩
 case leq=>exact⟨_,_,by simp[binOp,Op.stringOp];rfl,fun ι S=>by simp[dec],h⟩
 case gtr=>exact⟨_,_,by simp[binOp,Op.stringOp];rfl,fun ι S=>by simp[dec],h⟩
 case geq=>exact⟨_,_,by simp[binOp,Op.stringOp];rfl,fun ι S=>by simp,h⟩
omit [Laid] in
def iY{op:BinOp}(h:p.oneCell'=true)(h':p≠.nilIface):(eqGuard op t x y p q).run P w=.ok () w:=by
 unfold eqGuard;cases op<;>(try rfl)<;>cases p<;>first|rfl|(exact absurd rfl h')|cases h
def NL{op:BinOp}{t yt:TypeId}(hr:bW base ι S a w st)(ho:o.op=.binOp op t x y yt)
 (h:ag op (aH st.fr x) (aH st.fr y) fun v=>K v st.h):cl P o base ι S a w st K:=by
 have hx:=hr.eval x;have hy:=hr.eval y;generalize aH st.fr x=X at *;generalize aH st.fr y=Y at *;unfold ag at h;split at h
 ·rename_i k p k' q;simp only[cE]at hx hy;have hg:(eqGuard op t x y (a.eval x) (a.eval y)).run P w=.ok () w:=iY (by rw[hx];rfl) (by rw[hx];intro e;cases e);split at h
  ·rename_i hs;obtain⟨u,e,k1⟩:=Kk (P:=P) (w:=w) (t:=t) (k':=k') hs h;exact bn hr (u:=u) (by simp only[execOp,ho];exact fa (by rw[aaE,hg];simpa[hx,hy]using e)) (by simp) k1
  ·rename_i hs;obtain⟨rfl,h⟩:=h;obtain⟨u,e,k1⟩:=PR (P:=P) (w:=w) (t:=t) (by simpa using hs) h;exact bn hr (u:=u) (by simp only[execOp,ho];exact fa (by rw[aaE,hg];simpa[hx,hy]using e)) (by simp) k1
 ·rename_i p q;simp only[dG]at hx hy;have hg:(eqGuard op t x y (a.eval x) (a.eval y)).run P w=.ok () w:=iY (by rw[hx.1];rfl) (by rw[hx.1];intro e;cases e);obtain⟨v,u,e,r,k1⟩:=PT (P:=P) (w:=w) (t:=t) hx.2 hy.2 h;exact bn hr (u:=u) (by simp only[execOp,ho];exact fa (by rw[aaE,hg];simpa[hx.1,hy.1]using e)) (r ι S) k1
 ·exact h.elim
def Ty{op:BinOp}{t yt:TypeId}(hr:bW base ι S a w st)(ho:o.op=.binOp op t x y yt)(ht:P.underlying t=some .bool)
 (h:oI op (aH st.fr x) (aH st.fr y) fun v=>K v st.h):cl P o base ι S a w st K:=by
 have hx:=hr.eval x;have hy:=hr.eval y;generalize aH st.fr x=X at *;generalize aH st.fr y=Y at *;unfold oI at h;split at h
 ·rename_i p q;simp only[cE]at hx hy;have hg:(eqGuard op t x y (a.eval x) (a.eval y)).run P w=.ok () w:=iY (by rw[hx];rfl) (by rw[hx];intro e;cases e);split at h
  ·exact bn hr (u:=.bool (p == q)) (by simp only[execOp,ho];exact fa (by rw[aaE,hg];simpa[hx,hy]using run_eql_bool w t p q ht)) (by simp) h
  ·exact bn hr (u:=.bool (!(p == q))) (by simp only[execOp,ho];exact fa (by rw[aaE,hg];simpa[hx,hy]using run_neq_bool w t p q ht)) (by simp) h
  ·exact h.elim
 ·exact h.elim
def U2(hr:bW base ι S a w st)(ho:o.op=.unOp .not t x)(h:bT (aH st.fr x) fun v=>K v st.h):cl P o base ι S a w st K:=by
 obtain⟨b,e,h⟩:=h;have hx:=hr.eval x;rw[e]at hx;simp only[cE]at hx;exact bn hr (u:=.bool (!b)) (by simp[execOp,ho,hx,Op.unary]) (by simp) h
def U0(hr:bW base ι S a w st)(ho:o.op=.unOp .neg t x)(h:sQ (aH st.fr x) fun v=>K v st.h):cl P o base ι S a w st K:=by
 obtain⟨k,n,e,h⟩:=h;have hx:=hr.eval x;rw[e]at hx;simp only[cE]at hx;exact bn hr (u:=.int k (k.wrap (0-n))) (by simp[execOp,ho,hx,Op.unary,Op.intArith]) (by simp) (ux h)
def US(hr:bW base ι S a w st)(ho:o.op=.unOp .xor t x)(h:ag .xor (.v (.int k (CZ k))) (aH st.fr x) fun v=>K v st.h):cl P o base ι S a w st K:=by
 have hx:=hr.eval x;generalize aH st.fr x=X at *;unfold ag at h;split at h
 ·rename_i k1 p k2 q e1;cases e1;simp only[cE]at hx;simp only[kp,aaj,if_false]at h;obtain⟨rfl,h⟩:=h;simp only[sO]at h;exact bn hr (u:=.int k (dn .xor k (CZ k) q)) (by simp only[execOp,ho];exact fa (by
   have e2:Op.unary .xor (.int k q)=Op.intBits .xor k (CZ k) q:=rfl;rw[hx,e2];simp only[Op.intBits];rfl)) (by simp) h
 ·rename_i e1;cases e1
 ·exact h.elim
def TA(hr:bW base ι S a w st)(ho:o.op=.convert s d x)(hs:P.underlying s=some (.int k'))(hd:P.underlying d=some (.int k))
 (h:cH k (aH st.fr x) fun v=>K v st.h):cl P o base ι S a w st K:=by
 obtain⟨k',n,e,h⟩:=h;have hx:=hr.eval x;rw[e]at hx;simp only[cE]at hx;exact bn hr (u:=.int k (k.wrap n)) (by simp[execOp,ho,hx,convert,run_underlying hs,run_underlying hd,Conv.intToInt]) (by simp) h
def PV(hr:bW base ι S a w st)(ho:o.op=.convert s d x)(hs:P.underlying s=some .string)(hd:P.underlying d=some .string)
 (h:∃l,aH st.fr x=.str l∧K (aH st.fr x) st.h):cl P o base ι S a w st K:=by
 obtain⟨l,e,h⟩:=h;have hx:=hr.eval x;have hx':=hx;rw[e]at hx;simp only[dG]at hx;exact bn hr (u:=a.eval x) (by simp only[execOp,ho];exact fa (by simp[convert,run_underlying hs,run_underlying hd,hx.1])) hx' h
def TB(hr:bW base ι S a w st)(ho:o.op=.extract x i)(h:ay i (aH st.fr x) fun v=>K v st.h):cl P o base ι S a w st K:=by
 have hx:=hr.eval x;unfold ay at h;split at h
 ·rename_i cs e;rw[e,ax]at hx;obtain⟨vs,e1,r⟩:=hx;split at h
  ·rename_i c ec;obtain⟨v,ev,rv⟩:=r.get i c ec;exact bn hr (u:=v) (by simp only[execOp,ho,e1];exact fa (by simp[Instr.extract,ev])) rv h
  ·exact h.elim
 ·exact h.elim
omit [Laid] in
def EF{cs:List AV}{vs:List Value}{off:Nat}{K:AV→Prop}(ht:fo P t=true)(r:aD ι S w cs vs)(h:ky (eK P t) (P.cellsOf t) (cs.drop off) K):
 ∃v u,(part t vs.toArray off).run P w=.ok u w∧ax ι S w v u∧K v:=by
 unfold part;simp only[aaE,uH ht,aaD];unfold ky at h;split at h
 ·rename_i hg;rw[hg];simp only[if_true,aaE,dp ht,aaD,aaF];refine⟨_,_,rfl, ?_,h.2⟩;rw[ax];refine⟨(vs.drop off).take (P.cellsOf t), ?_,(r.drop off).take _⟩;simp[List.extract_eq_take_drop,Nat.add_sub_cancel_left]
 ·rename_i hg;rw[hg];simp only[aaj,if_false];split at h
  ·rename_i c rest e;have ec:cs[off]?=some c:=by
    have:=congrArg (fun l=>l[0]?) e;simpa using this
   obtain⟨v,ev,rv⟩:=r.get off c ec;exact⟨c,v,by simp[ev],rv,h⟩
  ·exact h.elim
def PW{fs:Array Field}(hr:bW base ι S a w st)(ho:o.op=.field t x i)(ht:P.underlying t=some (.struct fs))(hf:fs[i]?=some f)(hk:fo P f.type=true)
 (h:qT (eK P f.type) f.offset (P.cellsOf f.type) (aH st.fr x) fun v=>K v st.h):cl P o base ι S a w st K:=by
 have hx:=hr.eval x;unfold qT at h;split at h
 ·rename_i cs e;rw[e,ax]at hx;obtain⟨vs,e1,r⟩:=hx;obtain⟨v,u,hrun,rv,k⟩:=EF (P:=P) hk r h;exact bn hr (u:=u) (by simp only[execOp,ho,e1];exact fa (by simp[Instr.field,run_underlying ht,hf,asAgg,hrun])) rv k
 ·exact h.elim
def TG(hr:bW base ι S a w st)(ho:o.op=.index t x i)(ht:P.underlying t=some .string)(h:dW (aH st.fr x) (aH st.fr i) fun v=>K v st.h):cl P o base ι S a w st K:=by
 have hx:=hr.eval x;have hi:=hr.eval i;unfold dW at h;split at h
 ·rename_i l k n e1 e2;rw[e1]at hx;rw[e2]at hi;simp only[dG,cE]at hx hi;obtain⟨⟨h0,h1⟩,h⟩:=h;have hn:n.toNat<l.length:=by omega
  refine bn hr (u:=.int .u8 (l.getD n.toNat 0).toNat) (by
   simp only[execOp,ho,hx.1,hi];refine fa ?_;have q:(⟨l.toArray⟩:ByteArray)[n.toNat]?=some (l.getD n.toNat 0):=by
    rw[ByteArray.getElem?_lt' _ _ (show n.toNat<(⟨l.toArray⟩:ByteArray).size from hn)];show some (l.toArray[n.toNat])=_;simp[nO,hn]
   simp only[Instr.index,aaE,asIntOf,aaF,aaD,run_underlying ht,if_pos h0,q]) (by simp) h
 ·exact h.elim
end
section
variable {P:Program} {o:Oper} {base:Nat} {ι:List Ix} {S:bj} {a:Act} {w:World} {st:St} {K:AV→aa→Prop}
theorem TD{t e:TypeId}{n:Nat}{x i:Operand}(hr:bW base ι S a w st)(ho:o.op=.index t x i)(ht:P.underlying t=some (.array n e))(hk:fo P e=true)
 (h:pW (eK P e) (P.cellsOf e) n (aH st.fr x) (aH st.fr i) fun v=>K v st.h):cl P o base ι S a w st K:=by
 have hx:=hr.eval x;have hi:=hr.eval i;unfold pW at h;split at h
 ·rename_i cs k j e1 e2;rw[e1,ax]at hx;rw[e2,cE]at hi;obtain⟨vs,ev,r⟩:=hx;obtain⟨⟨h0,h1⟩,h⟩:=h;obtain⟨v,u,hrun,rv,kk⟩:=EF (P:=P) (w:=w) hk r h;refine bn hr (u:=u) (by
   simp only[execOp,ho,ev,hi];exact fa (by simp only[Instr.index,aaE,asIntOf,aaF,aaD,run_underlying ht];rw[if_pos ⟨h0,h1⟩];simp only[aaE,dp hk,aaD];exact hrun)) rv kk
 ·exact h.elim
theorem Cb{fr:Fr}(hE:∀x,ax ι S w (aH fr x) (a.eval x)){x:Option Operand}{d n:Int}(h:dS (x.map (aH fr)) d=some n):(x=none∧n=d)∨∃y k,x=some y∧a.eval y=.int k n:=by
 cases x with
 | none=>left;simp[dS]at h;exact⟨rfl,h.symm⟩
 | some y =>
   right;have hy:=hE y;simp only[aaR]at h;cases he:aH fr y with
   | v z =>
     rw[he]at h hy;cases z<;>simp only[dS,ON,reduceCtorEq]at h;rename_i k q;subst h;rw[cE]at hy;exact⟨y,k,rfl,hy⟩
   | _=>rw[he]at h;simp[dS]at h
theorem p9{isl:Bool}{len cap:Nat}{lo hi:Option Operand}{p q:Int}{fr:Fr}(hE:∀x,ax ι S w (aH fr x) (a.eval x))(h1:dS (lo.map (aH fr)) 0=some p)(h2:dS (hi.map (aH fr)) len=some q)
 (hp:0≤p) (hpq:p≤q) (hq:q≤cap):(Instr.sliceBounds isl len cap (lo.map a.eval) (hi.map a.eval) none).run P w=.ok (p.toNat,q.toNat,cap) w:=by
 have bound:∀(k:IntKind) (n:Int) (y:Nat) (c:BoundsCode),0≤n→n≤y→(Instr.sliceBound (.int k n) y c).run P w=.ok n.toNat w:=fun k n y c g1 g2=>run_sliceBound w k n y c g1 g2;unfold Instr.sliceBounds;rcases Cb hE h1 with⟨rfl,rfl⟩|⟨yl,kl,rfl,el⟩<;>rcases Cb hE h2 with⟨rfl,rfl⟩|⟨yh,kh,rfl,eh⟩
 ·simp
 ·simp[eh,bound kh q cap _ (by omega) hq]
 ·simp[el,bound kl p len _ hp hpq]
 ·simp only[aaR,aaE,aaF,aaD,eh,el];rw[bound kh q cap _ (by omega) hq];simp only[aaD];rw[bound kl p q.toNat _ hp (by omega)];rfl
theorem U4{t:TypeId}{x:Operand}{lo hi:Option Operand}(hr:bW base ι S a w st)(ho:o.op=.slice t x lo hi none)(ht:P.underlying t=some .string)
 (h:eS (aH st.fr x) (lo.map (aH st.fr)) (hi.map (aH st.fr)) fun v=>K v st.h):cl P o base ι S a w st K:=by
 have hx:=hr.eval x;unfold eS at h;split at h
 ·rename_i l e;rw[e,dG]at hx;split at h
  ·rename_i p q e1 e2;obtain⟨⟨g0,g1,g2⟩,h⟩:=h;have hb:=p9 (P:=P) (isl:=false) (len:=l.length) (cap:=l.length) hr.eval e1 e2 g0 g1 g2;refine bn hr (u:=.string ⟨((l.take q.toNat).drop p.toNat).toArray⟩) ?_ ?_ h
   ·simp only[execOp,ho,hx.1,Option.map_none];refine fa ?_;have hsz:(⟨l.toArray⟩:ByteArray).size=l.length:=rfl;simp only[Instr.sliceAt,aaE,run_underlying ht,aaD,Instr.slice,Option.isSome_none,aaj,if_false,hsz,hb,aaF]
    congr 2
    apply ByteArray.ext;simp[ByteArray.data_extract];rw[List.drop_take]
   ·simp only[dG];refine⟨trivial, ?_⟩;have:=hx.2;simp;omega
  ·exact h.elim
 ·exact h.elim
theorem Y6{t e:TypeId}{x:Operand}{lo hi:Option Operand}(hr:bW base ι S a w st)(ho:o.op=.slice t x lo hi none)(ht:P.underlying t=some (.slice e))(hk:fo P e=true)
 (h:iB (P.cellsOf e) (aH st.fr x) (lo.map (aH st.fr)) (hi.map (aH st.fr)) fun v=>K v st.h):cl P o base ι S a w st K:=by
 have hx:=(hr.eval x).lQ;have run:∀(b:Option Addr) (len cap:Nat) (p q:Int),a.eval x=.slice b len cap→dS (lo.map (aH st.fr)) 0=some p→dS (hi.map (aH st.fr)) len=some q→0≤p→p≤q→q≤cap →
  (execOp a.eval o).run P w=.ok (.value (.slice (if cap=p.toNat then b else b.map (·.add (p.toNat*P.cellsOf e))) (q.toNat-p.toNat) (cap-p.toNat))) w:=by
  intro b len cap p q ex e1 e2 g0 g1 g2;have hb:=p9 (P:=P) (isl:=true) (len:=len) (cap:=cap) hr.eval e1 e2 g0 g1 g2;simp only[execOp,ho,ex,Option.map_none];exact fa (by simp only[Instr.sliceAt,aaE,run_underlying ht,aaD,Instr.slice,hb,dp hk,aaF])
 unfold iB at h;split at h
 ·rename_i sz rows ex;rw[ex,ax]at hx;obtain⟨b,cap,ev,c1,c2,c3⟩:=hx;split at h
  ·rename_i p q e1 e2;obtain⟨rfl,⟨g0,g1,g2⟩,h⟩:=h;refine bn hr (run b _ cap p q ev e1 e2 g0 g1 (by omega)) ?_ h;rw[ax];have hl:((rows.take q.toNat).drop p.toNat).length=q.toNat-p.toNat:=by simp;omega
   refine⟨_,_,by rw[hl],by omega,by omega, ?_⟩
   by_cases hem:(rows.take q.toNat).drop p.toNat=[]
   ·exact .inl hem
   ·right;have hlen:0<q.toNat-p.toNat:=by rw[←hl];exact List.length_pos_iff.2 hem
    rcases c3 with c3|⟨bb,off,eb,rr⟩
    ·subst c3;simp at hem
    ·subst eb;rw[if_neg (by omega)];refine⟨bb,off+p.toNat*P.cellsOf e,by simp[addr_add],cg.mk fun i r er=>?_⟩;have er':rows[p.toNat+i]?=some r:=by
      rw[aag]at er;rw[To]at er;split at er<;>first|exact er|cases er
     have:=rr.get _ _ er';refine⟨this.1, ?_⟩;rw[Nat.add_assoc,←aaP];exact this.2
  ·exact h.elim
 ·rename_i id off len sz ex;rw[ex,ax]at hx;obtain⟨bb,b,cap,n,ty,c1,ev,c2,c3,c4,c5,c6⟩:=hx;split at h
  ·rename_i p q e1 e2;obtain⟨rfl,⟨g0,g1,g2⟩,h⟩:=h;refine bn hr (run b _ cap p q ev e1 e2 g0 g1 (by omega)) ?_ h;rw[ax];have hmul:p.toNat*P.cellsOf e+(cap-p.toNat)*P.cellsOf e=cap*P.cellsOf e:=by rw[←aaP];congr 1;omega
   refine⟨bb,_,_,n,ty,c1,by congr 1;omega,by omega,by omega, ?_,c5,by omega⟩
   by_cases hz:cap-p.toNat=0
   ·exact .inl hz
   ·right;rcases c4 with c4|c4
    ·omega
    ·rw[if_neg (by omega),c4];simp[addr_add]
  ·exact h.elim
 ·rename_i ex;rw[ex,ax]at hx;obtain⟨b,ev⟩:=hx;split at h
  ·rename_i p q e1 e2;obtain⟨⟨g0,g1⟩,h⟩:=h;subst g0;subst g1;refine bn hr (run b 0 0 0 0 ev e1 (by simpa using e2) (by omega) (by omega) (by omega)) ?_ h;rw[ax];exact⟨_,rfl⟩
  ·exact h.elim
 ·exact h.elim
omit [Laid] in
theorem gU(sz:Nat):∀(n:Nat) (cs:List AV),n*sz≤cs.length→(chunks sz n cs).flatten=cs.take (n*sz)∧∀r∈chunks sz n cs,r.length=sz
 | 0,_,_=>by simp[chunks]
 | n+1,cs,h=>by
   rw[aaP,Nat.one_mul]at h;obtain⟨h1,h2⟩:=gU sz n (cs.drop sz) (by simp;omega);refine⟨?_,fun r hr=>?_⟩
   ·simp only[chunks,aaM,h1];rw[aaP,Nat.one_mul,Nat.add_comm,List.take_add]
   ·simp only[chunks,IS]at hr;rcases hr with rfl|hr
    ·simp;omega
    ·exact h2 r hr
omit [Laid] in
theorem iR(sz:Nat):∀(n:Nat) (cs:List AV),(chunks sz n cs).length=n
 | 0,_=>rfl
 | n+1,cs=>by simp[chunks,iR sz n]
omit [Laid] in
theorem kO{sz:Nat}:∀{rows:List (List AV)},(∀r∈rows,r.length=sz)→rows.flatten.length=rows.length*sz
 | [],_=>by simp
 | r:: rs,h=>by
   have:=kO (rows:=rs) fun x hx=>h x (MK _ hx);simp only[aaM,BY,this,aab,aaP,Nat.one_mul,h r (aaJ ..)];omega
omit [Laid] in
theorem cg.of_flat{ι:List Ix}{S:bj}{w:World}{sz:Nat}:∀{rows:List (List AV)} {b off:Nat},(∀r∈rows,r.length=sz)→bI ι S w rows.flatten b off→cg ι S w sz rows b off
 | [],_,_,_,_=>by simp[cg]
 | r:: rs,b,off,h,k=>by
   rw[cg];have hr:=h r (aaJ ..);refine⟨hr,bI.mk fun i c e=>?_,cg.of_flat (fun x hx=>h x (MK _ hx)) ?_⟩
   ·refine k.get i c ?_;rw[aaM,gE (dO.1 e).1];exact e
   ·have:=k.drop sz;rw[aaM,List.drop_left' hr]at this;exact this
theorem U3{t e:TypeId}{n:Nat}{x:Operand}{lo hi:Option Operand}(hr:bW base ι S a w st)(ho:o.op=.slice t x lo hi none)(ht:P.underlying t=some (.array n e))(hk:fo P e=true)
 (h:Au n (P.cellsOf e) (aH st.fr x) (lo.map (aH st.fr)) (hi.map (aH st.fr)) st.h fun v=>K v st.h):cl P o base ι S a w st K:=by
 have hx:=hr.eval x;unfold Au at h;split at h
 ·rename_i id off ex;rw[ex,ax]at hx;obtain⟨b,c1,ev⟩:=hx;split at h
  ·rename_i p q ak e1 e2 eb;obtain⟨⟨hroom,g0,g1,g2,g3⟩,h⟩:=h;have hb:=p9 (P:=P) (isl:=false) (len:=n) (cap:=n) hr.eval e1 e2 g0 g1 g2;obtain⟨b',arr,fz,k1,k2,k3,k4,k5,k6,k7,k8,k9⟩:=hr.hp.live id ak eb;rw[c1]at k1;cases k1;refine bn hr (u:=.slice (some (if n=p.toNat then ⟨b,off,none⟩ else (⟨b,off,none⟩:Addr).add (p.toNat*P.cellsOf e))) (q.toNat-p.toNat) (n-p.toNat)) ?_ ?_ h
   ·simp only[execOp,ho,ev,Option.map_none];exact fa (by simp only[Instr.sliceAt,aaE,run_underlying ht,aaD,Instr.sureAddr,aaF,hb,dp hk])
   ·rw[ax];have hmul:p.toNat*P.cellsOf e+(n-p.toNat)*P.cellsOf e=n*P.cellsOf e:=by rw[←aaP];congr 1;omega
    refine⟨b,_,_,arr.size,ak.ty,c1,by congr 1;omega,by omega,by omega, ?_,by unfold World.shape?;rw[k3],by omega⟩
    by_cases hz:n-p.toNat=0
    ·exact .inl hz
    ·right;rw[if_neg (by omega),addr_add]
  ·exact h.elim
 ·rename_i cs ex;rw[ex,ax]at hx;obtain⟨b,off,ev,rc⟩:=hx;split at h
  ·rename_i p q e1 e2;obtain⟨⟨hroom,g0,g1,rfl,rfl⟩,h⟩:=h;have hb:=p9 (P:=P) (isl:=false) (len:=n) (cap:=n) hr.eval e1 e2 (Int.le_refl _) (by omega) (Int.le_refl _);have hz:¬n=(0:Int).toNat:=by simp;omega
   refine bn hr (u:=.slice (some ((⟨b,off,none⟩:Addr).add ((0:Int).toNat*P.cellsOf e))) (((n:Int)).toNat-(0:Int).toNat) (n-(0:Int).toNat)) ?_ ?_ h
   ·simp only[execOp,ho,ev,Option.map_none];refine fa (by simp only[Instr.sliceAt,aaE,run_underlying ht,aaD,Instr.sureAddr,aaF,hb,dp hk];rw[if_neg hz])
   ·obtain⟨f1,f2⟩:=gU (P.cellsOf e) n cs hroom;have hl:=iR (P.cellsOf e) n cs;rw[ax];refine⟨some ((⟨b,off,none⟩:Addr).add ((0:Int).toNat*P.cellsOf e)),n,by rw[hl];simp,by rw[hl];exact aS _,g1,.inr ⟨b,off,by rw[addr_add];simp, ?_⟩⟩;refine cg.of_flat f2 (bI.mk fun i c hc=>rc.get i c ?_);rw[f1,To]at hc;split at hc
    ·exact hc
    ·cases hc
  ·exact h.elim
 ·exact h.elim
theorem TE{t e:TypeId}{x i:Operand}(hr:bW base ι S a w st)(ho:o.op=.indexAddr t x i)(ht:P.underlying t=some (.slice e))(hk:fo P e=true)
 (h:au (P.cellsOf e) (aH st.fr x) (aH st.fr i) fun v=>K v st.h):cl P o base ι S a w st K:=by
 have hx:=(hr.eval x).lQ;have hi:=hr.eval i;have run:∀(b:Addr) (len cap:Nat) (k:IntKind) (j:Int),a.eval x=.slice (some b) len cap→a.eval i=.int k j→0≤j→j<len →
  (execOp a.eval o).run P w=.ok (.value (.pointer (some (b.add (j.toNat*P.cellsOf e))))) w:=by
  intro b len cap k j ex ei g0 g1;simp only[execOp,ho,ex,ei];refine fa ?_;simp only[Instr.indexAt,aaE,asIntOf,aaF,aaD,run_underlying ht];rw[if_pos ⟨g0,g1⟩];simp only[aaE,dp hk,aaD,aaF]
 unfold au at h;split at h
 ·rename_i sz rows k j e1 e2;rw[e1,ax]at hx;rw[e2,cE]at hi;obtain⟨b,cap,ev,c1,c2,c3⟩:=hx;obtain⟨rfl,⟨g0,g1⟩,h⟩:=h;have hj:j.toNat<rows.length:=by omega
  rcases c3 with c3|⟨bb,off,eb,rr⟩
  ·subst c3;simp at hj
  ·subst eb;refine bn hr (run _ _ cap k j ev hi g0 g1) ?_ h;have er:rows[j.toNat]?=some (rows.getD j.toNat []):=by simp[nO,hj]
   rw[ax];exact⟨bb,off+j.toNat*P.cellsOf e,by rw[addr_add],(rr.get _ _ er).2⟩
 ·rename_i id off len sz k j e1 e2;rw[e1,ax]at hx;rw[e2,cE]at hi;obtain⟨bb,b,cap,n,ty,c1,ev,c2,c3,c4,c5,c6⟩:=hx;obtain⟨rfl,⟨g0,g1⟩,h⟩:=h;rcases c4 with c4|c4
  ·omega
  ·subst c4;refine bn hr (run _ _ cap k j ev hi g0 g1) ?_ h;rw[ax];exact⟨bb,c1,by rw[addr_add]⟩
 ·exact h.elim
theorem TF{t e:TypeId}{n:Nat}{x i:Operand}(hr:bW base ι S a w st)(ho:o.op=.indexAddr t x i)(ht:P.underlying t=some (.array n e))(hk:fo P e=true)
 (h:fW n (P.cellsOf e) (aH st.fr x) (aH st.fr i) fun v=>K v st.h):cl P o base ι S a w st K:=by
 have hx:=hr.eval x;have hi:=hr.eval i;have run:∀(b:Addr) (k:IntKind) (j:Int),a.eval x=.pointer (some b)→a.eval i=.int k j→0≤j→j<n →
  (execOp a.eval o).run P w=.ok (.value (.pointer (some (b.add (j.toNat*P.cellsOf e))))) w:=by
  intro b k j ex ei g0 g1;simp only[execOp,ho,ex,ei];refine fa ?_;simp only[Instr.indexAt,aaE,asIntOf,aaF,aaD,run_underlying ht,Instr.sureAddr];rw[if_pos ⟨g0,g1⟩];simp only[aaE,dp hk,aaD,aaF]
 unfold fW at h;split at h
 ·rename_i id off k j e1 e2;rw[e1,ax]at hx;rw[e2,cE]at hi;obtain⟨b,c1,ev⟩:=hx;obtain⟨⟨g0,g1⟩,h⟩:=h;refine bn hr (run _ k j ev hi g0 g1) ?_ h;rw[ax];exact⟨b,c1,by rw[addr_add]⟩
 ·rename_i cs k j e1 e2;rw[e1,ax]at hx;rw[e2,cE]at hi;obtain⟨b,off,ev,r⟩:=hx;obtain⟨⟨g0,g1⟩,h⟩:=h;refine bn hr (run _ k j ev hi g0 g1) ?_ h;rw[ax];exact⟨b,_,by rw[addr_add],r.drop _⟩
 ·exact h.elim
theorem UT{t:TypeId}{x:Operand}{i:Nat}{fs:Array Field}{f:Field}(hr:bW base ι S a w st)(ho:o.op=.fieldAddr t x i)(ht:P.underlying t=some (.struct fs))(hf:fs[i]?=some f)
 (hz:P.cellsOf f.type≠0) (hk:fo P f.type=true) (h:aN f.offset (aH st.fr x) fun v=>K v st.h):cl P o base ι S a w st K:=by
 have hx:=hr.eval x;have run:∀(b:Addr),a.eval x=.pointer (some b)→(execOp a.eval o).run P w=.ok (.value (.pointer (some (b.add f.offset)))) w:=by
  intro b ex;simp only[execOp,ho,ex];refine fa ?_;simp only[Instr.fieldAt,aaE,run_underlying ht,aaD,hf,Instr.sureAddr,aaF,fieldPlace,dp hk,hz,if_false]
 unfold aN at h;split at h
 ·rename_i cs e;rw[e,ax]at hx;obtain⟨b,off,ev,r⟩:=hx;refine bn hr (run _ ev) ?_ h;rw[ax];exact⟨b,_,by rw[addr_add],r.drop _⟩
 ·rename_i id off e;rw[e,ax]at hx;obtain⟨b,c1,ev⟩:=hx;refine bn hr (run _ ev) ?_ h;rw[ax];exact⟨b,c1,by rw[addr_add]⟩
 ·exact h.elim
theorem U1{x:Operand}(hr:bW base ι S a w st)(ho:o.op=.nilCheck x)(h:vN (aH st.fr x) fun v=>K v st.h):cl P o base ι S a w st K:=by
 have hx:=hr.eval x;have hx':=hx;unfold vN at h;split at h
 ·rename_i e;rw[e,ax]at hx;obtain⟨b,off,ev,r⟩:=hx;exact bn hr (u:=a.eval x) (by simp[execOp,ho,ev]) hx' h
 ·rename_i e;rw[e,ax]at hx;obtain⟨b,c1,ev⟩:=hx;exact bn hr (u:=a.eval x) (by simp[execOp,ho,ev]) hx' h
 ·rename_i e;rw[e,ax]at hx;obtain⟨vs,us,ev,_⟩:=hx;exact bn hr (u:=a.eval x) (by simp[execOp,ho,ev]) hx' h
 ·exact h.elim
omit [Laid] in
theorem nw{t:TypeId}{cs:List AV}{vs:List Value}{b off:Nat}{K:AV→Prop}(hk:fo P t=true)(r:aD ι S w cs vs)(hc:∀(i:Nat) (v:Value),vs[i]?=some v→w.cell? ⟨b,off+i,none⟩=some v)
 (h:ky (eK P t) (P.cellsOf t) cs K):∃v u,(loadVar t ⟨b,off,none⟩).run P w=.ok u w∧ax ι S w v u∧K v:=by
 unfold loadVar;simp only[aaE,uH hk,aaD];unfold ky at h;split at h
 ·rename_i hg;rw[hg];have hl:=r.length;have hrun:=run_loadCells_list (P:=P) (w:=w) ⟨b,off,none⟩ (vs.take (P.cellsOf t)) (by
   intro j v e;rw[addr_add];refine hc j v ?_;rw[To]at e;split at e<;>first|exact e|cases e)
  have hlen:(vs.take (P.cellsOf t)).length=P.cellsOf t:=by simp;omega
  rw[hlen]at hrun;refine⟨_,.agg (vs.take (P.cellsOf t)).toArray, ?_, ?_,h.2⟩
  ·simp only[if_true,aaE,dp hk,aaD,hrun,aaF]
  ·rw[ax];exact⟨_,rfl,r.take _⟩
 ·rename_i hg;rw[hg];simp only[aaj,if_false];split at h
  ·rename_i c rest;obtain⟨v,ev,rv⟩:=r.get 0 c rfl;have:=hc 0 v ev;exact⟨c,v,by simp only[run_load];rw[show (⟨b,off,none⟩:Addr)=⟨b,off+0,none⟩ by rfl,this],rv,h⟩
  ·exact h.elim
theorem TI{t:TypeId}{x:Operand}(hr:bW base ι S a w st)(ho:o.op=.load t x)(hk:fo P t=true)(h:ae (eK P t) (P.cellsOf t) (aH st.fr x) st.h fun v=>K v st.h):cl P o base ι S a w st K:=by
 have hx:=hr.eval x;unfold ae at h;split at h
 ·rename_i cs e;rw[e,ax]at hx;obtain⟨b,off,ev,r⟩:=hx;obtain⟨vs,rv,hc⟩:=r.rF;obtain⟨v,u,hrun,rv,k⟩:=nw (P:=P) hk rv hc h;exact bn hr (u:=u) (by simp only[execOp,ho,ev];exact fa (by simp only[Instr.loadAt,Instr.sureAddr,aaE,aaF,aaD,hrun])) rv k
 ·rename_i id off e;rw[e,ax]at hx;obtain⟨b,c1,ev⟩:=hx;split at h
  ·rename_i ak eb;obtain⟨b',arr,fz,k1,k2,k3,k4,k5,k6,k7,k8,k9⟩:=hr.hp.live id ak eb;rw[c1]at k1;cases k1;have hcells:aD ι S w ak.cells (arr.toList.take ak.cells.length):=by
    refine aD.mk (by simp;omega) fun i c v e1 e2=>?_;obtain⟨v',e3,r⟩:=k6 i c e1;rw[To]at e2;split at e2
    ·simp only[Array.getElem?_toList]at e2;rw[e3]at e2;cases e2;exact r
    ·cases e2
   obtain⟨v,u,hrun,rv,k⟩:=nw (P:=P) (b:=b) (off:=off) hk (hcells.drop off) (by
    intro i v e1;rw[hY k3];rw[aag,To]at e1;split at e1
    ·simpa using e1
    ·cases e1) h
   exact bn hr (u:=u) (by simp only[execOp,ho,ev];exact fa (by simp only[Instr.loadAt,Instr.sureAddr,aaE,aaF,aaD,hrun])) rv k
  ·exact h.elim
 ·exact h.elim
theorem PZ{t:TypeId}{x v:Operand}(hr:bW base ι S a w st)(ho:o.op=.store t x v)(hk:fo P t=true)(h:ah (P.cellsOf t) (aH st.fr x) (aH st.fr v) st.h fun h' => K (.v undef) h'):cl P o base ι S a w st K:=by
 have hx:=hr.eval x;have hv:=hr.eval v;unfold ah at h;split at h
 ·rename_i id off e;rw[e,ax]at hx;obtain⟨b,c1,ev⟩:=hx;split at h
  ·rename_i ak eb;obtain⟨⟨g1,g2,g3,g4⟩,h⟩:=h;obtain⟨vs,ecs,rv,one⟩:=tU hv g4;obtain⟨w',hrun,hE,hH⟩:=tJ (P:=P) vs (bl (aH st.fr v)) w st.h hr.hp eb g1 c1 off 0 (by omega) rv one;rw[Nat.add_zero]at hH;refine HZ hr (w':=w') ?_ hE hH (by simp) h;simp only[execOp,ho,ev];refine Y5 ?_;have hl:=rv.length;simp only[Instr.storeAt,Instr.sureAddr,aaE,aaF,aaD,storeVar,dp hk,ecs];rw[if_neg (by simp;omega)];exact hrun
  ·exact h.elim
 ·exact h.elim
theorem NN{t:TypeId}{x:AV}{u:Value}(hr:bW base ι S a w st)(hrun:(execOp a.eval o).run P w=.ok (.value (.pointer (some ⟨w.heap.size,0,none⟩))) (w.alloc (.cells u.cells t)))(r:ax ι S w x u)
 (h:aB t x st.h K):cl P o base ι S a w st K:=by
 obtain⟨g,h⟩:=h;obtain⟨vs,ecs,rv,one⟩:=tU r g;have hH:=hr.hp.alloc t (bl x) vs rv (more:=[]) (fz:=(0,0)) (by intro o _ h;omega);rw[aal,←ecs]at hH;refine fX hr hrun (bM.alloc hr.hp.ji (fun b o=>hr.hp.fV b o) _ _) ?_ hH (by simp) h;rw[ax];exact⟨w.heap.size,by rw[iD (by rw[hr.hp.len];exact aS _)];simp[hr.hp.len],rfl⟩
theorem UR{t:TypeId}{x:Operand}(hr:bW base ι S a w st)(ho:o.op=.box t x)(h:aB t (aH st.fr x) st.h K):cl P o base ι S a w st K:=
 NN hr (u:=a.eval x) (by simp only[execOp,ho];exact fa (by simp[Instr.box,newVar,newRow])) (hr.eval x) h
theorem PU{t:TypeId}{z:AV}(hr:bW base ι S a w st)(ho:o.op=.alloc t)(hz:iw P t=some z)(h:aB t z st.h K):cl P o base ι S a w st K:=by
 unfold iw at hz;cases hi:P.info? t with
 | none=>rw[hi]at hz;cases hz
 | some i =>
   rw[hi]at hz;simp only[Option.bind_some,aae]at hz;obtain⟨u,hu,rfl⟩:=hz;exact NN hr (u:=u) (by simp only[execOp,ho];exact fa (by simp[Instr.alloc,zeroValue,mB hi,hu,newVar,newRow])) (sF ι S w u) h
theorem TC{f:Fn}{xs ys:Array Operand}(hr:bW base ι S a w st)(ho:o.op=.makeFunc f xs ys)(h:K (.fn f (xs.toList.map (aH st.fr)) (ys.toList.map (aH st.fr))) st.h):cl P o base ι S a w st K:=by
 refine bn hr (u:=.func f (xs.map a.eval) (ys.map a.eval)) (by simp[execOp,ho,Instr.makeFunc]) ?_ h;rw[ax];have key:∀l:List Operand,aD ι S w (l.map (aH st.fr)) (l.map a.eval):=by
  intro l;induction l with
  | nil=>simp
  | cons x l ih=>simpa using⟨hr.eval x,ih⟩
 exact⟨xs.toList.map a.eval,ys.toList.map a.eval,by congr 1<;>(apply Array.ext';simp),key _,key _⟩
theorem aD.HI(hr:bW base ι S a w st):∀l:List Operand,aD ι S w (l.map (aH st.fr)) (l.map a.eval)
 | []=>by simp
 | x:: l=>by simpa using⟨hr.eval x,aD.HI hr l⟩
omit [Laid] in
theorem uo{c:Call}(ho:o.op=.call c)(hc:c.callee=.builtin .len){n:Nat}(hb:(Builtin.len_ c.argTypes o.type (c.args.map a.eval)).run P w=.ok (.int .i64 n) w):(execOp a.eval o).run P w=.ok (.value (.int .i64 n)) w:=by
 simp only[execOp,ho,resolve,hc,aaE,aaF,aaD,invoke,builtin,hb]
theorem TH{c:Call}{t:TypeId}{x:Operand}(hr:bW base ι S a w st)(ho:o.op=.call c)(hc:c.callee=.builtin .len)(hat:c.argTypes[0]?=some t)(hax:c.args[0]?=some x)
 (ht:P.underlying t=some .string) (h:cn (aH st.fr x) fun v=>K v st.h):cl P o base ι S a w st K:=by
 have hx:=hr.eval x;have hax':(c.args.map a.eval)[0]?=some (a.eval x):=by simp[hax]
 unfold cn at h;split at h
 ·rename_i l e;rw[e,dG]at hx;refine bn hr (uo ho hc (n:=l.length) ?_) (by simp) (h hx.2);simp only[Builtin.len_,hat,hax',aaE,run_underlying ht,aaD,hx.1,aaF,goInt];rfl
 ·exact h.elim
theorem UW{c:Call}{t et:TypeId}{x:Operand}(hr:bW base ι S a w st)(ho:o.op=.call c)(hc:c.callee=.builtin .len)(hat:c.argTypes[0]?=some t)(hax:c.args[0]?=some x)
 (ht:P.underlying t=some (.slice et)) (h:aU (aH st.fr x) fun v=>K v st.h):cl P o base ι S a w st K:=by
 have hx:=(hr.eval x).lQ;have hax':(c.args.map a.eval)[0]?=some (a.eval x):=by simp[hax]
 unfold aU at h;split at h
 ·rename_i sz rows e;rw[e,ax]at hx;obtain⟨b,cap,ev,c1,c2,c3⟩:=hx;refine bn hr (uo ho hc (n:=rows.length) ?_) (by simp) (h (by omega));simp only[Builtin.len_,hat,hax',aaE,run_underlying ht,aaD,ev,aaF,goInt]
 ·rename_i id off len sz e;rw[e,ax]at hx;obtain⟨bb,b,cap,n,ty,c1,ev,c2,c3,c4,c5,c6⟩:=hx;refine bn hr (uo ho hc (n:=len) ?_) (by simp) (h (by omega));simp only[Builtin.len_,hat,hax',aaE,run_underlying ht,aaD,ev,aaF,goInt]
 ·rename_i e;rw[e,ax]at hx;obtain⟨b,ev⟩:=hx;refine bn hr (uo ho hc (n:=0) ?_) (by simp) h;simp only[Builtin.len_,hat,hax',aaE,run_underlying ht,aaD,ev,aaF,goInt]
 ·exact h.elim
omit [Laid] in
theorem wO{c:Call}{b:Builtin}{s:Sem Value}{u:Value}{w':World}(ho:o.op=.call c)(hc:c.callee=.builtin b)
 (hb:∀cs,builtin b c.argTypes o.type cs (c.args.map a.eval)=(do pure (.value (←s)))) (hs:s.run P w=.ok u w'):(execOp a.eval o).run P w=.ok (.value u) w':=by
 simp only[execOp,ho,resolve,hc,aaE,aaF,aaD,invoke,hb,hs]
theorem UY{c:Call}{x y:Operand}(hr:bW base ι S a w st)(ho:o.op=.call c)(hc:c.callee=.builtin .min)(hax:c.args.toList=[x,y])
 (h:kD (aH st.fr x) (aH st.fr y) fun v=>K v st.h):cl P o base ι S a w st K:=by
 have hx:=hr.eval x;have hy:=hr.eval y;unfold kD at h;split at h
 ·rename_i k p k' q e1 e2;rw[e1,cE]at hx;rw[e2,cE]at hy;obtain⟨rfl,h⟩:=h;have hargs:c.args.map a.eval=#[.int k p,.int k q]:=by apply Array.ext';simp[hax,hx,hy]
  exact bn hr (wO ho hc (fun _=>rfl) (by rw[hargs];exact run_min_int2 w _ _ k k p q)) (by simp) h
 ·exact h.elim
theorem UX{c:Call}{x y:Operand}(hr:bW base ι S a w st)(ho:o.op=.call c)(hc:c.callee=.builtin .max)(hax:c.args.toList=[x,y])
 (h:iy (aH st.fr x) (aH st.fr y) fun v=>K v st.h):cl P o base ι S a w st K:=by
 have hx:=hr.eval x;have hy:=hr.eval y;unfold iy at h;split at h
 ·rename_i k p k' q e1 e2;rw[e1,cE]at hx;rw[e2,cE]at hy;obtain⟨rfl,h⟩:=h;have hargs:c.args.map a.eval=#[.int k p,.int k q]:=by apply Array.ext';simp[hax,hx,hy]
  exact bn hr (wO ho hc (fun _=>rfl) (by rw[hargs];exact run_max_int2 w _ _ k k p q)) (by simp) h
 ·exact h.elim
theorem TK{c:Call}{x y z:Operand}(hr:bW base ι S a w st)(ho:o.op=.call c)(hc:c.callee=.builtin .max)(hax:c.args.toList=[x,y,z])
 (h:iy (aH st.fr x) (aH st.fr y) fun u=>iy u (aH st.fr z) fun v=>K v st.h):cl P o base ι S a w st K:=by
 have hx:=hr.eval x;have hy:=hr.eval y;have hz:=hr.eval z;unfold iy at h;split at h
 ·rename_i k p k' q e1 e2;rw[e1,cE]at hx;rw[e2,cE]at hy;obtain⟨rfl,h⟩:=h;split at h
  ·rename_i k1 p1 k2 q1 e3 e4;cases e3;rw[e4,cE]at hz;obtain⟨rfl,h⟩:=h;have hargs:c.args.map a.eval=#[.int k p,.int k q,.int k q1]:=by apply Array.ext';simp[hax,hx,hy,hz]
   refine bn hr (wO ho hc (fun _=>rfl) (by rw[hargs];exact (show (Builtin.max_ c.argTypes o.type #[.int k p,.int k q,.int k q1]).run P w=.ok (.int k (if q1 > (if q > p then q else p) then q1 else (if q > p then q else p))) w by simp[Builtin.max_,Builtin.max2]))) (by simp) h
  ·exact h.elim
 ·exact h.elim
theorem Tz{c:Call}{x:Operand}{f:FuncId}{first cap:List AV}(hr:bW base ι S a w st)(ho:o.op=.call c)(hc:c.callee=.value x)(hx:aH st.fr x=.fn (.func f) first cap)
 (hf:(P.funcs[f]?).any (fun fn=>fn.body.isSome&&fn.name != "runtime.NumGoroutine")=true) (h:cw P f (first++c.args.toList.map (aH st.fr)++cap) st.h K):cl P o base ι S a w st K:=by
 have hv:=hr.eval x;rw[hx,ax]at hv;obtain⟨vs,us,ev,r1,r2⟩:=hv;obtain⟨fn,hfn,hb⟩:∃fn,P.funcs[f]?=some fn∧(fn.body.isSome&&fn.name != "runtime.NumGoroutine")=true:=by
  cases hq:P.funcs[f]? with
  | none=>rw[hq]at hf;cases hf
  | some fn=>rw[hq]at hf;exact⟨fn,rfl,hf⟩
 simp only[On,bne_iff_ne,ne_eq]at hb;have hargs:aD ι S w (first++c.args.toList.map (aH st.fr)++cap) (vs++c.args.toList.map a.eval++us):=(r1.append (aD.HI hr _)).append r2;have hrun:(execOp a.eval o).run P w=.ok (.enter f (vs++c.args.toList.map a.eval++us).toArray) w:=by
  have e2:(vs.toArray++c.args.map a.eval)++us.toArray=(vs++c.args.toList.map a.eval++us).toArray:=by apply Array.ext';simp
  have hne:(fn.name == "runtime.NumGoroutine")=false:=by simpa using hb.2
  have hbn:fn.body.isNone=false:=by cases hbb:fn.body<;>simp_all
  simp only[execOp,ho,resolve,hc,aaE,ev,Deferred.ofValue,aaF,aaD,invoke,e2,callFunc,run_program,hfn,hne,hbn,aaj,if_false]
 intro Q;unfold Oper.wp;rw[hrun,Oper.upon_enter];refine (h base ι S w _ hargs hr.hp).mono ?_;rintro e w' ⟨v,ι',S',r,h',rfl,hE,rv,hH,hl,k⟩;refine⟨ι',S',r,h', ?_, ?_,hl,k⟩
 ·rw[hr.hp.len];exact hE
 ·have:bW base ι' S' a w' ⟨st.n,st.fr,h'⟩:=⟨hr.df,hr.sz,dd.fq hE (by rw[hr.hp.len];exact aS _) hr.fr,hH⟩;exact this.put o.dst rv
end
/-! ### Built values -/
omit [Laid] in
theorem Ji:∀{cs:List AV} {us:List Value} (cells:List AV) (vs:List Value) (o:Nat),aD ι S w cells vs→aD ι S w cs us→o+cs.length≤cells.length →
 ∃vs',(us.toArray.zipIdx.foldl (fun cs (c,j)=>cs.setIfInBounds (o+j) c) vs.toArray)=vs'.toArray∧aD ι S w (bU cells o cs) vs':=by
 intro cs;have key:∀(cs:List AV) (us:List Value) (cells:List AV) (vs:List Value) (o k:Nat),aD ι S w cells vs→aD ι S w cs us→o+k+cs.length≤cells.length →
  ∃vs',((us.zipIdx k).foldl (fun (cs:Array Value) (c:Value×Nat)=>cs.setIfInBounds (o+c.2) c.1) vs.toArray)=vs'.toArray∧aD ι S w (bU cells (o+k) cs) vs':=by
  intro cs;induction cs with
  | nil=>intro us cells vs o k h1 h2 _;simp at h2;subst h2;exact⟨vs,rfl,h1⟩
  | cons c cs ih =>
    intro us cells vs o k h1 h2 hl;cases us with
    | nil=>simp at h2
    | cons u us =>
      simp only[bL]at h2;simp only[aab]at hl;simp only[List.zipIdx_cons,List.foldl_cons];have e:vs.toArray.setIfInBounds (o+k) u=(vs.set (o+k) u).toArray:=by simp
      rw[e];obtain⟨vs',e1,e2⟩:=ih us (cells.set (o+k) c) (vs.set (o+k) u) o (k+1) (h1.set _ _ _ h2.1) h2.2 (by simp;omega);exact⟨vs',e1,e2⟩
 intro us cells vs o h1 h2 hl;obtain⟨vs',e1,e2⟩:=key cs us cells vs o 0 h1 h2 hl;refine⟨vs', ?_,e2⟩;rw[←e1];simp[←Array.foldl_toList]
omit [Laid] in
theorem qO(place:Nat→Option (Nat×Nat)):∀(parts:List (Nat×AV×Value)) (cells:List AV) (vs:List Value) (r:List AV),aD ι S w cells vs →
 (∀p∈parts,ax ι S w p.2.1 p.2.2∧(place p.1).isSome) →
 dD cells (parts.map fun p=>(((place p.1).getD (0,0)).1,((place p.1).getD (0,0)).2,p.2.1))=some r →
 ∃vs',Instr.fill place vs.toArray (parts.map fun p=>(p.1,p.2.2))=some vs'.toArray∧aD ι S w r vs'
 | [],cells,vs,r,h1,_,h=>by
   simp only[List.map_nil,dD,ON]at h;subst h;exact⟨vs,rfl,h1⟩
 | (i,x,v):: parts,cells,vs,r,h1,hp,h=>by
  obtain⟨hx,hi⟩:=hp (i,x,v) (by simp);obtain⟨⟨off,size⟩,hpl⟩:=Option.isSome_iff_exists.1 hi;simp only[IF,dD,hpl,Option.getD_some]at h;split at h
  ·rename_i hc;obtain⟨c1,c2,c3⟩:=hc;obtain⟨us,e1,r1,one⟩:=tU hx c3;dsimp only at c1 c3 e1 r1;obtain⟨vs',e2,r2⟩:=Ji cells vs off h1 r1 (by omega);obtain⟨vs'',e3,r3⟩:=qO place parts _ vs' r r2 (fun p q=>hp p (by simp[q])) h;refine⟨vs'', ?_,r3⟩;simp only[IF,Instr.fill,hpl,e1];have l1:=r1.length;have l2:=h1.length;have l3:us.toArray.size=us.length:=by simp
   rw[if_neg (by simp;omega),e2];exact e3
  ·cases h
omit [Laid] in
theorem zz{w:World}(fs:List Field)(h:fs.all (fun f=>fo P f.type)=true):
 (fs.mapM (fun f=>(do pure (f.offset,←sizeOf f.type):Sem (Nat×Nat)))).run P w=.ok (fs.map fun f=>(f.offset,P.cellsOf f.type)) w:=by
 induction fs with
 | nil=>rfl
 | cons f fs ih =>
   simp only[aaC,On]at h;simp only[List.mapM_cons,aaE,dp h.1,aaD,aaF,ih h.2,IF]
omit [Laid] in
def I8(x:Value):bl (oY x)=[oY x]:=by
 unfold oY;split
 ·split<;>rfl
 ·rfl
omit [Laid] in
def sV(z:Value):∃vs:List Value,z.cells=vs.toArray∧∀ι S w,aD ι S w (bl (jq z)) vs:=by
 have one:∀x:Value,∀ι S w,aD ι S w (bl (oY x)) [x]:=fun x ι S w=>by
  rw[I8];simpa using tT ι S w x
 cases z
 case agg cs =>
  refine⟨cs.toList,by simp[Value.cells],fun ι S w=>?_⟩;have:=sF ι S w (.agg cs);simp only[jq]at this ⊢;rw[ax]at this;obtain⟨vs,e,r⟩:=this;simp only[Value.agg.injEq]at e;subst e;simpa[bl]using r
 all_goals exact⟨[_],rfl,fun ι S w=>by simp only[jq];exact one _ ι S w⟩
omit [Laid] in
def zU(h:iw P t=some z):∃u,(∀w,(zeroValue t).run P w=.ok u w)∧z=jq u:=by
 unfold iw at h;cases hi:P.info? t with
 | none=>rw[hi]at h;cases h
 | some i =>
   rw[hi]at h;simp only[Option.bind_some,aae]at h;obtain⟨u,hu,rfl⟩:=h;exact⟨u,fun w=>by simp[zeroValue,mB hi,hu],rfl⟩
section
variable {P:Program} {o:Oper} {base:Nat} {ι:List Ix} {S:bj} {a:Act} {w:World} {st:St} {K:AV→aa→Prop}
def parts_eq(hr:bW base ι S a w st)(place:Nat→Option (Nat×Nat))(parts:Array (Nat×Operand)):
 (∀p∈(parts.toList.map fun p=>(p.1,aH st.fr p.2,a.eval p.2)),ax ι S w p.2.1 p.2.2)∧(parts.map fun (i,x)=>(i,a.eval x)).toList=(parts.toList.map fun p=>(p.1,aH st.fr p.2,a.eval p.2)).map fun p=>(p.1,p.2.2):=by
 refine⟨fun p hp=>?_,by simp⟩;simp only[aaf]at hp;obtain⟨q,_,rfl⟩:=hp;exact hr.eval q.2
def MM{parts:Array (Nat×Operand)}{fs:Array Field}(hr:bW base ι S a w st)(ho:o.op=.build t parts)(ht:P.underlying t=some (.struct fs))(hz:iw P t=some z)
 (hk:fs.toList.all (fun f=>fo P f.type)=true) (hp:parts.toList.all (fun p=>(fs[p.1]?).isSome)=true)
 (h:bf z (parts.toList.map fun p=>(((fs[p.1]?).map (·.offset)).getD 0,((fs[p.1]?).map (fun f=>P.cellsOf f.type)).getD 0,aH st.fr p.2)) fun v=>K v st.h):cl P o base ι S a w st K:=by
 obtain⟨u,hu,rfl⟩:=zU hz;obtain⟨vs,ez,rz⟩:=sV u;unfold bf at h;split at h
 ·rename_i cs e
  let places:Array (Nat×Nat):=(fs.toList.map fun f=>(f.offset,P.cellsOf f.type)).toArray
  obtain⟨q1,q2⟩:=parts_eq hr (places[·]?) parts;have hpl:∀i:Nat,places[i]?=(fs[i]?).map fun f=>(f.offset,P.cellsOf f.type):=fun i=>by simp[places]
  obtain⟨vs',e1,r1⟩:=qO (ι:=ι) (S:=S) (w:=w) (places[·]?) (parts.toList.map fun p=>(p.1,aH st.fr p.2,a.eval p.2)) (bl (jq u)) vs cs (rz ι S w) (fun p hpm=>⟨q1 p hpm,by
   simp only[aaf]at hpm;obtain⟨q,hq,rfl⟩:=hpm;have:=AT.1 hp q hq;rw[hpl];simpa using this⟩) (by
   rw[←e,List.map_map]
   congr 1
   refine List.map_congr_left fun p hpm=>?_;have:=AT.1 hp p hpm;simp only[Function.comp,hpl];obtain⟨f,hf⟩:=Option.isSome_iff_exists.1 this;simp[hf])
  refine bn hr (u:=.agg vs'.toArray) ?_ (by rw[ax];exact⟨vs',rfl,r1⟩) h;simp only[execOp,ho];refine fa ?_;have hm:(fs.mapM (fun f=>(do pure (f.offset,←sizeOf f.type):Sem (Nat×Nat)))).run P w=.ok places w:=by
   rw[←Array.toArray_toList (xs:=fs)];have:=zz (P:=P) (w:=w) fs.toList hk;rw[List.mapM_toArray];simp only[Sem.run_map,this,aaD,places]
  simp only[Instr.build,aaE,hu,aaD,run_underlying ht,hm,ez,q2,e1,aaF]
 ·exact h.elim
def ML{parts:Array (Nat×Operand)}(hr:bW base ι S a w st)(ho:o.op=.build t parts)(ht:P.underlying t=some (.array n e))(hz:iw P t=some z)
 (hk:fo P e=true) (h:bf z (parts.toList.map fun p=>(p.1*P.cellsOf e,P.cellsOf e,aH st.fr p.2)) fun v=>K v st.h):cl P o base ι S a w st K:=by
 obtain⟨u,hu,rfl⟩:=zU hz;obtain⟨vs,ez,rz⟩:=sV u;unfold bf at h;split at h
 ·rename_i cs e';obtain⟨q1,q2⟩:=parts_eq hr (fun i=>some (i*P.cellsOf e,P.cellsOf e)) parts;obtain⟨vs',e1,r1⟩:=qO (ι:=ι) (S:=S) (w:=w) (fun i=>some (i*P.cellsOf e,P.cellsOf e)) (parts.toList.map fun p=>(p.1,aH st.fr p.2,a.eval p.2)) (bl (jq u)) vs cs (rz ι S w) (fun p hpm=>⟨q1 p hpm,rfl⟩) (by
   rw[←e',List.map_map];rfl)
  refine bn hr (u:=.agg vs'.toArray) ?_ (by rw[ax];exact⟨vs',rfl,r1⟩) h;simp only[execOp,ho];refine fa ?_;simp only[Instr.build,aaE,hu,aaD,run_underlying ht,dp hk,ez,q2,e1,aaF]
 ·exact h.elim
end
/-! ### Structs and arrays compared -/
omit [Laid] in
theorem um:∀{ks ks':List Nat} {xs ys:List AV} {r:Bool},ij (ks++ks') xs ys=some r →
 ∃p q,ij ks (xs.take ks.length) (ys.take ks.length)=some p∧ij ks' (xs.drop ks.length) (ys.drop ks.length)=some q∧r=(p&&q)
 | [],ks',xs,ys,r,h=>⟨true,r,rfl,by simpa using h,by simp⟩
 | k:: ks,ks',[],ys,r,h=>by simp[ij]at h
 | k:: ks,ks',x:: xs,[],r,h=>by simp[ij]at h
 | k:: ks,ks',x:: xs,y:: ys,r,h=>by
   simp only[aaQ,ij]at h;split at h
   ·rename_i p q e1 e2;obtain⟨p',q',e3,e4,e5⟩:=um e2;simp only[ON]at h;exact⟨p&&p',q',by simp[ij,e1,e3],by simpa using e4,by rw[←h,e5,Bool.and_assoc]⟩
   ·cases h
omit [Laid] in
theorem kY:∀{ks:List Nat} {xs ys:List AV} {r:Bool},ij ks xs ys=some r→xs.length=ks.length∧ys.length=ks.length
 | [],[],[],_,_=>⟨rfl,rfl⟩
 | [],x:: xs,_,_,h=>by simp[ij]at h
 | [],[],y:: ys,_,h=>by simp[ij]at h
 | k:: ks,[],_,_,h=>by simp[ij]at h
 | k:: ks,x:: xs,[],_,h=>by simp[ij]at h
 | k:: ks,x:: xs,y:: ys,r,h=>by
   simp only[ij]at h;split at h
   ·rename_i e1 e2;have:=kY e2;simp[this.1,this.2]
   ·cases h
def fQ(P:Program)(t:TypeId)(vs:List Value):Value:=if eK P t then .agg vs.toArray else vs.headD undef
omit [Laid] in
theorem oK{w:World}{vs:List Value}{off:Nat}(hk:fo P t=true)(hl:off+P.cellsOf t≤vs.length)(h1:eK P t=false→P.cellsOf t=1):
 (part t vs.toArray off).run P w=.ok (fQ P t ((vs.drop off).take (P.cellsOf t))) w:=by
 unfold part fQ;simp only[aaE,uH hk,aaD];cases hg:eK P t with
 | true =>
   simp only[if_true,aaE,dp hk,aaD,aaF]
   congr 2
   apply Array.ext';simp[List.extract_eq_take_drop,Nat.add_sub_cancel_left]
 | false =>
   have h1:=h1 hg;simp only[aaj,if_false];have hlt:off<vs.length:=by omega
   have e2:vs.toArray[off]?=some vs[off]:=by simp[hlt]
   have e:(vs.drop off).take 1=[vs[off]]:=by rw[aaK hlt];rfl
   simp only[e2,h1,e];rfl
omit [Laid] in
def lg{ks:List Nat}(h:kZ P d t=some ks):fo P t=true∧(eK P t=false→ks.length=1):=by
 cases d with
 | zero=>simp[kZ]at h
 | succ d =>
   unfold kZ at h;split at h
   ·rename_i hk;refine⟨hk,fun hg=>?_⟩;unfold eK at hg;split at h<;>rename_i e<;>(try rw[e]at hg)<;>(try simp only[qV,Bool.true_eq_false]at hg)<;>(try (simp only[ON]at h;subst h;rfl))<;>cases h
   ·cases h
omit [Laid] in
theorem BR{P:Program}{g:TypeId→Option (List Nat)}{D:Nat}{xs ys:List AV}{vs us:List Value}(hx:aD ι S w xs vs)(hy:aD ι S w ys us)
 (ih:∀t ks,g t=some ks→fo P t=true∧(eK P t=false→ks.length=1)∧∀xs ys vs us r,aD ι S w xs vs→aD ι S w ys us→ij ks xs ys=some r→(Op.equalIn D t (fQ P t vs) (fQ P t us)).run P w=.ok r w) :
 ∀(fs:List Field) (o:Nat) (ks:List Nat) (r:Bool),tp g P o fs=some ks→ij ks (xs.drop o) (ys.drop o)=some r→(Op.eqFields D vs.toArray us.toArray fs).run P w=.ok r w
 | [],o,ks,r,h,k=>by
   simp only[tp,ON]at h;subst h;have:r=true:=by
    cases hxs:xs.drop o<;>cases hys:ys.drop o<;>rw[hxs,hys]at k<;>simp[ij]at k;first|exact k|exact k.symm
   subst this;rfl
 | f:: fs,o,ks,r,h,k=>by
   simp only[tp]at h;split at h
   ·rename_i hc;obtain⟨ho,hn⟩:=hc;cases hg:g f.type with
    | none=>rw[hg]at h;cases h
    | some k1 =>
      rw[hg]at h;simp only[Option.bind_some]at h;split at h
      ·rename_i hz;cases hf:tp g P (o+k1.length) fs with
       | none=>rw[hf]at h;cases h
       | some k2 =>
         rw[hf]at h;simp only[aaR,ON]at h;subst h;obtain⟨p,q,e1,e2,e3⟩:=um k;obtain⟨t1,t2,t3⟩:=ih f.type k1 hg;have l1:=(kY e1).1;have l2:=(kY e1).2;have lx:=hx.length;have ly:=hy.length;simp only[aai,List.length_drop]at l1 l2;obtain⟨hz,hz0⟩:=hz;have hpx:o+P.cellsOf f.type≤vs.length:=by omega
         have hpy:o+P.cellsOf f.type≤us.length:=by omega
         have h1:eK P f.type=false→P.cellsOf f.type=1:=fun q=>by rw[hz];exact t2 q
         have hq:=t3 _ _ _ _ p ((hx.drop o).take k1.length) ((hy.drop o).take k1.length) e1;have rec':=BR hx hy ih fs (o+k1.length) k2 q hf (by simpa[List.drop_drop]using e2);simp only[Op.eqFields,ho];rw[if_pos hn];simp only[aaE,oK (P:=P) (w:=w) t1 hpx h1,oK (P:=P) (w:=w) t1 hpy h1,aaD,hz,hq,Sem.run_ite];cases p with
         | true=>simp only[Bool.not_true,aaj,if_false,rec'];rw[e3];rfl
         | false=>simp only[Bool.not_false,if_true,aaF];rw[e3];rfl
      ·cases h
   ·cases h
omit [Laid] in
def Pa{ks:List Nat}:∀{n:Nat} {xs ys:List AV} {r:Bool},ij (Bf (n+1) ks) xs ys=some r →
 ∃p q,ij ks (xs.take ks.length) (ys.take ks.length)=some p∧ij (Bf n ks) (xs.drop ks.length) (ys.drop ks.length)=some q∧r=(p&&q):=fun h=>um h
omit [Laid] in
theorem DN{P:Program}{D:Nat}{e:TypeId}{ks:List Nat}{xs ys:List AV}{vs us:List Value}(hx:aD ι S w xs vs)(hy:aD ι S w ys us)
 (hk:fo P e=true) (h1:eK P e=false→ks.length=1) (hz:P.cellsOf e=ks.length) (hz0:0<ks.length)
 (ih:∀xs ys vs us r,aD ι S w xs vs→aD ι S w ys us→ij ks xs ys=some r→(Op.equalIn D e (fQ P e vs) (fQ P e us)).run P w=.ok r w) :
 ∀(n s:Nat) (r:Bool),ij (Bf n ks) (xs.drop (s*ks.length)) (ys.drop (s*ks.length))=some r →
  (forIn (m:=Sem) (List.range' s n) ((none,()):Option Bool×Unit) (fun i _=>do
   let a ←part e vs.toArray (i*ks.length)
   let b ←part e us.toArray (i*ks.length)
   let r ←Op.equalIn D e a b
   if (!r)=true then pure (.done (some false,())) else pure (.yield (none,())))).run P w=.ok (if r then (none,()) else (some false,())) w
 | 0,s,r,h=>by
   have:r=true:=by
    cases hxs:xs.drop (s*ks.length)<;>cases hys:ys.drop (s*ks.length)<;>rw[hxs,hys]at h<;>simp[ij,Bf]at h;first|exact h|exact h.symm
   subst this;rfl
 | n+1,s,r,h=>by
   obtain⟨p,q,e1,e2,e3⟩:=Pa h;have l1:=(kY e1).1;have l2:=(kY e1).2;have lx:=hx.length;have ly:=hy.length;simp only[aai,List.length_drop]at l1 l2;have hpx:s*ks.length+P.cellsOf e≤vs.length:=by omega
   have hpy:s*ks.length+P.cellsOf e≤us.length:=by omega
   have h1':eK P e=false→P.cellsOf e=1:=fun q=>by rw[hz];exact h1 q
   have hq:=ih _ _ _ _ p ((hx.drop (s*ks.length)).take ks.length) ((hy.drop (s*ks.length)).take ks.length) e1;have rec':=DN hx hy hk h1 hz hz0 ih n (s+1) q (by rw[aaP,Nat.one_mul];simpa[List.drop_drop]using e2);rw[List.range'_succ];simp only[List.forIn_cons,aaE,oK (P:=P) (w:=w) hk hpx h1',oK (P:=P) (w:=w) hk hpy h1',aaD,hz,hq,Sem.run_ite];cases p with
   | true=>simp only[Bool.not_true,aaj,if_false,aaF,aaD,rec'];rw[e3];rfl
   | false=>simp only[Bool.not_false,if_true,aaF,aaD];rw[e3];rfl
omit [Laid] in
theorem Jg:∀(d:Nat) (t:TypeId) (ks:List Nat),kZ P d t=some ks→∀(D:Nat),d≤D→∀(xs ys:List AV) (vs us:List Value) (r:Bool),aD ι S w xs vs→aD ι S w ys us →
 ij ks xs ys=some r→(Op.equalIn D t (fQ P t vs) (fQ P t us)).run P w=.ok r w
 | 0,t,ks,h,_,_,_,_,_,_,_,_,_,_=>by simp[kZ]at h
 | d+1,t,ks,h,0,hD,_,_,_,_,_,_,_,_=>by omega
 | d+1,t,ks,h,D+1,hD,xs,ys,vs,us,r,hx,hy,hr=>by
   have ih:=fun t ks h=>Jg (P:=P) (ι:=ι) (S:=S) (w:=w) d t ks h D (by omega);obtain⟨ba,hone⟩:=lg h;unfold kZ at h;rw[if_pos ba]at h;have scalar:∀k:Nat,ks=[k]→eK P t=false→∃x y u v,Ga k x y=some r∧ax ι S w x u∧ax ι S w y v∧fQ P t vs=u∧fQ P t us=v:=by
    intro k hks hg;subst hks;have l:=kY hr
    match xs,ys,vs,us,l,hx,hy,hr with
    | [x],[y],u:: vs',v:: us',_,hx,hy,hr =>
      simp only[bL]at hx hy;simp only[ij]at hr;split at hr
      ·rename_i a b e1 e2;simp only[ON]at hr e2;subst e2;simp only[Bool.and_true]at hr;subst hr;exact⟨x,y,u,v,e1,hx.1,hy.1,by simp[fQ,hg],by simp[fQ,hg]⟩
      ·cases hr
    | [x],[y],[],_,_,hx,_,_=>simp at hx
    | [x],[y],_:: _,[],_,_,hy,_=>simp at hy
   split at h
   ·rename_i e;obtain⟨x,y,u,v,e1,rx,ry,rfl,rfl⟩:=scalar 0 (by simpa using h.symm) (by simp[eK,e,qV]);unfold Ga at e1;split at e1<;>first|(exfalso;omega)|skip
    ·simp only[cE]at rx ry;simp only[ON]at e1;rw[rx,ry,←e1];exact run_equalIn_bool' w D t _ _ e
    ·cases e1
   ·rename_i k e;obtain⟨x,y,u,v,e1,rx,ry,rfl,rfl⟩:=scalar 1 (by simpa using h.symm) (by simp[eK,e,qV]);unfold Ga at e1;split at e1<;>first|(exfalso;omega)|skip
    ·simp only[cE]at rx ry;split at e1
     ·rename_i hk;subst hk;simp only[ON]at e1;rw[rx,ry,run_equalIn_int w D t _ k _ _ e,←e1];rfl
     ·cases e1
    ·cases e1
   ·rename_i e;obtain⟨x,y,u,v,e1,rx,ry,rfl,rfl⟩:=scalar 2 (by simpa using h.symm) (by simp[eK,e,qV]);unfold Ga at e1;split at e1<;>first|(exfalso;omega)|skip
    ·rename_i _ _ p q _;simp only[dG]at rx ry;simp only[ON]at e1;rw[rx.1,ry.1,run_equalIn_string w D t _ _ e,←e1];simp only[ByteArray.toList_mk]
     congr 1
     by_cases hpq:p=q<;>simp[hpq]
    ·cases e1
   ·rename_i fs e;split at h
    ·cases h
    ·rename_i hsi;have hg:eK P t=true:=by simp[eK,e,qV]
     have hf:P.fieldsOf t=fs:=by simp[Program.fieldsOf,e]
     simp only[fQ,hg,if_true];rw[run_equalIn_struct w D t _ _ (by rw[hf];exact e) (by simpa using hsi),hf];exact BR hx hy (fun t ks h=>⟨(lg h).1,(lg h).2,fun xs ys vs us r a b c=>ih t ks h xs ys vs us r a b c⟩) fs.toList 0 ks r h (by simpa using hr)
   ·rename_i n el e;cases hf:kZ P d el with
    | none=>rw[hf]at h;cases h
    | some k1 =>
      rw[hf]at h;simp only[Option.bind_some]at h;split at h
      ·rename_i hz;simp only[ON]at h;subst h;have hg:eK P t=true:=by simp[eK,e,qV]
       simp only[fQ,hg,if_true];have key:=DN hx hy (lg hf).1 (lg hf).2 hz.1 hz.2 (fun xs ys vs us r a b c=>ih el k1 hf xs ys vs us r a b c) n 0 r (by simpa using hr);simp only[Op.equalIn,aaE,run_underlying e,aaD,dp (lg hf).1,hz.1];have hfor:∀(f:Nat→Option Bool×Unit→Sem (ForInStep (Option Bool×Unit))),forIn (m:=Sem) [:n] ((none,()):Option Bool×Unit) f=forIn (List.range' 0 n) ((none,()):Option Bool×Unit) f:=fun f=>by
        simp[Std.Legacy.Range.forIn_eq_forIn_range',Std.Legacy.Range.size]
       rw[hfor,key];cases r<;>rfl
      ·cases h
   ·cases h
end
end Go.Aw
end
