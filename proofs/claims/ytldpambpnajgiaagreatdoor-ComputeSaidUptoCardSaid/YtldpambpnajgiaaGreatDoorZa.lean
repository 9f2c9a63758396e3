/-
 Abstract values for a Go walk: what a value of the model stands for,in a memory of which only the cells that are never written again are told;with the rules by which the model's own wp follows from a condition on abstract values alone.
 No conditions.
-/
import Derived.WalkKit
import Derived.Deep.Quiet
import Derived.Stop.Asserts
import Derived.WalkSpells
import Derived.WalkLawsBesides
import Derived.Laws.StructEq
set_option linter.unusedVariables false
set_option linter.unusedSimpArgs false
set_option maxRecDepth 1000000
set_option maxHeartbeats 16000000
noncomputable section
namespace Go.Aw
section
abbrev aS:=@Nat.le_refl
abbrev dO:=@List.getElem?_eq_getElem
abbrev gE:=@List.getElem?_eq_some_iff
abbrev gO:=@List.mem_of_getElem?
abbrev iD:=@List.getElem?_append_left
abbrev iF:=@List.getElem?_append_right
abbrev iN:=@List.getElem?_set_self
abbrev iS:=@List.getElem?_set_ne
abbrev lE:=@List.getElem?_map
abbrev mK:=@List.getElem?_eq_none
abbrev nE:=@Nat.eq_of_beq_eq_true
abbrev nO:=@Nat.le_of_ble_eq_true
abbrev oF:=@List.getD_eq_getElem?_getD
abbrev oN:=@decide_eq_false
abbrev tO:=@decide_eq_true
abbrev uP:=@of_decide_eq_true
abbrev AS:=@of_decide_eq_false
abbrev AT:=@Nat.lt_or_ge
abbrev By:=@List.all_eq_true
abbrev BY:=@Array.getElem?_eq_some_iff
abbrev DO:=@List.length_append
abbrev Gt:=@List.take_add_one
abbrev GO:=@List.take_length
abbrev Is:=@Option.some.inj
abbrev ID:=@List.mem_range
abbrev IF:=@List.map_cons
abbrev IN:=@List.mem_append
abbrev IS:=@List.mem_cons
abbrev Lt:=@List.set_append_right
abbrev Mk:=@List.set_append_left
abbrev MK:=@List.mem_cons_of_mem
abbrev NO:=@Int.toNat_natCast
abbrev Of:=@List.take_of_length_le
abbrev On:=@Bool.and_eq_true
abbrev OF:=@decide_eq_true_eq
abbrev ON:=@Option.some.injEq
abbrev To:=@List.getElem?_take
abbrev TO:=@List.append_assoc
abbrev Up:=@List.mem_singleton
abbrev UP:=@Nat.lt_of_lt_of_le
abbrev aac:=@Array.getElem?_eq_getElem
abbrev aah:=@List.length_cons
abbrev aai:=@List.length_map
abbrev aar:=@Option.map_eq_some_iff
abbrev aas:=@List.mem_map
abbrev aat:=@List.getElem?_drop
abbrev aau:=@List.getElem?_range
abbrev aaW:=@List.length_take
abbrev aaX:=@Bool.false_eq_true
abbrev aaZ:=@Prod.mk.injEq
abbrev aa1:=@List.append_nil
abbrev aa5:=@List.set_set
abbrev abe:=@List.length_set
abbrev acr:=@Nat.zero_le
abbrev acu:=@Nat.zero_add
abbrev acv:=@List.filterMap_cons
abbrev acx:=@Nat.le_trans
abbrev acy:=@Nat.lt_of_le_of_lt
abbrev acA:=@List.getElem_mem
abbrev acB:=@List.any_eq_true
abbrev acC:=@List.mem_filter
abbrev acD:=@List.filter_append
abbrev acE:=@List.mem_filterMap
abbrev acG:=@List.all_cons
abbrev acH:=@Result.andThen_ok
abbrev acI:=@Sem.run_bind
abbrev acJ:=@Sem.run_pure
abbrev acK:=@Nat.ble_eq
abbrev acL:=@Bool.or_eq_true
abbrev acM:=@Bool.not_eq_true'
abbrev acN:=@List.mem_cons_self
abbrev acO:=@List.drop_eq_getElem_cons
abbrev acP:=@Int.ofNat_eq_natCast
abbrev acQ:=@List.flatten_cons
abbrev acR:=@List.length_nil
abbrev acS:=@List.take_append_of_le_length
abbrev acT:=@Nat.add_mul
abbrev acU:=@List.cons_append
abbrev acV:=@Option.map_some
abbrev acW:=@Bool.or_eq_false_iff
abbrev acX:=@Array.getElem?_eq_none
open Go Go.RowKit
inductive AV where
 | v (x:Value)
 | str (l:List UInt8)
 | any
 | agg (cs:List AV)
 | aF (cs:List AV)
 | emp
 | sl (sz:Nat) (rows:List (List AV))
 | sb (id sz:Nat) (rows:List (List AV))
 | ip (cs:List AV)
 | own (id off len sz:Nat)
 | op (id off:Nat)
 | fn (f:Fn) (first cap:List AV)
 | jI (t:TypeId) (x:AV)
 | mp (id:Nat)
 deriving Inhabited
structure nJ where
 ty:TypeId
 cells:List AV
 wr:Bool
inductive dh where
 | aC (b:nJ)
 | tok (e sz n:Nat)
 | dead
 | mp (c:Nat) (es:List (Nat×AV×AV))
 | it (m s:Nat) (sn:List Nat) (l:Nat)
abbrev aa:=List dh
inductive Ix where
 | aC (b:Nat)
 | tok (n:Nat) (v:Value)
abbrev i_(n:Int):AV:=.v (.int .i64 n)
abbrev b_(b:Bool):AV:=.v (.bool b)
abbrev ba:=Nat→Nat→Prop
section
variable (ι:List Ix) (S:ba) (w:World)
mutual
def ax:AV→Value→Prop
 | .v x,y=>y=x
 | .str l,y=>y=.string ⟨l.toArray⟩∧l.length≤maxLen
 | .any,_=>True
 | .agg cs,y=>∃vs:List Value,y=.agg vs.toArray∧aI cs vs
 | .aF cs,y=>∃vs:List Value,y=.tuple vs.toArray∧aI cs vs
 | .emp,y=>∃a,y=.slice a 0 0
 | .sl sz rows,y=>∃a cap,y=.slice a rows.length cap∧rows.length≤cap∧cap≤maxLen∧(rows=[]∨∃b off,a=some ⟨b,off,none⟩∧da sz rows b off)
 | .sb id sz rows,y=>(∃a cap,y=.slice a rows.length cap∧rows.length≤cap∧cap≤maxLen∧(rows=[]∨∃b off,a=some ⟨b,off,none⟩∧da sz rows b off))∧∃n v,ι[id]?=some (.tok n v)∧rows.length≤n∧(n=rows.length→y=v)
 | .ip cs,y=>∃b off,y=.pointer (some ⟨b,off,none⟩)∧bZ cs b off
 | .own id off len sz,y=>∃b a cap n ty,ι[id]?=some (.aC b)∧y=.slice a len cap∧len≤cap∧cap≤maxLen∧(cap=0∨a=some ⟨b,off,none⟩)∧w.shape? b=some (ty,n)∧off+cap*sz≤n
 | .op id off,y=>∃b,ι[id]?=some (.aC b)∧y=.pointer (some ⟨b,off,none⟩)
 | .fn f xs ys,y=>∃vs us:List Value,y=.func f vs.toArray us.toArray∧aI xs vs∧aI ys us
 | .jI t x,y=>∃v,y=.iface t v∧ax x v
 | .mp id,y=>∃b,ι[id]?=some (.aC b)∧y=.map (some b)
def aI:List AV→List Value→Prop
 | [],vs=>vs=[]
 | a:: as,vs=>∃u us,vs=u:: us∧ax a u∧aI as us
def bZ:List AV→Nat→Nat→Prop
 | [],_,_=>True
 | c:: cs,b,off=>(∃u,w.cell? ⟨b,off,none⟩=some u∧S b off∧ax c u)∧bZ cs b (off+1)
def da(sz:Nat):List (List AV)→Nat→Nat→Prop
 | [],_,_=>True
 | r:: rs,b,off=>r.length=sz∧bZ r b off∧da sz rs b (off+sz)
end
end
section
variable {ι:List Ix} {S:ba} {w:World}
@[simp] theorem dx(x y:Value):ax ι S w (.v x) y↔y=x:=by simp[ax]
@[simp] theorem afv(y:Value):ax ι S w .any y↔True:=by simp[ax]
@[simp] theorem gN(l:List UInt8)(y:Value):ax ι S w (.str l) y↔y=.string ⟨l.toArray⟩∧l.length≤maxLen:=by simp[ax]
@[simp] theorem kF(vs:List Value):aI ι S w [] vs↔vs=[]:=by simp[aI]
@[simp] theorem dc(a:AV)(as:List AV)(v:Value)(vs:List Value):aI ι S w (a:: as) (v:: vs)↔ax ι S w a v∧aI ι S w as vs:=by
 rw[aI];constructor
 ·rintro⟨u,us,e,h1,h2⟩;simp only[List.cons.injEq]at e;obtain⟨rfl,rfl⟩:=e;exact⟨h1,h2⟩
 ·rintro⟨h1,h2⟩;exact⟨_,_,rfl,h1,h2⟩
@[simp] theorem Xl(a:AV)(as:List AV):¬aI ι S w (a:: as) []:=by
 rw[aI];rintro⟨u,us,e,_⟩;cases e
theorem aI.length:∀{as:List AV} {vs:List Value},aI ι S w as vs→as.length=vs.length
 | [],vs,h=>by simp at h;simp[h]
 | a:: as,[],h=>by simp at h
 | a:: as,v:: vs,h=>by simp at h;simp[aI.length h.2]
theorem aI.get:∀{as:List AV} {vs:List Value},aI ι S w as vs→∀(i:Nat) (a:AV),as[i]?=some a→∃v,vs[i]?=some v∧ax ι S w a v
 | [],vs,h,i,a,e=>by simp at e
 | a:: as,[],h,_,_,_=>by simp at h
 | a:: as,v:: vs,h,0,x,e=>by simp at e h;subst e;exact⟨v,by simp,h.1⟩
 | a:: as,v:: vs,h,i+1,x,e=>by simp at e h;simpa using h.2.get i x e
theorem aI.get':∀{as:List AV} {vs:List Value},aI ι S w as vs→∀(i:Nat) (v:Value),vs[i]?=some v→∃a,as[i]?=some a∧ax ι S w a v:=by
 intro as vs h i v e;have hl:=h.length;obtain⟨hi,_⟩:=gE.1 e;have:as[i]?=some as[i]:=dO (by omega);obtain⟨u,hu,hr⟩:=h.get i _ this;rw[e]at hu;cases hu;exact⟨_,this,hr⟩
theorem aI.set:∀{as:List AV} {vs:List Value},aI ι S w as vs→∀(i:Nat) (a:AV) (v:Value),ax ι S w a v→aI ι S w (as.set i a) (vs.set i v)
 | [],vs,h,i,a,v,_=>by simp at h;subst h;simp
 | a:: as,[],h,_,_,_,_=>by simp at h
 | a:: as,v:: vs,h,0,x,u,e=>by simp at h;simpa using⟨e,h.2⟩
 | a:: as,v:: vs,h,i+1,x,u,e=>by simp at h;simpa using⟨h.1,h.2.set i x u e⟩
theorem aI.append:∀{as bs:List AV} {vs us:List Value},aI ι S w as vs→aI ι S w bs us→aI ι S w (as++bs) (vs++us)
 | [],bs,vs,us,h,k=>by simp at h;subst h;simpa using k
 | a:: as,bs,[],us,h,_=>by simp at h
 | a:: as,bs,v:: vs,us,h,k=>by simp at h;simpa using⟨h.1,h.2.append k⟩
theorem aI.mk:∀{as:List AV} {vs:List Value},as.length=vs.length→(∀(i:Nat) (a:AV) (v:Value),as[i]?=some a→vs[i]?=some v→ax ι S w a v)→aI ι S w as vs
 | [],vs,h,_=>by simpa using (List.length_eq_zero_iff.1 (by simpa using h.symm))
 | a:: as,[],h,_=>by simp at h
 | a:: as,v:: vs,h,k=>by
   simp only[dc];exact⟨k 0 a v rfl rfl,aI.mk (by simpa using h) fun i x u e f=>k (i+1) x u (by simpa using e) (by simpa using f)⟩
theorem aI.take:∀{as:List AV} {vs:List Value} (n:Nat),aI ι S w as vs→aI ι S w (as.take n) (vs.take n)
 | [],vs,n,h=>by simp at h;subst h;simp
 | a:: as,[],n,h=>by simp at h
 | a:: as,v:: vs,0,h=>by simp
 | a:: as,v:: vs,n+1,h=>by simp at h;simpa using⟨h.1,h.2.take n⟩
theorem aI.drop:∀{as:List AV} {vs:List Value} (n:Nat),aI ι S w as vs→aI ι S w (as.drop n) (vs.drop n)
 | [],vs,n,h=>by simp at h;subst h;simp
 | a:: as,[],n,h=>by simp at h
 | a:: as,v:: vs,0,h=>by simpa using h
 | a:: as,v:: vs,n+1,h=>by simp at h;simpa using h.2.drop n
theorem bZ.get:∀{cs:List AV} {b off:Nat},bZ ι S w cs b off→∀(i:Nat) (c:AV),cs[i]?=some c→∃u,w.cell? ⟨b,off+i,none⟩=some u∧S b (off+i)∧ax ι S w c u
 | [],b,off,h,i,c,e=>by simp at e
 | c:: cs,b,off,h,0,x,e=>by simp at e;subst e;rw[bZ]at h;simpa using h.1
 | c:: cs,b,off,h,i+1,x,e=>by
   simp at e;rw[bZ]at h;have:=h.2.get i x e;rw[show off+(i+1)=off+1+i by omega];exact this
theorem bZ.mk:∀{cs:List AV} {b off:Nat},(∀(i:Nat) (c:AV),cs[i]?=some c→∃u,w.cell? ⟨b,off+i,none⟩=some u∧S b (off+i)∧ax ι S w c u)→bZ ι S w cs b off
 | [],b,off,h=>by simp[bZ]
 | c:: cs,b,off,h=>by
   rw[bZ];refine⟨by simpa using h 0 c rfl,bZ.mk fun i x e=>?_⟩;have:=h (i+1) x (by simpa using e);rw[show off+1+i=off+(i+1) by omega];exact this
theorem bZ.drop{cs:List AV}{b off:Nat}(h:bZ ι S w cs b off)(k:Nat):bZ ι S w (cs.drop k) b (off+k):=
 bZ.mk fun i c e=>by
  have:=h.get (k+i) c (by simpa using e);rw[show off+k+i=off+(k+i) by omega];exact this
theorem bZ.aq:∀{cs:List AV} {b off:Nat},bZ ι S w cs b off→∃vs:List Value,aI ι S w cs vs∧∀(i:Nat) (v:Value),vs[i]?=some v→w.cell? ⟨b,off+i,none⟩=some v
 | [],b,off,h=>⟨[],by simp,by simp⟩
 | c:: cs,b,off,h=>by
   rw[bZ]at h;obtain⟨⟨u,hu,_,hr⟩,h2⟩:=h;obtain⟨vs,hv,hc⟩:=h2.aq;refine⟨u:: vs,by simpa using⟨hr,hv⟩,fun i v e=>?_⟩;cases i with
   | zero=>simp at e;subst e;simpa using hu
   | succ i=>simp at e;have:=hc i v e;rw[show off+(i+1)=off+1+i by omega];exact this
theorem da.get{sz:Nat}:∀{rows:List (List AV)} {b off:Nat},da ι S w sz rows b off→∀(i:Nat) (r:List AV),rows[i]?=some r→r.length=sz∧bZ ι S w r b (off+i*sz)
 | [],b,off,h,i,c,e=>by simp at e
 | r:: rs,b,off,h,0,x,e=>by simp at e;subst e;rw[da]at h;simpa using⟨h.1,h.2.1⟩
 | r:: rs,b,off,h,i+1,x,e=>by
   simp at e;rw[da]at h;have:=h.2.2.get i x e;rw[show off+(i+1)*sz=off+sz+i*sz by rw[acT];omega];exact this
theorem da.mk{sz:Nat}:∀{rows:List (List AV)} {b off:Nat},(∀(i:Nat) (r:List AV),rows[i]?=some r→r.length=sz∧bZ ι S w r b (off+i*sz))→da ι S w sz rows b off
 | [],b,off,h=>by simp[da]
 | r:: rs,b,off,h=>by
   rw[da];have h0:=h 0 r rfl;refine⟨h0.1,by simpa using h0.2,da.mk fun i x e=>?_⟩;have:=h (i+1) x (by simpa using e);rw[show off+sz+i*sz=off+(i+1)*sz by rw[acT];omega];exact this
end
def iI:Option Ix→Option Ix→Prop
 | some (.tok n v),y=>∃n' v',y=some (.tok n' v')∧((n'=n∧v'=v)∨n<n')
 | x,y=>y=x
theorem iI.refl:∀x,iI x x
 | some (.tok n v)=>⟨n,v,rfl,.inl ⟨rfl,rfl⟩⟩
 | some (.aC _)=>rfl
 | none=>rfl
theorem iI.of_eq{x y:Option Ix}(h:y=x):iI x y:=h▸iI.refl x
theorem iI.trans:∀{x y z:Option Ix},iI x y→iI y z→iI x z
 | some (.tok n v),y,z,h,k=>by
   obtain⟨n',v',rfl,h⟩:=h;obtain⟨n'',v'',rfl,k⟩:=k;refine⟨n'',v'',rfl, ?_⟩;rcases h with⟨rfl,rfl⟩|h
   ·exact k
   ·rcases k with⟨rfl,rfl⟩|k
    ·exact .inr h
    ·exact .inr (Nat.lt_trans h k)
 | some (.aC _),y,z,h,k=>by simp only[iI]at h;subst h;exact k
 | none,y,z,h,k=>by simp only[iI]at h;subst h;exact k
theorem iI.aC{b:Nat}{y:Option Ix}(h:iI (some (.aC b)) y):y=some (.aC b):=h
structure cc(n base:Nat)(ι:List Ix)(S:ba)(w:World)(ι':List Ix)(S':ba)(w':World):Prop where
 pre:∀i,i<n→iI ι[i]? ι'[i]?
 sub:∀b o,S b o→S' b o
 new:∀b o,S' b o→S b o∨base≤b
 cell:∀b o,S b o→w'.cell? ⟨b,o,none⟩=w.cell? ⟨b,o,none⟩
 AH:∀b x,w.shape? b=some x→w'.shape? b=some x
 oT:Below base w w'
theorem cc.refl(n base:Nat)(ι:List Ix)(S:ba)(w:World):cc n base ι S w ι S w:=
 ⟨fun _ _=>iI.refl _,fun _ _ h=>h,fun _ _ h=>.inl h,fun _ _ _=>rfl,fun _ _ h=>h,Below.refl _ _⟩
theorem cc.trans{n base:Nat}{ι ι' ι'':List Ix}{S S' S'':ba}{w w' w'':World}(h:cc n base ι S w ι' S' w')(k:cc n base ι' S' w' ι'' S'' w''):cc n base ι S w ι'' S'' w'':=
 ⟨fun i hi=>(h.pre i hi).trans (k.pre i hi),fun b o x=>k.sub b o (h.sub b o x),
  fun b o x=>(k.new b o x).elim (fun y=>h.new b o y) .inr,
  fun b o x=>(k.cell b o (h.sub b o x)).trans (h.cell b o x),fun b x hx=>k.AH b x (h.AH b x hx),h.oT.trans k.oT⟩
theorem cc.mono{n n' base base':Nat}{ι ι':List Ix}{S S':ba}{w w':World}(h:cc n base ι S w ι' S' w')(hn:n'≤n)(hb:base'≤base):cc n' base' ι S w ι' S' w':=
 ⟨fun i hi=>h.pre i (UP hi hn),h.sub,fun b o x=>(h.new b o x).imp id (fun y=>acx hb y),h.cell,h.AH,h.oT.mono hb⟩
mutual
def Bd(n:Nat):AV→Prop
 | .v _|.str _|.any|.emp=>True
 | .agg cs|.aF cs|.ip cs=>gU n cs
 | .sl _ rows=>pN n rows
 | .sb id _ rows=>id<n∧pN n rows
 | .own id _ _ _|.op id _|.mp id=>id<n
 | .fn _ xs ys=>gU n xs∧gU n ys
 | .jI _ x=>Bd n x
def gU(n:Nat):List AV→Prop
 | []=>True
 | a:: as=>Bd n a∧gU n as
def pN(n:Nat):List (List AV)→Prop
 | []=>True
 | r:: rs=>gU n r∧pN n rs
end
mutual
theorem ax.bd{ι:List Ix}{S:ba}{w:World}{n:Nat}(hn:ι.length≤n):∀(a:AV) (y:Value),ax ι S w a y→Bd n a
 | .v _,_,_=>by simp[Bd]
 | .str _,_,_=>by simp[Bd]
 | .any,_,_=>by simp[Bd]
 | .emp,_,_=>by simp[Bd]
 | .agg cs,y,k=>by rw[ax]at k;rw[Bd];obtain⟨vs,e,k⟩:=k;exact aI.bd hn cs vs k
 | .aF cs,y,k=>by rw[ax]at k;rw[Bd];obtain⟨vs,e,k⟩:=k;exact aI.bd hn cs vs k
 | .sl sz rows,y,k=>by
   rw[ax]at k;rw[Bd];obtain⟨a,cap,e,h1,h2,h3⟩:=k;rcases h3 with rfl|⟨b,off,ea,hr⟩
   ·simp[pN]
   ·exact da.bd hn sz rows b off hr
 | .sb tid sz rows,y,k=>by
   rw[ax]at k;rw[Bd];obtain⟨⟨a,cap,e,h1,h2,h3⟩,m,v,t1,_⟩:=k;refine⟨UP (gE.1 t1).1 hn, ?_⟩;rcases h3 with rfl|⟨b,off,ea,hr⟩
   ·simp[pN]
   ·exact da.bd hn sz rows b off hr
 | .ip cs,y,k=>by rw[ax]at k;rw[Bd];obtain⟨b,off,e,k⟩:=k;exact bZ.bd hn cs b off k
 | .own tid off len sz,y,k=>by
   rw[ax]at k;rw[Bd];obtain⟨b,a,cap,m,ty,h1,_⟩:=k;exact UP (gE.1 h1).1 hn
 | .op tid off,y,k=>by
   rw[ax]at k;rw[Bd];obtain⟨b,h1,_⟩:=k;exact UP (gE.1 h1).1 hn
 | .fn f xs ys,y,k=>by rw[ax]at k;rw[Bd];obtain⟨vs,us,e,k1,k2⟩:=k;exact⟨aI.bd hn xs vs k1,aI.bd hn ys us k2⟩
 | .jI t x,y,k=>by rw[ax]at k;rw[Bd];obtain⟨v,e,k⟩:=k;exact ax.bd hn x v k
 | .mp tid,y,k=>by
   rw[ax]at k;rw[Bd];obtain⟨b,h1,_⟩:=k;exact UP (gE.1 h1).1 hn
theorem aI.bd{ι:List Ix}{S:ba}{w:World}{n:Nat}(hn:ι.length≤n):∀(as:List AV) (vs:List Value),aI ι S w as vs→gU n as
 | [],_,_=>by simp[gU]
 | a:: as,[],k=>by simp at k
 | a:: as,v:: vs,k=>by simp at k;rw[gU];exact⟨ax.bd hn a v k.1,aI.bd hn as vs k.2⟩
theorem bZ.bd{ι:List Ix}{S:ba}{w:World}{n:Nat}(hn:ι.length≤n):∀(cs:List AV) (b off:Nat),bZ ι S w cs b off→gU n cs
 | [],_,_,_=>by simp[gU]
 | c:: cs,b,off,k=>by rw[bZ]at k;rw[gU];obtain⟨⟨u,_,_,h⟩,k2⟩:=k;exact⟨ax.bd hn c u h,bZ.bd hn cs b (off+1) k2⟩
theorem da.bd{ι:List Ix}{S:ba}{w:World}{n:Nat}(hn:ι.length≤n)(sz:Nat):∀(rows:List (List AV)) (b off:Nat),da ι S w sz rows b off→pN n rows
 | [],_,_,_=>by simp[pN]
 | r:: rs,b,off,k=>by rw[da]at k;rw[pN];exact⟨bZ.bd hn r b off k.2.1,da.bd hn sz rs b (off+sz) k.2.2⟩
end
mutual
theorem ax.jn{n base:Nat}{ι ι':List Ix}{S S':ba}{w w':World}(h:cc n base ι S w ι' S' w'):∀(a:AV) (y:Value),Bd n a→ax ι S w a y→ax ι' S' w' a y
 | .v x,y,p,k=>by simpa using k
 | .str x,y,p,k=>by simpa using k
 | .any,y,p,k=>by simp
 | .agg cs,y,p,k=>by rw[ax]at *;rw[Bd]at p;obtain⟨vs,e,k⟩:=k;exact⟨vs,e,aI.jn h cs vs p k⟩
 | .aF cs,y,p,k=>by rw[ax]at *;rw[Bd]at p;obtain⟨vs,e,k⟩:=k;exact⟨vs,e,aI.jn h cs vs p k⟩
 | .emp,y,p,k=>by rw[ax]at *;exact k
 | .sl sz rows,y,p,k=>by
   rw[ax]at *;rw[Bd]at p;obtain⟨a,cap,e,h1,h2,h3⟩:=k;exact⟨a,cap,e,h1,h2,h3.imp (fun q=>q) fun⟨b,off,ea,hr⟩=>⟨b,off,ea,da.jn h sz rows b off p hr⟩⟩
 | .sb tid sz rows,y,p,k=>by
   rw[ax]at *;rw[Bd]at p;obtain⟨⟨a,cap,e,h1,h2,h3⟩,m,v,t1,t2,t3⟩:=k;refine⟨⟨a,cap,e,h1,h2,h3.imp (fun q=>q) fun⟨b,off,ea,hr⟩=>⟨b,off,ea,da.jn h sz rows b off p.2 hr⟩⟩, ?_⟩;have hp:=h.pre tid p.1;rw[t1]at hp;obtain⟨m',v',e',q⟩:=hp;refine⟨m',v',e', ?_⟩;rcases q with⟨rfl,rfl⟩|q
   ·exact⟨t2,t3⟩
   ·exact⟨by omega,fun z=>by omega⟩
 | .ip cs,y,p,k=>by rw[ax]at *;rw[Bd]at p;obtain⟨b,off,e,k⟩:=k;exact⟨b,off,e,bZ.jn h cs b off p k⟩
 | .own tid off len sz,y,p,k=>by
   rw[ax]at *;rw[Bd]at p;obtain⟨b,a,cap,m,ty,h1,h2,h3,h4,h5,h6,h7⟩:=k;exact⟨b,a,cap,m,ty,(h1▸h.pre tid p).aC,h2,h3,h4,h5,h.AH _ _ h6,h7⟩
 | .op tid off,y,p,k=>by
   rw[ax]at *;rw[Bd]at p;obtain⟨b,h1,h2⟩:=k;exact⟨b,(h1▸h.pre tid p).aC,h2⟩
 | .fn f xs ys,y,p,k=>by rw[ax]at *;rw[Bd]at p;obtain⟨vs,us,e,k1,k2⟩:=k;exact⟨vs,us,e,aI.jn h xs vs p.1 k1,aI.jn h ys us p.2 k2⟩
 | .jI t x,y,p,k=>by rw[ax]at *;rw[Bd]at p;obtain⟨v,e,k⟩:=k;exact⟨v,e,ax.jn h x v p k⟩
 | .mp tid,y,p,k=>by
   rw[ax]at *;rw[Bd]at p;obtain⟨b,h1,h2⟩:=k;exact⟨b,(h1▸h.pre tid p).aC,h2⟩
theorem aI.jn{n base:Nat}{ι ι':List Ix}{S S':ba}{w w':World}(h:cc n base ι S w ι' S' w'):∀(as:List AV) (vs:List Value),gU n as→aI ι S w as vs→aI ι' S' w' as vs
 | [],vs,p,k=>by simpa using k
 | a:: as,[],p,k=>by simp at k
 | a:: as,v:: vs,p,k=>by simp at k;rw[gU]at p;simpa using⟨ax.jn h a v p.1 k.1,aI.jn h as vs p.2 k.2⟩
theorem bZ.jn{n base:Nat}{ι ι':List Ix}{S S':ba}{w w':World}(h:cc n base ι S w ι' S' w'):∀(cs:List AV) (b off:Nat),gU n cs→bZ ι S w cs b off→bZ ι' S' w' cs b off
 | [],b,off,p,k=>by simp[bZ]
 | c:: cs,b,off,p,k=>by
   rw[bZ]at *;rw[gU]at p;obtain⟨⟨u,h1,h2,h3⟩,k2⟩:=k;exact⟨⟨u,by rw[h.cell b off h2];exact h1,h.sub _ _ h2,ax.jn h c u p.1 h3⟩,bZ.jn h cs b (off+1) p.2 k2⟩
theorem da.jn{n base:Nat}{ι ι':List Ix}{S S':ba}{w w':World}(h:cc n base ι S w ι' S' w')(sz:Nat):∀(rows:List (List AV)) (b off:Nat),pN n rows→da ι S w sz rows b off→da ι' S' w' sz rows b off
 | [],b,off,p,k=>by simp[da]
 | r:: rs,b,off,p,k=>by
   rw[da]at *;rw[pN]at p;exact⟨k.1,bZ.jn h r b off p.1 k.2.1,da.jn h sz rs b (off+sz) p.2 k.2.2⟩
end
theorem ax.gW{n base:Nat}{ι ι':List Ix}{S S':ba}{w w':World}(h:cc n base ι S w ι' S' w')(hn:ι.length≤n)(a:AV)(y:Value)(k:ax ι S w a y):ax ι' S' w' a y:=ax.jn h a y (ax.bd hn a y k) k
theorem aI.gW{n base:Nat}{ι ι':List Ix}{S S':ba}{w w':World}(h:cc n base ι S w ι' S' w')(hn:ι.length≤n)(as:List AV)(vs:List Value)(k:aI ι S w as vs):aI ι' S' w' as vs:=aI.jn h as vs (aI.bd hn as vs k) k
theorem bZ.gW{n base:Nat}{ι ι':List Ix}{S S':ba}{w w':World}(h:cc n base ι S w ι' S' w')(hn:ι.length≤n)(cs:List AV)(b off:Nat)(k:bZ ι S w cs b off):bZ ι' S' w' cs b off:=bZ.jn h cs b off (bZ.bd hn cs b off k) k
theorem da.gW{n base:Nat}{ι ι':List Ix}{S S':ba}{w w':World}(h:cc n base ι S w ι' S' w')(hn:ι.length≤n)(sz:Nat)(rows:List (List AV))(b off:Nat)(k:da ι S w sz rows b off):da ι' S' w' sz rows b off:=da.jn h sz rows b off (da.bd hn sz rows b off k) k
/-! ### Maps,and walks over them -/
section
variable (ι:List Ix) (S:ba) (w:World)
def iP:List (Nat×AV×AV)→List MapEntry→Prop
 | [],l=>l=[]
 | (n,k,c):: r,l=>∃e l',l=e:: l'∧e.born=n∧ax ι S w k e.key∧ax ι S w c e.val∧iP r l'
def rK(base:Nat)(ix:Option Ix):dh→Prop
 | .mp c es=>∃b arr,ix=some (.aC b)∧base≤b∧w.heap[b]?=some (.map arr c)∧(∀o,¬S b o)∧iP ι S w es arr.toList
 | .it m s sn l=>∃b bm,ix=some (.aC b)∧base≤b∧w.heap[b]?=some (.mapIter (some bm) s sn.toArray l)∧(∀o,¬S b o)∧ι[m]?=some (.aC bm)
 | _=>True
end
theorem iP.imp{ι ι':List Ix}{S S':ba}{w w':World}{f:AV→AV}(hf:∀a y,ax ι S w a y→ax ι' S' w' (f a) y):∀{es:List (Nat×AV×AV)} {l:List MapEntry},iP ι S w es l→iP ι' S' w' (es.map fun p=>(p.1,f p.2.1,f p.2.2)) l
 | [],_,h=>h
 | (_,_,_):: _,_,⟨e,l',h1,h2,h3,h4,h5⟩=>⟨e,l',h1,h2,hf _ _ h3,hf _ _ h4,iP.imp hf h5⟩
theorem iP.bd{ι ι':List Ix}{S S':ba}{w w':World}:∀{es:List (Nat×AV×AV)} {l:List MapEntry},iP ι S w es l→(∀p∈es,(∀y,ax ι S w p.2.1 y→ax ι' S' w' p.2.1 y)∧∀y,ax ι S w p.2.2 y→ax ι' S' w' p.2.2 y)→iP ι' S' w' es l
 | [],_,h,_=>h
 | (n,k,c):: r,_,⟨e,l',h1,h2,h3,h4,h5⟩,hb=>⟨e,l',h1,h2,(hb (n,k,c) (acN ..)).1 _ h3,(hb (n,k,c) (acN ..)).2 _ h4,iP.bd h5 fun p hp=>hb p (MK _ hp)⟩
theorem iP.gW{n base:Nat}{ι ι':List Ix}{S S':ba}{w w':World}(hE:cc n base ι S w ι' S' w')(hn:ι.length≤n){es:List (Nat×AV×AV)}{l:List MapEntry}(h:iP ι S w es l):iP ι' S' w' es l:=
 iP.bd h fun p _=>⟨fun y=>ax.gW hE hn _ y,fun y=>ax.gW hE hn _ y⟩
theorem rK.step{n base b0:Nat}{ι ι':List Ix}{S S':ba}{w w':World}{ix ix':Option Ix}{en:dh}(h:rK ι S w base ix en)(hE:cc n b0 ι S w ι' S' w')(hn:ι.length≤n)(hix:ix'=ix)
 (same:∀b,ix=some (.aC b)→b<w.heap.size→w'.heap[b]?=w.heap[b]?∧∀o,S' b o→S b o):rK ι' S' w' base ix' en:=by
 subst hix;have lt:∀{b:Nat} {o:Obj},w.heap[b]?=some o→b<w.heap.size:=fun k=>(BY.1 k).1;cases en with
 | mp c es =>
   obtain⟨b,arr,h1,h2,h3,h4,h5⟩:=h;obtain⟨q1,q2⟩:=same b h1 (lt h3);exact⟨b,arr,h1,h2,by rw[q1];exact h3,fun o ho=>h4 o (q2 o ho),h5.gW hE hn⟩
 | it m s sn l =>
   obtain⟨b,bm,h1,h2,h3,h4,h5⟩:=h;obtain⟨q1,q2⟩:=same b h1 (lt h3);refine⟨b,bm,h1,h2,by rw[q1];exact h3,fun o ho=>h4 o (q2 o ho), ?_⟩;have hm:m<ι.length:=(gE.1 h5).1;exact (h5▸hE.pre m (UP hm hn)).aC
 | aC=>trivial
 | tok=>trivial
 | dead=>trivial
theorem rK.at{base:Nat}{ι:List Ix}{S:ba}{w:World}{ix:Option Ix}{en:dh}(h:rK ι S w base ix en)(hk:(∃c es,en=.mp c es)∨∃m s sn l,en=.it m s sn l):∃b,ix=some (.aC b)∧base≤b∧b<w.heap.size:=by
 rcases hk with⟨c,es,rfl⟩|⟨m,s,sn,l,rfl⟩
 ·obtain⟨b,arr,h1,h2,h3,_⟩:=h;exact⟨b,h1,h2,(BY.1 h3).1⟩
 ·obtain⟨b,bm,h1,h2,h3,_⟩:=h;exact⟨b,h1,h2,(BY.1 h3).1⟩
end
section
open Go Go.RowKit
mutual
def Pure:AV→Prop
 | .v _|.str _|.any|.emp=>True
 | .agg cs|.aF cs|.ip cs=>bf cs
 | .sl _ rows=>du rows
 | .own .. | .op .. | .sb .. | .mp _=>False
 | .fn _ xs ys=>bf xs∧bf ys
 | .jI _ x=>Pure x
def bf:List AV→Prop
 | []=>True
 | a:: as=>Pure a∧bf as
def du:List (List AV)→Prop
 | []=>True
 | r:: rs=>bf r∧du rs
end
mutual
theorem ax.pure{ι ι':List Ix}{S:ba}{w:World}:∀(a:AV) (y:Value),Pure a→ax ι S w a y→ax ι' S w a y
 | .v x,y,_,k=>by simpa using k
 | .str x,y,_,k=>by simpa using k
 | .any,y,_,k=>by simp
 | .agg cs,y,p,k=>by rw[ax]at *;rw[Pure]at p;obtain⟨vs,e,k⟩:=k;exact⟨vs,e,aI.pure cs vs p k⟩
 | .aF cs,y,p,k=>by rw[ax]at *;rw[Pure]at p;obtain⟨vs,e,k⟩:=k;exact⟨vs,e,aI.pure cs vs p k⟩
 | .emp,y,_,k=>by rw[ax]at *;exact k
 | .sl sz rows,y,p,k=>by
   rw[ax]at *;rw[Pure]at p;obtain⟨a,cap,e,h1,h2,h3⟩:=k;exact⟨a,cap,e,h1,h2,h3.imp id fun⟨b,off,ea,hr⟩=>⟨b,off,ea,da.pure sz rows b off p hr⟩⟩
 | .ip cs,y,p,k=>by rw[ax]at *;rw[Pure]at p;obtain⟨b,off,e,k⟩:=k;exact⟨b,off,e,bZ.pure cs b off p k⟩
 | .own id off len sz,y,p,k=>by rw[Pure]at p;exact p.elim
 | .sb id sz rows,y,p,k=>by rw[Pure]at p;exact p.elim
 | .op id off,y,p,k=>by rw[Pure]at p;exact p.elim
 | .fn f xs ys,y,p,k=>by rw[ax]at *;rw[Pure]at p;obtain⟨vs,us,e,k1,k2⟩:=k;exact⟨vs,us,e,aI.pure xs vs p.1 k1,aI.pure ys us p.2 k2⟩
 | .jI t x,y,p,k=>by rw[ax]at *;rw[Pure]at p;obtain⟨v,e,k⟩:=k;exact⟨v,e,ax.pure x v p k⟩
 | .mp id,y,p,k=>by rw[Pure]at p;exact p.elim
theorem aI.pure{ι ι':List Ix}{S:ba}{w:World}:∀(as:List AV) (vs:List Value),bf as→aI ι S w as vs→aI ι' S w as vs
 | [],vs,_,k=>by simpa using k
 | a:: as,[],_,k=>by simp at k
 | a:: as,v:: vs,p,k=>by rw[bf]at p;simp at k;simpa using⟨ax.pure a v p.1 k.1,aI.pure as vs p.2 k.2⟩
theorem bZ.pure{ι ι':List Ix}{S:ba}{w:World}:∀(cs:List AV) (b off:Nat),bf cs→bZ ι S w cs b off→bZ ι' S w cs b off
 | [],b,off,_,k=>by simp[bZ]
 | c:: cs,b,off,p,k=>by
   rw[bZ]at *;rw[bf]at p;obtain⟨⟨u,h1,h2,h3⟩,k2⟩:=k;exact⟨⟨u,h1,h2,ax.pure c u p.1 h3⟩,bZ.pure cs b (off+1) p.2 k2⟩
theorem da.pure{ι ι':List Ix}{S:ba}{w:World}(sz:Nat):∀(rows:List (List AV)) (b off:Nat),du rows→da ι S w sz rows b off→da ι' S w sz rows b off
 | [],b,off,_,k=>by simp[da]
 | r:: rs,b,off,p,k=>by
   rw[da]at *;rw[du]at p;exact⟨k.1,bZ.pure r b off p.1 k.2.1,da.pure sz rs b (off+sz) p.2 k.2.2⟩
end
class Laid where
 Us:Nat→Option (List AV)
 pure:∀g cs,Us g=some cs→bf cs
variable [Laid]
def Fv(S:ba)(w:World):Prop:=∀g cs,Laid.Us g=some cs→bZ [] S w cs g 0∧∃ty,w.shape? g=some (ty,cs.length)
theorem Fv.gW{n base:Nat}{ι ι':List Ix}{S S':ba}{w w':World}(h:Fv S w)(hE:cc n base ι S w ι' S' w'):Fv S' w':=fun g cs e =>
 ⟨bZ.gW (n:=0) (base:=base) (ι:=[]) (ι':=[]) ⟨fun _ q=>absurd q (Nat.not_lt_zero _),hE.sub,hE.new,hE.cell,hE.AH,hE.oT⟩ (aS _) cs g 0 (h g cs e).1,let ⟨ty,k⟩:=(h g cs e).2;⟨ty,hE.AH _ _ k⟩⟩
def wv(base:Nat)(S:ba)(w:World)(e sz n:Nat)(v:Value):Prop:=
 ∃a cap,v=.slice a n cap∧n≤cap∧cap≤maxLen∧(cap=0∨∃b arr fz,a=some ⟨b,0,none⟩∧base≤b∧w.heap[b]?=some (.cells arr e fz) ∧
  (∀o,o<arr.size→¬(fz.1≤o∧o<fz.2))∧cap*sz≤arr.size∧∀o,S b o→o<n*sz)
def Fm(v:Value)(b:Nat):Prop:=∃a l cap,v=.slice (some a) l cap∧a.block=b∧cap≠0
def CQ:Option Ix→Nat→Prop
 | some (.aC c),b=>c=b
 | some (.tok _ v),b=>Fm v b
 | none,_=>False
def alive:Option dh→Prop
 | some .dead|none=>False
 | _=>True
omit [Laid] in
theorem wv.kL{base:Nat}{S S':ba}{w w':World}{e sz n:Nat}{v:Value}(h:wv base S w e sz n v)(k:∀b,Fm v b→base≤b→b<w.heap.size→w'.heap[b]?=w.heap[b]?∧∀o,S' b o→S b o):wv base S' w' e sz n v:=by
 obtain⟨a,cap,e1,h1,h2,h3⟩:=h;refine⟨a,cap,e1,h1,h2, ?_⟩;rcases h3 with h3|⟨b,arr,fz,ea,k1,k2,k3,k4,k5⟩
 ·exact .inl h3
 ·by_cases hc:cap=0
  ·exact .inl hc
  ·have hb:b<w.heap.size:=by
    rcases AT b w.heap.size with q|q
    ·exact q
    ·rw[acX q]at k2;cases k2
   obtain⟨q1,q2⟩:=k b ⟨_,_,_,by rw[e1,ea],rfl,hc⟩ k1 hb;exact .inr ⟨b,arr,fz,ea,k1,by rw[q1];exact k2,k3,k4,fun o ho=>k5 o (q2 o ho)⟩
structure dN(base:Nat)(ι:List Ix)(S:ba)(w:World)(h:aa):Prop where
 len:ι.length=h.length
 live:∀(id:Nat) (x:nJ),h[id]?=some (.aC x)→∃b arr fz,ι[id]?=some (.aC b)∧base≤b∧w.heap[b]?=some (.cells arr x.ty fz) ∧
  (∀o,o<arr.size→¬(fz.1≤o∧o<fz.2))∧x.cells.length≤arr.size ∧
  (∀(i:Nat) (c:AV),x.cells[i]?=some c→∃v,arr[i]?=some v∧ax ι S w c v) ∧
  (x.wr=true→∀o,¬S b o)∧(∀o,S b o→o<x.cells.length)∧(x.wr=false→∀o,o<x.cells.length→S b o)
 tok:∀(id e sz n:Nat),h[id]?=some (.tok e sz n)→∃v,ι[id]?=some (.tok n v)∧wv base S w e sz n v
 qp:∀(id:Nat) (en:dh),h[id]?=some en→rK ι S w base ι[id]? en
 inj:∀(i j b:Nat),alive h[i]?→alive h[j]?→CQ ι[i]? b→CQ ι[j]? b→i=j
 iX:∀b o,S b o→b<w.heap.size
 kG:base≤w.heap.size
 gl:Fv S w
abbrev Fr:=List (Nat×AV)
def bg:Fr→Nat→AV
 | [],_=>.any
 | (s,y):: r,t=>if s=t then y else bg r t
def dt:Fr→Nat→AV→Fr
 | [],t,x=>[(t,x)]
 | (s,y):: r,t,x=>if s=t then (t,x):: r else if t<s then (t,x):: (s,y):: r else (s,y):: dt r t x
def lI(kL:List Nat)(fr:Fr):Fr:=kL.map fun t=>(t,bg fr t)
def cJ(n:Nat)(fr:Fr)(d:Option Tmp)(x:AV):Fr:=match d with|some t=>if t<n then dt fr t x else fr|none=>fr
def eZ(ι:List Ix)(S:ba)(w:World)(fr:Fr)(tmps:Array Value):Prop:=∀t,ax ι S w (bg fr t) (tmps.getD t undef)
omit [Laid] in
theorem eZ.gW{ι ι':List Ix}{S S':ba}{w w':World}{fr:Fr}{tmps:Array Value}{n base:Nat}(hE:cc n base ι S w ι' S' w')(hn:ι.length≤n)(h:eZ ι S w fr tmps):eZ ι' S' w' fr tmps:=
 fun t=>ax.gW hE hn _ _ (h t)
omit [Laid] in
theorem ee:∀(fr:Fr) (t:Nat) (x:AV) (u:Nat),bg (dt fr t x) u=if t=u then x else bg fr u
 | [],t,x,u=>by simp[dt,bg]
 | (s,y):: r,t,x,u=>by
  unfold dt;split
  ·rename_i h;subst h;simp only[bg];split<;>rfl
  ·split
   ·simp only[bg]
   ·simp only[bg];rw[ee r t x u];split
    ·rename_i h1 h2 h3;split
     ·omega
     ·rfl
    ·rfl
omit [Laid] in
theorem P8:∀(fr:Fr) {t u:Nat} (x y:AV),t≠u→dt (dt fr t x) u y=dt (dt fr u y) t x:=by
 have key:∀(fr:Fr) {t u:Nat} (x y:AV),t<u→dt (dt fr t x) u y=dt (dt fr u y) t x:=by
  intro fr;induction fr with
  | nil =>
    intro t u x y h;have h1:t≠u:=by omega
    have h2:¬u<t:=by omega
    simp[dt,h1,h2,h,Ne.symm h1]
  | cons p r ih =>
    intro t u x y h;obtain⟨s,z⟩:=p;have h1:t≠u:=by omega
    have h2:¬u<t:=by omega
    by_cases a:s=t
    ·subst a;have e1:¬u<s:=by omega
     simp[dt,h1,e1]
    ·by_cases b:s=u
     ·subst b;have e1:s≠t:=by omega
      simp[dt,h1,e1,h,h2]
     ·by_cases c:t<s
      ·by_cases d:u<s
       ·simp[dt,a,b,c,d,h1,h2,h,Ne.symm h1]
       ·simp[dt,a,b,c,d,h1,h2]
      ·by_cases d:u<s
       ·omega
       ·simp[dt,a,b,c,d,ih x y h]
 intro fr t u x y h;rcases Nat.lt_or_gt_of_ne h with q|q
 ·exact key fr x y q
 ·exact (key fr y x q).symm
structure St where
 n:Nat
 fr:Fr
 h:aa
structure bN(base:Nat)(ι:List Ix)(S:ba)(a:Act)(w:World)(st:St):Prop where
 df:a.defers=[]
 sz:a.tmps.size=st.n
 fr:eZ ι S w st.fr a.tmps
 hp:dN base ι S w st.h
def dE(m base:Nat)(ι:List Ix)(S:ba)(w:World)(Q:Exit→St→Prop):Exit→Act→World→Prop:=fun e a' w' =>
 ∃ι' S' st',cc m base ι S w ι' S' w'∧m≤st'.h.length∧bN base ι' S' a' w' st'∧Q e st'
def AW(P:Program)(m:Nat)(c:Code)(Q:Exit→St→Prop)(st:St):Prop:=
 ∀base ι S a w,m≤st.h.length→bN base ι S a w st→c.wp P (dE m base ι S w Q) a w
theorem dE.mono{m base:Nat}{ι:List Ix}{S:ba}{w:World}{Q Q':Exit→St→Prop}{e:Exit}{a':Act}{w':World}
 (h:dE m base ι S w Q e a' w') (hq:∀st,Q e st→Q' e st):dE m base ι S w Q' e a' w':=
 let ⟨ι',S',st',h1,h2,h3,h4⟩:=h;⟨ι',S',st',h1,h2,h3,hq _ h4⟩
theorem AW.mono{P:Program}{m:Nat}{c:Code}{Q Q':Exit→St→Prop}{st:St}(h:AW P m c Q st)(hq:∀e st,Q e st→Q' e st):AW P m c Q' st:=
 fun base ι S a w hm hr=>wp_mono (h base ι S a w hm hr) fun _ _ _ k=>k.mono (hq _)
abbrev ia(next:St→Prop)(Q:Exit→St→Prop):Exit→St→Prop
 | .normal,st=>next st
 | e,st=>Q e st
theorem dE.trans{m base:Nat}{ι ι':List Ix}{S S':ba}{w w':World}{Q:Exit→St→Prop}{e:Exit}{a'':Act}{w'':World}
 (hE:cc m base ι S w ι' S' w') (h:dE m base ι' S' w' Q e a'' w''):dE m base ι S w Q e a'' w'':=
 let ⟨ι'',S'',st'',h1,h2,h3,h4⟩:=h;⟨ι'',S'',st'',hE.trans h1,h2,h3,h4⟩
section
variable {P:Program} {m:Nat} {Q:Exit→St→Prop} {st:St}
theorem D5(h:Q .normal st):AW P m .skip Q st:=
 fun _ ι S _ _ hm hr=>wp_skip ⟨ι,S,st,cc.refl _ _ _ _ _,hm,hr,h⟩
theorem Hj(h:Q .ret st):AW P m .ret Q st:=
 fun _ ι S _ _ hm hr=>wp_ret ⟨ι,S,st,cc.refl _ _ _ _ _,hm,hr,h⟩
theorem D4{id:Nat}(h:Q (.exit id) st):AW P m (.exit id) Q st:=
 fun _ ι S _ _ hm hr=>wp_exit ⟨ι,S,st,cc.refl _ _ _ _ _,hm,hr,h⟩
theorem AL{l:Nat}(h:Q .normal st):AW P m (.label l) Q st:=
 fun _ ι S _ _ hm hr=>wp_label ⟨ι,S,st,cc.refl _ _ _ _ _,hm,hr,h⟩
theorem JZ{l:Nat}(h:Q (.goto l) st):AW P m (.goto l) Q st:=
 fun _ ι S _ _ hm hr=>wp_goto ⟨ι,S,st,cc.refl _ _ _ _ _,hm,hr,h⟩
theorem vv{x y:Code}(h:AW P m x (ia (AW P m y Q) Q) st):AW P m (.seq x y) Q st:=by
 intro base ι S a w hm hr;refine wp_seq (wp_mono (h base ι S a w hm hr) ?_);intro e a' w' k;obtain⟨ι',S',st',h1,h2,h3,h4⟩:=k;cases e with
 | normal=>exact wp_mono (h4 base ι' S' a' w' h2 h3) fun _ _ _ k=>k.trans h1
 | exit id=>exact⟨ι',S',st',h1,h2,h3,h4⟩
 | goto l=>exact⟨ι',S',st',h1,h2,h3,h4⟩
 | ret=>exact⟨ι',S',st',h1,h2,h3,h4⟩
 | panic ch=>exact⟨ι',S',st',h1,h2,h3,h4⟩
 | outgrown=>exact⟨ι',S',st',h1,h2,h3,h4⟩
def yq(id:Nat)(Q:Exit→St→Prop):Exit→St→Prop
 | .exit id',st=>if id'=id then Q .normal st else Q (.exit id') st
 | e,st=>Q e st
theorem AK{id:Nat}{c:Code}(h:AW P m c (yq id Q) st):AW P m (.block id c) Q st:=by
 intro base ι S a w hm hr;refine wp_block (wp_mono (h base ι S a w hm hr) ?_);intro e a' w' k;obtain⟨ι',S',st',h1,h2,h3,h4⟩:=k;cases e with
 | exit id' =>
   simp only[Exit.inBlock,yq]at h4 ⊢;split
   ·rename_i he;rw[if_pos he]at h4;exact⟨ι',S',st',h1,h2,h3,h4⟩
   ·rename_i he;rw[if_neg he]at h4;exact⟨ι',S',st',h1,h2,h3,h4⟩
 | normal=>exact⟨ι',S',st',h1,h2,h3,h4⟩
 | goto l=>exact⟨ι',S',st',h1,h2,h3,h4⟩
 | ret=>exact⟨ι',S',st',h1,h2,h3,h4⟩
 | panic ch=>exact⟨ι',S',st',h1,h2,h3,h4⟩
 | outgrown=>exact⟨ι',S',st',h1,h2,h3,h4⟩
theorem bN.get{base:Nat}{ι:List Ix}{S:ba}{a:Act}{w:World}{st:St}(hr:bN base ι S a w st)(t:Nat):
 ax ι S w (bg st.fr t) (a.tmps.getD t undef):=hr.fr t
omit [Laid] in
theorem eZ.put{ι:List Ix}{S:ba}{w:World}{fr:Fr}{tmps:Array Value}(h:eZ ι S w fr tmps){t:Nat}{x:AV}{v:Value}(ht:t<tmps.size)(r:ax ι S w x v):eZ ι S w (dt fr t x) (tmps.setIfInBounds t v):=by
 intro u;rw[ee]
 by_cases hu:t=u
 ·subst hu;rw[if_pos rfl];simpa[Array.getD_eq_getD_getElem?,ht]using r
 ·rw[if_neg hu];have:=h u;simpa[Array.getD_eq_getD_getElem?,Array.getElem?_setIfInBounds,hu]using this
omit [Laid] in
theorem eZ.zr{ι:List Ix}{S:ba}{w:World}{fr:Fr}{tmps:Array Value}(h:eZ ι S w fr tmps){t:Nat}{x:AV}(r:ax ι S w x (tmps.getD t undef)):eZ ι S w (dt fr t x) tmps:=by
 intro u;rw[ee]
 by_cases hu:t=u
 ·subst hu;rw[if_pos rfl];exact r
 ·rw[if_neg hu];exact h u
omit [Laid] in
theorem O9(kL:List Nat)(fr:Fr)(t:Nat):bg (lI kL fr) t=bg fr t∨bg (lI kL fr) t=.any:=by
 unfold lI;induction kL with
 | nil=>exact .inr rfl
 | cons k r ih =>
   simp only[IF,bg];split
   ·rename_i h;subst h;exact .inl rfl
   ·exact ih
omit [Laid] in
theorem eZ.norm{ι:List Ix}{S:ba}{w:World}{fr:Fr}{tmps:Array Value}(h:eZ ι S w fr tmps)(kL:List Nat):eZ ι S w (lI kL fr) tmps:=by
 intro t;rcases O9 kL fr t with e|e
 ·rw[e];exact h t
 ·rw[e];simp
theorem bN.put{base:Nat}{ι:List Ix}{S:ba}{a:Act}{w:World}{st:St}(hr:bN base ι S a w st){x:AV}{v:Value}(d:Option Tmp)(h:ax ι S w x v):
 bN base ι S (a.put d v) w ⟨st.n,cJ st.n st.fr d x,st.h⟩:=by
 cases d with
 | none=>exact hr
 | some t =>
   by_cases ht:t<st.n
   ·have hsz:=hr.sz;refine⟨hr.df,by simpa[Act.put]using hr.sz, ?_,hr.hp⟩;simp only[Act.put,cJ,if_pos ht];exact eZ.put hr.fr (by rw[hsz];exact ht) h
   ·refine⟨hr.df,by simpa[Act.put]using hr.sz, ?_,hr.hp⟩;have:a.tmps.setIfInBounds t v=a.tmps:=by
     have hs:=hr.sz;have hge:¬t<a.tmps.size:=by rw[hs];exact ht
     simp[Array.setIfInBounds,hge]
    simp only[Act.put,cJ,if_neg ht,this];exact hr.fr
end
omit [Laid] in
theorem wp_loop_ghost{α:Type}{P:Program}{Q:Exit→Act→World→Prop}{a:Act}{w:World}{c:Code}(I:α→Act→World→Prop)(μ:α→Nat)(x₀:α)(h₀:I x₀ a w)
 (round:∀x a w,I x a w→c.wp P (Exit.then (fun a' w' => ∃y,I y a' w'∧μ y<μ x) Q) a w):(Code.loop c).wp P Q a w:=by
 intro b k cs;have key:∀n x a w,μ x=n→I x a w→∃e a' w',Q e a' w'∧Arrives P (lone (b.at a (.code c:: .inLoop c:: k)) cs w) b k cs e a' w':=by
  intro n;induction n using Nat.strongRecOn with
  | _ n ih =>
    intro x a w hn hI;obtain⟨e,a₁,w₁,hq,harr⟩:=round x a w hI b (.inLoop c:: k) cs;cases e with
    | normal =>
      obtain⟨y,hI₁,hlt⟩:=hq;obtain⟨e₂,a₂,w₂,hq₂,harr₂⟩:=ih (μ y) (hn▸hlt) y a₁ w₁ rfl hI₁;exact⟨e₂,a₂,w₂,hq₂,.of_steps (Steps.trans harr (.one step_inLoop)) harr₂⟩
    | exit id=>exact⟨_,a₁,w₁,hq,.pass (x:=.inLoop c) rfl (fun _ _=>.inl (by simp)) harr⟩
    | goto l=>exact⟨_,a₁,w₁,hq,.pass (x:=.inLoop c) rfl (fun _ _=>.inl (by simp)) harr⟩
    | ret=>exact⟨_,a₁,w₁,hq,.pass (x:=.inLoop c) rfl (fun _ _=>.inl (by simp)) harr⟩
    | panic ch=>exact⟨_,a₁,w₁,hq,.pass (x:=.inLoop c) rfl (fun _ _=>.inl (by simp)) harr⟩
    | outgrown=>exact⟨_,a₁,w₁,hq,.pass (x:=.inLoop c) rfl (fun _ _=>.inl (by simp)) harr⟩
 obtain⟨e,a',w',hq,harr⟩:=key _ x₀ a w rfl h₀;exact⟨e,a',w',hq,.of_steps (.one step_loop) harr⟩
def yj(m:Nat)(st st':St):Prop:=
 ∀base ι S a w,m≤st.h.length→bN base ι S a w st→∃ι' S',cc m base ι S w ι' S' w∧m≤st'.h.length∧bN base ι' S' a w st'
theorem yj.refl(m:Nat)(st:St):yj m st st:=fun _ ι S _ _ hm hr=>⟨ι,S,cc.refl _ _ _ _ _,hm,hr⟩
theorem UA{α:Type}{P:Program}{m:Nat}{Q:Exit→St→Prop}{st:St}{c:Code}(I:α→Prop)(inv:α→St)(μ:α→Nat)(x₀:α)(h₀:I x₀)(hs:yj m st (inv x₀))
 (round:∀x,I x→AW P m c (ia (fun st' => ∃y,I y∧yj m st' (inv y)∧μ y<μ x) Q) (inv x)):AW P m (.loop c) Q st:=by
 intro base ι S a w hm hr;obtain⟨ι₀,S₀,e₀,m₀,r₀⟩:=hs base ι S a w hm hr;refine wp_loop_ghost (fun x a' w' => I x∧∃ι' S',cc m base ι S w ι' S' w'∧m≤(inv x).h.length∧bN base ι' S' a' w' (inv x)) μ x₀ ⟨h₀,ι₀,S₀,e₀,m₀,r₀⟩ ?_;rintro x a' w' ⟨hx,ι',S',hE,hm',hr'⟩;refine wp_mono (round x hx base ι' S' a' w' hm' hr') ?_;intro e a'' w'' k;obtain⟨ι'',S'',st'',h1,h2,h3,h4⟩:=k;cases e with
 | normal =>
   obtain⟨y,hy,hw,hlt⟩:=h4;obtain⟨ι3,S3,e3,m3,r3⟩:=hw base ι'' S'' a'' w'' h2 h3;exact⟨y,⟨hy,ι3,S3,(hE.trans h1).trans e3,m3,r3⟩,hlt⟩
 | exit id=>exact⟨ι'',S'',st'',hE.trans h1,h2,h3,h4⟩
 | goto l=>exact⟨ι'',S'',st'',hE.trans h1,h2,h3,h4⟩
 | ret=>exact⟨ι'',S'',st'',hE.trans h1,h2,h3,h4⟩
 | panic ch=>exact⟨ι'',S'',st'',hE.trans h1,h2,h3,h4⟩
 | outgrown=>exact⟨ι'',S'',st'',hE.trans h1,h2,h3,h4⟩
def dY(P:Program)(f:FuncId)(args:List AV)(h:aa)(K:AV→aa→Prop):Prop:=
 ∀base ι S w vs,aI ι S w args vs→dN base ι S w h→Calls P f vs.toArray w fun e w' =>
  ∃v ι' S' r h',e=.returned v∧cc h.length base ι S w ι' S' w'∧ax ι' S' w' r v∧dN base ι' S' w' h'∧h.length≤h'.length∧K r h'
theorem dY.mono{P:Program}{f:FuncId}{args:List AV}{h:aa}{K K':AV→aa→Prop}(c:dY P f args h K)(hk:∀r h',K r h'→K' r h'):dY P f args h K':=
 fun base ι S w vs h1 h2=>(c base ι S w vs h1 h2).mono fun _ _ ⟨v,ι',S',r,h',a1,a2,a3,a4,a5,a6⟩=>⟨v,ι',S',r,h',a1,a2,a3,a4,a5,hk _ _ a6⟩
def aP(P:Program)(f:FuncId)(args:List AV)(r:AV):Prop:=bf args∧Pure r∧dY P f args [] fun r' _=>r'=r
theorem dN.nil(S:ba)(w:World)(h:∀b o,S b o→b<w.heap.size)(hg:Fv S w):dN w.heap.size [] S w []:=
 ⟨rfl,by simp,by simp,by simp,fun i j b hi _=>by simp[alive]at hi,h,aS _,hg⟩
theorem dN.over{base:Nat}{ι:List Ix}{S S':ba}{w w':World}{h:aa}(hh:dN base ι S w h)(hE:cc ι.length w.heap.size ι S w ι S' w')(hst:∀b o,S' b o→b<w'.heap.size):dN base ι S' w' h:=by
 refine⟨hh.len,fun id x e=>?_,fun id t sz n e=>?_,fun id en e=>(hh.qp id en e).step hE (aS _) rfl fun b _ hb=>⟨hE.oT.block b hb,fun o ho=>(hE.new b o ho).elim (fun q=>q) fun k=>absurd hb (Nat.not_lt.2 k)⟩,hh.inj,hst,acx hh.kG hE.oT.size,hh.gl.gW hE⟩;rotate_left
 ·obtain⟨v,h1,h2⟩:=hh.tok id t sz n e;refine⟨v,h1,h2.kL fun b hb _ hlt=>⟨hE.oT.block b hlt,fun o ho=>?_⟩⟩;rcases hE.new b o ho with k|k
  ·exact k
  ·omega
 obtain⟨b,arr,fz,h1,h2,h3,h4,h5,h6,h7,h8,h9⟩:=hh.live id x e;have hb:b<w.heap.size:=by
  rcases AT b w.heap.size with k|k
  ·exact k
  ·rw[acX k]at h3;cases h3
 refine⟨b,arr,fz,h1,h2,by rw[hE.oT.block b hb];exact h3,h4,h5,fun i c e=>?_,fun hw o ho=>?_,fun o ho=>?_,fun q o ho=>hE.sub _ _ (h9 q o ho)⟩
 ·obtain⟨v,e1,e2⟩:=h6 i c e;exact⟨v,e1,ax.gW hE (aS _) c v e2⟩
 ·rcases hE.new b o ho with k|k
  ·exact h7 hw o k
  ·omega
 ·rcases hE.new b o ho with k|k
  ·exact h8 o k
  ·omega
theorem aP.call{P:Program}{f:FuncId}{args:List AV}{r:AV}(c:aP P f args r){h:aa}{K:AV→aa→Prop}(hk:K r h):dY P f args h K:=by
 obtain⟨pa,pr,c⟩:=c;intro base ι S w vs h1 h2;refine (c w.heap.size [] S w vs (aI.pure args vs pa h1) (dN.nil S w h2.iX h2.gl)).mono ?_;rintro e w' ⟨v,ι',S',r',h',e1,e2,e3,e4,_,rfl⟩;have hE:cc ι.length w.heap.size ι S w ι S' w':=⟨fun _ _=>iI.refl _,e2.sub,e2.new,e2.cell,e2.AH,e2.oT⟩;exact⟨v,ι,S',r',h,e1,hE.mono (by rw[h2.len];exact aS _) h2.kG,ax.pure r' v pr e3,h2.over hE e4.iX,aS _,hk⟩
end
section
open Go Go.RowKit
variable [Laid]
variable{w w':World}{P:Program}{t:TypeId}{ι:List Ix}{arr:Array Value}{fz:Nat×Nat}{b base:Nat}{v:Value}{ks:List Nat}{S S':ba}
/-! ### Values -/
def qg:Value→AV
 | .string s=>if s.size≤maxLen then .str s.data.toList else .any
 | x=>.v x
def kC:Value→AV
 | .agg cs=>.agg (cs.toList.map qg)
 | x=>qg x
omit [Laid] in
theorem wo(ι:List Ix)(S:ba)(w:World)(x:Value):ax ι S w (qg x) x:=by
 unfold qg;split
 ·split
  ·rename_i s h;cases s with
   | mk d=>simpa[ByteArray.size]using h
  ·simp
 ·simp
omit [Laid] in
theorem rL(ι:List Ix)(S:ba)(w:World)(x:Value):ax ι S w (kC x) x:=by
 unfold kC;split
 ·rename_i cs;rw[ax];refine⟨cs.toList,by simp,aI.mk (by simp) fun i a v e f=>?_⟩;simp only[lE,f,acV,ON]at e;subst e;exact wo ι S w v
 ·exact wo ι S w x
def ak(fr:Fr):Operand→AV
 | .tmp t=>bg fr t
 | .const v=>kC v
 | .global g=>match Laid.Us g with|some cs=>.ip cs|none=>.any
 | .func f=>.fn (.func f) [] []
theorem bN.eval{base:Nat}{ι:List Ix}{S:ba}{a:Act}{w:World}{st:St}(hr:bN base ι S a w st)(x:Operand):ax ι S w (ak st.fr x) (a.eval x):=by
 cases x with
 | tmp t=>exact hr.get t
 | const v=>exact rL ι S w v
 | global g =>
   simp only[ak,Act.eval];split
   ·rename_i cs e;rw[ax];exact⟨g,0,rfl,bZ.pure cs g 0 (Laid.pure g cs e) (hr.hp.gl g cs e).1⟩
   ·simp
 | func f=>simp only[ak,Act.eval];rw[ax];exact⟨[],[],rfl,by simp,by simp⟩
def bc:AV→List AV
 | .agg cs=>cs
 | x=>[x]
def dH:AV→Bool
 | .v x=>x.oneCell'
 | .any|.agg _|.aF _=>false
 | _=>true
omit [Laid] in
theorem xE{a:AV}(h:dH a=true)(r:ax ι S w a v):v.oneCell'=true:=by
 cases a<;>simp only[dH,aaX]at h
 case v x=>simp at r;subst r;exact h
 case str l=>simp at r;rw[r.1];rfl
 case emp=>rw[ax]at r;obtain⟨a,rfl⟩:=r;rfl
 case sl=>rw[ax]at r;obtain⟨a,cap,rfl,_⟩:=r;rfl
 case sb=>rw[ax]at r;obtain⟨⟨a,cap,rfl,_⟩,_⟩:=r;rfl
 case ip=>rw[ax]at r;obtain⟨a,cap,rfl,_⟩:=r;rfl
 case own=>rw[ax]at r;obtain⟨b,a,cap,n,ty,_,rfl,_⟩:=r;rfl
 case op=>rw[ax]at r;obtain⟨b,_,rfl⟩:=r;rfl
 case fn=>rw[ax]at r;obtain⟨b,c,rfl,_⟩:=r;rfl
 case jI=>rw[ax]at r;obtain⟨b,rfl,_⟩:=r;rfl
 case mp=>rw[ax]at r;obtain⟨b,_,rfl⟩:=r;rfl
omit [Laid] in
theorem PZ(h:v.oneCell'=true):v.cells=#[v]:=by cases v<;>first|rfl|cases h
omit [Laid] in
theorem wq{a:AV}(r:ax ι S w a v)(h:(bc a).all dH=true):∃vs:List Value,v.cells=vs.toArray∧aI ι S w (bc a) vs∧∀u∈vs,u.oneCell'=true:=by
 have key:∀{cs:List AV} {vs:List Value},aI ι S w cs vs→cs.all dH=true→∀u∈vs,u.oneCell'=true:=by
  intro cs;induction cs with
  | nil=>intro vs h _ u hu;simp at h;subst h;cases hu
  | cons c cs ih =>
    intro vs h hs u hu;cases vs with
    | nil=>simp at h
    | cons v vs =>
      simp at h hs;simp only[IS]at hu;rcases hu with rfl|hu
      ·exact xE hs.1 h.1
      ·exact ih h.2 (by simpa using hs.2) u hu
 cases a
 case agg cs =>
  rw[ax]at r;obtain⟨vs,rfl,k⟩:=r;exact⟨vs,rfl,k,key k h⟩
 all_goals
  simp only[bc,acG,List.all_nil,Bool.and_true]at h;have:=xE h r;exact⟨[v],by rw[PZ this],(dc _ _ _ _).2 ⟨r,by simp⟩,by simpa using this⟩
/-! ### Memory -/
omit [Laid] in
theorem AG(o:Obj){x:TypeId×Nat}(h:w.shape? b=some x):(w.alloc o).shape? b=some x:=by
 unfold World.shape? at *;have hb:b<w.heap.size:=by
  rcases AT b w.heap.size with k|k
  ·exact k
  ·rw[acX k]at h;cases h
 rw[show (w.alloc o).heap[b]?=w.heap[b]? from Below.heap_alloc w o b hb];exact h
omit [Laid] in
theorem cc.alloc{base:Nat}{ι:List Ix}{S:ba}{w:World}(hb:base≤w.heap.size)(hs:∀b o,S b o→b<w.heap.size)(o:Obj)(k:List Ix):cc ι.length base ι S w (ι++k) S (w.alloc o):=
 ⟨fun i hi=>iI.of_eq (iD hi),fun _ _ h=>h,fun _ _ h=>.inl h,
  fun b f h=>World.cell?_of_block (w:=w) (Below.heap_alloc w o b (hs b f h)),fun _ _ h=>AG o h,(Below.refl _ _).alloc hb o⟩
omit [Laid] in
theorem zS{o:Obj}(k:w.heap[b]?=some o):b<w.heap.size:=by
 rcases AT b w.heap.size with q|q
 ·exact q
 ·rw[acX q]at k;cases k
theorem dN.xJ{ι ι':List Ix}{h h':aa}(hh:dN base ι S w h)(hE:cc ι.length base ι S w ι' S' w')(hlen:ι'.length=h'.length)(T:Nat)
 (old:∀i,i≠T→alive h'[i]?→h'[i]?=h[i]?∧ι'[i]?=ι[i]?∧∀b,CQ ι[i]? b→b<w.heap.size→w'.heap[b]?=w.heap[b]?∧∀o,S' b o→S b o)
 (newb:∀x,h'[T]?=some (.aC x)→∃b arr fz,ι'[T]?=some (.aC b)∧base≤b∧w'.heap[b]?=some (.cells arr x.ty fz)∧(∀o,o<arr.size→¬(fz.1≤o∧o<fz.2))∧x.cells.length≤arr.size ∧
  (∀(i:Nat) (c:AV),x.cells[i]?=some c→∃v,arr[i]?=some v∧ax ι' S' w' c v)∧(x.wr=true→∀o,¬S' b o)∧(∀o,S' b o→o<x.cells.length)∧(x.wr=false→∀o,o<x.cells.length→S' b o))
 (newt:∀e sz n,h'[T]?=some (.tok e sz n)→∃v,ι'[T]?=some (.tok n v)∧wv base S' w' e sz n v)
 (newo:∀en,h'[T]?=some en→rK ι' S' w' base ι'[T]? en)
 (hinj:∀j b,j≠T→alive h'[T]?→alive h'[j]?→CQ ι'[T]? b→CQ ι'[j]? b→False)
 (hstb:∀b o,S' b o→b<w'.heap.size) (hbas:base≤w'.heap.size):dN base ι' S' w' h':=by
 refine⟨hlen,fun id x e=>?_,fun id t sz n e=>?_,fun id en e=>?_,fun i j b ai aj hi hj=>?_,hstb,hbas,hh.gl.gW hE⟩;rotate_left 2
 ·by_cases q:id=T
  ·subst q;exact newo en e
  ·by_cases hd:en=.dead
   ·subst hd;trivial
   ·obtain⟨o1,o2,o3⟩:=old id q (by rw[e];cases en<;>first|trivial|exact absurd rfl hd);exact (hh.qp id en (o1▸e)).step hE (aS _) o2 fun b hb=>o3 b (by rw[hb];rfl)
 rotate_left 1
 ·by_cases q:id=T
  ·subst q;exact newb x e
  ·obtain⟨o1,o2,o3⟩:=old id q (by rw[e];exact trivial);obtain⟨b,arr,fz,h1,h2,h3,h4,h5,h6,h7,h8,h9⟩:=hh.live id x (o1▸e);obtain⟨p1,p2⟩:=o3 b (by rw[h1];rfl) (zS h3);exact⟨b,arr,fz,o2.trans h1,h2,p1.trans h3,h4,h5,fun i c ec=>let ⟨v,e1,e2⟩:=h6 i c ec;⟨v,e1,ax.gW hE (aS _) c v e2⟩,
    fun hw o ho=>h7 hw o (p2 o ho),fun o ho=>h8 o (p2 o ho),fun hw o ho=>hE.sub _ _ (h9 hw o ho)⟩
 ·by_cases q:id=T
  ·subst q;exact newt t sz n e
  ·obtain⟨o1,o2,o3⟩:=old id q (by rw[e];exact trivial);obtain⟨v,h1,h2⟩:=hh.tok id t sz n (o1▸e);exact⟨v,o2.trans h1,h2.kL fun b hb _ hlt=>o3 b (by rw[h1];exact hb) hlt⟩
 ·by_cases q:i=T
  ·by_cases r:j=T
   ·rw[q,r]
   ·subst q;exact (hinj j b r ai aj hi hj).elim
  ·by_cases r:j=T
   ·subst r;exact (hinj i b q aj ai hj hi).elim
   ·obtain⟨o1,o2,_⟩:=old i q ai;obtain⟨p1,p2,_⟩:=old j r aj;exact hh.inj i j b (o1▸ai) (p1▸aj) (o2▸hi) (p2▸hj)
theorem dN.ED{h:aa}(hh:dN base ι S w h){i b:Nat}(ha:alive h[i]?)(hb:CQ ι[i]? b):base≤b∧b<w.heap.size:=by
 cases e:h[i]? with
 | none=>rw[e]at ha;exact ha.elim
 | some x =>
   cases x with
   | dead=>rw[e]at ha;exact ha.elim
   | aC x =>
     obtain⟨c,arr,fz,h1,h2,h3,_⟩:=hh.live i x e;rw[h1]at hb;have:c=b:=hb;subst this;exact⟨h2,zS h3⟩
   | mp c es =>
     obtain⟨d,h1,h2,h3⟩:=(hh.qp i _ e).at (.inl ⟨_,_,rfl⟩);rw[h1]at hb;have:d=b:=hb;subst this;exact⟨h2,h3⟩
   | it m s sn l =>
     obtain⟨d,h1,h2,h3⟩:=(hh.qp i _ e).at (.inr ⟨_,_,_,_,rfl⟩);rw[h1]at hb;have:d=b:=hb;subst this;exact⟨h2,h3⟩
   | tok t sz n =>
     obtain⟨v,h1,a,cap,ev,_,_,h4⟩:=hh.tok i t sz n e;rw[h1]at hb;obtain⟨a',l',cap',ev',hb,hc⟩:=hb;rw[ev]at ev';cases ev';rcases h4 with h4|⟨c,arr,fz,ea,k1,k2,_⟩
     ·exact absurd h4 hc
     ·cases ea;simp only at hb;subst hb;exact⟨k1,zS k2⟩
omit [Laid] in
theorem VR{α:Type}{l k:List α}{i:Nat}(h:i<l.length):(l++k)[i]?=l[i]?:=iD h
omit [Laid] in
theorem kD{α:Type}{l:List α}{x:α}:(l++[x])[l.length]?=some x:=by simp
omit [Laid] in
theorem pR{α:Type}{l:List α}{x:α}{i:Nat}(h:i≠l.length):(l++[x])[i]?=l[i]?:=by
 rcases AT i l.length with q|q
 ·exact VR q
 ·rw[mK (by simp;omega),mK q]
theorem dN.push{h:aa}(hh:dN base ι S w h)(ix:Ix)(en:dh)(hE:cc ι.length base ι S w (ι++[ix]) S' w')
 (same:∀b,b<w.heap.size→base≤b→w'.heap[b]?=w.heap[b]?∧∀o,S' b o→S b o)
 (newb:∀x,en=.aC x→∃b arr fz,ix=.aC b∧base≤b∧w'.heap[b]?=some (.cells arr x.ty fz)∧(∀o,o<arr.size→¬(fz.1≤o∧o<fz.2))∧x.cells.length≤arr.size ∧
  (∀(i:Nat) (c:AV),x.cells[i]?=some c→∃v,arr[i]?=some v∧ax (ι++[ix]) S' w' c v)∧(x.wr=true→∀o,¬S' b o)∧(∀o,S' b o→o<x.cells.length)∧(x.wr=false→∀o,o<x.cells.length→S' b o))
 (newt:∀e sz n,en=.tok e sz n→∃v,ix=.tok n v∧wv base S' w' e sz n v)
 (newo:rK (ι++[ix]) S' w' base (some ix) en)
 (hnew:en≠.dead→∀b,CQ (some ix) b→w.heap.size≤b) (hstb:∀b o,S' b o→b<w'.heap.size):dN base (ι++[ix]) S' w' (h++[en]):=by
 have hl:=hh.len;refine hh.xJ hE (by simp[hl]) h.length (fun i hi ha=>?_) (fun x e=>?_) (fun e sz n q=>?_) (fun en' q=>by rw[kD]at q;cases q;rw[←hl,kD];exact newo) (fun j b hj aT aj hi hj' => ?_) hstb (acx hh.kG hE.oT.size)
 ·have hi':i≠ι.length:=by rw[hl];exact hi
  refine⟨pR hi,pR hi',fun b hb hlt=>?_⟩;rw[pR hi]at ha;exact same b hlt (hh.ED ha hb).1
 ·rw[kD]at e;obtain⟨b,arr,fz,h1,h2⟩:=newb x (by simpa using e);exact⟨b,arr,fz,by rw[←hl,kD,h1],h2⟩
 ·rw[kD]at q;obtain⟨v,h1,h2⟩:=newt e sz n (by simpa using q);exact⟨v,by rw[←hl,kD,h1],h2⟩
 ·rw[←hl,kD]at hi;rw[pR hj]at aj;rw[pR (by rw[hl];exact hj)]at hj';have hd:en≠.dead:=by rintro rfl;rw[kD]at aT;exact aT
  have h1:=hnew hd b hi;have h2:=(hh.ED aj hj').2;omega
theorem dN.alloc{base:Nat}{ι:List Ix}{S:ba}{w:World}{h:aa}(hh:dN base ι S w h)(t:TypeId)(cs:List AV)(vs:List Value)(r:aI ι S w cs vs)(fz:Nat×Nat:=(0,0))(more:List Value:=[])
 (hf:∀o,o<vs.length+more.length→¬(fz.1≤o∧o<fz.2)) :
 dN base (ι++[.aC w.heap.size]) S (w.alloc (.cells (vs++more).toArray t fz)) (h++[.aC ⟨t,cs,true⟩]):=by
 have hE:cc ι.length base ι S w (ι++[.aC w.heap.size]) S (w.alloc (.cells (vs++more).toArray t fz)):=cc.alloc hh.kG (fun b o=>hh.iX b o) _ _;have hnew:(w.alloc (.cells (vs++more).toArray t fz)).heap[w.heap.size]?=some (.cells (vs++more).toArray t fz):=by
  show (w.heap.push _)[w.heap.size]?=_;simp
 have hl:=r.length;have hf':∀o,o<(vs++more).toArray.size→¬(fz.1≤o∧o<fz.2):=by intro o ho;exact hf o (by simpa using ho)
 refine hh.push _ _ hE (fun b hb _=>⟨Below.heap_alloc w _ b hb,fun _ q=>q⟩) (fun x e=>?_) (fun _ _ _ e=>by cases e) trivial (fun _ b hb=>?_) (fun b o s=>?_)
 ·cases e;refine⟨w.heap.size,(vs++more).toArray,fz,rfl,hh.kG,hnew,hf',by simp[hl]<;>omega,fun i c e=>?_,fun _ o s=>?_,fun o s=>?_,fun q=>by cases q⟩
  ·obtain⟨v,e1,e2⟩:=r.get i c e;obtain⟨hi,_⟩:=gE.1 e1;exact⟨v,by simp only[List.getElem?_toArray];rw[iD hi];exact e1,ax.gW hE (aS _) c v e2⟩
  ·have:=hh.iX _ _ s;omega
  ·have:=hh.iX _ _ s;omega
 ·have:w.heap.size=b:=hb;omega
 ·have:=hh.iX b o s;show b<(w.heap.push _).size;simp;omega
omit [Laid] in
theorem uK(h:w.heap[b]?=some (.cells arr t fz))(o:Nat)(v:Value):
 (w.setCell ⟨b,o,none⟩ v).heap[b]?=some (.cells (arr.setIfInBounds o v) t fz):=by
 simp only[World.setCell,Array.getElem?_modify,if_true,h,acV];simp
omit [Laid] in
theorem xV(a:Addr)(v:Value)(b:Nat):(w.setCell a v).shape? b=w.shape? b:=by
 unfold World.shape? World.setCell;simp only[Array.getElem?_modify]
 by_cases hb:a.block=b
 ·simp only[hb,if_true];cases h:w.heap[b]? with
  | none=>rfl
  | some o=>cases o<;>simp;split<;>simp
 ·simp only[hb,if_false]
theorem dN.set{base:Nat}{ι:List Ix}{S:ba}{w:World}{h:aa}(hh:dN base ι S w h){id:Nat}{x:nJ}(e:h[id]?=some (.aC x))(hw:x.wr=true){b:Nat}(hb:ι[id]?=some (.aC b))
 {o:Nat} (ho:o<x.cells.length) {c:AV} {v:Value} (r:ax ι S w c v) :
 cc ι.length base ι S w ι S (w.setCell ⟨b,o,none⟩ v)∧dN base ι S (w.setCell ⟨b,o,none⟩ v) (h.set id (.aC { x with cells:=x.cells.set o c })):=by
 obtain⟨b',arr,fz,h1,h2,h3,h4,h5,h6,h7,h8,h9⟩:=hh.live id x e;rw[hb]at h1;cases h1;have hlt:id<h.length:=(gE.1 e).1;have hE:cc ι.length base ι S w ι S (w.setCell ⟨b,o,none⟩ v):=by
  refine⟨fun _ _=>iI.refl _,fun _ _ h=>h,fun _ _ h=>.inl h,fun b' o' s=>?_,fun b' y hy=>by rw[xV];exact hy,(Below.refl _ _).setCell h2 v⟩;have hne:b'≠b:=fun q=>h7 hw o' (q▸s);exact World.cell?_of_block (w:=w) (Below.heap_setCell w _ v b' hne)
 refine⟨hE,hh.xJ hE (by simp[hh.len]) id (fun i hi ha=>?_) (fun y ey=>?_) (fun t sz n q=>?_) (fun en q=>by rw[iN hlt]at q;cases q;trivial) (fun j c' hj _ aj hi hj' => ?_) (fun b' o' s=>by have:=hh.iX b' o' s;simpa[World.setCell]using this) (by have:=hh.kG;simpa[World.setCell]using this)⟩
 ·rw[iS (Ne.symm hi)]at ha ⊢;refine⟨rfl,rfl,fun c' hc _=>⟨Below.heap_setCell w _ v c' fun q=>?_,fun _ q=>q⟩⟩;simp only at q;subst q;exact hi (hh.inj i id c' ha (by rw[e];exact trivial) hc (by rw[hb];rfl))
 ·rw[iN hlt]at ey;cases ey;refine⟨b,arr.setIfInBounds o v,fz,hb,h2,uK h3 o v,by simpa using h4,by simpa using h5,fun i d ed=>?_,h7,by simpa using h8,fun q=>by rw[hw]at q;cases q⟩
  by_cases hi:i=o
  ·subst hi;simp only[iN ho,ON]at ed;subst ed;refine⟨v, ?_,ax.gW hE (aS _) c v r⟩;rw[Array.getElem?_setIfInBounds];simp;omega
  ·have ed':x.cells[i]?=some d:=by rw[iS (Ne.symm hi)]at ed;exact ed
   obtain⟨u,e1,e2⟩:=h6 i d ed';exact⟨u,by rw[Array.getElem?_setIfInBounds_ne (Ne.symm hi)];exact e1,ax.gW hE (aS _) d u e2⟩
 ·rw[iN hlt]at q;cases q
 ·rw[iS (Ne.symm hj)]at aj;exact hj (hh.inj j id c' aj (by rw[e];exact trivial) hj' hi)
def dw:List AV→Nat→List AV→List AV
 | cells,_,[]=>cells
 | cells,o,c:: cs=>dw (cells.set o c) (o+1) cs
omit [Laid] in
theorem sH:∀(cs cells:List AV) (o:Nat),(dw cells o cs).length=cells.length
 | [],_,_=>rfl
 | c:: cs,cells,o=>by rw[dw,sH cs];simp
omit [Laid] in
theorem gR(b o i:Nat):(⟨b,o,none⟩:Addr).add i=⟨b,o+i,none⟩:=by
 unfold Addr.add;split
 ·simp_all
 ·rfl
omit [Laid] in
theorem ld(h:w.heap[b]?=some (.cells arr t fz))(o:Nat):w.cell? ⟨b,o,none⟩=arr[o]?:=by
 unfold World.cell?;simp[h]
omit [Laid] in
theorem yM(h:w.heap[b]?=some (.cells arr t fz))(o:Nat):w.frozen? ⟨b,o,none⟩=(decide (fz.1≤o)&&decide (o<fz.2)):=by
 unfold World.frozen?;simp[h]
theorem vW{P:Program}{base:Nat}{ι:List Ix}{S:ba}:∀(vs:List Value) (cs:List AV) (w:World) (h:aa),dN base ι S w h→∀{id:Nat} {x:nJ} {b:Nat},h[id]?=some (.aC x)→x.wr=true→ι[id]?=some (.aC b) →
 ∀(o i:Nat),o+i+cs.length≤x.cells.length→aI ι S w cs vs→(∀u∈vs,u.oneCell'=true) →
 ∃w',(storeCells ⟨b,o,none⟩ vs i).run P w=.ok () w'∧cc ι.length base ι S w ι S w'∧dN base ι S w' (h.set id (.aC { x with cells:=dw x.cells (o+i) cs }))
 | [],cs,w,h,hh,id,x,b,e,hw,hb,o,i,hl,r,hv=>by
   have:cs=[]:=by have:=r.length;simpa using this
   subst this;refine⟨w,rfl,cc.refl _ _ _ _ _, ?_⟩;have hlt:id<h.length:=(gE.1 e).1;have:h.set id (.aC { x with cells:=dw x.cells (o+i) [] })=h:=by
    rw[dw];refine List.ext_getElem? fun j=>?_
    by_cases hj:j=id
    ·subst hj;rw[iN hlt,e]
    ·rw[iS (Ne.symm hj)]
   rw[this];exact hh
 | v:: vs,[],w,h,hh,id,x,b,e,hw,hb,o,i,hl,r,hv=>by simp at r
 | v:: vs,c:: cs,w,h,hh,id,x,b,e,hw,hb,o,i,hl,r,hv=>by
   simp only[dc]at r;simp only[aah]at hl;have ho:o+i<x.cells.length:=by omega
   obtain⟨hE,hH⟩:=hh.set e hw hb ho r.1;have hlt:id<h.length:=(gE.1 e).1;obtain⟨b',arr,fz,h1,h2,h3,h4,h5,h6,h7,h8,h9⟩:=hh.live id x e;rw[hb]at h1;cases h1;have hrun:(store ((⟨b,o,none⟩:Addr).add i) v).run P w=.ok () (w.setCell ⟨b,o+i,none⟩ v):=by
    rw[gR,run_store P w _ v _ (hv v (by simp)),ld h3,yM h3];have:arr[o+i]?=some arr[o+i]:=aac (by omega);rw[this];have:=h4 (o+i) (by omega);simp only[On,OF,this,if_false]
   obtain⟨w',k1,k2,k3⟩:=vW vs cs (w.setCell ⟨b,o+i,none⟩ v) _ hH (id:=id) (x:={ x with cells:=x.cells.set (o+i) c }) (b:=b) (by rw[iN hlt]) hw hb o (i+1) (by simp;omega)
    (aI.gW hE (aS _) cs vs r.2) (fun u hu=>hv u (by simp[hu]))
   refine⟨w', ?_,hE.trans k2, ?_⟩
   ·rw[storeCells];simp only[acI,hrun,Result.andThen];exact k1
   ·simp only[aa5]at k3;rw[dw];exact k3
def aN(n:Int):Prop:=-9223372036854775808≤n∧n≤9223372036854775807
def tR(k:IntKind)(n:Int)(K:AV→Prop):Prop:=
 match k with
 | .i64=>aN n∧K (.v (.int .i64 n))
 | k=>K (.v (.int k (k.wrap n)))
def DF(k:IntKind):Int:=if k.signed then -1 else k.max
def fk(op:BinOp)(k:IntKind)(x y:Int):Int:=
 let a:=BitVec.ofInt k.bits x
 let b:=BitVec.ofInt k.bits y
 match op with
 | .and=>k.wrap (a &&& b).toNat
 | .or=>k.wrap (a ||| b).toNat
 | .xor=>k.wrap (a ^^^ b).toNat
 | _=>k.wrap (a &&& ~~~b).toNat
def re(op:BinOp)(k:IntKind)(a b:Int)(K:AV→Prop):Prop:=
 match op with
 | .add=>tR k (a+b) K
 | .sub=>tR k (a-b) K
 | .mul=>tR k (a*b) K
 | .quo=>b≠0∧K (.v (.int k (k.wrap (a.tdiv b))))
 | .rem=>b≠0∧K (.v (.int k (a.tmod b)))
 | .and=>K (.v (.int k (fk .and k a b)))
 | .or=>K (.v (.int k (fk .or k a b)))
 | .xor=>K (.v (.int k (fk .xor k a b)))
 | .andNot=>K (.v (.int k (fk .andNot k a b)))
 | .eql=>K (b_ (decide (a=b)))
 | .neq=>K (b_ (!decide (a=b)))
 | .lss=>K (b_ (decide (a<b)))
 | .leq=>K (b_ (decide (a≤b)))
 | .gtr=>K (b_ (decide (b<a)))
 | .geq=>K (b_ (decide (b≤a)))
 | _=>False
def xb(op:BinOp)(a b:List UInt8)(K:AV→Prop):Prop:=
 match op with
 | .add=>a.length+b.length≤maxLen∧K (.str (a++b))
 | .eql=>K (b_ (decide (a=b)))
 | .neq=>K (b_ (!decide (a=b)))
 | .lss=>K (b_ (Op.bytesLess a b))
 | .leq=>K (b_ (Op.bytesLess a b||decide (a=b)))
 | .gtr=>K (b_ (!(Op.bytesLess a b||decide (a=b))))
 | .geq=>K (b_ (!Op.bytesLess a b))
 | _=>False
def tQ(op:BinOp)(k:IntKind)(a b:Int)(K:AV→Prop):Prop:=
 0≤b∧match op with
 | .shl=>K (.v (.int k (k.wrap (a*2^(min b.toNat k.bits)))))
 | .shr=>K (.v (.int k (a.fdiv (2^(min b.toNat k.bits)))))
 | _=>False
def jQ:BinOp→Bool|.shl|.shr=>true|_=>false
def ab(op:BinOp)(x y:AV)(K:AV→Prop):Prop:=
 match x,y with
 | .v (.int k a),.v (.int k' b)=>if jQ op then tQ op k a b K else k=k'∧re op k a b K
 | .str a,.str b=>xb op a b K
 | _,_=>False
def rR(op:BinOp)(x y:AV)(K:AV→Prop):Prop:=
 match x,y with
 | .v (.bool a),.v (.bool b)=>(match op with|.eql=>K (b_ (a == b))|.neq=>K (b_ (!(a == b)))|_=>False)
 | _,_=>False
def KB:Nat→AV→AV→Option Bool
 | 0,.v (.bool a),.v (.bool b)=>some (a == b)
 | 1,.v (.int k a),.v (.int k' b)=>if k=k' then some (decide (a=b)) else none
 | 2,.str a,.str b=>some (decide (a=b))
 | _,_,_=>none
def jZ:List Nat→List AV→List AV→Option Bool
 | [],[],[]=>some true
 | k:: ks,x:: xs,y:: ys=>match KB k x y,jZ ks xs ys with|some a,some b=>some (a&&b)|_,_=>none
 | _,_,_=>none
def lQ(neg:Bool)(ks:List Nat)(x y:AV)(K:AV→Prop):Prop:=
 match x,y with
 | .agg xs,.agg ys=>(match jZ ks xs ys with|some b=>K (b_ (if neg then !b else b))|none=>False)
 | _,_=>False
def aH(c a b:AV)(K:AV→Prop):Prop:=∃t,c=.v (.bool t)∧(t=true→K a)∧(t=false→K b)
def ae(c:AV)(A B:Prop):Prop:=∃t,c=.v (.bool t)∧(t=true→A)∧(t=false→B)
def au(c:AV)(want:Bool)(A B:Prop):Prop:=(∃t,c=.v (.bool t)∧(t=want→A)∧(t=(!want)→B))∨(c=.v undef∧B)
def fe(x:AV)(K:AV→Prop):Prop:=∃t,x=.v (.bool t)∧K (b_ (!t))
def mR(x:AV)(K:AV→Prop):Prop:=∃k n,x=.v (.int k n)∧tR k (0-n) K
def gZ(k:IntKind)(x:AV)(K:AV→Prop):Prop:=∃k' n,x=.v (.int k' n)∧K (.v (.int k (k.wrap n)))
def aK(i:Nat)(x:AV)(K:AV→Prop):Prop:=
 match x with
 | .aF cs=>match cs[i]? with|some c=>K c|none=>False
 | _=>False
def pS(g:Bool)(sz:Nat)(cs:List AV)(K:AV→Prop):Prop:=
 match g with
 | true=>sz≤cs.length∧K (.agg (cs.take sz))
 | false=>match cs with|c:: _=>K c|[]=>False
def yS(g:Bool)(off n:Nat)(x:AV)(K:AV→Prop):Prop:=
 match x with
 | .agg cs=>pS g n (cs.drop off) K
 | _=>False
def lF(x i:AV)(K:AV→Prop):Prop:=
 match x,i with
 | .str l,.v (.int _ n)=>(0≤n∧n<l.length)∧K (.v (.int .u8 (l.getD n.toNat 0).toNat))
 | _,_=>False
def rS(g:Bool)(sz len:Nat)(x i:AV)(K:AV→Prop):Prop:=
 match x,i with
 | .agg cs,.v (.int _ n)=>(0≤n∧n<len)∧pS g sz (cs.drop (n.toNat*sz)) K
 | _,_=>False
def fc:Option AV→Int→Option Int
 | none,d=>some d
 | some (.v (.int _ n)),_=>some n
 | _,_=>none
def mw(x:AV)(lo hi:Option AV)(K:AV→Prop):Prop:=
 match x with
 | .str l=>(match fc lo 0,fc hi l.length with
   | some a,some b=>(0≤a∧a≤b∧b≤l.length)∧K (.str ((l.take b.toNat).drop a.toNat))
   | _,_=>False)
 | _=>False
def iW:AV→AV
 | .v (.slice none 0 0)=>.emp
 | .sb _ sz rows=>.sl sz rows
 | x=>x
def nj(n:Nat)(x:AV)(lo hi:Option AV)(K:AV→Prop):Prop:=
 match iW x with
 | .sl sz rows=>(match fc lo 0,fc hi rows.length with
   | some a,some b=>sz=n∧(0≤a∧a≤b∧b≤rows.length)∧K (.sl sz ((rows.take b.toNat).drop a.toNat))
   | _,_=>False)
 | .own id off len sz=>(match fc lo 0,fc hi len with
   | some a,some b=>sz=n∧(0≤a∧a≤b∧b≤len)∧K (.own id (off+a.toNat*sz) (b-a).toNat sz)
   | _,_=>False)
 | .emp=>(match fc lo 0,fc hi 0 with
   | some a,some b=>(a=0∧b=0)∧K .emp
   | _,_=>False)
 | _=>False
def chunks(sz:Nat):Nat→List AV→List (List AV)
 | 0,_=>[]
 | n+1,cs=>cs.take sz:: chunks sz n (cs.drop sz)
def yV(n sz:Nat)(x:AV)(lo hi:Option AV)(h:aa)(K:AV→Prop):Prop:=
 match x with
 | .op id off=>(match fc lo 0,fc hi n,h[id]? with
   | some a,some b,some (.aC aC)=>(off+n*sz≤aC.cells.length∧0≤a∧a≤b∧b≤n∧n≤maxLen)∧K (.own id (off+a.toNat*sz) (b-a).toNat sz)
   | _,_,_=>False)
 | .ip cs=>(match fc lo 0,fc hi n with
   | some a,some b=>(n*sz≤cs.length∧0<n∧n≤maxLen∧a=0∧b=n)∧K (.sl sz (chunks sz n cs))
   | _,_=>False)
 | _=>False
def aG(m:Nat)(x i:AV)(K:AV→Prop):Prop:=
 match iW x,i with
 | .sl sz rows,.v (.int _ n)=>sz=m∧(0≤n∧n<rows.length)∧K (.ip (rows.getD n.toNat []))
 | .own id off len sz,.v (.int _ n)=>sz=m∧(0≤n∧n<len)∧K (.op id (off+n.toNat*sz))
 | _,_=>False
def gM(len sz:Nat)(x i:AV)(K:AV→Prop):Prop:=
 match x,i with
 | .op id off,.v (.int _ n)=>(0≤n∧n<len)∧K (.op id (off+n.toNat*sz))
 | .ip cs,.v (.int _ n)=>(0≤n∧n<len)∧K (.ip (cs.drop (n.toNat*sz)))
 | _,_=>False
def bh(off:Nat)(x:AV)(K:AV→Prop):Prop:=
 match x with
 | .ip cs=>K (.ip (cs.drop off))
 | .op id o=>K (.op id (o+off))
 | _=>False
def vc(x:AV)(K:AV→Prop):Prop:=
 match x with
 | .ip _|.op _ _=>K x
 | .fn (.func _) _ _=>K x
 | _=>False
def ag(g:Bool)(sz:Nat)(x:AV)(h:aa)(K:AV→Prop):Prop:=
 match x with
 | .ip cs=>pS g sz cs K
 | .op id o=>(match h[id]? with
   | some (.aC b)=>pS g sz (b.cells.drop o) K
   | _=>False)
 | _=>False
def aE(sz:Nat)(x v:AV)(h:aa)(K:aa→Prop):Prop:=
 match x with
 | .op id o=>(match h[id]? with
   | some (.aC b)=>(b.wr=true∧o+(bc v).length≤b.cells.length∧(bc v).length=sz∧(bc v).all dH=true)∧K (h.set id (.aC { b with cells:=dw b.cells o (bc v) }))
   | _=>False)
 | _=>False
def br(t:TypeId)(v:AV)(h:aa)(K:AV→aa→Prop):Prop:=
 (bc v).all dH=true∧K (.op h.length 0) (h++[.aC ⟨t,bc v,true⟩])
def iA:List AV→List (Nat×Nat×AV)→Option (List AV)
 | cells,[]=>some cells
 | cells,(o,n,x):: r=>if (bc x).length=n∧o+n≤cells.length∧(bc x).all dH=true then iA (dw cells o (bc x)) r else none
def aY(zero:AV)(parts:List (Nat×Nat×AV))(K:AV→Prop):Prop:=
 match iA (bc zero) parts with
 | some cs=>K (.agg cs)
 | none=>False
def iq:Nat→List AV→List AV
 | 0,_=>[]
 | n+1,z=>z++iq n z
def jP(t len sz:Nat)(zero:AV)(parts:List (Nat×Nat×AV))(h:aa)(K:AV→aa→Prop):Prop:=
 match iA (iq len (bc zero)) parts with
 | some cs=>(match len with
   | 0=>K .emp h
   | len+1=>K (.own h.length 0 (len+1) sz) (h++[.aC ⟨t,cs,true⟩]))
 | none=>False
def bH(len sz:Nat)(zero:AV)(parts:List (Nat×Nat×AV))(K:AV→Prop):Prop:=
 match iA (iq len (bc zero)) parts with
 | some cs=>K (.sl sz (chunks sz len cs))
 | none=>False
def jo(h:aa)(sz:Nat)(x:AV):Option (List (List AV)):=
 match iW x with
 | .emp=>some []
 | .sl sz' rows=>if sz'=sz then some rows else none
 | .own id off len sz' => (match h[id]? with
   | some (.aC b)=>if sz'=sz∧off+len*sz≤b.cells.length then some (chunks sz len (b.cells.drop off)) else none
   | _=>none)
 | _=>none
def iM(b:UInt8):AV:=.v (.int .u8 b.toNat)
def BR:AV→Option (List (List AV))
 | .str l=>some (l.map fun b=>[iM b])
 | _=>none
def gh(sz:Nat)(r:List AV):Bool:=r.length == sz&&r.all dH
def dU(bytes n:Nat):Prop:=n≤maxLen∧n*bytes≤140737488355328
def qG:AV→AV
 | .v (.slice none 0 0)=>.emp
 | x=>x
def iJ(own:Bool)(e sz bytes:Nat)(x:AV)(src:Option (List (List AV)))(h:aa)(K:AV→aa→Prop):Prop:=
 match src with
 | none=>False
 | some rows=>rows.all (gh sz)=true∧match qG x with
   | .emp=>(match own with
     | false=>dU bytes rows.length∧K (.sb h.length sz rows) (h++[.tok e sz rows.length])
     | true=>rows≠[]∧dU bytes rows.length∧K (.own h.length 0 rows.length sz) (h++[.aC ⟨e,rows.flatten,true⟩]))
   | .sb id sz' base=>(match h[id]? with
     | some (.tok e' sz'' k)=>(sz'=sz∧sz''=sz∧e'=e∧k=base.length)∧dU bytes (k+rows.length)∧K (.sb id sz (base++rows)) (h.set id (.tok e sz (k+rows.length)))
     | _=>False)
   | .own id off len sz' => (match h[id]? with
     | some (.aC b)=>(off=0∧sz'=sz∧b.wr=true∧b.ty=e∧len*sz≤b.cells.length)∧0<len+rows.length∧dU bytes (len+rows.length) ∧
      K (.own h.length 0 (len+rows.length) sz) (h.set id .dead++[.aC ⟨e,b.cells.take (len*sz)++rows.flatten,true⟩])
     | _=>False)
   | _=>False
def eE(own:Bool)(e sz bytes:Nat)(x y:AV)(h:aa)(K:AV→aa→Prop):Prop:=iJ own e sz bytes x (jo h sz y) h K
def G9(own:Bool)(e bytes:Nat)(x y:AV)(h:aa)(K:AV→aa→Prop):Prop:=iJ own e 1 bytes x (BR y) h K
def ir(P:Program)(e:TypeId):Nat:=((P.info? e).map (·.bytes)).getD 0
def nI(P:Program)(e:TypeId):Bool:=
 match P.info? e with
 | some i=>(match i.zero with|some z=>z.cells.size == i.size|none=>false)
 | none=>false
def zK(e sz bytes:Nat)(zero len cap:AV)(h:aa)(K:AV→aa→Prop):Prop:=
 match len,cap with
 | .v (.int _ l),.v (.int _ c)=>(0≤l∧l≤c∧(bytes:Int)*c≤281474976710656∧c≤9223372036854775807)∧K (.own h.length 0 l.toNat sz) (h++[.aC ⟨e,iq c.toNat (bc zero),true⟩])
 | _,_=>False
def kK(e:Nat)(x:AV)(h:aa)(K:AV→aa→Prop):Prop:=
 match x with
 | .str l=>K (.own h.length 0 l.length 1) (h++[.aC ⟨e,l.map iM,true⟩])
 | _=>False
def Gx:List AV→Option (List UInt8)
 | []=>some []
 | .v (.int .u8 n):: r=>(Gx r).map (UInt8.ofNat n.toNat:: ·)
 | _=>none
def jV(x:AV)(h:aa)(K:AV→Prop):Prop:=
 match (jo h 1 x).bind fun p=>Gx p.flatten with
 | some l=>K (.str l)
 | none=>False
def yX(P:Program)(e:TypeId):Bool:=match P.underlying e with|some (.int .u8)=>true|_=>false
def gQ(x:AV)(K:AV→Prop):Prop:=
 match x with
 | .str l=>l.length≤maxLen→K (i_ l.length)
 | _=>False
def bu(x:AV)(K:AV→Prop):Prop:=
 match iW x with
 | .sl _ rows=>rows.length≤maxLen→K (i_ rows.length)
 | .own _ _ len _=>len≤maxLen→K (i_ len)
 | .emp=>K (i_ 0)
 | _=>False
def mg(x y:AV)(K:AV→Prop):Prop:=
 match x,y with
 | .v (.int k a),.v (.int k' b)=>k=k'∧K (.v (.int k (if b<a then b else a)))
 | _,_=>False
def iY(x y:AV)(K:AV→Prop):Prop:=
 match x,y with
 | .v (.int k a),.v (.int k' b)=>k=k'∧K (.v (.int k (if b > a then b else a)))
 | _,_=>False
/-! ### Types -/
def tT:TypeDesc→Bool
 | .struct _|.array _ _=>true
 | _=>false
def gI(P:Program)(t:TypeId):Bool:=match P.underlying t with|some d=>tT d|none=>false
def fv(P:Program)(t:TypeId):Bool:=(P.info? t).isSome&&(P.underlying t).isSome
def gn(P:Program)(t:TypeId):Option AV:=(P.info? t).bind fun i=>i.zero.map kC
def vI(g:TypeId→Option (List Nat))(P:Program):Nat→List Field→Option (List Nat)
 | _,[]=>some []
 | o,f:: fs=>if f.offset=o∧f.name ≠ "_" then (g f.type).bind fun ks=>if P.cellsOf f.type=ks.length∧0<ks.length then (vI g P (o+ks.length) fs).map (ks++·) else none else none
def E7:Nat→List Nat→List Nat
 | 0,_=>[]
 | n+1,ks=>ks++E7 n ks
def nG(P:Program):Nat→TypeId→Option (List Nat)
 | 0,_=>none
 | d+1,t =>
   if fv P t then
    match P.underlying t with
    | some .bool=>some [0]
    | some (.int _)=>some [1]
    | some .string=>some [2]
    | some (.struct fs)=>if P.stoodInHeld t then none else vI (nG P d) P 0 fs.toList
    | some (.array n e)=>(nG P d e).bind fun ks=>if P.cellsOf e=ks.length∧0<ks.length then some (E7 n ks) else none
    | _=>none
   else none
def cd(P:Program)(f:FuncId):Bool:=(P.funcs[f]?).any (fun fn=>fn.body.isSome&&fn.name != "runtime.NumGoroutine")
def eJ(P:Program)(x:AV)(args:List AV)(h:aa)(K:AV→aa→Prop):Prop:=
 match x with
 | .fn (.func f) first cap=>cd P f=true∧dY P f (first++args++cap) h K
 | _=>False
def zL(x:AV)(K:AV→Prop):Prop:=
 match x with
 | .str _=>K x
 | _=>False
/-! ### Interfaces,nil -/
def uU:AV→Option Bool|.v .nilIface=>some true|.jI _ _=>some false|_=>none
def xp:AV→Option Bool|.v (.pointer none)=>some true|.op _ _=>some false|.ip _=>some false|_=>none
def xq:AV→Option Bool
 | .v (.slice none _ _)=>some true
 | .own _ _ len _=>(match len with|0=>none|_+1=>some false)
 | .sl _ rows=>(match rows with|[]=>none|_:: _=>some false)
 | .sb _ _ rows=>(match rows with|[]=>none|_:: _=>some false)
 | _=>none
def kQ(neg b:Bool):Bool:=match neg with|true=>!b|false=>b
def nB(neg:Bool)(r:Option Bool)(K:AV→Prop):Prop:=match r with|some b=>K (b_ (kQ neg b))|none=>False
def uL(neg:Bool)(d:TypeDesc)(y:Operand)(x:AV)(K:AV→Prop):Prop:=
 match d,y with
 | .interface _,.const .nilIface=>nB neg (uU x) K
 | .pointer _,.const (.pointer none)=>nB neg (xp x) K
 | .slice _,.const (.slice none _ _)=>nB neg (xq x) K
 | _,_=>False
def vg(P:Program)(name:String)(t:TypeId):Option FuncId:=
 match P.info? t,P.underlying t with
 | some i,some (.pointer _)=>(match i.methods.find? (·.name == name) with
   | some m=>(match m.path.toList,m.func with|[],some (f,true)=>(match cd P f with|true=>some f|false=>none)|_,_=>none)
   | none=>none)
 | _,_=>none
def M7(P:Program)(asserted t:TypeId):Bool:=
 match P.underlying asserted,P.info? t with
 | some (.interface want),some i=>(lacking want i.methods).isEmpty
 | _,_=>false
def rf(t:TypeId)(x:AV)(K:AV→Prop):Prop:=K (.jI t x)
def yR(has:TypeId→Bool)(x:AV)(K:AV→Prop):Prop:=
 match x with
 | .jI t v=>has t=true∧K (.aF [.jI t v,b_ true])
 | _=>False
def Ij(P:Program)(row:TypeId→Option FuncId)(x:AV)(args:List AV)(h:aa)(K:AV→aa→Prop):Prop:=
 match x with
 | .jI t v=>(match row t with|some f=>dY P f (v:: args) h K|none=>False)
 | _=>False
def gq(P:Program)(x:AV)(K:AV→Prop):Prop:=
 match x with
 | .fn (.method name) (.jI t v:: r) ys=>(vg P name t).isSome=true∧K (.fn (.method name) (.jI t v:: r) ys)
 | x=>vc x K
abbrev gb(b:Bool)(X:Prop):Prop:=match b with|true=>X|false=>False
def cx(P:Program)(own:Bool)(ev:Operand→AV)(h:aa)(op:Op)(K:AV→aa→Prop):Prop:=
 match op with
 | .move x|.assign x=>K (ev x) h
 | .pick c a b=>aH (ev c) (ev a) (ev b) fun v=>K v h
 | .binOp op t x y _ =>
   if gI P t then
    match op with
    | .eql=>gb (!P.eqGuardType P.depth t) (match nG P 8 t with|some ks=>lQ false ks (ev x) (ev y) fun v=>K v h|none=>False)
    | .neq=>gb (!P.eqGuardType P.depth t) (match nG P 8 t with|some ks=>lQ true ks (ev x) (ev y) fun v=>K v h|none=>False)
    | _=>False
   else match P.underlying t with
    | some .bool=>rR op (ev x) (ev y) fun v=>K v h
    | some (.int _)|some .string=>ab op (ev x) (ev y) fun v=>K v h
    | some d=>(match op with
      | .eql=>uL false d y (ev x) fun v=>K v h
      | .neq=>uL true d y (ev x) fun v=>K v h
      | _=>False)
    | none=>False
 | .unOp .not _ x=>fe (ev x) fun v=>K v h
 | .unOp .neg _ x=>mR (ev x) fun v=>K v h
 | .unOp .xor t x=>(match P.underlying t with|some (.int k)=>ab .xor (.v (.int k (DF k))) (ev x) fun v=>K v h|_=>False)
 | .convert s d x =>
   match P.underlying s,P.underlying d with
   | some (.int _),some (.int k)=>gZ k (ev x) fun v=>K v h
   | some .string,some .string=>zL (ev x) fun v=>K v h
   | some .string,some (.slice e)=>gb (yX P e) (kK e (ev x) h K)
   | some (.slice e),some .string=>gb (yX P e) (jV (ev x) h fun v=>K v h)
   | _,_=>False
 | .extract x i=>aK i (ev x) fun v=>K v h
 | .field t x i =>
   match P.underlying t with
   | some (.struct fs)=>match fs[i]? with
     | some f=>gb (fv P f.type) (yS (gI P f.type) f.offset (P.cellsOf f.type) (ev x) fun v=>K v h)
     | none=>False
   | _=>False
 | .index t x i =>
   match P.underlying t with
   | some .string=>lF (ev x) (ev i) fun v=>K v h
   | some (.array n e)=>gb (fv P e) (rS (gI P e) (P.cellsOf e) n (ev x) (ev i) fun v=>K v h)
   | _=>False
 | .slice t x lo hi none =>
   match P.underlying t with
   | some .string=>mw (ev x) (lo.map ev) (hi.map ev) fun v=>K v h
   | some (.slice e)=>gb (fv P e) (nj (P.cellsOf e) (ev x) (lo.map ev) (hi.map ev) fun v=>K v h)
   | some (.array n e)=>gb (fv P e) (yV n (P.cellsOf e) (ev x) (lo.map ev) (hi.map ev) h fun v=>K v h)
   | _=>False
 | .indexAddr t x i =>
   match P.underlying t with
   | some (.slice e)=>gb (fv P e) (aG (P.cellsOf e) (ev x) (ev i) fun v=>K v h)
   | some (.array n e)=>gb (fv P e) (gM n (P.cellsOf e) (ev x) (ev i) fun v=>K v h)
   | _=>False
 | .fieldAddr t x i =>
   match P.underlying t with
   | some (.struct fs)=>match fs[i]? with
     | some f=>gb (P.cellsOf f.type != 0&&fv P f.type) (bh f.offset (ev x) fun v=>K v h)
     | none=>False
   | _=>False
 | .nilCheck x=>gq P (ev x) fun v=>K v h
 | .makeInterface t x=>gb (P.concrete t) (rf t (ev x) fun v=>K v h)
 | .typeAssert x _ asserted true=>yR (M7 P asserted) (ev x) fun v=>K v h
 | .load t x=>gb (fv P t) (ag (gI P t) (P.cellsOf t) (ev x) h fun v=>K v h)
 | .store t x v=>gb (fv P t) (aE (P.cellsOf t) (ev x) (ev v) h fun h' => K (.v undef) h')
 | .alloc t=>match gn P t with
   | some z=>br t z h K
   | none=>False
 | .box t x=>br t (ev x) h K
 | .build t parts =>
   match P.underlying t,gn P t with
   | some (.struct fs),some z=>gb (fs.toList.all (fun f=>fv P f.type)&&parts.toList.all (fun p=>(fs[p.1]?).isSome))
    (aY z (parts.toList.map fun p=>(((fs[p.1]?).map (·.offset)).getD 0,((fs[p.1]?).map (fun f=>P.cellsOf f.type)).getD 0,ev p.2)) fun v=>K v h)
   | some (.array _ e),some z=>gb (fv P e) (aY z (parts.toList.map fun p=>(p.1*P.cellsOf e,P.cellsOf e,ev p.2)) fun v=>K v h)
   | _,_=>False
 | .buildSlice t len parts =>
   match P.underlying t with
   | some (.slice e)=>(match gn P e with
     | some z=>gb (nI P e&&fv P e&&decide (len*P.cellsOf e≤16777216)&&decide (len≤16777216)) (match own with
      | true=>bH len (P.cellsOf e) z (parts.toList.map fun p=>(p.1*P.cellsOf e,P.cellsOf e,ev p.2)) fun v=>K v h
      | false=>jP e len (P.cellsOf e) z (parts.toList.map fun p=>(p.1*P.cellsOf e,P.cellsOf e,ev p.2)) h K)
     | none=>False)
   | _=>False
 | .makeSlice t l c =>
   match P.underlying t with
   | some (.slice e)=>(match gn P e with
     | some z=>gb (nI P e&&decide (0<P.cellsOf e)) (zK e (P.cellsOf e) (ir P e) z (ev l) (ev c) h K)
     | none=>False)
   | _=>False
 | .makeFunc f xs ys=>K (.fn f (xs.toList.map ev) (ys.toList.map ev)) h
 | .call c =>
   match c.callee with
   | .builtin .len=>(match c.argTypes[0]?,c.args[0]? with
     | some t,some x=>(match P.underlying t with
       | some .string=>gQ (ev x) fun v=>K v h
       | some (.slice _)=>bu (ev x) fun v=>K v h
       | _=>False)
     | _,_=>False)
   | .builtin .min=>(match c.args.toList with|[x,y]=>mg (ev x) (ev y) fun v=>K v h|_=>False)
   | .builtin .max=>(match c.args.toList with|[x,y]=>iY (ev x) (ev y) fun v=>K v h|[x,y,z]=>iY (ev x) (ev y) fun u=>iY u (ev z) fun v=>K v h|_=>False)
   | .builtin .append=>(match c.argTypes.toList,c.args.toList with
     | [t,tx],[x,y]=>(match P.underlying t,P.underlying tx with
       | some (.slice e),some (.slice _)=>gb (nI P e) (eE own e (P.cellsOf e) (ir P e) (ev x) (ev y) h K)
       | some (.slice e),some .string=>gb (nI P e&&P.cellsOf e == 1) (G9 own e (ir P e) (ev x) (ev y) h K)
       | _,_=>False)
     | _,_=>False)
   | .value x=>eJ P (ev x) (c.args.toList.map ev) h K
   | .invoke x name=>Ij P (vg P name) (ev x) (c.args.toList.map ev) h K
   | _=>False
 | _=>False
def kz(st:St)(d:Option Tmp)(x:AV)(h:aa):St:=⟨st.n,cJ st.n st.fr d x,h⟩
def aQ(want:Bool)(c:AV):AV:=match c with|.v (.bool _)=>.v (.bool (!want))|c=>c
def eK(ops:Array Oper)(j:Nat):Option Tmp:=(ops[j]?).bind (·.dst)
omit [Laid] in
theorem ax.iW{ι:List Ix}{S:ba}{w:World}{x:AV}{y:Value}(h:ax ι S w x y):ax ι S w (Aw.iW x) y:=by
 unfold Aw.iW;split
 ·rw[dx]at h;subst h;rw[ax];exact⟨none,rfl⟩
 ·rw[ax]at h;rw[ax];exact h.1
 ·exact h
omit [Laid] in
theorem ax.qG{ι:List Ix}{S:ba}{w:World}{x:AV}{y:Value}(h:ax ι S w x y):ax ι S w (Aw.qG x) y:=by
 unfold Aw.qG;split
 ·rw[dx]at h;subst h;rw[ax];exact⟨none,rfl⟩
 ·exact h
def cq(P:Program)(o:Oper)(base:Nat)(ι:List Ix)(S:ba)(a:Act)(w:World)(st:St)(K:AV→aa→Prop):Prop:=
 ∀Q:Exit→Act→World→Prop,o.wp P a w (fun a' w' => ∃ι' S' v h',cc ι.length base ι S w ι' S' w'∧bN base ι' S' a' w' (kz st o.dst v h')∧st.h.length≤h'.length∧K v h') Q
section
variable {P:Program} {o:Oper} {base:Nat} {ι ι':List Ix} {S S':ba} {a:Act} {w w':World} {st:St} {K:AV→aa→Prop} {v:AV} {u:Value} {h':aa}
theorem fN(hr:bN base ι S a w st)(hrun:(execOp a.eval o).run P w=.ok (.value u) w')(hE:cc ι.length base ι S w ι' S' w')(r:ax ι' S' w' v u)
 (hh:dN base ι' S' w' h') (hl:st.h.length≤h'.length) (k:K v h'):cq P o base ι S a w st K:=by
 intro Q;unfold Oper.wp;rw[hrun,Oper.upon_value];refine⟨ι',S',v,h',hE, ?_,hl,k⟩;have:bN base ι' S' a w' ⟨st.n,st.fr,h'⟩:=⟨hr.df,hr.sz,eZ.gW hE (aS _) hr.fr,hh⟩;exact this.put o.dst r
theorem Dw(hr:bN base ι S a w st)(hrun:(execOp a.eval o).run P w=.ok .skip w')(hE:cc ι.length base ι S w ι' S' w')
 (hh:dN base ι' S' w' h') (hl:st.h.length≤h'.length) (k:K (.v undef) h'):cq P o base ι S a w st K:=by
 intro Q;unfold Oper.wp;rw[hrun,Oper.upon_skip];refine⟨ι',S',.v undef,h',hE, ?_,hl,k⟩;have:bN base ι' S' a w' ⟨st.n,st.fr,h'⟩:=⟨hr.df,hr.sz,eZ.gW hE (aS _) hr.fr,hh⟩;exact this.put (x:=.v undef) (v:=undef) o.dst (by simp)
theorem bk(hr:bN base ι S a w st)(hrun:(execOp a.eval o).run P w=.ok (.value u) w)(r:ax ι S w v u)(k:K v st.h):cq P o base ι S a w st K:=
 fN hr hrun (cc.refl _ _ _ _ _) r hr.hp (aS _) k
end
omit [Laid] in
theorem gp{x:Sem Value}{u:Value}(h:x.run P w=.ok u w'):(do pure (Next.value (←x)):Sem Next).run P w=.ok (.value u) w':=by
 rw[acI,h];rfl
omit [Laid] in
theorem aax{x:Sem Unit}(h:x.run P w=.ok () w'):(do x;pure Next.skip:Sem Next).run P w=.ok .skip w':=by
 rw[acI,h];rfl
omit [Laid] in
theorem ot{i:TypeInfo}(h:P.info? t=some i):(typeInfo t).run P w=.ok i w:=by
 simp[typeInfo,h]
omit [Laid] in
theorem eY(h:fv P t=true):(sizeOf t).run P w=.ok (P.cellsOf t) w:=by
 unfold fv at h;simp only[On,Option.isSome_iff_exists]at h;obtain⟨⟨i,hi⟩,_⟩:=h;simp[sizeOf,ot hi,Program.cellsOf,hi]
omit [Laid] in
theorem xB(h:fv P t=true):(isAgg t).run P w=.ok (gI P t) w:=by
 unfold fv at h;simp only[On,Option.isSome_iff_exists]at h;obtain⟨_,⟨d,hd⟩⟩:=h;unfold isAgg gI;simp only[acI,run_underlying hd,acH,hd];cases d<;>rfl
omit [Laid] in
theorem xd{k:IntKind}{n:Int}{K:AV→Prop}(h:tR k n K):K (.v (.int k (k.wrap n))):=by
 unfold tR at h;split at h
 ·obtain⟨h1,h2⟩:=h;rw[IntWalk.i64_in n ⟨h1.1,h1.2⟩];exact h2
 ·exact h
section
variable {P:Program} {o:Oper} {base:Nat} {ι:List Ix} {S:ba} {a:Act} {w:World} {st:St} {K:AV→aa→Prop}
theorem Qi{x:Operand}(hr:bN base ι S a w st)(ho:o.op=.move x∨o.op=.assign x)(h:K (ak st.fr x) st.h):cq P o base ι S a w st K:=
 bk hr (by rcases ho with ho|ho<;>simp[execOp,ho]) (hr.eval x) h
theorem aaT{c x y:Operand}(hr:bN base ι S a w st)(ho:o.op=.pick c x y)(h:aH (ak st.fr c) (ak st.fr x) (ak st.fr y) fun v=>K v st.h):cq P o base ι S a w st K:=by
 obtain⟨t,e,h1,h2⟩:=h;have hc:=hr.eval c;rw[e]at hc;simp only[dx]at hc;cases t with
 | true=>exact bk hr (u:=a.eval x) (by simp[execOp,ho,hc,asBool]) (hr.eval x) (h1 rfl)
 | false=>exact bk hr (u:=a.eval y) (by simp[execOp,ho,hc,asBool]) (hr.eval y) (h2 rfl)
omit [Laid] in
theorem WJ{op:BinOp}{k:IntKind}{t:TypeId}{x y:Int}{K:AV→Prop}(hs:jQ op=false)(h:re op k x y K):∃u,(binOp op t (.int k x) (.int k y)).run P w=.ok u w∧K (.v u):=by
 cases op<;>simp only[jQ,Bool.true_eq_false]at hs<;>simp only[re]at h
 case add=>exact⟨_,by simp[binOp,Op.intArith],xd h⟩
 case sub=>exact⟨_,by simp[binOp,Op.intArith],xd h⟩
 case mul=>exact⟨_,by simp[binOp,Op.intArith],xd h⟩
 case quo=>exact⟨_,by simp[binOp,Op.intDiv,h.1],h.2⟩
 case rem=>exact⟨_,by simp[binOp,Op.intDiv,h.1],h.2⟩
 case and=>exact⟨_,by simp only[binOp,Op.intBits];rw[if_neg (by simp)];rfl,h⟩
 case or=>exact⟨_,by simp only[binOp,Op.intBits];rw[if_neg (by simp)];rfl,h⟩
 case xor=>exact⟨_,by simp only[binOp,Op.intBits];rw[if_neg (by simp)];rfl,h⟩
 case andNot=>exact⟨_,by simp only[binOp,Op.intBits];rw[if_neg (by simp)];rfl,h⟩
 case eql=>exact⟨_,by simp only[binOp,Op.intCmp];simp;rfl,h⟩
 case neq=>exact⟨_,by simp only[binOp,Op.intCmp];simp;rfl,h⟩
 case lss=>exact⟨_,by simp only[binOp,Op.intCmp];rw[if_neg (by simp)];rfl,h⟩
 case leq=>exact⟨_,by simp only[binOp,Op.intCmp];rw[if_neg (by simp)];rfl,h⟩
 case gtr=>exact⟨_,by simp only[binOp,Op.intCmp];rw[if_neg (by simp)];rfl,h⟩
 case geq=>exact⟨_,by simp only[binOp,Op.intCmp];rw[if_neg (by simp)];rfl,h⟩
omit [Laid] in
theorem Qf{op:BinOp}{k k':IntKind}{t:TypeId}{x y:Int}{K:AV→Prop}(hs:jQ op=true)(h:tQ op k x y K):∃u,(binOp op t (.int k x) (.int k' y)).run P w=.ok u w∧K (.v u):=by
 obtain⟨h0,h⟩:=h;have h0':¬y<0:=by omega
 cases op<;>simp only[jQ,aaX]at hs<;>simp only at h
 case shl=>exact⟨_,by simp[binOp,Op.shift,h0'],h⟩
 case shr=>exact⟨_,by simp[binOp,Op.shift,h0'],h⟩
omit [Laid] in
theorem WK{op:BinOp}{t:TypeId}{x y:List UInt8}{K:AV→Prop}(hx:x.length≤maxLen)(hy:y.length≤maxLen)(h:xb op x y K):
 ∃v u,(binOp op t (.string ⟨x.toArray⟩) (.string ⟨y.toArray⟩)).run P w=.ok u w∧(∀ι S,ax ι S w v u)∧K v:=by
 have dec:∀a b:List UInt8,(a == b)=decide (a=b):=fun a b=>by by_cases q:a=b<;>simp[q]
 cases op<;>simp only[xb]at h
 case add =>
  refine⟨_,.string ⟨(x++y).toArray⟩, ?_,fun ι S=>by simpa using h.1,h.2⟩;have h1:=h.1;unfold maxLen at h1;have e1:(⟨x.toArray⟩:ByteArray).size=x.length:=rfl;have e2:(⟨y.toArray⟩:ByteArray).size=y.length:=rfl;have e3:(⟨x.toArray⟩++⟨y.toArray⟩:ByteArray)=⟨(x++y).toArray⟩:=by
   apply ByteArray.ext;simp
  simp only[binOp_string_add,Op.stringOp,e1,e2,e3];rw[if_neg (by simp only[IntKind.max,IntKind.signed,IntKind.bits];simp;omega)];rfl
 case eql=>exact⟨_,_,by simp[binOp,Op.stringOp];rfl,fun ι S=>by simp[dec],h⟩
 case neq=>exact⟨_,_,by simp[binOp,Op.stringOp];rfl,fun ι S=>by simp[dec],h⟩
 case lss=>exact⟨_,_,by simp[binOp,Op.stringOp];rfl,fun ι S=>by simp,h⟩
 case leq=>exact⟨_,_,by simp[binOp,Op.stringOp];rfl,fun ι S=>by simp[dec],h⟩
 case gtr=>exact⟨_,_,by simp[binOp,Op.stringOp];rfl,fun ι S=>by simp[dec],h⟩
 case geq=>exact⟨_,_,by simp[binOp,Op.stringOp];rfl,fun ι S=>by simp,h⟩
omit [Laid] in
theorem jR{op:BinOp}{t:TypeId}{x y:Operand}{p q:Value}(h:p.oneCell'=true)(h':p≠.nilIface):(eqGuard op t x y p q).run P w=.ok () w:=by
 unfold eqGuard;cases op<;>(try rfl)<;>cases p<;>first|rfl|(exact absurd rfl h')|cases h
theorem Ul{op:BinOp}{t yt:TypeId}{x y:Operand}(hr:bN base ι S a w st)(ho:o.op=.binOp op t x y yt)
 (h:ab op (ak st.fr x) (ak st.fr y) fun v=>K v st.h):cq P o base ι S a w st K:=by
 have hx:=hr.eval x;have hy:=hr.eval y;generalize ak st.fr x=X at *;generalize ak st.fr y=Y at *;unfold ab at h;split at h
 ·rename_i k p k' q;simp only[dx]at hx hy;have hg:(eqGuard op t x y (a.eval x) (a.eval y)).run P w=.ok () w:=jR (by rw[hx];rfl) (by rw[hx];intro e;cases e);split at h
  ·rename_i hs;obtain⟨u,e,k1⟩:=Qf (P:=P) (w:=w) (t:=t) (k':=k') hs h;exact bk hr (u:=u) (by simp only[execOp,ho];exact gp (by rw[acI,hg];simpa[hx,hy]using e)) (by simp) k1
  ·rename_i hs;obtain⟨rfl,h⟩:=h;obtain⟨u,e,k1⟩:=WJ (P:=P) (w:=w) (t:=t) (by simpa using hs) h;exact bk hr (u:=u) (by simp only[execOp,ho];exact gp (by rw[acI,hg];simpa[hx,hy]using e)) (by simp) k1
 ·rename_i p q;simp only[gN]at hx hy;have hg:(eqGuard op t x y (a.eval x) (a.eval y)).run P w=.ok () w:=jR (by rw[hx.1];rfl) (by rw[hx.1];intro e;cases e);obtain⟨v,u,e,r,k1⟩:=WK (P:=P) (w:=w) (t:=t) hx.2 hy.2 h;exact bk hr (u:=u) (by simp only[execOp,ho];exact gp (by rw[acI,hg];simpa[hx.1,hy.1]using e)) (r ι S) k1
 ·exact h.elim
theorem aaC{op:BinOp}{t yt:TypeId}{x y:Operand}(hr:bN base ι S a w st)(ho:o.op=.binOp op t x y yt)(ht:P.underlying t=some .bool)
 (h:rR op (ak st.fr x) (ak st.fr y) fun v=>K v st.h):cq P o base ι S a w st K:=by
 have hx:=hr.eval x;have hy:=hr.eval y;generalize ak st.fr x=X at *;generalize ak st.fr y=Y at *;unfold rR at h;split at h
 ·rename_i p q;simp only[dx]at hx hy;have hg:(eqGuard op t x y (a.eval x) (a.eval y)).run P w=.ok () w:=jR (by rw[hx];rfl) (by rw[hx];intro e;cases e);split at h
  ·exact bk hr (u:=.bool (p == q)) (by simp only[execOp,ho];exact gp (by rw[acI,hg];simpa[hx,hy]using run_eql_bool w t p q ht)) (by simp) h
  ·exact bk hr (u:=.bool (!(p == q))) (by simp only[execOp,ho];exact gp (by rw[acI,hg];simpa[hx,hy]using run_neq_bool w t p q ht)) (by simp) h
  ·exact h.elim
 ·exact h.elim
theorem ack{t:TypeId}{x:Operand}(hr:bN base ι S a w st)(ho:o.op=.unOp .not t x)(h:fe (ak st.fr x) fun v=>K v st.h):cq P o base ι S a w st K:=by
 obtain⟨b,e,h⟩:=h;have hx:=hr.eval x;rw[e]at hx;simp only[dx]at hx;exact bk hr (u:=.bool (!b)) (by simp[execOp,ho,hx,Op.unary]) (by simp) h
theorem aci{t:TypeId}{x:Operand}(hr:bN base ι S a w st)(ho:o.op=.unOp .neg t x)(h:mR (ak st.fr x) fun v=>K v st.h):cq P o base ι S a w st K:=by
 obtain⟨k,n,e,h⟩:=h;have hx:=hr.eval x;rw[e]at hx;simp only[dx]at hx;exact bk hr (u:=.int k (k.wrap (0-n))) (by simp[execOp,ho,hx,Op.unary,Op.intArith]) (by simp) (xd h)
theorem ab9{t:TypeId}{x:Operand}{k:IntKind}(hr:bN base ι S a w st)(ho:o.op=.unOp .xor t x)(h:ab .xor (.v (.int k (DF k))) (ak st.fr x) fun v=>K v st.h):cq P o base ι S a w st K:=by
 have hx:=hr.eval x;generalize ak st.fr x=X at *;unfold ab at h;split at h
 ·rename_i k1 p k2 q e1;cases e1;simp only[dx]at hx;simp only[jQ,aaX,if_false]at h;obtain⟨rfl,h⟩:=h;simp only[re]at h;exact bk hr (u:=.int k (fk .xor k (DF k) q)) (by simp only[execOp,ho];exact gp (by
   have e2:Op.unary .xor (.int k q)=Op.intBits .xor k (DF k) q:=rfl;rw[hx,e2];simp only[Op.intBits];rfl)) (by simp) h
 ·rename_i e1;cases e1
 ·exact h.elim
theorem aaE{s d:TypeId}{x:Operand}{k k':IntKind}(hr:bN base ι S a w st)(ho:o.op=.convert s d x)(hs:P.underlying s=some (.int k'))(hd:P.underlying d=some (.int k))
 (h:gZ k (ak st.fr x) fun v=>K v st.h):cq P o base ι S a w st K:=by
 obtain⟨k',n,e,h⟩:=h;have hx:=hr.eval x;rw[e]at hx;simp only[dx]at hx;exact bk hr (u:=.int k (k.wrap n)) (by simp[execOp,ho,hx,convert,run_underlying hs,run_underlying hd,Conv.intToInt]) (by simp) h
theorem WO{s d:TypeId}{x:Operand}(hr:bN base ι S a w st)(ho:o.op=.convert s d x)(hs:P.underlying s=some .string)(hd:P.underlying d=some .string)
 (h:∃l,ak st.fr x=.str l∧K (ak st.fr x) st.h):cq P o base ι S a w st K:=by
 obtain⟨l,e,h⟩:=h;have hx:=hr.eval x;have hx':=hx;rw[e]at hx;simp only[gN]at hx;exact bk hr (u:=a.eval x) (by simp only[execOp,ho];exact gp (by simp[convert,run_underlying hs,run_underlying hd,hx.1])) hx' h
theorem aaF{x:Operand}{i:Nat}(hr:bN base ι S a w st)(ho:o.op=.extract x i)(h:aK i (ak st.fr x) fun v=>K v st.h):cq P o base ι S a w st K:=by
 have hx:=hr.eval x;unfold aK at h;split at h
 ·rename_i cs e;rw[e,ax]at hx;obtain⟨vs,e1,r⟩:=hx;split at h
  ·rename_i c ec;obtain⟨v,ev,rv⟩:=r.get i c ec;exact bk hr (u:=v) (by simp only[execOp,ho,e1];exact gp (by simp[Instr.extract,ev])) rv h
  ·exact h.elim
 ·exact h.elim
omit [Laid] in
theorem Je{t:TypeId}{cs:List AV}{vs:List Value}{off:Nat}{K:AV→Prop}(ht:fv P t=true)(r:aI ι S w cs vs)(h:pS (gI P t) (P.cellsOf t) (cs.drop off) K):
 ∃v u,(part t vs.toArray off).run P w=.ok u w∧ax ι S w v u∧K v:=by
 unfold part;simp only[acI,xB ht,acH];unfold pS at h;split at h
 ·rename_i hg;rw[hg];simp only[if_true,acI,eY ht,acH,acJ];refine⟨_,_,rfl, ?_,h.2⟩;rw[ax];refine⟨(vs.drop off).take (P.cellsOf t), ?_,(r.drop off).take _⟩;simp[List.extract_eq_take_drop,Nat.add_sub_cancel_left]
 ·rename_i hg;rw[hg];simp only[aaX,if_false];split at h
  ·rename_i c rest e;have ec:cs[off]?=some c:=by
    have:=congrArg (fun l=>l[0]?) e;simpa using this
   obtain⟨v,ev,rv⟩:=r.get off c ec;exact⟨c,v,by simp[ev],rv,h⟩
  ·exact h.elim
theorem WR{t:TypeId}{x:Operand}{i:Nat}{fs:Array Field}{f:Field}(hr:bN base ι S a w st)(ho:o.op=.field t x i)(ht:P.underlying t=some (.struct fs))(hf:fs[i]?=some f)(hk:fv P f.type=true)
 (h:yS (gI P f.type) f.offset (P.cellsOf f.type) (ak st.fr x) fun v=>K v st.h):cq P o base ι S a w st K:=by
 have hx:=hr.eval x;unfold yS at h;split at h
 ·rename_i cs e;rw[e,ax]at hx;obtain⟨vs,e1,r⟩:=hx;obtain⟨v,u,hrun,rv,k⟩:=Je (P:=P) hk r h;exact bk hr (u:=u) (by simp only[execOp,ho,e1];exact gp (by simp[Instr.field,run_underlying ht,hf,asAgg,hrun])) rv k
 ·exact h.elim
theorem aaK{t:TypeId}{x i:Operand}(hr:bN base ι S a w st)(ho:o.op=.index t x i)(ht:P.underlying t=some .string)(h:lF (ak st.fr x) (ak st.fr i) fun v=>K v st.h):cq P o base ι S a w st K:=by
 have hx:=hr.eval x;have hi:=hr.eval i;unfold lF at h;split at h
 ·rename_i l k n e1 e2;rw[e1]at hx;rw[e2]at hi;simp only[gN,dx]at hx hi;obtain⟨⟨h0,h1⟩,h⟩:=h;have hn:n.toNat<l.length:=by omega
  refine bk hr (u:=.int .u8 (l.getD n.toNat 0).toNat) (by
   simp only[execOp,ho,hx.1,hi];refine gp ?_;have q:(⟨l.toArray⟩:ByteArray)[n.toNat]?=some (l.getD n.toNat 0):=by
    rw[ByteArray.getElem?_lt' _ _ (show n.toNat<(⟨l.toArray⟩:ByteArray).size from hn)];show some (l.toArray[n.toNat])=_;simp[oF,hn]
   simp only[Instr.index,acI,asIntOf,acJ,acH,run_underlying ht,if_pos h0,q]) (by simp) h
 ·exact h.elim
end
section
variable {P:Program} {o:Oper} {base:Nat} {ι:List Ix} {S:ba} {a:Act} {w:World} {st:St} {K:AV→aa→Prop}
theorem aaH{t e:TypeId}{n:Nat}{x i:Operand}(hr:bN base ι S a w st)(ho:o.op=.index t x i)(ht:P.underlying t=some (.array n e))(hk:fv P e=true)
 (h:rS (gI P e) (P.cellsOf e) n (ak st.fr x) (ak st.fr i) fun v=>K v st.h):cq P o base ι S a w st K:=by
 have hx:=hr.eval x;have hi:=hr.eval i;unfold rS at h;split at h
 ·rename_i cs k j e1 e2;rw[e1,ax]at hx;rw[e2,dx]at hi;obtain⟨vs,ev,r⟩:=hx;obtain⟨⟨h0,h1⟩,h⟩:=h;obtain⟨v,u,hrun,rv,kk⟩:=Je (P:=P) (w:=w) hk r h;refine bk hr (u:=u) (by
   simp only[execOp,ho,ev,hi];exact gp (by simp only[Instr.index,acI,asIntOf,acJ,acH,run_underlying ht];rw[if_pos ⟨h0,h1⟩];simp only[acI,eY hk,acH];exact hrun)) rv kk
 ·exact h.elim
theorem zk{fr:Fr}(hE:∀x,ax ι S w (ak fr x) (a.eval x)){x:Option Operand}{d n:Int}(h:fc (x.map (ak fr)) d=some n):(x=none∧n=d)∨∃y k,x=some y∧a.eval y=.int k n:=by
 cases x with
 | none=>left;simp[fc]at h;exact⟨rfl,h.symm⟩
 | some y =>
   right;have hy:=hE y;simp only[acV]at h;cases he:ak fr y with
   | v z =>
     rw[he]at h hy;cases z<;>simp only[fc,ON,reduceCtorEq]at h;rename_i k q;subst h;rw[dx]at hy;exact⟨y,k,rfl,hy⟩
   | _=>rw[he]at h;simp[fc]at h
theorem s8{isl:Bool}{len cap:Nat}{lo hi:Option Operand}{p q:Int}{fr:Fr}(hE:∀x,ax ι S w (ak fr x) (a.eval x))(h1:fc (lo.map (ak fr)) 0=some p)(h2:fc (hi.map (ak fr)) len=some q)
 (hp:0≤p) (hpq:p≤q) (hq:q≤cap):(Instr.sliceBounds isl len cap (lo.map a.eval) (hi.map a.eval) none).run P w=.ok (p.toNat,q.toNat,cap) w:=by
 have bound:∀(k:IntKind) (n:Int) (y:Nat) (c:BoundsCode),0≤n→n≤y→(Instr.sliceBound (.int k n) y c).run P w=.ok n.toNat w:=fun k n y c g1 g2=>run_sliceBound w k n y c g1 g2;unfold Instr.sliceBounds;rcases zk hE h1 with⟨rfl,rfl⟩|⟨yl,kl,rfl,el⟩<;>rcases zk hE h2 with⟨rfl,rfl⟩|⟨yh,kh,rfl,eh⟩
 ·simp
 ·simp[eh,bound kh q cap _ (by omega) hq]
 ·simp[el,bound kl p len _ hp hpq]
 ·simp only[acV,acI,acJ,acH,eh,el];rw[bound kh q cap _ (by omega) hq];simp only[acH];rw[bound kl p q.toNat _ hp (by omega)];rfl
theorem aco{t:TypeId}{x:Operand}{lo hi:Option Operand}(hr:bN base ι S a w st)(ho:o.op=.slice t x lo hi none)(ht:P.underlying t=some .string)
 (h:mw (ak st.fr x) (lo.map (ak st.fr)) (hi.map (ak st.fr)) fun v=>K v st.h):cq P o base ι S a w st K:=by
 have hx:=hr.eval x;unfold mw at h;split at h
 ·rename_i l e;rw[e,gN]at hx;split at h
  ·rename_i p q e1 e2;obtain⟨⟨g0,g1,g2⟩,h⟩:=h;have hb:=s8 (P:=P) (isl:=false) (len:=l.length) (cap:=l.length) hr.eval e1 e2 g0 g1 g2;refine bk hr (u:=.string ⟨((l.take q.toNat).drop p.toNat).toArray⟩) ?_ ?_ h
   ·simp only[execOp,ho,hx.1,Option.map_none];refine gp ?_;have hsz:(⟨l.toArray⟩:ByteArray).size=l.length:=rfl;simp only[Instr.sliceAt,acI,run_underlying ht,acH,Instr.slice,Option.isSome_none,aaX,if_false,hsz,hb,acJ]
    congr 2
    apply ByteArray.ext;simp[ByteArray.data_extract];rw[List.drop_take]
   ·simp only[gN];refine⟨trivial, ?_⟩;have:=hx.2;simp;omega
  ·exact h.elim
 ·exact h.elim
theorem afd{t e:TypeId}{x:Operand}{lo hi:Option Operand}(hr:bN base ι S a w st)(ho:o.op=.slice t x lo hi none)(ht:P.underlying t=some (.slice e))(hk:fv P e=true)
 (h:nj (P.cellsOf e) (ak st.fr x) (lo.map (ak st.fr)) (hi.map (ak st.fr)) fun v=>K v st.h):cq P o base ι S a w st K:=by
 have hx:=(hr.eval x).iW;have run:∀(b:Option Addr) (len cap:Nat) (p q:Int),a.eval x=.slice b len cap→fc (lo.map (ak st.fr)) 0=some p→fc (hi.map (ak st.fr)) len=some q→0≤p→p≤q→q≤cap →
  (execOp a.eval o).run P w=.ok (.value (.slice (if cap=p.toNat then b else b.map (·.add (p.toNat*P.cellsOf e))) (q.toNat-p.toNat) (cap-p.toNat))) w:=by
  intro b len cap p q ex e1 e2 g0 g1 g2;have hb:=s8 (P:=P) (isl:=true) (len:=len) (cap:=cap) hr.eval e1 e2 g0 g1 g2;simp only[execOp,ho,ex,Option.map_none];exact gp (by simp only[Instr.sliceAt,acI,run_underlying ht,acH,Instr.slice,hb,eY hk,acJ])
 unfold nj at h;split at h
 ·rename_i sz rows ex;rw[ex,ax]at hx;obtain⟨b,cap,ev,c1,c2,c3⟩:=hx;split at h
  ·rename_i p q e1 e2;obtain⟨rfl,⟨g0,g1,g2⟩,h⟩:=h;refine bk hr (run b _ cap p q ev e1 e2 g0 g1 (by omega)) ?_ h;rw[ax];have hl:((rows.take q.toNat).drop p.toNat).length=q.toNat-p.toNat:=by simp;omega
   refine⟨_,_,by rw[hl],by omega,by omega, ?_⟩
   by_cases hem:(rows.take q.toNat).drop p.toNat=[]
   ·exact .inl hem
   ·right;have hlen:0<q.toNat-p.toNat:=by rw[←hl];exact List.length_pos_iff.2 hem
    rcases c3 with c3|⟨bb,off,eb,rr⟩
    ·subst c3;simp at hem
    ·subst eb;rw[if_neg (by omega)];refine⟨bb,off+p.toNat*P.cellsOf e,by simp[gR],da.mk fun i r er=>?_⟩;have er':rows[p.toNat+i]?=some r:=by
      rw[aat]at er;rw[To]at er;split at er<;>first|exact er|cases er
     have:=rr.get _ _ er';refine⟨this.1, ?_⟩;rw[Nat.add_assoc,←acT];exact this.2
  ·exact h.elim
 ·rename_i id off len sz ex;rw[ex,ax]at hx;obtain⟨bb,b,cap,n,ty,c1,ev,c2,c3,c4,c5,c6⟩:=hx;split at h
  ·rename_i p q e1 e2;obtain⟨rfl,⟨g0,g1,g2⟩,h⟩:=h;refine bk hr (run b _ cap p q ev e1 e2 g0 g1 (by omega)) ?_ h;rw[ax];have hmul:p.toNat*P.cellsOf e+(cap-p.toNat)*P.cellsOf e=cap*P.cellsOf e:=by rw[←acT];congr 1;omega
   refine⟨bb,_,_,n,ty,c1,by congr 1;omega,by omega,by omega, ?_,c5,by omega⟩
   by_cases hz:cap-p.toNat=0
   ·exact .inl hz
   ·right;rcases c4 with c4|c4
    ·omega
    ·rw[if_neg (by omega),c4];simp[gR]
  ·exact h.elim
 ·rename_i ex;rw[ex,ax]at hx;obtain⟨b,ev⟩:=hx;split at h
  ·rename_i p q e1 e2;obtain⟨⟨g0,g1⟩,h⟩:=h;subst g0;subst g1;refine bk hr (run b 0 0 0 0 ev e1 (by simpa using e2) (by omega) (by omega) (by omega)) ?_ h;rw[ax];exact⟨_,rfl⟩
  ·exact h.elim
 ·exact h.elim
omit [Laid] in
theorem lN(sz:Nat):∀(n:Nat) (cs:List AV),n*sz≤cs.length→(chunks sz n cs).flatten=cs.take (n*sz)∧∀r∈chunks sz n cs,r.length=sz
 | 0,_,_=>by simp[chunks]
 | n+1,cs,h=>by
   rw[acT,Nat.one_mul]at h;obtain⟨h1,h2⟩:=lN sz n (cs.drop sz) (by simp;omega);refine⟨?_,fun r hr=>?_⟩
   ·simp only[chunks,acQ,h1];rw[acT,Nat.one_mul,Nat.add_comm,List.take_add]
   ·simp only[chunks,IS]at hr;rcases hr with rfl|hr
    ·simp;omega
    ·exact h2 r hr
omit [Laid] in
theorem lu(sz:Nat):∀(n:Nat) (cs:List AV),(chunks sz n cs).length=n
 | 0,_=>rfl
 | n+1,cs=>by simp[chunks,lu sz n]
omit [Laid] in
theorem lP{sz:Nat}:∀{rows:List (List AV)},(∀r∈rows,r.length=sz)→rows.flatten.length=rows.length*sz
 | [],_=>by simp
 | r:: rs,h=>by
   have:=lP (rows:=rs) fun x hx=>h x (MK _ hx);simp only[acQ,DO,this,aah,acT,Nat.one_mul,h r (acN ..)];omega
omit [Laid] in
theorem da.of_flat{ι:List Ix}{S:ba}{w:World}{sz:Nat}:∀{rows:List (List AV)} {b off:Nat},(∀r∈rows,r.length=sz)→bZ ι S w rows.flatten b off→da ι S w sz rows b off
 | [],_,_,_,_=>by simp[da]
 | r:: rs,b,off,h,k=>by
   rw[da];have hr:=h r (acN ..);refine⟨hr,bZ.mk fun i c e=>?_,da.of_flat (fun x hx=>h x (MK _ hx)) ?_⟩
   ·refine k.get i c ?_;rw[acQ,iD (gE.1 e).1];exact e
   ·have:=k.drop sz;rw[acQ,List.drop_left' hr]at this;exact this
theorem acn{t e:TypeId}{n:Nat}{x:Operand}{lo hi:Option Operand}(hr:bN base ι S a w st)(ho:o.op=.slice t x lo hi none)(ht:P.underlying t=some (.array n e))(hk:fv P e=true)
 (h:yV n (P.cellsOf e) (ak st.fr x) (lo.map (ak st.fr)) (hi.map (ak st.fr)) st.h fun v=>K v st.h):cq P o base ι S a w st K:=by
 have hx:=hr.eval x;unfold yV at h;split at h
 ·rename_i id off ex;rw[ex,ax]at hx;obtain⟨b,c1,ev⟩:=hx;split at h
  ·rename_i p q aC e1 e2 eb;obtain⟨⟨hroom,g0,g1,g2,g3⟩,h⟩:=h;have hb:=s8 (P:=P) (isl:=false) (len:=n) (cap:=n) hr.eval e1 e2 g0 g1 g2;obtain⟨b',arr,fz,k1,k2,k3,k4,k5,k6,k7,k8,k9⟩:=hr.hp.live id aC eb;rw[c1]at k1;cases k1;refine bk hr (u:=.slice (some (if n=p.toNat then ⟨b,off,none⟩ else (⟨b,off,none⟩:Addr).add (p.toNat*P.cellsOf e))) (q.toNat-p.toNat) (n-p.toNat)) ?_ ?_ h
   ·simp only[execOp,ho,ev,Option.map_none];exact gp (by simp only[Instr.sliceAt,acI,run_underlying ht,acH,Instr.sureAddr,acJ,hb,eY hk])
   ·rw[ax];have hmul:p.toNat*P.cellsOf e+(n-p.toNat)*P.cellsOf e=n*P.cellsOf e:=by rw[←acT];congr 1;omega
    refine⟨b,_,_,arr.size,aC.ty,c1,by congr 1;omega,by omega,by omega, ?_,by unfold World.shape?;rw[k3],by omega⟩
    by_cases hz:n-p.toNat=0
    ·exact .inl hz
    ·right;rw[if_neg (by omega),gR]
  ·exact h.elim
 ·rename_i cs ex;rw[ex,ax]at hx;obtain⟨b,off,ev,rc⟩:=hx;split at h
  ·rename_i p q e1 e2;obtain⟨⟨hroom,g0,g1,rfl,rfl⟩,h⟩:=h;have hb:=s8 (P:=P) (isl:=false) (len:=n) (cap:=n) hr.eval e1 e2 (Int.le_refl _) (by omega) (Int.le_refl _);have hz:¬n=(0:Int).toNat:=by simp;omega
   refine bk hr (u:=.slice (some ((⟨b,off,none⟩:Addr).add ((0:Int).toNat*P.cellsOf e))) (((n:Int)).toNat-(0:Int).toNat) (n-(0:Int).toNat)) ?_ ?_ h
   ·simp only[execOp,ho,ev,Option.map_none];refine gp (by simp only[Instr.sliceAt,acI,run_underlying ht,acH,Instr.sureAddr,acJ,hb,eY hk];rw[if_neg hz])
   ·obtain⟨f1,f2⟩:=lN (P.cellsOf e) n cs hroom;have hl:=lu (P.cellsOf e) n cs;rw[ax];refine⟨some ((⟨b,off,none⟩:Addr).add ((0:Int).toNat*P.cellsOf e)),n,by rw[hl];simp,by rw[hl];exact aS _,g1,.inr ⟨b,off,by rw[gR];simp, ?_⟩⟩;refine da.of_flat f2 (bZ.mk fun i c hc=>rc.get i c ?_);rw[f1,To]at hc;split at hc
    ·exact hc
    ·cases hc
  ·exact h.elim
 ·exact h.elim
theorem aaI{t e:TypeId}{x i:Operand}(hr:bN base ι S a w st)(ho:o.op=.indexAddr t x i)(ht:P.underlying t=some (.slice e))(hk:fv P e=true)
 (h:aG (P.cellsOf e) (ak st.fr x) (ak st.fr i) fun v=>K v st.h):cq P o base ι S a w st K:=by
 have hx:=(hr.eval x).iW;have hi:=hr.eval i;have run:∀(b:Addr) (len cap:Nat) (k:IntKind) (j:Int),a.eval x=.slice (some b) len cap→a.eval i=.int k j→0≤j→j<len →
  (execOp a.eval o).run P w=.ok (.value (.pointer (some (b.add (j.toNat*P.cellsOf e))))) w:=by
  intro b len cap k j ex ei g0 g1;simp only[execOp,ho,ex,ei];refine gp ?_;simp only[Instr.indexAt,acI,asIntOf,acJ,acH,run_underlying ht];rw[if_pos ⟨g0,g1⟩];simp only[acI,eY hk,acH,acJ]
 unfold aG at h;split at h
 ·rename_i sz rows k j e1 e2;rw[e1,ax]at hx;rw[e2,dx]at hi;obtain⟨b,cap,ev,c1,c2,c3⟩:=hx;obtain⟨rfl,⟨g0,g1⟩,h⟩:=h;have hj:j.toNat<rows.length:=by omega
  rcases c3 with c3|⟨bb,off,eb,rr⟩
  ·subst c3;simp at hj
  ·subst eb;refine bk hr (run _ _ cap k j ev hi g0 g1) ?_ h;have er:rows[j.toNat]?=some (rows.getD j.toNat []):=by simp[oF,hj]
   rw[ax];exact⟨bb,off+j.toNat*P.cellsOf e,by rw[gR],(rr.get _ _ er).2⟩
 ·rename_i id off len sz k j e1 e2;rw[e1,ax]at hx;rw[e2,dx]at hi;obtain⟨bb,b,cap,n,ty,c1,ev,c2,c3,c4,c5,c6⟩:=hx;obtain⟨rfl,⟨g0,g1⟩,h⟩:=h;rcases c4 with c4|c4
  ·omega
  ·subst c4;refine bk hr (run _ _ cap k j ev hi g0 g1) ?_ h;rw[ax];exact⟨bb,c1,by rw[gR]⟩
 ·exact h.elim
theorem aaJ{t e:TypeId}{n:Nat}{x i:Operand}(hr:bN base ι S a w st)(ho:o.op=.indexAddr t x i)(ht:P.underlying t=some (.array n e))(hk:fv P e=true)
 (h:gM n (P.cellsOf e) (ak st.fr x) (ak st.fr i) fun v=>K v st.h):cq P o base ι S a w st K:=by
 have hx:=hr.eval x;have hi:=hr.eval i;have run:∀(b:Addr) (k:IntKind) (j:Int),a.eval x=.pointer (some b)→a.eval i=.int k j→0≤j→j<n →
  (execOp a.eval o).run P w=.ok (.value (.pointer (some (b.add (j.toNat*P.cellsOf e))))) w:=by
  intro b k j ex ei g0 g1;simp only[execOp,ho,ex,ei];refine gp ?_;simp only[Instr.indexAt,acI,asIntOf,acJ,acH,run_underlying ht,Instr.sureAddr];rw[if_pos ⟨g0,g1⟩];simp only[acI,eY hk,acH,acJ]
 unfold gM at h;split at h
 ·rename_i id off k j e1 e2;rw[e1,ax]at hx;rw[e2,dx]at hi;obtain⟨b,c1,ev⟩:=hx;obtain⟨⟨g0,g1⟩,h⟩:=h;refine bk hr (run _ k j ev hi g0 g1) ?_ h;rw[ax];exact⟨b,c1,by rw[gR]⟩
 ·rename_i cs k j e1 e2;rw[e1,ax]at hx;rw[e2,dx]at hi;obtain⟨b,off,ev,r⟩:=hx;obtain⟨⟨g0,g1⟩,h⟩:=h;refine bk hr (run _ k j ev hi g0 g1) ?_ h;rw[ax];exact⟨b,_,by rw[gR],r.drop _⟩
 ·exact h.elim
theorem acb{t:TypeId}{x:Operand}{i:Nat}{fs:Array Field}{f:Field}(hr:bN base ι S a w st)(ho:o.op=.fieldAddr t x i)(ht:P.underlying t=some (.struct fs))(hf:fs[i]?=some f)
 (hz:P.cellsOf f.type≠0) (hk:fv P f.type=true) (h:bh f.offset (ak st.fr x) fun v=>K v st.h):cq P o base ι S a w st K:=by
 have hx:=hr.eval x;have run:∀(b:Addr),a.eval x=.pointer (some b)→(execOp a.eval o).run P w=.ok (.value (.pointer (some (b.add f.offset)))) w:=by
  intro b ex;simp only[execOp,ho,ex];refine gp ?_;simp only[Instr.fieldAt,acI,run_underlying ht,acH,hf,Instr.sureAddr,acJ,fieldPlace,eY hk,hz,if_false]
 unfold bh at h;split at h
 ·rename_i cs e;rw[e,ax]at hx;obtain⟨b,off,ev,r⟩:=hx;refine bk hr (run _ ev) ?_ h;rw[ax];exact⟨b,_,by rw[gR],r.drop _⟩
 ·rename_i id off e;rw[e,ax]at hx;obtain⟨b,c1,ev⟩:=hx;refine bk hr (run _ ev) ?_ h;rw[ax];exact⟨b,c1,by rw[gR]⟩
 ·exact h.elim
theorem acj{x:Operand}(hr:bN base ι S a w st)(ho:o.op=.nilCheck x)(h:vc (ak st.fr x) fun v=>K v st.h):cq P o base ι S a w st K:=by
 have hx:=hr.eval x;have hx':=hx;unfold vc at h;split at h
 ·rename_i e;rw[e,ax]at hx;obtain⟨b,off,ev,r⟩:=hx;exact bk hr (u:=a.eval x) (by simp[execOp,ho,ev]) hx' h
 ·rename_i e;rw[e,ax]at hx;obtain⟨b,c1,ev⟩:=hx;exact bk hr (u:=a.eval x) (by simp[execOp,ho,ev]) hx' h
 ·rename_i e;rw[e,ax]at hx;obtain⟨vs,us,ev,_⟩:=hx;exact bk hr (u:=a.eval x) (by simp[execOp,ho,ev]) hx' h
 ·exact h.elim
omit [Laid] in
theorem qu{t:TypeId}{cs:List AV}{vs:List Value}{b off:Nat}{K:AV→Prop}(hk:fv P t=true)(r:aI ι S w cs vs)(hc:∀(i:Nat) (v:Value),vs[i]?=some v→w.cell? ⟨b,off+i,none⟩=some v)
 (h:pS (gI P t) (P.cellsOf t) cs K):∃v u,(loadVar t ⟨b,off,none⟩).run P w=.ok u w∧ax ι S w v u∧K v:=by
 unfold loadVar;simp only[acI,xB hk,acH];unfold pS at h;split at h
 ·rename_i hg;rw[hg];have hl:=r.length;have hrun:=run_loadCells_list (P:=P) (w:=w) ⟨b,off,none⟩ (vs.take (P.cellsOf t)) (by
   intro j v e;rw[gR];refine hc j v ?_;rw[To]at e;split at e<;>first|exact e|cases e)
  have hlen:(vs.take (P.cellsOf t)).length=P.cellsOf t:=by simp;omega
  rw[hlen]at hrun;refine⟨_,.agg (vs.take (P.cellsOf t)).toArray, ?_, ?_,h.2⟩
  ·simp only[if_true,acI,eY hk,acH,hrun,acJ]
  ·rw[ax];exact⟨_,rfl,r.take _⟩
 ·rename_i hg;rw[hg];simp only[aaX,if_false];split at h
  ·rename_i c rest;obtain⟨v,ev,rv⟩:=r.get 0 c rfl;have:=hc 0 v ev;exact⟨c,v,by simp only[run_load];rw[show (⟨b,off,none⟩:Addr)=⟨b,off+0,none⟩ by rfl,this],rv,h⟩
  ·exact h.elim
theorem aaM{t:TypeId}{x:Operand}(hr:bN base ι S a w st)(ho:o.op=.load t x)(hk:fv P t=true)(h:ag (gI P t) (P.cellsOf t) (ak st.fr x) st.h fun v=>K v st.h):cq P o base ι S a w st K:=by
 have hx:=hr.eval x;unfold ag at h;split at h
 ·rename_i cs e;rw[e,ax]at hx;obtain⟨b,off,ev,r⟩:=hx;obtain⟨vs,rv,hc⟩:=r.aq;obtain⟨v,u,hrun,rv,k⟩:=qu (P:=P) hk rv hc h;exact bk hr (u:=u) (by simp only[execOp,ho,ev];exact gp (by simp only[Instr.loadAt,Instr.sureAddr,acI,acJ,acH,hrun])) rv k
 ·rename_i id off e;rw[e,ax]at hx;obtain⟨b,c1,ev⟩:=hx;split at h
  ·rename_i aC eb;obtain⟨b',arr,fz,k1,k2,k3,k4,k5,k6,k7,k8,k9⟩:=hr.hp.live id aC eb;rw[c1]at k1;cases k1;have hcells:aI ι S w aC.cells (arr.toList.take aC.cells.length):=by
    refine aI.mk (by simp;omega) fun i c v e1 e2=>?_;obtain⟨v',e3,r⟩:=k6 i c e1;rw[To]at e2;split at e2
    ·simp only[Array.getElem?_toList]at e2;rw[e3]at e2;cases e2;exact r
    ·cases e2
   obtain⟨v,u,hrun,rv,k⟩:=qu (P:=P) (b:=b) (off:=off) hk (hcells.drop off) (by
    intro i v e1;rw[ld k3];rw[aat,To]at e1;split at e1
    ·simpa using e1
    ·cases e1) h
   exact bk hr (u:=u) (by simp only[execOp,ho,ev];exact gp (by simp only[Instr.loadAt,Instr.sureAddr,acI,acJ,acH,hrun])) rv k
  ·exact h.elim
 ·exact h.elim
theorem WT{t:TypeId}{x v:Operand}(hr:bN base ι S a w st)(ho:o.op=.store t x v)(hk:fv P t=true)(h:aE (P.cellsOf t) (ak st.fr x) (ak st.fr v) st.h fun h' => K (.v undef) h'):cq P o base ι S a w st K:=by
 have hx:=hr.eval x;have hv:=hr.eval v;unfold aE at h;split at h
 ·rename_i id off e;rw[e,ax]at hx;obtain⟨b,c1,ev⟩:=hx;split at h
  ·rename_i aC eb;obtain⟨⟨g1,g2,g3,g4⟩,h⟩:=h;obtain⟨vs,ecs,rv,one⟩:=wq hv g4;obtain⟨w',hrun,hE,hH⟩:=vW (P:=P) vs (bc (ak st.fr v)) w st.h hr.hp eb g1 c1 off 0 (by omega) rv one;rw[Nat.add_zero]at hH;refine Dw hr (w':=w') ?_ hE hH (by simp) h;simp only[execOp,ho,ev];refine aax ?_;have hl:=rv.length;simp only[Instr.storeAt,Instr.sureAddr,acI,acJ,acH,storeVar,eY hk,ecs];rw[if_neg (by simp;omega)];exact hrun
  ·exact h.elim
 ·exact h.elim
theorem Un{t:TypeId}{x:AV}{u:Value}(hr:bN base ι S a w st)(hrun:(execOp a.eval o).run P w=.ok (.value (.pointer (some ⟨w.heap.size,0,none⟩))) (w.alloc (.cells u.cells t)))(r:ax ι S w x u)
 (h:br t x st.h K):cq P o base ι S a w st K:=by
 obtain⟨g,h⟩:=h;obtain⟨vs,ecs,rv,one⟩:=wq r g;have hH:=hr.hp.alloc t (bc x) vs rv (more:=[]) (fz:=(0,0)) (by intro o _ h;omega);rw[aa1,←ecs]at hH;refine fN hr hrun (cc.alloc hr.hp.kG (fun b o=>hr.hp.iX b o) _ _) ?_ hH (by simp) h;rw[ax];exact⟨w.heap.size,by rw[iF (by rw[hr.hp.len];exact aS _)];simp[hr.hp.len],rfl⟩
theorem ab8{t:TypeId}{x:Operand}(hr:bN base ι S a w st)(ho:o.op=.box t x)(h:br t (ak st.fr x) st.h K):cq P o base ι S a w st K:=
 Un hr (u:=a.eval x) (by simp only[execOp,ho];exact gp (by simp[Instr.box,newVar,newRow])) (hr.eval x) h
theorem WN{t:TypeId}{z:AV}(hr:bN base ι S a w st)(ho:o.op=.alloc t)(hz:gn P t=some z)(h:br t z st.h K):cq P o base ι S a w st K:=by
 unfold gn at hz;cases hi:P.info? t with
 | none=>rw[hi]at hz;cases hz
 | some i =>
   rw[hi]at hz;simp only[Option.bind_some,aar]at hz;obtain⟨u,hu,rfl⟩:=hz;exact Un hr (u:=u) (by simp only[execOp,ho];exact gp (by simp[Instr.alloc,zeroValue,ot hi,hu,newVar,newRow])) (rL ι S w u) h
theorem aaG{f:Fn}{xs ys:Array Operand}(hr:bN base ι S a w st)(ho:o.op=.makeFunc f xs ys)(h:K (.fn f (xs.toList.map (ak st.fr)) (ys.toList.map (ak st.fr))) st.h):cq P o base ι S a w st K:=by
 refine bk hr (u:=.func f (xs.map a.eval) (ys.map a.eval)) (by simp[execOp,ho,Instr.makeFunc]) ?_ h;rw[ax];have key:∀l:List Operand,aI ι S w (l.map (ak st.fr)) (l.map a.eval):=by
  intro l;induction l with
  | nil=>simp
  | cons x l ih=>simpa using⟨hr.eval x,ih⟩
 exact⟨xs.toList.map a.eval,ys.toList.map a.eval,by congr 1<;>(apply Array.ext';simp),key _,key _⟩
theorem aI.G0(hr:bN base ι S a w st):∀l:List Operand,aI ι S w (l.map (ak st.fr)) (l.map a.eval)
 | []=>by simp
 | x:: l=>by simpa using⟨hr.eval x,aI.G0 hr l⟩
omit [Laid] in
theorem wV{c:Call}(ho:o.op=.call c)(hc:c.callee=.builtin .len){n:Nat}(hb:(Builtin.len_ c.argTypes o.type (c.args.map a.eval)).run P w=.ok (.int .i64 n) w):(execOp a.eval o).run P w=.ok (.value (.int .i64 n)) w:=by
 simp only[execOp,ho,resolve,hc,acI,acJ,acH,invoke,builtin,hb]
theorem aaL{c:Call}{t:TypeId}{x:Operand}(hr:bN base ι S a w st)(ho:o.op=.call c)(hc:c.callee=.builtin .len)(hat:c.argTypes[0]?=some t)(hax:c.args[0]?=some x)
 (ht:P.underlying t=some .string) (h:gQ (ak st.fr x) fun v=>K v st.h):cq P o base ι S a w st K:=by
 have hx:=hr.eval x;have hax':(c.args.map a.eval)[0]?=some (a.eval x):=by simp[hax]
 unfold gQ at h;split at h
 ·rename_i l e;rw[e,gN]at hx;refine bk hr (wV ho hc (n:=l.length) ?_) (by simp) (h hx.2);simp only[Builtin.len_,hat,hax',acI,run_underlying ht,acH,hx.1,acJ,goInt];rfl
 ·exact h.elim
theorem ace{c:Call}{t et:TypeId}{x:Operand}(hr:bN base ι S a w st)(ho:o.op=.call c)(hc:c.callee=.builtin .len)(hat:c.argTypes[0]?=some t)(hax:c.args[0]?=some x)
 (ht:P.underlying t=some (.slice et)) (h:bu (ak st.fr x) fun v=>K v st.h):cq P o base ι S a w st K:=by
 have hx:=(hr.eval x).iW;have hax':(c.args.map a.eval)[0]?=some (a.eval x):=by simp[hax]
 unfold bu at h;split at h
 ·rename_i sz rows e;rw[e,ax]at hx;obtain⟨b,cap,ev,c1,c2,c3⟩:=hx;refine bk hr (wV ho hc (n:=rows.length) ?_) (by simp) (h (by omega));simp only[Builtin.len_,hat,hax',acI,run_underlying ht,acH,ev,acJ,goInt]
 ·rename_i id off len sz e;rw[e,ax]at hx;obtain⟨bb,b,cap,n,ty,c1,ev,c2,c3,c4,c5,c6⟩:=hx;refine bk hr (wV ho hc (n:=len) ?_) (by simp) (h (by omega));simp only[Builtin.len_,hat,hax',acI,run_underlying ht,acH,ev,acJ,goInt]
 ·rename_i e;rw[e,ax]at hx;obtain⟨b,ev⟩:=hx;refine bk hr (wV ho hc (n:=0) ?_) (by simp) h;simp only[Builtin.len_,hat,hax',acI,run_underlying ht,acH,ev,acJ,goInt]
 ·exact h.elim
omit [Laid] in
theorem rb{c:Call}{b:Builtin}{s:Sem Value}{u:Value}{w':World}(ho:o.op=.call c)(hc:c.callee=.builtin b)
 (hb:∀cs,builtin b c.argTypes o.type cs (c.args.map a.eval)=(do pure (.value (←s)))) (hs:s.run P w=.ok u w'):(execOp a.eval o).run P w=.ok (.value u) w':=by
 simp only[execOp,ho,resolve,hc,acI,acJ,acH,invoke,hb,hs]
theorem acg{c:Call}{x y:Operand}(hr:bN base ι S a w st)(ho:o.op=.call c)(hc:c.callee=.builtin .min)(hax:c.args.toList=[x,y])
 (h:mg (ak st.fr x) (ak st.fr y) fun v=>K v st.h):cq P o base ι S a w st K:=by
 have hx:=hr.eval x;have hy:=hr.eval y;unfold mg at h;split at h
 ·rename_i k p k' q e1 e2;rw[e1,dx]at hx;rw[e2,dx]at hy;obtain⟨rfl,h⟩:=h;have hargs:c.args.map a.eval=#[.int k p,.int k q]:=by apply Array.ext';simp[hax,hx,hy]
  exact bk hr (rb ho hc (fun _=>rfl) (by rw[hargs];exact run_min_int2 w _ _ k k p q)) (by simp) h
 ·exact h.elim
theorem acf{c:Call}{x y:Operand}(hr:bN base ι S a w st)(ho:o.op=.call c)(hc:c.callee=.builtin .max)(hax:c.args.toList=[x,y])
 (h:iY (ak st.fr x) (ak st.fr y) fun v=>K v st.h):cq P o base ι S a w st K:=by
 have hx:=hr.eval x;have hy:=hr.eval y;unfold iY at h;split at h
 ·rename_i k p k' q e1 e2;rw[e1,dx]at hx;rw[e2,dx]at hy;obtain⟨rfl,h⟩:=h;have hargs:c.args.map a.eval=#[.int k p,.int k q]:=by apply Array.ext';simp[hax,hx,hy]
  exact bk hr (rb ho hc (fun _=>rfl) (by rw[hargs];exact run_max_int2 w _ _ k k p q)) (by simp) h
 ·exact h.elim
theorem aaP{c:Call}{x y z:Operand}(hr:bN base ι S a w st)(ho:o.op=.call c)(hc:c.callee=.builtin .max)(hax:c.args.toList=[x,y,z])
 (h:iY (ak st.fr x) (ak st.fr y) fun u=>iY u (ak st.fr z) fun v=>K v st.h):cq P o base ι S a w st K:=by
 have hx:=hr.eval x;have hy:=hr.eval y;have hz:=hr.eval z;unfold iY at h;split at h
 ·rename_i k p k' q e1 e2;rw[e1,dx]at hx;rw[e2,dx]at hy;obtain⟨rfl,h⟩:=h;split at h
  ·rename_i k1 p1 k2 q1 e3 e4;cases e3;rw[e4,dx]at hz;obtain⟨rfl,h⟩:=h;have hargs:c.args.map a.eval=#[.int k p,.int k q,.int k q1]:=by apply Array.ext';simp[hax,hx,hy,hz]
   refine bk hr (rb ho hc (fun _=>rfl) (by rw[hargs];exact (show (Builtin.max_ c.argTypes o.type #[.int k p,.int k q,.int k q1]).run P w=.ok (.int k (if q1 > (if q > p then q else p) then q1 else (if q > p then q else p))) w by simp[Builtin.max_,Builtin.max2]))) (by simp) h
  ·exact h.elim
 ·exact h.elim
theorem aaD{c:Call}{x:Operand}{f:FuncId}{first cap:List AV}(hr:bN base ι S a w st)(ho:o.op=.call c)(hc:c.callee=.value x)(hx:ak st.fr x=.fn (.func f) first cap)
 (hf:(P.funcs[f]?).any (fun fn=>fn.body.isSome&&fn.name != "runtime.NumGoroutine")=true) (h:dY P f (first++c.args.toList.map (ak st.fr)++cap) st.h K):cq P o base ι S a w st K:=by
 have hv:=hr.eval x;rw[hx,ax]at hv;obtain⟨vs,us,ev,r1,r2⟩:=hv;obtain⟨fn,hfn,hb⟩:∃fn,P.funcs[f]?=some fn∧(fn.body.isSome&&fn.name != "runtime.NumGoroutine")=true:=by
  cases hq:P.funcs[f]? with
  | none=>rw[hq]at hf;cases hf
  | some fn=>rw[hq]at hf;exact⟨fn,rfl,hf⟩
 simp only[On,bne_iff_ne,ne_eq]at hb;have hargs:aI ι S w (first++c.args.toList.map (ak st.fr)++cap) (vs++c.args.toList.map a.eval++us):=(r1.append (aI.G0 hr _)).append r2;have hrun:(execOp a.eval o).run P w=.ok (.enter f (vs++c.args.toList.map a.eval++us).toArray) w:=by
  have e2:(vs.toArray++c.args.map a.eval)++us.toArray=(vs++c.args.toList.map a.eval++us).toArray:=by apply Array.ext';simp
  have hne:(fn.name == "runtime.NumGoroutine")=false:=by simpa using hb.2
  have hbn:fn.body.isNone=false:=by cases hbb:fn.body<;>simp_all
  simp only[execOp,ho,resolve,hc,acI,ev,Deferred.ofValue,acJ,acH,invoke,e2,callFunc,run_program,hfn,hne,hbn,aaX,if_false]
 intro Q;unfold Oper.wp;rw[hrun,Oper.upon_enter];refine (h base ι S w _ hargs hr.hp).mono ?_;rintro e w' ⟨v,ι',S',r,h',rfl,hE,rv,hH,hl,k⟩;refine⟨ι',S',r,h', ?_, ?_,hl,k⟩
 ·rw[hr.hp.len];exact hE
 ·have:bN base ι' S' a w' ⟨st.n,st.fr,h'⟩:=⟨hr.df,hr.sz,eZ.gW hE (by rw[hr.hp.len];exact aS _) hr.fr,hH⟩;exact this.put o.dst rv
end
/-! ### Built values -/
omit [Laid] in
theorem O4:∀{cs:List AV} {us:List Value} (cells:List AV) (vs:List Value) (o:Nat),aI ι S w cells vs→aI ι S w cs us→o+cs.length≤cells.length →
 ∃vs',(us.toArray.zipIdx.foldl (fun cs (c,j)=>cs.setIfInBounds (o+j) c) vs.toArray)=vs'.toArray∧aI ι S w (dw cells o cs) vs':=by
 intro cs;have key:∀(cs:List AV) (us:List Value) (cells:List AV) (vs:List Value) (o k:Nat),aI ι S w cells vs→aI ι S w cs us→o+k+cs.length≤cells.length →
  ∃vs',((us.zipIdx k).foldl (fun (cs:Array Value) (c:Value×Nat)=>cs.setIfInBounds (o+c.2) c.1) vs.toArray)=vs'.toArray∧aI ι S w (dw cells (o+k) cs) vs':=by
  intro cs;induction cs with
  | nil=>intro us cells vs o k h1 h2 _;simp at h2;subst h2;exact⟨vs,rfl,h1⟩
  | cons c cs ih =>
    intro us cells vs o k h1 h2 hl;cases us with
    | nil=>simp at h2
    | cons u us =>
      simp only[dc]at h2;simp only[aah]at hl;simp only[List.zipIdx_cons,List.foldl_cons];have e:vs.toArray.setIfInBounds (o+k) u=(vs.set (o+k) u).toArray:=by simp
      rw[e];obtain⟨vs',e1,e2⟩:=ih us (cells.set (o+k) c) (vs.set (o+k) u) o (k+1) (h1.set _ _ _ h2.1) h2.2 (by simp;omega);exact⟨vs',e1,e2⟩
 intro us cells vs o h1 h2 hl;obtain⟨vs',e1,e2⟩:=key cs us cells vs o 0 h1 h2 hl;refine⟨vs', ?_,e2⟩;rw[←e1];simp[←Array.foldl_toList]
omit [Laid] in
theorem tJ{ι:List Ix}{S:ba}{w:World}(place:Nat→Option (Nat×Nat)):∀(parts:List (Nat×AV×Value)) (cells:List AV) (vs:List Value) (r:List AV),aI ι S w cells vs →
 (∀p∈parts,ax ι S w p.2.1 p.2.2∧(place p.1).isSome) →
 iA cells (parts.map fun p=>(((place p.1).getD (0,0)).1,((place p.1).getD (0,0)).2,p.2.1))=some r →
 ∃vs',Instr.fill place vs.toArray (parts.map fun p=>(p.1,p.2.2))=some vs'.toArray∧aI ι S w r vs'
 | [],cells,vs,r,h1,_,h=>by
   simp only[List.map_nil,iA,ON]at h;subst h;exact⟨vs,rfl,h1⟩
 | (i,x,v):: parts,cells,vs,r,h1,hp,h=>by
  obtain⟨hx,hi⟩:=hp (i,x,v) (by simp);obtain⟨⟨off,size⟩,hpl⟩:=Option.isSome_iff_exists.1 hi;simp only[IF,iA,hpl,Option.getD_some]at h;split at h
  ·rename_i hc;obtain⟨c1,c2,c3⟩:=hc;obtain⟨us,e1,r1,one⟩:=wq hx c3;dsimp only at c1 c3 e1 r1;obtain⟨vs',e2,r2⟩:=O4 cells vs off h1 r1 (by omega);obtain⟨vs'',e3,r3⟩:=tJ place parts _ vs' r r2 (fun p q=>hp p (by simp[q])) h;refine⟨vs'', ?_,r3⟩;simp only[IF,Instr.fill,hpl,e1];have l1:=r1.length;have l2:=h1.length;have l3:us.toArray.size=us.length:=by simp
   rw[if_neg (by simp;omega),e2];exact e3
  ·cases h
omit [Laid] in
theorem DL(fs:List Field)(h:fs.all (fun f=>fv P f.type)=true):
 (fs.mapM (fun f=>(do pure (f.offset,←sizeOf f.type):Sem (Nat×Nat)))).run P w=.ok (fs.map fun f=>(f.offset,P.cellsOf f.type)) w:=by
 induction fs with
 | nil=>rfl
 | cons f fs ih =>
   simp only[acG,On]at h;simp only[List.mapM_cons,acI,eY h.1,acH,acJ,ih h.2,IF]
omit [Laid] in
theorem Oz(x:Value):bc (qg x)=[qg x]:=by
 unfold qg;split
 ·split<;>rfl
 ·rfl
omit [Laid] in
theorem vt(z:Value):∃vs:List Value,z.cells=vs.toArray∧∀ι S w,aI ι S w (bc (kC z)) vs:=by
 have one:∀x:Value,∀ι S w,aI ι S w (bc (qg x)) [x]:=fun x ι S w=>by
  rw[Oz];simpa using wo ι S w x
 cases z
 case agg cs =>
  refine⟨cs.toList,by simp[Value.cells],fun ι S w=>?_⟩;have:=rL ι S w (.agg cs);simp only[kC]at this ⊢;rw[ax]at this;obtain⟨vs,e,r⟩:=this;simp only[Value.agg.injEq]at e;subst e;simpa[bc]using r
 all_goals exact⟨[_],rfl,fun ι S w=>by simp only[kC];exact one _ ι S w⟩
omit [Laid] in
theorem D3{z:AV}(h:gn P t=some z):∃u,(∀w,(zeroValue t).run P w=.ok u w)∧z=kC u:=by
 unfold gn at h;cases hi:P.info? t with
 | none=>rw[hi]at h;cases h
 | some i =>
   rw[hi]at h;simp only[Option.bind_some,aar]at h;obtain⟨u,hu,rfl⟩:=h;exact⟨u,fun w=>by simp[zeroValue,ot hi,hu],rfl⟩
section
variable {P:Program} {o:Oper} {base:Nat} {ι:List Ix} {S:ba} {a:Act} {w:World} {st:St} {K:AV→aa→Prop}
theorem parts_eq(hr:bN base ι S a w st)(place:Nat→Option (Nat×Nat))(parts:Array (Nat×Operand)):
 (∀p∈(parts.toList.map fun p=>(p.1,ak st.fr p.2,a.eval p.2)),ax ι S w p.2.1 p.2.2)∧(parts.map fun (i,x)=>(i,a.eval x)).toList=(parts.toList.map fun p=>(p.1,ak st.fr p.2,a.eval p.2)).map fun p=>(p.1,p.2.2):=by
 refine⟨fun p hp=>?_,by simp⟩;simp only[aas]at hp;obtain⟨q,_,rfl⟩:=hp;exact hr.eval q.2
theorem SW{t:TypeId}{parts:Array (Nat×Operand)}{fs:Array Field}{z:AV}(hr:bN base ι S a w st)(ho:o.op=.build t parts)(ht:P.underlying t=some (.struct fs))(hz:gn P t=some z)
 (hk:fs.toList.all (fun f=>fv P f.type)=true) (hp:parts.toList.all (fun p=>(fs[p.1]?).isSome)=true)
 (h:aY z (parts.toList.map fun p=>(((fs[p.1]?).map (·.offset)).getD 0,((fs[p.1]?).map (fun f=>P.cellsOf f.type)).getD 0,ak st.fr p.2)) fun v=>K v st.h):cq P o base ι S a w st K:=by
 obtain⟨u,hu,rfl⟩:=D3 hz;obtain⟨vs,ez,rz⟩:=vt u;unfold aY at h;split at h
 ·rename_i cs e
  let places:Array (Nat×Nat):=(fs.toList.map fun f=>(f.offset,P.cellsOf f.type)).toArray
  obtain⟨q1,q2⟩:=parts_eq hr (places[·]?) parts;have hpl:∀i:Nat,places[i]?=(fs[i]?).map fun f=>(f.offset,P.cellsOf f.type):=fun i=>by simp[places]
  obtain⟨vs',e1,r1⟩:=tJ (ι:=ι) (S:=S) (w:=w) (places[·]?) (parts.toList.map fun p=>(p.1,ak st.fr p.2,a.eval p.2)) (bc (kC u)) vs cs (rz ι S w) (fun p hpm=>⟨q1 p hpm,by
   simp only[aas]at hpm;obtain⟨q,hq,rfl⟩:=hpm;have:=By.1 hp q hq;rw[hpl];simpa using this⟩) (by
   rw[←e,List.map_map]
   congr 1
   refine List.map_congr_left fun p hpm=>?_;have:=By.1 hp p hpm;simp only[Function.comp,hpl];obtain⟨f,hf⟩:=Option.isSome_iff_exists.1 this;simp[hf])
  refine bk hr (u:=.agg vs'.toArray) ?_ (by rw[ax];exact⟨vs',rfl,r1⟩) h;simp only[execOp,ho];refine gp ?_;have hm:(fs.mapM (fun f=>(do pure (f.offset,←sizeOf f.type):Sem (Nat×Nat)))).run P w=.ok places w:=by
   rw[←Array.toArray_toList (xs:=fs)];have:=DL (P:=P) (w:=w) fs.toList hk;rw[List.mapM_toArray];simp only[Sem.run_map,this,acH,places]
  simp only[Instr.build,acI,hu,acH,run_underlying ht,hm,ez,q2,e1,acJ]
 ·exact h.elim
theorem SV{t e:TypeId}{n:Nat}{parts:Array (Nat×Operand)}{z:AV}(hr:bN base ι S a w st)(ho:o.op=.build t parts)(ht:P.underlying t=some (.array n e))(hz:gn P t=some z)
 (hk:fv P e=true) (h:aY z (parts.toList.map fun p=>(p.1*P.cellsOf e,P.cellsOf e,ak st.fr p.2)) fun v=>K v st.h):cq P o base ι S a w st K:=by
 obtain⟨u,hu,rfl⟩:=D3 hz;obtain⟨vs,ez,rz⟩:=vt u;unfold aY at h;split at h
 ·rename_i cs e';obtain⟨q1,q2⟩:=parts_eq hr (fun i=>some (i*P.cellsOf e,P.cellsOf e)) parts;obtain⟨vs',e1,r1⟩:=tJ (ι:=ι) (S:=S) (w:=w) (fun i=>some (i*P.cellsOf e,P.cellsOf e)) (parts.toList.map fun p=>(p.1,ak st.fr p.2,a.eval p.2)) (bc (kC u)) vs cs (rz ι S w) (fun p hpm=>⟨q1 p hpm,rfl⟩) (by
   rw[←e',List.map_map];rfl)
  refine bk hr (u:=.agg vs'.toArray) ?_ (by rw[ax];exact⟨vs',rfl,r1⟩) h;simp only[execOp,ho];refine gp ?_;simp only[Instr.build,acI,hu,acH,run_underlying ht,eY hk,ez,q2,e1,acJ]
 ·exact h.elim
end
/-! ### Structs and arrays compared -/
omit [Laid] in
theorem wU:∀{ks ks':List Nat} {xs ys:List AV} {r:Bool},jZ (ks++ks') xs ys=some r →
 ∃p q,jZ ks (xs.take ks.length) (ys.take ks.length)=some p∧jZ ks' (xs.drop ks.length) (ys.drop ks.length)=some q∧r=(p&&q)
 | [],ks',xs,ys,r,h=>⟨true,r,rfl,by simpa using h,by simp⟩
 | k:: ks,ks',[],ys,r,h=>by simp[jZ]at h
 | k:: ks,ks',x:: xs,[],r,h=>by simp[jZ]at h
 | k:: ks,ks',x:: xs,y:: ys,r,h=>by
   simp only[acU,jZ]at h;split at h
   ·rename_i p q e1 e2;obtain⟨p',q',e3,e4,e5⟩:=wU e2;simp only[ON]at h;exact⟨p&&p',q',by simp[jZ,e1,e3],by simpa using e4,by rw[←h,e5,Bool.and_assoc]⟩
   ·cases h
omit [Laid] in
theorem oG:∀{ks:List Nat} {xs ys:List AV} {r:Bool},jZ ks xs ys=some r→xs.length=ks.length∧ys.length=ks.length
 | [],[],[],_,_=>⟨rfl,rfl⟩
 | [],x:: xs,_,_,h=>by simp[jZ]at h
 | [],[],y:: ys,_,h=>by simp[jZ]at h
 | k:: ks,[],_,_,h=>by simp[jZ]at h
 | k:: ks,x:: xs,[],_,h=>by simp[jZ]at h
 | k:: ks,x:: xs,y:: ys,r,h=>by
   simp only[jZ]at h;split at h
   ·rename_i e1 e2;have:=oG e2;simp[this.1,this.2]
   ·cases h
def jA(P:Program)(t:TypeId)(vs:List Value):Value:=if gI P t then .agg vs.toArray else vs.headD undef
omit [Laid] in
theorem rW{vs:List Value}{off:Nat}(hk:fv P t=true)(hl:off+P.cellsOf t≤vs.length)(h1:gI P t=false→P.cellsOf t=1):
 (part t vs.toArray off).run P w=.ok (jA P t ((vs.drop off).take (P.cellsOf t))) w:=by
 unfold part jA;simp only[acI,xB hk,acH];cases hg:gI P t with
 | true =>
   simp only[if_true,acI,eY hk,acH,acJ]
   congr 2
   apply Array.ext';simp[List.extract_eq_take_drop,Nat.add_sub_cancel_left]
 | false =>
   have h1:=h1 hg;simp only[aaX,if_false];have hlt:off<vs.length:=by omega
   have e2:vs.toArray[off]?=some vs[off]:=by simp[hlt]
   have e:(vs.drop off).take 1=[vs[off]]:=by rw[acO hlt];rfl
   simp only[e2,h1,e];rfl
omit [Laid] in
theorem oH{d:Nat}(h:nG P d t=some ks):fv P t=true∧(gI P t=false→ks.length=1):=by
 cases d with
 | zero=>simp[nG]at h
 | succ d =>
   unfold nG at h;split at h
   ·rename_i hk;refine⟨hk,fun hg=>?_⟩;unfold gI at hg;split at h<;>rename_i e<;>(try rw[e]at hg)<;>(try simp only[tT,Bool.true_eq_false]at hg)<;>(try (simp only[ON]at h;subst h;rfl))<;>cases h
   ·cases h
omit [Laid] in
theorem FQ{P:Program}{ι:List Ix}{S:ba}{w:World}{g:TypeId→Option (List Nat)}{D:Nat}{xs ys:List AV}{vs us:List Value}(hx:aI ι S w xs vs)(hy:aI ι S w ys us)
 (ih:∀t ks,g t=some ks→fv P t=true∧(gI P t=false→ks.length=1)∧∀xs ys vs us r,aI ι S w xs vs→aI ι S w ys us→jZ ks xs ys=some r→(Op.equalIn D t (jA P t vs) (jA P t us)).run P w=.ok r w) :
 ∀(fs:List Field) (o:Nat) (ks:List Nat) (r:Bool),vI g P o fs=some ks→jZ ks (xs.drop o) (ys.drop o)=some r→(Op.eqFields D vs.toArray us.toArray fs).run P w=.ok r w
 | [],o,ks,r,h,k=>by
   simp only[vI,ON]at h;subst h;have:r=true:=by
    cases hxs:xs.drop o<;>cases hys:ys.drop o<;>rw[hxs,hys]at k<;>simp[jZ]at k;first|exact k|exact k.symm
   subst this;rfl
 | f:: fs,o,ks,r,h,k=>by
   simp only[vI]at h;split at h
   ·rename_i hc;obtain⟨ho,hn⟩:=hc;cases hg:g f.type with
    | none=>rw[hg]at h;cases h
    | some k1 =>
      rw[hg]at h;simp only[Option.bind_some]at h;split at h
      ·rename_i hz;cases hf:vI g P (o+k1.length) fs with
       | none=>rw[hf]at h;cases h
       | some k2 =>
         rw[hf]at h;simp only[acV,ON]at h;subst h;obtain⟨p,q,e1,e2,e3⟩:=wU k;obtain⟨t1,t2,t3⟩:=ih f.type k1 hg;have l1:=(oG e1).1;have l2:=(oG e1).2;have lx:=hx.length;have ly:=hy.length;simp only[aaW,List.length_drop]at l1 l2;obtain⟨hz,hz0⟩:=hz;have hpx:o+P.cellsOf f.type≤vs.length:=by omega
         have hpy:o+P.cellsOf f.type≤us.length:=by omega
         have h1:gI P f.type=false→P.cellsOf f.type=1:=fun q=>by rw[hz];exact t2 q
         have hq:=t3 _ _ _ _ p ((hx.drop o).take k1.length) ((hy.drop o).take k1.length) e1;have rec':=FQ hx hy ih fs (o+k1.length) k2 q hf (by simpa[List.drop_drop]using e2);simp only[Op.eqFields,ho];rw[if_pos hn];simp only[acI,rW (P:=P) (w:=w) t1 hpx h1,rW (P:=P) (w:=w) t1 hpy h1,acH,hz,hq,Sem.run_ite];cases p with
         | true=>simp only[Bool.not_true,aaX,if_false,rec'];rw[e3];rfl
         | false=>simp only[Bool.not_false,if_true,acJ];rw[e3];rfl
      ·cases h
   ·cases h
omit [Laid] in
theorem VC:∀{n:Nat} {xs ys:List AV} {r:Bool},jZ (E7 (n+1) ks) xs ys=some r →
 ∃p q,jZ ks (xs.take ks.length) (ys.take ks.length)=some p∧jZ (E7 n ks) (xs.drop ks.length) (ys.drop ks.length)=some q∧r=(p&&q):=fun h=>wU h
omit [Laid] in
theorem H5{P:Program}{ι:List Ix}{S:ba}{w:World}{D:Nat}{e:TypeId}{ks:List Nat}{xs ys:List AV}{vs us:List Value}(hx:aI ι S w xs vs)(hy:aI ι S w ys us)
 (hk:fv P e=true) (h1:gI P e=false→ks.length=1) (hz:P.cellsOf e=ks.length) (hz0:0<ks.length)
 (ih:∀xs ys vs us r,aI ι S w xs vs→aI ι S w ys us→jZ ks xs ys=some r→(Op.equalIn D e (jA P e vs) (jA P e us)).run P w=.ok r w) :
 ∀(n s:Nat) (r:Bool),jZ (E7 n ks) (xs.drop (s*ks.length)) (ys.drop (s*ks.length))=some r →
  (forIn (m:=Sem) (List.range' s n) ((none,()):Option Bool×Unit) (fun i _=>do
   let a ←part e vs.toArray (i*ks.length)
   let b ←part e us.toArray (i*ks.length)
   let r ←Op.equalIn D e a b
   if (!r)=true then pure (.done (some false,())) else pure (.yield (none,())))).run P w=.ok (if r then (none,()) else (some false,())) w
 | 0,s,r,h=>by
   have:r=true:=by
    cases hxs:xs.drop (s*ks.length)<;>cases hys:ys.drop (s*ks.length)<;>rw[hxs,hys]at h<;>simp[jZ,E7]at h;first|exact h|exact h.symm
   subst this;rfl
 | n+1,s,r,h=>by
   obtain⟨p,q,e1,e2,e3⟩:=VC h;have l1:=(oG e1).1;have l2:=(oG e1).2;have lx:=hx.length;have ly:=hy.length;simp only[aaW,List.length_drop]at l1 l2;have hpx:s*ks.length+P.cellsOf e≤vs.length:=by omega
   have hpy:s*ks.length+P.cellsOf e≤us.length:=by omega
   have h1':gI P e=false→P.cellsOf e=1:=fun q=>by rw[hz];exact h1 q
   have hq:=ih _ _ _ _ p ((hx.drop (s*ks.length)).take ks.length) ((hy.drop (s*ks.length)).take ks.length) e1;have rec':=H5 hx hy hk h1 hz hz0 ih n (s+1) q (by rw[acT,Nat.one_mul];simpa[List.drop_drop]using e2);rw[List.range'_succ];simp only[List.forIn_cons,acI,rW (P:=P) (w:=w) hk hpx h1',rW (P:=P) (w:=w) hk hpy h1',acH,hz,hq,Sem.run_ite];cases p with
   | true=>simp only[Bool.not_true,aaX,if_false,acJ,acH,rec'];rw[e3];rfl
   | false=>simp only[Bool.not_false,if_true,acJ,acH];rw[e3];rfl
omit [Laid] in
theorem OW{P:Program}{ι:List Ix}{S:ba}{w:World}:∀(d:Nat) (t:TypeId) (ks:List Nat),nG P d t=some ks→∀(D:Nat),d≤D→∀(xs ys:List AV) (vs us:List Value) (r:Bool),aI ι S w xs vs→aI ι S w ys us →
 jZ ks xs ys=some r→(Op.equalIn D t (jA P t vs) (jA P t us)).run P w=.ok r w
 | 0,t,ks,h,_,_,_,_,_,_,_,_,_,_=>by simp[nG]at h
 | d+1,t,ks,h,0,hD,_,_,_,_,_,_,_,_=>by omega
 | d+1,t,ks,h,D+1,hD,xs,ys,vs,us,r,hx,hy,hr=>by
   have ih:=fun t ks h=>OW (P:=P) (ι:=ι) (S:=S) (w:=w) d t ks h D (by omega);obtain⟨hok,hone⟩:=oH h;unfold nG at h;rw[if_pos hok]at h;have scalar:∀k:Nat,ks=[k]→gI P t=false→∃x y u v,KB k x y=some r∧ax ι S w x u∧ax ι S w y v∧jA P t vs=u∧jA P t us=v:=by
    intro k hks hg;subst hks;have l:=oG hr
    match xs,ys,vs,us,l,hx,hy,hr with
    | [x],[y],u:: vs',v:: us',_,hx,hy,hr =>
      simp only[dc]at hx hy;simp only[jZ]at hr;split at hr
      ·rename_i a b e1 e2;simp only[ON]at hr e2;subst e2;simp only[Bool.and_true]at hr;subst hr;exact⟨x,y,u,v,e1,hx.1,hy.1,by simp[jA,hg],by simp[jA,hg]⟩
      ·cases hr
    | [x],[y],[],_,_,hx,_,_=>simp at hx
    | [x],[y],_:: _,[],_,_,hy,_=>simp at hy
   split at h
   ·rename_i e;obtain⟨x,y,u,v,e1,rx,ry,rfl,rfl⟩:=scalar 0 (by simpa using h.symm) (by simp[gI,e,tT]);unfold KB at e1;split at e1<;>first|(exfalso;omega)|skip
    ·simp only[dx]at rx ry;simp only[ON]at e1;rw[rx,ry,←e1];exact run_equalIn_bool' w D t _ _ e
    ·cases e1
   ·rename_i k e;obtain⟨x,y,u,v,e1,rx,ry,rfl,rfl⟩:=scalar 1 (by simpa using h.symm) (by simp[gI,e,tT]);unfold KB at e1;split at e1<;>first|(exfalso;omega)|skip
    ·simp only[dx]at rx ry;split at e1
     ·rename_i hk;subst hk;simp only[ON]at e1;rw[rx,ry,run_equalIn_int w D t _ k _ _ e,←e1];rfl
     ·cases e1
    ·cases e1
   ·rename_i e;obtain⟨x,y,u,v,e1,rx,ry,rfl,rfl⟩:=scalar 2 (by simpa using h.symm) (by simp[gI,e,tT]);unfold KB at e1;split at e1<;>first|(exfalso;omega)|skip
    ·rename_i _ _ p q _;simp only[gN]at rx ry;simp only[ON]at e1;rw[rx.1,ry.1,run_equalIn_string w D t _ _ e,←e1];simp only[ByteArray.toList_mk]
     congr 1
     by_cases hpq:p=q<;>simp[hpq]
    ·cases e1
   ·rename_i fs e;split at h
    ·cases h
    ·rename_i hsi;have hg:gI P t=true:=by simp[gI,e,tT]
     have hf:P.fieldsOf t=fs:=by simp[Program.fieldsOf,e]
     simp only[jA,hg,if_true];rw[run_equalIn_struct w D t _ _ (by rw[hf];exact e) (by simpa using hsi),hf];exact FQ hx hy (fun t ks h=>⟨(oH h).1,(oH h).2,fun xs ys vs us r a b c=>ih t ks h xs ys vs us r a b c⟩) fs.toList 0 ks r h (by simpa using hr)
   ·rename_i n el e;cases hf:nG P d el with
    | none=>rw[hf]at h;cases h
    | some k1 =>
      rw[hf]at h;simp only[Option.bind_some]at h;split at h
      ·rename_i hz;simp only[ON]at h;subst h;have hg:gI P t=true:=by simp[gI,e,tT]
       simp only[jA,hg,if_true];have key:=H5 hx hy (oH hf).1 (oH hf).2 hz.1 hz.2 (fun xs ys vs us r a b c=>ih el k1 hf xs ys vs us r a b c) n 0 r (by simpa using hr);simp only[Op.equalIn,acI,run_underlying e,acH,eY (oH hf).1,hz.1];have hfor:∀(f:Nat→Option Bool×Unit→Sem (ForInStep (Option Bool×Unit))),forIn (m:=Sem) [:n] ((none,()):Option Bool×Unit) f=forIn (List.range' 0 n) ((none,()):Option Bool×Unit) f:=fun f=>by
        simp[Std.Legacy.Range.forIn_eq_forIn_range',Std.Legacy.Range.size]
       rw[hfor,key];cases r<;>rfl
      ·cases h
   ·cases h
end
end Go.Aw
end
