/-
 Abstract values for a Go walk: what a value of the model stands for,in a memory of which only the cells that are never written again are told;with the rules by which the model's own wp follows from a condition on abstract values alone.
 No conditions.
-/
import Derived.WalkKit
import Derived.Deep.Quiet
import Derived.Stop.Asserts
import Derived.WalkSpells
import Derived.WalkLawsBesides
import Derived.Laws.StructEq
set_option linter.unusedVariables false
set_option linter.unusedSimpArgs false
set_option maxRecDepth 1000000
set_option maxHeartbeats 16000000
noncomputable section
namespace Go.Aw
section
abbrev bY:=@Nat.le_refl
abbrev dO:=@List.getElem?_eq_getElem
abbrev eQ:=@List.getElem?_eq_some_iff
abbrev gE:=@List.mem_of_getElem?
abbrev gO:=@List.getElem?_append_left
abbrev gT:=@List.getElem?_append_right
abbrev iD:=@List.getElem?_set_self
abbrev iF:=@List.getElem?_set_ne
abbrev iN:=@List.getElem?_map
abbrev iS:=@List.getElem?_eq_none
abbrev lE:=@Nat.eq_of_beq_eq_true
abbrev lT:=@Nat.le_of_ble_eq_true
abbrev nE:=@List.getD_eq_getElem?_getD
abbrev nO:=@decide_eq_false
abbrev oF:=@decide_eq_true
abbrev oN:=@of_decide_eq_true
abbrev tO:=@of_decide_eq_false
abbrev uP:=@Nat.lt_or_ge
abbrev At:=@List.all_eq_true
abbrev AS:=@Array.getElem?_eq_some_iff
abbrev AT:=@List.length_append
abbrev By:=@List.take_add_one
abbrev BY:=@List.take_length
abbrev DO:=@Option.some.inj
abbrev GO:=@List.map_cons
abbrev Is:=@List.mem_append
abbrev ID:=@List.mem_cons
abbrev IF:=@List.set_append_right
abbrev IN:=@List.set_append_left
abbrev Lt:=@List.mem_cons_of_mem
abbrev Mk:=@Int.toNat_natCast
abbrev MK:=@List.take_of_length_le
abbrev NO:=@Bool.and_eq_true
abbrev Of:=@decide_eq_true_eq
abbrev On:=@Option.some.injEq
abbrev ON:=@List.getElem?_take
abbrev To:=@List.append_assoc
abbrev TO:=@List.mem_singleton
abbrev Up:=@Nat.lt_of_lt_of_le
abbrev UP:=@Array.getElem?_eq_getElem
abbrev aaB:=@List.length_cons
abbrev aaC:=@List.length_map
abbrev aaE:=@Option.map_eq_some_iff
abbrev aaF:=@List.mem_map
abbrev aaG:=@List.getElem?_drop
abbrev aaI:=@List.length_take
abbrev aaJ:=@Bool.false_eq_true
abbrev aaK:=@Prod.mk.injEq
abbrev aaL:=@List.append_nil
abbrev aaM:=@List.set_set
abbrev aaN:=@List.length_set
abbrev aaO:=@Nat.zero_le
abbrev aaP:=@Nat.not_lt_zero
abbrev aaQ:=@Nat.zero_add
abbrev aaS:=@List.foldl_append
abbrev aaT:=@Nat.le_trans
abbrev aaW:=@List.getElem_mem
abbrev aaY:=@List.mem_filter
abbrev aa0:=@List.mem_filterMap
abbrev aa2:=@List.all_cons
abbrev aa3:=@Result.andThen_ok
abbrev aa4:=@Sem.run_bind
abbrev aa5:=@Sem.run_pure
abbrev aa7:=@Bool.or_eq_true
abbrev aa8:=@Bool.not_eq_true'
abbrev aa9:=@List.mem_cons_self
abbrev aba:=@List.drop_eq_getElem_cons
abbrev abc:=@List.flatten_cons
abbrev abd:=@List.length_nil
abbrev abe:=@List.take_append_of_le_length
abbrev abf:=@Nat.add_mul
abbrev abg:=@List.cons_append
abbrev abh:=@Option.map_some
abbrev abi:=@Bool.or_eq_false_iff
abbrev abj:=@Array.getElem?_eq_none
open Go Go.RowKit
inductive AV where
 | v (x:Value)
 | str (l:List UInt8)
 | any
 | agg (cs:List AV)
 | aA (cs:List AV)
 | emp
 | sl (sz:Nat) (rows:List (List AV))
 | sb (id sz:Nat) (rows:List (List AV))
 | ip (cs:List AV)
 | own (id off len sz:Nat)
 | op (id off:Nat)
 | fn (f:Fn) (first cap:List AV)
 | gV (t:TypeId) (x:AV)
 | mp (id:Nat)
 deriving Inhabited
structure jH where
 ty:TypeId
 cells:List AV
 wr:Bool
inductive aL where
 | ah (b:jH)
 | tok (e sz n:Nat)
 | dead
 | mp (c:Nat) (es:List (Nat×AV×AV))
 | it (m s:Nat) (sn:List Nat) (l:Nat)
abbrev aa:=List aL
inductive Ix where
 | ah (b:Nat)
 | tok (n:Nat) (v:Value)
abbrev i_(n:Int):AV:=.v (.int .i64 n)
abbrev b_(b:Bool):AV:=.v (.bool b)
abbrev ba:=Nat→Nat→Prop
section
variable (ι:List Ix) (S:ba) (w:World)
mutual
def au:AV→Value→Prop
 | .v x,y=>y=x
 | .str l,y=>y=.string ⟨l.toArray⟩∧l.length≤maxLen
 | .any,_=>True
 | .agg cs,y=>∃vs:List Value,y=.agg vs.toArray∧aE cs vs
 | .aA cs,y=>∃vs:List Value,y=.tuple vs.toArray∧aE cs vs
 | .emp,y=>∃a,y=.slice a 0 0
 | .sl sz rows,y=>∃a cap,y=.slice a rows.length cap∧rows.length≤cap∧cap≤maxLen∧(rows=[]∨∃b off,a=some ⟨b,off,none⟩∧cr sz rows b off)
 | .sb id sz rows,y=>(∃a cap,y=.slice a rows.length cap∧rows.length≤cap∧cap≤maxLen∧(rows=[]∨∃b off,a=some ⟨b,off,none⟩∧cr sz rows b off))∧∃n v,ι[id]?=some (.tok n v)∧rows.length≤n∧(n=rows.length→y=v)
 | .ip cs,y=>∃b off,y=.pointer (some ⟨b,off,none⟩)∧bD cs b off
 | .own id off len sz,y=>∃b a cap n ty,ι[id]?=some (.ah b)∧y=.slice a len cap∧len≤cap∧cap≤maxLen∧(cap=0∨a=some ⟨b,off,none⟩)∧w.shape? b=some (ty,n)∧off+cap*sz≤n
 | .op id off,y=>∃b,ι[id]?=some (.ah b)∧y=.pointer (some ⟨b,off,none⟩)
 | .fn f xs ys,y=>∃vs us:List Value,y=.func f vs.toArray us.toArray∧aE xs vs∧aE ys us
 | .gV t x,y=>∃v,y=.iface t v∧au x v
 | .mp id,y=>∃b,ι[id]?=some (.ah b)∧y=.map (some b)
def aE:List AV→List Value→Prop
 | [],vs=>vs=[]
 | a:: as,vs=>∃u us,vs=u:: us∧au a u∧aE as us
def bD:List AV→Nat→Nat→Prop
 | [],_,_=>True
 | c:: cs,b,off=>(∃u,w.cell? ⟨b,off,none⟩=some u∧S b off∧au c u)∧bD cs b (off+1)
def cr(sz:Nat):List (List AV)→Nat→Nat→Prop
 | [],_,_=>True
 | r:: rs,b,off=>r.length=sz∧bD r b off∧cr sz rs b (off+sz)
end
end
section
variable {ι:List Ix} {S:ba} {w:World}
@[simp] theorem cz(x y:Value):au ι S w (.v x) y↔y=x:=by simp[au]
@[simp] theorem aaa(y:Value):au ι S w .any y↔True:=by simp[au]
@[simp] theorem eA(l:List UInt8)(y:Value):au ι S w (.str l) y↔y=.string ⟨l.toArray⟩∧l.length≤maxLen:=by simp[au]
@[simp] theorem dp(vs:List Value):aE ι S w [] vs↔vs=[]:=by simp[aE]
@[simp] theorem bO(a:AV)(as:List AV)(v:Value)(vs:List Value):aE ι S w (a:: as) (v:: vs)↔au ι S w a v∧aE ι S w as vs:=by
 rw[aE];constructor
 ·rintro⟨u,us,e,h1,h2⟩;simp only[List.cons.injEq]at e;obtain⟨rfl,rfl⟩:=e;exact⟨h1,h2⟩
 ·rintro⟨h1,h2⟩;exact⟨_,_,rfl,h1,h2⟩
@[simp] theorem RR(a:AV)(as:List AV):¬aE ι S w (a:: as) []:=by
 rw[aE];rintro⟨u,us,e,_⟩;cases e
theorem aE.length:∀{as:List AV} {vs:List Value},aE ι S w as vs→as.length=vs.length
 | [],vs,h=>by simp at h;simp[h]
 | a:: as,[],h=>by simp at h
 | a:: as,v:: vs,h=>by simp at h;simp[aE.length h.2]
theorem aE.get:∀{as:List AV} {vs:List Value},aE ι S w as vs→∀(i:Nat) (a:AV),as[i]?=some a→∃v,vs[i]?=some v∧au ι S w a v
 | [],vs,h,i,a,e=>by simp at e
 | a:: as,[],h,_,_,_=>by simp at h
 | a:: as,v:: vs,h,0,x,e=>by simp at e h;subst e;exact⟨v,by simp,h.1⟩
 | a:: as,v:: vs,h,i+1,x,e=>by simp at e h;simpa using h.2.get i x e
theorem aE.get':∀{as:List AV} {vs:List Value},aE ι S w as vs→∀(i:Nat) (v:Value),vs[i]?=some v→∃a,as[i]?=some a∧au ι S w a v:=by
 intro as vs h i v e;have hl:=h.length;obtain⟨hi,_⟩:=eQ.1 e;have:as[i]?=some as[i]:=dO (by omega);obtain⟨u,hu,hr⟩:=h.get i _ this;rw[e]at hu;cases hu;exact⟨_,this,hr⟩
theorem aE.set:∀{as:List AV} {vs:List Value},aE ι S w as vs→∀(i:Nat) (a:AV) (v:Value),au ι S w a v→aE ι S w (as.set i a) (vs.set i v)
 | [],vs,h,i,a,v,_=>by simp at h;subst h;simp
 | a:: as,[],h,_,_,_,_=>by simp at h
 | a:: as,v:: vs,h,0,x,u,e=>by simp at h;simpa using⟨e,h.2⟩
 | a:: as,v:: vs,h,i+1,x,u,e=>by simp at h;simpa using⟨h.1,h.2.set i x u e⟩
theorem aE.append:∀{as bs:List AV} {vs us:List Value},aE ι S w as vs→aE ι S w bs us→aE ι S w (as++bs) (vs++us)
 | [],bs,vs,us,h,k=>by simp at h;subst h;simpa using k
 | a:: as,bs,[],us,h,_=>by simp at h
 | a:: as,bs,v:: vs,us,h,k=>by simp at h;simpa using⟨h.1,h.2.append k⟩
theorem aE.mk:∀{as:List AV} {vs:List Value},as.length=vs.length→(∀(i:Nat) (a:AV) (v:Value),as[i]?=some a→vs[i]?=some v→au ι S w a v)→aE ι S w as vs
 | [],vs,h,_=>by simpa using (List.length_eq_zero_iff.1 (by simpa using h.symm))
 | a:: as,[],h,_=>by simp at h
 | a:: as,v:: vs,h,k=>by
   simp only[bO];exact⟨k 0 a v rfl rfl,aE.mk (by simpa using h) fun i x u e f=>k (i+1) x u (by simpa using e) (by simpa using f)⟩
theorem aE.take:∀{as:List AV} {vs:List Value} (n:Nat),aE ι S w as vs→aE ι S w (as.take n) (vs.take n)
 | [],vs,n,h=>by simp at h;subst h;simp
 | a:: as,[],n,h=>by simp at h
 | a:: as,v:: vs,0,h=>by simp
 | a:: as,v:: vs,n+1,h=>by simp at h;simpa using⟨h.1,h.2.take n⟩
theorem aE.drop:∀{as:List AV} {vs:List Value} (n:Nat),aE ι S w as vs→aE ι S w (as.drop n) (vs.drop n)
 | [],vs,n,h=>by simp at h;subst h;simp
 | a:: as,[],n,h=>by simp at h
 | a:: as,v:: vs,0,h=>by simpa using h
 | a:: as,v:: vs,n+1,h=>by simp at h;simpa using h.2.drop n
theorem bD.get:∀{cs:List AV} {b off:Nat},bD ι S w cs b off→∀(i:Nat) (c:AV),cs[i]?=some c→∃u,w.cell? ⟨b,off+i,none⟩=some u∧S b (off+i)∧au ι S w c u
 | [],b,off,h,i,c,e=>by simp at e
 | c:: cs,b,off,h,0,x,e=>by simp at e;subst e;rw[bD]at h;simpa using h.1
 | c:: cs,b,off,h,i+1,x,e=>by
   simp at e;rw[bD]at h;have:=h.2.get i x e;rw[show off+(i+1)=off+1+i by omega];exact this
theorem bD.mk:∀{cs:List AV} {b off:Nat},(∀(i:Nat) (c:AV),cs[i]?=some c→∃u,w.cell? ⟨b,off+i,none⟩=some u∧S b (off+i)∧au ι S w c u)→bD ι S w cs b off
 | [],b,off,h=>by simp[bD]
 | c:: cs,b,off,h=>by
   rw[bD];refine⟨by simpa using h 0 c rfl,bD.mk fun i x e=>?_⟩;have:=h (i+1) x (by simpa using e);rw[show off+1+i=off+(i+1) by omega];exact this
theorem bD.drop{cs:List AV}{b off:Nat}(h:bD ι S w cs b off)(k:Nat):bD ι S w (cs.drop k) b (off+k):=
 bD.mk fun i c e=>by
  have:=h.get (k+i) c (by simpa using e);rw[show off+k+i=off+(k+i) by omega];exact this
theorem bD.sy:∀{cs:List AV} {b off:Nat},bD ι S w cs b off→∃vs:List Value,aE ι S w cs vs∧∀(i:Nat) (v:Value),vs[i]?=some v→w.cell? ⟨b,off+i,none⟩=some v
 | [],b,off,h=>⟨[],by simp,by simp⟩
 | c:: cs,b,off,h=>by
   rw[bD]at h;obtain⟨⟨u,hu,_,hr⟩,h2⟩:=h;obtain⟨vs,hv,hc⟩:=h2.sy;refine⟨u:: vs,by simpa using⟨hr,hv⟩,fun i v e=>?_⟩;cases i with
   | zero=>simp at e;subst e;simpa using hu
   | succ i=>simp at e;have:=hc i v e;rw[show off+(i+1)=off+1+i by omega];exact this
theorem cr.get{sz:Nat}:∀{rows:List (List AV)} {b off:Nat},cr ι S w sz rows b off→∀(i:Nat) (r:List AV),rows[i]?=some r→r.length=sz∧bD ι S w r b (off+i*sz)
 | [],b,off,h,i,c,e=>by simp at e
 | r:: rs,b,off,h,0,x,e=>by simp at e;subst e;rw[cr]at h;simpa using⟨h.1,h.2.1⟩
 | r:: rs,b,off,h,i+1,x,e=>by
   simp at e;rw[cr]at h;have:=h.2.2.get i x e;rw[show off+(i+1)*sz=off+sz+i*sz by rw[abf];omega];exact this
theorem cr.mk{sz:Nat}:∀{rows:List (List AV)} {b off:Nat},(∀(i:Nat) (r:List AV),rows[i]?=some r→r.length=sz∧bD ι S w r b (off+i*sz))→cr ι S w sz rows b off
 | [],b,off,h=>by simp[cr]
 | r:: rs,b,off,h=>by
   rw[cr];have h0:=h 0 r rfl;refine⟨h0.1,by simpa using h0.2,cr.mk fun i x e=>?_⟩;have:=h (i+1) x (by simpa using e);rw[show off+sz+i*sz=off+(i+1)*sz by rw[abf];omega];exact this
end
def fX:Option Ix→Option Ix→Prop
 | some (.tok n v),y=>∃n' v',y=some (.tok n' v')∧((n'=n∧v'=v)∨n<n')
 | x,y=>y=x
theorem fX.refl:∀x,fX x x
 | some (.tok n v)=>⟨n,v,rfl,.inl ⟨rfl,rfl⟩⟩
 | some (.ah _)=>rfl
 | none=>rfl
theorem fX.of_eq{x y:Option Ix}(h:y=x):fX x y:=h▸fX.refl x
theorem fX.trans:∀{x y z:Option Ix},fX x y→fX y z→fX x z
 | some (.tok n v),y,z,h,k=>by
   obtain⟨n',v',rfl,h⟩:=h;obtain⟨n'',v'',rfl,k⟩:=k;refine⟨n'',v'',rfl, ?_⟩;rcases h with⟨rfl,rfl⟩|h
   ·exact k
   ·rcases k with⟨rfl,rfl⟩|k
    ·exact .inr h
    ·exact .inr (Nat.lt_trans h k)
 | some (.ah _),y,z,h,k=>by simp only[fX]at h;subst h;exact k
 | none,y,z,h,k=>by simp only[fX]at h;subst h;exact k
theorem fX.ah{b:Nat}{y:Option Ix}(h:fX (some (.ah b)) y):y=some (.ah b):=h
structure bS(n base:Nat)(ι:List Ix)(S:ba)(w:World)(ι':List Ix)(S':ba)(w':World):Prop where
 pre:∀i,i<n→fX ι[i]? ι'[i]?
 sub:∀b o,S b o→S' b o
 new:∀b o,S' b o→S b o∨base≤b
 cell:∀b o,S b o→w'.cell? ⟨b,o,none⟩=w.cell? ⟨b,o,none⟩
 xj:∀b x,w.shape? b=some x→w'.shape? b=some x
 oe:Below base w w'
theorem bS.refl(n base:Nat)(ι:List Ix)(S:ba)(w:World):bS n base ι S w ι S w:=
 ⟨fun _ _=>fX.refl _,fun _ _ h=>h,fun _ _ h=>.inl h,fun _ _ _=>rfl,fun _ _ h=>h,Below.refl _ _⟩
theorem bS.trans{n base:Nat}{ι ι' ι'':List Ix}{S S' S'':ba}{w w' w'':World}(h:bS n base ι S w ι' S' w')(k:bS n base ι' S' w' ι'' S'' w''):bS n base ι S w ι'' S'' w'':=
 ⟨fun i hi=>(h.pre i hi).trans (k.pre i hi),fun b o x=>k.sub b o (h.sub b o x),
  fun b o x=>(k.new b o x).elim (fun y=>h.new b o y) .inr,
  fun b o x=>(k.cell b o (h.sub b o x)).trans (h.cell b o x),fun b x hx=>k.xj b x (h.xj b x hx),h.oe.trans k.oe⟩
theorem bS.mono{n n' base base':Nat}{ι ι':List Ix}{S S':ba}{w w':World}(h:bS n base ι S w ι' S' w')(hn:n'≤n)(hb:base'≤base):bS n' base' ι S w ι' S' w':=
 ⟨fun i hi=>h.pre i (Up hi hn),h.sub,fun b o x=>(h.new b o x).imp id (fun y=>aaT hb y),h.cell,h.xj,h.oe.mono hb⟩
mutual
def Bd(n:Nat):AV→Prop
 | .v _|.str _|.any|.emp=>True
 | .agg cs|.aA cs|.ip cs=>lL n cs
 | .sl _ rows=>wm n rows
 | .sb id _ rows=>id<n∧wm n rows
 | .own id _ _ _|.op id _|.mp id=>id<n
 | .fn _ xs ys=>lL n xs∧lL n ys
 | .gV _ x=>Bd n x
def lL(n:Nat):List AV→Prop
 | []=>True
 | a:: as=>Bd n a∧lL n as
def wm(n:Nat):List (List AV)→Prop
 | []=>True
 | r:: rs=>lL n r∧wm n rs
end
mutual
theorem au.bd{ι:List Ix}{S:ba}{w:World}{n:Nat}(hn:ι.length≤n):∀(a:AV) (y:Value),au ι S w a y→Bd n a
 | .v _,_,_=>by simp[Bd]
 | .str _,_,_=>by simp[Bd]
 | .any,_,_=>by simp[Bd]
 | .emp,_,_=>by simp[Bd]
 | .agg cs,y,k=>by rw[au]at k;rw[Bd];obtain⟨vs,e,k⟩:=k;exact aE.bd hn cs vs k
 | .aA cs,y,k=>by rw[au]at k;rw[Bd];obtain⟨vs,e,k⟩:=k;exact aE.bd hn cs vs k
 | .sl sz rows,y,k=>by
   rw[au]at k;rw[Bd];obtain⟨a,cap,e,h1,h2,h3⟩:=k;rcases h3 with rfl|⟨b,off,ea,hr⟩
   ·simp[wm]
   ·exact cr.bd hn sz rows b off hr
 | .sb tid sz rows,y,k=>by
   rw[au]at k;rw[Bd];obtain⟨⟨a,cap,e,h1,h2,h3⟩,m,v,t1,_⟩:=k;refine⟨Up (eQ.1 t1).1 hn, ?_⟩;rcases h3 with rfl|⟨b,off,ea,hr⟩
   ·simp[wm]
   ·exact cr.bd hn sz rows b off hr
 | .ip cs,y,k=>by rw[au]at k;rw[Bd];obtain⟨b,off,e,k⟩:=k;exact bD.bd hn cs b off k
 | .own tid off len sz,y,k=>by
   rw[au]at k;rw[Bd];obtain⟨b,a,cap,m,ty,h1,_⟩:=k;exact Up (eQ.1 h1).1 hn
 | .op tid off,y,k=>by
   rw[au]at k;rw[Bd];obtain⟨b,h1,_⟩:=k;exact Up (eQ.1 h1).1 hn
 | .fn f xs ys,y,k=>by rw[au]at k;rw[Bd];obtain⟨vs,us,e,k1,k2⟩:=k;exact⟨aE.bd hn xs vs k1,aE.bd hn ys us k2⟩
 | .gV t x,y,k=>by rw[au]at k;rw[Bd];obtain⟨v,e,k⟩:=k;exact au.bd hn x v k
 | .mp tid,y,k=>by
   rw[au]at k;rw[Bd];obtain⟨b,h1,_⟩:=k;exact Up (eQ.1 h1).1 hn
theorem aE.bd{ι:List Ix}{S:ba}{w:World}{n:Nat}(hn:ι.length≤n):∀(as:List AV) (vs:List Value),aE ι S w as vs→lL n as
 | [],_,_=>by simp[lL]
 | a:: as,[],k=>by simp at k
 | a:: as,v:: vs,k=>by simp at k;rw[lL];exact⟨au.bd hn a v k.1,aE.bd hn as vs k.2⟩
theorem bD.bd{ι:List Ix}{S:ba}{w:World}{n:Nat}(hn:ι.length≤n):∀(cs:List AV) (b off:Nat),bD ι S w cs b off→lL n cs
 | [],_,_,_=>by simp[lL]
 | c:: cs,b,off,k=>by rw[bD]at k;rw[lL];obtain⟨⟨u,_,_,h⟩,k2⟩:=k;exact⟨au.bd hn c u h,bD.bd hn cs b (off+1) k2⟩
theorem cr.bd{ι:List Ix}{S:ba}{w:World}{n:Nat}(hn:ι.length≤n)(sz:Nat):∀(rows:List (List AV)) (b off:Nat),cr ι S w sz rows b off→wm n rows
 | [],_,_,_=>by simp[wm]
 | r:: rs,b,off,k=>by rw[cr]at k;rw[wm];exact⟨bD.bd hn r b off k.2.1,cr.bd hn sz rs b (off+sz) k.2.2⟩
end
mutual
theorem au.gW{n base:Nat}{ι ι':List Ix}{S S':ba}{w w':World}(h:bS n base ι S w ι' S' w'):∀(a:AV) (y:Value),Bd n a→au ι S w a y→au ι' S' w' a y
 | .v x,y,p,k=>by simpa using k
 | .str x,y,p,k=>by simpa using k
 | .any,y,p,k=>by simp
 | .agg cs,y,p,k=>by rw[au]at *;rw[Bd]at p;obtain⟨vs,e,k⟩:=k;exact⟨vs,e,aE.gW h cs vs p k⟩
 | .aA cs,y,p,k=>by rw[au]at *;rw[Bd]at p;obtain⟨vs,e,k⟩:=k;exact⟨vs,e,aE.gW h cs vs p k⟩
 | .emp,y,p,k=>by rw[au]at *;exact k
 | .sl sz rows,y,p,k=>by
   rw[au]at *;rw[Bd]at p;obtain⟨a,cap,e,h1,h2,h3⟩:=k;exact⟨a,cap,e,h1,h2,h3.imp (fun q=>q) fun⟨b,off,ea,hr⟩=>⟨b,off,ea,cr.gW h sz rows b off p hr⟩⟩
 | .sb tid sz rows,y,p,k=>by
   rw[au]at *;rw[Bd]at p;obtain⟨⟨a,cap,e,h1,h2,h3⟩,m,v,t1,t2,t3⟩:=k;refine⟨⟨a,cap,e,h1,h2,h3.imp (fun q=>q) fun⟨b,off,ea,hr⟩=>⟨b,off,ea,cr.gW h sz rows b off p.2 hr⟩⟩, ?_⟩;have hp:=h.pre tid p.1;rw[t1]at hp;obtain⟨m',v',e',q⟩:=hp;refine⟨m',v',e', ?_⟩;rcases q with⟨rfl,rfl⟩|q
   ·exact⟨t2,t3⟩
   ·exact⟨by omega,fun z=>by omega⟩
 | .ip cs,y,p,k=>by rw[au]at *;rw[Bd]at p;obtain⟨b,off,e,k⟩:=k;exact⟨b,off,e,bD.gW h cs b off p k⟩
 | .own tid off len sz,y,p,k=>by
   rw[au]at *;rw[Bd]at p;obtain⟨b,a,cap,m,ty,h1,h2,h3,h4,h5,h6,h7⟩:=k;exact⟨b,a,cap,m,ty,(h1▸h.pre tid p).ah,h2,h3,h4,h5,h.xj _ _ h6,h7⟩
 | .op tid off,y,p,k=>by
   rw[au]at *;rw[Bd]at p;obtain⟨b,h1,h2⟩:=k;exact⟨b,(h1▸h.pre tid p).ah,h2⟩
 | .fn f xs ys,y,p,k=>by rw[au]at *;rw[Bd]at p;obtain⟨vs,us,e,k1,k2⟩:=k;exact⟨vs,us,e,aE.gW h xs vs p.1 k1,aE.gW h ys us p.2 k2⟩
 | .gV t x,y,p,k=>by rw[au]at *;rw[Bd]at p;obtain⟨v,e,k⟩:=k;exact⟨v,e,au.gW h x v p k⟩
 | .mp tid,y,p,k=>by
   rw[au]at *;rw[Bd]at p;obtain⟨b,h1,h2⟩:=k;exact⟨b,(h1▸h.pre tid p).ah,h2⟩
theorem aE.gW{n base:Nat}{ι ι':List Ix}{S S':ba}{w w':World}(h:bS n base ι S w ι' S' w'):∀(as:List AV) (vs:List Value),lL n as→aE ι S w as vs→aE ι' S' w' as vs
 | [],vs,p,k=>by simpa using k
 | a:: as,[],p,k=>by simp at k
 | a:: as,v:: vs,p,k=>by simp at k;rw[lL]at p;simpa using⟨au.gW h a v p.1 k.1,aE.gW h as vs p.2 k.2⟩
theorem bD.gW{n base:Nat}{ι ι':List Ix}{S S':ba}{w w':World}(h:bS n base ι S w ι' S' w'):∀(cs:List AV) (b off:Nat),lL n cs→bD ι S w cs b off→bD ι' S' w' cs b off
 | [],b,off,p,k=>by simp[bD]
 | c:: cs,b,off,p,k=>by
   rw[bD]at *;rw[lL]at p;obtain⟨⟨u,h1,h2,h3⟩,k2⟩:=k;exact⟨⟨u,by rw[h.cell b off h2];exact h1,h.sub _ _ h2,au.gW h c u p.1 h3⟩,bD.gW h cs b (off+1) p.2 k2⟩
theorem cr.gW{n base:Nat}{ι ι':List Ix}{S S':ba}{w w':World}(h:bS n base ι S w ι' S' w')(sz:Nat):∀(rows:List (List AV)) (b off:Nat),wm n rows→cr ι S w sz rows b off→cr ι' S' w' sz rows b off
 | [],b,off,p,k=>by simp[cr]
 | r:: rs,b,off,p,k=>by
   rw[cr]at *;rw[wm]at p;exact⟨k.1,bD.gW h r b off p.1 k.2.1,cr.gW h sz rs b (off+sz) p.2 k.2.2⟩
end
theorem au.fV{n base:Nat}{ι ι':List Ix}{S S':ba}{w w':World}(h:bS n base ι S w ι' S' w')(hn:ι.length≤n)(a:AV)(y:Value)(k:au ι S w a y):au ι' S' w' a y:=au.gW h a y (au.bd hn a y k) k
theorem aE.fV{n base:Nat}{ι ι':List Ix}{S S':ba}{w w':World}(h:bS n base ι S w ι' S' w')(hn:ι.length≤n)(as:List AV)(vs:List Value)(k:aE ι S w as vs):aE ι' S' w' as vs:=aE.gW h as vs (aE.bd hn as vs k) k
theorem bD.fV{n base:Nat}{ι ι':List Ix}{S S':ba}{w w':World}(h:bS n base ι S w ι' S' w')(hn:ι.length≤n)(cs:List AV)(b off:Nat)(k:bD ι S w cs b off):bD ι' S' w' cs b off:=bD.gW h cs b off (bD.bd hn cs b off k) k
theorem cr.fV{n base:Nat}{ι ι':List Ix}{S S':ba}{w w':World}(h:bS n base ι S w ι' S' w')(hn:ι.length≤n)(sz:Nat)(rows:List (List AV))(b off:Nat)(k:cr ι S w sz rows b off):cr ι' S' w' sz rows b off:=cr.gW h sz rows b off (cr.bd hn sz rows b off k) k
/-! ### Maps,and walks over them -/
section
variable (ι:List Ix) (S:ba) (w:World)
def sG:List (Nat×AV×AV)→List MapEntry→Prop
 | [],l=>l=[]
 | (n,k,c):: r,l=>∃e l',l=e:: l'∧e.born=n∧au ι S w k e.key∧au ι S w c e.val∧sG r l'
def sH(base:Nat)(ix:Option Ix):aL→Prop
 | .mp c es=>∃b arr,ix=some (.ah b)∧base≤b∧w.heap[b]?=some (.map arr c)∧(∀o,¬S b o)∧sG ι S w es arr.toList
 | .it m s sn l=>∃b bm,ix=some (.ah b)∧base≤b∧w.heap[b]?=some (.mapIter (some bm) s sn.toArray l)∧(∀o,¬S b o)∧ι[m]?=some (.ah bm)
 | _=>True
end
theorem sG.imp{ι ι':List Ix}{S S':ba}{w w':World}{f:AV→AV}(hf:∀a y,au ι S w a y→au ι' S' w' (f a) y):∀{es:List (Nat×AV×AV)} {l:List MapEntry},sG ι S w es l→sG ι' S' w' (es.map fun p=>(p.1,f p.2.1,f p.2.2)) l
 | [],_,h=>h
 | (_,_,_):: _,_,⟨e,l',h1,h2,h3,h4,h5⟩=>⟨e,l',h1,h2,hf _ _ h3,hf _ _ h4,sG.imp hf h5⟩
theorem sG.bd{ι ι':List Ix}{S S':ba}{w w':World}:∀{es:List (Nat×AV×AV)} {l:List MapEntry},sG ι S w es l→(∀p∈es,(∀y,au ι S w p.2.1 y→au ι' S' w' p.2.1 y)∧∀y,au ι S w p.2.2 y→au ι' S' w' p.2.2 y)→sG ι' S' w' es l
 | [],_,h,_=>h
 | (n,k,c):: r,_,⟨e,l',h1,h2,h3,h4,h5⟩,hb=>⟨e,l',h1,h2,(hb (n,k,c) (aa9 ..)).1 _ h3,(hb (n,k,c) (aa9 ..)).2 _ h4,sG.bd h5 fun p hp=>hb p (Lt _ hp)⟩
theorem sG.fV{n base:Nat}{ι ι':List Ix}{S S':ba}{w w':World}(hE:bS n base ι S w ι' S' w')(hn:ι.length≤n){es:List (Nat×AV×AV)}{l:List MapEntry}(h:sG ι S w es l):sG ι' S' w' es l:=
 sG.bd h fun p _=>⟨fun y=>au.fV hE hn _ y,fun y=>au.fV hE hn _ y⟩
theorem sH.step{n base b0:Nat}{ι ι':List Ix}{S S':ba}{w w':World}{ix ix':Option Ix}{en:aL}(h:sH ι S w base ix en)(hE:bS n b0 ι S w ι' S' w')(hn:ι.length≤n)(hix:ix'=ix)
 (same:∀b,ix=some (.ah b)→b<w.heap.size→w'.heap[b]?=w.heap[b]?∧∀o,S' b o→S b o):sH ι' S' w' base ix' en:=by
 subst hix;have lt:∀{b:Nat} {o:Obj},w.heap[b]?=some o→b<w.heap.size:=fun k=>(AS.1 k).1;cases en with
 | mp c es =>
   obtain⟨b,arr,h1,h2,h3,h4,h5⟩:=h;obtain⟨q1,q2⟩:=same b h1 (lt h3);exact⟨b,arr,h1,h2,by rw[q1];exact h3,fun o ho=>h4 o (q2 o ho),h5.fV hE hn⟩
 | it m s sn l =>
   obtain⟨b,bm,h1,h2,h3,h4,h5⟩:=h;obtain⟨q1,q2⟩:=same b h1 (lt h3);refine⟨b,bm,h1,h2,by rw[q1];exact h3,fun o ho=>h4 o (q2 o ho), ?_⟩;have hm:m<ι.length:=(eQ.1 h5).1;exact (h5▸hE.pre m (Up hm hn)).ah
 | ah=>trivial
 | tok=>trivial
 | dead=>trivial
theorem sH.at{base:Nat}{ι:List Ix}{S:ba}{w:World}{ix:Option Ix}{en:aL}(h:sH ι S w base ix en)(hk:(∃c es,en=.mp c es)∨∃m s sn l,en=.it m s sn l):∃b,ix=some (.ah b)∧base≤b∧b<w.heap.size:=by
 rcases hk with⟨c,es,rfl⟩|⟨m,s,sn,l,rfl⟩
 ·obtain⟨b,arr,h1,h2,h3,_⟩:=h;exact⟨b,h1,h2,(AS.1 h3).1⟩
 ·obtain⟨b,bm,h1,h2,h3,_⟩:=h;exact⟨b,h1,h2,(AS.1 h3).1⟩
end
section
open Go Go.RowKit
mutual
def Pure:AV→Prop
 | .v _|.str _|.any|.emp=>True
 | .agg cs|.aA cs|.ip cs=>aV cs
 | .sl _ rows=>cF rows
 | .own .. | .op .. | .sb .. | .mp _=>False
 | .fn _ xs ys=>aV xs∧aV ys
 | .gV _ x=>Pure x
def aV:List AV→Prop
 | []=>True
 | a:: as=>Pure a∧aV as
def cF:List (List AV)→Prop
 | []=>True
 | r:: rs=>aV r∧cF rs
end
mutual
theorem au.pure{ι ι':List Ix}{S:ba}{w:World}:∀(a:AV) (y:Value),Pure a→au ι S w a y→au ι' S w a y
 | .v x,y,_,k=>by simpa using k
 | .str x,y,_,k=>by simpa using k
 | .any,y,_,k=>by simp
 | .agg cs,y,p,k=>by rw[au]at *;rw[Pure]at p;obtain⟨vs,e,k⟩:=k;exact⟨vs,e,aE.pure cs vs p k⟩
 | .aA cs,y,p,k=>by rw[au]at *;rw[Pure]at p;obtain⟨vs,e,k⟩:=k;exact⟨vs,e,aE.pure cs vs p k⟩
 | .emp,y,_,k=>by rw[au]at *;exact k
 | .sl sz rows,y,p,k=>by
   rw[au]at *;rw[Pure]at p;obtain⟨a,cap,e,h1,h2,h3⟩:=k;exact⟨a,cap,e,h1,h2,h3.imp id fun⟨b,off,ea,hr⟩=>⟨b,off,ea,cr.pure sz rows b off p hr⟩⟩
 | .ip cs,y,p,k=>by rw[au]at *;rw[Pure]at p;obtain⟨b,off,e,k⟩:=k;exact⟨b,off,e,bD.pure cs b off p k⟩
 | .own id off len sz,y,p,k=>by rw[Pure]at p;exact p.elim
 | .sb id sz rows,y,p,k=>by rw[Pure]at p;exact p.elim
 | .op id off,y,p,k=>by rw[Pure]at p;exact p.elim
 | .fn f xs ys,y,p,k=>by rw[au]at *;rw[Pure]at p;obtain⟨vs,us,e,k1,k2⟩:=k;exact⟨vs,us,e,aE.pure xs vs p.1 k1,aE.pure ys us p.2 k2⟩
 | .gV t x,y,p,k=>by rw[au]at *;rw[Pure]at p;obtain⟨v,e,k⟩:=k;exact⟨v,e,au.pure x v p k⟩
 | .mp id,y,p,k=>by rw[Pure]at p;exact p.elim
theorem aE.pure{ι ι':List Ix}{S:ba}{w:World}:∀(as:List AV) (vs:List Value),aV as→aE ι S w as vs→aE ι' S w as vs
 | [],vs,_,k=>by simpa using k
 | a:: as,[],_,k=>by simp at k
 | a:: as,v:: vs,p,k=>by rw[aV]at p;simp at k;simpa using⟨au.pure a v p.1 k.1,aE.pure as vs p.2 k.2⟩
theorem bD.pure{ι ι':List Ix}{S:ba}{w:World}:∀(cs:List AV) (b off:Nat),aV cs→bD ι S w cs b off→bD ι' S w cs b off
 | [],b,off,_,k=>by simp[bD]
 | c:: cs,b,off,p,k=>by
   rw[bD]at *;rw[aV]at p;obtain⟨⟨u,h1,h2,h3⟩,k2⟩:=k;exact⟨⟨u,h1,h2,au.pure c u p.1 h3⟩,bD.pure cs b (off+1) p.2 k2⟩
theorem cr.pure{ι ι':List Ix}{S:ba}{w:World}(sz:Nat):∀(rows:List (List AV)) (b off:Nat),cF rows→cr ι S w sz rows b off→cr ι' S w sz rows b off
 | [],b,off,_,k=>by simp[cr]
 | r:: rs,b,off,p,k=>by
   rw[cr]at *;rw[cF]at p;exact⟨k.1,bD.pure r b off p.1 k.2.1,cr.pure sz rs b (off+sz) p.2 k.2.2⟩
end
class Laid where
 Vj:Nat→Option (List AV)
 pure:∀g cs,Vj g=some cs→aV cs
variable [Laid]
def CH(S:ba)(w:World):Prop:=∀g cs,Laid.Vj g=some cs→bD [] S w cs g 0∧∃ty,w.shape? g=some (ty,cs.length)
theorem CH.fV{n base:Nat}{ι ι':List Ix}{S S':ba}{w w':World}(h:CH S w)(hE:bS n base ι S w ι' S' w'):CH S' w':=fun g cs e =>
 ⟨bD.fV (n:=0) (base:=base) (ι:=[]) (ι':=[]) ⟨fun _ q=>absurd q (aaP _),hE.sub,hE.new,hE.cell,hE.xj,hE.oe⟩ (bY _) cs g 0 (h g cs e).1,let ⟨ty,k⟩:=(h g cs e).2;⟨ty,hE.xj _ _ k⟩⟩
def uL(base:Nat)(S:ba)(w:World)(e sz n:Nat)(v:Value):Prop:=
 ∃a cap,v=.slice a n cap∧n≤cap∧cap≤maxLen∧(cap=0∨∃b arr fz,a=some ⟨b,0,none⟩∧base≤b∧w.heap[b]?=some (.cells arr e fz) ∧
  (∀o,o<arr.size→¬(fz.1≤o∧o<fz.2))∧cap*sz≤arr.size∧∀o,S b o→o<n*sz)
def CB(v:Value)(b:Nat):Prop:=∃a l cap,v=.slice (some a) l cap∧a.block=b∧cap≠0
def A7:Option Ix→Nat→Prop
 | some (.ah c),b=>c=b
 | some (.tok _ v),b=>CB v b
 | none,_=>False
def alive:Option aL→Prop
 | some .dead|none=>False
 | _=>True
omit [Laid] in
theorem uL.fB{base:Nat}{S S':ba}{w w':World}{e sz n:Nat}{v:Value}(h:uL base S w e sz n v)(k:∀b,CB v b→base≤b→b<w.heap.size→w'.heap[b]?=w.heap[b]?∧∀o,S' b o→S b o):uL base S' w' e sz n v:=by
 obtain⟨a,cap,e1,h1,h2,h3⟩:=h;refine⟨a,cap,e1,h1,h2, ?_⟩;rcases h3 with h3|⟨b,arr,fz,ea,k1,k2,k3,k4,k5⟩
 ·exact .inl h3
 ·by_cases hc:cap=0
  ·exact .inl hc
  ·have hb:b<w.heap.size:=by
    rcases uP b w.heap.size with q|q
    ·exact q
    ·rw[abj q]at k2;cases k2
   obtain⟨q1,q2⟩:=k b ⟨_,_,_,by rw[e1,ea],rfl,hc⟩ k1 hb;exact .inr ⟨b,arr,fz,ea,k1,by rw[q1];exact k2,k3,k4,fun o ho=>k5 o (q2 o ho)⟩
structure cL(base:Nat)(ι:List Ix)(S:ba)(w:World)(h:aa):Prop where
 len:ι.length=h.length
 live:∀(id:Nat) (x:jH),h[id]?=some (.ah x)→∃b arr fz,ι[id]?=some (.ah b)∧base≤b∧w.heap[b]?=some (.cells arr x.ty fz) ∧
  (∀o,o<arr.size→¬(fz.1≤o∧o<fz.2))∧x.cells.length≤arr.size ∧
  (∀(i:Nat) (c:AV),x.cells[i]?=some c→∃v,arr[i]?=some v∧au ι S w c v) ∧
  (x.wr=true→∀o,¬S b o)∧(∀o,S b o→o<x.cells.length)∧(x.wr=false→∀o,o<x.cells.length→S b o)
 tok:∀(id e sz n:Nat),h[id]?=some (.tok e sz n)→∃v,ι[id]?=some (.tok n v)∧uL base S w e sz n v
 kq:∀(id:Nat) (en:aL),h[id]?=some en→sH ι S w base ι[id]? en
 inj:∀(i j b:Nat),alive h[i]?→alive h[j]?→A7 ι[i]? b→A7 ι[j]? b→i=j
 iM:∀b o,S b o→b<w.heap.size
 kx:base≤w.heap.size
 gl:CH S w
abbrev Fr:=List (Nat×AV)
def bA:Fr→Nat→AV
 | [],_=>.any
 | (s,y):: r,t=>if s=t then y else bA r t
def eU:Fr→Nat→AV→Fr
 | [],t,x=>[(t,x)]
 | (s,y):: r,t,x=>if s=t then (t,x):: r else if t<s then (t,x):: (s,y):: r else (s,y):: eU r t x
def jS(fB:List Nat)(fr:Fr):Fr:=fB.map fun t=>(t,bA fr t)
def bN(n:Nat)(fr:Fr)(d:Option Tmp)(x:AV):Fr:=match d with|some t=>if t<n then eU fr t x else fr|none=>fr
def dC(ι:List Ix)(S:ba)(w:World)(fr:Fr)(tmps:Array Value):Prop:=∀t,au ι S w (bA fr t) (tmps.getD t undef)
omit [Laid] in
theorem dC.fV{ι ι':List Ix}{S S':ba}{w w':World}{fr:Fr}{tmps:Array Value}{n base:Nat}(hE:bS n base ι S w ι' S' w')(hn:ι.length≤n)(h:dC ι S w fr tmps):dC ι' S' w' fr tmps:=
 fun t=>au.fV hE hn _ _ (h t)
omit [Laid] in
theorem fI:∀(fr:Fr) (t:Nat) (x:AV) (u:Nat),bA (eU fr t x) u=if t=u then x else bA fr u
 | [],t,x,u=>by simp[eU,bA]
 | (s,y):: r,t,x,u=>by
  unfold eU;split
  ·rename_i h;subst h;simp only[bA];split<;>rfl
  ·split
   ·simp only[bA]
   ·simp only[bA];rw[fI r t x u];split
    ·rename_i h1 h2 h3;split
     ·omega
     ·rfl
    ·rfl
omit [Laid] in
theorem LS:∀(fr:Fr) {t u:Nat} (x y:AV),t≠u→eU (eU fr t x) u y=eU (eU fr u y) t x:=by
 have key:∀(fr:Fr) {t u:Nat} (x y:AV),t<u→eU (eU fr t x) u y=eU (eU fr u y) t x:=by
  intro fr;induction fr with
  | nil =>
    intro t u x y h;have h1:t≠u:=by omega
    have h2:¬u<t:=by omega
    simp[eU,h1,h2,h,Ne.symm h1]
  | cons p r ih =>
    intro t u x y h;obtain⟨s,z⟩:=p;have h1:t≠u:=by omega
    have h2:¬u<t:=by omega
    by_cases a:s=t
    ·subst a;have e1:¬u<s:=by omega
     simp[eU,h1,e1]
    ·by_cases b:s=u
     ·subst b;have e1:s≠t:=by omega
      simp[eU,h1,e1,h,h2]
     ·by_cases c:t<s
      ·by_cases d:u<s
       ·simp[eU,a,b,c,d,h1,h2,h,Ne.symm h1]
       ·simp[eU,a,b,c,d,h1,h2]
      ·by_cases d:u<s
       ·omega
       ·simp[eU,a,b,c,d,ih x y h]
 intro fr t u x y h;rcases Nat.lt_or_gt_of_ne h with q|q
 ·exact key fr x y q
 ·exact (key fr y x q).symm
structure St where
 n:Nat
 fr:Fr
 h:aa
structure bX(base:Nat)(ι:List Ix)(S:ba)(a:Act)(w:World)(st:St):Prop where
 df:a.defers=[]
 sz:a.tmps.size=st.n
 fr:dC ι S w st.fr a.tmps
 hp:cL base ι S w st.h
def dv(m base:Nat)(ι:List Ix)(S:ba)(w:World)(Q:Exit→St→Prop):Exit→Act→World→Prop:=fun e a' w' =>
 ∃ι' S' st',bS m base ι S w ι' S' w'∧m≤st'.h.length∧bX base ι' S' a' w' st'∧Q e st'
def AW(P:Program)(m:Nat)(c:Code)(Q:Exit→St→Prop)(st:St):Prop:=
 ∀base ι S a w,m≤st.h.length→bX base ι S a w st→c.wp P (dv m base ι S w Q) a w
abbrev iO(next:St→Prop)(Q:Exit→St→Prop):Exit→St→Prop
 | .normal,st=>next st
 | e,st=>Q e st
theorem dv.trans{m base:Nat}{ι ι':List Ix}{S S':ba}{w w':World}{Q:Exit→St→Prop}{e:Exit}{a'':Act}{w'':World}
 (hE:bS m base ι S w ι' S' w') (h:dv m base ι' S' w' Q e a'' w''):dv m base ι S w Q e a'' w'':=
 let ⟨ι'',S'',st'',h1,h2,h3,h4⟩:=h;⟨ι'',S'',st'',hE.trans h1,h2,h3,h4⟩
section
variable {P:Program} {m:Nat} {Q:Exit→St→Prop} {st:St}
theorem GY(h:Q .normal st):AW P m .skip Q st:=
 fun _ ι S _ _ hm hr=>wp_skip ⟨ι,S,st,bS.refl _ _ _ _ _,hm,hr,h⟩
theorem Kd(h:Q .ret st):AW P m .ret Q st:=
 fun _ ι S _ _ hm hr=>wp_ret ⟨ι,S,st,bS.refl _ _ _ _ _,hm,hr,h⟩
theorem GW{id:Nat}(h:Q (.exit id) st):AW P m (.exit id) Q st:=
 fun _ ι S _ _ hm hr=>wp_exit ⟨ι,S,st,bS.refl _ _ _ _ _,hm,hr,h⟩
theorem D8{l:Nat}(h:Q .normal st):AW P m (.label l) Q st:=
 fun _ ι S _ _ hm hr=>wp_label ⟨ι,S,st,bS.refl _ _ _ _ _,hm,hr,h⟩
theorem GX{l:Nat}(h:Q (.goto l) st):AW P m (.goto l) Q st:=
 fun _ ι S _ _ hm hr=>wp_goto ⟨ι,S,st,bS.refl _ _ _ _ _,hm,hr,h⟩
theorem Am{x y:Code}(h:AW P m x (iO (AW P m y Q) Q) st):AW P m (.seq x y) Q st:=by
 intro base ι S a w hm hr;refine wp_seq (wp_mono (h base ι S a w hm hr) ?_);intro e a' w' k;obtain⟨ι',S',st',h1,h2,h3,h4⟩:=k;cases e with
 | normal=>exact wp_mono (h4 base ι' S' a' w' h2 h3) fun _ _ _ k=>k.trans h1
 | exit id=>exact⟨ι',S',st',h1,h2,h3,h4⟩
 | goto l=>exact⟨ι',S',st',h1,h2,h3,h4⟩
 | ret=>exact⟨ι',S',st',h1,h2,h3,h4⟩
 | panic ch=>exact⟨ι',S',st',h1,h2,h3,h4⟩
 | outgrown=>exact⟨ι',S',st',h1,h2,h3,h4⟩
def AG(id:Nat)(Q:Exit→St→Prop):Exit→St→Prop
 | .exit id',st=>if id'=id then Q .normal st else Q (.exit id') st
 | e,st=>Q e st
theorem D6{id:Nat}{c:Code}(h:AW P m c (AG id Q) st):AW P m (.block id c) Q st:=by
 intro base ι S a w hm hr;refine wp_block (wp_mono (h base ι S a w hm hr) ?_);intro e a' w' k;obtain⟨ι',S',st',h1,h2,h3,h4⟩:=k;cases e with
 | exit id' =>
   simp only[Exit.inBlock,AG]at h4 ⊢;split
   ·rename_i he;rw[if_pos he]at h4;exact⟨ι',S',st',h1,h2,h3,h4⟩
   ·rename_i he;rw[if_neg he]at h4;exact⟨ι',S',st',h1,h2,h3,h4⟩
 | normal=>exact⟨ι',S',st',h1,h2,h3,h4⟩
 | goto l=>exact⟨ι',S',st',h1,h2,h3,h4⟩
 | ret=>exact⟨ι',S',st',h1,h2,h3,h4⟩
 | panic ch=>exact⟨ι',S',st',h1,h2,h3,h4⟩
 | outgrown=>exact⟨ι',S',st',h1,h2,h3,h4⟩
theorem bX.get{base:Nat}{ι:List Ix}{S:ba}{a:Act}{w:World}{st:St}(hr:bX base ι S a w st)(t:Nat):
 au ι S w (bA st.fr t) (a.tmps.getD t undef):=hr.fr t
omit [Laid] in
theorem dC.put{ι:List Ix}{S:ba}{w:World}{fr:Fr}{tmps:Array Value}(h:dC ι S w fr tmps){t:Nat}{x:AV}{v:Value}(ht:t<tmps.size)(r:au ι S w x v):dC ι S w (eU fr t x) (tmps.setIfInBounds t v):=by
 intro u;rw[fI]
 by_cases hu:t=u
 ·subst hu;rw[if_pos rfl];simpa[Array.getD_eq_getD_getElem?,ht]using r
 ·rw[if_neg hu];have:=h u;simpa[Array.getD_eq_getD_getElem?,Array.getElem?_setIfInBounds,hu]using this
omit [Laid] in
theorem dC.Dl{ι:List Ix}{S:ba}{w:World}{fr:Fr}{tmps:Array Value}(h:dC ι S w fr tmps){t:Nat}{x:AV}(r:au ι S w x (tmps.getD t undef)):dC ι S w (eU fr t x) tmps:=by
 intro u;rw[fI]
 by_cases hu:t=u
 ·subst hu;rw[if_pos rfl];exact r
 ·rw[if_neg hu];exact h u
omit [Laid] in
theorem K3(fB:List Nat)(fr:Fr)(t:Nat):bA (jS fB fr) t=bA fr t∨bA (jS fB fr) t=.any:=by
 unfold jS;induction fB with
 | nil=>exact .inr rfl
 | cons k r ih =>
   simp only[GO,bA];split
   ·rename_i h;subst h;exact .inl rfl
   ·exact ih
omit [Laid] in
theorem dC.norm{ι:List Ix}{S:ba}{w:World}{fr:Fr}{tmps:Array Value}(h:dC ι S w fr tmps)(fB:List Nat):dC ι S w (jS fB fr) tmps:=by
 intro t;rcases K3 fB fr t with e|e
 ·rw[e];exact h t
 ·rw[e];simp
theorem bX.put{base:Nat}{ι:List Ix}{S:ba}{a:Act}{w:World}{st:St}(hr:bX base ι S a w st){x:AV}{v:Value}(d:Option Tmp)(h:au ι S w x v):
 bX base ι S (a.put d v) w ⟨st.n,bN st.n st.fr d x,st.h⟩:=by
 cases d with
 | none=>exact hr
 | some t =>
   by_cases ht:t<st.n
   ·have hsz:=hr.sz;refine⟨hr.df,by simpa[Act.put]using hr.sz, ?_,hr.hp⟩;simp only[Act.put,bN,if_pos ht];exact dC.put hr.fr (by rw[hsz];exact ht) h
   ·refine⟨hr.df,by simpa[Act.put]using hr.sz, ?_,hr.hp⟩;have:a.tmps.setIfInBounds t v=a.tmps:=by
     have hs:=hr.sz;have hge:¬t<a.tmps.size:=by rw[hs];exact ht
     simp[Array.setIfInBounds,hge]
    simp only[Act.put,bN,if_neg ht,this];exact hr.fr
end
omit [Laid] in
theorem wp_loop_ghost{α:Type}{P:Program}{Q:Exit→Act→World→Prop}{a:Act}{w:World}{c:Code}(I:α→Act→World→Prop)(μ:α→Nat)(x₀:α)(h₀:I x₀ a w)
 (round:∀x a w,I x a w→c.wp P (Exit.then (fun a' w' => ∃y,I y a' w'∧μ y<μ x) Q) a w):(Code.loop c).wp P Q a w:=by
 intro b k cs;have key:∀n x a w,μ x=n→I x a w→∃e a' w',Q e a' w'∧Arrives P (lone (b.at a (.code c:: .inLoop c:: k)) cs w) b k cs e a' w':=by
  intro n;induction n using Nat.strongRecOn with
  | _ n ih =>
    intro x a w hn hI;obtain⟨e,a₁,w₁,hq,harr⟩:=round x a w hI b (.inLoop c:: k) cs;cases e with
    | normal =>
      obtain⟨y,hI₁,hlt⟩:=hq;obtain⟨e₂,a₂,w₂,hq₂,harr₂⟩:=ih (μ y) (hn▸hlt) y a₁ w₁ rfl hI₁;exact⟨e₂,a₂,w₂,hq₂,.of_steps (Steps.trans harr (.one step_inLoop)) harr₂⟩
    | exit id=>exact⟨_,a₁,w₁,hq,.pass (x:=.inLoop c) rfl (fun _ _=>.inl (by simp)) harr⟩
    | goto l=>exact⟨_,a₁,w₁,hq,.pass (x:=.inLoop c) rfl (fun _ _=>.inl (by simp)) harr⟩
    | ret=>exact⟨_,a₁,w₁,hq,.pass (x:=.inLoop c) rfl (fun _ _=>.inl (by simp)) harr⟩
    | panic ch=>exact⟨_,a₁,w₁,hq,.pass (x:=.inLoop c) rfl (fun _ _=>.inl (by simp)) harr⟩
    | outgrown=>exact⟨_,a₁,w₁,hq,.pass (x:=.inLoop c) rfl (fun _ _=>.inl (by simp)) harr⟩
 obtain⟨e,a',w',hq,harr⟩:=key _ x₀ a w rfl h₀;exact⟨e,a',w',hq,.of_steps (.one step_loop) harr⟩
def bV(P:Program)(f:FuncId)(args:List AV)(h:aa)(K:AV→aa→Prop):Prop:=
 ∀base ι S w vs,aE ι S w args vs→cL base ι S w h→Calls P f vs.toArray w fun e w' =>
  ∃v ι' S' r h',e=.returned v∧bS h.length base ι S w ι' S' w'∧au ι' S' w' r v∧cL base ι' S' w' h'∧h.length≤h'.length∧K r h'
theorem bV.mono{P:Program}{f:FuncId}{args:List AV}{h:aa}{K K':AV→aa→Prop}(c:bV P f args h K)(hk:∀r h',K r h'→K' r h'):bV P f args h K':=
 fun base ι S w vs h1 h2=>(c base ι S w vs h1 h2).mono fun _ _ ⟨v,ι',S',r,h',a1,a2,a3,a4,a5,a6⟩=>⟨v,ι',S',r,h',a1,a2,a3,a4,a5,hk _ _ a6⟩
def bn(P:Program)(f:FuncId)(args:List AV)(r:AV):Prop:=aV args∧Pure r∧bV P f args [] fun r' _=>r'=r
theorem cL.nil(S:ba)(w:World)(h:∀b o,S b o→b<w.heap.size)(hg:CH S w):cL w.heap.size [] S w []:=
 ⟨rfl,by simp,by simp,by simp,fun i j b hi _=>by simp[alive]at hi,h,bY _,hg⟩
theorem cL.over{base:Nat}{ι:List Ix}{S S':ba}{w w':World}{h:aa}(hh:cL base ι S w h)(hE:bS ι.length w.heap.size ι S w ι S' w')(hst:∀b o,S' b o→b<w'.heap.size):cL base ι S' w' h:=by
 refine⟨hh.len,fun id x e=>?_,fun id t sz n e=>?_,fun id en e=>(hh.kq id en e).step hE (bY _) rfl fun b _ hb=>⟨hE.oe.block b hb,fun o ho=>(hE.new b o ho).elim (fun q=>q) fun k=>absurd hb (Nat.not_lt.2 k)⟩,hh.inj,hst,aaT hh.kx hE.oe.size,hh.gl.fV hE⟩;rotate_left
 ·obtain⟨v,h1,h2⟩:=hh.tok id t sz n e;refine⟨v,h1,h2.fB fun b hb _ hlt=>⟨hE.oe.block b hlt,fun o ho=>?_⟩⟩;rcases hE.new b o ho with k|k
  ·exact k
  ·omega
 obtain⟨b,arr,fz,h1,h2,h3,h4,h5,h6,h7,h8,h9⟩:=hh.live id x e;have hb:b<w.heap.size:=by
  rcases uP b w.heap.size with k|k
  ·exact k
  ·rw[abj k]at h3;cases h3
 refine⟨b,arr,fz,h1,h2,by rw[hE.oe.block b hb];exact h3,h4,h5,fun i c e=>?_,fun hw o ho=>?_,fun o ho=>?_,fun q o ho=>hE.sub _ _ (h9 q o ho)⟩
 ·obtain⟨v,e1,e2⟩:=h6 i c e;exact⟨v,e1,au.fV hE (bY _) c v e2⟩
 ·rcases hE.new b o ho with k|k
  ·exact h7 hw o k
  ·omega
 ·rcases hE.new b o ho with k|k
  ·exact h8 o k
  ·omega
theorem bn.call{P:Program}{f:FuncId}{args:List AV}{r:AV}(c:bn P f args r){h:aa}{K:AV→aa→Prop}(hk:K r h):bV P f args h K:=by
 obtain⟨pa,pr,c⟩:=c;intro base ι S w vs h1 h2;refine (c w.heap.size [] S w vs (aE.pure args vs pa h1) (cL.nil S w h2.iM h2.gl)).mono ?_;rintro e w' ⟨v,ι',S',r',h',e1,e2,e3,e4,_,rfl⟩;have hE:bS ι.length w.heap.size ι S w ι S' w':=⟨fun _ _=>fX.refl _,e2.sub,e2.new,e2.cell,e2.xj,e2.oe⟩;exact⟨v,ι,S',r',h,e1,hE.mono (by rw[h2.len];exact bY _) h2.kx,au.pure r' v pr e3,h2.over hE e4.iM,bY _,hk⟩
end
section
open Go Go.RowKit
variable [Laid]
variable{w w':World}{P:Program}{t:TypeId}{ι:List Ix}{arr:Array Value}{fz:Nat×Nat}{b base:Nat}{v:Value}{ks:List Nat}{S S':ba}
/-! ### Values -/
def pZ:Value→AV
 | .string s=>if s.size≤maxLen then .str s.data.toList else .any
 | x=>.v x
def ky:Value→AV
 | .agg cs=>.agg (cs.toList.map pZ)
 | x=>pZ x
omit [Laid] in
theorem uJ(ι:List Ix)(S:ba)(w:World)(x:Value):au ι S w (pZ x) x:=by
 unfold pZ;split
 ·split
  ·rename_i s h;cases s with
   | mk d=>simpa[ByteArray.size]using h
  ·simp
 ·simp
omit [Laid] in
theorem tC(ι:List Ix)(S:ba)(w:World)(x:Value):au ι S w (ky x) x:=by
 unfold ky;split
 ·rename_i cs;rw[au];refine⟨cs.toList,by simp,aE.mk (by simp) fun i a v e f=>?_⟩;simp only[iN,f,abh,On]at e;subst e;exact uJ ι S w v
 ·exact uJ ι S w x
def aG(fr:Fr):Operand→AV
 | .tmp t=>bA fr t
 | .const v=>ky v
 | .global g=>match Laid.Vj g with|some cs=>.ip cs|none=>.any
 | .func f=>.fn (.func f) [] []
theorem bX.eval{base:Nat}{ι:List Ix}{S:ba}{a:Act}{w:World}{st:St}(hr:bX base ι S a w st)(x:Operand):au ι S w (aG st.fr x) (a.eval x):=by
 cases x with
 | tmp t=>exact hr.get t
 | const v=>exact tC ι S w v
 | global g =>
   simp only[aG,Act.eval];split
   ·rename_i cs e;rw[au];exact⟨g,0,rfl,bD.pure cs g 0 (Laid.pure g cs e) (hr.hp.gl g cs e).1⟩
   ·simp
 | func f=>simp only[aG,Act.eval];rw[au];exact⟨[],[],rfl,by simp,by simp⟩
def bl:AV→List AV
 | .agg cs=>cs
 | x=>[x]
def bQ:AV→Bool
 | .v x=>x.oneCell'
 | .any|.agg _|.aA _=>false
 | _=>true
omit [Laid] in
theorem Af{a:AV}(h:bQ a=true)(r:au ι S w a v):v.oneCell'=true:=by
 cases a<;>simp only[bQ,aaJ]at h
 case v x=>simp at r;subst r;exact h
 case str l=>simp at r;rw[r.1];rfl
 case emp=>rw[au]at r;obtain⟨a,rfl⟩:=r;rfl
 case sl=>rw[au]at r;obtain⟨a,cap,rfl,_⟩:=r;rfl
 case sb=>rw[au]at r;obtain⟨⟨a,cap,rfl,_⟩,_⟩:=r;rfl
 case ip=>rw[au]at r;obtain⟨a,cap,rfl,_⟩:=r;rfl
 case own=>rw[au]at r;obtain⟨b,a,cap,n,ty,_,rfl,_⟩:=r;rfl
 case op=>rw[au]at r;obtain⟨b,_,rfl⟩:=r;rfl
 case fn=>rw[au]at r;obtain⟨b,c,rfl,_⟩:=r;rfl
 case gV=>rw[au]at r;obtain⟨b,rfl,_⟩:=r;rfl
 case mp=>rw[au]at r;obtain⟨b,_,rfl⟩:=r;rfl
omit [Laid] in
theorem Lz(h:v.oneCell'=true):v.cells=#[v]:=by cases v<;>first|rfl|cases h
omit [Laid] in
theorem uK{a:AV}(r:au ι S w a v)(h:(bl a).all bQ=true):∃vs:List Value,v.cells=vs.toArray∧aE ι S w (bl a) vs∧∀u∈vs,u.oneCell'=true:=by
 have key:∀{cs:List AV} {vs:List Value},aE ι S w cs vs→cs.all bQ=true→∀u∈vs,u.oneCell'=true:=by
  intro cs;induction cs with
  | nil=>intro vs h _ u hu;simp at h;subst h;cases hu
  | cons c cs ih =>
    intro vs h hs u hu;cases vs with
    | nil=>simp at h
    | cons v vs =>
      simp at h hs;simp only[ID]at hu;rcases hu with rfl|hu
      ·exact Af hs.1 h.1
      ·exact ih h.2 (by simpa using hs.2) u hu
 cases a
 case agg cs =>
  rw[au]at r;obtain⟨vs,rfl,k⟩:=r;exact⟨vs,rfl,k,key k h⟩
 all_goals
  simp only[bl,aa2,List.all_nil,Bool.and_true]at h;have:=Af h r;exact⟨[v],by rw[Lz this],(bO _ _ _ _).2 ⟨r,by simp⟩,by simpa using this⟩
/-! ### Memory -/
omit [Laid] in
theorem zj(o:Obj){x:TypeId×Nat}(h:w.shape? b=some x):(w.alloc o).shape? b=some x:=by
 unfold World.shape? at *;have hb:b<w.heap.size:=by
  rcases uP b w.heap.size with k|k
  ·exact k
  ·rw[abj k]at h;cases h
 rw[show (w.alloc o).heap[b]?=w.heap[b]? from Below.heap_alloc w o b hb];exact h
omit [Laid] in
theorem bS.alloc{base:Nat}{ι:List Ix}{S:ba}{w:World}(hb:base≤w.heap.size)(hs:∀b o,S b o→b<w.heap.size)(o:Obj)(k:List Ix):bS ι.length base ι S w (ι++k) S (w.alloc o):=
 ⟨fun i hi=>fX.of_eq (gO hi),fun _ _ h=>h,fun _ _ h=>.inl h,
  fun b f h=>World.cell?_of_block (w:=w) (Below.heap_alloc w o b (hs b f h)),fun _ _ h=>zj o h,(Below.refl _ _).alloc hb o⟩
omit [Laid] in
theorem xS{o:Obj}(k:w.heap[b]?=some o):b<w.heap.size:=by
 rcases uP b w.heap.size with q|q
 ·exact q
 ·rw[abj q]at k;cases k
theorem cL.vY{ι ι':List Ix}{h h':aa}(hh:cL base ι S w h)(hE:bS ι.length base ι S w ι' S' w')(hlen:ι'.length=h'.length)(T:Nat)
 (old:∀i,i≠T→alive h'[i]?→h'[i]?=h[i]?∧ι'[i]?=ι[i]?∧∀b,A7 ι[i]? b→b<w.heap.size→w'.heap[b]?=w.heap[b]?∧∀o,S' b o→S b o)
 (newb:∀x,h'[T]?=some (.ah x)→∃b arr fz,ι'[T]?=some (.ah b)∧base≤b∧w'.heap[b]?=some (.cells arr x.ty fz)∧(∀o,o<arr.size→¬(fz.1≤o∧o<fz.2))∧x.cells.length≤arr.size ∧
  (∀(i:Nat) (c:AV),x.cells[i]?=some c→∃v,arr[i]?=some v∧au ι' S' w' c v)∧(x.wr=true→∀o,¬S' b o)∧(∀o,S' b o→o<x.cells.length)∧(x.wr=false→∀o,o<x.cells.length→S' b o))
 (newt:∀e sz n,h'[T]?=some (.tok e sz n)→∃v,ι'[T]?=some (.tok n v)∧uL base S' w' e sz n v)
 (newo:∀en,h'[T]?=some en→sH ι' S' w' base ι'[T]? en)
 (hinj:∀j b,j≠T→alive h'[T]?→alive h'[j]?→A7 ι'[T]? b→A7 ι'[j]? b→False)
 (hstb:∀b o,S' b o→b<w'.heap.size) (hbas:base≤w'.heap.size):cL base ι' S' w' h':=by
 refine⟨hlen,fun id x e=>?_,fun id t sz n e=>?_,fun id en e=>?_,fun i j b ai aj hi hj=>?_,hstb,hbas,hh.gl.fV hE⟩;rotate_left 2
 ·by_cases q:id=T
  ·subst q;exact newo en e
  ·by_cases hd:en=.dead
   ·subst hd;trivial
   ·obtain⟨o1,o2,o3⟩:=old id q (by rw[e];cases en<;>first|trivial|exact absurd rfl hd);exact (hh.kq id en (o1▸e)).step hE (bY _) o2 fun b hb=>o3 b (by rw[hb];rfl)
 rotate_left 1
 ·by_cases q:id=T
  ·subst q;exact newb x e
  ·obtain⟨o1,o2,o3⟩:=old id q (by rw[e];exact trivial);obtain⟨b,arr,fz,h1,h2,h3,h4,h5,h6,h7,h8,h9⟩:=hh.live id x (o1▸e);obtain⟨p1,p2⟩:=o3 b (by rw[h1];rfl) (xS h3);exact⟨b,arr,fz,o2.trans h1,h2,p1.trans h3,h4,h5,fun i c ec=>let ⟨v,e1,e2⟩:=h6 i c ec;⟨v,e1,au.fV hE (bY _) c v e2⟩,
    fun hw o ho=>h7 hw o (p2 o ho),fun o ho=>h8 o (p2 o ho),fun hw o ho=>hE.sub _ _ (h9 hw o ho)⟩
 ·by_cases q:id=T
  ·subst q;exact newt t sz n e
  ·obtain⟨o1,o2,o3⟩:=old id q (by rw[e];exact trivial);obtain⟨v,h1,h2⟩:=hh.tok id t sz n (o1▸e);exact⟨v,o2.trans h1,h2.fB fun b hb _ hlt=>o3 b (by rw[h1];exact hb) hlt⟩
 ·by_cases q:i=T
  ·by_cases r:j=T
   ·rw[q,r]
   ·subst q;exact (hinj j b r ai aj hi hj).elim
  ·by_cases r:j=T
   ·subst r;exact (hinj i b q aj ai hj hi).elim
   ·obtain⟨o1,o2,_⟩:=old i q ai;obtain⟨p1,p2,_⟩:=old j r aj;exact hh.inj i j b (o1▸ai) (p1▸aj) (o2▸hi) (p2▸hj)
theorem cL.B0{h:aa}(hh:cL base ι S w h){i b:Nat}(ha:alive h[i]?)(hb:A7 ι[i]? b):base≤b∧b<w.heap.size:=by
 cases e:h[i]? with
 | none=>rw[e]at ha;exact ha.elim
 | some x =>
   cases x with
   | dead=>rw[e]at ha;exact ha.elim
   | ah x =>
     obtain⟨c,arr,fz,h1,h2,h3,_⟩:=hh.live i x e;rw[h1]at hb;have:c=b:=hb;subst this;exact⟨h2,xS h3⟩
   | mp c es =>
     obtain⟨d,h1,h2,h3⟩:=(hh.kq i _ e).at (.inl ⟨_,_,rfl⟩);rw[h1]at hb;have:d=b:=hb;subst this;exact⟨h2,h3⟩
   | it m s sn l =>
     obtain⟨d,h1,h2,h3⟩:=(hh.kq i _ e).at (.inr ⟨_,_,_,_,rfl⟩);rw[h1]at hb;have:d=b:=hb;subst this;exact⟨h2,h3⟩
   | tok t sz n =>
     obtain⟨v,h1,a,cap,ev,_,_,h4⟩:=hh.tok i t sz n e;rw[h1]at hb;obtain⟨a',l',cap',ev',hb,hc⟩:=hb;rw[ev]at ev';cases ev';rcases h4 with h4|⟨c,arr,fz,ea,k1,k2,_⟩
     ·exact absurd h4 hc
     ·cases ea;simp only at hb;subst hb;exact⟨k1,xS k2⟩
omit [Laid] in
theorem Qw{α:Type}{l k:List α}{i:Nat}(h:i<l.length):(l++k)[i]?=l[i]?:=gO h
omit [Laid] in
theorem kz{α:Type}{l:List α}{x:α}:(l++[x])[l.length]?=some x:=by simp
omit [Laid] in
theorem nH{α:Type}{l:List α}{x:α}{i:Nat}(h:i≠l.length):(l++[x])[i]?=l[i]?:=by
 rcases uP i l.length with q|q
 ·exact Qw q
 ·rw[iS (by simp;omega),iS q]
theorem cL.push{h:aa}(hh:cL base ι S w h)(ix:Ix)(en:aL)(hE:bS ι.length base ι S w (ι++[ix]) S' w')
 (same:∀b,b<w.heap.size→base≤b→w'.heap[b]?=w.heap[b]?∧∀o,S' b o→S b o)
 (newb:∀x,en=.ah x→∃b arr fz,ix=.ah b∧base≤b∧w'.heap[b]?=some (.cells arr x.ty fz)∧(∀o,o<arr.size→¬(fz.1≤o∧o<fz.2))∧x.cells.length≤arr.size ∧
  (∀(i:Nat) (c:AV),x.cells[i]?=some c→∃v,arr[i]?=some v∧au (ι++[ix]) S' w' c v)∧(x.wr=true→∀o,¬S' b o)∧(∀o,S' b o→o<x.cells.length)∧(x.wr=false→∀o,o<x.cells.length→S' b o))
 (newt:∀e sz n,en=.tok e sz n→∃v,ix=.tok n v∧uL base S' w' e sz n v)
 (newo:sH (ι++[ix]) S' w' base (some ix) en)
 (hnew:en≠.dead→∀b,A7 (some ix) b→w.heap.size≤b) (hstb:∀b o,S' b o→b<w'.heap.size):cL base (ι++[ix]) S' w' (h++[en]):=by
 have hl:=hh.len;refine hh.vY hE (by simp[hl]) h.length (fun i hi ha=>?_) (fun x e=>?_) (fun e sz n q=>?_) (fun en' q=>by rw[kz]at q;cases q;rw[←hl,kz];exact newo) (fun j b hj aT aj hi hj' => ?_) hstb (aaT hh.kx hE.oe.size)
 ·have hi':i≠ι.length:=by rw[hl];exact hi
  refine⟨nH hi,nH hi',fun b hb hlt=>?_⟩;rw[nH hi]at ha;exact same b hlt (hh.B0 ha hb).1
 ·rw[kz]at e;obtain⟨b,arr,fz,h1,h2⟩:=newb x (by simpa using e);exact⟨b,arr,fz,by rw[←hl,kz,h1],h2⟩
 ·rw[kz]at q;obtain⟨v,h1,h2⟩:=newt e sz n (by simpa using q);exact⟨v,by rw[←hl,kz,h1],h2⟩
 ·rw[←hl,kz]at hi;rw[nH hj]at aj;rw[nH (by rw[hl];exact hj)]at hj';have hd:en≠.dead:=by rintro rfl;rw[kz]at aT;exact aT
  have h1:=hnew hd b hi;have h2:=(hh.B0 aj hj').2;omega
theorem cL.alloc{base:Nat}{ι:List Ix}{S:ba}{w:World}{h:aa}(hh:cL base ι S w h)(t:TypeId)(cs:List AV)(vs:List Value)(r:aE ι S w cs vs)(fz:Nat×Nat:=(0,0))(more:List Value:=[])
 (hf:∀o,o<vs.length+more.length→¬(fz.1≤o∧o<fz.2)) :
 cL base (ι++[.ah w.heap.size]) S (w.alloc (.cells (vs++more).toArray t fz)) (h++[.ah ⟨t,cs,true⟩]):=by
 have hE:bS ι.length base ι S w (ι++[.ah w.heap.size]) S (w.alloc (.cells (vs++more).toArray t fz)):=bS.alloc hh.kx (fun b o=>hh.iM b o) _ _;have hnew:(w.alloc (.cells (vs++more).toArray t fz)).heap[w.heap.size]?=some (.cells (vs++more).toArray t fz):=by
  show (w.heap.push _)[w.heap.size]?=_;simp
 have hl:=r.length;have hf':∀o,o<(vs++more).toArray.size→¬(fz.1≤o∧o<fz.2):=by intro o ho;exact hf o (by simpa using ho)
 refine hh.push _ _ hE (fun b hb _=>⟨Below.heap_alloc w _ b hb,fun _ q=>q⟩) (fun x e=>?_) (fun _ _ _ e=>by cases e) trivial (fun _ b hb=>?_) (fun b o s=>?_)
 ·cases e;refine⟨w.heap.size,(vs++more).toArray,fz,rfl,hh.kx,hnew,hf',by simp[hl]<;>omega,fun i c e=>?_,fun _ o s=>?_,fun o s=>?_,fun q=>by cases q⟩
  ·obtain⟨v,e1,e2⟩:=r.get i c e;obtain⟨hi,_⟩:=eQ.1 e1;exact⟨v,by simp only[List.getElem?_toArray];rw[gO hi];exact e1,au.fV hE (bY _) c v e2⟩
  ·have:=hh.iM _ _ s;omega
  ·have:=hh.iM _ _ s;omega
 ·have:w.heap.size=b:=hb;omega
 ·have:=hh.iM b o s;show b<(w.heap.push _).size;simp;omega
omit [Laid] in
theorem sY(h:w.heap[b]?=some (.cells arr t fz))(o:Nat)(v:Value):
 (w.setCell ⟨b,o,none⟩ v).heap[b]?=some (.cells (arr.setIfInBounds o v) t fz):=by
 simp only[World.setCell,Array.getElem?_modify,if_true,h,abh];simp
omit [Laid] in
theorem wD(a:Addr)(v:Value)(b:Nat):(w.setCell a v).shape? b=w.shape? b:=by
 unfold World.shape? World.setCell;simp only[Array.getElem?_modify]
 by_cases hb:a.block=b
 ·simp only[hb,if_true];cases h:w.heap[b]? with
  | none=>rfl
  | some o=>cases o<;>simp;split<;>simp
 ·simp only[hb,if_false]
theorem cL.set{base:Nat}{ι:List Ix}{S:ba}{w:World}{h:aa}(hh:cL base ι S w h){id:Nat}{x:jH}(e:h[id]?=some (.ah x))(hw:x.wr=true){b:Nat}(hb:ι[id]?=some (.ah b))
 {o:Nat} (ho:o<x.cells.length) {c:AV} {v:Value} (r:au ι S w c v) :
 bS ι.length base ι S w ι S (w.setCell ⟨b,o,none⟩ v)∧cL base ι S (w.setCell ⟨b,o,none⟩ v) (h.set id (.ah { x with cells:=x.cells.set o c })):=by
 obtain⟨b',arr,fz,h1,h2,h3,h4,h5,h6,h7,h8,h9⟩:=hh.live id x e;rw[hb]at h1;cases h1;have hlt:id<h.length:=(eQ.1 e).1;have hE:bS ι.length base ι S w ι S (w.setCell ⟨b,o,none⟩ v):=by
  refine⟨fun _ _=>fX.refl _,fun _ _ h=>h,fun _ _ h=>.inl h,fun b' o' s=>?_,fun b' y hy=>by rw[wD];exact hy,(Below.refl _ _).setCell h2 v⟩;have hne:b'≠b:=fun q=>h7 hw o' (q▸s);exact World.cell?_of_block (w:=w) (Below.heap_setCell w _ v b' hne)
 refine⟨hE,hh.vY hE (by simp[hh.len]) id (fun i hi ha=>?_) (fun y ey=>?_) (fun t sz n q=>?_) (fun en q=>by rw[iD hlt]at q;cases q;trivial) (fun j c' hj _ aj hi hj' => ?_) (fun b' o' s=>by have:=hh.iM b' o' s;simpa[World.setCell]using this) (by have:=hh.kx;simpa[World.setCell]using this)⟩
 ·rw[iF (Ne.symm hi)]at ha ⊢;refine⟨rfl,rfl,fun c' hc _=>⟨Below.heap_setCell w _ v c' fun q=>?_,fun _ q=>q⟩⟩;simp only at q;subst q;exact hi (hh.inj i id c' ha (by rw[e];exact trivial) hc (by rw[hb];rfl))
 ·rw[iD hlt]at ey;cases ey;refine⟨b,arr.setIfInBounds o v,fz,hb,h2,sY h3 o v,by simpa using h4,by simpa using h5,fun i d ed=>?_,h7,by simpa using h8,fun q=>by rw[hw]at q;cases q⟩
  by_cases hi:i=o
  ·subst hi;simp only[iD ho,On]at ed;subst ed;refine⟨v, ?_,au.fV hE (bY _) c v r⟩;rw[Array.getElem?_setIfInBounds];simp;omega
  ·have ed':x.cells[i]?=some d:=by rw[iF (Ne.symm hi)]at ed;exact ed
   obtain⟨u,e1,e2⟩:=h6 i d ed';exact⟨u,by rw[Array.getElem?_setIfInBounds_ne (Ne.symm hi)];exact e1,au.fV hE (bY _) d u e2⟩
 ·rw[iD hlt]at q;cases q
 ·rw[iF (Ne.symm hj)]at aj;exact hj (hh.inj j id c' aj (by rw[e];exact trivial) hj' hi)
def bZ:List AV→Nat→List AV→List AV
 | cells,_,[]=>cells
 | cells,o,c:: cs=>bZ (cells.set o c) (o+1) cs
omit [Laid] in
theorem qv:∀(cs cells:List AV) (o:Nat),(bZ cells o cs).length=cells.length
 | [],_,_=>rfl
 | c:: cs,cells,o=>by rw[bZ,qv cs];simp
omit [Laid] in
theorem addr_add(b o i:Nat):(⟨b,o,none⟩:Addr).add i=⟨b,o+i,none⟩:=by
 unfold Addr.add;split
 ·simp_all
 ·rfl
omit [Laid] in
theorem gb(h:w.heap[b]?=some (.cells arr t fz))(o:Nat):w.cell? ⟨b,o,none⟩=arr[o]?:=by
 unfold World.cell?;simp[h]
omit [Laid] in
theorem qc(h:w.heap[b]?=some (.cells arr t fz))(o:Nat):w.frozen? ⟨b,o,none⟩=(decide (fz.1≤o)&&decide (o<fz.2)):=by
 unfold World.frozen?;simp[h]
theorem uy{P:Program}{base:Nat}{ι:List Ix}{S:ba}:∀(vs:List Value) (cs:List AV) (w:World) (h:aa),cL base ι S w h→∀{id:Nat} {x:jH} {b:Nat},h[id]?=some (.ah x)→x.wr=true→ι[id]?=some (.ah b) →
 ∀(o i:Nat),o+i+cs.length≤x.cells.length→aE ι S w cs vs→(∀u∈vs,u.oneCell'=true) →
 ∃w',(storeCells ⟨b,o,none⟩ vs i).run P w=.ok () w'∧bS ι.length base ι S w ι S w'∧cL base ι S w' (h.set id (.ah { x with cells:=bZ x.cells (o+i) cs }))
 | [],cs,w,h,hh,id,x,b,e,hw,hb,o,i,hl,r,hv=>by
   have:cs=[]:=by have:=r.length;simpa using this
   subst this;refine⟨w,rfl,bS.refl _ _ _ _ _, ?_⟩;have hlt:id<h.length:=(eQ.1 e).1;have:h.set id (.ah { x with cells:=bZ x.cells (o+i) [] })=h:=by
    rw[bZ];refine List.ext_getElem? fun j=>?_
    by_cases hj:j=id
    ·subst hj;rw[iD hlt,e]
    ·rw[iF (Ne.symm hj)]
   rw[this];exact hh
 | v:: vs,[],w,h,hh,id,x,b,e,hw,hb,o,i,hl,r,hv=>by simp at r
 | v:: vs,c:: cs,w,h,hh,id,x,b,e,hw,hb,o,i,hl,r,hv=>by
   simp only[bO]at r;simp only[aaB]at hl;have ho:o+i<x.cells.length:=by omega
   obtain⟨hE,hH⟩:=hh.set e hw hb ho r.1;have hlt:id<h.length:=(eQ.1 e).1;obtain⟨b',arr,fz,h1,h2,h3,h4,h5,h6,h7,h8,h9⟩:=hh.live id x e;rw[hb]at h1;cases h1;have hrun:(store ((⟨b,o,none⟩:Addr).add i) v).run P w=.ok () (w.setCell ⟨b,o+i,none⟩ v):=by
    rw[addr_add,run_store P w _ v _ (hv v (by simp)),gb h3,qc h3];have:arr[o+i]?=some arr[o+i]:=UP (by omega);rw[this];have:=h4 (o+i) (by omega);simp only[NO,Of,this,if_false]
   obtain⟨w',k1,k2,k3⟩:=uy vs cs (w.setCell ⟨b,o+i,none⟩ v) _ hH (id:=id) (x:={ x with cells:=x.cells.set (o+i) c }) (b:=b) (by rw[iD hlt]) hw hb o (i+1) (by simp;omega)
    (aE.fV hE (bY _) cs vs r.2) (fun u hu=>hv u (by simp[hu]))
   refine⟨w', ?_,hE.trans k2, ?_⟩
   ·rw[storeCells];simp only[aa4,hrun,Result.andThen];exact k1
   ·simp only[aaM]at k3;rw[bZ];exact k3
def aJ(n:Int):Prop:=-9223372036854775808≤n∧n≤9223372036854775807
def qD(k:IntKind)(n:Int)(K:AV→Prop):Prop:=
 match k with
 | .i64=>aJ n∧K (.v (.int .i64 n))
 | k=>K (.v (.int k (k.wrap n)))
def DS(k:IntKind):Int:=if k.signed then -1 else k.max
def di(op:BinOp)(k:IntKind)(x y:Int):Int:=
 let a:=BitVec.ofInt k.bits x
 let b:=BitVec.ofInt k.bits y
 match op with
 | .and=>k.wrap (a &&& b).toNat
 | .or=>k.wrap (a ||| b).toNat
 | .xor=>k.wrap (a ^^^ b).toNat
 | _=>k.wrap (a &&& ~~~b).toNat
def qo(op:BinOp)(k:IntKind)(a b:Int)(K:AV→Prop):Prop:=
 match op with
 | .add=>qD k (a+b) K
 | .sub=>qD k (a-b) K
 | .mul=>qD k (a*b) K
 | .quo=>b≠0∧K (.v (.int k (k.wrap (a.tdiv b))))
 | .rem=>b≠0∧K (.v (.int k (a.tmod b)))
 | .and=>K (.v (.int k (di .and k a b)))
 | .or=>K (.v (.int k (di .or k a b)))
 | .xor=>K (.v (.int k (di .xor k a b)))
 | .andNot=>K (.v (.int k (di .andNot k a b)))
 | .eql=>K (b_ (decide (a=b)))
 | .neq=>K (b_ (!decide (a=b)))
 | .lss=>K (b_ (decide (a<b)))
 | .leq=>K (b_ (decide (a≤b)))
 | .gtr=>K (b_ (decide (b<a)))
 | .geq=>K (b_ (decide (b≤a)))
 | _=>False
def zE(op:BinOp)(a b:List UInt8)(K:AV→Prop):Prop:=
 match op with
 | .add=>a.length+b.length≤maxLen∧K (.str (a++b))
 | .eql=>K (b_ (decide (a=b)))
 | .neq=>K (b_ (!decide (a=b)))
 | .lss=>K (b_ (Op.bytesLess a b))
 | .leq=>K (b_ (Op.bytesLess a b||decide (a=b)))
 | .gtr=>K (b_ (!(Op.bytesLess a b||decide (a=b))))
 | .geq=>K (b_ (!Op.bytesLess a b))
 | _=>False
def wX(op:BinOp)(k:IntKind)(a b:Int)(K:AV→Prop):Prop:=
 0≤b∧match op with
 | .shl=>K (.v (.int k (k.wrap (a*2^(min b.toNat k.bits)))))
 | .shr=>K (.v (.int k (a.fdiv (2^(min b.toNat k.bits)))))
 | _=>False
def lv:BinOp→Bool|.shl|.shr=>true|_=>false
def ae(op:BinOp)(x y:AV)(K:AV→Prop):Prop:=
 match x,y with
 | .v (.int k a),.v (.int k' b)=>if lv op then wX op k a b K else k=k'∧qo op k a b K
 | .str a,.str b=>zE op a b K
 | _,_=>False
def qN(op:BinOp)(x y:AV)(K:AV→Prop):Prop:=
 match x,y with
 | .v (.bool a),.v (.bool b)=>(match op with|.eql=>K (b_ (a == b))|.neq=>K (b_ (!(a == b)))|_=>False)
 | _,_=>False
def EH:Nat→AV→AV→Option Bool
 | 0,.v (.bool a),.v (.bool b)=>some (a == b)
 | 1,.v (.int k a),.v (.int k' b)=>if k=k' then some (decide (a=b)) else none
 | 2,.str a,.str b=>some (decide (a=b))
 | _,_,_=>none
def jg:List Nat→List AV→List AV→Option Bool
 | [],[],[]=>some true
 | k:: ks,x:: xs,y:: ys=>match EH k x y,jg ks xs ys with|some a,some b=>some (a&&b)|_,_=>none
 | _,_,_=>none
def lW(neg:Bool)(ks:List Nat)(x y:AV)(K:AV→Prop):Prop:=
 match x,y with
 | .agg xs,.agg ys=>(match jg ks xs ys with|some b=>K (b_ (if neg then !b else b))|none=>False)
 | _,_=>False
def aI(c a b:AV)(K:AV→Prop):Prop:=∃t,c=.v (.bool t)∧(t=true→K a)∧(t=false→K b)
def ag(c:AV)(A B:Prop):Prop:=∃t,c=.v (.bool t)∧(t=true→A)∧(t=false→B)
def ar(c:AV)(want:Bool)(A B:Prop):Prop:=(∃t,c=.v (.bool t)∧(t=want→A)∧(t=(!want)→B))∨(c=.v undef∧B)
def cq(x:AV)(K:AV→Prop):Prop:=∃t,x=.v (.bool t)∧K (b_ (!t))
def pb(x:AV)(K:AV→Prop):Prop:=∃k n,x=.v (.int k n)∧qD k (0-n) K
def cy(k:IntKind)(x:AV)(K:AV→Prop):Prop:=∃k' n,x=.v (.int k' n)∧K (.v (.int k (k.wrap n)))
def aU(i:Nat)(x:AV)(K:AV→Prop):Prop:=
 match x with
 | .aA cs=>match cs[i]? with|some c=>K c|none=>False
 | _=>False
def lF(g:Bool)(sz:Nat)(cs:List AV)(K:AV→Prop):Prop:=
 match g with
 | true=>sz≤cs.length∧K (.agg (cs.take sz))
 | false=>match cs with|c:: _=>K c|[]=>False
def rR(g:Bool)(off n:Nat)(x:AV)(K:AV→Prop):Prop:=
 match x with
 | .agg cs=>lF g n (cs.drop off) K
 | _=>False
def dH(x i:AV)(K:AV→Prop):Prop:=
 match x,i with
 | .str l,.v (.int _ n)=>(0≤n∧n<l.length)∧K (.v (.int .u8 (l.getD n.toNat 0).toNat))
 | _,_=>False
def mI(g:Bool)(sz len:Nat)(x i:AV)(K:AV→Prop):Prop:=
 match x,i with
 | .agg cs,.v (.int _ n)=>(0≤n∧n<len)∧lF g sz (cs.drop (n.toNat*sz)) K
 | _,_=>False
def eT:Option AV→Int→Option Int
 | none,d=>some d
 | some (.v (.int _ n)),_=>some n
 | _,_=>none
def eN(x:AV)(lo hi:Option AV)(K:AV→Prop):Prop:=
 match x with
 | .str l=>(match eT lo 0,eT hi l.length with
   | some a,some b=>(0≤a∧a≤b∧b≤l.length)∧K (.str ((l.take b.toNat).drop a.toNat))
   | _,_=>False)
 | _=>False
def mZ:AV→AV
 | .v (.slice none 0 0)=>.emp
 | .sb _ sz rows=>.sl sz rows
 | x=>x
def lg(n:Nat)(x:AV)(lo hi:Option AV)(K:AV→Prop):Prop:=
 match mZ x with
 | .sl sz rows=>(match eT lo 0,eT hi rows.length with
   | some a,some b=>sz=n∧(0≤a∧a≤b∧b≤rows.length)∧K (.sl sz ((rows.take b.toNat).drop a.toNat))
   | _,_=>False)
 | .own id off len sz=>(match eT lo 0,eT hi len with
   | some a,some b=>sz=n∧(0≤a∧a≤b∧b≤len)∧K (.own id (off+a.toNat*sz) (b-a).toNat sz)
   | _,_=>False)
 | .emp=>(match eT lo 0,eT hi 0 with
   | some a,some b=>(a=0∧b=0)∧K .emp
   | _,_=>False)
 | _=>False
def chunks(sz:Nat):Nat→List AV→List (List AV)
 | 0,_=>[]
 | n+1,cs=>cs.take sz:: chunks sz n (cs.drop sz)
def qp(n sz:Nat)(x:AV)(lo hi:Option AV)(h:aa)(K:AV→Prop):Prop:=
 match x with
 | .op id off=>(match eT lo 0,eT hi n,h[id]? with
   | some a,some b,some (.ah ah)=>(off+n*sz≤ah.cells.length∧0≤a∧a≤b∧b≤n∧n≤maxLen)∧K (.own id (off+a.toNat*sz) (b-a).toNat sz)
   | _,_,_=>False)
 | .ip cs=>(match eT lo 0,eT hi n with
   | some a,some b=>(n*sz≤cs.length∧0<n∧n≤maxLen∧a=0∧b=n)∧K (.sl sz (chunks sz n cs))
   | _,_=>False)
 | _=>False
def aQ(m:Nat)(x i:AV)(K:AV→Prop):Prop:=
 match mZ x,i with
 | .sl sz rows,.v (.int _ n)=>sz=m∧(0≤n∧n<rows.length)∧K (.ip (rows.getD n.toNat []))
 | .own id off len sz,.v (.int _ n)=>sz=m∧(0≤n∧n<len)∧K (.op id (off+n.toNat*sz))
 | _,_=>False
def eR(len sz:Nat)(x i:AV)(K:AV→Prop):Prop:=
 match x,i with
 | .op id off,.v (.int _ n)=>(0≤n∧n<len)∧K (.op id (off+n.toNat*sz))
 | .ip cs,.v (.int _ n)=>(0≤n∧n<len)∧K (.ip (cs.drop (n.toNat*sz)))
 | _,_=>False
def bp(off:Nat)(x:AV)(K:AV→Prop):Prop:=
 match x with
 | .ip cs=>K (.ip (cs.drop off))
 | .op id o=>K (.op id (o+off))
 | _=>False
def wW(x:AV)(K:AV→Prop):Prop:=
 match x with
 | .ip _|.op _ _=>K x
 | .fn (.func _) _ _=>K x
 | _=>False
def ak(g:Bool)(sz:Nat)(x:AV)(h:aa)(K:AV→Prop):Prop:=
 match x with
 | .ip cs=>lF g sz cs K
 | .op id o=>(match h[id]? with
   | some (.ah b)=>lF g sz (b.cells.drop o) K
   | _=>False)
 | _=>False
def ao(sz:Nat)(x v:AV)(h:aa)(K:aa→Prop):Prop:=
 match x with
 | .op id o=>(match h[id]? with
   | some (.ah b)=>(b.wr=true∧o+(bl v).length≤b.cells.length∧(bl v).length=sz∧(bl v).all bQ=true)∧K (h.set id (.ah { b with cells:=bZ b.cells o (bl v) }))
   | _=>False)
 | _=>False
def aW(t:TypeId)(v:AV)(h:aa)(K:AV→aa→Prop):Prop:=
 (bl v).all bQ=true∧K (.op h.length 0) (h++[.ah ⟨t,bl v,true⟩])
def dQ:List AV→List (Nat×Nat×AV)→Option (List AV)
 | cells,[]=>some cells
 | cells,(o,n,x):: r=>if (bl x).length=n∧o+n≤cells.length∧(bl x).all bQ=true then dQ (bZ cells o (bl x)) r else none
def aY(zero:AV)(parts:List (Nat×Nat×AV))(K:AV→Prop):Prop:=
 match dQ (bl zero) parts with
 | some cs=>K (.agg cs)
 | none=>False
def gQ:Nat→List AV→List AV
 | 0,_=>[]
 | n+1,z=>z++gQ n z
def ou(t len sz:Nat)(zero:AV)(parts:List (Nat×Nat×AV))(h:aa)(K:AV→aa→Prop):Prop:=
 match dQ (gQ len (bl zero)) parts with
 | some cs=>(match len with
   | 0=>K .emp h
   | len+1=>K (.own h.length 0 (len+1) sz) (h++[.ah ⟨t,cs,true⟩]))
 | none=>False
def br(len sz:Nat)(zero:AV)(parts:List (Nat×Nat×AV))(K:AV→Prop):Prop:=
 match dQ (gQ len (bl zero)) parts with
 | some cs=>K (.sl sz (chunks sz len cs))
 | none=>False
def jB(h:aa)(sz:Nat)(x:AV):Option (List (List AV)):=
 match mZ x with
 | .emp=>some []
 | .sl sz' rows=>if sz'=sz then some rows else none
 | .own id off len sz' => (match h[id]? with
   | some (.ah b)=>if sz'=sz∧off+len*sz≤b.cells.length then some (chunks sz len (b.cells.drop off)) else none
   | _=>none)
 | _=>none
def bg(b:UInt8):AV:=.v (.int .u8 b.toNat)
def Ct:AV→Option (List (List AV))
 | .str l=>some (l.map fun b=>[bg b])
 | _=>none
def dk(sz:Nat)(r:List AV):Bool:=r.length == sz&&r.all bQ
def jF(bytes n:Nat):Prop:=n≤maxLen∧n*bytes≤140737488355328
def xb:AV→AV
 | .v (.slice none 0 0)=>.emp
 | x=>x
def eE(own:Bool)(e sz bytes:Nat)(x:AV)(src:Option (List (List AV)))(h:aa)(K:AV→aa→Prop):Prop:=
 match src with
 | none=>False
 | some rows=>rows.all (dk sz)=true∧match xb x with
   | .emp=>(match own with
     | false=>jF bytes rows.length∧K (.sb h.length sz rows) (h++[.tok e sz rows.length])
     | true=>rows≠[]∧jF bytes rows.length∧K (.own h.length 0 rows.length sz) (h++[.ah ⟨e,rows.flatten,true⟩]))
   | .sb id sz' base=>(match h[id]? with
     | some (.tok e' sz'' k)=>(sz'=sz∧sz''=sz∧e'=e∧k=base.length)∧jF bytes (k+rows.length)∧K (.sb id sz (base++rows)) (h.set id (.tok e sz (k+rows.length)))
     | _=>False)
   | .own id off len sz' => (match h[id]? with
     | some (.ah b)=>(off=0∧sz'=sz∧b.wr=true∧b.ty=e∧len*sz≤b.cells.length)∧0<len+rows.length∧jF bytes (len+rows.length) ∧
      K (.own h.length 0 (len+rows.length) sz) (h.set id .dead++[.ah ⟨e,b.cells.take (len*sz)++rows.flatten,true⟩])
     | _=>False)
   | _=>False
def bP(own:Bool)(e sz bytes:Nat)(x y:AV)(h:aa)(K:AV→aa→Prop):Prop:=eE own e sz bytes x (jB h sz y) h K
def mH(own:Bool)(e bytes:Nat)(x y:AV)(h:aa)(K:AV→aa→Prop):Prop:=eE own e 1 bytes x (Ct y) h K
def jO(P:Program)(e:TypeId):Nat:=((P.info? e).map (·.bytes)).getD 0
def sD(P:Program)(e:TypeId):Bool:=
 match P.info? e with
 | some i=>(match i.zero with|some z=>z.cells.size == i.size|none=>false)
 | none=>false
def qO(e sz bytes:Nat)(zero len cap:AV)(h:aa)(K:AV→aa→Prop):Prop:=
 match len,cap with
 | .v (.int _ l),.v (.int _ c)=>(0≤l∧l≤c∧(bytes:Int)*c≤281474976710656∧c≤9223372036854775807)∧K (.own h.length 0 l.toNat sz) (h++[.ah ⟨e,gQ c.toNat (bl zero),true⟩])
 | _,_=>False
def iP(e:Nat)(x:AV)(h:aa)(K:AV→aa→Prop):Prop:=
 match x with
 | .str l=>K (.own h.length 0 l.length 1) (h++[.ah ⟨e,l.map bg,true⟩])
 | _=>False
def wG:List AV→Option (List UInt8)
 | []=>some []
 | .v (.int .u8 n):: r=>(wG r).map (UInt8.ofNat n.toNat:: ·)
 | _=>none
def cJ(x:AV)(h:aa)(K:AV→Prop):Prop:=
 match (jB h 1 x).bind fun p=>wG p.flatten with
 | some l=>K (.str l)
 | none=>False
def BZ(P:Program)(e:TypeId):Bool:=match P.underlying e with|some (.int .u8)=>true|_=>false
def cR(x:AV)(K:AV→Prop):Prop:=
 match x with
 | .str l=>l.length≤maxLen→K (i_ l.length)
 | _=>False
def bu(x:AV)(K:AV→Prop):Prop:=
 match mZ x with
 | .sl _ rows=>rows.length≤maxLen→K (i_ rows.length)
 | .own _ _ len _=>len≤maxLen→K (i_ len)
 | .emp=>K (i_ 0)
 | _=>False
def nT(x y:AV)(K:AV→Prop):Prop:=
 match x,y with
 | .v (.int k a),.v (.int k' b)=>k=k'∧K (.v (.int k (if b<a then b else a)))
 | _,_=>False
def kr(x y:AV)(K:AV→Prop):Prop:=
 match x,y with
 | .v (.int k a),.v (.int k' b)=>k=k'∧K (.v (.int k (if b > a then b else a)))
 | _,_=>False
/-! ### Types -/
def rS:TypeDesc→Bool
 | .struct _|.array _ _=>true
 | _=>false
def fx(P:Program)(t:TypeId):Bool:=match P.underlying t with|some d=>rS d|none=>false
def fT(P:Program)(t:TypeId):Bool:=(P.info? t).isSome&&(P.underlying t).isSome
def jG(P:Program)(t:TypeId):Option AV:=(P.info? t).bind fun i=>i.zero.map ky
def ug(g:TypeId→Option (List Nat))(P:Program):Nat→List Field→Option (List Nat)
 | _,[]=>some []
 | o,f:: fs=>if f.offset=o∧f.name ≠ "_" then (g f.type).bind fun ks=>if P.cellsOf f.type=ks.length∧0<ks.length then (ug g P (o+ks.length) fs).map (ks++·) else none else none
def Cn:Nat→List Nat→List Nat
 | 0,_=>[]
 | n+1,ks=>ks++Cn n ks
def mF(P:Program):Nat→TypeId→Option (List Nat)
 | 0,_=>none
 | d+1,t =>
   if fT P t then
    match P.underlying t with
    | some .bool=>some [0]
    | some (.int _)=>some [1]
    | some .string=>some [2]
    | some (.struct fs)=>if P.stoodInHeld t then none else ug (mF P d) P 0 fs.toList
    | some (.array n e)=>(mF P d e).bind fun ks=>if P.cellsOf e=ks.length∧0<ks.length then some (Cn n ks) else none
    | _=>none
   else none
def dr(P:Program)(f:FuncId):Bool:=(P.funcs[f]?).any (fun fn=>fn.body.isSome&&fn.name != "runtime.NumGoroutine")
def bz(P:Program)(x:AV)(args:List AV)(h:aa)(K:AV→aa→Prop):Prop:=
 match x with
 | .fn (.func f) first cap=>dr P f=true∧bV P f (first++args++cap) h K
 | _=>False
def A6(x:AV)(K:AV→Prop):Prop:=
 match x with
 | .str _=>K x
 | _=>False
/-! ### Interfaces,nil -/
def vu:AV→Option Bool|.v .nilIface=>some true|.gV _ _=>some false|_=>none
def tp:AV→Option Bool|.v (.pointer none)=>some true|.op _ _=>some false|.ip _=>some false|_=>none
def vv:AV→Option Bool
 | .v (.slice none _ _)=>some true
 | .own _ _ len _=>(match len with|0=>none|_+1=>some false)
 | .sl _ rows=>(match rows with|[]=>none|_:: _=>some false)
 | .sb _ _ rows=>(match rows with|[]=>none|_:: _=>some false)
 | _=>none
def rW(neg b:Bool):Bool:=match neg with|true=>!b|false=>b
def kB(neg:Bool)(r:Option Bool)(K:AV→Prop):Prop:=match r with|some b=>K (b_ (rW neg b))|none=>False
def xN(neg:Bool)(d:TypeDesc)(y:Operand)(x:AV)(K:AV→Prop):Prop:=
 match d,y with
 | .interface _,.const .nilIface=>kB neg (vu x) K
 | .pointer _,.const (.pointer none)=>kB neg (tp x) K
 | .slice _,.const (.slice none _ _)=>kB neg (vv x) K
 | _,_=>False
def pd(P:Program)(name:String)(t:TypeId):Option FuncId:=
 match P.info? t,P.underlying t with
 | some i,some (.pointer _)=>(match i.methods.find? (·.name == name) with
   | some m=>(match m.path.toList,m.func with|[],some (f,true)=>(match dr P f with|true=>some f|false=>none)|_,_=>none)
   | none=>none)
 | _,_=>none
def EY(P:Program)(asserted t:TypeId):Bool:=
 match P.underlying asserted,P.info? t with
 | some (.interface want),some i=>(lacking want i.methods).isEmpty
 | _,_=>false
def oZ(t:TypeId)(x:AV)(K:AV→Prop):Prop:=K (.gV t x)
def zC(has:TypeId→Bool)(x:AV)(K:AV→Prop):Prop:=
 match x with
 | .gV t v=>has t=true∧K (.aA [.gV t v,b_ true])
 | _=>False
def wV(P:Program)(row:TypeId→Option FuncId)(x:AV)(args:List AV)(h:aa)(K:AV→aa→Prop):Prop:=
 match x with
 | .gV t v=>(match row t with|some f=>bV P f (v:: args) h K|none=>False)
 | _=>False
def ca(P:Program)(x:AV)(K:AV→Prop):Prop:=
 match x with
 | .fn (.method name) (.gV t v:: r) ys=>(pd P name t).isSome=true∧K (.fn (.method name) (.gV t v:: r) ys)
 | x=>wW x K
abbrev cM(b:Bool)(X:Prop):Prop:=match b with|true=>X|false=>False
def bE(P:Program)(own:Bool)(ev:Operand→AV)(h:aa)(op:Op)(K:AV→aa→Prop):Prop:=
 match op with
 | .move x|.assign x=>K (ev x) h
 | .pick c a b=>aI (ev c) (ev a) (ev b) fun v=>K v h
 | .binOp op t x y _ =>
   if fx P t then
    match op with
    | .eql=>cM (!P.eqGuardType P.depth t) (match mF P 8 t with|some ks=>lW false ks (ev x) (ev y) fun v=>K v h|none=>False)
    | .neq=>cM (!P.eqGuardType P.depth t) (match mF P 8 t with|some ks=>lW true ks (ev x) (ev y) fun v=>K v h|none=>False)
    | _=>False
   else match P.underlying t with
    | some .bool=>qN op (ev x) (ev y) fun v=>K v h
    | some (.int _)|some .string=>ae op (ev x) (ev y) fun v=>K v h
    | some d=>(match op with
      | .eql=>xN false d y (ev x) fun v=>K v h
      | .neq=>xN true d y (ev x) fun v=>K v h
      | _=>False)
    | none=>False
 | .unOp .not _ x=>cq (ev x) fun v=>K v h
 | .unOp .neg _ x=>pb (ev x) fun v=>K v h
 | .unOp .xor t x=>(match P.underlying t with|some (.int k)=>ae .xor (.v (.int k (DS k))) (ev x) fun v=>K v h|_=>False)
 | .convert s d x =>
   match P.underlying s,P.underlying d with
   | some (.int _),some (.int k)=>cy k (ev x) fun v=>K v h
   | some .string,some .string=>A6 (ev x) fun v=>K v h
   | some .string,some (.slice e)=>cM (BZ P e) (iP e (ev x) h K)
   | some (.slice e),some .string=>cM (BZ P e) (cJ (ev x) h fun v=>K v h)
   | _,_=>False
 | .extract x i=>aU i (ev x) fun v=>K v h
 | .field t x i =>
   match P.underlying t with
   | some (.struct fs)=>match fs[i]? with
     | some f=>cM (fT P f.type) (rR (fx P f.type) f.offset (P.cellsOf f.type) (ev x) fun v=>K v h)
     | none=>False
   | _=>False
 | .index t x i =>
   match P.underlying t with
   | some .string=>dH (ev x) (ev i) fun v=>K v h
   | some (.array n e)=>cM (fT P e) (mI (fx P e) (P.cellsOf e) n (ev x) (ev i) fun v=>K v h)
   | _=>False
 | .slice t x lo hi none =>
   match P.underlying t with
   | some .string=>eN (ev x) (lo.map ev) (hi.map ev) fun v=>K v h
   | some (.slice e)=>cM (fT P e) (lg (P.cellsOf e) (ev x) (lo.map ev) (hi.map ev) fun v=>K v h)
   | some (.array n e)=>cM (fT P e) (qp n (P.cellsOf e) (ev x) (lo.map ev) (hi.map ev) h fun v=>K v h)
   | _=>False
 | .indexAddr t x i =>
   match P.underlying t with
   | some (.slice e)=>cM (fT P e) (aQ (P.cellsOf e) (ev x) (ev i) fun v=>K v h)
   | some (.array n e)=>cM (fT P e) (eR n (P.cellsOf e) (ev x) (ev i) fun v=>K v h)
   | _=>False
 | .fieldAddr t x i =>
   match P.underlying t with
   | some (.struct fs)=>match fs[i]? with
     | some f=>cM (P.cellsOf f.type != 0&&fT P f.type) (bp f.offset (ev x) fun v=>K v h)
     | none=>False
   | _=>False
 | .nilCheck x=>ca P (ev x) fun v=>K v h
 | .makeInterface t x=>cM (P.concrete t) (oZ t (ev x) fun v=>K v h)
 | .typeAssert x _ asserted true=>zC (EY P asserted) (ev x) fun v=>K v h
 | .load t x=>cM (fT P t) (ak (fx P t) (P.cellsOf t) (ev x) h fun v=>K v h)
 | .store t x v=>cM (fT P t) (ao (P.cellsOf t) (ev x) (ev v) h fun h' => K (.v undef) h')
 | .alloc t=>match jG P t with
   | some z=>aW t z h K
   | none=>False
 | .box t x=>aW t (ev x) h K
 | .build t parts =>
   match P.underlying t,jG P t with
   | some (.struct fs),some z=>cM (fs.toList.all (fun f=>fT P f.type)&&parts.toList.all (fun p=>(fs[p.1]?).isSome))
    (aY z (parts.toList.map fun p=>(((fs[p.1]?).map (·.offset)).getD 0,((fs[p.1]?).map (fun f=>P.cellsOf f.type)).getD 0,ev p.2)) fun v=>K v h)
   | some (.array _ e),some z=>cM (fT P e) (aY z (parts.toList.map fun p=>(p.1*P.cellsOf e,P.cellsOf e,ev p.2)) fun v=>K v h)
   | _,_=>False
 | .buildSlice t len parts =>
   match P.underlying t with
   | some (.slice e)=>(match jG P e with
     | some z=>cM (sD P e&&fT P e&&decide (len*P.cellsOf e≤16777216)&&decide (len≤16777216)) (match own with
      | true=>br len (P.cellsOf e) z (parts.toList.map fun p=>(p.1*P.cellsOf e,P.cellsOf e,ev p.2)) fun v=>K v h
      | false=>ou e len (P.cellsOf e) z (parts.toList.map fun p=>(p.1*P.cellsOf e,P.cellsOf e,ev p.2)) h K)
     | none=>False)
   | _=>False
 | .makeSlice t l c =>
   match P.underlying t with
   | some (.slice e)=>(match jG P e with
     | some z=>cM (sD P e&&decide (0<P.cellsOf e)) (qO e (P.cellsOf e) (jO P e) z (ev l) (ev c) h K)
     | none=>False)
   | _=>False
 | .makeFunc f xs ys=>K (.fn f (xs.toList.map ev) (ys.toList.map ev)) h
 | .call c =>
   match c.callee with
   | .builtin .len=>(match c.argTypes[0]?,c.args[0]? with
     | some t,some x=>(match P.underlying t with
       | some .string=>cR (ev x) fun v=>K v h
       | some (.slice _)=>bu (ev x) fun v=>K v h
       | _=>False)
     | _,_=>False)
   | .builtin .min=>(match c.args.toList with|[x,y]=>nT (ev x) (ev y) fun v=>K v h|_=>False)
   | .builtin .max=>(match c.args.toList with|[x,y]=>kr (ev x) (ev y) fun v=>K v h|[x,y,z]=>kr (ev x) (ev y) fun u=>kr u (ev z) fun v=>K v h|_=>False)
   | .builtin .append=>(match c.argTypes.toList,c.args.toList with
     | [t,tx],[x,y]=>(match P.underlying t,P.underlying tx with
       | some (.slice e),some (.slice _)=>cM (sD P e) (bP own e (P.cellsOf e) (jO P e) (ev x) (ev y) h K)
       | some (.slice e),some .string=>cM (sD P e&&P.cellsOf e == 1) (mH own e (jO P e) (ev x) (ev y) h K)
       | _,_=>False)
     | _,_=>False)
   | .value x=>bz P (ev x) (c.args.toList.map ev) h K
   | .invoke x name=>wV P (pd P name) (ev x) (c.args.toList.map ev) h K
   | _=>False
 | _=>False
def xi(st:St)(d:Option Tmp)(x:AV)(h:aa):St:=⟨st.n,bN st.n st.fr d x,h⟩
def aN(want:Bool)(c:AV):AV:=match c with|.v (.bool _)=>.v (.bool (!want))|c=>c
def eJ(ops:Array Oper)(j:Nat):Option Tmp:=(ops[j]?).bind (·.dst)
omit [Laid] in
theorem au.mZ{ι:List Ix}{S:ba}{w:World}{x:AV}{y:Value}(h:au ι S w x y):au ι S w (Aw.mZ x) y:=by
 unfold Aw.mZ;split
 ·rw[cz]at h;subst h;rw[au];exact⟨none,rfl⟩
 ·rw[au]at h;rw[au];exact h.1
 ·exact h
omit [Laid] in
theorem au.xb{ι:List Ix}{S:ba}{w:World}{x:AV}{y:Value}(h:au ι S w x y):au ι S w (Aw.xb x) y:=by
 unfold Aw.xb;split
 ·rw[cz]at h;subst h;rw[au];exact⟨none,rfl⟩
 ·exact h
def cu(P:Program)(o:Oper)(base:Nat)(ι:List Ix)(S:ba)(a:Act)(w:World)(st:St)(K:AV→aa→Prop):Prop:=
 ∀Q:Exit→Act→World→Prop,o.wp P a w (fun a' w' => ∃ι' S' v h',bS ι.length base ι S w ι' S' w'∧bX base ι' S' a' w' (xi st o.dst v h')∧st.h.length≤h'.length∧K v h') Q
section
variable {P:Program} {o:Oper} {base:Nat} {ι ι':List Ix} {S S':ba} {a:Act} {w w':World} {st:St} {K:AV→aa→Prop} {v:AV} {u:Value} {h':aa}
theorem im(hr:bX base ι S a w st)(hrun:(execOp a.eval o).run P w=.ok (.value u) w')(hE:bS ι.length base ι S w ι' S' w')(r:au ι' S' w' v u)
 (hh:cL base ι' S' w' h') (hl:st.h.length≤h'.length) (k:K v h'):cu P o base ι S a w st K:=by
 intro Q;unfold Oper.wp;rw[hrun,Oper.upon_value];refine⟨ι',S',v,h',hE, ?_,hl,k⟩;have:bX base ι' S' a w' ⟨st.n,st.fr,h'⟩:=⟨hr.df,hr.sz,dC.fV hE (bY _) hr.fr,hh⟩;exact this.put o.dst r
theorem JK(hr:bX base ι S a w st)(hrun:(execOp a.eval o).run P w=.ok .skip w')(hE:bS ι.length base ι S w ι' S' w')
 (hh:cL base ι' S' w' h') (hl:st.h.length≤h'.length) (k:K (.v undef) h'):cu P o base ι S a w st K:=by
 intro Q;unfold Oper.wp;rw[hrun,Oper.upon_skip];refine⟨ι',S',.v undef,h',hE, ?_,hl,k⟩;have:bX base ι' S' a w' ⟨st.n,st.fr,h'⟩:=⟨hr.df,hr.sz,dC.fV hE (bY _) hr.fr,hh⟩;exact this.put (x:=.v undef) (v:=undef) o.dst (by simp)
theorem bh(hr:bX base ι S a w st)(hrun:(execOp a.eval o).run P w=.ok (.value u) w)(r:au ι S w v u)(k:K v st.h):cu P o base ι S a w st K:=
 im hr hrun (bS.refl _ _ _ _ _) r hr.hp (bY _) k
end
omit [Laid] in
theorem fL{x:Sem Value}{u:Value}(h:x.run P w=.ok u w'):(do pure (Next.value (←x)):Sem Next).run P w=.ok (.value u) w':=by
 rw[aa4,h];rfl
omit [Laid] in
theorem ZV{x:Sem Unit}(h:x.run P w=.ok () w'):(do x;pure Next.skip:Sem Next).run P w=.ok .skip w':=by
 rw[aa4,h];rfl
omit [Laid] in
theorem nC{i:TypeInfo}(h:P.info? t=some i):(typeInfo t).run P w=.ok i w:=by
 simp[typeInfo,h]
omit [Laid] in
theorem dJ(h:fT P t=true):(sizeOf t).run P w=.ok (P.cellsOf t) w:=by
 unfold fT at h;simp only[NO,Option.isSome_iff_exists]at h;obtain⟨⟨i,hi⟩,_⟩:=h;simp[sizeOf,nC hi,Program.cellsOf,hi]
omit [Laid] in
theorem vF(h:fT P t=true):(isAgg t).run P w=.ok (fx P t) w:=by
 unfold fT at h;simp only[NO,Option.isSome_iff_exists]at h;obtain⟨_,⟨d,hd⟩⟩:=h;unfold isAgg fx;simp only[aa4,run_underlying hd,aa3,hd];cases d<;>rfl
omit [Laid] in
theorem vj{k:IntKind}{n:Int}{K:AV→Prop}(h:qD k n K):K (.v (.int k (k.wrap n))):=by
 unfold qD at h;split at h
 ·obtain⟨h1,h2⟩:=h;rw[IntWalk.i64_in n ⟨h1.1,h1.2⟩];exact h2
 ·exact h
section
variable {P:Program} {o:Oper} {base:Nat} {ι:List Ix} {S:ba} {a:Act} {w:World} {st:St} {K:AV→aa→Prop}
theorem L3{x:Operand}(hr:bX base ι S a w st)(ho:o.op=.move x∨o.op=.assign x)(h:K (aG st.fr x) st.h):cu P o base ι S a w st K:=
 bh hr (by rcases ho with ho|ho<;>simp[execOp,ho]) (hr.eval x) h
theorem U7{c x y:Operand}(hr:bX base ι S a w st)(ho:o.op=.pick c x y)(h:aI (aG st.fr c) (aG st.fr x) (aG st.fr y) fun v=>K v st.h):cu P o base ι S a w st K:=by
 obtain⟨t,e,h1,h2⟩:=h;have hc:=hr.eval c;rw[e]at hc;simp only[cz]at hc;cases t with
 | true=>exact bh hr (u:=a.eval x) (by simp[execOp,ho,hc,asBool]) (hr.eval x) (h1 rfl)
 | false=>exact bh hr (u:=a.eval y) (by simp[execOp,ho,hc,asBool]) (hr.eval y) (h2 rfl)
omit [Laid] in
theorem Rh{op:BinOp}{k:IntKind}{t:TypeId}{x y:Int}{K:AV→Prop}(hs:lv op=false)(h:qo op k x y K):∃u,(binOp op t (.int k x) (.int k y)).run P w=.ok u w∧K (.v u):=by
 cases op<;>simp only[lv,Bool.true_eq_false]at hs<;>simp only[qo]at h
 case add=>exact⟨_,by simp[binOp,Op.intArith],vj h⟩
 case sub=>exact⟨_,by simp[binOp,Op.intArith],vj h⟩
 case mul=>exact⟨_,by simp[binOp,Op.intArith],vj h⟩
 case quo=>exact⟨_,by simp[binOp,Op.intDiv,h.1],h.2⟩
 case rem=>exact⟨_,by simp[binOp,Op.intDiv,h.1],h.2⟩
 case and=>exact⟨_,by simp only[binOp,Op.intBits];rw[if_neg (by simp)];rfl,h⟩
 case or=>exact⟨_,by simp only[binOp,Op.intBits];rw[if_neg (by simp)];rfl,h⟩
 case xor=>exact⟨_,by simp only[binOp,Op.intBits];rw[if_neg (by simp)];rfl,h⟩
 case andNot=>exact⟨_,by simp only[binOp,Op.intBits];rw[if_neg (by simp)];rfl,h⟩
 case eql=>exact⟨_,by simp only[binOp,Op.intCmp];simp;rfl,h⟩
 case neq=>exact⟨_,by simp only[binOp,Op.intCmp];simp;rfl,h⟩
 case lss=>exact⟨_,by simp only[binOp,Op.intCmp];rw[if_neg (by simp)];rfl,h⟩
 case leq=>exact⟨_,by simp only[binOp,Op.intCmp];rw[if_neg (by simp)];rfl,h⟩
 case gtr=>exact⟨_,by simp only[binOp,Op.intCmp];rw[if_neg (by simp)];rfl,h⟩
 case geq=>exact⟨_,by simp only[binOp,Op.intCmp];rw[if_neg (by simp)];rfl,h⟩
omit [Laid] in
theorem L1{op:BinOp}{k k':IntKind}{t:TypeId}{x y:Int}{K:AV→Prop}(hs:lv op=true)(h:wX op k x y K):∃u,(binOp op t (.int k x) (.int k' y)).run P w=.ok u w∧K (.v u):=by
 obtain⟨h0,h⟩:=h;have h0':¬y<0:=by omega
 cases op<;>simp only[lv,aaJ]at hs<;>simp only at h
 case shl=>exact⟨_,by simp[binOp,Op.shift,h0'],h⟩
 case shr=>exact⟨_,by simp[binOp,Op.shift,h0'],h⟩
omit [Laid] in
theorem Ri{op:BinOp}{t:TypeId}{x y:List UInt8}{K:AV→Prop}(hx:x.length≤maxLen)(hy:y.length≤maxLen)(h:zE op x y K):
 ∃v u,(binOp op t (.string ⟨x.toArray⟩) (.string ⟨y.toArray⟩)).run P w=.ok u w∧(∀ι S,au ι S w v u)∧K v:=by
 have dec:∀a b:List UInt8,(a == b)=decide (a=b):=fun a b=>by by_cases q:a=b<;>simp[q]
 cases op<;>simp only[zE]at h
 case add =>
  refine⟨_,.string ⟨(x++y).toArray⟩, ?_,fun ι S=>by simpa using h.1,h.2⟩;have h1:=h.1;unfold maxLen at h1;have e1:(⟨x.toArray⟩:ByteArray).size=x.length:=rfl;have e2:(⟨y.toArray⟩:ByteArray).size=y.length:=rfl;have e3:(⟨x.toArray⟩++⟨y.toArray⟩:ByteArray)=⟨(x++y).toArray⟩:=by
   apply ByteArray.ext;simp
  simp only[binOp_string_add,Op.stringOp,e1,e2,e3];rw[if_neg (by simp only[IntKind.max,IntKind.signed,IntKind.bits];simp;omega)];rfl
 case eql=>exact⟨_,_,by simp[binOp,Op.stringOp];rfl,fun ι S=>by simp[dec],h⟩
 case neq=>exact⟨_,_,by simp[binOp,Op.stringOp];rfl,fun ι S=>by simp[dec],h⟩
 case lss=>exact⟨_,_,by simp[binOp,Op.stringOp];rfl,fun ι S=>by simp,h⟩
 case leq=>exact⟨_,_,by simp[binOp,Op.stringOp];rfl,fun ι S=>by simp[dec],h⟩
 case gtr=>exact⟨_,_,by simp[binOp,Op.stringOp];rfl,fun ι S=>by simp[dec],h⟩
 case geq=>exact⟨_,_,by simp[binOp,Op.stringOp];rfl,fun ι S=>by simp,h⟩
omit [Laid] in
theorem jV{op:BinOp}{t:TypeId}{x y:Operand}{p q:Value}(h:p.oneCell'=true)(h':p≠.nilIface):(eqGuard op t x y p q).run P w=.ok () w:=by
 unfold eqGuard;cases op<;>(try rfl)<;>cases p<;>first|rfl|(exact absurd rfl h')|cases h
theorem Py{op:BinOp}{t yt:TypeId}{x y:Operand}(hr:bX base ι S a w st)(ho:o.op=.binOp op t x y yt)
 (h:ae op (aG st.fr x) (aG st.fr y) fun v=>K v st.h):cu P o base ι S a w st K:=by
 have hx:=hr.eval x;have hy:=hr.eval y;generalize aG st.fr x=X at *;generalize aG st.fr y=Y at *;unfold ae at h;split at h
 ·rename_i k p k' q;simp only[cz]at hx hy;have hg:(eqGuard op t x y (a.eval x) (a.eval y)).run P w=.ok () w:=jV (by rw[hx];rfl) (by rw[hx];intro e;cases e);split at h
  ·rename_i hs;obtain⟨u,e,k1⟩:=L1 (P:=P) (w:=w) (t:=t) (k':=k') hs h;exact bh hr (u:=u) (by simp only[execOp,ho];exact fL (by rw[aa4,hg];simpa[hx,hy]using e)) (by simp) k1
  ·rename_i hs;obtain⟨rfl,h⟩:=h;obtain⟨u,e,k1⟩:=Rh (P:=P) (w:=w) (t:=t) (by simpa using hs) h;exact bh hr (u:=u) (by simp only[execOp,ho];exact fL (by rw[aa4,hg];simpa[hx,hy]using e)) (by simp) k1
 ·rename_i p q;simp only[eA]at hx hy;have hg:(eqGuard op t x y (a.eval x) (a.eval y)).run P w=.ok () w:=jV (by rw[hx.1];rfl) (by rw[hx.1];intro e;cases e);obtain⟨v,u,e,r,k1⟩:=Ri (P:=P) (w:=w) (t:=t) hx.2 hy.2 h;exact bh hr (u:=u) (by simp only[execOp,ho];exact fL (by rw[aa4,hg];simpa[hx.1,hy.1]using e)) (r ι S) k1
 ·exact h.elim
theorem UR{op:BinOp}{t yt:TypeId}{x y:Operand}(hr:bX base ι S a w st)(ho:o.op=.binOp op t x y yt)(ht:P.underlying t=some .bool)
 (h:qN op (aG st.fr x) (aG st.fr y) fun v=>K v st.h):cu P o base ι S a w st K:=by
 have hx:=hr.eval x;have hy:=hr.eval y;generalize aG st.fr x=X at *;generalize aG st.fr y=Y at *;unfold qN at h;split at h
 ·rename_i p q;simp only[cz]at hx hy;have hg:(eqGuard op t x y (a.eval x) (a.eval y)).run P w=.ok () w:=jV (by rw[hx];rfl) (by rw[hx];intro e;cases e);split at h
  ·exact bh hr (u:=.bool (p == q)) (by simp only[execOp,ho];exact fL (by rw[aa4,hg];simpa[hx,hy]using run_eql_bool w t p q ht)) (by simp) h
  ·exact bh hr (u:=.bool (!(p == q))) (by simp only[execOp,ho];exact fL (by rw[aa4,hg];simpa[hx,hy]using run_neq_bool w t p q ht)) (by simp) h
  ·exact h.elim
 ·exact h.elim
theorem Wo{t:TypeId}{x:Operand}(hr:bX base ι S a w st)(ho:o.op=.unOp .not t x)(h:cq (aG st.fr x) fun v=>K v st.h):cu P o base ι S a w st K:=by
 obtain⟨b,e,h⟩:=h;have hx:=hr.eval x;rw[e]at hx;simp only[cz]at hx;exact bh hr (u:=.bool (!b)) (by simp[execOp,ho,hx,Op.unary]) (by simp) h
theorem Wm{t:TypeId}{x:Operand}(hr:bX base ι S a w st)(ho:o.op=.unOp .neg t x)(h:pb (aG st.fr x) fun v=>K v st.h):cu P o base ι S a w st K:=by
 obtain⟨k,n,e,h⟩:=h;have hx:=hr.eval x;rw[e]at hx;simp only[cz]at hx;exact bh hr (u:=.int k (k.wrap (0-n))) (by simp[execOp,ho,hx,Op.unary,Op.intArith]) (by simp) (vj h)
theorem We{t:TypeId}{x:Operand}{k:IntKind}(hr:bX base ι S a w st)(ho:o.op=.unOp .xor t x)(h:ae .xor (.v (.int k (DS k))) (aG st.fr x) fun v=>K v st.h):cu P o base ι S a w st K:=by
 have hx:=hr.eval x;generalize aG st.fr x=X at *;unfold ae at h;split at h
 ·rename_i k1 p k2 q e1;cases e1;simp only[cz]at hx;simp only[lv,aaJ,if_false]at h;obtain⟨rfl,h⟩:=h;simp only[qo]at h;exact bh hr (u:=.int k (di .xor k (DS k) q)) (by simp only[execOp,ho];exact fL (by
   have e2:Op.unary .xor (.int k q)=Op.intBits .xor k (DS k) q:=rfl;rw[hx,e2];simp only[Op.intBits];rfl)) (by simp) h
 ·rename_i e1;cases e1
 ·exact h.elim
theorem UT{s d:TypeId}{x:Operand}{k k':IntKind}(hr:bX base ι S a w st)(ho:o.op=.convert s d x)(hs:P.underlying s=some (.int k'))(hd:P.underlying d=some (.int k))
 (h:cy k (aG st.fr x) fun v=>K v st.h):cu P o base ι S a w st K:=by
 obtain⟨k',n,e,h⟩:=h;have hx:=hr.eval x;rw[e]at hx;simp only[cz]at hx;exact bh hr (u:=.int k (k.wrap n)) (by simp[execOp,ho,hx,convert,run_underlying hs,run_underlying hd,Conv.intToInt]) (by simp) h
theorem Rl{s d:TypeId}{x:Operand}(hr:bX base ι S a w st)(ho:o.op=.convert s d x)(hs:P.underlying s=some .string)(hd:P.underlying d=some .string)
 (h:∃l,aG st.fr x=.str l∧K (aG st.fr x) st.h):cu P o base ι S a w st K:=by
 obtain⟨l,e,h⟩:=h;have hx:=hr.eval x;have hx':=hx;rw[e]at hx;simp only[eA]at hx;exact bh hr (u:=a.eval x) (by simp only[execOp,ho];exact fL (by simp[convert,run_underlying hs,run_underlying hd,hx.1])) hx' h
theorem UU{x:Operand}{i:Nat}(hr:bX base ι S a w st)(ho:o.op=.extract x i)(h:aU i (aG st.fr x) fun v=>K v st.h):cu P o base ι S a w st K:=by
 have hx:=hr.eval x;unfold aU at h;split at h
 ·rename_i cs e;rw[e,au]at hx;obtain⟨vs,e1,r⟩:=hx;split at h
  ·rename_i c ec;obtain⟨v,ev,rv⟩:=r.get i c ec;exact bh hr (u:=v) (by simp only[execOp,ho,e1];exact fL (by simp[Instr.extract,ev])) rv h
  ·exact h.elim
 ·exact h.elim
omit [Laid] in
theorem FW{t:TypeId}{cs:List AV}{vs:List Value}{off:Nat}{K:AV→Prop}(ht:fT P t=true)(r:aE ι S w cs vs)(h:lF (fx P t) (P.cellsOf t) (cs.drop off) K):
 ∃v u,(part t vs.toArray off).run P w=.ok u w∧au ι S w v u∧K v:=by
 unfold part;simp only[aa4,vF ht,aa3];unfold lF at h;split at h
 ·rename_i hg;rw[hg];simp only[if_true,aa4,dJ ht,aa3,aa5];refine⟨_,_,rfl, ?_,h.2⟩;rw[au];refine⟨(vs.drop off).take (P.cellsOf t), ?_,(r.drop off).take _⟩;simp[List.extract_eq_take_drop,Nat.add_sub_cancel_left]
 ·rename_i hg;rw[hg];simp only[aaJ,if_false];split at h
  ·rename_i c rest e;have ec:cs[off]?=some c:=by
    have:=congrArg (fun l=>l[0]?) e;simpa using this
   obtain⟨v,ev,rv⟩:=r.get off c ec;exact⟨c,v,by simp[ev],rv,h⟩
  ·exact h.elim
theorem Rm{t:TypeId}{x:Operand}{i:Nat}{fs:Array Field}{f:Field}(hr:bX base ι S a w st)(ho:o.op=.field t x i)(ht:P.underlying t=some (.struct fs))(hf:fs[i]?=some f)(hk:fT P f.type=true)
 (h:rR (fx P f.type) f.offset (P.cellsOf f.type) (aG st.fr x) fun v=>K v st.h):cu P o base ι S a w st K:=by
 have hx:=hr.eval x;unfold rR at h;split at h
 ·rename_i cs e;rw[e,au]at hx;obtain⟨vs,e1,r⟩:=hx;obtain⟨v,u,hrun,rv,k⟩:=FW (P:=P) hk r h;exact bh hr (u:=u) (by simp only[execOp,ho,e1];exact fL (by simp[Instr.field,run_underlying ht,hf,asAgg,hrun])) rv k
 ·exact h.elim
theorem U0{t:TypeId}{x i:Operand}(hr:bX base ι S a w st)(ho:o.op=.index t x i)(ht:P.underlying t=some .string)(h:dH (aG st.fr x) (aG st.fr i) fun v=>K v st.h):cu P o base ι S a w st K:=by
 have hx:=hr.eval x;have hi:=hr.eval i;unfold dH at h;split at h
 ·rename_i l k n e1 e2;rw[e1]at hx;rw[e2]at hi;simp only[eA,cz]at hx hi;obtain⟨⟨h0,h1⟩,h⟩:=h;have hn:n.toNat<l.length:=by omega
  refine bh hr (u:=.int .u8 (l.getD n.toNat 0).toNat) (by
   simp only[execOp,ho,hx.1,hi];refine fL ?_;have q:(⟨l.toArray⟩:ByteArray)[n.toNat]?=some (l.getD n.toNat 0):=by
    rw[ByteArray.getElem?_lt' _ _ (show n.toNat<(⟨l.toArray⟩:ByteArray).size from hn)];show some (l.toArray[n.toNat])=_;simp[nE,hn]
   simp only[Instr.index,aa4,asIntOf,aa5,aa3,run_underlying ht,if_pos h0,q]) (by simp) h
 ·exact h.elim
end
section
variable {P:Program} {o:Oper} {base:Nat} {ι:List Ix} {S:ba} {a:Act} {w:World} {st:St} {K:AV→aa→Prop}
theorem UX{t e:TypeId}{n:Nat}{x i:Operand}(hr:bX base ι S a w st)(ho:o.op=.index t x i)(ht:P.underlying t=some (.array n e))(hk:fT P e=true)
 (h:mI (fx P e) (P.cellsOf e) n (aG st.fr x) (aG st.fr i) fun v=>K v st.h):cu P o base ι S a w st K:=by
 have hx:=hr.eval x;have hi:=hr.eval i;unfold mI at h;split at h
 ·rename_i cs k j e1 e2;rw[e1,au]at hx;rw[e2,cz]at hi;obtain⟨vs,ev,r⟩:=hx;obtain⟨⟨h0,h1⟩,h⟩:=h;obtain⟨v,u,hrun,rv,kk⟩:=FW (P:=P) (w:=w) hk r h;refine bh hr (u:=u) (by
   simp only[execOp,ho,ev,hi];exact fL (by simp only[Instr.index,aa4,asIntOf,aa5,aa3,run_underlying ht];rw[if_pos ⟨h0,h1⟩];simp only[aa4,dJ hk,aa3];exact hrun)) rv kk
 ·exact h.elim
theorem Dj{fr:Fr}(hE:∀x,au ι S w (aG fr x) (a.eval x)){x:Option Operand}{d n:Int}(h:eT (x.map (aG fr)) d=some n):(x=none∧n=d)∨∃y k,x=some y∧a.eval y=.int k n:=by
 cases x with
 | none=>left;simp[eT]at h;exact⟨rfl,h.symm⟩
 | some y =>
   right;have hy:=hE y;simp only[abh]at h;cases he:aG fr y with
   | v z =>
     rw[he]at h hy;cases z<;>simp only[eT,On,reduceCtorEq]at h;rename_i k q;subst h;rw[cz]at hy;exact⟨y,k,rfl,hy⟩
   | _=>rw[he]at h;simp[eT]at h
theorem qT{isl:Bool}{len cap:Nat}{lo hi:Option Operand}{p q:Int}{fr:Fr}(hE:∀x,au ι S w (aG fr x) (a.eval x))(h1:eT (lo.map (aG fr)) 0=some p)(h2:eT (hi.map (aG fr)) len=some q)
 (hp:0≤p) (hpq:p≤q) (hq:q≤cap):(Instr.sliceBounds isl len cap (lo.map a.eval) (hi.map a.eval) none).run P w=.ok (p.toNat,q.toNat,cap) w:=by
 have bound:∀(k:IntKind) (n:Int) (y:Nat) (c:BoundsCode),0≤n→n≤y→(Instr.sliceBound (.int k n) y c).run P w=.ok n.toNat w:=fun k n y c g1 g2=>run_sliceBound w k n y c g1 g2;unfold Instr.sliceBounds;rcases Dj hE h1 with⟨rfl,rfl⟩|⟨yl,kl,rfl,el⟩<;>rcases Dj hE h2 with⟨rfl,rfl⟩|⟨yh,kh,rfl,eh⟩
 ·simp
 ·simp[eh,bound kh q cap _ (by omega) hq]
 ·simp[el,bound kl p len _ hp hpq]
 ·simp only[abh,aa4,aa5,aa3,eh,el];rw[bound kh q cap _ (by omega) hq];simp only[aa3];rw[bound kl p q.toNat _ hp (by omega)];rfl
theorem Wq{t:TypeId}{x:Operand}{lo hi:Option Operand}(hr:bX base ι S a w st)(ho:o.op=.slice t x lo hi none)(ht:P.underlying t=some .string)
 (h:eN (aG st.fr x) (lo.map (aG st.fr)) (hi.map (aG st.fr)) fun v=>K v st.h):cu P o base ι S a w st K:=by
 have hx:=hr.eval x;unfold eN at h;split at h
 ·rename_i l e;rw[e,eA]at hx;split at h
  ·rename_i p q e1 e2;obtain⟨⟨g0,g1,g2⟩,h⟩:=h;have hb:=qT (P:=P) (isl:=false) (len:=l.length) (cap:=l.length) hr.eval e1 e2 g0 g1 g2;refine bh hr (u:=.string ⟨((l.take q.toNat).drop p.toNat).toArray⟩) ?_ ?_ h
   ·simp only[execOp,ho,hx.1,Option.map_none];refine fL ?_;have hsz:(⟨l.toArray⟩:ByteArray).size=l.length:=rfl;simp only[Instr.sliceAt,aa4,run_underlying ht,aa3,Instr.slice,Option.isSome_none,aaJ,if_false,hsz,hb,aa5]
    congr 2
    apply ByteArray.ext;simp[ByteArray.data_extract];rw[List.drop_take]
   ·simp only[eA];refine⟨trivial, ?_⟩;have:=hx.2;simp;omega
  ·exact h.elim
 ·exact h.elim
theorem ZW{t e:TypeId}{x:Operand}{lo hi:Option Operand}(hr:bX base ι S a w st)(ho:o.op=.slice t x lo hi none)(ht:P.underlying t=some (.slice e))(hk:fT P e=true)
 (h:lg (P.cellsOf e) (aG st.fr x) (lo.map (aG st.fr)) (hi.map (aG st.fr)) fun v=>K v st.h):cu P o base ι S a w st K:=by
 have hx:=(hr.eval x).mZ;have run:∀(b:Option Addr) (len cap:Nat) (p q:Int),a.eval x=.slice b len cap→eT (lo.map (aG st.fr)) 0=some p→eT (hi.map (aG st.fr)) len=some q→0≤p→p≤q→q≤cap →
  (execOp a.eval o).run P w=.ok (.value (.slice (if cap=p.toNat then b else b.map (·.add (p.toNat*P.cellsOf e))) (q.toNat-p.toNat) (cap-p.toNat))) w:=by
  intro b len cap p q ex e1 e2 g0 g1 g2;have hb:=qT (P:=P) (isl:=true) (len:=len) (cap:=cap) hr.eval e1 e2 g0 g1 g2;simp only[execOp,ho,ex,Option.map_none];exact fL (by simp only[Instr.sliceAt,aa4,run_underlying ht,aa3,Instr.slice,hb,dJ hk,aa5])
 unfold lg at h;split at h
 ·rename_i sz rows ex;rw[ex,au]at hx;obtain⟨b,cap,ev,c1,c2,c3⟩:=hx;split at h
  ·rename_i p q e1 e2;obtain⟨rfl,⟨g0,g1,g2⟩,h⟩:=h;refine bh hr (run b _ cap p q ev e1 e2 g0 g1 (by omega)) ?_ h;rw[au];have hl:((rows.take q.toNat).drop p.toNat).length=q.toNat-p.toNat:=by simp;omega
   refine⟨_,_,by rw[hl],by omega,by omega, ?_⟩
   by_cases hem:(rows.take q.toNat).drop p.toNat=[]
   ·exact .inl hem
   ·right;have hlen:0<q.toNat-p.toNat:=by rw[←hl];exact List.length_pos_iff.2 hem
    rcases c3 with c3|⟨bb,off,eb,rr⟩
    ·subst c3;simp at hem
    ·subst eb;rw[if_neg (by omega)];refine⟨bb,off+p.toNat*P.cellsOf e,by simp[addr_add],cr.mk fun i r er=>?_⟩;have er':rows[p.toNat+i]?=some r:=by
      rw[aaG]at er;rw[ON]at er;split at er<;>first|exact er|cases er
     have:=rr.get _ _ er';refine⟨this.1, ?_⟩;rw[Nat.add_assoc,←abf];exact this.2
  ·exact h.elim
 ·rename_i id off len sz ex;rw[ex,au]at hx;obtain⟨bb,b,cap,n,ty,c1,ev,c2,c3,c4,c5,c6⟩:=hx;split at h
  ·rename_i p q e1 e2;obtain⟨rfl,⟨g0,g1,g2⟩,h⟩:=h;refine bh hr (run b _ cap p q ev e1 e2 g0 g1 (by omega)) ?_ h;rw[au];have hmul:p.toNat*P.cellsOf e+(cap-p.toNat)*P.cellsOf e=cap*P.cellsOf e:=by rw[←abf];congr 1;omega
   refine⟨bb,_,_,n,ty,c1,by congr 1;omega,by omega,by omega, ?_,c5,by omega⟩
   by_cases hz:cap-p.toNat=0
   ·exact .inl hz
   ·right;rcases c4 with c4|c4
    ·omega
    ·rw[if_neg (by omega),c4];simp[addr_add]
  ·exact h.elim
 ·rename_i ex;rw[ex,au]at hx;obtain⟨b,ev⟩:=hx;split at h
  ·rename_i p q e1 e2;obtain⟨⟨g0,g1⟩,h⟩:=h;subst g0;subst g1;refine bh hr (run b 0 0 0 0 ev e1 (by simpa using e2) (by omega) (by omega) (by omega)) ?_ h;rw[au];exact⟨_,rfl⟩
  ·exact h.elim
 ·exact h.elim
omit [Laid] in
theorem je(sz:Nat):∀(n:Nat) (cs:List AV),n*sz≤cs.length→(chunks sz n cs).flatten=cs.take (n*sz)∧∀r∈chunks sz n cs,r.length=sz
 | 0,_,_=>by simp[chunks]
 | n+1,cs,h=>by
   rw[abf,Nat.one_mul]at h;obtain⟨h1,h2⟩:=je sz n (cs.drop sz) (by simp;omega);refine⟨?_,fun r hr=>?_⟩
   ·simp only[chunks,abc,h1];rw[abf,Nat.one_mul,Nat.add_comm,List.take_add]
   ·simp only[chunks,ID]at hr;rcases hr with rfl|hr
    ·simp;omega
    ·exact h2 r hr
omit [Laid] in
theorem jP(sz:Nat):∀(n:Nat) (cs:List AV),(chunks sz n cs).length=n
 | 0,_=>rfl
 | n+1,cs=>by simp[chunks,jP sz n]
omit [Laid] in
theorem ke{sz:Nat}:∀{rows:List (List AV)},(∀r∈rows,r.length=sz)→rows.flatten.length=rows.length*sz
 | [],_=>by simp
 | r:: rs,h=>by
   have:=ke (rows:=rs) fun x hx=>h x (Lt _ hx);simp only[abc,AT,this,aaB,abf,Nat.one_mul,h r (aa9 ..)];omega
omit [Laid] in
theorem cr.of_flat{ι:List Ix}{S:ba}{w:World}{sz:Nat}:∀{rows:List (List AV)} {b off:Nat},(∀r∈rows,r.length=sz)→bD ι S w rows.flatten b off→cr ι S w sz rows b off
 | [],_,_,_,_=>by simp[cr]
 | r:: rs,b,off,h,k=>by
   rw[cr];have hr:=h r (aa9 ..);refine⟨hr,bD.mk fun i c e=>?_,cr.of_flat (fun x hx=>h x (Lt _ hx)) ?_⟩
   ·refine k.get i c ?_;rw[abc,gO (eQ.1 e).1];exact e
   ·have:=k.drop sz;rw[abc,List.drop_left' hr]at this;exact this
theorem Wp{t e:TypeId}{n:Nat}{x:Operand}{lo hi:Option Operand}(hr:bX base ι S a w st)(ho:o.op=.slice t x lo hi none)(ht:P.underlying t=some (.array n e))(hk:fT P e=true)
 (h:qp n (P.cellsOf e) (aG st.fr x) (lo.map (aG st.fr)) (hi.map (aG st.fr)) st.h fun v=>K v st.h):cu P o base ι S a w st K:=by
 have hx:=hr.eval x;unfold qp at h;split at h
 ·rename_i id off ex;rw[ex,au]at hx;obtain⟨b,c1,ev⟩:=hx;split at h
  ·rename_i p q ah e1 e2 eb;obtain⟨⟨hroom,g0,g1,g2,g3⟩,h⟩:=h;have hb:=qT (P:=P) (isl:=false) (len:=n) (cap:=n) hr.eval e1 e2 g0 g1 g2;obtain⟨b',arr,fz,k1,k2,k3,k4,k5,k6,k7,k8,k9⟩:=hr.hp.live id ah eb;rw[c1]at k1;cases k1;refine bh hr (u:=.slice (some (if n=p.toNat then ⟨b,off,none⟩ else (⟨b,off,none⟩:Addr).add (p.toNat*P.cellsOf e))) (q.toNat-p.toNat) (n-p.toNat)) ?_ ?_ h
   ·simp only[execOp,ho,ev,Option.map_none];exact fL (by simp only[Instr.sliceAt,aa4,run_underlying ht,aa3,Instr.sureAddr,aa5,hb,dJ hk])
   ·rw[au];have hmul:p.toNat*P.cellsOf e+(n-p.toNat)*P.cellsOf e=n*P.cellsOf e:=by rw[←abf];congr 1;omega
    refine⟨b,_,_,arr.size,ah.ty,c1,by congr 1;omega,by omega,by omega, ?_,by unfold World.shape?;rw[k3],by omega⟩
    by_cases hz:n-p.toNat=0
    ·exact .inl hz
    ·right;rw[if_neg (by omega),addr_add]
  ·exact h.elim
 ·rename_i cs ex;rw[ex,au]at hx;obtain⟨b,off,ev,rc⟩:=hx;split at h
  ·rename_i p q e1 e2;obtain⟨⟨hroom,g0,g1,rfl,rfl⟩,h⟩:=h;have hb:=qT (P:=P) (isl:=false) (len:=n) (cap:=n) hr.eval e1 e2 (Int.le_refl _) (by omega) (Int.le_refl _);have hz:¬n=(0:Int).toNat:=by simp;omega
   refine bh hr (u:=.slice (some ((⟨b,off,none⟩:Addr).add ((0:Int).toNat*P.cellsOf e))) (((n:Int)).toNat-(0:Int).toNat) (n-(0:Int).toNat)) ?_ ?_ h
   ·simp only[execOp,ho,ev,Option.map_none];refine fL (by simp only[Instr.sliceAt,aa4,run_underlying ht,aa3,Instr.sureAddr,aa5,hb,dJ hk];rw[if_neg hz])
   ·obtain⟨f1,f2⟩:=je (P.cellsOf e) n cs hroom;have hl:=jP (P.cellsOf e) n cs;rw[au];refine⟨some ((⟨b,off,none⟩:Addr).add ((0:Int).toNat*P.cellsOf e)),n,by rw[hl];simp,by rw[hl];exact bY _,g1,.inr ⟨b,off,by rw[addr_add];simp, ?_⟩⟩;refine cr.of_flat f2 (bD.mk fun i c hc=>rc.get i c ?_);rw[f1,ON]at hc;split at hc
    ·exact hc
    ·cases hc
  ·exact h.elim
 ·exact h.elim
theorem UY{t e:TypeId}{x i:Operand}(hr:bX base ι S a w st)(ho:o.op=.indexAddr t x i)(ht:P.underlying t=some (.slice e))(hk:fT P e=true)
 (h:aQ (P.cellsOf e) (aG st.fr x) (aG st.fr i) fun v=>K v st.h):cu P o base ι S a w st K:=by
 have hx:=(hr.eval x).mZ;have hi:=hr.eval i;have run:∀(b:Addr) (len cap:Nat) (k:IntKind) (j:Int),a.eval x=.slice (some b) len cap→a.eval i=.int k j→0≤j→j<len →
  (execOp a.eval o).run P w=.ok (.value (.pointer (some (b.add (j.toNat*P.cellsOf e))))) w:=by
  intro b len cap k j ex ei g0 g1;simp only[execOp,ho,ex,ei];refine fL ?_;simp only[Instr.indexAt,aa4,asIntOf,aa5,aa3,run_underlying ht];rw[if_pos ⟨g0,g1⟩];simp only[aa4,dJ hk,aa3,aa5]
 unfold aQ at h;split at h
 ·rename_i sz rows k j e1 e2;rw[e1,au]at hx;rw[e2,cz]at hi;obtain⟨b,cap,ev,c1,c2,c3⟩:=hx;obtain⟨rfl,⟨g0,g1⟩,h⟩:=h;have hj:j.toNat<rows.length:=by omega
  rcases c3 with c3|⟨bb,off,eb,rr⟩
  ·subst c3;simp at hj
  ·subst eb;refine bh hr (run _ _ cap k j ev hi g0 g1) ?_ h;have er:rows[j.toNat]?=some (rows.getD j.toNat []):=by simp[nE,hj]
   rw[au];exact⟨bb,off+j.toNat*P.cellsOf e,by rw[addr_add],(rr.get _ _ er).2⟩
 ·rename_i id off len sz k j e1 e2;rw[e1,au]at hx;rw[e2,cz]at hi;obtain⟨bb,b,cap,n,ty,c1,ev,c2,c3,c4,c5,c6⟩:=hx;obtain⟨rfl,⟨g0,g1⟩,h⟩:=h;rcases c4 with c4|c4
  ·omega
  ·subst c4;refine bh hr (run _ _ cap k j ev hi g0 g1) ?_ h;rw[au];exact⟨bb,c1,by rw[addr_add]⟩
 ·exact h.elim
theorem UZ{t e:TypeId}{n:Nat}{x i:Operand}(hr:bX base ι S a w st)(ho:o.op=.indexAddr t x i)(ht:P.underlying t=some (.array n e))(hk:fT P e=true)
 (h:eR n (P.cellsOf e) (aG st.fr x) (aG st.fr i) fun v=>K v st.h):cu P o base ι S a w st K:=by
 have hx:=hr.eval x;have hi:=hr.eval i;have run:∀(b:Addr) (k:IntKind) (j:Int),a.eval x=.pointer (some b)→a.eval i=.int k j→0≤j→j<n →
  (execOp a.eval o).run P w=.ok (.value (.pointer (some (b.add (j.toNat*P.cellsOf e))))) w:=by
  intro b k j ex ei g0 g1;simp only[execOp,ho,ex,ei];refine fL ?_;simp only[Instr.indexAt,aa4,asIntOf,aa5,aa3,run_underlying ht,Instr.sureAddr];rw[if_pos ⟨g0,g1⟩];simp only[aa4,dJ hk,aa3,aa5]
 unfold eR at h;split at h
 ·rename_i id off k j e1 e2;rw[e1,au]at hx;rw[e2,cz]at hi;obtain⟨b,c1,ev⟩:=hx;obtain⟨⟨g0,g1⟩,h⟩:=h;refine bh hr (run _ k j ev hi g0 g1) ?_ h;rw[au];exact⟨b,c1,by rw[addr_add]⟩
 ·rename_i cs k j e1 e2;rw[e1,au]at hx;rw[e2,cz]at hi;obtain⟨b,off,ev,r⟩:=hx;obtain⟨⟨g0,g1⟩,h⟩:=h;refine bh hr (run _ k j ev hi g0 g1) ?_ h;rw[au];exact⟨b,_,by rw[addr_add],r.drop _⟩
 ·exact h.elim
theorem Wf{t:TypeId}{x:Operand}{i:Nat}{fs:Array Field}{f:Field}(hr:bX base ι S a w st)(ho:o.op=.fieldAddr t x i)(ht:P.underlying t=some (.struct fs))(hf:fs[i]?=some f)
 (hz:P.cellsOf f.type≠0) (hk:fT P f.type=true) (h:bp f.offset (aG st.fr x) fun v=>K v st.h):cu P o base ι S a w st K:=by
 have hx:=hr.eval x;have run:∀(b:Addr),a.eval x=.pointer (some b)→(execOp a.eval o).run P w=.ok (.value (.pointer (some (b.add f.offset)))) w:=by
  intro b ex;simp only[execOp,ho,ex];refine fL ?_;simp only[Instr.fieldAt,aa4,run_underlying ht,aa3,hf,Instr.sureAddr,aa5,fieldPlace,dJ hk,hz,if_false]
 unfold bp at h;split at h
 ·rename_i cs e;rw[e,au]at hx;obtain⟨b,off,ev,r⟩:=hx;refine bh hr (run _ ev) ?_ h;rw[au];exact⟨b,_,by rw[addr_add],r.drop _⟩
 ·rename_i id off e;rw[e,au]at hx;obtain⟨b,c1,ev⟩:=hx;refine bh hr (run _ ev) ?_ h;rw[au];exact⟨b,c1,by rw[addr_add]⟩
 ·exact h.elim
theorem Wn{x:Operand}(hr:bX base ι S a w st)(ho:o.op=.nilCheck x)(h:wW (aG st.fr x) fun v=>K v st.h):cu P o base ι S a w st K:=by
 have hx:=hr.eval x;have hx':=hx;unfold wW at h;split at h
 ·rename_i e;rw[e,au]at hx;obtain⟨b,off,ev,r⟩:=hx;exact bh hr (u:=a.eval x) (by simp[execOp,ho,ev]) hx' h
 ·rename_i e;rw[e,au]at hx;obtain⟨b,c1,ev⟩:=hx;exact bh hr (u:=a.eval x) (by simp[execOp,ho,ev]) hx' h
 ·rename_i e;rw[e,au]at hx;obtain⟨vs,us,ev,_⟩:=hx;exact bh hr (u:=a.eval x) (by simp[execOp,ho,ev]) hx' h
 ·exact h.elim
omit [Laid] in
theorem oB{t:TypeId}{cs:List AV}{vs:List Value}{b off:Nat}{K:AV→Prop}(hk:fT P t=true)(r:aE ι S w cs vs)(hc:∀(i:Nat) (v:Value),vs[i]?=some v→w.cell? ⟨b,off+i,none⟩=some v)
 (h:lF (fx P t) (P.cellsOf t) cs K):∃v u,(loadVar t ⟨b,off,none⟩).run P w=.ok u w∧au ι S w v u∧K v:=by
 unfold loadVar;simp only[aa4,vF hk,aa3];unfold lF at h;split at h
 ·rename_i hg;rw[hg];have hl:=r.length;have hrun:=run_loadCells_list (P:=P) (w:=w) ⟨b,off,none⟩ (vs.take (P.cellsOf t)) (by
   intro j v e;rw[addr_add];refine hc j v ?_;rw[ON]at e;split at e<;>first|exact e|cases e)
  have hlen:(vs.take (P.cellsOf t)).length=P.cellsOf t:=by simp;omega
  rw[hlen]at hrun;refine⟨_,.agg (vs.take (P.cellsOf t)).toArray, ?_, ?_,h.2⟩
  ·simp only[if_true,aa4,dJ hk,aa3,hrun,aa5]
  ·rw[au];exact⟨_,rfl,r.take _⟩
 ·rename_i hg;rw[hg];simp only[aaJ,if_false];split at h
  ·rename_i c rest;obtain⟨v,ev,rv⟩:=r.get 0 c rfl;have:=hc 0 v ev;exact⟨c,v,by simp only[run_load];rw[show (⟨b,off,none⟩:Addr)=⟨b,off+0,none⟩ by rfl,this],rv,h⟩
  ·exact h.elim
theorem U2{t:TypeId}{x:Operand}(hr:bX base ι S a w st)(ho:o.op=.load t x)(hk:fT P t=true)(h:ak (fx P t) (P.cellsOf t) (aG st.fr x) st.h fun v=>K v st.h):cu P o base ι S a w st K:=by
 have hx:=hr.eval x;unfold ak at h;split at h
 ·rename_i cs e;rw[e,au]at hx;obtain⟨b,off,ev,r⟩:=hx;obtain⟨vs,rv,hc⟩:=r.sy;obtain⟨v,u,hrun,rv,k⟩:=oB (P:=P) hk rv hc h;exact bh hr (u:=u) (by simp only[execOp,ho,ev];exact fL (by simp only[Instr.loadAt,Instr.sureAddr,aa4,aa5,aa3,hrun])) rv k
 ·rename_i id off e;rw[e,au]at hx;obtain⟨b,c1,ev⟩:=hx;split at h
  ·rename_i ah eb;obtain⟨b',arr,fz,k1,k2,k3,k4,k5,k6,k7,k8,k9⟩:=hr.hp.live id ah eb;rw[c1]at k1;cases k1;have hcells:aE ι S w ah.cells (arr.toList.take ah.cells.length):=by
    refine aE.mk (by simp;omega) fun i c v e1 e2=>?_;obtain⟨v',e3,r⟩:=k6 i c e1;rw[ON]at e2;split at e2
    ·simp only[Array.getElem?_toList]at e2;rw[e3]at e2;cases e2;exact r
    ·cases e2
   obtain⟨v,u,hrun,rv,k⟩:=oB (P:=P) (b:=b) (off:=off) hk (hcells.drop off) (by
    intro i v e1;rw[gb k3];rw[aaG,ON]at e1;split at e1
    ·simpa using e1
    ·cases e1) h
   exact bh hr (u:=u) (by simp only[execOp,ho,ev];exact fL (by simp only[Instr.loadAt,Instr.sureAddr,aa4,aa5,aa3,hrun])) rv k
  ·exact h.elim
 ·exact h.elim
theorem Ro{t:TypeId}{x v:Operand}(hr:bX base ι S a w st)(ho:o.op=.store t x v)(hk:fT P t=true)(h:ao (P.cellsOf t) (aG st.fr x) (aG st.fr v) st.h fun h' => K (.v undef) h'):cu P o base ι S a w st K:=by
 have hx:=hr.eval x;have hv:=hr.eval v;unfold ao at h;split at h
 ·rename_i id off e;rw[e,au]at hx;obtain⟨b,c1,ev⟩:=hx;split at h
  ·rename_i ah eb;obtain⟨⟨g1,g2,g3,g4⟩,h⟩:=h;obtain⟨vs,ecs,rv,one⟩:=uK hv g4;obtain⟨w',hrun,hE,hH⟩:=uy (P:=P) vs (bl (aG st.fr v)) w st.h hr.hp eb g1 c1 off 0 (by omega) rv one;rw[Nat.add_zero]at hH;refine JK hr (w':=w') ?_ hE hH (by simp) h;simp only[execOp,ho,ev];refine ZV ?_;have hl:=rv.length;simp only[Instr.storeAt,Instr.sureAddr,aa4,aa5,aa3,storeVar,dJ hk,ecs];rw[if_neg (by simp;omega)];exact hrun
  ·exact h.elim
 ·exact h.elim
theorem PA{t:TypeId}{x:AV}{u:Value}(hr:bX base ι S a w st)(hrun:(execOp a.eval o).run P w=.ok (.value (.pointer (some ⟨w.heap.size,0,none⟩))) (w.alloc (.cells u.cells t)))(r:au ι S w x u)
 (h:aW t x st.h K):cu P o base ι S a w st K:=by
 obtain⟨g,h⟩:=h;obtain⟨vs,ecs,rv,one⟩:=uK r g;have hH:=hr.hp.alloc t (bl x) vs rv (more:=[]) (fz:=(0,0)) (by intro o _ h;omega);rw[aaL,←ecs]at hH;refine im hr hrun (bS.alloc hr.hp.kx (fun b o=>hr.hp.iM b o) _ _) ?_ hH (by simp) h;rw[au];exact⟨w.heap.size,by rw[gT (by rw[hr.hp.len];exact bY _)];simp[hr.hp.len],rfl⟩
theorem Wd{t:TypeId}{x:Operand}(hr:bX base ι S a w st)(ho:o.op=.box t x)(h:aW t (aG st.fr x) st.h K):cu P o base ι S a w st K:=
 PA hr (u:=a.eval x) (by simp only[execOp,ho];exact fL (by simp[Instr.box,newVar,newRow])) (hr.eval x) h
theorem Rj{t:TypeId}{z:AV}(hr:bX base ι S a w st)(ho:o.op=.alloc t)(hz:jG P t=some z)(h:aW t z st.h K):cu P o base ι S a w st K:=by
 unfold jG at hz;cases hi:P.info? t with
 | none=>rw[hi]at hz;cases hz
 | some i =>
   rw[hi]at hz;simp only[Option.bind_some,aaE]at hz;obtain⟨u,hu,rfl⟩:=hz;exact PA hr (u:=u) (by simp only[execOp,ho];exact fL (by simp[Instr.alloc,zeroValue,nC hi,hu,newVar,newRow])) (tC ι S w u) h
theorem UW{f:Fn}{xs ys:Array Operand}(hr:bX base ι S a w st)(ho:o.op=.makeFunc f xs ys)(h:K (.fn f (xs.toList.map (aG st.fr)) (ys.toList.map (aG st.fr))) st.h):cu P o base ι S a w st K:=by
 refine bh hr (u:=.func f (xs.map a.eval) (ys.map a.eval)) (by simp[execOp,ho,Instr.makeFunc]) ?_ h;rw[au];have key:∀l:List Operand,aE ι S w (l.map (aG st.fr)) (l.map a.eval):=by
  intro l;induction l with
  | nil=>simp
  | cons x l ih=>simpa using⟨hr.eval x,ih⟩
 exact⟨xs.toList.map a.eval,ys.toList.map a.eval,by congr 1<;>(apply Array.ext';simp),key _,key _⟩
theorem aE.JA(hr:bX base ι S a w st):∀l:List Operand,aE ι S w (l.map (aG st.fr)) (l.map a.eval)
 | []=>by simp
 | x:: l=>by simpa using⟨hr.eval x,aE.JA hr l⟩
omit [Laid] in
theorem u6{c:Call}(ho:o.op=.call c)(hc:c.callee=.builtin .len){n:Nat}(hb:(Builtin.len_ c.argTypes o.type (c.args.map a.eval)).run P w=.ok (.int .i64 n) w):(execOp a.eval o).run P w=.ok (.value (.int .i64 n)) w:=by
 simp only[execOp,ho,resolve,hc,aa4,aa5,aa3,invoke,builtin,hb]
theorem U1{c:Call}{t:TypeId}{x:Operand}(hr:bX base ι S a w st)(ho:o.op=.call c)(hc:c.callee=.builtin .len)(hat:c.argTypes[0]?=some t)(hax:c.args[0]?=some x)
 (ht:P.underlying t=some .string) (h:cR (aG st.fr x) fun v=>K v st.h):cu P o base ι S a w st K:=by
 have hx:=hr.eval x;have hax':(c.args.map a.eval)[0]?=some (a.eval x):=by simp[hax]
 unfold cR at h;split at h
 ·rename_i l e;rw[e,eA]at hx;refine bh hr (u6 ho hc (n:=l.length) ?_) (by simp) (h hx.2);simp only[Builtin.len_,hat,hax',aa4,run_underlying ht,aa3,hx.1,aa5,goInt];rfl
 ·exact h.elim
theorem Wh{c:Call}{t et:TypeId}{x:Operand}(hr:bX base ι S a w st)(ho:o.op=.call c)(hc:c.callee=.builtin .len)(hat:c.argTypes[0]?=some t)(hax:c.args[0]?=some x)
 (ht:P.underlying t=some (.slice et)) (h:bu (aG st.fr x) fun v=>K v st.h):cu P o base ι S a w st K:=by
 have hx:=(hr.eval x).mZ;have hax':(c.args.map a.eval)[0]?=some (a.eval x):=by simp[hax]
 unfold bu at h;split at h
 ·rename_i sz rows e;rw[e,au]at hx;obtain⟨b,cap,ev,c1,c2,c3⟩:=hx;refine bh hr (u6 ho hc (n:=rows.length) ?_) (by simp) (h (by omega));simp only[Builtin.len_,hat,hax',aa4,run_underlying ht,aa3,ev,aa5,goInt]
 ·rename_i id off len sz e;rw[e,au]at hx;obtain⟨bb,b,cap,n,ty,c1,ev,c2,c3,c4,c5,c6⟩:=hx;refine bh hr (u6 ho hc (n:=len) ?_) (by simp) (h (by omega));simp only[Builtin.len_,hat,hax',aa4,run_underlying ht,aa3,ev,aa5,goInt]
 ·rename_i e;rw[e,au]at hx;obtain⟨b,ev⟩:=hx;refine bh hr (u6 ho hc (n:=0) ?_) (by simp) h;simp only[Builtin.len_,hat,hax',aa4,run_underlying ht,aa3,ev,aa5,goInt]
 ·exact h.elim
omit [Laid] in
theorem xI{c:Call}{b:Builtin}{s:Sem Value}{u:Value}{w':World}(ho:o.op=.call c)(hc:c.callee=.builtin b)
 (hb:∀cs,builtin b c.argTypes o.type cs (c.args.map a.eval)=(do pure (.value (←s)))) (hs:s.run P w=.ok u w'):(execOp a.eval o).run P w=.ok (.value u) w':=by
 simp only[execOp,ho,resolve,hc,aa4,aa5,aa3,invoke,hb,hs]
theorem Wj{c:Call}{x y:Operand}(hr:bX base ι S a w st)(ho:o.op=.call c)(hc:c.callee=.builtin .min)(hax:c.args.toList=[x,y])
 (h:nT (aG st.fr x) (aG st.fr y) fun v=>K v st.h):cu P o base ι S a w st K:=by
 have hx:=hr.eval x;have hy:=hr.eval y;unfold nT at h;split at h
 ·rename_i k p k' q e1 e2;rw[e1,cz]at hx;rw[e2,cz]at hy;obtain⟨rfl,h⟩:=h;have hargs:c.args.map a.eval=#[.int k p,.int k q]:=by apply Array.ext';simp[hax,hx,hy]
  exact bh hr (xI ho hc (fun _=>rfl) (by rw[hargs];exact run_min_int2 w _ _ k k p q)) (by simp) h
 ·exact h.elim
theorem Wi{c:Call}{x y:Operand}(hr:bX base ι S a w st)(ho:o.op=.call c)(hc:c.callee=.builtin .max)(hax:c.args.toList=[x,y])
 (h:kr (aG st.fr x) (aG st.fr y) fun v=>K v st.h):cu P o base ι S a w st K:=by
 have hx:=hr.eval x;have hy:=hr.eval y;unfold kr at h;split at h
 ·rename_i k p k' q e1 e2;rw[e1,cz]at hx;rw[e2,cz]at hy;obtain⟨rfl,h⟩:=h;have hargs:c.args.map a.eval=#[.int k p,.int k q]:=by apply Array.ext';simp[hax,hx,hy]
  exact bh hr (xI ho hc (fun _=>rfl) (by rw[hargs];exact run_max_int2 w _ _ k k p q)) (by simp) h
 ·exact h.elim
theorem U4{c:Call}{x y z:Operand}(hr:bX base ι S a w st)(ho:o.op=.call c)(hc:c.callee=.builtin .max)(hax:c.args.toList=[x,y,z])
 (h:kr (aG st.fr x) (aG st.fr y) fun u=>kr u (aG st.fr z) fun v=>K v st.h):cu P o base ι S a w st K:=by
 have hx:=hr.eval x;have hy:=hr.eval y;have hz:=hr.eval z;unfold kr at h;split at h
 ·rename_i k p k' q e1 e2;rw[e1,cz]at hx;rw[e2,cz]at hy;obtain⟨rfl,h⟩:=h;split at h
  ·rename_i k1 p1 k2 q1 e3 e4;cases e3;rw[e4,cz]at hz;obtain⟨rfl,h⟩:=h;have hargs:c.args.map a.eval=#[.int k p,.int k q,.int k q1]:=by apply Array.ext';simp[hax,hx,hy,hz]
   refine bh hr (xI ho hc (fun _=>rfl) (by rw[hargs];exact (show (Builtin.max_ c.argTypes o.type #[.int k p,.int k q,.int k q1]).run P w=.ok (.int k (if q1 > (if q > p then q else p) then q1 else (if q > p then q else p))) w by simp[Builtin.max_,Builtin.max2]))) (by simp) h
  ·exact h.elim
 ·exact h.elim
theorem US{c:Call}{x:Operand}{f:FuncId}{first cap:List AV}(hr:bX base ι S a w st)(ho:o.op=.call c)(hc:c.callee=.value x)(hx:aG st.fr x=.fn (.func f) first cap)
 (hf:(P.funcs[f]?).any (fun fn=>fn.body.isSome&&fn.name != "runtime.NumGoroutine")=true) (h:bV P f (first++c.args.toList.map (aG st.fr)++cap) st.h K):cu P o base ι S a w st K:=by
 have hv:=hr.eval x;rw[hx,au]at hv;obtain⟨vs,us,ev,r1,r2⟩:=hv;obtain⟨fn,hfn,hb⟩:∃fn,P.funcs[f]?=some fn∧(fn.body.isSome&&fn.name != "runtime.NumGoroutine")=true:=by
  cases hq:P.funcs[f]? with
  | none=>rw[hq]at hf;cases hf
  | some fn=>rw[hq]at hf;exact⟨fn,rfl,hf⟩
 simp only[NO,bne_iff_ne,ne_eq]at hb;have hargs:aE ι S w (first++c.args.toList.map (aG st.fr)++cap) (vs++c.args.toList.map a.eval++us):=(r1.append (aE.JA hr _)).append r2;have hrun:(execOp a.eval o).run P w=.ok (.enter f (vs++c.args.toList.map a.eval++us).toArray) w:=by
  have e2:(vs.toArray++c.args.map a.eval)++us.toArray=(vs++c.args.toList.map a.eval++us).toArray:=by apply Array.ext';simp
  have hne:(fn.name == "runtime.NumGoroutine")=false:=by simpa using hb.2
  have hbn:fn.body.isNone=false:=by cases hbb:fn.body<;>simp_all
  simp only[execOp,ho,resolve,hc,aa4,ev,Deferred.ofValue,aa5,aa3,invoke,e2,callFunc,run_program,hfn,hne,hbn,aaJ,if_false]
 intro Q;unfold Oper.wp;rw[hrun,Oper.upon_enter];refine (h base ι S w _ hargs hr.hp).mono ?_;rintro e w' ⟨v,ι',S',r,h',rfl,hE,rv,hH,hl,k⟩;refine⟨ι',S',r,h', ?_, ?_,hl,k⟩
 ·rw[hr.hp.len];exact hE
 ·have:bX base ι' S' a w' ⟨st.n,st.fr,h'⟩:=⟨hr.df,hr.sz,dC.fV hE (by rw[hr.hp.len];exact bY _) hr.fr,hH⟩;exact this.put o.dst rv
end
/-! ### Built values -/
omit [Laid] in
theorem KX:∀{cs:List AV} {us:List Value} (cells:List AV) (vs:List Value) (o:Nat),aE ι S w cells vs→aE ι S w cs us→o+cs.length≤cells.length →
 ∃vs',(us.toArray.zipIdx.foldl (fun cs (c,j)=>cs.setIfInBounds (o+j) c) vs.toArray)=vs'.toArray∧aE ι S w (bZ cells o cs) vs':=by
 intro cs;have key:∀(cs:List AV) (us:List Value) (cells:List AV) (vs:List Value) (o k:Nat),aE ι S w cells vs→aE ι S w cs us→o+k+cs.length≤cells.length →
  ∃vs',((us.zipIdx k).foldl (fun (cs:Array Value) (c:Value×Nat)=>cs.setIfInBounds (o+c.2) c.1) vs.toArray)=vs'.toArray∧aE ι S w (bZ cells (o+k) cs) vs':=by
  intro cs;induction cs with
  | nil=>intro us cells vs o k h1 h2 _;simp at h2;subst h2;exact⟨vs,rfl,h1⟩
  | cons c cs ih =>
    intro us cells vs o k h1 h2 hl;cases us with
    | nil=>simp at h2
    | cons u us =>
      simp only[bO]at h2;simp only[aaB]at hl;simp only[List.zipIdx_cons,List.foldl_cons];have e:vs.toArray.setIfInBounds (o+k) u=(vs.set (o+k) u).toArray:=by simp
      rw[e];obtain⟨vs',e1,e2⟩:=ih us (cells.set (o+k) c) (vs.set (o+k) u) o (k+1) (h1.set _ _ _ h2.1) h2.2 (by simp;omega);exact⟨vs',e1,e2⟩
 intro us cells vs o h1 h2 hl;obtain⟨vs',e1,e2⟩:=key cs us cells vs o 0 h1 h2 hl;refine⟨vs', ?_,e2⟩;rw[←e1];simp[←Array.foldl_toList]
omit [Laid] in
theorem rN{ι:List Ix}{S:ba}{w:World}(place:Nat→Option (Nat×Nat)):∀(parts:List (Nat×AV×Value)) (cells:List AV) (vs:List Value) (r:List AV),aE ι S w cells vs →
 (∀p∈parts,au ι S w p.2.1 p.2.2∧(place p.1).isSome) →
 dQ cells (parts.map fun p=>(((place p.1).getD (0,0)).1,((place p.1).getD (0,0)).2,p.2.1))=some r →
 ∃vs',Instr.fill place vs.toArray (parts.map fun p=>(p.1,p.2.2))=some vs'.toArray∧aE ι S w r vs'
 | [],cells,vs,r,h1,_,h=>by
   simp only[List.map_nil,dQ,On]at h;subst h;exact⟨vs,rfl,h1⟩
 | (i,x,v):: parts,cells,vs,r,h1,hp,h=>by
  obtain⟨hx,hi⟩:=hp (i,x,v) (by simp);obtain⟨⟨off,size⟩,hpl⟩:=Option.isSome_iff_exists.1 hi;simp only[GO,dQ,hpl,Option.getD_some]at h;split at h
  ·rename_i hc;obtain⟨c1,c2,c3⟩:=hc;obtain⟨us,e1,r1,one⟩:=uK hx c3;dsimp only at c1 c3 e1 r1;obtain⟨vs',e2,r2⟩:=KX cells vs off h1 r1 (by omega);obtain⟨vs'',e3,r3⟩:=rN place parts _ vs' r r2 (fun p q=>hp p (by simp[q])) h;refine⟨vs'', ?_,r3⟩;simp only[GO,Instr.fill,hpl,e1];have l1:=r1.length;have l2:=h1.length;have l3:us.toArray.size=us.length:=by simp
   rw[if_neg (by simp;omega),e2];exact e3
  ·cases h
omit [Laid] in
theorem Bt(fs:List Field)(h:fs.all (fun f=>fT P f.type)=true):
 (fs.mapM (fun f=>(do pure (f.offset,←sizeOf f.type):Sem (Nat×Nat)))).run P w=.ok (fs.map fun f=>(f.offset,P.cellsOf f.type)) w:=by
 induction fs with
 | nil=>rfl
 | cons f fs ih =>
   simp only[aa2,NO]at h;simp only[List.mapM_cons,aa4,dJ h.1,aa3,aa5,ih h.2,GO]
omit [Laid] in
theorem KL(x:Value):bl (pZ x)=[pZ x]:=by
 unfold pZ;split
 ·split<;>rfl
 ·rfl
omit [Laid] in
theorem tR(z:Value):∃vs:List Value,z.cells=vs.toArray∧∀ι S w,aE ι S w (bl (ky z)) vs:=by
 have one:∀x:Value,∀ι S w,aE ι S w (bl (pZ x)) [x]:=fun x ι S w=>by
  rw[KL];simpa using uJ ι S w x
 cases z
 case agg cs =>
  refine⟨cs.toList,by simp[Value.cells],fun ι S w=>?_⟩;have:=tC ι S w (.agg cs);simp only[ky]at this ⊢;rw[au]at this;obtain⟨vs,e,r⟩:=this;simp only[Value.agg.injEq]at e;subst e;simpa[bl]using r
 all_goals exact⟨[_],rfl,fun ι S w=>by simp only[ky];exact one _ ι S w⟩
omit [Laid] in
theorem BE{z:AV}(h:jG P t=some z):∃u,(∀w,(zeroValue t).run P w=.ok u w)∧z=ky u:=by
 unfold jG at h;cases hi:P.info? t with
 | none=>rw[hi]at h;cases h
 | some i =>
   rw[hi]at h;simp only[Option.bind_some,aaE]at h;obtain⟨u,hu,rfl⟩:=h;exact⟨u,fun w=>by simp[zeroValue,nC hi,hu],rfl⟩
section
variable {P:Program} {o:Oper} {base:Nat} {ι:List Ix} {S:ba} {a:Act} {w:World} {st:St} {K:AV→aa→Prop}
theorem parts_eq(hr:bX base ι S a w st)(place:Nat→Option (Nat×Nat))(parts:Array (Nat×Operand)):
 (∀p∈(parts.toList.map fun p=>(p.1,aG st.fr p.2,a.eval p.2)),au ι S w p.2.1 p.2.2)∧(parts.map fun (i,x)=>(i,a.eval x)).toList=(parts.toList.map fun p=>(p.1,aG st.fr p.2,a.eval p.2)).map fun p=>(p.1,p.2.2):=by
 refine⟨fun p hp=>?_,by simp⟩;simp only[aaF]at hp;obtain⟨q,_,rfl⟩:=hp;exact hr.eval q.2
theorem Oy{t:TypeId}{parts:Array (Nat×Operand)}{fs:Array Field}{z:AV}(hr:bX base ι S a w st)(ho:o.op=.build t parts)(ht:P.underlying t=some (.struct fs))(hz:jG P t=some z)
 (hk:fs.toList.all (fun f=>fT P f.type)=true) (hp:parts.toList.all (fun p=>(fs[p.1]?).isSome)=true)
 (h:aY z (parts.toList.map fun p=>(((fs[p.1]?).map (·.offset)).getD 0,((fs[p.1]?).map (fun f=>P.cellsOf f.type)).getD 0,aG st.fr p.2)) fun v=>K v st.h):cu P o base ι S a w st K:=by
 obtain⟨u,hu,rfl⟩:=BE hz;obtain⟨vs,ez,rz⟩:=tR u;unfold aY at h;split at h
 ·rename_i cs e
  let places:Array (Nat×Nat):=(fs.toList.map fun f=>(f.offset,P.cellsOf f.type)).toArray
  obtain⟨q1,q2⟩:=parts_eq hr (places[·]?) parts;have hpl:∀i:Nat,places[i]?=(fs[i]?).map fun f=>(f.offset,P.cellsOf f.type):=fun i=>by simp[places]
  obtain⟨vs',e1,r1⟩:=rN (ι:=ι) (S:=S) (w:=w) (places[·]?) (parts.toList.map fun p=>(p.1,aG st.fr p.2,a.eval p.2)) (bl (ky u)) vs cs (rz ι S w) (fun p hpm=>⟨q1 p hpm,by
   simp only[aaF]at hpm;obtain⟨q,hq,rfl⟩:=hpm;have:=At.1 hp q hq;rw[hpl];simpa using this⟩) (by
   rw[←e,List.map_map]
   congr 1
   refine List.map_congr_left fun p hpm=>?_;have:=At.1 hp p hpm;simp only[Function.comp,hpl];obtain⟨f,hf⟩:=Option.isSome_iff_exists.1 this;simp[hf])
  refine bh hr (u:=.agg vs'.toArray) ?_ (by rw[au];exact⟨vs',rfl,r1⟩) h;simp only[execOp,ho];refine fL ?_;have hm:(fs.mapM (fun f=>(do pure (f.offset,←sizeOf f.type):Sem (Nat×Nat)))).run P w=.ok places w:=by
   rw[←Array.toArray_toList (xs:=fs)];have:=Bt (P:=P) (w:=w) fs.toList hk;rw[List.mapM_toArray];simp only[Sem.run_map,this,aa3,places]
  simp only[Instr.build,aa4,hu,aa3,run_underlying ht,hm,ez,q2,e1,aa5]
 ·exact h.elim
theorem Ox{t e:TypeId}{n:Nat}{parts:Array (Nat×Operand)}{z:AV}(hr:bX base ι S a w st)(ho:o.op=.build t parts)(ht:P.underlying t=some (.array n e))(hz:jG P t=some z)
 (hk:fT P e=true) (h:aY z (parts.toList.map fun p=>(p.1*P.cellsOf e,P.cellsOf e,aG st.fr p.2)) fun v=>K v st.h):cu P o base ι S a w st K:=by
 obtain⟨u,hu,rfl⟩:=BE hz;obtain⟨vs,ez,rz⟩:=tR u;unfold aY at h;split at h
 ·rename_i cs e';obtain⟨q1,q2⟩:=parts_eq hr (fun i=>some (i*P.cellsOf e,P.cellsOf e)) parts;obtain⟨vs',e1,r1⟩:=rN (ι:=ι) (S:=S) (w:=w) (fun i=>some (i*P.cellsOf e,P.cellsOf e)) (parts.toList.map fun p=>(p.1,aG st.fr p.2,a.eval p.2)) (bl (ky u)) vs cs (rz ι S w) (fun p hpm=>⟨q1 p hpm,rfl⟩) (by
   rw[←e',List.map_map];rfl)
  refine bh hr (u:=.agg vs'.toArray) ?_ (by rw[au];exact⟨vs',rfl,r1⟩) h;simp only[execOp,ho];refine fL ?_;simp only[Instr.build,aa4,hu,aa3,run_underlying ht,dJ hk,ez,q2,e1,aa5]
 ·exact h.elim
end
/-! ### Structs and arrays compared -/
omit [Laid] in
theorem u5:∀{ks ks':List Nat} {xs ys:List AV} {r:Bool},jg (ks++ks') xs ys=some r →
 ∃p q,jg ks (xs.take ks.length) (ys.take ks.length)=some p∧jg ks' (xs.drop ks.length) (ys.drop ks.length)=some q∧r=(p&&q)
 | [],ks',xs,ys,r,h=>⟨true,r,rfl,by simpa using h,by simp⟩
 | k:: ks,ks',[],ys,r,h=>by simp[jg]at h
 | k:: ks,ks',x:: xs,[],r,h=>by simp[jg]at h
 | k:: ks,ks',x:: xs,y:: ys,r,h=>by
   simp only[abg,jg]at h;split at h
   ·rename_i p q e1 e2;obtain⟨p',q',e3,e4,e5⟩:=u5 e2;simp only[On]at h;exact⟨p&&p',q',by simp[jg,e1,e3],by simpa using e4,by rw[←h,e5,Bool.and_assoc]⟩
   ·cases h
omit [Laid] in
theorem mE:∀{ks:List Nat} {xs ys:List AV} {r:Bool},jg ks xs ys=some r→xs.length=ks.length∧ys.length=ks.length
 | [],[],[],_,_=>⟨rfl,rfl⟩
 | [],x:: xs,_,_,h=>by simp[jg]at h
 | [],[],y:: ys,_,h=>by simp[jg]at h
 | k:: ks,[],_,_,h=>by simp[jg]at h
 | k:: ks,x:: xs,[],_,h=>by simp[jg]at h
 | k:: ks,x:: xs,y:: ys,r,h=>by
   simp only[jg]at h;split at h
   ·rename_i e1 e2;have:=mE e2;simp[this.1,this.2]
   ·cases h
def ia(P:Program)(t:TypeId)(vs:List Value):Value:=if fx P t then .agg vs.toArray else vs.headD undef
omit [Laid] in
theorem pL{vs:List Value}{off:Nat}(hk:fT P t=true)(hl:off+P.cellsOf t≤vs.length)(h1:fx P t=false→P.cellsOf t=1):
 (part t vs.toArray off).run P w=.ok (ia P t ((vs.drop off).take (P.cellsOf t))) w:=by
 unfold part ia;simp only[aa4,vF hk,aa3];cases hg:fx P t with
 | true =>
   simp only[if_true,aa4,dJ hk,aa3,aa5]
   congr 2
   apply Array.ext';simp[List.extract_eq_take_drop,Nat.add_sub_cancel_left]
 | false =>
   have h1:=h1 hg;simp only[aaJ,if_false];have hlt:off<vs.length:=by omega
   have e2:vs.toArray[off]?=some vs[off]:=by simp[hlt]
   have e:(vs.drop off).take 1=[vs[off]]:=by rw[aba hlt];rfl
   simp only[e2,h1,e];rfl
omit [Laid] in
theorem mG{d:Nat}(h:mF P d t=some ks):fT P t=true∧(fx P t=false→ks.length=1):=by
 cases d with
 | zero=>simp[mF]at h
 | succ d =>
   unfold mF at h;split at h
   ·rename_i hk;refine⟨hk,fun hg=>?_⟩;unfold fx at hg;split at h<;>rename_i e<;>(try rw[e]at hg)<;>(try simp only[rS,Bool.true_eq_false]at hg)<;>(try (simp only[On]at h;subst h;rfl))<;>cases h
   ·cases h
omit [Laid] in
theorem CY{P:Program}{ι:List Ix}{S:ba}{w:World}{g:TypeId→Option (List Nat)}{D:Nat}{xs ys:List AV}{vs us:List Value}(hx:aE ι S w xs vs)(hy:aE ι S w ys us)
 (ih:∀t ks,g t=some ks→fT P t=true∧(fx P t=false→ks.length=1)∧∀xs ys vs us r,aE ι S w xs vs→aE ι S w ys us→jg ks xs ys=some r→(Op.equalIn D t (ia P t vs) (ia P t us)).run P w=.ok r w) :
 ∀(fs:List Field) (o:Nat) (ks:List Nat) (r:Bool),ug g P o fs=some ks→jg ks (xs.drop o) (ys.drop o)=some r→(Op.eqFields D vs.toArray us.toArray fs).run P w=.ok r w
 | [],o,ks,r,h,k=>by
   simp only[ug,On]at h;subst h;have:r=true:=by
    cases hxs:xs.drop o<;>cases hys:ys.drop o<;>rw[hxs,hys]at k<;>simp[jg]at k;first|exact k|exact k.symm
   subst this;rfl
 | f:: fs,o,ks,r,h,k=>by
   simp only[ug]at h;split at h
   ·rename_i hc;obtain⟨ho,hn⟩:=hc;cases hg:g f.type with
    | none=>rw[hg]at h;cases h
    | some k1 =>
      rw[hg]at h;simp only[Option.bind_some]at h;split at h
      ·rename_i hz;cases hf:ug g P (o+k1.length) fs with
       | none=>rw[hf]at h;cases h
       | some k2 =>
         rw[hf]at h;simp only[abh,On]at h;subst h;obtain⟨p,q,e1,e2,e3⟩:=u5 k;obtain⟨t1,t2,t3⟩:=ih f.type k1 hg;have l1:=(mE e1).1;have l2:=(mE e1).2;have lx:=hx.length;have ly:=hy.length;simp only[aaI,List.length_drop]at l1 l2;obtain⟨hz,hz0⟩:=hz;have hpx:o+P.cellsOf f.type≤vs.length:=by omega
         have hpy:o+P.cellsOf f.type≤us.length:=by omega
         have h1:fx P f.type=false→P.cellsOf f.type=1:=fun q=>by rw[hz];exact t2 q
         have hq:=t3 _ _ _ _ p ((hx.drop o).take k1.length) ((hy.drop o).take k1.length) e1;have rec':=CY hx hy ih fs (o+k1.length) k2 q hf (by simpa[List.drop_drop]using e2);simp only[Op.eqFields,ho];rw[if_pos hn];simp only[aa4,pL (P:=P) (w:=w) t1 hpx h1,pL (P:=P) (w:=w) t1 hpy h1,aa3,hz,hq,Sem.run_ite];cases p with
         | true=>simp only[Bool.not_true,aaJ,if_false,rec'];rw[e3];rfl
         | false=>simp only[Bool.not_false,if_true,aa5];rw[e3];rfl
      ·cases h
   ·cases h
omit [Laid] in
theorem Qt:∀{n:Nat} {xs ys:List AV} {r:Bool},jg (Cn (n+1) ks) xs ys=some r →
 ∃p q,jg ks (xs.take ks.length) (ys.take ks.length)=some p∧jg (Cn n ks) (xs.drop ks.length) (ys.drop ks.length)=some q∧r=(p&&q):=fun h=>u5 h
omit [Laid] in
theorem EI{P:Program}{ι:List Ix}{S:ba}{w:World}{D:Nat}{e:TypeId}{ks:List Nat}{xs ys:List AV}{vs us:List Value}(hx:aE ι S w xs vs)(hy:aE ι S w ys us)
 (hk:fT P e=true) (h1:fx P e=false→ks.length=1) (hz:P.cellsOf e=ks.length) (hz0:0<ks.length)
 (ih:∀xs ys vs us r,aE ι S w xs vs→aE ι S w ys us→jg ks xs ys=some r→(Op.equalIn D e (ia P e vs) (ia P e us)).run P w=.ok r w) :
 ∀(n s:Nat) (r:Bool),jg (Cn n ks) (xs.drop (s*ks.length)) (ys.drop (s*ks.length))=some r →
  (forIn (m:=Sem) (List.range' s n) ((none,()):Option Bool×Unit) (fun i _=>do
   let a ←part e vs.toArray (i*ks.length)
   let b ←part e us.toArray (i*ks.length)
   let r ←Op.equalIn D e a b
   if (!r)=true then pure (.done (some false,())) else pure (.yield (none,())))).run P w=.ok (if r then (none,()) else (some false,())) w
 | 0,s,r,h=>by
   have:r=true:=by
    cases hxs:xs.drop (s*ks.length)<;>cases hys:ys.drop (s*ks.length)<;>rw[hxs,hys]at h<;>simp[jg,Cn]at h;first|exact h|exact h.symm
   subst this;rfl
 | n+1,s,r,h=>by
   obtain⟨p,q,e1,e2,e3⟩:=Qt h;have l1:=(mE e1).1;have l2:=(mE e1).2;have lx:=hx.length;have ly:=hy.length;simp only[aaI,List.length_drop]at l1 l2;have hpx:s*ks.length+P.cellsOf e≤vs.length:=by omega
   have hpy:s*ks.length+P.cellsOf e≤us.length:=by omega
   have h1':fx P e=false→P.cellsOf e=1:=fun q=>by rw[hz];exact h1 q
   have hq:=ih _ _ _ _ p ((hx.drop (s*ks.length)).take ks.length) ((hy.drop (s*ks.length)).take ks.length) e1;have rec':=EI hx hy hk h1 hz hz0 ih n (s+1) q (by rw[abf,Nat.one_mul];simpa[List.drop_drop]using e2);rw[List.range'_succ];simp only[List.forIn_cons,aa4,pL (P:=P) (w:=w) hk hpx h1',pL (P:=P) (w:=w) hk hpy h1',aa3,hz,hq,Sem.run_ite];cases p with
   | true=>simp only[Bool.not_true,aaJ,if_false,aa5,aa3,rec'];rw[e3];rfl
   | false=>simp only[Bool.not_false,if_true,aa5,aa3];rw[e3];rfl
omit [Laid] in
theorem KW{P:Program}{ι:List Ix}{S:ba}{w:World}:∀(d:Nat) (t:TypeId) (ks:List Nat),mF P d t=some ks→∀(D:Nat),d≤D→∀(xs ys:List AV) (vs us:List Value) (r:Bool),aE ι S w xs vs→aE ι S w ys us →
 jg ks xs ys=some r→(Op.equalIn D t (ia P t vs) (ia P t us)).run P w=.ok r w
 | 0,t,ks,h,_,_,_,_,_,_,_,_,_,_=>by simp[mF]at h
 | d+1,t,ks,h,0,hD,_,_,_,_,_,_,_,_=>by omega
 | d+1,t,ks,h,D+1,hD,xs,ys,vs,us,r,hx,hy,hr=>by
   have ih:=fun t ks h=>KW (P:=P) (ι:=ι) (S:=S) (w:=w) d t ks h D (by omega);obtain⟨hok,hone⟩:=mG h;unfold mF at h;rw[if_pos hok]at h;have scalar:∀k:Nat,ks=[k]→fx P t=false→∃x y u v,EH k x y=some r∧au ι S w x u∧au ι S w y v∧ia P t vs=u∧ia P t us=v:=by
    intro k hks hg;subst hks;have l:=mE hr
    match xs,ys,vs,us,l,hx,hy,hr with
    | [x],[y],u:: vs',v:: us',_,hx,hy,hr =>
      simp only[bO]at hx hy;simp only[jg]at hr;split at hr
      ·rename_i a b e1 e2;simp only[On]at hr e2;subst e2;simp only[Bool.and_true]at hr;subst hr;exact⟨x,y,u,v,e1,hx.1,hy.1,by simp[ia,hg],by simp[ia,hg]⟩
      ·cases hr
    | [x],[y],[],_,_,hx,_,_=>simp at hx
    | [x],[y],_:: _,[],_,_,hy,_=>simp at hy
   split at h
   ·rename_i e;obtain⟨x,y,u,v,e1,rx,ry,rfl,rfl⟩:=scalar 0 (by simpa using h.symm) (by simp[fx,e,rS]);unfold EH at e1;split at e1<;>first|(exfalso;omega)|skip
    ·simp only[cz]at rx ry;simp only[On]at e1;rw[rx,ry,←e1];exact run_equalIn_bool' w D t _ _ e
    ·cases e1
   ·rename_i k e;obtain⟨x,y,u,v,e1,rx,ry,rfl,rfl⟩:=scalar 1 (by simpa using h.symm) (by simp[fx,e,rS]);unfold EH at e1;split at e1<;>first|(exfalso;omega)|skip
    ·simp only[cz]at rx ry;split at e1
     ·rename_i hk;subst hk;simp only[On]at e1;rw[rx,ry,run_equalIn_int w D t _ k _ _ e,←e1];rfl
     ·cases e1
    ·cases e1
   ·rename_i e;obtain⟨x,y,u,v,e1,rx,ry,rfl,rfl⟩:=scalar 2 (by simpa using h.symm) (by simp[fx,e,rS]);unfold EH at e1;split at e1<;>first|(exfalso;omega)|skip
    ·rename_i _ _ p q _;simp only[eA]at rx ry;simp only[On]at e1;rw[rx.1,ry.1,run_equalIn_string w D t _ _ e,←e1];simp only[ByteArray.toList_mk]
     congr 1
     by_cases hpq:p=q<;>simp[hpq]
    ·cases e1
   ·rename_i fs e;split at h
    ·cases h
    ·rename_i hsi;have hg:fx P t=true:=by simp[fx,e,rS]
     have hf:P.fieldsOf t=fs:=by simp[Program.fieldsOf,e]
     simp only[ia,hg,if_true];rw[run_equalIn_struct w D t _ _ (by rw[hf];exact e) (by simpa using hsi),hf];exact CY hx hy (fun t ks h=>⟨(mG h).1,(mG h).2,fun xs ys vs us r a b c=>ih t ks h xs ys vs us r a b c⟩) fs.toList 0 ks r h (by simpa using hr)
   ·rename_i n el e;cases hf:mF P d el with
    | none=>rw[hf]at h;cases h
    | some k1 =>
      rw[hf]at h;simp only[Option.bind_some]at h;split at h
      ·rename_i hz;simp only[On]at h;subst h;have hg:fx P t=true:=by simp[fx,e,rS]
       simp only[ia,hg,if_true];have key:=EI hx hy (mG hf).1 (mG hf).2 hz.1 hz.2 (fun xs ys vs us r a b c=>ih el k1 hf xs ys vs us r a b c) n 0 r (by simpa using hr);simp only[Op.equalIn,aa4,run_underlying e,aa3,dJ (mG hf).1,hz.1];have hfor:∀(f:Nat→Option Bool×Unit→Sem (ForInStep (Option Bool×Unit))),forIn (m:=Sem) [:n] ((none,()):Option Bool×Unit) f=forIn (List.range' 0 n) ((none,()):Option Bool×Unit) f:=fun f=>by
        simp[Std.Legacy.Range.forIn_eq_forIn_range',Std.Legacy.Range.size]
       rw[hfor,key];cases r<;>rfl
      ·cases h
   ·cases h
end
end Go.Aw
end
