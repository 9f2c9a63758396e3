/-
  Abstract values for a Go walk: what a value of the model stands for,in a memory of which only the cells that are never written again are told;with the rules by which the model's own wp follows from a condition on abstract values alone. The rules by which the model's wp of a piece of code follows from a condition on abstract states;and what a call comes to. What one operation does to an abstract state: words for a condition ('i..'),and that the model's operation meets it. The operations: for each a word that says,of abstract values,what it asks and what it hands on. The model's operations meet the words of '..Ops'. The model's operations on memory meet the words of '..Ops'. Structs and arrays built and compared;each operation of the list in one theorem. 'append' and what else makes or grows a slice: the model's operations meet their words. Interface values,methods called through them,and what is held against nil.
  No conditions.
-/
import Derived.WalkKit
import Derived.Deep.Quiet
import Derived.Stop.Asserts
import Derived.WalkSpells
import Derived.WalkLawsBesides
import Derived.Laws.StructEq
import Derived.Deep.AppendSrc
import Derived.Deep.Upon
set_option linter.unusedVariables false
set_option linter.unusedSimpArgs false
section
namespace Go.Aw
open Go Go.RowKit

inductive AV where
 | v (x : Value)
 | str (l : List UInt8)
 | any
 | agg (cs : List AV)
 | tup (cs : List AV)
 | emp
 | sl (sz : Nat) (rows : List (List AV))
 | sb (id sz : Nat) (rows : List (List AV))
 | ip (cs : List AV)
 | own (id off len sz : Nat)
 | op (id off : Nat)
 | fn (f : Fn) (first cap : List AV)
 | ifc (t : TypeId) (x : AV)
 | mp (id : Nat)
 deriving Inhabited

structure Blk where
 ty : TypeId
 cells : List AV
 wr : Bool

inductive Ent where
 | blk (b : Blk)
 | tok (e sz n : Nat)
 | dead
 | mp (c : Nat) (es : List (Nat × AV × AV))
 | it (m s : Nat) (sn : List Nat) (l : Nat)

abbrev aa:=List Ent

inductive Ix where
 | blk (b : Nat)
 | tok (n : Nat) (v : Value)

abbrev int (n : Int) : AV:=.v (.int .i64 n)
abbrev bool (b : Bool) : AV:=.v (.bool b)
abbrev aJ:=Nat → Nat → Prop

section
variable (ι : List Ix) (S : aJ) (w : World)
mutual
def Rep : AV → Value → Prop
 | .v x,y=>y = x
 | .str l,y=>y = .string ⟨l.toArray⟩ ∧ l.length ≤ maxLen
 | .any,_=>True
 | .agg cs,y=>∃ vs : List Value,y = .agg vs.toArray ∧ au cs vs
 | .tup cs,y=>∃ vs : List Value,y = .tuple vs.toArray ∧ au cs vs
 | .emp,y=>∃ a,y = .slice a 0 0
 | .sl sz rows,y=>∃ a cap,y = .slice a rows.length cap ∧ rows.length ≤ cap ∧ cap ≤ maxLen ∧ (rows = [] ∨ ∃ b off,a = some ⟨b,off,none⟩ ∧ bA sz rows b off)
 | .sb id sz rows,y=>(∃ a cap,y = .slice a rows.length cap ∧ rows.length ≤ cap ∧ cap ≤ maxLen ∧ (rows = [] ∨ ∃ b off,a = some ⟨b,off,none⟩ ∧ bA sz rows b off)) ∧ ∃ n v,ι[id]? = some (.tok n v) ∧ rows.length ≤ n ∧ (n = rows.length → y = v)
 | .ip cs,y=>∃ b off,y = .pointer (some ⟨b,off,none⟩) ∧ bn cs b off
 | .own id off len sz,y=>∃ b a cap n ty,ι[id]? = some (.blk b) ∧ y = .slice a len cap ∧ len ≤ cap ∧ cap ≤ maxLen ∧ (cap = 0 ∨ a = some ⟨b,off,none⟩) ∧ w.shape? b = some (ty,n) ∧ off + cap * sz ≤ n
 | .op id off,y=>∃ b,ι[id]? = some (.blk b) ∧ y = .pointer (some ⟨b,off,none⟩)
 | .fn f xs ys,y=>∃ vs us : List Value,y = .func f vs.toArray us.toArray ∧ au xs vs ∧ au ys us
 | .ifc t x,y=>∃ v,y = .iface t v ∧ Rep x v
 | .mp id,y=>∃ b,ι[id]? = some (.blk b) ∧ y = .map (some b)
def au : List AV → List Value → Prop
 | [],vs=>vs = []
 | a :: as,vs=>∃ u us,vs = u :: us ∧ Rep a u ∧ au as us
def bn : List AV → Nat → Nat → Prop
 | [],_,_=>True
 | c :: cs,b,off=>(∃ u,w.cell? ⟨b,off,none⟩ = some u ∧ S b off ∧ Rep c u) ∧ bn cs b (off + 1)
def bA (sz : Nat) : List (List AV) → Nat → Nat → Prop
 | [],_,_=>True
 | r :: rs,b,off=>r.length = sz ∧ bn r b off ∧ bA sz rs b (off + sz)
end
end

section
variable {ι : List Ix} {S : aJ} {w : World}
@[simp] theorem bL (x y : Value) : Rep ι S w (.v x) y ↔ y = x:=by simp [Rep]
@[simp] theorem Rep_any (y : Value) : Rep ι S w .any y ↔ True:=by simp [Rep]
@[simp] theorem dk (l : List UInt8) (y : Value) : Rep ι S w (.str l) y ↔ y = .string ⟨l.toArray⟩ ∧ l.length ≤ maxLen:=by simp [Rep]
@[simp] theorem fL (vs : List Value) : au ι S w [] vs ↔ vs = []:=by simp [au]
@[simp] theorem bD (a : AV) (as : List AV) (v : Value) (vs : List Value) : au ι S w (a :: as) (v :: vs) ↔ Rep ι S w a v ∧ au ι S w as vs:=by
 rw [au]
 constructor
 ·rintro ⟨u,us,e,h1,h2⟩;simp only [List.cons.injEq] at e;obtain ⟨rfl,rfl⟩:=e;exact ⟨h1,h2⟩
 ·rintro ⟨h1,h2⟩;exact ⟨_,_,rfl,h1,h2⟩
@[simp] theorem RepL_cons_nil (a : AV) (as : List AV) : ¬ au ι S w (a :: as) []:=by
 rw [au];rintro ⟨u,us,e,_⟩;cases e

theorem au.length : ∀ {as : List AV} {vs : List Value},au ι S w as vs → as.length = vs.length
 | [],vs,h=>by simp at h;simp [h]
 | a :: as,[],h=>by simp at h
 | a :: as,v :: vs,h=>by simp at h;simp [au.length h.2]

theorem au.get : ∀ {as : List AV} {vs : List Value},au ι S w as vs → ∀ (i : Nat) (a : AV),as[i]? = some a → ∃ v,vs[i]? = some v ∧ Rep ι S w a v
 | [],vs,h,i,a,e=>by simp at e
 | a :: as,[],h,_,_,_=>by simp at h
 | a :: as,v :: vs,h,0,x,e=>by simp at e h;subst e;exact ⟨v,by simp,h.1⟩
 | a :: as,v :: vs,h,i + 1,x,e=>by simp at e h;simpa using h.2.get i x e

theorem au.get' : ∀ {as : List AV} {vs : List Value},au ι S w as vs → ∀ (i : Nat) (v : Value),vs[i]? = some v → ∃ a,as[i]? = some a ∧ Rep ι S w a v:=by
 intro as vs h i v e
 have hl:=h.length
 obtain ⟨hi,_⟩:=List.getElem?_eq_some_iff.1 e
 have : as[i]? = some as[i]:=List.getElem?_eq_getElem (by omega)
 obtain ⟨u,hu,hr⟩:=h.get i _ this
 rw [e] at hu;cases hu
 exact ⟨_,this,hr⟩

theorem au.set : ∀ {as : List AV} {vs : List Value},au ι S w as vs → ∀ (i : Nat) (a : AV) (v : Value),Rep ι S w a v → au ι S w (as.set i a) (vs.set i v)
 | [],vs,h,i,a,v,_=>by simp at h;subst h;simp
 | a :: as,[],h,_,_,_,_=>by simp at h
 | a :: as,v :: vs,h,0,x,u,e=>by simp at h;simpa using ⟨e,h.2⟩
 | a :: as,v :: vs,h,i + 1,x,u,e=>by simp at h;simpa using ⟨h.1,h.2.set i x u e⟩

theorem au.append : ∀ {as bs : List AV} {vs us : List Value},au ι S w as vs → au ι S w bs us → au ι S w (as ++ bs) (vs ++ us)
 | [],bs,vs,us,h,k=>by simp at h;subst h;simpa using k
 | a :: as,bs,[],us,h,_=>by simp at h
 | a :: as,bs,v :: vs,us,h,k=>by simp at h;simpa using ⟨h.1,h.2.append k⟩

theorem au.mk : ∀ {as : List AV} {vs : List Value},as.length = vs.length → (∀ (i : Nat) (a : AV) (v : Value),as[i]? = some a → vs[i]? = some v → Rep ι S w a v) → au ι S w as vs
 | [],vs,h,_=>by simpa using (List.length_eq_zero_iff.1 (by simpa using h.symm))
 | a :: as,[],h,_=>by simp at h
 | a :: as,v :: vs,h,k=>by
   simp only [bD]
   exact ⟨k 0 a v rfl rfl,au.mk (by simpa using h) fun i x u e f=>k (i + 1) x u (by simpa using e) (by simpa using f)⟩

theorem au.take : ∀ {as : List AV} {vs : List Value} (n : Nat),au ι S w as vs → au ι S w (as.take n) (vs.take n)
 | [],vs,n,h=>by simp at h;subst h;simp
 | a :: as,[],n,h=>by simp at h
 | a :: as,v :: vs,0,h=>by simp
 | a :: as,v :: vs,n + 1,h=>by simp at h;simpa using ⟨h.1,h.2.take n⟩
theorem au.drop : ∀ {as : List AV} {vs : List Value} (n : Nat),au ι S w as vs → au ι S w (as.drop n) (vs.drop n)
 | [],vs,n,h=>by simp at h;subst h;simp
 | a :: as,[],n,h=>by simp at h
 | a :: as,v :: vs,0,h=>by simpa using h
 | a :: as,v :: vs,n + 1,h=>by simp at h;simpa using h.2.drop n

theorem bn.get : ∀ {cs : List AV} {b off : Nat},bn ι S w cs b off → ∀ (i : Nat) (c : AV),cs[i]? = some c → ∃ u,w.cell? ⟨b,off + i,none⟩ = some u ∧ S b (off + i) ∧ Rep ι S w c u
 | [],b,off,h,i,c,e=>by simp at e
 | c :: cs,b,off,h,0,x,e=>by simp at e;subst e;rw [bn] at h;simpa using h.1
 | c :: cs,b,off,h,i + 1,x,e=>by
   simp at e;rw [bn] at h
   have:=h.2.get i x e
   rw [show off + (i + 1) = off + 1 + i by omega];exact this

theorem bn.mk : ∀ {cs : List AV} {b off : Nat},(∀ (i : Nat) (c : AV),cs[i]? = some c → ∃ u,w.cell? ⟨b,off + i,none⟩ = some u ∧ S b (off + i) ∧ Rep ι S w c u) → bn ι S w cs b off
 | [],b,off,h=>by simp [bn]
 | c :: cs,b,off,h=>by
   rw [bn]
   refine ⟨by simpa using h 0 c rfl,bn.mk fun i x e=>?_⟩
   have:=h (i + 1) x (by simpa using e)
   rw [show off + 1 + i = off + (i + 1) by omega];exact this

theorem bn.drop {cs : List AV} {b off : Nat} (h : bn ι S w cs b off) (k : Nat) : bn ι S w (cs.drop k) b (off + k) :=
 bn.mk fun i c e=>by
  have:=h.get (k + i) c (by simpa using e)
  rw [show off + k + i = off + (k + i) by omega];exact this

theorem bn.az : ∀ {cs : List AV} {b off : Nat},bn ι S w cs b off → ∃ vs : List Value,au ι S w cs vs ∧ ∀ (i : Nat) (v : Value),vs[i]? = some v → w.cell? ⟨b,off + i,none⟩ = some v
 | [],b,off,h=>⟨[],by simp,by simp⟩
 | c :: cs,b,off,h=>by
   rw [bn] at h
   obtain ⟨⟨u,hu,_,hr⟩,h2⟩:=h
   obtain ⟨vs,hv,hc⟩:=h2.az
   refine ⟨u :: vs,by simpa using ⟨hr,hv⟩,fun i v e=>?_⟩
   cases i with
   | zero=>simp at e;subst e;simpa using hu
   | succ i=>simp at e;have:=hc i v e;rw [show off + (i + 1) = off + 1 + i by omega];exact this

theorem bA.get {sz : Nat} : ∀ {rows : List (List AV)} {b off : Nat},bA ι S w sz rows b off → ∀ (i : Nat) (r : List AV),rows[i]? = some r → r.length = sz ∧ bn ι S w r b (off + i * sz)
 | [],b,off,h,i,c,e=>by simp at e
 | r :: rs,b,off,h,0,x,e=>by simp at e;subst e;rw [bA] at h;simpa using ⟨h.1,h.2.1⟩
 | r :: rs,b,off,h,i + 1,x,e=>by
   simp at e;rw [bA] at h
   have:=h.2.2.get i x e
   rw [show off + (i + 1) * sz = off + sz + i * sz by rw [Nat.add_mul];omega];exact this
theorem bA.mk {sz : Nat} : ∀ {rows : List (List AV)} {b off : Nat},(∀ (i : Nat) (r : List AV),rows[i]? = some r → r.length = sz ∧ bn ι S w r b (off + i * sz)) → bA ι S w sz rows b off
 | [],b,off,h=>by simp [bA]
 | r :: rs,b,off,h=>by
   rw [bA]
   have h0:=h 0 r rfl
   refine ⟨h0.1,by simpa using h0.2,bA.mk fun i x e=>?_⟩
   have:=h (i + 1) x (by simpa using e)
   rw [show off + sz + i * sz = off + (i + 1) * sz by rw [Nat.add_mul];omega];exact this
end

def dM : Option Ix → Option Ix → Prop
 | some (.tok n v),y=>∃ n' v',y = some (.tok n' v') ∧ ((n' = n ∧ v' = v) ∨ n < n')
 | x,y=>y = x
theorem dM.refl : ∀ x,dM x x
 | some (.tok n v)=>⟨n,v,rfl,.inl ⟨rfl,rfl⟩⟩
 | some (.blk _)=>rfl
 | none=>rfl
theorem dM.of_eq {x y : Option Ix} (h : y = x) : dM x y:=h ▸ dM.refl x
theorem dM.trans : ∀ {x y z : Option Ix},dM x y → dM y z → dM x z
 | some (.tok n v),y,z,h,k=>by
   obtain ⟨n',v',rfl,h⟩:=h
   obtain ⟨n'',v'',rfl,k⟩:=k
   refine ⟨n'',v'',rfl, ?_⟩
   rcases h with ⟨rfl,rfl⟩|h
   ·exact k
   ·rcases k with ⟨rfl,rfl⟩|k
    ·exact .inr h
    ·exact .inr (Nat.lt_trans h k)
 | some (.blk _),y,z,h,k=>by simp only [dM] at h;subst h;exact k
 | none,y,z,h,k=>by simp only [dM] at h;subst h;exact k
theorem dM.blk {b : Nat} {y : Option Ix} (h : dM (some (.blk b)) y) : y = some (.blk b):=h

structure Evo (n base : Nat) (ι : List Ix) (S : aJ) (w : World) (ι' : List Ix) (S' : aJ) (w' : World) : Prop where
 pre : ∀ i,i < n → dM ι[i]? ι'[i]?
 sub : ∀ b o,S b o → S' b o
 new : ∀ b o,S' b o → S b o ∨ base ≤ b
 cell : ∀ b o,S b o → w'.cell? ⟨b,o,none⟩ = w.cell? ⟨b,o,none⟩
 shp : ∀ b x,w.shape? b = some x → w'.shape? b = some x
 bel : Below base w w'

theorem Evo.refl (n base : Nat) (ι : List Ix) (S : aJ) (w : World) : Evo n base ι S w ι S w :=
 ⟨fun _ _=>dM.refl _,fun _ _ h=>h,fun _ _ h=>.inl h,fun _ _ _=>rfl,fun _ _ h=>h,Below.refl _ _⟩
theorem Evo.trans {n base : Nat} {ι ι' ι'' : List Ix} {S S' S'' : aJ} {w w' w'' : World} (h : Evo n base ι S w ι' S' w') (k : Evo n base ι' S' w' ι'' S'' w'') : Evo n base ι S w ι'' S'' w'' :=
 ⟨fun i hi=>(h.pre i hi).trans (k.pre i hi),fun b o x=>k.sub b o (h.sub b o x),
  fun b o x=>(k.new b o x).elim (fun y=>h.new b o y) .inr,
  fun b o x=>(k.cell b o (h.sub b o x)).trans (h.cell b o x),fun b x hx=>k.shp b x (h.shp b x hx),h.bel.trans k.bel⟩
theorem Evo.mono {n n' base base' : Nat} {ι ι' : List Ix} {S S' : aJ} {w w' : World} (h : Evo n base ι S w ι' S' w') (hn : n' ≤ n) (hb : base' ≤ base) : Evo n' base' ι S w ι' S' w' :=
 ⟨fun i hi=>h.pre i (Nat.lt_of_lt_of_le hi hn),h.sub,fun b o x=>(h.new b o x).imp id (fun y=>Nat.le_trans hb y),h.cell,h.shp,h.bel.mono hb⟩

mutual
def Bd (n : Nat) : AV → Prop
 | .v _|.str _|.any|.emp=>True
 | .agg cs|.tup cs|.ip cs=>BdL n cs
 | .sl _ rows=>BdR n rows
 | .sb id _ rows=>id < n ∧ BdR n rows
 | .own id _ _ _|.op id _|.mp id=>id < n
 | .fn _ xs ys=>BdL n xs ∧ BdL n ys
 | .ifc _ x=>Bd n x
def BdL (n : Nat) : List AV → Prop
 | []=>True
 | a :: as=>Bd n a ∧ BdL n as
def BdR (n : Nat) : List (List AV) → Prop
 | []=>True
 | r :: rs=>BdL n r ∧ BdR n rs
end
mutual
theorem Rep.bd {ι : List Ix} {S : aJ} {w : World} {n : Nat} (hn : ι.length ≤ n) : ∀ (a : AV) (y : Value),Rep ι S w a y → Bd n a
 | .v _,_,_=>by simp [Bd]
 | .str _,_,_=>by simp [Bd]
 | .any,_,_=>by simp [Bd]
 | .emp,_,_=>by simp [Bd]
 | .agg cs,y,k=>by rw [Rep] at k;rw [Bd];obtain ⟨vs,e,k⟩:=k;exact au.bd hn cs vs k
 | .tup cs,y,k=>by rw [Rep] at k;rw [Bd];obtain ⟨vs,e,k⟩:=k;exact au.bd hn cs vs k
 | .sl sz rows,y,k=>by
   rw [Rep] at k;rw [Bd]
   obtain ⟨a,cap,e,h1,h2,h3⟩:=k
   rcases h3 with rfl|⟨b,off,ea,hr⟩
   ·simp [BdR]
   ·exact bA.bd hn sz rows b off hr
 | .sb tid sz rows,y,k=>by
   rw [Rep] at k;rw [Bd]
   obtain ⟨⟨a,cap,e,h1,h2,h3⟩,m,v,t1,_⟩:=k
   refine ⟨Nat.lt_of_lt_of_le (List.getElem?_eq_some_iff.1 t1).1 hn, ?_⟩
   rcases h3 with rfl|⟨b,off,ea,hr⟩
   ·simp [BdR]
   ·exact bA.bd hn sz rows b off hr
 | .ip cs,y,k=>by rw [Rep] at k;rw [Bd];obtain ⟨b,off,e,k⟩:=k;exact bn.bd hn cs b off k
 | .own tid off len sz,y,k=>by
   rw [Rep] at k;rw [Bd]
   obtain ⟨b,a,cap,m,ty,h1,_⟩:=k
   exact Nat.lt_of_lt_of_le (List.getElem?_eq_some_iff.1 h1).1 hn
 | .op tid off,y,k=>by
   rw [Rep] at k;rw [Bd]
   obtain ⟨b,h1,_⟩:=k
   exact Nat.lt_of_lt_of_le (List.getElem?_eq_some_iff.1 h1).1 hn
 | .fn f xs ys,y,k=>by rw [Rep] at k;rw [Bd];obtain ⟨vs,us,e,k1,k2⟩:=k;exact ⟨au.bd hn xs vs k1,au.bd hn ys us k2⟩
 | .ifc t x,y,k=>by rw [Rep] at k;rw [Bd];obtain ⟨v,e,k⟩:=k;exact Rep.bd hn x v k
 | .mp tid,y,k=>by
   rw [Rep] at k;rw [Bd]
   obtain ⟨b,h1,_⟩:=k
   exact Nat.lt_of_lt_of_le (List.getElem?_eq_some_iff.1 h1).1 hn
theorem au.bd {ι : List Ix} {S : aJ} {w : World} {n : Nat} (hn : ι.length ≤ n) : ∀ (as : List AV) (vs : List Value),au ι S w as vs → BdL n as
 | [],_,_=>by simp [BdL]
 | a :: as,[],k=>by simp at k
 | a :: as,v :: vs,k=>by simp at k;rw [BdL];exact ⟨Rep.bd hn a v k.1,au.bd hn as vs k.2⟩
theorem bn.bd {ι : List Ix} {S : aJ} {w : World} {n : Nat} (hn : ι.length ≤ n) : ∀ (cs : List AV) (b off : Nat),bn ι S w cs b off → BdL n cs
 | [],_,_,_=>by simp [BdL]
 | c :: cs,b,off,k=>by rw [bn] at k;rw [BdL];obtain ⟨⟨u,_,_,h⟩,k2⟩:=k;exact ⟨Rep.bd hn c u h,bn.bd hn cs b (off + 1) k2⟩
theorem bA.bd {ι : List Ix} {S : aJ} {w : World} {n : Nat} (hn : ι.length ≤ n) (sz : Nat) : ∀ (rows : List (List AV)) (b off : Nat),bA ι S w sz rows b off → BdR n rows
 | [],_,_,_=>by simp [BdR]
 | r :: rs,b,off,k=>by rw [bA] at k;rw [BdR];exact ⟨bn.bd hn r b off k.2.1,bA.bd hn sz rs b (off + sz) k.2.2⟩
end
mutual
theorem Rep.eD {n base : Nat} {ι ι' : List Ix} {S S' : aJ} {w w' : World} (h : Evo n base ι S w ι' S' w') : ∀ (a : AV) (y : Value),Bd n a → Rep ι S w a y → Rep ι' S' w' a y
 | .v x,y,p,k=>by simpa using k
 | .str x,y,p,k=>by simpa using k
 | .any,y,p,k=>by simp
 | .agg cs,y,p,k=>by rw [Rep] at *;rw [Bd] at p;obtain ⟨vs,e,k⟩:=k;exact ⟨vs,e,au.eD h cs vs p k⟩
 | .tup cs,y,p,k=>by rw [Rep] at *;rw [Bd] at p;obtain ⟨vs,e,k⟩:=k;exact ⟨vs,e,au.eD h cs vs p k⟩
 | .emp,y,p,k=>by rw [Rep] at *;exact k
 | .sl sz rows,y,p,k=>by
   rw [Rep] at *;rw [Bd] at p
   obtain ⟨a,cap,e,h1,h2,h3⟩:=k
   exact ⟨a,cap,e,h1,h2,h3.imp (fun q=>q) fun ⟨b,off,ea,hr⟩=>⟨b,off,ea,bA.eD h sz rows b off p hr⟩⟩
 | .sb tid sz rows,y,p,k=>by
   rw [Rep] at *;rw [Bd] at p
   obtain ⟨⟨a,cap,e,h1,h2,h3⟩,m,v,t1,t2,t3⟩:=k
   refine ⟨⟨a,cap,e,h1,h2,h3.imp (fun q=>q) fun ⟨b,off,ea,hr⟩=>⟨b,off,ea,bA.eD h sz rows b off p.2 hr⟩⟩, ?_⟩
   have hp:=h.pre tid p.1
   rw [t1] at hp
   obtain ⟨m',v',e',q⟩:=hp
   refine ⟨m',v',e', ?_⟩
   rcases q with ⟨rfl,rfl⟩|q
   ·exact ⟨t2,t3⟩
   ·exact ⟨by omega,fun z=>by omega⟩
 | .ip cs,y,p,k=>by rw [Rep] at *;rw [Bd] at p;obtain ⟨b,off,e,k⟩:=k;exact ⟨b,off,e,bn.eD h cs b off p k⟩
 | .own tid off len sz,y,p,k=>by
   rw [Rep] at *;rw [Bd] at p
   obtain ⟨b,a,cap,m,ty,h1,h2,h3,h4,h5,h6,h7⟩:=k
   exact ⟨b,a,cap,m,ty,(h1 ▸ h.pre tid p).blk,h2,h3,h4,h5,h.shp _ _ h6,h7⟩
 | .op tid off,y,p,k=>by
   rw [Rep] at *;rw [Bd] at p
   obtain ⟨b,h1,h2⟩:=k
   exact ⟨b,(h1 ▸ h.pre tid p).blk,h2⟩
 | .fn f xs ys,y,p,k=>by rw [Rep] at *;rw [Bd] at p;obtain ⟨vs,us,e,k1,k2⟩:=k;exact ⟨vs,us,e,au.eD h xs vs p.1 k1,au.eD h ys us p.2 k2⟩
 | .ifc t x,y,p,k=>by rw [Rep] at *;rw [Bd] at p;obtain ⟨v,e,k⟩:=k;exact ⟨v,e,Rep.eD h x v p k⟩
 | .mp tid,y,p,k=>by
   rw [Rep] at *;rw [Bd] at p
   obtain ⟨b,h1,h2⟩:=k
   exact ⟨b,(h1 ▸ h.pre tid p).blk,h2⟩
theorem au.eD {n base : Nat} {ι ι' : List Ix} {S S' : aJ} {w w' : World} (h : Evo n base ι S w ι' S' w') : ∀ (as : List AV) (vs : List Value),BdL n as → au ι S w as vs → au ι' S' w' as vs
 | [],vs,p,k=>by simpa using k
 | a :: as,[],p,k=>by simp at k
 | a :: as,v :: vs,p,k=>by simp at k;rw [BdL] at p;simpa using ⟨Rep.eD h a v p.1 k.1,au.eD h as vs p.2 k.2⟩
theorem bn.eD {n base : Nat} {ι ι' : List Ix} {S S' : aJ} {w w' : World} (h : Evo n base ι S w ι' S' w') : ∀ (cs : List AV) (b off : Nat),BdL n cs → bn ι S w cs b off → bn ι' S' w' cs b off
 | [],b,off,p,k=>by simp [bn]
 | c :: cs,b,off,p,k=>by
   rw [bn] at *;rw [BdL] at p
   obtain ⟨⟨u,h1,h2,h3⟩,k2⟩:=k
   exact ⟨⟨u,by rw [h.cell b off h2];exact h1,h.sub _ _ h2,Rep.eD h c u p.1 h3⟩,bn.eD h cs b (off + 1) p.2 k2⟩
theorem bA.eD {n base : Nat} {ι ι' : List Ix} {S S' : aJ} {w w' : World} (h : Evo n base ι S w ι' S' w') (sz : Nat) : ∀ (rows : List (List AV)) (b off : Nat),BdR n rows → bA ι S w sz rows b off → bA ι' S' w' sz rows b off
 | [],b,off,p,k=>by simp [bA]
 | r :: rs,b,off,p,k=>by
   rw [bA] at *;rw [BdR] at p
   exact ⟨k.1,bn.eD h r b off p.1 k.2.1,bA.eD h sz rs b (off + sz) p.2 k.2.2⟩
end
theorem Rep.evo {n base : Nat} {ι ι' : List Ix} {S S' : aJ} {w w' : World} (h : Evo n base ι S w ι' S' w') (hn : ι.length ≤ n) (a : AV) (y : Value) (k : Rep ι S w a y) : Rep ι' S' w' a y:=Rep.eD h a y (Rep.bd hn a y k) k
theorem au.evo {n base : Nat} {ι ι' : List Ix} {S S' : aJ} {w w' : World} (h : Evo n base ι S w ι' S' w') (hn : ι.length ≤ n) (as : List AV) (vs : List Value) (k : au ι S w as vs) : au ι' S' w' as vs:=au.eD h as vs (au.bd hn as vs k) k
theorem bn.evo {n base : Nat} {ι ι' : List Ix} {S S' : aJ} {w w' : World} (h : Evo n base ι S w ι' S' w') (hn : ι.length ≤ n) (cs : List AV) (b off : Nat) (k : bn ι S w cs b off) : bn ι' S' w' cs b off:=bn.eD h cs b off (bn.bd hn cs b off k) k
theorem bA.evo {n base : Nat} {ι ι' : List Ix} {S S' : aJ} {w w' : World} (h : Evo n base ι S w ι' S' w') (hn : ι.length ≤ n) (sz : Nat) (rows : List (List AV)) (b off : Nat) (k : bA ι S w sz rows b off) : bA ι' S' w' sz rows b off:=bA.eD h sz rows b off (bA.bd hn sz rows b off k) k

/-! ### Maps,and walks over them -/
section
variable (ι : List Ix) (S : aJ) (w : World)
def MpR : List (Nat × AV × AV) → List MapEntry → Prop
 | [],l=>l = []
 | (n,k,c) :: r,l=>∃ e l',l = e :: l' ∧ e.born = n ∧ Rep ι S w k e.key ∧ Rep ι S w c e.val ∧ MpR r l'
def jI (base : Nat) (ix : Option Ix) : Ent → Prop
 | .mp c es=>∃ b arr,ix = some (.blk b) ∧ base ≤ b ∧ w.heap[b]? = some (.map arr c) ∧ (∀ o,¬ S b o) ∧ MpR ι S w es arr.toList
 | .it m s sn l=>∃ b bm,ix = some (.blk b) ∧ base ≤ b ∧ w.heap[b]? = some (.mapIter (some bm) s sn.toArray l) ∧ (∀ o,¬ S b o) ∧ ι[m]? = some (.blk bm)
 | _=>True
end
theorem MpR.imp {ι ι' : List Ix} {S S' : aJ} {w w' : World} {f : AV → AV} (hf : ∀ a y,Rep ι S w a y → Rep ι' S' w' (f a) y) : ∀ {es : List (Nat × AV × AV)} {l : List MapEntry},MpR ι S w es l → MpR ι' S' w' (es.map fun p=>(p.1,f p.2.1,f p.2.2)) l
 | [],_,h=>h
 | (_,_,_) :: _,_,⟨e,l',h1,h2,h3,h4,h5⟩=>⟨e,l',h1,h2,hf _ _ h3,hf _ _ h4,MpR.imp hf h5⟩
theorem MpR.bd {ι ι' : List Ix} {S S' : aJ} {w w' : World} : ∀ {es : List (Nat × AV × AV)} {l : List MapEntry},MpR ι S w es l → (∀ p ∈ es,(∀ y,Rep ι S w p.2.1 y → Rep ι' S' w' p.2.1 y) ∧ ∀ y,Rep ι S w p.2.2 y → Rep ι' S' w' p.2.2 y) → MpR ι' S' w' es l
 | [],_,h,_=>h
 | (n,k,c) :: r,_,⟨e,l',h1,h2,h3,h4,h5⟩,hb=>⟨e,l',h1,h2,(hb (n,k,c) (List.mem_cons_self ..)).1 _ h3,(hb (n,k,c) (List.mem_cons_self ..)).2 _ h4,MpR.bd h5 fun p hp=>hb p (List.mem_cons_of_mem _ hp)⟩
theorem MpR.evo {n base : Nat} {ι ι' : List Ix} {S S' : aJ} {w w' : World} (hE : Evo n base ι S w ι' S' w') (hn : ι.length ≤ n) {es : List (Nat × AV × AV)} {l : List MapEntry} (h : MpR ι S w es l) : MpR ι' S' w' es l :=
 MpR.bd h fun p _=>⟨fun y=>Rep.evo hE hn _ y,fun y=>Rep.evo hE hn _ y⟩
theorem jI.step {n base b0 : Nat} {ι ι' : List Ix} {S S' : aJ} {w w' : World} {ix ix' : Option Ix} {en : Ent} (h : jI ι S w base ix en) (hE : Evo n b0 ι S w ι' S' w') (hn : ι.length ≤ n) (hix : ix' = ix)
 (same : ∀ b,ix = some (.blk b) → b < w.heap.size → w'.heap[b]? = w.heap[b]? ∧ ∀ o,S' b o → S b o) : jI ι' S' w' base ix' en:=by
 subst hix
 have lt : ∀ {b : Nat} {o : Obj},w.heap[b]? = some o → b < w.heap.size:=fun k=>(Array.getElem?_eq_some_iff.1 k).1
 cases en with
 | mp c es =>
   obtain ⟨b,arr,h1,h2,h3,h4,h5⟩:=h
   obtain ⟨q1,q2⟩:=same b h1 (lt h3)
   exact ⟨b,arr,h1,h2,by rw [q1];exact h3,fun o ho=>h4 o (q2 o ho),h5.evo hE hn⟩
 | it m s sn l =>
   obtain ⟨b,bm,h1,h2,h3,h4,h5⟩:=h
   obtain ⟨q1,q2⟩:=same b h1 (lt h3)
   refine ⟨b,bm,h1,h2,by rw [q1];exact h3,fun o ho=>h4 o (q2 o ho), ?_⟩
   have hm : m < ι.length:=(List.getElem?_eq_some_iff.1 h5).1
   exact (h5 ▸ hE.pre m (Nat.lt_of_lt_of_le hm hn)).blk
 | blk=>trivial
 | tok=>trivial
 | dead=>trivial
theorem jI.at {base : Nat} {ι : List Ix} {S : aJ} {w : World} {ix : Option Ix} {en : Ent} (h : jI ι S w base ix en) (hk : (∃ c es,en = .mp c es) ∨ ∃ m s sn l,en = .it m s sn l) : ∃ b,ix = some (.blk b) ∧ base ≤ b ∧ b < w.heap.size:=by
 rcases hk with ⟨c,es,rfl⟩|⟨m,s,sn,l,rfl⟩
 ·obtain ⟨b,arr,h1,h2,h3,_⟩:=h;exact ⟨b,h1,h2,(Array.getElem?_eq_some_iff.1 h3).1⟩
 ·obtain ⟨b,bm,h1,h2,h3,_⟩:=h;exact ⟨b,h1,h2,(Array.getElem?_eq_some_iff.1 h3).1⟩
end Go.Aw
end

section
namespace Go.Aw
open Go Go.RowKit

mutual
def Pure : AV → Prop
 | .v _|.str _|.any|.emp=>True
 | .agg cs|.tup cs|.ip cs=>bM cs
 | .sl _ rows=>cd rows
 | .own .. | .op .. | .sb .. | .mp _=>False
 | .fn _ xs ys=>bM xs ∧ bM ys
 | .ifc _ x=>Pure x
def bM : List AV → Prop
 | []=>True
 | a :: as=>Pure a ∧ bM as
def cd : List (List AV) → Prop
 | []=>True
 | r :: rs=>bM r ∧ cd rs
end

mutual
theorem Rep.pure {ι ι' : List Ix} {S : aJ} {w : World} : ∀ (a : AV) (y : Value),Pure a → Rep ι S w a y → Rep ι' S w a y
 | .v x,y,_,k=>by simpa using k
 | .str x,y,_,k=>by simpa using k
 | .any,y,_,k=>by simp
 | .agg cs,y,p,k=>by rw [Rep] at *;rw [Pure] at p;obtain ⟨vs,e,k⟩:=k;exact ⟨vs,e,au.pure cs vs p k⟩
 | .tup cs,y,p,k=>by rw [Rep] at *;rw [Pure] at p;obtain ⟨vs,e,k⟩:=k;exact ⟨vs,e,au.pure cs vs p k⟩
 | .emp,y,_,k=>by rw [Rep] at *;exact k
 | .sl sz rows,y,p,k=>by
   rw [Rep] at *;rw [Pure] at p
   obtain ⟨a,cap,e,h1,h2,h3⟩:=k
   exact ⟨a,cap,e,h1,h2,h3.imp id fun ⟨b,off,ea,hr⟩=>⟨b,off,ea,bA.pure sz rows b off p hr⟩⟩
 | .ip cs,y,p,k=>by rw [Rep] at *;rw [Pure] at p;obtain ⟨b,off,e,k⟩:=k;exact ⟨b,off,e,bn.pure cs b off p k⟩
 | .own id off len sz,y,p,k=>by rw [Pure] at p;exact p.elim
 | .sb id sz rows,y,p,k=>by rw [Pure] at p;exact p.elim
 | .op id off,y,p,k=>by rw [Pure] at p;exact p.elim
 | .fn f xs ys,y,p,k=>by rw [Rep] at *;rw [Pure] at p;obtain ⟨vs,us,e,k1,k2⟩:=k;exact ⟨vs,us,e,au.pure xs vs p.1 k1,au.pure ys us p.2 k2⟩
 | .ifc t x,y,p,k=>by rw [Rep] at *;rw [Pure] at p;obtain ⟨v,e,k⟩:=k;exact ⟨v,e,Rep.pure x v p k⟩
 | .mp id,y,p,k=>by rw [Pure] at p;exact p.elim
theorem au.pure {ι ι' : List Ix} {S : aJ} {w : World} : ∀ (as : List AV) (vs : List Value),bM as → au ι S w as vs → au ι' S w as vs
 | [],vs,_,k=>by simpa using k
 | a :: as,[],_,k=>by simp at k
 | a :: as,v :: vs,p,k=>by rw [bM] at p;simp at k;simpa using ⟨Rep.pure a v p.1 k.1,au.pure as vs p.2 k.2⟩
theorem bn.pure {ι ι' : List Ix} {S : aJ} {w : World} : ∀ (cs : List AV) (b off : Nat),bM cs → bn ι S w cs b off → bn ι' S w cs b off
 | [],b,off,_,k=>by simp [bn]
 | c :: cs,b,off,p,k=>by
   rw [bn] at *;rw [bM] at p
   obtain ⟨⟨u,h1,h2,h3⟩,k2⟩:=k
   exact ⟨⟨u,h1,h2,Rep.pure c u p.1 h3⟩,bn.pure cs b (off + 1) p.2 k2⟩
theorem bA.pure {ι ι' : List Ix} {S : aJ} {w : World} (sz : Nat) : ∀ (rows : List (List AV)) (b off : Nat),cd rows → bA ι S w sz rows b off → bA ι' S w sz rows b off
 | [],b,off,_,k=>by simp [bA]
 | r :: rs,b,off,p,k=>by
   rw [bA] at *;rw [cd] at p
   exact ⟨k.1,bn.pure r b off p.1 k.2.1,bA.pure sz rs b (off + sz) p.2 k.2.2⟩
end

class Laid where
 tab : Nat → Option (List AV)
 pure : ∀ g cs,tab g = some cs → bM cs
variable [Laid]
def GOK (S : aJ) (w : World) : Prop:=∀ g cs,Laid.tab g = some cs → bn [] S w cs g 0 ∧ ∃ ty,w.shape? g = some (ty,cs.length)
theorem GOK.evo {n base : Nat} {ι ι' : List Ix} {S S' : aJ} {w w' : World} (h : GOK S w) (hE : Evo n base ι S w ι' S' w') : GOK S' w':=fun g cs e =>
 ⟨bn.evo (n:=0) (base:=base) (ι:=[]) (ι':=[]) ⟨fun _ q=>absurd q (Nat.not_lt_zero _),hE.sub,hE.new,hE.cell,hE.shp,hE.bel⟩ (Nat.le_refl _) cs g 0 (h g cs e).1,let ⟨ty,k⟩:=(h g cs e).2;⟨ty,hE.shp _ _ k⟩⟩

def mQ (base : Nat) (S : aJ) (w : World) (e sz n : Nat) (v : Value) : Prop :=
 ∃ a cap,v = .slice a n cap ∧ n ≤ cap ∧ cap ≤ maxLen ∧ (cap = 0 ∨ ∃ b arr fz,a = some ⟨b,0,none⟩ ∧ base ≤ b ∧ w.heap[b]? = some (.cells arr e fz) ∧
  (∀ o,o < arr.size → ¬ (fz.1 ≤ o ∧ o < fz.2)) ∧ cap * sz ≤ arr.size ∧ ∀ o,S b o → o < n * sz)
def ui (v : Value) (b : Nat) : Prop:=∃ a l cap,v = .slice (some a) l cap ∧ a.block = b ∧ cap ≠ 0
def ixB : Option Ix → Nat → Prop
 | some (.blk c),b=>c = b
 | some (.tok _ v),b=>ui v b
 | none,_=>False
def alive : Option Ent → Prop
 | some .dead|none=>False
 | _=>True
omit [Laid] in
theorem mQ.fm {base : Nat} {S S' : aJ} {w w' : World} {e sz n : Nat} {v : Value} (h : mQ base S w e sz n v) (k : ∀ b,ui v b → base ≤ b → b < w.heap.size → w'.heap[b]? = w.heap[b]? ∧ ∀ o,S' b o → S b o) : mQ base S' w' e sz n v:=by
 obtain ⟨a,cap,e1,h1,h2,h3⟩:=h
 refine ⟨a,cap,e1,h1,h2, ?_⟩
 rcases h3 with h3|⟨b,arr,fz,ea,k1,k2,k3,k4,k5⟩
 ·exact .inl h3
 ·by_cases hc : cap = 0
  ·exact .inl hc
  ·have hb : b < w.heap.size:=by
    rcases Nat.lt_or_ge b w.heap.size with q|q
    ·exact q
    ·rw [Array.getElem?_eq_none q] at k2;cases k2
   obtain ⟨q1,q2⟩:=k b ⟨_,_,_,by rw [e1,ea],rfl,hc⟩ k1 hb
   exact .inr ⟨b,arr,fz,ea,k1,by rw [q1];exact k2,k3,k4,fun o ho=>k5 o (q2 o ho)⟩

structure HOK (base : Nat) (ι : List Ix) (S : aJ) (w : World) (h : aa) : Prop where
 len : ι.length = h.length
 live : ∀ (id : Nat) (x : Blk),h[id]? = some (.blk x) → ∃ b arr fz,ι[id]? = some (.blk b) ∧ base ≤ b ∧ w.heap[b]? = some (.cells arr x.ty fz) ∧
  (∀ o,o < arr.size → ¬ (fz.1 ≤ o ∧ o < fz.2)) ∧ x.cells.length ≤ arr.size ∧
  (∀ (i : Nat) (c : AV),x.cells[i]? = some c → ∃ v,arr[i]? = some v ∧ Rep ι S w c v) ∧
  (x.wr = true → ∀ o,¬ S b o) ∧ (∀ o,S b o → o < x.cells.length) ∧ (x.wr = false → ∀ o,o < x.cells.length → S b o)
 tok : ∀ (id e sz n : Nat),h[id]? = some (.tok e sz n) → ∃ v,ι[id]? = some (.tok n v) ∧ mQ base S w e sz n v
 oth : ∀ (id : Nat) (en : Ent),h[id]? = some en → jI ι S w base ι[id]? en
 inj : ∀ (i j b : Nat),alive h[i]? → alive h[j]? → ixB ι[i]? b → ixB ι[j]? b → i = j
 stb : ∀ b o,S b o → b < w.heap.size
 bas : base ≤ w.heap.size
 gl : GOK S w

abbrev Fr:=List (Nat × AV)
def aL : Fr → Nat → AV
 | [],_=>.any
 | (s,y) :: r,t=>if s = t then y else aL r t
def bK : Fr → Nat → AV → Fr
 | [],t,x=>[(t,x)]
 | (s,y) :: r,t,x=>if s = t then (t,x) :: r else if t < s then (t,x) :: (s,y) :: r else (s,y) :: bK r t x
def fH (fm : List Nat) (fr : Fr) : Fr:=fm.map fun t=>(t,aL fr t)
def bj (n : Nat) (fr : Fr) (d : Option Tmp) (x : AV) : Fr:=match d with|some t=>if t < n then bK fr t x else fr|none=>fr
def cp (ι : List Ix) (S : aJ) (w : World) (fr : Fr) (tmps : Array Value) : Prop:=∀ t,Rep ι S w (aL fr t) (tmps.getD t undef)
omit [Laid] in
theorem cp.evo {ι ι' : List Ix} {S S' : aJ} {w w' : World} {fr : Fr} {tmps : Array Value} {n base : Nat} (hE : Evo n base ι S w ι' S' w') (hn : ι.length ≤ n) (h : cp ι S w fr tmps) : cp ι' S' w' fr tmps :=
 fun t=>Rep.evo hE hn _ _ (h t)
omit [Laid] in
theorem bZ : ∀ (fr : Fr) (t : Nat) (x : AV) (u : Nat),aL (bK fr t x) u = if t = u then x else aL fr u
 | [],t,x,u=>by simp [bK,aL]
 | (s,y) :: r,t,x,u=>by
  unfold bK
  split
  ·rename_i h;subst h
   simp only [aL]
   split <;> rfl
  ·split
   ·simp only [aL]
   ·simp only [aL]
    rw [bZ r t x u]
    split
    ·rename_i h1 h2 h3
     split
     ·omega
     ·rfl
    ·rfl
omit [Laid] in
theorem Fi : ∀ (fr : Fr) {t u : Nat} (x y : AV),t ≠ u → bK (bK fr t x) u y = bK (bK fr u y) t x:=by
 have key : ∀ (fr : Fr) {t u : Nat} (x y : AV),t < u → bK (bK fr t x) u y = bK (bK fr u y) t x:=by
  intro fr
  induction fr with
  | nil =>
    intro t u x y h
    have h1 : t ≠ u:=by omega
    have h2 : ¬ u < t:=by omega
    simp [bK,h1,h2,h,Ne.symm h1]
  | cons p r ih =>
    intro t u x y h
    obtain ⟨s,z⟩:=p
    have h1 : t ≠ u:=by omega
    have h2 : ¬ u < t:=by omega
    by_cases a : s = t
    ·subst a
     have e1 : ¬ u < s:=by omega
     simp [bK,h1,e1]
    ·by_cases b : s = u
     ·subst b
      have e1 : s ≠ t:=by omega
      simp [bK,h1,e1,h,h2]
     ·by_cases c : t < s
      ·by_cases d : u < s
       ·simp [bK,a,b,c,d,h1,h2,h,Ne.symm h1]
       ·simp [bK,a,b,c,d,h1,h2]
      ·by_cases d : u < s
       ·omega
       ·simp [bK,a,b,c,d,ih x y h]
 intro fr t u x y h
 rcases Nat.lt_or_gt_of_ne h with q|q
 ·exact key fr x y q
 ·exact (key fr y x q).symm

structure St where
 n : Nat
 fr : Fr
 h : aa

structure ROK (base : Nat) (ι : List Ix) (S : aJ) (a : Act) (w : World) (st : St) : Prop where
 df : a.defers = []
 sz : a.tmps.size = st.n
 fr : cp ι S w st.fr a.tmps
 hp : HOK base ι S w st.h

def bQ (m base : Nat) (ι : List Ix) (S : aJ) (w : World) (Q : Exit → St → Prop) : Exit → Act → World → Prop:=fun e a' w' =>
 ∃ ι' S' st',Evo m base ι S w ι' S' w' ∧ m ≤ st'.h.length ∧ ROK base ι' S' a' w' st' ∧ Q e st'

def AW (P : Program) (m : Nat) (c : Code) (Q : Exit → St → Prop) (st : St) : Prop :=
 ∀ base ι S a w,m ≤ st.h.length → ROK base ι S a w st → c.wp P (bQ m base ι S w Q) a w

theorem bQ.mono {m base : Nat} {ι : List Ix} {S : aJ} {w : World} {Q Q' : Exit → St → Prop} {e : Exit} {a' : Act} {w' : World}
 (h : bQ m base ι S w Q e a' w') (hq : ∀ st,Q e st → Q' e st) : bQ m base ι S w Q' e a' w' :=
 let ⟨ι',S',st',h1,h2,h3,h4⟩:=h;⟨ι',S',st',h1,h2,h3,hq _ h4⟩

theorem AW.mono {P : Program} {m : Nat} {c : Code} {Q Q' : Exit → St → Prop} {st : St} (h : AW P m c Q st) (hq : ∀ e st,Q e st → Q' e st) : AW P m c Q' st :=
 fun base ι S a w hm hr=>wp_mono (h base ι S a w hm hr) fun _ _ _ k=>k.mono (hq _)

abbrev dv (next : St → Prop) (Q : Exit → St → Prop) : Exit → St → Prop
 | .normal,st=>next st
 | e,st=>Q e st

theorem bQ.trans {m base : Nat} {ι ι' : List Ix} {S S' : aJ} {w w' : World} {Q : Exit → St → Prop} {e : Exit} {a'' : Act} {w'' : World}
 (hE : Evo m base ι S w ι' S' w') (h : bQ m base ι' S' w' Q e a'' w'') : bQ m base ι S w Q e a'' w'' :=
 let ⟨ι'',S'',st'',h1,h2,h3,h4⟩:=h;⟨ι'',S'',st'',hE.trans h1,h2,h3,h4⟩

section
variable {P : Program} {m : Nat} {Q : Exit → St → Prop} {st : St}

theorem ta (h : Q .normal st) : AW P m .skip Q st :=
 fun _ ι S _ _ hm hr=>wp_skip ⟨ι,S,st,Evo.refl _ _ _ _ _,hm,hr,h⟩
theorem vt (h : Q .ret st) : AW P m .ret Q st :=
 fun _ ι S _ _ hm hr=>wp_ret ⟨ι,S,st,Evo.refl _ _ _ _ _,hm,hr,h⟩
theorem sZ {id : Nat} (h : Q (.exit id) st) : AW P m (.exit id) Q st :=
 fun _ ι S _ _ hm hr=>wp_exit ⟨ι,S,st,Evo.refl _ _ _ _ _,hm,hr,h⟩
theorem p7 {l : Nat} (h : Q .normal st) : AW P m (.label l) Q st :=
 fun _ ι S _ _ hm hr=>wp_label ⟨ι,S,st,Evo.refl _ _ _ _ _,hm,hr,h⟩
theorem yz {l : Nat} (h : Q (.goto l) st) : AW P m (.goto l) Q st :=
 fun _ ι S _ _ hm hr=>wp_goto ⟨ι,S,st,Evo.refl _ _ _ _ _,hm,hr,h⟩

theorem mz {x y : Code} (h : AW P m x (dv (AW P m y Q) Q) st) : AW P m (.seq x y) Q st:=by
 intro base ι S a w hm hr
 refine wp_seq (wp_mono (h base ι S a w hm hr) ?_)
 intro e a' w' k
 obtain ⟨ι',S',st',h1,h2,h3,h4⟩:=k
 cases e with
 | normal=>exact wp_mono (h4 base ι' S' a' w' h2 h3) fun _ _ _ k=>k.trans h1
 | exit id=>exact ⟨ι',S',st',h1,h2,h3,h4⟩
 | goto l=>exact ⟨ι',S',st',h1,h2,h3,h4⟩
 | ret=>exact ⟨ι',S',st',h1,h2,h3,h4⟩
 | panic ch=>exact ⟨ι',S',st',h1,h2,h3,h4⟩
 | outgrown=>exact ⟨ι',S',st',h1,h2,h3,h4⟩

def od (id : Nat) (Q : Exit → St → Prop) : Exit → St → Prop
 | .exit id',st=>if id' = id then Q .normal st else Q (.exit id') st
 | e,st=>Q e st

theorem p6 {id : Nat} {c : Code} (h : AW P m c (od id Q) st) : AW P m (.block id c) Q st:=by
 intro base ι S a w hm hr
 refine wp_block (wp_mono (h base ι S a w hm hr) ?_)
 intro e a' w' k
 obtain ⟨ι',S',st',h1,h2,h3,h4⟩:=k
 cases e with
 | exit id' =>
   simp only [Exit.inBlock,od] at h4 ⊢
   split
   ·rename_i he;rw [if_pos he] at h4;exact ⟨ι',S',st',h1,h2,h3,h4⟩
   ·rename_i he;rw [if_neg he] at h4;exact ⟨ι',S',st',h1,h2,h3,h4⟩
 | normal=>exact ⟨ι',S',st',h1,h2,h3,h4⟩
 | goto l=>exact ⟨ι',S',st',h1,h2,h3,h4⟩
 | ret=>exact ⟨ι',S',st',h1,h2,h3,h4⟩
 | panic ch=>exact ⟨ι',S',st',h1,h2,h3,h4⟩
 | outgrown=>exact ⟨ι',S',st',h1,h2,h3,h4⟩

theorem ROK.get {base : Nat} {ι : List Ix} {S : aJ} {a : Act} {w : World} {st : St} (hr : ROK base ι S a w st) (t : Nat) :
 Rep ι S w (aL st.fr t) (a.tmps.getD t undef):=hr.fr t

omit [Laid] in
theorem cp.put {ι : List Ix} {S : aJ} {w : World} {fr : Fr} {tmps : Array Value} (h : cp ι S w fr tmps) {t : Nat} {x : AV} {v : Value} (ht : t < tmps.size) (r : Rep ι S w x v) : cp ι S w (bK fr t x) (tmps.setIfInBounds t v):=by
 intro u
 rw [bZ]
 by_cases hu : t = u
 ·subst hu
  rw [if_pos rfl]
  simpa [Array.getD_eq_getD_getElem?,ht] using r
 ·rw [if_neg hu]
  have:=h u
  simpa [Array.getD_eq_getD_getElem?,Array.getElem?_setIfInBounds,hu] using this
omit [Laid] in
theorem cp.say {ι : List Ix} {S : aJ} {w : World} {fr : Fr} {tmps : Array Value} (h : cp ι S w fr tmps) {t : Nat} {x : AV} (r : Rep ι S w x (tmps.getD t undef)) : cp ι S w (bK fr t x) tmps:=by
 intro u
 rw [bZ]
 by_cases hu : t = u
 ·subst hu;rw [if_pos rfl];exact r
 ·rw [if_neg hu];exact h u
omit [Laid] in
theorem Ey (fm : List Nat) (fr : Fr) (t : Nat) : aL (fH fm fr) t = aL fr t ∨ aL (fH fm fr) t = .any:=by
 unfold fH
 induction fm with
 | nil=>exact .inr rfl
 | cons k r ih =>
   simp only [List.map_cons,aL]
   split
   ·rename_i h;subst h;exact .inl rfl
   ·exact ih
omit [Laid] in
theorem cp.norm {ι : List Ix} {S : aJ} {w : World} {fr : Fr} {tmps : Array Value} (h : cp ι S w fr tmps) (fm : List Nat) : cp ι S w (fH fm fr) tmps:=by
 intro t
 rcases Ey fm fr t with e|e
 ·rw [e];exact h t
 ·rw [e];simp
theorem ROK.put {base : Nat} {ι : List Ix} {S : aJ} {a : Act} {w : World} {st : St} (hr : ROK base ι S a w st) {x : AV} {v : Value} (d : Option Tmp) (h : Rep ι S w x v) :
 ROK base ι S (a.put d v) w ⟨st.n,bj st.n st.fr d x,st.h⟩:=by
 cases d with
 | none=>exact hr
 | some t =>
   by_cases ht : t < st.n
   ·have hsz:=hr.sz
    refine ⟨hr.df,by simpa [Act.put] using hr.sz, ?_,hr.hp⟩
    simp only [Act.put,bj,if_pos ht]
    exact cp.put hr.fr (by rw [hsz];exact ht) h
   ·refine ⟨hr.df,by simpa [Act.put] using hr.sz, ?_,hr.hp⟩
    have : a.tmps.setIfInBounds t v = a.tmps:=by
     have hs:=hr.sz
     have hge : ¬ t < a.tmps.size:=by rw [hs];exact ht
     simp [Array.setIfInBounds,hge]
    simp only [Act.put,bj,if_neg ht,this]
    exact hr.fr
end

omit [Laid] in
theorem wp_loop_ghost {α : Type} {P : Program} {Q : Exit → Act → World → Prop} {a : Act} {w : World} {c : Code} (I : α → Act → World → Prop) (μ : α → Nat) (x₀ : α) (h₀ : I x₀ a w)
 (round : ∀ x a w,I x a w → c.wp P (Exit.then (fun a' w' => ∃ y,I y a' w' ∧ μ y < μ x) Q) a w) : (Code.loop c).wp P Q a w:=by
 intro b k cs
 have key : ∀ n x a w,μ x = n → I x a w → ∃ e a' w',Q e a' w' ∧ Arrives P (lone (b.at a (.code c :: .inLoop c :: k)) cs w) b k cs e a' w':=by
  intro n
  induction n using Nat.strongRecOn with
  | _ n ih =>
    intro x a w hn hI
    obtain ⟨e,a₁,w₁,hq,harr⟩:=round x a w hI b (.inLoop c :: k) cs
    cases e with
    | normal =>
      obtain ⟨y,hI₁,hlt⟩:=hq
      obtain ⟨e₂,a₂,w₂,hq₂,harr₂⟩:=ih (μ y) (hn ▸ hlt) y a₁ w₁ rfl hI₁
      exact ⟨e₂,a₂,w₂,hq₂,.of_steps (Steps.trans harr (.one step_inLoop)) harr₂⟩
    | exit id=>exact ⟨_,a₁,w₁,hq,.pass (x:=.inLoop c) rfl (fun _ _=>.inl (by simp)) harr⟩
    | goto l=>exact ⟨_,a₁,w₁,hq,.pass (x:=.inLoop c) rfl (fun _ _=>.inl (by simp)) harr⟩
    | ret=>exact ⟨_,a₁,w₁,hq,.pass (x:=.inLoop c) rfl (fun _ _=>.inl (by simp)) harr⟩
    | panic ch=>exact ⟨_,a₁,w₁,hq,.pass (x:=.inLoop c) rfl (fun _ _=>.inl (by simp)) harr⟩
    | outgrown=>exact ⟨_,a₁,w₁,hq,.pass (x:=.inLoop c) rfl (fun _ _=>.inl (by simp)) harr⟩
 obtain ⟨e,a',w',hq,harr⟩:=key _ x₀ a w rfl h₀
 exact ⟨e,a',w',hq,.of_steps (.one step_loop) harr⟩

def nW (m : Nat) (st st' : St) : Prop :=
 ∀ base ι S a w,m ≤ st.h.length → ROK base ι S a w st → ∃ ι' S',Evo m base ι S w ι' S' w ∧ m ≤ st'.h.length ∧ ROK base ι' S' a w st'

theorem nW.refl (m : Nat) (st : St) : nW m st st:=fun _ ι S _ _ hm hr=>⟨ι,S,Evo.refl _ _ _ _ _,hm,hr⟩
theorem Im {α : Type} {P : Program} {m : Nat} {Q : Exit → St → Prop} {st : St} {c : Code} (I : α → Prop) (inv : α → St) (μ : α → Nat) (x₀ : α) (h₀ : I x₀) (hs : nW m st (inv x₀))
 (round : ∀ x,I x → AW P m c (dv (fun st' => ∃ y,I y ∧ nW m st' (inv y) ∧ μ y < μ x) Q) (inv x)) : AW P m (.loop c) Q st:=by
 intro base ι S a w hm hr
 obtain ⟨ι₀,S₀,e₀,m₀,r₀⟩:=hs base ι S a w hm hr
 refine wp_loop_ghost (fun x a' w' => I x ∧ ∃ ι' S',Evo m base ι S w ι' S' w' ∧ m ≤ (inv x).h.length ∧ ROK base ι' S' a' w' (inv x)) μ x₀ ⟨h₀,ι₀,S₀,e₀,m₀,r₀⟩ ?_
 rintro x a' w' ⟨hx,ι',S',hE,hm',hr'⟩
 refine wp_mono (round x hx base ι' S' a' w' hm' hr') ?_
 intro e a'' w'' k
 obtain ⟨ι'',S'',st'',h1,h2,h3,h4⟩:=k
 cases e with
 | normal =>
   obtain ⟨y,hy,hw,hlt⟩:=h4
   obtain ⟨ι3,S3,e3,m3,r3⟩:=hw base ι'' S'' a'' w'' h2 h3
   exact ⟨y,⟨hy,ι3,S3,(hE.trans h1).trans e3,m3,r3⟩,hlt⟩
 | exit id=>exact ⟨ι'',S'',st'',hE.trans h1,h2,h3,h4⟩
 | goto l=>exact ⟨ι'',S'',st'',hE.trans h1,h2,h3,h4⟩
 | ret=>exact ⟨ι'',S'',st'',hE.trans h1,h2,h3,h4⟩
 | panic ch=>exact ⟨ι'',S'',st'',hE.trans h1,h2,h3,h4⟩
 | outgrown=>exact ⟨ι'',S'',st'',hE.trans h1,h2,h3,h4⟩

def ct (P : Program) (f : FuncId) (args : List AV) (h : aa) (K : AV → aa → Prop) : Prop :=
 ∀ base ι S w vs,au ι S w args vs → HOK base ι S w h → Calls P f vs.toArray w fun e w' =>
  ∃ v ι' S' r h',e = .returned v ∧ Evo h.length base ι S w ι' S' w' ∧ Rep ι' S' w' r v ∧ HOK base ι' S' w' h' ∧ h.length ≤ h'.length ∧ K r h'

theorem ct.mono {P : Program} {f : FuncId} {args : List AV} {h : aa} {K K' : AV → aa → Prop} (c : ct P f args h K) (hk : ∀ r h',K r h' → K' r h') : ct P f args h K' :=
 fun base ι S w vs h1 h2=>(c base ι S w vs h1 h2).mono fun _ _ ⟨v,ι',S',r,h',a1,a2,a3,a4,a5,a6⟩=>⟨v,ι',S',r,h',a1,a2,a3,a4,a5,hk _ _ a6⟩

def Con (P : Program) (f : FuncId) (args : List AV) (r : AV) : Prop:=bM args ∧ Pure r ∧ ct P f args [] fun r' _=>r' = r

theorem HOK.nil (S : aJ) (w : World) (h : ∀ b o,S b o → b < w.heap.size) (hg : GOK S w) : HOK w.heap.size [] S w [] :=
 ⟨rfl,by simp,by simp,by simp,fun i j b hi _=>by simp [alive] at hi,h,Nat.le_refl _,hg⟩

theorem HOK.over {base : Nat} {ι : List Ix} {S S' : aJ} {w w' : World} {h : aa} (hh : HOK base ι S w h) (hE : Evo ι.length w.heap.size ι S w ι S' w') (hst : ∀ b o,S' b o → b < w'.heap.size) : HOK base ι S' w' h:=by
 refine ⟨hh.len,fun id x e=>?_,fun id t sz n e=>?_,fun id en e=>(hh.oth id en e).step hE (Nat.le_refl _) rfl fun b _ hb=>⟨hE.bel.block b hb,fun o ho=>(hE.new b o ho).elim (fun q=>q) fun k=>absurd hb (Nat.not_lt.2 k)⟩,hh.inj,hst,Nat.le_trans hh.bas hE.bel.size,hh.gl.evo hE⟩
 rotate_left
 ·obtain ⟨v,h1,h2⟩:=hh.tok id t sz n e
  refine ⟨v,h1,h2.fm fun b hb _ hlt=>⟨hE.bel.block b hlt,fun o ho=>?_⟩⟩
  rcases hE.new b o ho with k|k
  ·exact k
  ·omega
 obtain ⟨b,arr,fz,h1,h2,h3,h4,h5,h6,h7,h8,h9⟩:=hh.live id x e
 have hb : b < w.heap.size:=by
  rcases Nat.lt_or_ge b w.heap.size with k|k
  ·exact k
  ·rw [Array.getElem?_eq_none k] at h3;cases h3
 refine ⟨b,arr,fz,h1,h2,by rw [hE.bel.block b hb];exact h3,h4,h5,fun i c e=>?_,fun hw o ho=>?_,fun o ho=>?_,fun q o ho=>hE.sub _ _ (h9 q o ho)⟩
 ·obtain ⟨v,e1,e2⟩:=h6 i c e
  exact ⟨v,e1,Rep.evo hE (Nat.le_refl _) c v e2⟩
 ·rcases hE.new b o ho with k|k
  ·exact h7 hw o k
  ·omega
 ·rcases hE.new b o ho with k|k
  ·exact h8 o k
  ·omega

theorem Con.call {P : Program} {f : FuncId} {args : List AV} {r : AV} (c : Con P f args r) {h : aa} {K : AV → aa → Prop} (hk : K r h) : ct P f args h K:=by
 obtain ⟨pa,pr,c⟩:=c
 intro base ι S w vs h1 h2
 refine (c w.heap.size [] S w vs (au.pure args vs pa h1) (HOK.nil S w h2.stb h2.gl)).mono ?_
 rintro e w' ⟨v,ι',S',r',h',e1,e2,e3,e4,_,rfl⟩
 have hE : Evo ι.length w.heap.size ι S w ι S' w':=⟨fun _ _=>dM.refl _,e2.sub,e2.new,e2.cell,e2.shp,e2.bel⟩
 exact ⟨v,ι,S',r',h,e1,hE.mono (by rw [h2.len];exact Nat.le_refl _) h2.bas,Rep.pure r' v pr e3,h2.over hE e4.stb,Nat.le_refl _,hk⟩
end Go.Aw
end

section
namespace Go.Aw
open Go Go.RowKit
variable [Laid]

/-! ### Values -/
def jc : Value → AV
 | .string s=>if s.size ≤ maxLen then .str s.data.toList else .any
 | x=>.v x
def fi : Value → AV
 | .agg cs=>.agg (cs.toList.map jc)
 | x=>jc x

omit [Laid] in
theorem mN (ι : List Ix) (S : aJ) (w : World) (x : Value) : Rep ι S w (jc x) x:=by
 unfold jc
 split
 ·split
  ·rename_i s h
   cases s with
   | mk d=>simpa [ByteArray.size] using h
  ·simp
 ·simp
omit [Laid] in
theorem jJ (ι : List Ix) (S : aJ) (w : World) (x : Value) : Rep ι S w (fi x) x:=by
 unfold fi
 split
 ·rename_i cs
  rw [Rep]
  refine ⟨cs.toList,by simp,au.mk (by simp) fun i a v e f=>?_⟩
  simp only [List.getElem?_map,f,Option.map_some,Option.some.injEq] at e
  subst e;exact mN ι S w v
 ·exact mN ι S w x

def ae (fr : Fr) : Operand → AV
 | .tmp t=>aL fr t
 | .const v=>fi v
 | .global g=>match Laid.tab g with|some cs=>.ip cs|none=>.any
 | .func f=>.fn (.func f) [] []

theorem ROK.eval {base : Nat} {ι : List Ix} {S : aJ} {a : Act} {w : World} {st : St} (hr : ROK base ι S a w st) (x : Operand) : Rep ι S w (ae st.fr x) (a.eval x):=by
 cases x with
 | tmp t=>exact hr.get t
 | const v=>exact jJ ι S w v
 | global g =>
   simp only [ae,Act.eval]
   split
   ·rename_i cs e
    rw [Rep]
    exact ⟨g,0,rfl,bn.pure cs g 0 (Laid.pure g cs e) (hr.hp.gl g cs e).1⟩
   ·simp
 | func f=>simp only [ae,Act.eval];rw [Rep];exact ⟨[],[],rfl,by simp,by simp⟩

def bc : AV → List AV
 | .agg cs=>cs
 | x=>[x]
def cv : AV → Bool
 | .v x=>x.oneCell'
 | .any|.agg _|.tup _=>false
 | _=>true
omit [Laid] in
theorem nH {ι : List Ix} {S : aJ} {w : World} {a : AV} {v : Value} (h : cv a = true) (r : Rep ι S w a v) : v.oneCell' = true:=by
 cases a <;> simp only [cv,Bool.false_eq_true] at h
 case v x=>simp at r;subst r;exact h
 case str l=>simp at r;rw [r.1];rfl
 case emp=>rw [Rep] at r;obtain ⟨a,rfl⟩:=r;rfl
 case sl=>rw [Rep] at r;obtain ⟨a,cap,rfl,_⟩:=r;rfl
 case sb=>rw [Rep] at r;obtain ⟨⟨a,cap,rfl,_⟩,_⟩:=r;rfl
 case ip=>rw [Rep] at r;obtain ⟨a,cap,rfl,_⟩:=r;rfl
 case own=>rw [Rep] at r;obtain ⟨b,a,cap,n,ty,_,rfl,_⟩:=r;rfl
 case op=>rw [Rep] at r;obtain ⟨b,_,rfl⟩:=r;rfl
 case fn=>rw [Rep] at r;obtain ⟨b,c,rfl,_⟩:=r;rfl
 case ifc=>rw [Rep] at r;obtain ⟨b,rfl,_⟩:=r;rfl
 case mp=>rw [Rep] at r;obtain ⟨b,_,rfl⟩:=r;rfl
omit [Laid] in
theorem E8 {v : Value} (h : v.oneCell' = true) : v.cells = #[v]:=by cases v <;> first|rfl|cases h

omit [Laid] in
theorem mO {ι : List Ix} {S : aJ} {w : World} {a : AV} {v : Value} (r : Rep ι S w a v) (h : (bc a).all cv = true) : ∃ vs : List Value,v.cells = vs.toArray ∧ au ι S w (bc a) vs ∧ ∀ u ∈ vs,u.oneCell' = true:=by
 have key : ∀ {cs : List AV} {vs : List Value},au ι S w cs vs → cs.all cv = true → ∀ u ∈ vs,u.oneCell' = true:=by
  intro cs
  induction cs with
  | nil=>intro vs h _ u hu;simp at h;subst h;cases hu
  | cons c cs ih =>
    intro vs h hs u hu
    cases vs with
    | nil=>simp at h
    | cons v vs =>
      simp at h hs
      simp only [List.mem_cons] at hu
      rcases hu with rfl|hu
      ·exact nH hs.1 h.1
      ·exact ih h.2 (by simpa using hs.2) u hu
 cases a
 case agg cs =>
  rw [Rep] at r
  obtain ⟨vs,rfl,k⟩:=r
  exact ⟨vs,rfl,k,key k h⟩
 all_goals
  simp only [bc,List.all_cons,List.all_nil,Bool.and_true] at h
  have:=nH h r
  exact ⟨[v],by rw [E8 this],(bD _ _ _ _).2 ⟨r,by simp⟩,by simpa using this⟩

/-! ### Memory -/
omit [Laid] in
theorem p5 {w : World} (o : Obj) {b : Nat} {x : TypeId × Nat} (h : w.shape? b = some x) : (w.alloc o).shape? b = some x:=by
 unfold World.shape? at *
 have hb : b < w.heap.size:=by
  rcases Nat.lt_or_ge b w.heap.size with k|k
  ·exact k
  ·rw [Array.getElem?_eq_none k] at h;cases h
 rw [show (w.alloc o).heap[b]? = w.heap[b]? from Below.heap_alloc w o b hb];exact h

omit [Laid] in
theorem Evo.alloc {base : Nat} {ι : List Ix} {S : aJ} {w : World} (hb : base ≤ w.heap.size) (hs : ∀ b o,S b o → b < w.heap.size) (o : Obj) (k : List Ix) : Evo ι.length base ι S w (ι ++ k) S (w.alloc o) :=
 ⟨fun i hi=>dM.of_eq (List.getElem?_append_left hi),fun _ _ h=>h,fun _ _ h=>.inl h,
  fun b f h=>World.cell?_of_block (w:=w) (Below.heap_alloc w o b (hs b f h)),fun _ _ h=>p5 o h,(Below.refl _ _).alloc hb o⟩

omit [Laid] in
theorem pE {w : World} {b : Nat} {o : Obj} (k : w.heap[b]? = some o) : b < w.heap.size:=by
 rcases Nat.lt_or_ge b w.heap.size with q|q
 ·exact q
 ·rw [Array.getElem?_eq_none q] at k;cases k

theorem HOK.nK {base : Nat} {ι ι' : List Ix} {S S' : aJ} {w w' : World} {h h' : aa} (hh : HOK base ι S w h) (hE : Evo ι.length base ι S w ι' S' w') (hlen : ι'.length = h'.length) (T : Nat)
 (old : ∀ i,i ≠ T → alive h'[i]? → h'[i]? = h[i]? ∧ ι'[i]? = ι[i]? ∧ ∀ b,ixB ι[i]? b → b < w.heap.size → w'.heap[b]? = w.heap[b]? ∧ ∀ o,S' b o → S b o)
 (newb : ∀ x,h'[T]? = some (.blk x) → ∃ b arr fz,ι'[T]? = some (.blk b) ∧ base ≤ b ∧ w'.heap[b]? = some (.cells arr x.ty fz) ∧ (∀ o,o < arr.size → ¬ (fz.1 ≤ o ∧ o < fz.2)) ∧ x.cells.length ≤ arr.size ∧
  (∀ (i : Nat) (c : AV),x.cells[i]? = some c → ∃ v,arr[i]? = some v ∧ Rep ι' S' w' c v) ∧ (x.wr = true → ∀ o,¬ S' b o) ∧ (∀ o,S' b o → o < x.cells.length) ∧ (x.wr = false → ∀ o,o < x.cells.length → S' b o))
 (newt : ∀ e sz n,h'[T]? = some (.tok e sz n) → ∃ v,ι'[T]? = some (.tok n v) ∧ mQ base S' w' e sz n v)
 (newo : ∀ en,h'[T]? = some en → jI ι' S' w' base ι'[T]? en)
 (hinj : ∀ j b,j ≠ T → alive h'[T]? → alive h'[j]? → ixB ι'[T]? b → ixB ι'[j]? b → False)
 (hstb : ∀ b o,S' b o → b < w'.heap.size) (hbas : base ≤ w'.heap.size) : HOK base ι' S' w' h':=by
 refine ⟨hlen,fun id x e=>?_,fun id t sz n e=>?_,fun id en e=>?_,fun i j b ai aj hi hj=>?_,hstb,hbas,hh.gl.evo hE⟩
 rotate_left 2
 ·by_cases q : id = T
  ·subst q;exact newo en e
  ·by_cases hd : en = .dead
   ·subst hd;trivial
   ·obtain ⟨o1,o2,o3⟩:=old id q (by rw [e];cases en <;> first|trivial|exact absurd rfl hd)
    exact (hh.oth id en (o1 ▸ e)).step hE (Nat.le_refl _) o2 fun b hb=>o3 b (by rw [hb];rfl)
 rotate_left 1
 ·by_cases q : id = T
  ·subst q;exact newb x e
  ·obtain ⟨o1,o2,o3⟩:=old id q (by rw [e];exact trivial)
   obtain ⟨b,arr,fz,h1,h2,h3,h4,h5,h6,h7,h8,h9⟩:=hh.live id x (o1 ▸ e)
   obtain ⟨p1,p2⟩:=o3 b (by rw [h1];rfl) (pE h3)
   exact ⟨b,arr,fz,o2.trans h1,h2,p1.trans h3,h4,h5,fun i c ec=>let ⟨v,e1,e2⟩:=h6 i c ec;⟨v,e1,Rep.evo hE (Nat.le_refl _) c v e2⟩,
    fun hw o ho=>h7 hw o (p2 o ho),fun o ho=>h8 o (p2 o ho),fun hw o ho=>hE.sub _ _ (h9 hw o ho)⟩
 ·by_cases q : id = T
  ·subst q;exact newt t sz n e
  ·obtain ⟨o1,o2,o3⟩:=old id q (by rw [e];exact trivial)
   obtain ⟨v,h1,h2⟩:=hh.tok id t sz n (o1 ▸ e)
   exact ⟨v,o2.trans h1,h2.fm fun b hb _ hlt=>o3 b (by rw [h1];exact hb) hlt⟩
 ·by_cases q : i = T
  ·by_cases r : j = T
   ·rw [q,r]
   ·subst q;exact (hinj j b r ai aj hi hj).elim
  ·by_cases r : j = T
   ·subst r;exact (hinj i b q aj ai hj hi).elim
   ·obtain ⟨o1,o2,_⟩:=old i q ai
    obtain ⟨p1,p2,_⟩:=old j r aj
    exact hh.inj i j b (o1 ▸ ai) (p1 ▸ aj) (o2 ▸ hi) (p2 ▸ hj)

theorem HOK.tB {base : Nat} {ι : List Ix} {S : aJ} {w : World} {h : aa} (hh : HOK base ι S w h) {i b : Nat} (ha : alive h[i]?) (hb : ixB ι[i]? b) : base ≤ b ∧ b < w.heap.size:=by
 cases e : h[i]? with
 | none=>rw [e] at ha;exact ha.elim
 | some x =>
   cases x with
   | dead=>rw [e] at ha;exact ha.elim
   | blk x =>
     obtain ⟨c,arr,fz,h1,h2,h3,_⟩:=hh.live i x e
     rw [h1] at hb
     have : c = b:=hb
     subst this;exact ⟨h2,pE h3⟩
   | mp c es =>
     obtain ⟨d,h1,h2,h3⟩:=(hh.oth i _ e).at (.inl ⟨_,_,rfl⟩)
     rw [h1] at hb
     have : d = b:=hb
     subst this;exact ⟨h2,h3⟩
   | it m s sn l =>
     obtain ⟨d,h1,h2,h3⟩:=(hh.oth i _ e).at (.inr ⟨_,_,_,_,rfl⟩)
     rw [h1] at hb
     have : d = b:=hb
     subst this;exact ⟨h2,h3⟩
   | tok t sz n =>
     obtain ⟨v,h1,a,cap,ev,_,_,h4⟩:=hh.tok i t sz n e
     rw [h1] at hb
     obtain ⟨a',l',cap',ev',hb,hc⟩:=hb
     rw [ev] at ev';cases ev'
     rcases h4 with h4|⟨c,arr,fz,ea,k1,k2,_⟩
     ·exact absurd h4 hc
     ·cases ea;simp only at hb;subst hb;exact ⟨k1,pE k2⟩

omit [Laid] in
theorem Jw {α : Type} {l k : List α} {i : Nat} (h : i < l.length) : (l ++ k)[i]? = l[i]?:=List.getElem?_append_left h
omit [Laid] in
theorem fj {α : Type} {l : List α} {x : α} : (l ++ [x])[l.length]? = some x:=by simp
omit [Laid] in
theorem iX {α : Type} {l : List α} {x : α} {i : Nat} (h : i ≠ l.length) : (l ++ [x])[i]? = l[i]?:=by
 rcases Nat.lt_or_ge i l.length with q|q
 ·exact Jw q
 ·rw [List.getElem?_eq_none (by simp;omega),List.getElem?_eq_none q]

theorem HOK.push {base : Nat} {ι : List Ix} {S S' : aJ} {w w' : World} {h : aa} (hh : HOK base ι S w h) (ix : Ix) (en : Ent) (hE : Evo ι.length base ι S w (ι ++ [ix]) S' w')
 (same : ∀ b,b < w.heap.size → base ≤ b → w'.heap[b]? = w.heap[b]? ∧ ∀ o,S' b o → S b o)
 (newb : ∀ x,en = .blk x → ∃ b arr fz,ix = .blk b ∧ base ≤ b ∧ w'.heap[b]? = some (.cells arr x.ty fz) ∧ (∀ o,o < arr.size → ¬ (fz.1 ≤ o ∧ o < fz.2)) ∧ x.cells.length ≤ arr.size ∧
  (∀ (i : Nat) (c : AV),x.cells[i]? = some c → ∃ v,arr[i]? = some v ∧ Rep (ι ++ [ix]) S' w' c v) ∧ (x.wr = true → ∀ o,¬ S' b o) ∧ (∀ o,S' b o → o < x.cells.length) ∧ (x.wr = false → ∀ o,o < x.cells.length → S' b o))
 (newt : ∀ e sz n,en = .tok e sz n → ∃ v,ix = .tok n v ∧ mQ base S' w' e sz n v)
 (newo : jI (ι ++ [ix]) S' w' base (some ix) en)
 (hnew : en ≠ .dead → ∀ b,ixB (some ix) b → w.heap.size ≤ b) (hstb : ∀ b o,S' b o → b < w'.heap.size) : HOK base (ι ++ [ix]) S' w' (h ++ [en]):=by
 have hl:=hh.len
 refine hh.nK hE (by simp [hl]) h.length (fun i hi ha=>?_) (fun x e=>?_) (fun e sz n q=>?_) (fun en' q=>by rw [fj] at q;cases q;rw [← hl,fj];exact newo) (fun j b hj aT aj hi hj' => ?_) hstb (Nat.le_trans hh.bas hE.bel.size)
 ·have hi' : i ≠ ι.length:=by rw [hl];exact hi
  refine ⟨iX hi,iX hi',fun b hb hlt=>?_⟩
  rw [iX hi] at ha
  exact same b hlt (hh.tB ha hb).1
 ·rw [fj] at e
  obtain ⟨b,arr,fz,h1,h2⟩:=newb x (by simpa using e)
  exact ⟨b,arr,fz,by rw [← hl,fj,h1],h2⟩
 ·rw [fj] at q
  obtain ⟨v,h1,h2⟩:=newt e sz n (by simpa using q)
  exact ⟨v,by rw [← hl,fj,h1],h2⟩
 ·rw [← hl,fj] at hi
  rw [iX hj] at aj
  rw [iX (by rw [hl];exact hj)] at hj'
  have hd : en ≠ .dead:=by rintro rfl;rw [fj] at aT;exact aT
  have h1:=hnew hd b hi
  have h2:=(hh.tB aj hj').2
  omega

theorem HOK.alloc {base : Nat} {ι : List Ix} {S : aJ} {w : World} {h : aa} (hh : HOK base ι S w h) (t : TypeId) (cs : List AV) (vs : List Value) (r : au ι S w cs vs) (fz : Nat × Nat:=(0,0)) (more : List Value:=[])
 (hf : ∀ o,o < vs.length + more.length → ¬ (fz.1 ≤ o ∧ o < fz.2)) :
 HOK base (ι ++ [.blk w.heap.size]) S (w.alloc (.cells (vs ++ more).toArray t fz)) (h ++ [.blk ⟨t,cs,true⟩]):=by
 have hE : Evo ι.length base ι S w (ι ++ [.blk w.heap.size]) S (w.alloc (.cells (vs ++ more).toArray t fz)):=Evo.alloc hh.bas (fun b o=>hh.stb b o) _ _
 have hnew : (w.alloc (.cells (vs ++ more).toArray t fz)).heap[w.heap.size]? = some (.cells (vs ++ more).toArray t fz):=by
  show (w.heap.push _)[w.heap.size]? = _
  simp
 have hl:=r.length
 have hf' : ∀ o,o < (vs ++ more).toArray.size → ¬ (fz.1 ≤ o ∧ o < fz.2):=by intro o ho;exact hf o (by simpa using ho)
 refine hh.push _ _ hE (fun b hb _=>⟨Below.heap_alloc w _ b hb,fun _ q=>q⟩) (fun x e=>?_) (fun _ _ _ e=>by cases e) trivial (fun _ b hb=>?_) (fun b o s=>?_)
 ·cases e
  refine ⟨w.heap.size,(vs ++ more).toArray,fz,rfl,hh.bas,hnew,hf',by simp [hl] <;> omega,fun i c e=>?_,fun _ o s=>?_,fun o s=>?_,fun q=>by cases q⟩
  ·obtain ⟨v,e1,e2⟩:=r.get i c e
   obtain ⟨hi,_⟩:=List.getElem?_eq_some_iff.1 e1
   exact ⟨v,by simp only [List.getElem?_toArray];rw [List.getElem?_append_left hi];exact e1,Rep.evo hE (Nat.le_refl _) c v e2⟩
  ·have:=hh.stb _ _ s;omega
  ·have:=hh.stb _ _ s;omega
 ·have : w.heap.size = b:=hb
  omega
 ·have:=hh.stb b o s
  show b < (w.heap.push _).size
  simp;omega

omit [Laid] in
theorem lR {w : World} {b : Nat} {arr : Array Value} {t : TypeId} {fz : Nat × Nat} (h : w.heap[b]? = some (.cells arr t fz)) (o : Nat) (v : Value) :
 (w.setCell ⟨b,o,none⟩ v).heap[b]? = some (.cells (arr.setIfInBounds o v) t fz):=by
 simp only [World.setCell,Array.getElem?_modify,if_true,h,Option.map_some]
 simp

omit [Laid] in
theorem nQ {w : World} (a : Addr) (v : Value) (b : Nat) : (w.setCell a v).shape? b = w.shape? b:=by
 unfold World.shape? World.setCell
 simp only [Array.getElem?_modify]
 by_cases hb : a.block = b
 ·simp only [hb,if_true]
  cases h : w.heap[b]? with
  | none=>rfl
  | some o=>cases o <;> simp;split <;> simp
 ·simp only [hb,if_false]

theorem HOK.set {base : Nat} {ι : List Ix} {S : aJ} {w : World} {h : aa} (hh : HOK base ι S w h) {id : Nat} {x : Blk} (e : h[id]? = some (.blk x)) (hw : x.wr = true) {b : Nat} (hb : ι[id]? = some (.blk b))
 {o : Nat} (ho : o < x.cells.length) {c : AV} {v : Value} (r : Rep ι S w c v) :
 Evo ι.length base ι S w ι S (w.setCell ⟨b,o,none⟩ v) ∧ HOK base ι S (w.setCell ⟨b,o,none⟩ v) (h.set id (.blk { x with cells:=x.cells.set o c })):=by
 obtain ⟨b',arr,fz,h1,h2,h3,h4,h5,h6,h7,h8,h9⟩:=hh.live id x e
 rw [hb] at h1;cases h1
 have hlt : id < h.length:=(List.getElem?_eq_some_iff.1 e).1
 have hE : Evo ι.length base ι S w ι S (w.setCell ⟨b,o,none⟩ v):=by
  refine ⟨fun _ _=>dM.refl _,fun _ _ h=>h,fun _ _ h=>.inl h,fun b' o' s=>?_,fun b' y hy=>by rw [nQ];exact hy,(Below.refl _ _).setCell h2 v⟩
  have hne : b' ≠ b:=fun q=>h7 hw o' (q ▸ s)
  exact World.cell?_of_block (w:=w) (Below.heap_setCell w _ v b' hne)
 refine ⟨hE,hh.nK hE (by simp [hh.len]) id (fun i hi ha=>?_) (fun y ey=>?_) (fun t sz n q=>?_) (fun en q=>by rw [List.getElem?_set_self hlt] at q;cases q;trivial) (fun j c' hj _ aj hi hj' => ?_) (fun b' o' s=>by have:=hh.stb b' o' s;simpa [World.setCell] using this) (by have:=hh.bas;simpa [World.setCell] using this)⟩
 ·rw [List.getElem?_set_ne (Ne.symm hi)] at ha ⊢
  refine ⟨rfl,rfl,fun c' hc _=>⟨Below.heap_setCell w _ v c' fun q=>?_,fun _ q=>q⟩⟩
  simp only at q
  subst q
  exact hi (hh.inj i id c' ha (by rw [e];exact trivial) hc (by rw [hb];rfl))
 ·rw [List.getElem?_set_self hlt] at ey
  cases ey
  refine ⟨b,arr.setIfInBounds o v,fz,hb,h2,lR h3 o v,by simpa using h4,by simpa using h5,fun i d ed=>?_,h7,by simpa using h8,fun q=>by rw [hw] at q;cases q⟩
  by_cases hi : i = o
  ·subst hi
   simp only [List.getElem?_set_self ho,Option.some.injEq] at ed
   subst ed
   refine ⟨v, ?_,Rep.evo hE (Nat.le_refl _) c v r⟩
   rw [Array.getElem?_setIfInBounds];simp;omega
  ·have ed' : x.cells[i]? = some d:=by rw [List.getElem?_set_ne (Ne.symm hi)] at ed;exact ed
   obtain ⟨u,e1,e2⟩:=h6 i d ed'
   exact ⟨u,by rw [Array.getElem?_setIfInBounds_ne (Ne.symm hi)];exact e1,Rep.evo hE (Nat.le_refl _) d u e2⟩
 ·rw [List.getElem?_set_self hlt] at q;cases q
 ·rw [List.getElem?_set_ne (Ne.symm hj)] at aj
  exact hj (hh.inj j id c' aj (by rw [e];exact trivial) hj' hi)

def cx : List AV → Nat → List AV → List AV
 | cells,_,[]=>cells
 | cells,o,c :: cs=>cx (cells.set o c) (o + 1) cs
omit [Laid] in
theorem j6 : ∀ (cs cells : List AV) (o : Nat),(cx cells o cs).length = cells.length
 | [],_,_=>rfl
 | c :: cs,cells,o=>by rw [cx,j6 cs];simp

omit [Laid] in
theorem dm (b o i : Nat) : (⟨b,o,none⟩ : Addr).add i = ⟨b,o + i,none⟩:=by
 unfold Addr.add;split
 ·simp_all
 ·rfl

omit [Laid] in
theorem fx {w : World} {b : Nat} {arr : Array Value} {t : TypeId} {fz : Nat × Nat} (h : w.heap[b]? = some (.cells arr t fz)) (o : Nat) : w.cell? ⟨b,o,none⟩ = arr[o]?:=by
 unfold World.cell?;simp [h]
omit [Laid] in
theorem oD {w : World} {b : Nat} {arr : Array Value} {t : TypeId} {fz : Nat × Nat} (h : w.heap[b]? = some (.cells arr t fz)) (o : Nat) : w.frozen? ⟨b,o,none⟩ = (decide (fz.1 ≤ o) && decide (o < fz.2)):=by
 unfold World.frozen?;simp [h]

theorem jA {P : Program} {base : Nat} {ι : List Ix} {S : aJ} : ∀ (vs : List Value) (cs : List AV) (w : World) (h : aa),HOK base ι S w h → ∀ {id : Nat} {x : Blk} {b : Nat},h[id]? = some (.blk x) → x.wr = true → ι[id]? = some (.blk b) →
 ∀ (o i : Nat),o + i + cs.length ≤ x.cells.length → au ι S w cs vs → (∀ u ∈ vs,u.oneCell' = true) →
 ∃ w',(storeCells ⟨b,o,none⟩ vs i).run P w = .ok () w' ∧ Evo ι.length base ι S w ι S w' ∧ HOK base ι S w' (h.set id (.blk { x with cells:=cx x.cells (o + i) cs }))
 | [],cs,w,h,hh,id,x,b,e,hw,hb,o,i,hl,r,hv=>by
   have : cs = []:=by have:=r.length;simpa using this
   subst this
   refine ⟨w,rfl,Evo.refl _ _ _ _ _, ?_⟩
   have hlt : id < h.length:=(List.getElem?_eq_some_iff.1 e).1
   have : h.set id (.blk { x with cells:=cx x.cells (o + i) [] }) = h:=by
    rw [cx]
    refine List.ext_getElem? fun j=>?_
    by_cases hj : j = id
    ·subst hj;rw [List.getElem?_set_self hlt,e]
    ·rw [List.getElem?_set_ne (Ne.symm hj)]
   rw [this];exact hh
 | v :: vs,[],w,h,hh,id,x,b,e,hw,hb,o,i,hl,r,hv=>by simp at r
 | v :: vs,c :: cs,w,h,hh,id,x,b,e,hw,hb,o,i,hl,r,hv=>by
   simp only [bD] at r
   simp only [List.length_cons] at hl
   have ho : o + i < x.cells.length:=by omega
   obtain ⟨hE,hH⟩:=hh.set e hw hb ho r.1
   have hlt : id < h.length:=(List.getElem?_eq_some_iff.1 e).1
   obtain ⟨b',arr,fz,h1,h2,h3,h4,h5,h6,h7,h8,h9⟩:=hh.live id x e
   rw [hb] at h1;cases h1
   have hrun : (store ((⟨b,o,none⟩ : Addr).add i) v).run P w = .ok () (w.setCell ⟨b,o + i,none⟩ v):=by
    rw [dm,run_store P w _ v _ (hv v (by simp)),fx h3,oD h3]
    have : arr[o + i]? = some arr[o + i]:=Array.getElem?_eq_getElem (by omega)
    rw [this]
    have:=h4 (o + i) (by omega)
    simp only [Bool.and_eq_true,decide_eq_true_eq,this,if_false]
   obtain ⟨w',k1,k2,k3⟩:=jA vs cs (w.setCell ⟨b,o + i,none⟩ v) _ hH (id:=id) (x:={ x with cells:=x.cells.set (o + i) c }) (b:=b) (by rw [List.getElem?_set_self hlt]) hw hb o (i + 1) (by simp;omega)
    (au.evo hE (Nat.le_refl _) cs vs r.2) (fun u hu=>hv u (by simp [hu]))
   refine ⟨w', ?_,hE.trans k2, ?_⟩
   ·rw [storeCells];simp only [Sem.run_bind,hrun,Result.andThen];exact k1
   ·simp only [List.set_set] at k3
    rw [cx];exact k3
end Go.Aw
end

section
namespace Go.Aw
open Go Go.RowKit
variable [Laid]

def inI (n : Int) : Prop:=-9223372036854775808 ≤ n ∧ n ≤ 9223372036854775807

def iWr (k : IntKind) (n : Int) (K : AV → Prop) : Prop :=
 match k with
 | .i64=>inI n ∧ K (.v (.int .i64 n))
 | k=>K (.v (.int k (k.wrap n)))

def sH (k : IntKind) : Int:=if k.signed then -1 else k.max
def eK (op : BinOp) (k : IntKind) (x y : Int) : Int :=
 let a:=BitVec.ofInt k.bits x
 let b:=BitVec.ofInt k.bits y
 match op with
 | .and=>k.wrap (a &&& b).toNat
 | .or=>k.wrap (a ||| b).toNat
 | .xor=>k.wrap (a ^^^ b).toNat
 | _=>k.wrap (a &&& ~~~b).toNat

def mc (op : BinOp) (k : IntKind) (a b : Int) (K : AV → Prop) : Prop :=
 match op with
 | .add=>iWr k (a + b) K
 | .sub=>iWr k (a - b) K
 | .mul=>iWr k (a * b) K
 | .quo=>b ≠ 0 ∧ K (.v (.int k (k.wrap (a.tdiv b))))
 | .rem=>b ≠ 0 ∧ K (.v (.int k (a.tmod b)))
 | .and=>K (.v (.int k (eK .and k a b)))
 | .or=>K (.v (.int k (eK .or k a b)))
 | .xor=>K (.v (.int k (eK .xor k a b)))
 | .andNot=>K (.v (.int k (eK .andNot k a b)))
 | .eql=>K (bool (decide (a = b)))
 | .neq=>K (bool (!decide (a = b)))
 | .lss=>K (bool (decide (a < b)))
 | .leq=>K (bool (decide (a ≤ b)))
 | .gtr=>K (bool (decide (b < a)))
 | .geq=>K (bool (decide (b ≤ a)))
 | _=>False

def nk (op : BinOp) (a b : List UInt8) (K : AV → Prop) : Prop :=
 match op with
 | .add=>a.length + b.length ≤ maxLen ∧ K (.str (a ++ b))
 | .eql=>K (bool (decide (a = b)))
 | .neq=>K (bool (!decide (a = b)))
 | .lss=>K (bool (Op.bytesLess a b))
 | .leq=>K (bool (Op.bytesLess a b || decide (a = b)))
 | .gtr=>K (bool (!(Op.bytesLess a b || decide (a = b))))
 | .geq=>K (bool (!Op.bytesLess a b))
 | _=>False

def kX (op : BinOp) (k : IntKind) (a b : Int) (K : AV → Prop) : Prop :=
 0 ≤ b ∧ match op with
 | .shl=>K (.v (.int k (k.wrap (a * 2 ^ (min b.toNat k.bits)))))
 | .shr=>K (.v (.int k (a.fdiv (2 ^ (min b.toNat k.bits)))))
 | _=>False

def fy : BinOp → Bool|.shl|.shr=>true|_=>false

def af (op : BinOp) (x y : AV) (K : AV → Prop) : Prop :=
 match x,y with
 | .v (.int k a),.v (.int k' b)=>if fy op then kX op k a b K else k = k' ∧ mc op k a b K
 | .str a,.str b=>nk op a b K
 | _,_=>False
def lS (op : BinOp) (x y : AV) (K : AV → Prop) : Prop :=
 match x,y with
 | .v (.bool a),.v (.bool b)=>(match op with|.eql=>K (bool (a == b))|.neq=>K (bool (!(a == b)))|_=>False)
 | _,_=>False

def eqS : Nat → AV → AV → Option Bool
 | 0,.v (.bool a),.v (.bool b)=>some (a == b)
 | 1,.v (.int k a),.v (.int k' b)=>if k = k' then some (decide (a = b)) else none
 | 2,.str a,.str b=>some (decide (a = b))
 | _,_,_=>none
def eqK : List Nat → List AV → List AV → Option Bool
 | [],[],[]=>some true
 | k :: ks,x :: xs,y :: ys=>match eqS k x y,eqK ks xs ys with|some a,some b=>some (a && b)|_,_=>none
 | _,_,_=>none
def iJ (neg : Bool) (ks : List Nat) (x y : AV) (K : AV → Prop) : Prop :=
 match x,y with
 | .agg xs,.agg ys=>(match eqK ks xs ys with|some b=>K (bool (if neg then !b else b))|none=>False)
 | _,_=>False

def a8 (c a b : AV) (K : AV → Prop) : Prop:=∃ t,c = .v (.bool t) ∧ (t = true → K a) ∧ (t = false → K b)
def ao (c : AV) (A B : Prop) : Prop:=∃ t,c = .v (.bool t) ∧ (t = true → A) ∧ (t = false → B)
def aK (c : AV) (want : Bool) (A B : Prop) : Prop:=(∃ t,c = .v (.bool t) ∧ (t = want → A) ∧ (t = (!want) → B)) ∨ (c = .v undef ∧ B)
def dT (x : AV) (K : AV → Prop) : Prop:=∃ t,x = .v (.bool t) ∧ K (bool (!t))
def oK (x : AV) (K : AV → Prop) : Prop:=∃ k n,x = .v (.int k n) ∧ iWr k (0 - n) K
def lU (k : IntKind) (x : AV) (K : AV → Prop) : Prop:=∃ k' n,x = .v (.int k' n) ∧ K (.v (.int k (k.wrap n)))
def bh (i : Nat) (x : AV) (K : AV → Prop) : Prop :=
 match x with
 | .tup cs=>match cs[i]? with|some c=>K c|none=>False
 | _=>False
def ldP (g : Bool) (sz : Nat) (cs : List AV) (K : AV → Prop) : Prop :=
 match g with
 | true=>sz ≤ cs.length ∧ K (.agg (cs.take sz))
 | false=>match cs with|c :: _=>K c|[]=>False
def oJ (g : Bool) (off n : Nat) (x : AV) (K : AV → Prop) : Prop :=
 match x with
 | .agg cs=>ldP g n (cs.drop off) K
 | _=>False
def iA (x i : AV) (K : AV → Prop) : Prop :=
 match x,i with
 | .str l,.v (.int _ n)=>(0 ≤ n ∧ n < l.length) ∧ K (.v (.int .u8 (l.getD n.toNat 0).toNat))
 | _,_=>False
def lV (g : Bool) (sz len : Nat) (x i : AV) (K : AV → Prop) : Prop :=
 match x,i with
 | .agg cs,.v (.int _ n)=>(0 ≤ n ∧ n < len) ∧ ldP g sz (cs.drop (n.toNat * sz)) K
 | _,_=>False
def cM : Option AV → Int → Option Int
 | none,d=>some d
 | some (.v (.int _ n)),_=>some n
 | _,_=>none
def kY (x : AV) (lo hi : Option AV) (K : AV → Prop) : Prop :=
 match x with
 | .str l=>(match cM lo 0,cM hi l.length with
   | some a,some b=>(0 ≤ a ∧ a ≤ b ∧ b ≤ l.length) ∧ K (.str ((l.take b.toNat).drop a.toNat))
   | _,_=>False)
 | _=>False
def eA : AV → AV
 | .v (.slice none 0 0)=>.emp
 | .sb _ sz rows=>.sl sz rows
 | x=>x
def iSl (n : Nat) (x : AV) (lo hi : Option AV) (K : AV → Prop) : Prop :=
 match eA x with
 | .sl sz rows=>(match cM lo 0,cM hi rows.length with
   | some a,some b=>sz = n ∧ (0 ≤ a ∧ a ≤ b ∧ b ≤ rows.length) ∧ K (.sl sz ((rows.take b.toNat).drop a.toNat))
   | _,_=>False)
 | .own id off len sz=>(match cM lo 0,cM hi len with
   | some a,some b=>sz = n ∧ (0 ≤ a ∧ a ≤ b ∧ b ≤ len) ∧ K (.own id (off + a.toNat * sz) (b - a).toNat sz)
   | _,_=>False)
 | .emp=>(match cM lo 0,cM hi 0 with
   | some a,some b=>(a = 0 ∧ b = 0) ∧ K .emp
   | _,_=>False)
 | _=>False
def chunks (sz : Nat) : Nat → List AV → List (List AV)
 | 0,_=>[]
 | n + 1,cs=>cs.take sz :: chunks sz n (cs.drop sz)
def oO (n sz : Nat) (x : AV) (lo hi : Option AV) (h : aa) (K : AV → Prop) : Prop :=
 match x with
 | .op id off=>(match cM lo 0,cM hi n,h[id]? with
   | some a,some b,some (.blk blk)=>(off + n * sz ≤ blk.cells.length ∧ 0 ≤ a ∧ a ≤ b ∧ b ≤ n ∧ n ≤ maxLen) ∧ K (.own id (off + a.toNat * sz) (b - a).toNat sz)
   | _,_,_=>False)
 | .ip cs=>(match cM lo 0,cM hi n with
   | some a,some b=>(n * sz ≤ cs.length ∧ 0 < n ∧ n ≤ maxLen ∧ a = 0 ∧ b = n) ∧ K (.sl sz (chunks sz n cs))
   | _,_=>False)
 | _=>False
def aO (m : Nat) (x i : AV) (K : AV → Prop) : Prop :=
 match eA x,i with
 | .sl sz rows,.v (.int _ n)=>sz = m ∧ (0 ≤ n ∧ n < rows.length) ∧ K (.ip (rows.getD n.toNat []))
 | .own id off len sz,.v (.int _ n)=>sz = m ∧ (0 ≤ n ∧ n < len) ∧ K (.op id (off + n.toNat * sz))
 | _,_=>False
def eP (len sz : Nat) (x i : AV) (K : AV → Prop) : Prop :=
 match x,i with
 | .op id off,.v (.int _ n)=>(0 ≤ n ∧ n < len) ∧ K (.op id (off + n.toNat * sz))
 | .ip cs,.v (.int _ n)=>(0 ≤ n ∧ n < len) ∧ K (.ip (cs.drop (n.toNat * sz)))
 | _,_=>False
def ah (off : Nat) (x : AV) (K : AV → Prop) : Prop :=
 match x with
 | .ip cs=>K (.ip (cs.drop off))
 | .op id o=>K (.op id (o + off))
 | _=>False
def me (x : AV) (K : AV → Prop) : Prop :=
 match x with
 | .ip _|.op _ _=>K x
 | .fn (.func _) _ _=>K x
 | _=>False
def ab (g : Bool) (sz : Nat) (x : AV) (h : aa) (K : AV → Prop) : Prop :=
 match x with
 | .ip cs=>ldP g sz cs K
 | .op id o=>(match h[id]? with
   | some (.blk b)=>ldP g sz (b.cells.drop o) K
   | _=>False)
 | _=>False
def aN (sz : Nat) (x v : AV) (h : aa) (K : aa → Prop) : Prop :=
 match x with
 | .op id o=>(match h[id]? with
   | some (.blk b)=>(b.wr = true ∧ o + (bc v).length ≤ b.cells.length ∧ (bc v).length = sz ∧ (bc v).all cv = true) ∧ K (h.set id (.blk { b with cells:=cx b.cells o (bc v) }))
   | _=>False)
 | _=>False
def bz (t : TypeId) (v : AV) (h : aa) (K : AV → aa → Prop) : Prop :=
 (bc v).all cv = true ∧ K (.op h.length 0) (h ++ [.blk ⟨t,bc v,true⟩])
def dQ : List AV → List (Nat × Nat × AV) → Option (List AV)
 | cells,[]=>some cells
 | cells,(o,n,x) :: r=>if (bc x).length = n ∧ o + n ≤ cells.length ∧ (bc x).all cv = true then dQ (cx cells o (bc x)) r else none
def bl (zero : AV) (parts : List (Nat × Nat × AV)) (K : AV → Prop) : Prop :=
 match dQ (bc zero) parts with
 | some cs=>K (.agg cs)
 | none=>False
def fp : Nat → List AV → List AV
 | 0,_=>[]
 | n + 1,z=>z ++ fp n z
def fG (t len sz : Nat) (zero : AV) (parts : List (Nat × Nat × AV)) (h : aa) (K : AV → aa → Prop) : Prop :=
 match dQ (fp len (bc zero)) parts with
 | some cs=>(match len with
   | 0=>K .emp h
   | len + 1=>K (.own h.length 0 (len + 1) sz) (h ++ [.blk ⟨t,cs,true⟩]))
 | none=>False
def bP (len sz : Nat) (zero : AV) (parts : List (Nat × Nat × AV)) (K : AV → Prop) : Prop :=
 match dQ (fp len (bc zero)) parts with
 | some cs=>K (.sl sz (chunks sz len cs))
 | none=>False
def ej (h : aa) (sz : Nat) (x : AV) : Option (List (List AV)) :=
 match eA x with
 | .emp=>some []
 | .sl sz' rows=>if sz' = sz then some rows else none
 | .own id off len sz' => (match h[id]? with
   | some (.blk b)=>if sz' = sz ∧ off + len * sz ≤ b.cells.length then some (chunks sz len (b.cells.drop off)) else none
   | _=>none)
 | _=>none
def fe (b : UInt8) : AV:=.v (.int .u8 b.toNat)
def qC : AV → Option (List (List AV))
 | .str l=>some (l.map fun b=>[fe b])
 | _=>none
def dJ (sz : Nat) (r : List AV) : Bool:=r.length == sz && r.all cv
def cT (bytes n : Nat) : Prop:=n ≤ maxLen ∧ n * bytes ≤ 140737488355328
def nle : AV → AV
 | .v (.slice none 0 0)=>.emp
 | x=>x
def dP (own : Bool) (e sz bytes : Nat) (x : AV) (src : Option (List (List AV))) (h : aa) (K : AV → aa → Prop) : Prop :=
 match src with
 | none=>False
 | some rows=>rows.all (dJ sz) = true ∧ match nle x with
   | .emp=>(match own with
     | false=>cT bytes rows.length ∧ K (.sb h.length sz rows) (h ++ [.tok e sz rows.length])
     | true=>rows ≠ [] ∧ cT bytes rows.length ∧ K (.own h.length 0 rows.length sz) (h ++ [.blk ⟨e,rows.flatten,true⟩]))
   | .sb id sz' base=>(match h[id]? with
     | some (.tok e' sz'' k)=>(sz' = sz ∧ sz'' = sz ∧ e' = e ∧ k = base.length) ∧ cT bytes (k + rows.length) ∧ K (.sb id sz (base ++ rows)) (h.set id (.tok e sz (k + rows.length)))
     | _=>False)
   | .own id off len sz' => (match h[id]? with
     | some (.blk b)=>(off = 0 ∧ sz' = sz ∧ b.wr = true ∧ b.ty = e ∧ len * sz ≤ b.cells.length) ∧ 0 < len + rows.length ∧ cT bytes (len + rows.length) ∧
      K (.own h.length 0 (len + rows.length) sz) (h.set id .dead ++ [.blk ⟨e,b.cells.take (len * sz) ++ rows.flatten,true⟩])
     | _=>False)
   | _=>False
def ee (own : Bool) (e sz bytes : Nat) (x y : AV) (h : aa) (K : AV → aa → Prop) : Prop:=dP own e sz bytes x (ej h sz y) h K
def vn (own : Bool) (e bytes : Nat) (x y : AV) (h : aa) (K : AV → aa → Prop) : Prop:=dP own e 1 bytes x (qC y) h K
def dA (P : Program) (e : TypeId) : Nat:=((P.info? e).map (·.bytes)).getD 0
def zok (P : Program) (e : TypeId) : Bool :=
 match P.info? e with
 | some i=>(match i.zero with|some z=>z.cells.size == i.size|none=>false)
 | none=>false
def pq (e sz bytes : Nat) (zero len cap : AV) (h : aa) (K : AV → aa → Prop) : Prop :=
 match len,cap with
 | .v (.int _ l),.v (.int _ c)=>(0 ≤ l ∧ l ≤ c ∧ (bytes : Int) * c ≤ 281474976710656 ∧ c ≤ 9223372036854775807) ∧ K (.own h.length 0 l.toNat sz) (h ++ [.blk ⟨e,fp c.toNat (bc zero),true⟩])
 | _,_=>False
def gK (e : Nat) (x : AV) (h : aa) (K : AV → aa → Prop) : Prop :=
 match x with
 | .str l=>K (.own h.length 0 l.length 1) (h ++ [.blk ⟨e,l.map fe,true⟩])
 | _=>False
def unB : List AV → Option (List UInt8)
 | []=>some []
 | .v (.int .u8 n) :: r=>(unB r).map (UInt8.ofNat n.toNat :: ·)
 | _=>none
def fk (x : AV) (h : aa) (K : AV → Prop) : Prop :=
 match (ej h 1 x).bind fun p=>unB p.flatten with
 | some l=>K (.str l)
 | none=>False
def oQ (P : Program) (e : TypeId) : Bool:=match P.underlying e with|some (.int .u8)=>true|_=>false
def eS (x : AV) (K : AV → Prop) : Prop :=
 match x with
 | .str l=>l.length ≤ maxLen → K (int l.length)
 | _=>False
def bI (x : AV) (K : AV → Prop) : Prop :=
 match eA x with
 | .sl _ rows=>rows.length ≤ maxLen → K (int rows.length)
 | .own _ _ len _=>len ≤ maxLen → K (int len)
 | .emp=>K (int 0)
 | _=>False
def jd (x y : AV) (K : AV → Prop) : Prop :=
 match x,y with
 | .v (.int k a),.v (.int k' b)=>k = k' ∧ K (.v (.int k (if b < a then b else a)))
 | _,_=>False
def fw (x y : AV) (K : AV → Prop) : Prop :=
 match x,y with
 | .v (.int k a),.v (.int k' b)=>k = k' ∧ K (.v (.int k (if b > a then b else a)))
 | _,_=>False

/-! ### Types -/
def ld : TypeDesc → Bool
 | .struct _|.array _ _=>true
 | _=>false
def cW (P : Program) (t : TypeId) : Bool:=match P.underlying t with|some d=>ld d|none=>false
def tOk (P : Program) (t : TypeId) : Bool:=(P.info? t).isSome && (P.underlying t).isSome
def cU (P : Program) (t : TypeId) : Option AV:=(P.info? t).bind fun i=>i.zero.map fi
def mD (g : TypeId → Option (List Nat)) (P : Program) : Nat → List Field → Option (List Nat)
 | _,[]=>some []
 | o,f :: fs=>if f.offset = o ∧ f.name ≠ "_" then (g f.type).bind fun ks=>if P.cellsOf f.type = ks.length ∧ 0 < ks.length then (mD g P (o + ks.length) fs).map (ks ++ ·) else none else none
def ua : Nat → List Nat → List Nat
 | 0,_=>[]
 | n + 1,ks=>ks ++ ua n ks
def gD (P : Program) : Nat → TypeId → Option (List Nat)
 | 0,_=>none
 | d + 1,t =>
   if tOk P t then
    match P.underlying t with
    | some .bool=>some [0]
    | some (.int _)=>some [1]
    | some .string=>some [2]
    | some (.struct fs)=>if P.stoodInHeld t then none else mD (gD P d) P 0 fs.toList
    | some (.array n e)=>(gD P d e).bind fun ks=>if P.cellsOf e = ks.length ∧ 0 < ks.length then some (ua n ks) else none
    | _=>none
   else none

def cq (P : Program) (f : FuncId) : Bool:=(P.funcs[f]?).any (fun fn=>fn.body.isSome && fn.name != "runtime.NumGoroutine")
def aH (P : Program) (x : AV) (args : List AV) (h : aa) (K : AV → aa → Prop) : Prop :=
 match x with
 | .fn (.func f) first cap=>cq P f = true ∧ ct P f (first ++ args ++ cap) h K
 | _=>False
def pt (x : AV) (K : AV → Prop) : Prop :=
 match x with
 | .str _=>K x
 | _=>False

/-! ### Interfaces,nil -/
def pF : AV → Option Bool|.v .nilIface=>some true|.ifc _ _=>some false|_=>none
def nz : AV → Option Bool|.v (.pointer none)=>some true|.op _ _=>some false|.ip _=>some false|_=>none
def pG : AV → Option Bool
 | .v (.slice none _ _)=>some true
 | .own _ _ len _=>(match len with|0=>none|_ + 1=>some false)
 | .sl _ rows=>(match rows with|[]=>none|_ :: _=>some false)
 | .sb _ _ rows=>(match rows with|[]=>none|_ :: _=>some false)
 | _=>none
def fo (neg b : Bool) : Bool:=match neg with|true=>!b|false=>b
def j0 (neg : Bool) (r : Option Bool) (K : AV → Prop) : Prop:=match r with|some b=>K (bool (fo neg b))|none=>False
def lX (neg : Bool) (d : TypeDesc) (y : Operand) (x : AV) (K : AV → Prop) : Prop :=
 match d,y with
 | .interface _,.const .nilIface=>j0 neg (pF x) K
 | .pointer _,.const (.pointer none)=>j0 neg (nz x) K
 | .slice _,.const (.slice none _ _)=>j0 neg (pG x) K
 | _,_=>False
def ml (P : Program) (name : String) (t : TypeId) : Option FuncId :=
 match P.info? t,P.underlying t with
 | some i,some (.pointer _)=>(match i.methods.find? (·.name == name) with
   | some m=>(match m.path.toList,m.func with|[],some (f,true)=>(match cq P f with|true=>some f|false=>none)|_,_=>none)
   | none=>none)
 | _,_=>none
def B9 (P : Program) (asserted t : TypeId) : Bool :=
 match P.underlying asserted,P.info? t with
 | some (.interface want),some i=>(lacking want i.methods).isEmpty
 | _,_=>false
def wE (t : TypeId) (x : AV) (K : AV → Prop) : Prop:=K (.ifc t x)
def oH (has : TypeId → Bool) (x : AV) (K : AV → Prop) : Prop :=
 match x with
 | .ifc t v=>has t = true ∧ K (.tup [.ifc t v,bool true])
 | _=>False
def wD (P : Program) (row : TypeId → Option FuncId) (x : AV) (args : List AV) (h : aa) (K : AV → aa → Prop) : Prop :=
 match x with
 | .ifc t v=>(match row t with|some f=>ct P f (v :: args) h K|none=>False)
 | _=>False
def dt (P : Program) (x : AV) (K : AV → Prop) : Prop :=
 match x with
 | .fn (.method name) (.ifc t v :: r) ys=>(ml P name t).isSome = true ∧ K (.fn (.method name) (.ifc t v :: r) ys)
 | x=>me x K

abbrev req (b : Bool) (X : Prop) : Prop:=match b with|true=>X|false=>False

def bg (P : Program) (own : Bool) (ev : Operand → AV) (h : aa) (op : Op) (K : AV → aa → Prop) : Prop :=
 match op with
 | .move x|.assign x=>K (ev x) h
 | .pick c a b=>a8 (ev c) (ev a) (ev b) fun v=>K v h
 | .binOp op t x y _ =>
   if cW P t then
    match op with
    | .eql=>req (!P.eqGuardType P.depth t) (match gD P 8 t with|some ks=>iJ false ks (ev x) (ev y) fun v=>K v h|none=>False)
    | .neq=>req (!P.eqGuardType P.depth t) (match gD P 8 t with|some ks=>iJ true ks (ev x) (ev y) fun v=>K v h|none=>False)
    | _=>False
   else match P.underlying t with
    | some .bool=>lS op (ev x) (ev y) fun v=>K v h
    | some (.int _)|some .string=>af op (ev x) (ev y) fun v=>K v h
    | some d=>(match op with
      | .eql=>lX false d y (ev x) fun v=>K v h
      | .neq=>lX true d y (ev x) fun v=>K v h
      | _=>False)
    | none=>False
 | .unOp .not _ x=>dT (ev x) fun v=>K v h
 | .unOp .neg _ x=>oK (ev x) fun v=>K v h
 | .unOp .xor t x=>(match P.underlying t with|some (.int k)=>af .xor (.v (.int k (sH k))) (ev x) fun v=>K v h|_=>False)
 | .convert s d x =>
   match P.underlying s,P.underlying d with
   | some (.int _),some (.int k)=>lU k (ev x) fun v=>K v h
   | some .string,some .string=>pt (ev x) fun v=>K v h
   | some .string,some (.slice e)=>req (oQ P e) (gK e (ev x) h K)
   | some (.slice e),some .string=>req (oQ P e) (fk (ev x) h fun v=>K v h)
   | _,_=>False
 | .extract x i=>bh i (ev x) fun v=>K v h
 | .field t x i =>
   match P.underlying t with
   | some (.struct fs)=>match fs[i]? with
     | some f=>req (tOk P f.type) (oJ (cW P f.type) f.offset (P.cellsOf f.type) (ev x) fun v=>K v h)
     | none=>False
   | _=>False
 | .index t x i =>
   match P.underlying t with
   | some .string=>iA (ev x) (ev i) fun v=>K v h
   | some (.array n e)=>req (tOk P e) (lV (cW P e) (P.cellsOf e) n (ev x) (ev i) fun v=>K v h)
   | _=>False
 | .slice t x lo hi none =>
   match P.underlying t with
   | some .string=>kY (ev x) (lo.map ev) (hi.map ev) fun v=>K v h
   | some (.slice e)=>req (tOk P e) (iSl (P.cellsOf e) (ev x) (lo.map ev) (hi.map ev) fun v=>K v h)
   | some (.array n e)=>req (tOk P e) (oO n (P.cellsOf e) (ev x) (lo.map ev) (hi.map ev) h fun v=>K v h)
   | _=>False
 | .indexAddr t x i =>
   match P.underlying t with
   | some (.slice e)=>req (tOk P e) (aO (P.cellsOf e) (ev x) (ev i) fun v=>K v h)
   | some (.array n e)=>req (tOk P e) (eP n (P.cellsOf e) (ev x) (ev i) fun v=>K v h)
   | _=>False
 | .fieldAddr t x i =>
   match P.underlying t with
   | some (.struct fs)=>match fs[i]? with
     | some f=>req (P.cellsOf f.type != 0 && tOk P f.type) (ah f.offset (ev x) fun v=>K v h)
     | none=>False
   | _=>False
 | .nilCheck x=>dt P (ev x) fun v=>K v h
 | .makeInterface t x=>req (P.concrete t) (wE t (ev x) fun v=>K v h)
 | .typeAssert x _ asserted true=>oH (B9 P asserted) (ev x) fun v=>K v h
 | .load t x=>req (tOk P t) (ab (cW P t) (P.cellsOf t) (ev x) h fun v=>K v h)
 | .store t x v=>req (tOk P t) (aN (P.cellsOf t) (ev x) (ev v) h fun h' => K (.v undef) h')
 | .alloc t=>match cU P t with
   | some z=>bz t z h K
   | none=>False
 | .box t x=>bz t (ev x) h K
 | .build t parts =>
   match P.underlying t,cU P t with
   | some (.struct fs),some z=>req (fs.toList.all (fun f=>tOk P f.type) && parts.toList.all (fun p=>(fs[p.1]?).isSome))
    (bl z (parts.toList.map fun p=>(((fs[p.1]?).map (·.offset)).getD 0,((fs[p.1]?).map (fun f=>P.cellsOf f.type)).getD 0,ev p.2)) fun v=>K v h)
   | some (.array _ e),some z=>req (tOk P e) (bl z (parts.toList.map fun p=>(p.1 * P.cellsOf e,P.cellsOf e,ev p.2)) fun v=>K v h)
   | _,_=>False
 | .buildSlice t len parts =>
   match P.underlying t with
   | some (.slice e)=>(match cU P e with
     | some z=>req (zok P e && tOk P e && decide (len * P.cellsOf e ≤ 16777216) && decide (len ≤ 16777216)) (match own with
      | true=>bP len (P.cellsOf e) z (parts.toList.map fun p=>(p.1 * P.cellsOf e,P.cellsOf e,ev p.2)) fun v=>K v h
      | false=>fG e len (P.cellsOf e) z (parts.toList.map fun p=>(p.1 * P.cellsOf e,P.cellsOf e,ev p.2)) h K)
     | none=>False)
   | _=>False
 | .makeSlice t l c =>
   match P.underlying t with
   | some (.slice e)=>(match cU P e with
     | some z=>req (zok P e && decide (0 < P.cellsOf e)) (pq e (P.cellsOf e) (dA P e) z (ev l) (ev c) h K)
     | none=>False)
   | _=>False
 | .makeFunc f xs ys=>K (.fn f (xs.toList.map ev) (ys.toList.map ev)) h
 | .call c =>
   match c.callee with
   | .builtin .len=>(match c.argTypes[0]?,c.args[0]? with
     | some t,some x=>(match P.underlying t with
       | some .string=>eS (ev x) fun v=>K v h
       | some (.slice _)=>bI (ev x) fun v=>K v h
       | _=>False)
     | _,_=>False)
   | .builtin .min=>(match c.args.toList with|[x,y]=>jd (ev x) (ev y) fun v=>K v h|_=>False)
   | .builtin .max=>(match c.args.toList with|[x,y]=>fw (ev x) (ev y) fun v=>K v h|[x,y,z]=>fw (ev x) (ev y) fun u=>fw u (ev z) fun v=>K v h|_=>False)
   | .builtin .append=>(match c.argTypes.toList,c.args.toList with
     | [t,tx],[x,y]=>(match P.underlying t,P.underlying tx with
       | some (.slice e),some (.slice _)=>req (zok P e) (ee own e (P.cellsOf e) (dA P e) (ev x) (ev y) h K)
       | some (.slice e),some .string=>req (zok P e && P.cellsOf e == 1) (vn own e (dA P e) (ev x) (ev y) h K)
       | _,_=>False)
     | _,_=>False)
   | .value x=>aH P (ev x) (c.args.toList.map ev) h K
   | .invoke x name=>wD P (ml P name) (ev x) (c.args.toList.map ev) h K
   | _=>False
 | _=>False

def fh (st : St) (d : Option Tmp) (x : AV) (h : aa) : St:=⟨st.n,bj st.n st.fr d x,h⟩
def bu (want : Bool) (c : AV) : AV:=match c with|.v (.bool _)=>.v (.bool (!want))|c=>c
def cf (ops : Array Oper) (j : Nat) : Option Tmp:=(ops[j]?).bind (·.dst)

end Go.Aw
end

section
namespace Go.Aw
open Go Go.RowKit
variable [Laid]

omit [Laid] in
theorem Rep.eA {ι : List Ix} {S : aJ} {w : World} {x : AV} {y : Value} (h : Rep ι S w x y) : Rep ι S w (Aw.eA x) y:=by
 unfold Aw.eA
 split
 ·rw [bL] at h;subst h;rw [Rep];exact ⟨none,rfl⟩
 ·rw [Rep] at h;rw [Rep];exact h.1
 ·exact h
omit [Laid] in
theorem Rep.nle {ι : List Ix} {S : aJ} {w : World} {x : AV} {y : Value} (h : Rep ι S w x y) : Rep ι S w (Aw.nle x) y:=by
 unfold Aw.nle
 split
 ·rw [bL] at h;subst h;rw [Rep];exact ⟨none,rfl⟩
 ·exact h

def bk (P : Program) (o : Oper) (base : Nat) (ι : List Ix) (S : aJ) (a : Act) (w : World) (st : St) (K : AV → aa → Prop) : Prop :=
 ∀ Q : Exit → Act → World → Prop,o.wp P a w (fun a' w' => ∃ ι' S' v h',Evo ι.length base ι S w ι' S' w' ∧ ROK base ι' S' a' w' (fh st o.dst v h') ∧ st.h.length ≤ h'.length ∧ K v h') Q

section
variable {P : Program} {o : Oper} {base : Nat} {ι ι' : List Ix} {S S' : aJ} {a : Act} {w w' : World} {st : St} {K : AV → aa → Prop} {v : AV} {u : Value} {h' : aa}

theorem cI (hr : ROK base ι S a w st) (hrun : (execOp a.eval o).run P w = .ok (.value u) w') (hE : Evo ι.length base ι S w ι' S' w') (r : Rep ι' S' w' v u)
 (hh : HOK base ι' S' w' h') (hl : st.h.length ≤ h'.length) (k : K v h') : bk P o base ι S a w st K:=by
 intro Q
 unfold Oper.wp
 rw [hrun,Oper.upon_value]
 refine ⟨ι',S',v,h',hE, ?_,hl,k⟩
 have : ROK base ι' S' a w' ⟨st.n,st.fr,h'⟩:=⟨hr.df,hr.sz,cp.evo hE (Nat.le_refl _) hr.fr,hh⟩
 exact this.put o.dst r

theorem sD (hr : ROK base ι S a w st) (hrun : (execOp a.eval o).run P w = .ok .skip w') (hE : Evo ι.length base ι S w ι' S' w')
 (hh : HOK base ι' S' w' h') (hl : st.h.length ≤ h'.length) (k : K (.v undef) h') : bk P o base ι S a w st K:=by
 intro Q
 unfold Oper.wp
 rw [hrun,Oper.upon_skip]
 refine ⟨ι',S',.v undef,h',hE, ?_,hl,k⟩
 have : ROK base ι' S' a w' ⟨st.n,st.fr,h'⟩:=⟨hr.df,hr.sz,cp.evo hE (Nat.le_refl _) hr.fr,hh⟩
 exact this.put (x:=.v undef) (v:=undef) o.dst (by simp)

theorem aM (hr : ROK base ι S a w st) (hrun : (execOp a.eval o).run P w = .ok (.value u) w) (r : Rep ι S w v u) (k : K v st.h) : bk P o base ι S a w st K :=
 cI hr hrun (Evo.refl _ _ _ _ _) r hr.hp (Nat.le_refl _) k
end

omit [Laid] in
theorem cV {P : Program} {w w' : World} {x : Sem Value} {u : Value} (h : x.run P w = .ok u w') : (do pure (Next.value (← x)) : Sem Next).run P w = .ok (.value u) w':=by
 rw [Sem.run_bind,h];rfl
omit [Laid] in
theorem LY {P : Program} {w w' : World} {x : Sem Unit} (h : x.run P w = .ok () w') : (do x;pure Next.skip : Sem Next).run P w = .ok .skip w':=by
 rw [Sem.run_bind,h];rfl

omit [Laid] in
theorem gL {P : Program} {w : World} {t : TypeId} {i : TypeInfo} (h : P.info? t = some i) : (typeInfo t).run P w = .ok i w:=by
 simp [typeInfo,h]
omit [Laid] in
theorem cn {P : Program} {w : World} {t : TypeId} (h : tOk P t = true) : (sizeOf t).run P w = .ok (P.cellsOf t) w:=by
 unfold tOk at h
 simp only [Bool.and_eq_true,Option.isSome_iff_exists] at h
 obtain ⟨⟨i,hi⟩,_⟩:=h
 simp [sizeOf,gL hi,Program.cellsOf,hi]
omit [Laid] in
theorem nD {P : Program} {w : World} {t : TypeId} (h : tOk P t = true) : (isAgg t).run P w = .ok (cW P t) w:=by
 unfold tOk at h
 simp only [Bool.and_eq_true,Option.isSome_iff_exists] at h
 obtain ⟨_,⟨d,hd⟩⟩:=h
 unfold isAgg cW
 simp only [Sem.run_bind,run_underlying hd,Result.andThen_ok,hd]
 cases d <;> rfl

omit [Laid] in
theorem np {k : IntKind} {n : Int} {K : AV → Prop} (h : iWr k n K) : K (.v (.int k (k.wrap n))):=by
 unfold iWr at h
 split at h
 ·obtain ⟨h1,h2⟩:=h
  rw [IntWalk.i64_in n ⟨h1.1,h1.2⟩];exact h2
 ·exact h

section
variable {P : Program} {o : Oper} {base : Nat} {ι : List Ix} {S : aJ} {a : Act} {w : World} {st : St} {K : AV → aa → Prop}

theorem Fx {x : Operand} (hr : ROK base ι S a w st) (ho : o.op = .move x ∨ o.op = .assign x) (h : K (ae st.fr x) st.h) : bk P o base ι S a w st K :=
 aM hr (by rcases ho with ho|ho <;> simp [execOp,ho]) (hr.eval x) h

theorem Mj {c x y : Operand} (hr : ROK base ι S a w st) (ho : o.op = .pick c x y) (h : a8 (ae st.fr c) (ae st.fr x) (ae st.fr y) fun v=>K v st.h) : bk P o base ι S a w st K:=by
 obtain ⟨t,e,h1,h2⟩:=h
 have hc:=hr.eval c
 rw [e] at hc;simp only [bL] at hc
 cases t with
 | true=>exact aM hr (u:=a.eval x) (by simp [execOp,ho,hc,asBool]) (hr.eval x) (h1 rfl)
 | false=>exact aM hr (u:=a.eval y) (by simp [execOp,ho,hc,asBool]) (hr.eval y) (h2 rfl)

omit [Laid] in
theorem JY {op : BinOp} {k : IntKind} {t : TypeId} {x y : Int} {K : AV → Prop} (hs : fy op = false) (h : mc op k x y K) : ∃ u,(binOp op t (.int k x) (.int k y)).run P w = .ok u w ∧ K (.v u):=by
 cases op <;> simp only [fy,Bool.true_eq_false] at hs <;> simp only [mc] at h
 case add=>exact ⟨_,by simp [binOp,Op.intArith],np h⟩
 case sub=>exact ⟨_,by simp [binOp,Op.intArith],np h⟩
 case mul=>exact ⟨_,by simp [binOp,Op.intArith],np h⟩
 case quo=>exact ⟨_,by simp [binOp,Op.intDiv,h.1],h.2⟩
 case rem=>exact ⟨_,by simp [binOp,Op.intDiv,h.1],h.2⟩
 case and=>exact ⟨_,by simp only [binOp,Op.intBits];rw [if_neg (by simp)];rfl,h⟩
 case or=>exact ⟨_,by simp only [binOp,Op.intBits];rw [if_neg (by simp)];rfl,h⟩
 case xor=>exact ⟨_,by simp only [binOp,Op.intBits];rw [if_neg (by simp)];rfl,h⟩
 case andNot=>exact ⟨_,by simp only [binOp,Op.intBits];rw [if_neg (by simp)];rfl,h⟩
 case eql=>exact ⟨_,by simp only [binOp,Op.intCmp];simp;rfl,h⟩
 case neq=>exact ⟨_,by simp only [binOp,Op.intCmp];simp;rfl,h⟩
 case lss=>exact ⟨_,by simp only [binOp,Op.intCmp];rw [if_neg (by simp)];rfl,h⟩
 case leq=>exact ⟨_,by simp only [binOp,Op.intCmp];rw [if_neg (by simp)];rfl,h⟩
 case gtr=>exact ⟨_,by simp only [binOp,Op.intCmp];rw [if_neg (by simp)];rfl,h⟩
 case geq=>exact ⟨_,by simp only [binOp,Op.intCmp];rw [if_neg (by simp)];rfl,h⟩

omit [Laid] in
theorem Fp {op : BinOp} {k k' : IntKind} {t : TypeId} {x y : Int} {K : AV → Prop} (hs : fy op = true) (h : kX op k x y K) : ∃ u,(binOp op t (.int k x) (.int k' y)).run P w = .ok u w ∧ K (.v u):=by
 obtain ⟨h0,h⟩:=h
 have h0' : ¬ y < 0:=by omega
 cases op <;> simp only [fy,Bool.false_eq_true] at hs <;> simp only at h
 case shl=>exact ⟨_,by simp [binOp,Op.shift,h0'],h⟩
 case shr=>exact ⟨_,by simp [binOp,Op.shift,h0'],h⟩

omit [Laid] in
theorem JZ {op : BinOp} {t : TypeId} {x y : List UInt8} {K : AV → Prop} (hx : x.length ≤ maxLen) (hy : y.length ≤ maxLen) (h : nk op x y K) :
 ∃ v u,(binOp op t (.string ⟨x.toArray⟩) (.string ⟨y.toArray⟩)).run P w = .ok u w ∧ (∀ ι S,Rep ι S w v u) ∧ K v:=by
 have dec : ∀ a b : List UInt8,(a == b) = decide (a = b):=fun a b=>by by_cases q : a = b <;> simp [q]
 cases op <;> simp only [nk] at h
 case add =>
  refine ⟨_,.string ⟨(x ++ y).toArray⟩, ?_,fun ι S=>by simpa using h.1,h.2⟩
  have h1:=h.1
  unfold maxLen at h1
  have e1 : (⟨x.toArray⟩ : ByteArray).size = x.length:=rfl
  have e2 : (⟨y.toArray⟩ : ByteArray).size = y.length:=rfl
  have e3 : (⟨x.toArray⟩ ++ ⟨y.toArray⟩ : ByteArray) = ⟨(x ++ y).toArray⟩:=by
   apply ByteArray.ext;simp
  simp only [binOp_string_add,Op.stringOp,e1,e2,e3]
  rw [if_neg (by simp only [IntKind.max,IntKind.signed,IntKind.bits];simp;omega)]
  rfl
 case eql=>exact ⟨_,_,by simp [binOp,Op.stringOp];rfl,fun ι S=>by simp [dec],h⟩
 case neq=>exact ⟨_,_,by simp [binOp,Op.stringOp];rfl,fun ι S=>by simp [dec],h⟩
 case lss=>exact ⟨_,_,by simp [binOp,Op.stringOp];rfl,fun ι S=>by simp,h⟩
 case leq=>exact ⟨_,_,by simp [binOp,Op.stringOp];rfl,fun ι S=>by simp [dec],h⟩
 case gtr=>exact ⟨_,_,by simp [binOp,Op.stringOp];rfl,fun ι S=>by simp [dec],h⟩
 case geq=>exact ⟨_,_,by simp [binOp,Op.stringOp];rfl,fun ι S=>by simp,h⟩

omit [Laid] in
theorem eT {op : BinOp} {t : TypeId} {x y : Operand} {p q : Value} (h : p.oneCell' = true) (h' : p ≠ .nilIface) : (eqGuard op t x y p q).run P w = .ok () w:=by
 unfold eqGuard
 cases op <;> (try rfl) <;> cases p <;> first|rfl|(exact absurd rfl h')|cases h

theorem Ic {op : BinOp} {t yt : TypeId} {x y : Operand} (hr : ROK base ι S a w st) (ho : o.op = .binOp op t x y yt)
 (h : af op (ae st.fr x) (ae st.fr y) fun v=>K v st.h) : bk P o base ι S a w st K:=by
 have hx:=hr.eval x
 have hy:=hr.eval y
 generalize ae st.fr x = X at *
 generalize ae st.fr y = Y at *
 unfold af at h
 split at h
 ·rename_i k p k' q
  simp only [bL] at hx hy
  have hg : (eqGuard op t x y (a.eval x) (a.eval y)).run P w = .ok () w:=eT (by rw [hx];rfl) (by rw [hx];intro e;cases e)
  split at h
  ·rename_i hs
   obtain ⟨u,e,k1⟩:=Fp (P:=P) (w:=w) (t:=t) (k':=k') hs h
   exact aM hr (u:=u) (by simp only [execOp,ho];exact cV (by rw [Sem.run_bind,hg];simpa [hx,hy] using e)) (by simp) k1
  ·rename_i hs
   obtain ⟨rfl,h⟩:=h
   obtain ⟨u,e,k1⟩:=JY (P:=P) (w:=w) (t:=t) (by simpa using hs) h
   exact aM hr (u:=u) (by simp only [execOp,ho];exact cV (by rw [Sem.run_bind,hg];simpa [hx,hy] using e)) (by simp) k1
 ·rename_i p q
  simp only [dk] at hx hy
  have hg : (eqGuard op t x y (a.eval x) (a.eval y)).run P w = .ok () w:=eT (by rw [hx.1];rfl) (by rw [hx.1];intro e;cases e)
  obtain ⟨v,u,e,r,k1⟩:=JZ (P:=P) (w:=w) (t:=t) hx.2 hy.2 h
  exact aM hr (u:=u) (by simp only [execOp,ho];exact cV (by rw [Sem.run_bind,hg];simpa [hx.1,hy.1] using e)) (r ι S) k1
 ·exact h.elim

theorem L3 {op : BinOp} {t yt : TypeId} {x y : Operand} (hr : ROK base ι S a w st) (ho : o.op = .binOp op t x y yt) (ht : P.underlying t = some .bool)
 (h : lS op (ae st.fr x) (ae st.fr y) fun v=>K v st.h) : bk P o base ι S a w st K:=by
 have hx:=hr.eval x
 have hy:=hr.eval y
 generalize ae st.fr x = X at *
 generalize ae st.fr y = Y at *
 unfold lS at h
 split at h
 ·rename_i p q
  simp only [bL] at hx hy
  have hg : (eqGuard op t x y (a.eval x) (a.eval y)).run P w = .ok () w:=eT (by rw [hx];rfl) (by rw [hx];intro e;cases e)
  split at h
  ·exact aM hr (u:=.bool (p == q)) (by simp only [execOp,ho];exact cV (by rw [Sem.run_bind,hg];simpa [hx,hy] using run_eql_bool w t p q ht)) (by simp) h
  ·exact aM hr (u:=.bool (!(p == q))) (by simp only [execOp,ho];exact cV (by rw [Sem.run_bind,hg];simpa [hx,hy] using run_neq_bool w t p q ht)) (by simp) h
  ·exact h.elim
 ·exact h.elim

theorem Nz {t : TypeId} {x : Operand} (hr : ROK base ι S a w st) (ho : o.op = .unOp .not t x) (h : dT (ae st.fr x) fun v=>K v st.h) : bk P o base ι S a w st K:=by
 obtain ⟨b,e,h⟩:=h
 have hx:=hr.eval x
 rw [e] at hx;simp only [bL] at hx
 exact aM hr (u:=.bool (!b)) (by simp [execOp,ho,hx,Op.unary]) (by simp) h
theorem Nx {t : TypeId} {x : Operand} (hr : ROK base ι S a w st) (ho : o.op = .unOp .neg t x) (h : oK (ae st.fr x) fun v=>K v st.h) : bk P o base ι S a w st K:=by
 obtain ⟨k,n,e,h⟩:=h
 have hx:=hr.eval x
 rw [e] at hx;simp only [bL] at hx
 exact aM hr (u:=.int k (k.wrap (0 - n))) (by simp [execOp,ho,hx,Op.unary,Op.intArith]) (by simp) (np h)
theorem Np {t : TypeId} {x : Operand} {k : IntKind} (hr : ROK base ι S a w st) (ho : o.op = .unOp .xor t x) (h : af .xor (.v (.int k (sH k))) (ae st.fr x) fun v=>K v st.h) : bk P o base ι S a w st K:=by
 have hx:=hr.eval x
 generalize ae st.fr x = X at *
 unfold af at h
 split at h
 ·rename_i k1 p k2 q e1
  cases e1
  simp only [bL] at hx
  simp only [fy,Bool.false_eq_true,if_false] at h
  obtain ⟨rfl,h⟩:=h
  simp only [mc] at h
  exact aM hr (u:=.int k (eK .xor k (sH k) q)) (by simp only [execOp,ho];exact cV (by
   have e2 : Op.unary .xor (.int k q) = Op.intBits .xor k (sH k) q:=rfl
   rw [hx,e2];simp only [Op.intBits];rfl)) (by simp) h
 ·rename_i e1;cases e1
 ·exact h.elim
theorem L6 {s d : TypeId} {x : Operand} {k k' : IntKind} (hr : ROK base ι S a w st) (ho : o.op = .convert s d x) (hs : P.underlying s = some (.int k')) (hd : P.underlying d = some (.int k))
 (h : lU k (ae st.fr x) fun v=>K v st.h) : bk P o base ι S a w st K:=by
 obtain ⟨k',n,e,h⟩:=h
 have hx:=hr.eval x
 rw [e] at hx;simp only [bL] at hx
 exact aM hr (u:=.int k (k.wrap n)) (by simp [execOp,ho,hx,convert,run_underlying hs,run_underlying hd,Conv.intToInt]) (by simp) h
theorem Ka {s d : TypeId} {x : Operand} (hr : ROK base ι S a w st) (ho : o.op = .convert s d x) (hs : P.underlying s = some .string) (hd : P.underlying d = some .string)
 (h : ∃ l,ae st.fr x = .str l ∧ K (ae st.fr x) st.h) : bk P o base ι S a w st K:=by
 obtain ⟨l,e,h⟩:=h
 have hx:=hr.eval x
 have hx':=hx
 rw [e] at hx;simp only [dk] at hx
 exact aM hr (u:=a.eval x) (by simp only [execOp,ho];exact cV (by simp [convert,run_underlying hs,run_underlying hd,hx.1])) hx' h
theorem L7 {x : Operand} {i : Nat} (hr : ROK base ι S a w st) (ho : o.op = .extract x i) (h : bh i (ae st.fr x) fun v=>K v st.h) : bk P o base ι S a w st K:=by
 have hx:=hr.eval x
 unfold bh at h
 split at h
 ·rename_i cs e
  rw [e,Rep] at hx
  obtain ⟨vs,e1,r⟩:=hx
  split at h
  ·rename_i c ec
   obtain ⟨v,ev,rv⟩:=r.get i c ec
   exact aM hr (u:=v) (by simp only [execOp,ho,e1];exact cV (by simp [Instr.extract,ev])) rv h
  ·exact h.elim
 ·exact h.elim

omit [Laid] in
theorem xw {t : TypeId} {cs : List AV} {vs : List Value} {off : Nat} {K : AV → Prop} (ht : tOk P t = true) (r : au ι S w cs vs) (h : ldP (cW P t) (P.cellsOf t) (cs.drop off) K) :
 ∃ v u,(part t vs.toArray off).run P w = .ok u w ∧ Rep ι S w v u ∧ K v:=by
 unfold part
 simp only [Sem.run_bind,nD ht,Result.andThen_ok]
 unfold ldP at h
 split at h
 ·rename_i hg
  rw [hg]
  simp only [if_true,Sem.run_bind,cn ht,Result.andThen_ok,Sem.run_pure]
  refine ⟨_,_,rfl, ?_,h.2⟩
  rw [Rep]
  refine ⟨(vs.drop off).take (P.cellsOf t), ?_,(r.drop off).take _⟩
  simp [List.extract_eq_take_drop,Nat.add_sub_cancel_left]
 ·rename_i hg
  rw [hg]
  simp only [Bool.false_eq_true,if_false]
  split at h
  ·rename_i c rest e
   have ec : cs[off]? = some c:=by
    have:=congrArg (fun l=>l[0]?) e
    simpa using this
   obtain ⟨v,ev,rv⟩:=r.get off c ec
   exact ⟨c,v,by simp [ev],rv,h⟩
  ·exact h.elim

theorem Kb {t : TypeId} {x : Operand} {i : Nat} {fs : Array Field} {f : Field} (hr : ROK base ι S a w st) (ho : o.op = .field t x i) (ht : P.underlying t = some (.struct fs)) (hf : fs[i]? = some f) (hk : tOk P f.type = true)
 (h : oJ (cW P f.type) f.offset (P.cellsOf f.type) (ae st.fr x) fun v=>K v st.h) : bk P o base ι S a w st K:=by
 have hx:=hr.eval x
 unfold oJ at h
 split at h
 ·rename_i cs e
  rw [e,Rep] at hx
  obtain ⟨vs,e1,r⟩:=hx
  obtain ⟨v,u,hrun,rv,k⟩:=xw (P:=P) hk r h
  exact aM hr (u:=u) (by simp only [execOp,ho,e1];exact cV (by simp [Instr.field,run_underlying ht,hf,asAgg,hrun])) rv k
 ·exact h.elim

theorem Mc {t : TypeId} {x i : Operand} (hr : ROK base ι S a w st) (ho : o.op = .index t x i) (ht : P.underlying t = some .string) (h : iA (ae st.fr x) (ae st.fr i) fun v=>K v st.h) : bk P o base ι S a w st K:=by
 have hx:=hr.eval x
 have hi:=hr.eval i
 unfold iA at h
 split at h
 ·rename_i l k n e1 e2
  rw [e1] at hx;rw [e2] at hi
  simp only [dk,bL] at hx hi
  obtain ⟨⟨h0,h1⟩,h⟩:=h
  have hn : n.toNat < l.length:=by omega
  refine aM hr (u:=.int .u8 (l.getD n.toNat 0).toNat) (by
   simp only [execOp,ho,hx.1,hi]
   refine cV ?_
   have q : (⟨l.toArray⟩ : ByteArray)[n.toNat]? = some (l.getD n.toNat 0):=by
    rw [ByteArray.getElem?_lt' _ _ (show n.toNat < (⟨l.toArray⟩ : ByteArray).size from hn)]
    show some (l.toArray[n.toNat]) = _
    simp [List.getD_eq_getElem?_getD,hn]
   simp only [Instr.index,Sem.run_bind,asIntOf,Sem.run_pure,Result.andThen_ok,run_underlying ht,if_pos h0,q]) (by simp) h
 ·exact h.elim
end
end Go.Aw
end

section
namespace Go.Aw
open Go Go.RowKit
variable [Laid]

section
variable {P : Program} {o : Oper} {base : Nat} {ι : List Ix} {S : aJ} {a : Act} {w : World} {st : St} {K : AV → aa → Prop}

theorem L9 {t e : TypeId} {n : Nat} {x i : Operand} (hr : ROK base ι S a w st) (ho : o.op = .index t x i) (ht : P.underlying t = some (.array n e)) (hk : tOk P e = true)
 (h : lV (cW P e) (P.cellsOf e) n (ae st.fr x) (ae st.fr i) fun v=>K v st.h) : bk P o base ι S a w st K:=by
 have hx:=hr.eval x
 have hi:=hr.eval i
 unfold lV at h
 split at h
 ·rename_i cs k j e1 e2
  rw [e1,Rep] at hx
  rw [e2,bL] at hi
  obtain ⟨vs,ev,r⟩:=hx
  obtain ⟨⟨h0,h1⟩,h⟩:=h
  obtain ⟨v,u,hrun,rv,kk⟩:=xw (P:=P) (w:=w) hk r h
  refine aM hr (u:=u) (by
   simp only [execOp,ho,ev,hi]
   exact cV (by simp only [Instr.index,Sem.run_bind,asIntOf,Sem.run_pure,Result.andThen_ok,run_underlying ht];rw [if_pos ⟨h0,h1⟩];simp only [Sem.run_bind,cn hk,Result.andThen_ok];exact hrun)) rv kk
 ·exact h.elim

theorem oV {fr : Fr} (hE : ∀ x,Rep ι S w (ae fr x) (a.eval x)) {x : Option Operand} {d n : Int} (h : cM (x.map (ae fr)) d = some n) : (x = none ∧ n = d) ∨ ∃ y k,x = some y ∧ a.eval y = .int k n:=by
 cases x with
 | none=>left;simp [cM] at h;exact ⟨rfl,h.symm⟩
 | some y =>
   right
   have hy:=hE y
   simp only [Option.map_some] at h
   cases he : ae fr y with
   | v z =>
     rw [he] at h hy
     cases z <;> simp only [cM,Option.some.injEq,reduceCtorEq] at h
     rename_i k q
     subst h
     rw [bL] at hy
     exact ⟨y,k,rfl,hy⟩
   | _=>rw [he] at h;simp [cM] at h

theorem ky {isl : Bool} {len cap : Nat} {lo hi : Option Operand} {p q : Int} {fr : Fr} (hE : ∀ x,Rep ι S w (ae fr x) (a.eval x)) (h1 : cM (lo.map (ae fr)) 0 = some p) (h2 : cM (hi.map (ae fr)) len = some q)
 (hp : 0 ≤ p) (hpq : p ≤ q) (hq : q ≤ cap) : (Instr.sliceBounds isl len cap (lo.map a.eval) (hi.map a.eval) none).run P w = .ok (p.toNat,q.toNat,cap) w:=by
 have bound : ∀ (k : IntKind) (n : Int) (y : Nat) (c : BoundsCode),0 ≤ n → n ≤ y → (Instr.sliceBound (.int k n) y c).run P w = .ok n.toNat w:=fun k n y c g1 g2=>run_sliceBound w k n y c g1 g2
 unfold Instr.sliceBounds
 rcases oV hE h1 with ⟨rfl,rfl⟩|⟨yl,kl,rfl,el⟩ <;> rcases oV hE h2 with ⟨rfl,rfl⟩|⟨yh,kh,rfl,eh⟩
 ·simp
 ·simp [eh,bound kh q cap _ (by omega) hq]
 ·simp [el,bound kl p len _ hp hpq]
 ·simp only [Option.map_some,Sem.run_bind,Sem.run_pure,Result.andThen_ok,eh,el]
  rw [bound kh q cap _ (by omega) hq]
  simp only [Result.andThen_ok]
  rw [bound kl p q.toNat _ hp (by omega)]
  rfl

theorem NC {t : TypeId} {x : Operand} {lo hi : Option Operand} (hr : ROK base ι S a w st) (ho : o.op = .slice t x lo hi none) (ht : P.underlying t = some .string)
 (h : kY (ae st.fr x) (lo.map (ae st.fr)) (hi.map (ae st.fr)) fun v=>K v st.h) : bk P o base ι S a w st K:=by
 have hx:=hr.eval x
 unfold kY at h
 split at h
 ·rename_i l e
  rw [e,dk] at hx
  split at h
  ·rename_i p q e1 e2
   obtain ⟨⟨g0,g1,g2⟩,h⟩:=h
   have hb:=ky (P:=P) (isl:=false) (len:=l.length) (cap:=l.length) hr.eval e1 e2 g0 g1 g2
   refine aM hr (u:=.string ⟨((l.take q.toNat).drop p.toNat).toArray⟩) ?_ ?_ h
   ·simp only [execOp,ho,hx.1,Option.map_none]
    refine cV ?_
    have hsz : (⟨l.toArray⟩ : ByteArray).size = l.length:=rfl
    simp only [Instr.sliceAt,Sem.run_bind,run_underlying ht,Result.andThen_ok,Instr.slice,Option.isSome_none,Bool.false_eq_true,if_false,hsz,hb,Sem.run_pure]
    congr 2
    apply ByteArray.ext
    simp [ByteArray.data_extract]
    rw [List.drop_take]
   ·simp only [dk]
    refine ⟨trivial, ?_⟩
    have:=hx.2
    simp;omega
  ·exact h.elim
 ·exact h.elim

theorem O7 {t e : TypeId} {x : Operand} {lo hi : Option Operand} (hr : ROK base ι S a w st) (ho : o.op = .slice t x lo hi none) (ht : P.underlying t = some (.slice e)) (hk : tOk P e = true)
 (h : iSl (P.cellsOf e) (ae st.fr x) (lo.map (ae st.fr)) (hi.map (ae st.fr)) fun v=>K v st.h) : bk P o base ι S a w st K:=by
 have hx:=(hr.eval x).eA
 have run : ∀ (b : Option Addr) (len cap : Nat) (p q : Int),a.eval x = .slice b len cap → cM (lo.map (ae st.fr)) 0 = some p → cM (hi.map (ae st.fr)) len = some q → 0 ≤ p → p ≤ q → q ≤ cap →
  (execOp a.eval o).run P w = .ok (.value (.slice (if cap = p.toNat then b else b.map (·.add (p.toNat * P.cellsOf e))) (q.toNat - p.toNat) (cap - p.toNat))) w:=by
  intro b len cap p q ex e1 e2 g0 g1 g2
  have hb:=ky (P:=P) (isl:=true) (len:=len) (cap:=cap) hr.eval e1 e2 g0 g1 g2
  simp only [execOp,ho,ex,Option.map_none]
  exact cV (by simp only [Instr.sliceAt,Sem.run_bind,run_underlying ht,Result.andThen_ok,Instr.slice,hb,cn hk,Sem.run_pure])
 unfold iSl at h
 split at h
 ·rename_i sz rows ex
  rw [ex,Rep] at hx
  obtain ⟨b,cap,ev,c1,c2,c3⟩:=hx
  split at h
  ·rename_i p q e1 e2
   obtain ⟨rfl,⟨g0,g1,g2⟩,h⟩:=h
   refine aM hr (run b _ cap p q ev e1 e2 g0 g1 (by omega)) ?_ h
   rw [Rep]
   have hl : ((rows.take q.toNat).drop p.toNat).length = q.toNat - p.toNat:=by simp;omega
   refine ⟨_,_,by rw [hl],by omega,by omega, ?_⟩
   by_cases hem : (rows.take q.toNat).drop p.toNat = []
   ·exact .inl hem
   ·right
    have hlen : 0 < q.toNat - p.toNat:=by rw [← hl];exact List.length_pos_iff.2 hem
    rcases c3 with c3|⟨bb,off,eb,rr⟩
    ·subst c3;simp at hem
    ·subst eb
     rw [if_neg (by omega)]
     refine ⟨bb,off + p.toNat * P.cellsOf e,by simp [dm],bA.mk fun i r er=>?_⟩
     have er' : rows[p.toNat + i]? = some r:=by
      rw [List.getElem?_drop] at er
      rw [List.getElem?_take] at er
      split at er <;> first|exact er|cases er
     have:=rr.get _ _ er'
     refine ⟨this.1, ?_⟩
     rw [Nat.add_assoc,← Nat.add_mul];exact this.2
  ·exact h.elim
 ·rename_i id off len sz ex
  rw [ex,Rep] at hx
  obtain ⟨bb,b,cap,n,ty,c1,ev,c2,c3,c4,c5,c6⟩:=hx
  split at h
  ·rename_i p q e1 e2
   obtain ⟨rfl,⟨g0,g1,g2⟩,h⟩:=h
   refine aM hr (run b _ cap p q ev e1 e2 g0 g1 (by omega)) ?_ h
   rw [Rep]
   have hmul : p.toNat * P.cellsOf e + (cap - p.toNat) * P.cellsOf e = cap * P.cellsOf e:=by rw [← Nat.add_mul];congr 1;omega
   refine ⟨bb,_,_,n,ty,c1,by congr 1;omega,by omega,by omega, ?_,c5,by omega⟩
   by_cases hz : cap - p.toNat = 0
   ·exact .inl hz
   ·right
    rcases c4 with c4|c4
    ·omega
    ·rw [if_neg (by omega),c4];simp [dm]
  ·exact h.elim
 ·rename_i ex
  rw [ex,Rep] at hx
  obtain ⟨b,ev⟩:=hx
  split at h
  ·rename_i p q e1 e2
   obtain ⟨⟨g0,g1⟩,h⟩:=h
   subst g0;subst g1
   refine aM hr (run b 0 0 0 0 ev e1 (by simpa using e2) (by omega) (by omega) (by omega)) ?_ h
   rw [Rep];exact ⟨_,rfl⟩
  ·exact h.elim
 ·exact h.elim

omit [Laid] in
theorem fM (sz : Nat) : ∀ (n : Nat) (cs : List AV),n * sz ≤ cs.length → (chunks sz n cs).flatten = cs.take (n * sz) ∧ ∀ r ∈ chunks sz n cs,r.length = sz
 | 0,_,_=>by simp [chunks]
 | n + 1,cs,h=>by
   rw [Nat.add_mul,Nat.one_mul] at h
   obtain ⟨h1,h2⟩:=fM sz n (cs.drop sz) (by simp;omega)
   refine ⟨?_,fun r hr=>?_⟩
   ·simp only [chunks,List.flatten_cons,h1]
    rw [Nat.add_mul,Nat.one_mul,Nat.add_comm,List.take_add]
   ·simp only [chunks,List.mem_cons] at hr
    rcases hr with rfl|hr
    ·simp;omega
    ·exact h2 r hr
omit [Laid] in
theorem fC (sz : Nat) : ∀ (n : Nat) (cs : List AV),(chunks sz n cs).length = n
 | 0,_=>rfl
 | n + 1,cs=>by simp [chunks,fC sz n]
omit [Laid] in
theorem gI {sz : Nat} : ∀ {rows : List (List AV)},(∀ r ∈ rows,r.length = sz) → rows.flatten.length = rows.length * sz
 | [],_=>by simp
 | r :: rs,h=>by
   have:=gI (rows:=rs) fun x hx=>h x (List.mem_cons_of_mem _ hx)
   simp only [List.flatten_cons,List.length_append,this,List.length_cons,Nat.add_mul,Nat.one_mul,h r (List.mem_cons_self ..)]
   omega
omit [Laid] in
theorem bA.of_flat {ι : List Ix} {S : aJ} {w : World} {sz : Nat} : ∀ {rows : List (List AV)} {b off : Nat},(∀ r ∈ rows,r.length = sz) → bn ι S w rows.flatten b off → bA ι S w sz rows b off
 | [],_,_,_,_=>by simp [bA]
 | r :: rs,b,off,h,k=>by
   rw [bA]
   have hr:=h r (List.mem_cons_self ..)
   refine ⟨hr,bn.mk fun i c e=>?_,bA.of_flat (fun x hx=>h x (List.mem_cons_of_mem _ hx)) ?_⟩
   ·refine k.get i c ?_
    rw [List.flatten_cons,List.getElem?_append_left (List.getElem?_eq_some_iff.1 e).1];exact e
   ·have:=k.drop sz
    rw [List.flatten_cons,List.drop_left' hr] at this
    exact this
theorem NB {t e : TypeId} {n : Nat} {x : Operand} {lo hi : Option Operand} (hr : ROK base ι S a w st) (ho : o.op = .slice t x lo hi none) (ht : P.underlying t = some (.array n e)) (hk : tOk P e = true)
 (h : oO n (P.cellsOf e) (ae st.fr x) (lo.map (ae st.fr)) (hi.map (ae st.fr)) st.h fun v=>K v st.h) : bk P o base ι S a w st K:=by
 have hx:=hr.eval x
 unfold oO at h
 split at h
 ·rename_i id off ex
  rw [ex,Rep] at hx
  obtain ⟨b,c1,ev⟩:=hx
  split at h
  ·rename_i p q blk e1 e2 eb
   obtain ⟨⟨hroom,g0,g1,g2,g3⟩,h⟩:=h
   have hb:=ky (P:=P) (isl:=false) (len:=n) (cap:=n) hr.eval e1 e2 g0 g1 g2
   obtain ⟨b',arr,fz,k1,k2,k3,k4,k5,k6,k7,k8,k9⟩:=hr.hp.live id blk eb
   rw [c1] at k1;cases k1
   refine aM hr (u:=.slice (some (if n = p.toNat then ⟨b,off,none⟩ else (⟨b,off,none⟩ : Addr).add (p.toNat * P.cellsOf e))) (q.toNat - p.toNat) (n - p.toNat)) ?_ ?_ h
   ·simp only [execOp,ho,ev,Option.map_none]
    exact cV (by simp only [Instr.sliceAt,Sem.run_bind,run_underlying ht,Result.andThen_ok,Instr.sureAddr,Sem.run_pure,hb,cn hk])
   ·rw [Rep]
    have hmul : p.toNat * P.cellsOf e + (n - p.toNat) * P.cellsOf e = n * P.cellsOf e:=by rw [← Nat.add_mul];congr 1;omega
    refine ⟨b,_,_,arr.size,blk.ty,c1,by congr 1;omega,by omega,by omega, ?_,by unfold World.shape?;rw [k3],by omega⟩
    by_cases hz : n - p.toNat = 0
    ·exact .inl hz
    ·right;rw [if_neg (by omega),dm]
  ·exact h.elim
 ·rename_i cs ex
  rw [ex,Rep] at hx
  obtain ⟨b,off,ev,rc⟩:=hx
  split at h
  ·rename_i p q e1 e2
   obtain ⟨⟨hroom,g0,g1,rfl,rfl⟩,h⟩:=h
   have hb:=ky (P:=P) (isl:=false) (len:=n) (cap:=n) hr.eval e1 e2 (Int.le_refl _) (by omega) (Int.le_refl _)
   have hz : ¬ n = (0 : Int).toNat:=by simp;omega
   refine aM hr (u:=.slice (some ((⟨b,off,none⟩ : Addr).add ((0 : Int).toNat * P.cellsOf e))) (((n : Int)).toNat - (0 : Int).toNat) (n - (0 : Int).toNat)) ?_ ?_ h
   ·simp only [execOp,ho,ev,Option.map_none]
    refine cV (by simp only [Instr.sliceAt,Sem.run_bind,run_underlying ht,Result.andThen_ok,Instr.sureAddr,Sem.run_pure,hb,cn hk];rw [if_neg hz])
   ·obtain ⟨f1,f2⟩:=fM (P.cellsOf e) n cs hroom
    have hl:=fC (P.cellsOf e) n cs
    rw [Rep]
    refine ⟨some ((⟨b,off,none⟩ : Addr).add ((0 : Int).toNat * P.cellsOf e)),n,by rw [hl];simp,by rw [hl];exact Nat.le_refl _,g1,.inr ⟨b,off,by rw [dm];simp, ?_⟩⟩
    refine bA.of_flat f2 (bn.mk fun i c hc=>rc.get i c ?_)
    rw [f1,List.getElem?_take] at hc
    split at hc
    ·exact hc
    ·cases hc
  ·exact h.elim
 ·exact h.elim

theorem Ma {t e : TypeId} {x i : Operand} (hr : ROK base ι S a w st) (ho : o.op = .indexAddr t x i) (ht : P.underlying t = some (.slice e)) (hk : tOk P e = true)
 (h : aO (P.cellsOf e) (ae st.fr x) (ae st.fr i) fun v=>K v st.h) : bk P o base ι S a w st K:=by
 have hx:=(hr.eval x).eA
 have hi:=hr.eval i
 have run : ∀ (b : Addr) (len cap : Nat) (k : IntKind) (j : Int),a.eval x = .slice (some b) len cap → a.eval i = .int k j → 0 ≤ j → j < len →
  (execOp a.eval o).run P w = .ok (.value (.pointer (some (b.add (j.toNat * P.cellsOf e))))) w:=by
  intro b len cap k j ex ei g0 g1
  simp only [execOp,ho,ex,ei]
  refine cV ?_
  simp only [Instr.indexAt,Sem.run_bind,asIntOf,Sem.run_pure,Result.andThen_ok,run_underlying ht]
  rw [if_pos ⟨g0,g1⟩]
  simp only [Sem.run_bind,cn hk,Result.andThen_ok,Sem.run_pure]
 unfold aO at h
 split at h
 ·rename_i sz rows k j e1 e2
  rw [e1,Rep] at hx
  rw [e2,bL] at hi
  obtain ⟨b,cap,ev,c1,c2,c3⟩:=hx
  obtain ⟨rfl,⟨g0,g1⟩,h⟩:=h
  have hj : j.toNat < rows.length:=by omega
  rcases c3 with c3|⟨bb,off,eb,rr⟩
  ·subst c3;simp at hj
  ·subst eb
   refine aM hr (run _ _ cap k j ev hi g0 g1) ?_ h
   have er : rows[j.toNat]? = some (rows.getD j.toNat []):=by simp [List.getD_eq_getElem?_getD,hj]
   rw [Rep]
   exact ⟨bb,off + j.toNat * P.cellsOf e,by rw [dm],(rr.get _ _ er).2⟩
 ·rename_i id off len sz k j e1 e2
  rw [e1,Rep] at hx
  rw [e2,bL] at hi
  obtain ⟨bb,b,cap,n,ty,c1,ev,c2,c3,c4,c5,c6⟩:=hx
  obtain ⟨rfl,⟨g0,g1⟩,h⟩:=h
  rcases c4 with c4|c4
  ·omega
  ·subst c4
   refine aM hr (run _ _ cap k j ev hi g0 g1) ?_ h
   rw [Rep];exact ⟨bb,c1,by rw [dm]⟩
 ·exact h.elim

theorem Mb {t e : TypeId} {n : Nat} {x i : Operand} (hr : ROK base ι S a w st) (ho : o.op = .indexAddr t x i) (ht : P.underlying t = some (.array n e)) (hk : tOk P e = true)
 (h : eP n (P.cellsOf e) (ae st.fr x) (ae st.fr i) fun v=>K v st.h) : bk P o base ι S a w st K:=by
 have hx:=hr.eval x
 have hi:=hr.eval i
 have run : ∀ (b : Addr) (k : IntKind) (j : Int),a.eval x = .pointer (some b) → a.eval i = .int k j → 0 ≤ j → j < n →
  (execOp a.eval o).run P w = .ok (.value (.pointer (some (b.add (j.toNat * P.cellsOf e))))) w:=by
  intro b k j ex ei g0 g1
  simp only [execOp,ho,ex,ei]
  refine cV ?_
  simp only [Instr.indexAt,Sem.run_bind,asIntOf,Sem.run_pure,Result.andThen_ok,run_underlying ht,Instr.sureAddr]
  rw [if_pos ⟨g0,g1⟩]
  simp only [Sem.run_bind,cn hk,Result.andThen_ok,Sem.run_pure]
 unfold eP at h
 split at h
 ·rename_i id off k j e1 e2
  rw [e1,Rep] at hx
  rw [e2,bL] at hi
  obtain ⟨b,c1,ev⟩:=hx
  obtain ⟨⟨g0,g1⟩,h⟩:=h
  refine aM hr (run _ k j ev hi g0 g1) ?_ h
  rw [Rep];exact ⟨b,c1,by rw [dm]⟩
 ·rename_i cs k j e1 e2
  rw [e1,Rep] at hx
  rw [e2,bL] at hi
  obtain ⟨b,off,ev,r⟩:=hx
  obtain ⟨⟨g0,g1⟩,h⟩:=h
  refine aM hr (run _ k j ev hi g0 g1) ?_ h
  rw [Rep];exact ⟨b,_,by rw [dm],r.drop _⟩
 ·exact h.elim

theorem Nr {t : TypeId} {x : Operand} {i : Nat} {fs : Array Field} {f : Field} (hr : ROK base ι S a w st) (ho : o.op = .fieldAddr t x i) (ht : P.underlying t = some (.struct fs)) (hf : fs[i]? = some f)
 (hz : P.cellsOf f.type ≠ 0) (hk : tOk P f.type = true) (h : ah f.offset (ae st.fr x) fun v=>K v st.h) : bk P o base ι S a w st K:=by
 have hx:=hr.eval x
 have run : ∀ (b : Addr),a.eval x = .pointer (some b) → (execOp a.eval o).run P w = .ok (.value (.pointer (some (b.add f.offset)))) w:=by
  intro b ex
  simp only [execOp,ho,ex]
  refine cV ?_
  simp only [Instr.fieldAt,Sem.run_bind,run_underlying ht,Result.andThen_ok,hf,Instr.sureAddr,Sem.run_pure,fieldPlace,cn hk,hz,if_false]
 unfold ah at h
 split at h
 ·rename_i cs e
  rw [e,Rep] at hx
  obtain ⟨b,off,ev,r⟩:=hx
  refine aM hr (run _ ev) ?_ h
  rw [Rep];exact ⟨b,_,by rw [dm],r.drop _⟩
 ·rename_i id off e
  rw [e,Rep] at hx
  obtain ⟨b,c1,ev⟩:=hx
  refine aM hr (run _ ev) ?_ h
  rw [Rep];exact ⟨b,c1,by rw [dm]⟩
 ·exact h.elim

theorem Ny {x : Operand} (hr : ROK base ι S a w st) (ho : o.op = .nilCheck x) (h : me (ae st.fr x) fun v=>K v st.h) : bk P o base ι S a w st K:=by
 have hx:=hr.eval x
 have hx':=hx
 unfold me at h
 split at h
 ·rename_i e
  rw [e,Rep] at hx
  obtain ⟨b,off,ev,r⟩:=hx
  exact aM hr (u:=a.eval x) (by simp [execOp,ho,ev]) hx' h
 ·rename_i e
  rw [e,Rep] at hx
  obtain ⟨b,c1,ev⟩:=hx
  exact aM hr (u:=a.eval x) (by simp [execOp,ho,ev]) hx' h
 ·rename_i e
  rw [e,Rep] at hx
  obtain ⟨vs,us,ev,_⟩:=hx
  exact aM hr (u:=a.eval x) (by simp [execOp,ho,ev]) hx' h
 ·exact h.elim

omit [Laid] in
theorem jk {t : TypeId} {cs : List AV} {vs : List Value} {b off : Nat} {K : AV → Prop} (hk : tOk P t = true) (r : au ι S w cs vs) (hc : ∀ (i : Nat) (v : Value),vs[i]? = some v → w.cell? ⟨b,off + i,none⟩ = some v)
 (h : ldP (cW P t) (P.cellsOf t) cs K) : ∃ v u,(loadVar t ⟨b,off,none⟩).run P w = .ok u w ∧ Rep ι S w v u ∧ K v:=by
 unfold loadVar
 simp only [Sem.run_bind,nD hk,Result.andThen_ok]
 unfold ldP at h
 split at h
 ·rename_i hg
  rw [hg]
  have hl:=r.length
  have hrun:=run_loadCells_list (P:=P) (w:=w) ⟨b,off,none⟩ (vs.take (P.cellsOf t)) (by
   intro j v e
   rw [dm]
   refine hc j v ?_
   rw [List.getElem?_take] at e
   split at e <;> first|exact e|cases e)
  have hlen : (vs.take (P.cellsOf t)).length = P.cellsOf t:=by simp;omega
  rw [hlen] at hrun
  refine ⟨_,.agg (vs.take (P.cellsOf t)).toArray, ?_, ?_,h.2⟩
  ·simp only [if_true,Sem.run_bind,cn hk,Result.andThen_ok,hrun,Sem.run_pure]
  ·rw [Rep];exact ⟨_,rfl,r.take _⟩
 ·rename_i hg
  rw [hg]
  simp only [Bool.false_eq_true,if_false]
  split at h
  ·rename_i c rest
   obtain ⟨v,ev,rv⟩:=r.get 0 c rfl
   have:=hc 0 v ev
   exact ⟨c,v,by simp only [run_load];rw [show (⟨b,off,none⟩ : Addr) = ⟨b,off + 0,none⟩ by rfl,this],rv,h⟩
  ·exact h.elim

theorem Me {t : TypeId} {x : Operand} (hr : ROK base ι S a w st) (ho : o.op = .load t x) (hk : tOk P t = true) (h : ab (cW P t) (P.cellsOf t) (ae st.fr x) st.h fun v=>K v st.h) : bk P o base ι S a w st K:=by
 have hx:=hr.eval x
 unfold ab at h
 split at h
 ·rename_i cs e
  rw [e,Rep] at hx
  obtain ⟨b,off,ev,r⟩:=hx
  obtain ⟨vs,rv,hc⟩:=r.az
  obtain ⟨v,u,hrun,rv,k⟩:=jk (P:=P) hk rv hc h
  exact aM hr (u:=u) (by simp only [execOp,ho,ev];exact cV (by simp only [Instr.loadAt,Instr.sureAddr,Sem.run_bind,Sem.run_pure,Result.andThen_ok,hrun])) rv k
 ·rename_i id off e
  rw [e,Rep] at hx
  obtain ⟨b,c1,ev⟩:=hx
  split at h
  ·rename_i blk eb
   obtain ⟨b',arr,fz,k1,k2,k3,k4,k5,k6,k7,k8,k9⟩:=hr.hp.live id blk eb
   rw [c1] at k1;cases k1
   have hcells : au ι S w blk.cells (arr.toList.take blk.cells.length):=by
    refine au.mk (by simp;omega) fun i c v e1 e2=>?_
    obtain ⟨v',e3,r⟩:=k6 i c e1
    rw [List.getElem?_take] at e2
    split at e2
    ·simp only [Array.getElem?_toList] at e2
     rw [e3] at e2;cases e2;exact r
    ·cases e2
   obtain ⟨v,u,hrun,rv,k⟩:=jk (P:=P) (b:=b) (off:=off) hk (hcells.drop off) (by
    intro i v e1
    rw [fx k3]
    rw [List.getElem?_drop,List.getElem?_take] at e1
    split at e1
    ·simpa using e1
    ·cases e1) h
   exact aM hr (u:=u) (by simp only [execOp,ho,ev];exact cV (by simp only [Instr.loadAt,Instr.sureAddr,Sem.run_bind,Sem.run_pure,Result.andThen_ok,hrun])) rv k
  ·exact h.elim
 ·exact h.elim

theorem Kd {t : TypeId} {x v : Operand} (hr : ROK base ι S a w st) (ho : o.op = .store t x v) (hk : tOk P t = true) (h : aN (P.cellsOf t) (ae st.fr x) (ae st.fr v) st.h fun h' => K (.v undef) h') : bk P o base ι S a w st K:=by
 have hx:=hr.eval x
 have hv:=hr.eval v
 unfold aN at h
 split at h
 ·rename_i id off e
  rw [e,Rep] at hx
  obtain ⟨b,c1,ev⟩:=hx
  split at h
  ·rename_i blk eb
   obtain ⟨⟨g1,g2,g3,g4⟩,h⟩:=h
   obtain ⟨vs,ecs,rv,one⟩:=mO hv g4
   obtain ⟨w',hrun,hE,hH⟩:=jA (P:=P) vs (bc (ae st.fr v)) w st.h hr.hp eb g1 c1 off 0 (by omega) rv one
   rw [Nat.add_zero] at hH
   refine sD hr (w':=w') ?_ hE hH (by simp) h
   simp only [execOp,ho,ev]
   refine LY ?_
   have hl:=rv.length
   simp only [Instr.storeAt,Instr.sureAddr,Sem.run_bind,Sem.run_pure,Result.andThen_ok,storeVar,cn hk,ecs]
   rw [if_neg (by simp;omega)]
   exact hrun
  ·exact h.elim
 ·exact h.elim

theorem Ig {t : TypeId} {x : AV} {u : Value} (hr : ROK base ι S a w st) (hrun : (execOp a.eval o).run P w = .ok (.value (.pointer (some ⟨w.heap.size,0,none⟩))) (w.alloc (.cells u.cells t))) (r : Rep ι S w x u)
 (h : bz t x st.h K) : bk P o base ι S a w st K:=by
 obtain ⟨g,h⟩:=h
 obtain ⟨vs,ecs,rv,one⟩:=mO r g
 have hH:=hr.hp.alloc t (bc x) vs rv (more:=[]) (fz:=(0,0)) (by intro o _ h;omega)
 rw [List.append_nil,← ecs] at hH
 refine cI hr hrun (Evo.alloc hr.hp.bas (fun b o=>hr.hp.stb b o) _ _) ?_ hH (by simp) h
 rw [Rep]
 exact ⟨w.heap.size,by rw [List.getElem?_append_right (by rw [hr.hp.len];exact Nat.le_refl _)];simp [hr.hp.len],rfl⟩

theorem Nn {t : TypeId} {x : Operand} (hr : ROK base ι S a w st) (ho : o.op = .box t x) (h : bz t (ae st.fr x) st.h K) : bk P o base ι S a w st K :=
 Ig hr (u:=a.eval x) (by simp only [execOp,ho];exact cV (by simp [Instr.box,newVar,newRow])) (hr.eval x) h
theorem J1 {t : TypeId} {z : AV} (hr : ROK base ι S a w st) (ho : o.op = .alloc t) (hz : cU P t = some z) (h : bz t z st.h K) : bk P o base ι S a w st K:=by
 unfold cU at hz
 cases hi : P.info? t with
 | none=>rw [hi] at hz;cases hz
 | some i =>
   rw [hi] at hz
   simp only [Option.bind_some,Option.map_eq_some_iff] at hz
   obtain ⟨u,hu,rfl⟩:=hz
   exact Ig hr (u:=u) (by simp only [execOp,ho];exact cV (by simp [Instr.alloc,zeroValue,gL hi,hu,newVar,newRow])) (jJ ι S w u) h

theorem L8 {f : Fn} {xs ys : Array Operand} (hr : ROK base ι S a w st) (ho : o.op = .makeFunc f xs ys) (h : K (.fn f (xs.toList.map (ae st.fr)) (ys.toList.map (ae st.fr))) st.h) : bk P o base ι S a w st K:=by
 refine aM hr (u:=.func f (xs.map a.eval) (ys.map a.eval)) (by simp [execOp,ho,Instr.makeFunc]) ?_ h
 rw [Rep]
 have key : ∀ l : List Operand,au ι S w (l.map (ae st.fr)) (l.map a.eval):=by
  intro l
  induction l with
  | nil=>simp
  | cons x l ih=>simpa using ⟨hr.eval x,ih⟩
 exact ⟨xs.toList.map a.eval,ys.toList.map a.eval,by congr 1 <;> (apply Array.ext';simp),key _,key _⟩

theorem au.vh (hr : ROK base ι S a w st) : ∀ l : List Operand,au ι S w (l.map (ae st.fr)) (l.map a.eval)
 | []=>by simp
 | x :: l=>by simpa using ⟨hr.eval x,au.vh hr l⟩

omit [Laid] in
theorem nf {c : Call} (ho : o.op = .call c) (hc : c.callee = .builtin .len) {n : Nat} (hb : (Builtin.len_ c.argTypes o.type (c.args.map a.eval)).run P w = .ok (.int .i64 n) w) : (execOp a.eval o).run P w = .ok (.value (.int .i64 n)) w:=by
 simp only [execOp,ho,resolve,hc,Sem.run_bind,Sem.run_pure,Result.andThen_ok,invoke,builtin,hb]

theorem Md {c : Call} {t : TypeId} {x : Operand} (hr : ROK base ι S a w st) (ho : o.op = .call c) (hc : c.callee = .builtin .len) (hat : c.argTypes[0]? = some t) (hax : c.args[0]? = some x)
 (ht : P.underlying t = some .string) (h : eS (ae st.fr x) fun v=>K v st.h) : bk P o base ι S a w st K:=by
 have hx:=hr.eval x
 have hax' : (c.args.map a.eval)[0]? = some (a.eval x):=by simp [hax]
 unfold eS at h
 split at h
 ·rename_i l e
  rw [e,dk] at hx
  refine aM hr (nf ho hc (n:=l.length) ?_) (by simp) (h hx.2)
  simp only [Builtin.len_,hat,hax',Sem.run_bind,run_underlying ht,Result.andThen_ok,hx.1,Sem.run_pure,goInt]
  rfl
 ·exact h.elim

theorem Nt {c : Call} {t et : TypeId} {x : Operand} (hr : ROK base ι S a w st) (ho : o.op = .call c) (hc : c.callee = .builtin .len) (hat : c.argTypes[0]? = some t) (hax : c.args[0]? = some x)
 (ht : P.underlying t = some (.slice et)) (h : bI (ae st.fr x) fun v=>K v st.h) : bk P o base ι S a w st K:=by
 have hx:=(hr.eval x).eA
 have hax' : (c.args.map a.eval)[0]? = some (a.eval x):=by simp [hax]
 unfold bI at h
 split at h
 ·rename_i sz rows e
  rw [e,Rep] at hx
  obtain ⟨b,cap,ev,c1,c2,c3⟩:=hx
  refine aM hr (nf ho hc (n:=rows.length) ?_) (by simp) (h (by omega))
  simp only [Builtin.len_,hat,hax',Sem.run_bind,run_underlying ht,Result.andThen_ok,ev,Sem.run_pure,goInt]
 ·rename_i id off len sz e
  rw [e,Rep] at hx
  obtain ⟨bb,b,cap,n,ty,c1,ev,c2,c3,c4,c5,c6⟩:=hx
  refine aM hr (nf ho hc (n:=len) ?_) (by simp) (h (by omega))
  simp only [Builtin.len_,hat,hax',Sem.run_bind,run_underlying ht,Result.andThen_ok,ev,Sem.run_pure,goInt]
 ·rename_i e
  rw [e,Rep] at hx
  obtain ⟨b,ev⟩:=hx
  refine aM hr (nf ho hc (n:=0) ?_) (by simp) h
  simp only [Builtin.len_,hat,hax',Sem.run_bind,run_underlying ht,Result.andThen_ok,ev,Sem.run_pure,goInt]
 ·exact h.elim

omit [Laid] in
theorem gW {c : Call} {b : Builtin} {s : Sem Value} {u : Value} {w' : World} (ho : o.op = .call c) (hc : c.callee = .builtin b)
 (hb : ∀ cs,builtin b c.argTypes o.type cs (c.args.map a.eval) = (do pure (.value (← s)))) (hs : s.run P w = .ok u w') : (execOp a.eval o).run P w = .ok (.value u) w':=by
 simp only [execOp,ho,resolve,hc,Sem.run_bind,Sem.run_pure,Result.andThen_ok,invoke,hb,hs]

theorem Nv {c : Call} {x y : Operand} (hr : ROK base ι S a w st) (ho : o.op = .call c) (hc : c.callee = .builtin .min) (hax : c.args.toList = [x,y])
 (h : jd (ae st.fr x) (ae st.fr y) fun v=>K v st.h) : bk P o base ι S a w st K:=by
 have hx:=hr.eval x
 have hy:=hr.eval y
 unfold jd at h
 split at h
 ·rename_i k p k' q e1 e2
  rw [e1,bL] at hx
  rw [e2,bL] at hy
  obtain ⟨rfl,h⟩:=h
  have hargs : c.args.map a.eval = #[.int k p,.int k q]:=by apply Array.ext';simp [hax,hx,hy]
  exact aM hr (gW ho hc (fun _=>rfl) (by rw [hargs];exact run_min_int2 w _ _ k k p q)) (by simp) h
 ·exact h.elim
theorem Nu {c : Call} {x y : Operand} (hr : ROK base ι S a w st) (ho : o.op = .call c) (hc : c.callee = .builtin .max) (hax : c.args.toList = [x,y])
 (h : fw (ae st.fr x) (ae st.fr y) fun v=>K v st.h) : bk P o base ι S a w st K:=by
 have hx:=hr.eval x
 have hy:=hr.eval y
 unfold fw at h
 split at h
 ·rename_i k p k' q e1 e2
  rw [e1,bL] at hx
  rw [e2,bL] at hy
  obtain ⟨rfl,h⟩:=h
  have hargs : c.args.map a.eval = #[.int k p,.int k q]:=by apply Array.ext';simp [hax,hx,hy]
  exact aM hr (gW ho hc (fun _=>rfl) (by rw [hargs];exact run_max_int2 w _ _ k k p q)) (by simp) h
 ·exact h.elim

theorem Mg {c : Call} {x y z : Operand} (hr : ROK base ι S a w st) (ho : o.op = .call c) (hc : c.callee = .builtin .max) (hax : c.args.toList = [x,y,z])
 (h : fw (ae st.fr x) (ae st.fr y) fun u=>fw u (ae st.fr z) fun v=>K v st.h) : bk P o base ι S a w st K:=by
 have hx:=hr.eval x
 have hy:=hr.eval y
 have hz:=hr.eval z
 unfold fw at h
 split at h
 ·rename_i k p k' q e1 e2
  rw [e1,bL] at hx
  rw [e2,bL] at hy
  obtain ⟨rfl,h⟩:=h
  split at h
  ·rename_i k1 p1 k2 q1 e3 e4
   cases e3
   rw [e4,bL] at hz
   obtain ⟨rfl,h⟩:=h
   have hargs : c.args.map a.eval = #[.int k p,.int k q,.int k q1]:=by apply Array.ext';simp [hax,hx,hy,hz]
   refine aM hr (gW ho hc (fun _=>rfl) (by rw [hargs];exact (show (Builtin.max_ c.argTypes o.type #[.int k p,.int k q,.int k q1]).run P w = .ok (.int k (if q1 > (if q > p then q else p) then q1 else (if q > p then q else p))) w by simp [Builtin.max_,Builtin.max2]))) (by simp) h
  ·exact h.elim
 ·exact h.elim

theorem L4 {c : Call} {x : Operand} {f : FuncId} {first cap : List AV} (hr : ROK base ι S a w st) (ho : o.op = .call c) (hc : c.callee = .value x) (hx : ae st.fr x = .fn (.func f) first cap)
 (hf : (P.funcs[f]?).any (fun fn=>fn.body.isSome && fn.name != "runtime.NumGoroutine") = true) (h : ct P f (first ++ c.args.toList.map (ae st.fr) ++ cap) st.h K) : bk P o base ι S a w st K:=by
 have hv:=hr.eval x
 rw [hx,Rep] at hv
 obtain ⟨vs,us,ev,r1,r2⟩:=hv
 obtain ⟨fn,hfn,hb⟩ : ∃ fn,P.funcs[f]? = some fn ∧ (fn.body.isSome && fn.name != "runtime.NumGoroutine") = true:=by
  cases hq : P.funcs[f]? with
  | none=>rw [hq] at hf;cases hf
  | some fn=>rw [hq] at hf;exact ⟨fn,rfl,hf⟩
 simp only [Bool.and_eq_true,bne_iff_ne,ne_eq] at hb
 have hargs : au ι S w (first ++ c.args.toList.map (ae st.fr) ++ cap) (vs ++ c.args.toList.map a.eval ++ us):=(r1.append (au.vh hr _)).append r2
 have hrun : (execOp a.eval o).run P w = .ok (.enter f (vs ++ c.args.toList.map a.eval ++ us).toArray) w:=by
  have e2 : (vs.toArray ++ c.args.map a.eval) ++ us.toArray = (vs ++ c.args.toList.map a.eval ++ us).toArray:=by apply Array.ext';simp
  have hne : (fn.name == "runtime.NumGoroutine") = false:=by simpa using hb.2
  have hbn : fn.body.isNone = false:=by cases hbb : fn.body <;> simp_all
  simp only [execOp,ho,resolve,hc,Sem.run_bind,ev,Deferred.ofValue,Sem.run_pure,Result.andThen_ok,invoke,e2,callFunc,run_program,hfn,hne,hbn,Bool.false_eq_true,if_false]
 intro Q
 unfold Oper.wp
 rw [hrun,Oper.upon_enter]
 refine (h base ι S w _ hargs hr.hp).mono ?_
 rintro e w' ⟨v,ι',S',r,h',rfl,hE,rv,hH,hl,k⟩
 refine ⟨ι',S',r,h', ?_, ?_,hl,k⟩
 ·rw [hr.hp.len];exact hE
 ·have : ROK base ι' S' a w' ⟨st.n,st.fr,h'⟩:=⟨hr.df,hr.sz,cp.evo hE (by rw [hr.hp.len];exact Nat.le_refl _) hr.fr,hH⟩
  exact this.put o.dst rv
end
end Go.Aw
end

section
namespace Go.Aw
open Go Go.RowKit
variable [Laid]

/-! ### Built values -/
omit [Laid] in
theorem Eu {ι : List Ix} {S : aJ} {w : World} : ∀ {cs : List AV} {us : List Value} (cells : List AV) (vs : List Value) (o : Nat),au ι S w cells vs → au ι S w cs us → o + cs.length ≤ cells.length →
 ∃ vs',(us.toArray.zipIdx.foldl (fun cs (c,j)=>cs.setIfInBounds (o + j) c) vs.toArray) = vs'.toArray ∧ au ι S w (cx cells o cs) vs':=by
 intro cs
 have key : ∀ (cs : List AV) (us : List Value) (cells : List AV) (vs : List Value) (o k : Nat),au ι S w cells vs → au ι S w cs us → o + k + cs.length ≤ cells.length →
  ∃ vs',((us.zipIdx k).foldl (fun (cs : Array Value) (c : Value × Nat)=>cs.setIfInBounds (o + c.2) c.1) vs.toArray) = vs'.toArray ∧ au ι S w (cx cells (o + k) cs) vs':=by
  intro cs
  induction cs with
  | nil=>intro us cells vs o k h1 h2 _;simp at h2;subst h2;exact ⟨vs,rfl,h1⟩
  | cons c cs ih =>
    intro us cells vs o k h1 h2 hl
    cases us with
    | nil=>simp at h2
    | cons u us =>
      simp only [bD] at h2
      simp only [List.length_cons] at hl
      simp only [List.zipIdx_cons,List.foldl_cons]
      have e : vs.toArray.setIfInBounds (o + k) u = (vs.set (o + k) u).toArray:=by simp
      rw [e]
      obtain ⟨vs',e1,e2⟩:=ih us (cells.set (o + k) c) (vs.set (o + k) u) o (k + 1) (h1.set _ _ _ h2.1) h2.2 (by simp;omega)
      exact ⟨vs',e1,e2⟩
 intro us cells vs o h1 h2 hl
 obtain ⟨vs',e1,e2⟩:=key cs us cells vs o 0 h1 h2 hl
 refine ⟨vs', ?_,e2⟩
 rw [← e1]
 simp [← Array.foldl_toList]

omit [Laid] in
theorem kT {ι : List Ix} {S : aJ} {w : World} (place : Nat → Option (Nat × Nat)) : ∀ (parts : List (Nat × AV × Value)) (cells : List AV) (vs : List Value) (r : List AV),au ι S w cells vs →
 (∀ p ∈ parts,Rep ι S w p.2.1 p.2.2 ∧ (place p.1).isSome) →
 dQ cells (parts.map fun p=>(((place p.1).getD (0,0)).1,((place p.1).getD (0,0)).2,p.2.1)) = some r →
 ∃ vs',Instr.fill place vs.toArray (parts.map fun p=>(p.1,p.2.2)) = some vs'.toArray ∧ au ι S w r vs'
 | [],cells,vs,r,h1,_,h=>by
   simp only [List.map_nil,dQ,Option.some.injEq] at h
   subst h;exact ⟨vs,rfl,h1⟩
 | (i,x,v) :: parts,cells,vs,r,h1,hp,h=>by
  obtain ⟨hx,hi⟩:=hp (i,x,v) (by simp)
  obtain ⟨⟨off,size⟩,hpl⟩:=Option.isSome_iff_exists.1 hi
  simp only [List.map_cons,dQ,hpl,Option.getD_some] at h
  split at h
  ·rename_i hc
   obtain ⟨c1,c2,c3⟩:=hc
   obtain ⟨us,e1,r1,one⟩:=mO hx c3
   dsimp only at c1 c3 e1 r1
   obtain ⟨vs',e2,r2⟩:=Eu cells vs off h1 r1 (by omega)
   obtain ⟨vs'',e3,r3⟩:=kT place parts _ vs' r r2 (fun p q=>hp p (by simp [q])) h
   refine ⟨vs'', ?_,r3⟩
   simp only [List.map_cons,Instr.fill,hpl,e1]
   have l1:=r1.length
   have l2:=h1.length
   have l3 : us.toArray.size = us.length:=by simp
   rw [if_neg (by simp;omega),e2];exact e3
  ·cases h

omit [Laid] in
theorem sK {P : Program} {w : World} (fs : List Field) (h : fs.all (fun f=>tOk P f.type) = true) :
 (fs.mapM (fun f=>(do pure (f.offset,← sizeOf f.type) : Sem (Nat × Nat)))).run P w = .ok (fs.map fun f=>(f.offset,P.cellsOf f.type)) w:=by
 induction fs with
 | nil=>rfl
 | cons f fs ih =>
   simp only [List.all_cons,Bool.and_eq_true] at h
   simp only [List.mapM_cons,Sem.run_bind,cn h.1,Result.andThen_ok,Sem.run_pure,ih h.2,List.map_cons]

omit [Laid] in
theorem Ea (x : Value) : bc (jc x) = [jc x]:=by
 unfold jc
 split
 ·split <;> rfl
 ·rfl
omit [Laid] in
theorem mw (z : Value) : ∃ vs : List Value,z.cells = vs.toArray ∧ ∀ ι S w,au ι S w (bc (fi z)) vs:=by
 have one : ∀ x : Value,∀ ι S w,au ι S w (bc (jc x)) [x]:=fun x ι S w=>by
  rw [Ea];simpa using mN ι S w x
 cases z
 case agg cs =>
  refine ⟨cs.toList,by simp [Value.cells],fun ι S w=>?_⟩
  have:=jJ ι S w (.agg cs)
  simp only [fi] at this ⊢
  rw [Rep] at this
  obtain ⟨vs,e,r⟩:=this
  simp only [Value.agg.injEq] at e
  subst e;simpa [bc] using r
 all_goals exact ⟨[_],rfl,fun ι S w=>by simp only [fi];exact one _ ι S w⟩

omit [Laid] in
theorem sY {P : Program} {t : TypeId} {z : AV} (h : cU P t = some z) : ∃ u,(∀ w,(zeroValue t).run P w = .ok u w) ∧ z = fi u:=by
 unfold cU at h
 cases hi : P.info? t with
 | none=>rw [hi] at h;cases h
 | some i =>
   rw [hi] at h
   simp only [Option.bind_some,Option.map_eq_some_iff] at h
   obtain ⟨u,hu,rfl⟩:=h
   exact ⟨u,fun w=>by simp [zeroValue,gL hi,hu],rfl⟩

section
variable {P : Program} {o : Oper} {base : Nat} {ι : List Ix} {S : aJ} {a : Act} {w : World} {st : St} {K : AV → aa → Prop}

theorem parts_eq (hr : ROK base ι S a w st) (place : Nat → Option (Nat × Nat)) (parts : Array (Nat × Operand)) :
 (∀ p ∈ (parts.toList.map fun p=>(p.1,ae st.fr p.2,a.eval p.2)),Rep ι S w p.2.1 p.2.2) ∧ (parts.map fun (i,x)=>(i,a.eval x)).toList = (parts.toList.map fun p=>(p.1,ae st.fr p.2,a.eval p.2)).map fun p=>(p.1,p.2.2):=by
 refine ⟨fun p hp=>?_,by simp⟩
 simp only [List.mem_map] at hp
 obtain ⟨q,_,rfl⟩:=hp
 exact hr.eval q.2

theorem Hz {t : TypeId} {parts : Array (Nat × Operand)} {fs : Array Field} {z : AV} (hr : ROK base ι S a w st) (ho : o.op = .build t parts) (ht : P.underlying t = some (.struct fs)) (hz : cU P t = some z)
 (hk : fs.toList.all (fun f=>tOk P f.type) = true) (hp : parts.toList.all (fun p=>(fs[p.1]?).isSome) = true)
 (h : bl z (parts.toList.map fun p=>(((fs[p.1]?).map (·.offset)).getD 0,((fs[p.1]?).map (fun f=>P.cellsOf f.type)).getD 0,ae st.fr p.2)) fun v=>K v st.h) : bk P o base ι S a w st K:=by
 obtain ⟨u,hu,rfl⟩:=sY hz
 obtain ⟨vs,ez,rz⟩:=mw u
 unfold bl at h
 split at h
 ·rename_i cs e
  let places : Array (Nat × Nat):=(fs.toList.map fun f=>(f.offset,P.cellsOf f.type)).toArray
  obtain ⟨q1,q2⟩:=parts_eq hr (places[·]?) parts
  have hpl : ∀ i : Nat,places[i]? = (fs[i]?).map fun f=>(f.offset,P.cellsOf f.type):=fun i=>by simp [places]
  obtain ⟨vs',e1,r1⟩:=kT (ι:=ι) (S:=S) (w:=w) (places[·]?) (parts.toList.map fun p=>(p.1,ae st.fr p.2,a.eval p.2)) (bc (fi u)) vs cs (rz ι S w) (fun p hpm=>⟨q1 p hpm,by
   simp only [List.mem_map] at hpm
   obtain ⟨q,hq,rfl⟩:=hpm
   have:=List.all_eq_true.1 hp q hq
   rw [hpl];simpa using this⟩) (by
   rw [← e,List.map_map]
   congr 1
   refine List.map_congr_left fun p hpm=>?_
   have:=List.all_eq_true.1 hp p hpm
   simp only [Function.comp,hpl]
   obtain ⟨f,hf⟩:=Option.isSome_iff_exists.1 this
   simp [hf])
  refine aM hr (u:=.agg vs'.toArray) ?_ (by rw [Rep];exact ⟨vs',rfl,r1⟩) h
  simp only [execOp,ho]
  refine cV ?_
  have hm : (fs.mapM (fun f=>(do pure (f.offset,← sizeOf f.type) : Sem (Nat × Nat)))).run P w = .ok places w:=by
   rw [← Array.toArray_toList (xs:=fs)]
   have:=sK (P:=P) (w:=w) fs.toList hk
   rw [List.mapM_toArray]
   simp only [Sem.run_map,this,Result.andThen_ok,places]
  simp only [Instr.build,Sem.run_bind,hu,Result.andThen_ok,run_underlying ht,hm,ez,q2,e1,Sem.run_pure]
 ·exact h.elim

theorem Hy {t e : TypeId} {n : Nat} {parts : Array (Nat × Operand)} {z : AV} (hr : ROK base ι S a w st) (ho : o.op = .build t parts) (ht : P.underlying t = some (.array n e)) (hz : cU P t = some z)
 (hk : tOk P e = true) (h : bl z (parts.toList.map fun p=>(p.1 * P.cellsOf e,P.cellsOf e,ae st.fr p.2)) fun v=>K v st.h) : bk P o base ι S a w st K:=by
 obtain ⟨u,hu,rfl⟩:=sY hz
 obtain ⟨vs,ez,rz⟩:=mw u
 unfold bl at h
 split at h
 ·rename_i cs e'
  obtain ⟨q1,q2⟩:=parts_eq hr (fun i=>some (i * P.cellsOf e,P.cellsOf e)) parts
  obtain ⟨vs',e1,r1⟩:=kT (ι:=ι) (S:=S) (w:=w) (fun i=>some (i * P.cellsOf e,P.cellsOf e)) (parts.toList.map fun p=>(p.1,ae st.fr p.2,a.eval p.2)) (bc (fi u)) vs cs (rz ι S w) (fun p hpm=>⟨q1 p hpm,rfl⟩) (by
   rw [← e',List.map_map];rfl)
  refine aM hr (u:=.agg vs'.toArray) ?_ (by rw [Rep];exact ⟨vs',rfl,r1⟩) h
  simp only [execOp,ho]
  refine cV ?_
  simp only [Instr.build,Sem.run_bind,hu,Result.andThen_ok,run_underlying ht,cn hk,ez,q2,e1,Sem.run_pure]
 ·exact h.elim
end

/-! ### Structs and arrays compared -/
omit [Laid] in
theorem na : ∀ {ks ks' : List Nat} {xs ys : List AV} {r : Bool},eqK (ks ++ ks') xs ys = some r →
 ∃ p q,eqK ks (xs.take ks.length) (ys.take ks.length) = some p ∧ eqK ks' (xs.drop ks.length) (ys.drop ks.length) = some q ∧ r = (p && q)
 | [],ks',xs,ys,r,h=>⟨true,r,rfl,by simpa using h,by simp⟩
 | k :: ks,ks',[],ys,r,h=>by simp [eqK] at h
 | k :: ks,ks',x :: xs,[],r,h=>by simp [eqK] at h
 | k :: ks,ks',x :: xs,y :: ys,r,h=>by
   simp only [List.cons_append,eqK] at h
   split at h
   ·rename_i p q e1 e2
    obtain ⟨p',q',e3,e4,e5⟩:=na e2
    simp only [Option.some.injEq] at h
    exact ⟨p && p',q',by simp [eqK,e1,e3],by simpa using e4,by rw [← h,e5,Bool.and_assoc]⟩
   ·cases h
omit [Laid] in
theorem gV : ∀ {ks : List Nat} {xs ys : List AV} {r : Bool},eqK ks xs ys = some r → xs.length = ks.length ∧ ys.length = ks.length
 | [],[],[],_,_=>⟨rfl,rfl⟩
 | [],x :: xs,_,_,h=>by simp [eqK] at h
 | [],[],y :: ys,_,h=>by simp [eqK] at h
 | k :: ks,[],_,_,h=>by simp [eqK] at h
 | k :: ks,x :: xs,[],_,h=>by simp [eqK] at h
 | k :: ks,x :: xs,y :: ys,r,h=>by
   simp only [eqK] at h
   split at h
   ·rename_i e1 e2
    have:=gV e2
    simp [this.1,this.2]
   ·cases h

def eJ (P : Program) (t : TypeId) (vs : List Value) : Value:=if cW P t then .agg vs.toArray else vs.headD undef

omit [Laid] in
theorem jQ {P : Program} {w : World} {t : TypeId} {vs : List Value} {off : Nat} (hk : tOk P t = true) (hl : off + P.cellsOf t ≤ vs.length) (h1 : cW P t = false → P.cellsOf t = 1) :
 (part t vs.toArray off).run P w = .ok (eJ P t ((vs.drop off).take (P.cellsOf t))) w:=by
 unfold part eJ
 simp only [Sem.run_bind,nD hk,Result.andThen_ok]
 cases hg : cW P t with
 | true =>
   simp only [if_true,Sem.run_bind,cn hk,Result.andThen_ok,Sem.run_pure]
   congr 2
   apply Array.ext'
   simp [List.extract_eq_take_drop,Nat.add_sub_cancel_left]
 | false =>
   have h1:=h1 hg
   simp only [Bool.false_eq_true,if_false]
   have hlt : off < vs.length:=by omega
   have e2 : vs.toArray[off]? = some vs[off]:=by simp [hlt]
   have e : (vs.drop off).take 1 = [vs[off]]:=by rw [List.drop_eq_getElem_cons hlt];rfl
   simp only [e2,h1,e];rfl

omit [Laid] in
theorem gX {P : Program} {d : Nat} {t : TypeId} {ks : List Nat} (h : gD P d t = some ks) : tOk P t = true ∧ (cW P t = false → ks.length = 1):=by
 cases d with
 | zero=>simp [gD] at h
 | succ d =>
   unfold gD at h
   split at h
   ·rename_i hk
    refine ⟨hk,fun hg=>?_⟩
    unfold cW at hg
    split at h <;> rename_i e <;> (try rw [e] at hg) <;> (try simp only [ld,Bool.true_eq_false] at hg) <;> (try (simp only [Option.some.injEq] at h;subst h;rfl)) <;> cases h
   ·cases h

omit [Laid] in
theorem uA {P : Program} {ι : List Ix} {S : aJ} {w : World} {g : TypeId → Option (List Nat)} {D : Nat} {xs ys : List AV} {vs us : List Value} (hx : au ι S w xs vs) (hy : au ι S w ys us)
 (ih : ∀ t ks,g t = some ks → tOk P t = true ∧ (cW P t = false → ks.length = 1) ∧ ∀ xs ys vs us r,au ι S w xs vs → au ι S w ys us → eqK ks xs ys = some r → (Op.equalIn D t (eJ P t vs) (eJ P t us)).run P w = .ok r w) :
 ∀ (fs : List Field) (o : Nat) (ks : List Nat) (r : Bool),mD g P o fs = some ks → eqK ks (xs.drop o) (ys.drop o) = some r → (Op.eqFields D vs.toArray us.toArray fs).run P w = .ok r w
 | [],o,ks,r,h,k=>by
   simp only [mD,Option.some.injEq] at h
   subst h
   have : r = true:=by
    cases hxs : xs.drop o <;> cases hys : ys.drop o <;> rw [hxs,hys] at k <;> simp [eqK] at k
    first|exact k|exact k.symm
   subst this;rfl
 | f :: fs,o,ks,r,h,k=>by
   simp only [mD] at h
   split at h
   ·rename_i hc
    obtain ⟨ho,hn⟩:=hc
    cases hg : g f.type with
    | none=>rw [hg] at h;cases h
    | some k1 =>
      rw [hg] at h
      simp only [Option.bind_some] at h
      split at h
      ·rename_i hz
       cases hf : mD g P (o + k1.length) fs with
       | none=>rw [hf] at h;cases h
       | some k2 =>
         rw [hf] at h
         simp only [Option.map_some,Option.some.injEq] at h
         subst h
         obtain ⟨p,q,e1,e2,e3⟩:=na k
         obtain ⟨t1,t2,t3⟩:=ih f.type k1 hg
         have l1:=(gV e1).1
         have l2:=(gV e1).2
         have lx:=hx.length
         have ly:=hy.length
         simp only [List.length_take,List.length_drop] at l1 l2
         obtain ⟨hz,hz0⟩:=hz
         have hpx : o + P.cellsOf f.type ≤ vs.length:=by omega
         have hpy : o + P.cellsOf f.type ≤ us.length:=by omega
         have h1 : cW P f.type = false → P.cellsOf f.type = 1:=fun q=>by rw [hz];exact t2 q
         have hq:=t3 _ _ _ _ p ((hx.drop o).take k1.length) ((hy.drop o).take k1.length) e1
         have rec':=uA hx hy ih fs (o + k1.length) k2 q hf (by simpa [List.drop_drop] using e2)
         simp only [Op.eqFields,ho]
         rw [if_pos hn]
         simp only [Sem.run_bind,jQ (P:=P) (w:=w) t1 hpx h1,jQ (P:=P) (w:=w) t1 hpy h1,Result.andThen_ok,hz,hq,Sem.run_ite]
         cases p with
         | true=>simp only [Bool.not_true,Bool.false_eq_true,if_false,rec'];rw [e3];rfl
         | false=>simp only [Bool.not_false,if_true,Sem.run_pure];rw [e3];rfl
      ·cases h
   ·cases h

omit [Laid] in
theorem Jo {ks : List Nat} : ∀ {n : Nat} {xs ys : List AV} {r : Bool},eqK (ua (n + 1) ks) xs ys = some r →
 ∃ p q,eqK ks (xs.take ks.length) (ys.take ks.length) = some p ∧ eqK (ua n ks) (xs.drop ks.length) (ys.drop ks.length) = some q ∧ r = (p && q):=fun h=>na h

omit [Laid] in
theorem wm {P : Program} {ι : List Ix} {S : aJ} {w : World} {D : Nat} {e : TypeId} {ks : List Nat} {xs ys : List AV} {vs us : List Value} (hx : au ι S w xs vs) (hy : au ι S w ys us)
 (hk : tOk P e = true) (h1 : cW P e = false → ks.length = 1) (hz : P.cellsOf e = ks.length) (hz0 : 0 < ks.length)
 (ih : ∀ xs ys vs us r,au ι S w xs vs → au ι S w ys us → eqK ks xs ys = some r → (Op.equalIn D e (eJ P e vs) (eJ P e us)).run P w = .ok r w) :
 ∀ (n s : Nat) (r : Bool),eqK (ua n ks) (xs.drop (s * ks.length)) (ys.drop (s * ks.length)) = some r →
  (forIn (m:=Sem) (List.range' s n) ((none,()) : Option Bool × Unit) (fun i _=>do
   let a ← part e vs.toArray (i * ks.length)
   let b ← part e us.toArray (i * ks.length)
   let r ← Op.equalIn D e a b
   if (!r) = true then pure (.done (some false,())) else pure (.yield (none,())))).run P w = .ok (if r then (none,()) else (some false,())) w
 | 0,s,r,h=>by
   have : r = true:=by
    cases hxs : xs.drop (s * ks.length) <;> cases hys : ys.drop (s * ks.length) <;> rw [hxs,hys] at h <;> simp [eqK,ua] at h
    first|exact h|exact h.symm
   subst this;rfl
 | n + 1,s,r,h=>by
   obtain ⟨p,q,e1,e2,e3⟩:=Jo h
   have l1:=(gV e1).1
   have l2:=(gV e1).2
   have lx:=hx.length
   have ly:=hy.length
   simp only [List.length_take,List.length_drop] at l1 l2
   have hpx : s * ks.length + P.cellsOf e ≤ vs.length:=by omega
   have hpy : s * ks.length + P.cellsOf e ≤ us.length:=by omega
   have h1' : cW P e = false → P.cellsOf e = 1:=fun q=>by rw [hz];exact h1 q
   have hq:=ih _ _ _ _ p ((hx.drop (s * ks.length)).take ks.length) ((hy.drop (s * ks.length)).take ks.length) e1
   have rec':=wm hx hy hk h1 hz hz0 ih n (s + 1) q (by rw [Nat.add_mul,Nat.one_mul];simpa [List.drop_drop] using e2)
   rw [List.range'_succ]
   simp only [List.forIn_cons,Sem.run_bind,jQ (P:=P) (w:=w) hk hpx h1',jQ (P:=P) (w:=w) hk hpy h1',Result.andThen_ok,hz,hq,Sem.run_ite]
   cases p with
   | true=>simp only [Bool.not_true,Bool.false_eq_true,if_false,Sem.run_pure,Result.andThen_ok,rec'];rw [e3];rfl
   | false=>simp only [Bool.not_false,if_true,Sem.run_pure,Result.andThen_ok];rw [e3];rfl

omit [Laid] in
theorem Ep {P : Program} {ι : List Ix} {S : aJ} {w : World} : ∀ (d : Nat) (t : TypeId) (ks : List Nat),gD P d t = some ks → ∀ (D : Nat),d ≤ D → ∀ (xs ys : List AV) (vs us : List Value) (r : Bool),au ι S w xs vs → au ι S w ys us →
 eqK ks xs ys = some r → (Op.equalIn D t (eJ P t vs) (eJ P t us)).run P w = .ok r w
 | 0,t,ks,h,_,_,_,_,_,_,_,_,_,_=>by simp [gD] at h
 | d + 1,t,ks,h,0,hD,_,_,_,_,_,_,_,_=>by omega
 | d + 1,t,ks,h,D + 1,hD,xs,ys,vs,us,r,hx,hy,hr=>by
   have ih:=fun t ks h=>Ep (P:=P) (ι:=ι) (S:=S) (w:=w) d t ks h D (by omega)
   obtain ⟨hok,hone⟩:=gX h
   unfold gD at h
   rw [if_pos hok] at h
   have scalar : ∀ k : Nat,ks = [k] → cW P t = false → ∃ x y u v,eqS k x y = some r ∧ Rep ι S w x u ∧ Rep ι S w y v ∧ eJ P t vs = u ∧ eJ P t us = v:=by
    intro k hks hg
    subst hks
    have l:=gV hr
    match xs,ys,vs,us,l,hx,hy,hr with
    | [x],[y],u :: vs',v :: us',_,hx,hy,hr =>
      simp only [bD] at hx hy
      simp only [eqK] at hr
      split at hr
      ·rename_i a b e1 e2
       simp only [Option.some.injEq] at hr e2
       subst e2
       simp only [Bool.and_true] at hr
       subst hr
       exact ⟨x,y,u,v,e1,hx.1,hy.1,by simp [eJ,hg],by simp [eJ,hg]⟩
      ·cases hr
    | [x],[y],[],_,_,hx,_,_=>simp at hx
    | [x],[y],_ :: _,[],_,_,hy,_=>simp at hy
   split at h
   ·rename_i e
    obtain ⟨x,y,u,v,e1,rx,ry,rfl,rfl⟩:=scalar 0 (by simpa using h.symm) (by simp [cW,e,ld])
    unfold eqS at e1
    split at e1 <;> first|(exfalso;omega)|skip
    ·simp only [bL] at rx ry
     simp only [Option.some.injEq] at e1
     rw [rx,ry,← e1]
     exact run_equalIn_bool' w D t _ _ e
    ·cases e1
   ·rename_i k e
    obtain ⟨x,y,u,v,e1,rx,ry,rfl,rfl⟩:=scalar 1 (by simpa using h.symm) (by simp [cW,e,ld])
    unfold eqS at e1
    split at e1 <;> first|(exfalso;omega)|skip
    ·simp only [bL] at rx ry
     split at e1
     ·rename_i hk
      subst hk
      simp only [Option.some.injEq] at e1
      rw [rx,ry,run_equalIn_int w D t _ k _ _ e,← e1]
      rfl
     ·cases e1
    ·cases e1
   ·rename_i e
    obtain ⟨x,y,u,v,e1,rx,ry,rfl,rfl⟩:=scalar 2 (by simpa using h.symm) (by simp [cW,e,ld])
    unfold eqS at e1
    split at e1 <;> first|(exfalso;omega)|skip
    ·rename_i _ _ p q _
     simp only [dk] at rx ry
     simp only [Option.some.injEq] at e1
     rw [rx.1,ry.1,run_equalIn_string w D t _ _ e,← e1]
     simp only [ByteArray.toList_mk]
     congr 1
     by_cases hpq : p = q <;> simp [hpq]
    ·cases e1
   ·rename_i fs e
    split at h
    ·cases h
    ·rename_i hsi
     have hg : cW P t = true:=by simp [cW,e,ld]
     have hf : P.fieldsOf t = fs:=by simp [Program.fieldsOf,e]
     simp only [eJ,hg,if_true]
     rw [run_equalIn_struct w D t _ _ (by rw [hf];exact e) (by simpa using hsi),hf]
     exact uA hx hy (fun t ks h=>⟨(gX h).1,(gX h).2,fun xs ys vs us r a b c=>ih t ks h xs ys vs us r a b c⟩) fs.toList 0 ks r h (by simpa using hr)
   ·rename_i n el e
    cases hf : gD P d el with
    | none=>rw [hf] at h;cases h
    | some k1 =>
      rw [hf] at h
      simp only [Option.bind_some] at h
      split at h
      ·rename_i hz
       simp only [Option.some.injEq] at h
       subst h
       have hg : cW P t = true:=by simp [cW,e,ld]
       simp only [eJ,hg,if_true]
       have key:=wm hx hy (gX hf).1 (gX hf).2 hz.1 hz.2 (fun xs ys vs us r a b c=>ih el k1 hf xs ys vs us r a b c) n 0 r (by simpa using hr)
       simp only [Op.equalIn,Sem.run_bind,run_underlying e,Result.andThen_ok,cn (gX hf).1,hz.1]
       have hfor : ∀ (f : Nat → Option Bool × Unit → Sem (ForInStep (Option Bool × Unit))),forIn (m:=Sem) [:n] ((none,()) : Option Bool × Unit) f = forIn (List.range' 0 n) ((none,()) : Option Bool × Unit) f:=fun f=>by
        simp [Std.Legacy.Range.forIn_eq_forIn_range',Std.Legacy.Range.size]
       rw [hfor,key]
       cases r <;> rfl
      ·cases h
   ·cases h
end Go.Aw
end

section
namespace Go.Aw
open Go Go.RowKit
variable [Laid]

theorem HOK.kill {base : Nat} {ι : List Ix} {S : aJ} {w : World} {h : aa} (hh : HOK base ι S w h) (id : Nat) : HOK base ι S w (h.set id .dead):=by
 have dead : ∀ {x},(h.set id .dead)[id]? = some x → x = .dead:=by
  intro x e
  by_cases hl : id < h.length
  ·rw [List.getElem?_set_self hl] at e;exact (Option.some.inj e).symm
  ·rw [List.getElem?_eq_none (by simpa using hl)] at e;cases e
 refine hh.nK (Evo.refl _ _ _ _ _) (by simp [hh.len]) id (fun i hi _=>⟨List.getElem?_set_ne (Ne.symm hi),rfl,fun _ _ _=>⟨rfl,fun _ q=>q⟩⟩) (fun x e=>?_) (fun e sz n q=>?_) (fun en q=>by rw [dead q];trivial) (fun j b _ aT _ _ _=>?_) hh.stb hh.bas
 ·cases dead e
 ·cases dead q
 ·cases e : (h.set id .dead)[id]? with
  | none=>rw [e] at aT;exact aT.elim
  | some x=>rw [e,dead e] at aT;exact aT.elim

omit [Laid] in
theorem Evo.grow {base : Nat} {ι : List Ix} {S : aJ} {w : World} (k : List Ix) : Evo ι.length base ι S w (ι ++ k) S w :=
 ⟨fun i hi=>dM.of_eq (List.getElem?_append_left hi),fun _ _ h=>h,fun _ _ h=>.inl h,fun _ _ _=>rfl,fun _ _ h=>h,Below.refl _ _⟩

theorem HOK.drew {base : Nat} {ι : List Ix} {S : aJ} {w : World} {h : aa} (hh : HOK base ι S w h) : Evo ι.length base ι S w ι S w.drew ∧ HOK base ι S w.drew h:=by
 have hE : Evo ι.length base ι S w ι S w.drew:=⟨fun _ _=>dM.refl _,fun _ _ h=>h,fun _ _ h=>.inl h,fun _ _ _=>rfl,fun _ _ h=>h,(Below.refl base w).drew⟩
 exact ⟨hE,hh.nK hE hh.len h.length (fun i _ _=>⟨rfl,rfl,fun _ _ _=>⟨rfl,fun _ q=>q⟩⟩) (fun x e=>by simp at e) (fun _ _ _ e=>by simp at e) (fun _ e=>by simp at e) (fun j b _ aT=>by simp [alive] at aT) hh.stb hh.bas⟩

omit [Laid] in
theorem iT {P : Program} {e : TypeId} (h : zok P e = true) : ∃ i z,P.info? e = some i ∧ i.zero = some z ∧ z.cells.size = i.size ∧ P.cellsOf e = i.size ∧ dA P e = i.bytes:=by
 unfold zok at h
 split at h
 ·rename_i i hi
  split at h
  ·rename_i z hz
   exact ⟨i,z,hi,hz,by simpa using h,by simp [Program.cellsOf,hi],by simp [dA,hi]⟩
  ·cases h
 ·cases h


omit [Laid] in
theorem bA.flat {ι : List Ix} {S : aJ} {w : World} {sz : Nat} : ∀ {rows : List (List AV)} {b off : Nat},bA ι S w sz rows b off → rows.flatten.length = rows.length * sz ∧ bn ι S w rows.flatten b off
 | [],b,off,_=>by simp [bn]
 | r :: rs,b,off,h=>by
   rw [bA] at h
   obtain ⟨h1,h2,h3⟩:=h
   obtain ⟨k1,k2⟩:=bA.flat h3
   refine ⟨by simp [h1,k1,Nat.add_mul,Nat.add_comm],bn.mk fun i c e=>?_⟩
   rw [List.flatten_cons] at e
   rcases Nat.lt_or_ge i r.length with q|q
   ·rw [List.getElem?_append_left q] at e;exact h2.get i c e
   ·rw [List.getElem?_append_right q] at e
    have:=k2.get _ c e
    rw [show off + sz + (i - r.length) = off + i by omega] at this
    exact this

omit [Laid] in
theorem oo {ι : List Ix} {S : aJ} {w : World} : ∀ {cs : List AV} {vs : List Value},au ι S w cs vs → cs.all cv = true → ∀ u ∈ vs,u.oneCell' = true
 | [],vs,h,_,u,hu=>by simp at h;subst h;cases hu
 | c :: cs,[],h,_,u,hu=>by simp at h
 | c :: cs,v :: vs,h,hs,u,hu=>by
   simp at h hs
   simp only [List.mem_cons] at hu
   rcases hu with rfl|hu
   ·exact nH hs.1 h.1
   ·exact oo h.2 (by simpa using hs.2) u hu


omit [Laid] in
theorem bn.xo {ι : List Ix} {S : aJ} {w : World} {b : Nat} {arr : Array Value} {t : TypeId} {fz : Nat × Nat} (h : w.heap[b]? = some (.cells arr t fz)) {cs : List AV} {vs : List Value} (r : au ι S w cs vs) {off : Nat}
 (ha : ∀ i v,vs[i]? = some v → arr[off + i]? = some v) (hs : ∀ i,i < vs.length → S b (off + i)) : bn ι S w cs b off :=
 bn.mk fun i c e=>by
  obtain ⟨v,e1,e2⟩:=r.get i c e
  exact ⟨v,by rw [fx h];exact ha i v e1,hs i (List.getElem?_eq_some_iff.1 e1).1,e2⟩

theorem xx {P : Program} {base : Nat} {ι : List Ix} {S : aJ} {w : World} {h : aa} (hh : HOK base ι S w h) {t tx ty e : TypeId} (ht : P.underlying t = some (.slice e)) (hz : zok P e = true)
 {v : Value} {rows : List (List AV)} {news : List Value} (hs : Src P (P.cellsOf e) tx v rows.length news w) (hn : au ι S w rows.flatten news) (hrl : ∀ r ∈ rows,r.length = P.cellsOf e)
 {a : Option Addr} {cap : Nat} {bse : List (List AV)} {olds : List Value} (hbl : ∀ r ∈ bse,r.length = P.cellsOf e) (hlt : cap < bse.length + rows.length) (ho : au ι S w bse.flatten olds)
 (hrd : (Builtin.firstCells (P.cellsOf e) bse.length (.slice a bse.length cap)).run P w.drew = .ok olds.toArray w.drew) (hm : bse.length + rows.length ≤ maxLen) (hby : (bse.length + rows.length) * dA P e ≤ 140737488355328) :
 ∃ u' w' arr S',(Builtin.append_ #[t,tx] ty #[.slice a bse.length cap,v]).run P w = .ok u' w' ∧ w'.heap = w.heap.push (.cells arr e) ∧ Evo ι.length base ι S w ι S' w' ∧
  (∃ cap',u' = .slice (some ⟨w.heap.size,0,none⟩) (bse.length + rows.length) cap' ∧ bse.length + rows.length ≤ cap' ∧ cap' ≤ maxLen ∧ cap' * P.cellsOf e ≤ arr.size) ∧
  (∀ b o,S' b o ↔ S b o ∨ (b = w.heap.size ∧ o < (bse.length + rows.length) * P.cellsOf e)) ∧ bA ι S' w' (P.cellsOf e) (bse ++ rows) w.heap.size 0:=by
 obtain ⟨i,z,hi,hzz,hzs,hce,hbe⟩:=iT hz
 rw [hbe] at hby
 rw [hce] at hs hrl hbl hrd ⊢
 have hnl:=hs.newsLen
 have hol : olds.length = bse.length * i.size:=by rw [← ho.length,gI hbl]
 have hrun:=run_append_grow_src (P:=P) w t tx ty e i z ht hi hzz a bse.length cap olds hrd v rows.length news hs hlt (by simp only [maxLen] at hm;omega) (growslice_fits hlt hby)
 have hge:=grownCap_ge w (bse.length + rows.length) cap e
 have hcm:=grownCap_le_maxLen w (bse.length + rows.length) cap e hm
 generalize hZ : Builtin.zeroCells z.cells (grownCap w (bse.length + rows.length) cap e - (bse.length + rows.length)) = Z at hrun
 have hZs : Z.size = (grownCap w (bse.length + rows.length) cap e - (bse.length + rows.length)) * i.size:=by rw [← hZ,size_zeroCells,hzs]
 let S' : aJ:=fun b o=>S b o ∨ (b = w.heap.size ∧ o < (bse.length + rows.length) * i.size)
 obtain ⟨hE1,hH1⟩:=hh.drew
 have hE2 : Evo ι.length base ι S w ι S' (w.drew.alloc (.cells ((olds ++ news).toArray ++ Z) e)) :=
  ⟨fun _ _=>dM.refl _,fun _ _ q=>.inl q,fun b o q=>q.elim .inl fun q=>.inr (by rw [q.1];exact hh.bas),fun b o q=>World.cell?_of_block (w:=w) (Below.heap_alloc w.drew _ b (hh.stb b o q)),
   fun b x q=>p5 (w:=w.drew) _ q,((Below.refl base w).drew).alloc hh.bas _⟩
 have hnew : (w.drew.alloc (.cells ((olds ++ news).toArray ++ Z) e)).heap[w.heap.size]? = some (.cells ((olds ++ news).toArray ++ Z) e):=by
  show (w.heap.push _)[w.heap.size]? = _
  simp
 refine ⟨_,_,(olds ++ news).toArray ++ Z,S',hrun,rfl,hE2,⟨_,rfl,hge,hcm, ?_⟩,fun _ _=>Iff.rfl, ?_⟩
 ·rw [Array.size_append,hZs,List.size_toArray,List.length_append,hol,hnl,← Nat.add_mul,← Nat.add_mul]
  exact Nat.mul_le_mul_right _ (by omega)
 ·refine bA.of_flat (fun r hr=>?_) ?_
  ·rcases List.mem_append.1 hr with q|q
   ·exact hbl r q
   ·exact hrl r q
  ·rw [List.flatten_append]
   have r1:=(au.evo hE2 (Nat.le_refl _) _ _ ho).append (au.evo hE2 (Nat.le_refl _) _ _ hn)
   refine bn.xo hnew r1 (fun j v q=>?_) (fun j hj=>?_)
   ·rw [Nat.zero_add,Array.getElem?_append_left (by simpa using (List.getElem?_eq_some_iff.1 q).1)]
    simpa using q
   ·right
    refine ⟨rfl, ?_⟩
    rw [List.length_append,hol,hnl,← Nat.add_mul] at hj
    omega

omit [Laid] in
theorem lP {P : Program} {ι : List Ix} {S : aJ} {w : World} {sz : Nat} {rows : List (List AV)} {a : Option Addr} {cap : Nat} (h : rows = [] ∨ ∃ b off,a = some ⟨b,off,none⟩ ∧ bA ι S w sz rows b off) :
 ∃ olds,au ι S w rows.flatten olds ∧ (Builtin.firstCells sz rows.length (.slice a rows.length cap)).run P w.drew = .ok olds.toArray w.drew:=by
 rcases h with rfl|⟨b,off,rfl,rr⟩
 ·refine ⟨[],by simp, ?_⟩
  cases a with
  | none=>exact run_firstCells_none w.drew sz 0 0 cap
  | some a=>exact run_firstCells_some w.drew sz 0 a 0 cap [] (by simp) (by simp)
 ·obtain ⟨k1,k2⟩:=rr.flat
  obtain ⟨vs,rv,hc⟩:=k2.az
  refine ⟨vs,rv,run_firstCells_some w.drew sz rows.length _ rows.length cap _ (by rw [← rv.length,k1]) fun j v q=>?_⟩
  rw [dm];exact hc j v q

section
variable {P : Program} {o : Oper} {base : Nat} {ι : List Ix} {S : aJ} {a : Act} {w : World} {st : St} {K : AV → aa → Prop}

omit [Laid] in
theorem xM {w : World} {n cap b c : Nat} (h : ui (.slice (some ⟨c,0,none⟩) n cap) b) : b = c:=by
 obtain ⟨a,l,cap',e,h1,h2⟩:=h
 cases e;exact h1.symm

omit [Laid] in
theorem gv : ∀ (vs : List Value) (w : World) (b o c : Nat),c ≠ b → (w.setCells b o vs).heap[c]? = w.heap[c]?
 | [],w,b,o,c,_=>rfl
 | v :: vs,w,b,o,c,h=>by
   rw [World.setCells,gv vs _ b (o + 1) c h]
   exact Below.heap_setCell w ⟨b,o,none⟩ v c h
omit [Laid] in
theorem mo : ∀ (vs : List Value) (w : World) (b o : Nat) {arr : Array Value} {t : TypeId} {fz : Nat × Nat},w.heap[b]? = some (.cells arr t fz) → o + vs.length ≤ arr.size →
 ∃ arr',(w.setCells b o vs).heap[b]? = some (.cells arr' t fz) ∧ arr'.size = arr.size ∧ (∀ i v,vs[i]? = some v → arr'[o + i]? = some v) ∧ ∀ i,(i < o ∨ o + vs.length ≤ i) → arr'[i]? = arr[i]?
 | [],w,b,o,arr,t,fz,h,_=>⟨arr,h,rfl,by simp,fun _ _=>rfl⟩
 | v :: vs,w,b,o,arr,t,fz,h,hl=>by
   simp only [List.length_cons] at hl
   obtain ⟨arr',k1,k2,k3,k4⟩:=mo vs (w.setCell ⟨b,o,none⟩ v) b (o + 1) (lR h o v) (by simp;omega)
   refine ⟨arr',k1,by simpa using k2,fun i u e=>?_,fun i hi=>?_⟩
   ·cases i with
    | zero =>
      simp only [List.getElem?_cons_zero,Option.some.injEq] at e
      subst e
      rw [Nat.add_zero,k4 o (.inl (by omega)),Array.getElem?_setIfInBounds]
      simp;omega
    | succ i =>
      have:=k3 i u (by simpa using e)
      rw [show o + (i + 1) = o + 1 + i by omega];exact this
   ·simp only [List.length_cons] at hi
    rw [k4 i (by omega),Array.getElem?_setIfInBounds_ne (by omega)]
omit [Laid] in
theorem jD {base : Nat} : ∀ (vs : List Value) (w : World) (b o : Nat),base ≤ b → Below base w (w.setCells b o vs)
 | [],w,b,o,_=>Below.refl _ _
 | v :: vs,w,b,o,h=>((Below.refl base w).setCell (p:=⟨b,o,none⟩) h v).trans (jD vs _ b (o + 1) h)
omit [Laid] in
theorem jE : ∀ (vs : List Value) (w : World) (b o c : Nat),(w.setCells b o vs).shape? c = w.shape? c
 | [],w,b,o,c=>rfl
 | v :: vs,w,b,o,c=>by rw [World.setCells,jE vs _ b (o + 1) c,nQ]
omit [Laid] in
theorem iC : ∀ (vs : List Value) (w : World) (b o : Nat),(w.setCells b o vs).heap.size = w.heap.size
 | [],w,b,o=>rfl
 | v :: vs,w,b,o=>by rw [World.setCells,iC vs _ b (o + 1)];simp [World.setCell]

theorem AG {t tx ty e : TypeId} {h : aa} (hh : HOK base ι S w h) (ht : P.underlying t = some (.slice e)) (hz : zok P e = true) {v u : Value} {rows bse : List (List AV)} {news : List Value} {id : Nat}
 (hs : Src P (P.cellsOf e) tx v rows.length news w) (hn : au ι S w rows.flatten news) (hrl : ∀ r ∈ rows,r.length = P.cellsOf e)
 (hu : Rep ι S w (.sb id (P.cellsOf e) bse) u) (hid : h[id]? = some (.tok e (P.cellsOf e) bse.length)) (hm : cT (dA P e) (bse.length + rows.length)) :
 ∃ u' w' ι' S',(Builtin.append_ #[t,tx] ty #[u,v]).run P w = .ok u' w' ∧ Evo ι.length base ι S w ι' S' w' ∧ Rep ι' S' w' (.sb id (P.cellsOf e) (bse ++ rows)) u' ∧ HOK base ι' S' w' (h.set id (.tok e (P.cellsOf e) (bse.length + rows.length))):=by
 have hlt : id < h.length:=(List.getElem?_eq_some_iff.1 hid).1
 have hlι : id < ι.length:=by rw [hh.len];exact hlt
 obtain ⟨v0,hv0,a,cap,rfl,hcap,hcm,hblk⟩:=hh.tok id _ _ _ hid
 rw [Rep] at hu
 obtain ⟨⟨a',cap',eu,hc1,hc2,hrows⟩,n',v',t1,t2,t3⟩:=hu
 rw [hv0] at t1;cases t1
 have eu':=t3 rfl
 rw [eu] at eu';cases eu'
 subst eu
 have hbl : ∀ r ∈ bse,r.length = P.cellsOf e:=by
  rcases hrows with rfl|⟨b,off,_,rr⟩
  ·simp
  ·intro r hr
   obtain ⟨j,hj⟩:=List.getElem?_of_mem hr
   exact (rr.get j r hj).1
 have hflat:=gI hrl
 have hnl : news.length = rows.length * P.cellsOf e:=by rw [← hn.length,hflat]
 -- what becomes of the place
 have close : ∀ {u' : Value} {w' : World} {S' : aJ},Evo ι.length base ι S w ι S' w' → (∃ a'' cap'',u' = .slice a'' (bse.length + rows.length) cap'' ∧ bse.length + rows.length ≤ cap'' ∧ cap'' ≤ maxLen ∧ (bse ++ rows = [] ∨ ∃ b off,a'' = some ⟨b,off,none⟩ ∧ bA ι S' w' (P.cellsOf e) (bse ++ rows) b off)) →
  (rows.length = 0 → u' = .slice a bse.length cap) → mQ base S' w' e (P.cellsOf e) (bse.length + rows.length) u' → (∀ b,b < w.heap.size → (∀ c,ui (.slice a bse.length cap) c → b ≠ c) → base ≤ b → w'.heap[b]? = w.heap[b]? ∧ ∀ o,S' b o → S b o) →
  (∀ b,ui u' b → ui (.slice a bse.length cap) b ∨ w.heap.size ≤ b) → (∀ b o,S' b o → b < w'.heap.size) →
  ∃ ι' S',Evo ι.length base ι S w ι' S' w' ∧ Rep ι' S' w' (.sb id (P.cellsOf e) (bse ++ rows)) u' ∧ HOK base ι' S' w' (h.set id (.tok e (P.cellsOf e) (bse.length + rows.length))):=by
  intro u' w' S' hE hrep hsame htok hother hnew hstb
  have hE' : Evo ι.length base ι S w (ι.set id (.tok (bse.length + rows.length) u')) S' w':=by
   refine ⟨fun i hi=>?_,hE.sub,hE.new,hE.cell,hE.shp,hE.bel⟩
   by_cases q : i = id
   ·subst q
    rw [List.getElem?_set_self hlι,hv0]
    refine ⟨_,_,rfl, ?_⟩
    by_cases z : rows.length = 0
    ·left;exact ⟨by omega,by rw [hsame z]⟩
    ·right;omega
   ·rw [List.getElem?_set_ne (Ne.symm q)];exact dM.refl _
  have hE2 : Evo ι.length base ι S' w' (ι.set id (.tok (bse.length + rows.length) u')) S' w':=⟨hE'.pre,fun _ _ q=>q,fun _ _ q=>.inl q,fun _ _ _=>rfl,fun _ _ q=>q,Below.refl _ _⟩
  refine ⟨_,S',hE', ?_,hh.nK hE' (by simp [hh.len]) id (fun i hi ha=>?_) (fun x q=>?_) (fun e' sz' n' q=>?_) (fun en q=>by rw [List.getElem?_set_self hlt] at q;cases q;trivial) (fun j b hj _ aj hb hb' => ?_) hstb (Nat.le_trans hh.bas hE.bel.size)⟩
  ·rw [Rep]
   obtain ⟨a'',cap'',e1,e2,e3,e4⟩:=hrep
   refine ⟨⟨a'',cap'',by rw [List.length_append];exact e1,by rw [List.length_append];exact e2,e3,e4.imp (fun q=>q) fun ⟨b,off,q1,q2⟩=>⟨b,off,q1,bA.evo hE2 (Nat.le_refl _) _ _ b off q2⟩⟩,_,_,List.getElem?_set_self hlι,by simp,fun _=>rfl⟩
  ·rw [List.getElem?_set_ne (Ne.symm hi)] at ha ⊢
   refine ⟨rfl,List.getElem?_set_ne (Ne.symm hi),fun b hb hbl=>hother b hbl (fun c hc q=>?_) (hh.tB ha hb).1⟩
   subst q
   exact hi (hh.inj i id b ha (by rw [hid];exact trivial) hb (by rw [hv0];exact hc))
  ·rw [List.getElem?_set_self hlt] at q;cases q
  ·rw [List.getElem?_set_self hlt] at q;cases q
   exact ⟨_,List.getElem?_set_self hlι,htok⟩
  ·rw [List.getElem?_set_ne (Ne.symm hj)] at aj
   rw [List.getElem?_set_ne (Ne.symm hj)] at hb'
   rw [List.getElem?_set_self hlι] at hb
   rcases hnew b hb with q|q
   ·exact hj (hh.inj j id b aj (by rw [hid];exact trivial) hb' (by rw [hv0];exact q))
   ·have:=(hh.tB aj hb').2;omega
 by_cases hfit : bse.length + rows.length ≤ cap
 ·-- there is room
  by_cases hc0 : cap = 0
  ·have hr0 : rows.length = 0:=by omega
   have hb0 : bse.length = 0:=by omega
   obtain ⟨i,z,hi,hzz,hzs,hce,hbe⟩:=iT hz
   have hnews : news = []:=List.eq_nil_of_length_eq_zero (by rw [hnl,hr0,Nat.zero_mul])
   subst hnews
   have hrows0 : rows = []:=List.eq_nil_of_length_eq_zero hr0
   subst hrows0
   have hrun:=run_append_nothing (P:=P) w t tx ty e i ht hi a bse.length cap (by omega) v (by rw [← hce];exact hs)
   obtain ⟨ι',S',q1,q2,q3⟩:=close (u':=.slice a bse.length cap) (w':=w) (S':=S) (Evo.refl _ _ _ _ _) ⟨a,cap,by simp,by simpa using hfit,hcm,by left;simp;exact List.eq_nil_of_length_eq_zero hb0⟩ (fun _=>rfl)
    ⟨a,cap,by simp,by simpa using hfit,hcm,.inl hc0⟩ (fun _ _ _ _=>⟨rfl,fun _ q=>q⟩) (fun _ q=>.inl q) hh.stb
   exact ⟨_,_,ι',S',hrun,q1,q2,q3⟩
  ·rcases hblk with hblk|⟨b,arr,fz,rfl,k1,k2,k3,k4,k5⟩
   ·exact absurd hblk hc0
   ·obtain ⟨i,z,hi,hzz,hzs,hce,hbe⟩:=iT hz
    have hmul : (bse.length + rows.length) * P.cellsOf e ≤ cap * P.cellsOf e:=Nat.mul_le_mul_right _ hfit
    rw [Nat.add_mul] at hmul
    have hcells : ∀ j,j < news.length → (w.cell? ⟨b,0 + bse.length * i.size + j,none⟩).isSome = true:=fun j hj=>by
     rw [fx k2,Array.getElem?_eq_getElem (by rw [hnl] at hj;rw [← hce];omega)];rfl
    have hfroz : ∀ j,j < news.length → w.frozen? ⟨b,0 + bse.length * i.size + j,none⟩ = false:=fun j hj=>by
     rw [oD k2]
     have:=k3 (0 + bse.length * i.size + j) (by rw [hnl] at hj;rw [← hce];omega)
     simpa using this
    have hrun:=run_append_room_src (P:=P) w t tx ty e i ht hi b 0 bse.length cap v rows.length news (by rw [← hce];exact hs) hfit hcells hfroz
    rw [Nat.zero_add,← hce] at hrun
    obtain ⟨arr',g1,g2,g3,g4⟩:=mo news w b (bse.length * P.cellsOf e) k2 (by rw [hnl];omega)
    let S' : aJ:=fun c o=>S c o ∨ (c = b ∧ bse.length * P.cellsOf e ≤ o ∧ o < (bse.length + rows.length) * P.cellsOf e)
    have hE : Evo ι.length base ι S w ι S' (w.setCells b (bse.length * P.cellsOf e) news):=by
     refine ⟨fun _ _=>dM.refl _,fun _ _ q=>.inl q,fun c o q=>q.elim .inl fun q=>.inr (by rw [q.1];exact k1),fun c o q=>?_,fun c x q=>by rw [jE];exact q,jD news w b _ k1⟩
     by_cases hcb : c = b
     ·subst hcb
      rw [fx g1,fx k2]
      exact g4 o (.inl (k5 o q))
     ·exact World.cell?_of_block (w:=w) (gv news w b _ c hcb)
    have told : ∀ b' off,(⟨b,0,none⟩ : Addr) = ⟨b',off,none⟩ → b' = b ∧ off = 0:=fun b' off q=>by cases q;exact ⟨rfl,rfl⟩
    have hR : bse ++ rows = [] ∨ ∃ b' off,some (⟨b,0,none⟩ : Addr) = some ⟨b',off,none⟩ ∧ bA ι S' (w.setCells b (bse.length * P.cellsOf e) news) (P.cellsOf e) (bse ++ rows) b' off:=by
     right
     refine ⟨b,0,rfl,bA.of_flat (fun r hr=>(List.mem_append.1 hr).elim (hbl r) (hrl r)) ?_⟩
     rw [List.flatten_append]
     have hC1 : bn ι S' (w.setCells b (bse.length * P.cellsOf e) news) bse.flatten b 0:=by
      rcases hrows with rfl|⟨b',off,q,rr⟩
      ·simp [bn]
      ·obtain ⟨rfl,rfl⟩:=told b' off (Option.some.inj q)
       exact bn.evo hE (Nat.le_refl _) _ _ _ rr.flat.2
     have hC2 : bn ι S' (w.setCells b (bse.length * P.cellsOf e) news) rows.flatten b (bse.length * P.cellsOf e) :=
      bn.xo g1 (au.evo hE (Nat.le_refl _) _ _ hn) (fun i v q=>g3 i v q) (fun i hi=>.inr ⟨rfl,by omega,by rw [hnl] at hi;rw [Nat.add_mul];omega⟩)
     have hfl:=gI hbl
     refine bn.mk fun i c q=>?_
     rcases Nat.lt_or_ge i bse.flatten.length with z|z
     ·rw [List.getElem?_append_left z] at q;exact hC1.get i c q
     ·rw [List.getElem?_append_right z] at q
      have:=hC2.get _ c q
      rw [show bse.length * P.cellsOf e + (i - bse.flatten.length) = 0 + i by omega] at this
      exact this
    obtain ⟨ι',S'',q1,q2,q3⟩:=close (u':=.slice (some ⟨b,0,none⟩) (bse.length + rows.length) cap) (w':=w.setCells b (bse.length * P.cellsOf e) news) (S':=S') hE ⟨_,cap,rfl,hfit,hcm,hR⟩ (fun z=>by rw [z,Nat.add_zero])
     ⟨_,cap,rfl,hfit,hcm,.inr ⟨b,arr',fz,rfl,k1,g1,by rw [g2];exact k3,by rw [g2];exact k4,fun o q=>by
      rcases q with q|q
      ·have:=k5 o q;rw [Nat.add_mul];omega
      ·exact q.2.2⟩⟩ (fun c hc hne _=>⟨gv news w b _ c (hne b ⟨_,_,_,rfl,rfl,hc0⟩),fun o q=>q.elim (fun q=>q) fun q=>absurd q.1 (hne b ⟨_,_,_,rfl,rfl,hc0⟩)⟩)
     (fun c q=>.inl ⟨_,_,_,rfl,(xM (w:=w) q).symm,hc0⟩) (fun c o q=>by
      rw [iC]
      rcases q with q|q
      ·exact hh.stb c o q
      ·rw [q.1];exact pE k2)
    exact ⟨_,_,ι',S'',hrun,q1,q2,q3⟩
 ·-- it grows
  obtain ⟨olds,hold,hrd⟩:=lP (P:=P) (cap:=cap) hrows
  obtain ⟨u',w',arr,S',hrun,hheap,hE,⟨cap',rfl,g1,g2,g3⟩,hS',hR⟩:=xx (ty:=ty) hh ht hz hs hn hrl hbl (by omega) hold hrd hm.1 hm.2
  have hnw : w'.heap[w.heap.size]? = some (.cells arr e):=by rw [hheap];simp
  obtain ⟨ι',S'',q1,q2,q3⟩:=close hE ⟨_,cap',rfl,g1,g2,.inr ⟨_,0,rfl,hR⟩⟩ (fun z=>by omega)
   ⟨_,cap',rfl,g1,g2,.inr ⟨w.heap.size,arr,(0,0),rfl,hh.bas,hnw,fun o _=>by simp,g3,fun o q=>by
    rcases (hS' _ o).1 q with q|q
    ·have:=hh.stb _ _ q;omega
    ·exact q.2⟩⟩ (fun b hb _ _=>⟨by rw [hheap,Array.getElem?_push];simp;omega,fun o q=>by
    rcases (hS' b o).1 q with q|q
    ·exact q
    ·omega⟩) (fun b q=>.inr (by rw [xM (w:=w) q];exact Nat.le_refl _)) (fun b o q=>by
    rw [hheap,Array.size_push]
    rcases (hS' b o).1 q with q|q
    ·have:=hh.stb b o q;omega
    ·omega)
  exact ⟨_,_,ι',S'',hrun,q1,q2,q3⟩

theorem HOK.begin {h : aa} (hh : HOK base ι S w h) {e sz : TypeId} {a : Option Addr} : HOK base (ι ++ [.tok 0 (.slice a 0 0)]) S w (h ++ [.tok e sz 0]) :=
 hh.push _ _ (Evo.grow _) (fun _ _ _=>⟨rfl,fun _ q=>q⟩) (fun _ q=>by cases q) (fun e' sz' n' q=>by cases q;exact ⟨_,rfl,a,0,rfl,Nat.le_refl _,Nat.zero_le _,.inl rfl⟩) trivial
  (fun _ b hb=>by obtain ⟨_,_,_,q,_,h0⟩:=hb;cases q;exact absurd rfl h0) hh.stb
omit [Laid] in
theorem Rep.begin (ι : List Ix) (S : aJ) (w : World) (sz : Nat) (a : Option Addr) : Rep (ι ++ [.tok 0 (.slice a 0 0)]) S w (.sb ι.length sz []) (.slice a 0 0):=by
 rw [Rep]
 exact ⟨⟨a,0,rfl,Nat.le_refl _,Nat.zero_le _,.inl rfl⟩,0,_,by simp,Nat.le_refl _,fun _=>rfl⟩

theorem l8 {h : aa} (hh : HOK base ι S w h) {x : AV} {y : Value} (hy : Rep ι S w x y) {sz : Nat} {rows : List (List AV)} (hs : ej h sz x = some rows) :
 ∃ ad cap vs,y = .slice ad rows.length cap ∧ rows.length ≤ maxLen ∧ au ι S w rows.flatten vs ∧ rows.flatten.length = rows.length * sz ∧
  ((ad = none ∧ vs = [] ∧ rows = []) ∨ ∃ b,ad = some b ∧ ∀ j u,vs[j]? = some u → w.cell? (b.add j) = some u):=by
 have hy:=hy.eA
 unfold ej at hs
 split at hs
 ·rename_i e1
  cases hs
  rw [e1,Rep] at hy
  obtain ⟨b,ev⟩:=hy
  exact ⟨b,0,[],ev,Nat.zero_le _,by simp,by simp,by cases b <;> simp⟩
 ·rename_i sz' rows' e1
  split at hs
  ·rename_i hsz
   subst hsz
   cases hs
   rw [e1,Rep] at hy
   obtain ⟨b,cap,ev,c1,c2,c3⟩:=hy
   rcases c3 with rfl|⟨bb,off,rfl,hrr⟩
   ·exact ⟨b,cap,[],ev,Nat.zero_le _,by simp,by simp,by cases b <;> simp⟩
   ·obtain ⟨k1,k2⟩:=hrr.flat
    obtain ⟨vs,rv,hcell⟩:=k2.az
    exact ⟨_,cap,vs,ev,by omega,rv,k1,.inr ⟨_,rfl,fun j u q=>by rw [dm];exact hcell j u q⟩⟩
  ·cases hs
 ·rename_i id off len sz' e1
  split at hs
  ·rename_i blk eb
   split at hs
   ·rename_i hcond
    obtain ⟨rfl,hlen⟩:=hcond
    cases hs
    rw [e1,Rep] at hy
    obtain ⟨b,b',cap,n,ty,c1,ev,c2,c3,c4,c5,c6⟩:=hy
    obtain ⟨b2,arr,fz,k1,k2,k3,k4,k5,k6,k7,k8,k9⟩:=hh.live id blk eb
    rw [c1] at k1;cases k1
    obtain ⟨f1,f2⟩:=fM sz' len (blk.cells.drop off) (by simp;omega)
    have hcells : au ι S w ((blk.cells.drop off).take (len * sz')) ((arr.toList.drop off).take (len * sz')):=by
     refine au.mk (by simp;omega) fun j c v e1 e2=>?_
     rw [List.getElem?_take] at e1 e2
     split at e1
     ·rename_i hj
      rw [if_pos hj] at e2
      rw [List.getElem?_drop] at e1 e2
      obtain ⟨v',e3,r⟩:=k6 _ c e1
      simp only [Array.getElem?_toList] at e2
      rw [e3] at e2;cases e2;exact r
     ·cases e1
    refine ⟨b',cap,_,by rw [fC];exact ev,by rw [fC];omega,by rw [f1];exact hcells,gI f2, ?_⟩
    rcases c4 with rfl|rfl
    ·have : len = 0:=by omega
     subst this
     cases b' <;> simp [chunks]
    ·refine .inr ⟨_,rfl,fun j u q=>?_⟩
     rw [dm,fx k3]
     rw [List.getElem?_take] at q
     split at q
     ·rw [List.getElem?_drop] at q;simpa using q
     ·cases q
   ·cases hs
  ·cases hs
 ·cases hs

omit [Laid] in
theorem rN : ∀ l : List UInt8,(l.map fun b=>[fe b]).flatten = l.map fe
 | []=>rfl
 | b :: l=>by rw [List.map_cons,List.flatten_cons,rN l];rfl
omit [Laid] in
theorem Fm {sz : Nat} {rows : List (List AV)} (h : rows.all (dJ sz) = true) : (∀ r ∈ rows,r.length = sz) ∧ rows.flatten.all cv = true:=by
 simp only [List.all_eq_true,dJ,Bool.and_eq_true,beq_iff_eq] at h
 refine ⟨fun r hr=>(h r hr).1, ?_⟩
 simp only [List.all_eq_true]
 intro c hc
 obtain ⟨r,hr,hcr⟩:=List.mem_flatten.1 hc
 exact (h r hr).2 c hcr

theorem AJ {own : Bool} {c : Call} {t tx e : TypeId} {x y : Operand} {src : Option (List (List AV))} (hr : ROK base ι S a w st) (ho : o.op = .call c) (hc : c.callee = .builtin .append) (hat : c.argTypes.toList = [t,tx]) (hax : c.args.toList = [x,y])
 (ht : P.underlying t = some (.slice e)) (hz : zok P e = true) (hsrc : ∀ rows,src = some rows → (∀ r ∈ rows,r.length = P.cellsOf e) → rows.flatten.all cv = true → ∃ news,Src P (P.cellsOf e) tx (a.eval y) rows.length news w ∧ au ι S w rows.flatten news)
 (h : dP own e (P.cellsOf e) (dA P e) (ae st.fr x) src st.h K) : bk P o base ι S a w st K:=by
 have hty : c.argTypes = #[t,tx]:=by apply Array.ext';simpa using hat
 have hag : c.args.map a.eval = #[a.eval x,a.eval y]:=by apply Array.ext';simp [hax]
 have done : ∀ {u' w'},(Builtin.append_ #[t,tx] o.type #[a.eval x,a.eval y]).run P w = .ok u' w' → (execOp a.eval o).run P w = .ok (.value u') w':=fun hrun =>
  gW (s:=Builtin.append_ c.argTypes o.type (c.args.map a.eval)) ho hc (fun cs=>rfl) (by rw [hty,hag];exact hrun)
 have hx:=(hr.eval x).nle
 unfold dP at h
 split at h
 ·exact h.elim
 ·rename_i rows
  obtain ⟨hro,h⟩:=h
  obtain ⟨hrl,hsc⟩:=Fm hro
  obtain ⟨news,hs,hn⟩:=hsrc rows rfl hrl hsc
  -- a new block of the call's own
  have mine : ∀ {h' : aa} {id0 : Option Nat} {bse : List (List AV)} {olds : List Value} {ad : Option Addr} {cap : Nat},a.eval x = .slice ad bse.length cap → h'.length = st.h.length → HOK base ι S w h' → (∀ r ∈ bse,r.length = P.cellsOf e) → cap < bse.length + rows.length →
   au ι S w bse.flatten olds → (Builtin.firstCells (P.cellsOf e) bse.length (.slice ad bse.length cap)).run P w.drew = .ok olds.toArray w.drew → cT (dA P e) (bse.length + rows.length) →
   K (.own st.h.length 0 (bse.length + rows.length) (P.cellsOf e)) (h' ++ [.blk ⟨e,bse.flatten ++ rows.flatten,true⟩]) → bk P o base ι S a w st K:=by
   intro h' id0 bse olds ad cap ev hlen hh hbl hlt hold hrd hm k
   obtain ⟨i,z,hi,hzz,hzs,hce,hbe⟩:=iT hz
   have hm2:=hm.2
   rw [hbe] at hm2
   rw [hce] at hs hbl hrl hrd k
   have hnl:=hs.newsLen
   have hol : olds.length = bse.length * i.size:=by rw [← hold.length,gI hbl]
   have hrun:=run_append_grow_src (P:=P) w t tx o.type e i z ht hi hzz ad bse.length cap olds hrd (a.eval y) rows.length news hs hlt (by have:=hm.1;simp only [maxLen] at this;omega) (growslice_fits hlt hm2)
   have hge:=grownCap_ge w (bse.length + rows.length) cap e
   have hcm:=grownCap_le_maxLen w (bse.length + rows.length) cap e hm.1
   obtain ⟨hE1,hH1⟩:=hh.drew
   have r1 : au ι S w.drew (bse.flatten ++ rows.flatten) (olds ++ news):=(au.evo hE1 (Nat.le_refl _) _ _ hold).append (au.evo hE1 (Nat.le_refl _) _ _ hn)
   have hA:=hH1.alloc e _ (olds ++ news) r1 (0,0) (Builtin.zeroCells z.cells (grownCap w (bse.length + rows.length) cap e - (bse.length + rows.length))).toList (fun o _=>by simp)
   have harr : ((olds ++ news) ++ (Builtin.zeroCells z.cells (grownCap w (bse.length + rows.length) cap e - (bse.length + rows.length))).toList).toArray = (olds ++ news).toArray ++ Builtin.zeroCells z.cells (grownCap w (bse.length + rows.length) cap e - (bse.length + rows.length)):=by
    apply Array.ext';simp
   rw [harr] at hA
   refine cI hr (done (by rw [ev];exact hrun)) (hE1.trans (Evo.alloc hH1.bas (fun b o=>hH1.stb b o) _ [.blk w.heap.size])) ?_ hA (by simp [hlen]) k
   rw [Rep]
   have hsz : ((olds ++ news).toArray ++ Builtin.zeroCells z.cells (grownCap w (bse.length + rows.length) cap e - (bse.length + rows.length))).size = grownCap w (bse.length + rows.length) cap e * i.size:=by
    rw [Array.size_append,List.size_toArray,List.length_append,hol,hnl,size_zeroCells,hzs,← Nat.add_mul,← Nat.add_mul]
    congr 1
    omega
   refine ⟨w.heap.size,_,_,_,e,by rw [← hr.hp.len];simp,rfl,hge,hcm,.inr rfl, ?_,by rw [Nat.zero_add];exact Nat.le_of_eq hsz.symm⟩
   have hnew : (w.drew.alloc (.cells ((olds ++ news).toArray ++ Builtin.zeroCells z.cells (grownCap w (bse.length + rows.length) cap e - (bse.length + rows.length))) e)).heap[w.heap.size]? = some (.cells ((olds ++ news).toArray ++ Builtin.zeroCells z.cells (grownCap w (bse.length + rows.length) cap e - (bse.length + rows.length))) e):=by
    show (w.heap.push _)[w.heap.size]? = _
    simp
   unfold World.shape?
   rw [hnew]
  split at h
  ·-- out of nothing
   rename_i e1
   rw [e1,Rep] at hx
   obtain ⟨ad,ev⟩:=hx
   split at h
   ·obtain ⟨hm,k⟩:=h
    have hB:=hr.hp.begin (e:=e) (sz:=P.cellsOf e) (a:=ad)
    have hEb : Evo ι.length base ι S w (ι ++ [.tok 0 (.slice ad 0 0)]) S w:=Evo.grow _
    have hsB : au (ι ++ [.tok 0 (.slice ad 0 0)]) S w rows.flatten news:=au.evo hEb (Nat.le_refl _) _ _ hn
    have hRB:=Rep.begin ι S w (P.cellsOf e) ad
    rw [hr.hp.len] at hRB
    obtain ⟨u',w',ι',S',q1,q2,q3,q4⟩:=AG (ty:=o.type) (bse:=[]) (id:=st.h.length) hB ht hz hs hsB hrl hRB (by simp) (by simpa using hm)
    rw [ev] at done
    refine cI hr (done q1) ((hEb).trans (q2.mono (by simp) (Nat.le_refl _))) q3 q4 (by simp) ?_
    simp only [List.nil_append,List.length_nil,Nat.zero_add]
    rw [List.set_append_right _ _ (Nat.le_refl _)]
    simpa using k
   ·obtain ⟨hne,hm,k⟩:=h
    obtain ⟨olds,hold,hrd⟩:=lP (P:=P) (ι:=ι) (S:=S) (w:=w) (sz:=P.cellsOf e) (rows:=[]) (a:=ad) (cap:=0) (.inl rfl)
    refine mine (bse:=[]) (id0:=none) (h':=st.h) (ad:=ad) (cap:=0) ev rfl hr.hp (by simp) ?_ hold hrd (by simpa using hm) (by simpa using k)
    have:=List.length_pos_iff.2 hne
    simpa using this
  ·-- at its end
   rename_i id sz' bse e1
   split at h
   ·rename_i e' sz'' k eh
    obtain ⟨⟨rfl,rfl,rfl,rfl⟩,hm,kk⟩:=h
    rw [e1] at hx
    obtain ⟨u',w',ι',S',q1,q2,q3,q4⟩:=AG (ty:=o.type) hr.hp ht hz hs hn hrl hx eh hm
    exact cI hr (done q1) q2 q3 q4 (by simp) kk
   ·exact h.elim
  ·-- the call's own
   rename_i id off len sz' e1
   split at h
   ·rename_i blk eb
    obtain ⟨⟨rfl,rfl,hwr,rfl,hlc⟩,hpos,hm,k⟩:=h
    rw [e1,Rep] at hx
    obtain ⟨b,ad,cap,m,ty',c1,ev,c2,c3,c4,c5,c6⟩:=hx
    obtain ⟨b',arr,fz,k1,k2,k3,k4,k5,k6,k7,k8,k9⟩:=hr.hp.live id blk eb
    rw [c1] at k1;cases k1
    have hm' : m = arr.size:=by
     unfold World.shape? at c5
     rw [k3] at c5
     simp only [Option.some.injEq,Prod.mk.injEq] at c5
     exact c5.2.symm
    subst hm'
    obtain ⟨f1,f2⟩:=fM (P.cellsOf blk.ty) len blk.cells hlc
    have hcl:=fC (P.cellsOf blk.ty) len blk.cells
    have hcs : au ι S w (blk.cells.take (len * P.cellsOf blk.ty)) (arr.toList.take (len * P.cellsOf blk.ty)):=by
     refine au.mk (by simp;omega) fun j c v e1 e2=>?_
     rw [List.getElem?_take] at e1 e2
     split at e1
     ·rename_i hj
      rw [if_pos hj] at e2
      obtain ⟨v',e3,r⟩:=k6 j c e1
      simp only [Array.getElem?_toList] at e2
      rw [e3] at e2;cases e2;exact r
     ·cases e1
    by_cases hfit : len + rows.length ≤ cap
    ·-- there is room
     obtain ⟨i,z,hi,hzz,hzs,hce,hbe⟩:=iT hz
     rcases c4 with c4|rfl
     ·omega
     have hnl:=hs.newsLen
     have hmul : (len + rows.length) * P.cellsOf blk.ty ≤ cap * P.cellsOf blk.ty:=Nat.mul_le_mul_right _ hfit
     rw [Nat.add_mul] at hmul
     have hcells : ∀ j,j < news.length → (w.cell? ⟨b,0 + len * i.size + j,none⟩).isSome = true:=fun j hj=>by
      rw [fx k3,Array.getElem?_eq_getElem (by rw [hnl] at hj;rw [← hce];omega)];rfl
     have hfroz : ∀ j,j < news.length → w.frozen? ⟨b,0 + len * i.size + j,none⟩ = false:=fun j hj=>by
      rw [oD k3]
      have:=k4 (0 + len * i.size + j) (by rw [hnl] at hj;rw [← hce];omega)
      simpa using this
     have hrun:=run_append_room_src (P:=P) w t tx o.type blk.ty i ht hi b 0 len cap (a.eval y) rows.length news (by rw [← hce];exact hs) hfit hcells hfroz
     rw [Nat.zero_add,← hce] at hrun
     obtain ⟨arr',g1,g2,g3,g4⟩:=mo news w b (len * P.cellsOf blk.ty) k3 (by rw [hnl];omega)
     have hE : Evo ι.length base ι S w (ι ++ [.blk b]) S (w.setCells b (len * P.cellsOf blk.ty) news) :=
      ⟨fun i hi=>dM.of_eq (List.getElem?_append_left hi),fun _ _ q=>q,fun _ _ q=>.inl q,fun c o q=>World.cell?_of_block (w:=w) (gv news w b _ c fun z=>k7 hwr o (z ▸ q)),fun c x q=>by rw [jE];exact q,jD news w b _ k2⟩
     have hl:=hr.hp.len
     have hid : id < st.h.length:=(List.getElem?_eq_some_iff.1 eb).1
     have alv : ∀ {i : Nat},i ≠ st.h.length → alive (st.h.set id .dead ++ [.blk ⟨blk.ty,blk.cells.take (len * P.cellsOf blk.ty) ++ rows.flatten,true⟩])[i]? → i ≠ id ∧ (st.h.set id .dead ++ [.blk ⟨blk.ty,blk.cells.take (len * P.cellsOf blk.ty) ++ rows.flatten,true⟩])[i]? = st.h[i]?:=by
      intro i hi ha
      rw [iX (by simpa using hi)] at ha ⊢
      by_cases q : i = id
      ·subst q;rw [List.getElem?_set_self hid] at ha;exact ha.elim
      ·exact ⟨q,List.getElem?_set_ne (Ne.symm q)⟩
     have hH : HOK base (ι ++ [.blk b]) S (w.setCells b (len * P.cellsOf blk.ty) news) (st.h.set id .dead ++ [.blk ⟨blk.ty,blk.cells.take (len * P.cellsOf blk.ty) ++ rows.flatten,true⟩]):=by
      have lst : (st.h.set id .dead ++ [Ent.blk ⟨blk.ty,blk.cells.take (len * P.cellsOf blk.ty) ++ rows.flatten,true⟩])[st.h.length]? = some (.blk ⟨blk.ty,blk.cells.take (len * P.cellsOf blk.ty) ++ rows.flatten,true⟩):=by
       rw [List.getElem?_append_right (by simp)];simp
      refine hr.hp.nK hE (by simp [hl]) st.h.length (fun i hi ha=>?_) (fun x q=>?_) (fun _ _ _ q=>?_) (fun en q=>by rw [lst] at q;cases q;trivial) (fun j c hj _ aj hb hb' => ?_) (fun c o q=>by rw [iC];exact hr.hp.stb c o q) (by rw [iC];exact hr.hp.bas)
      ·obtain ⟨hne,he⟩:=alv hi ha
       refine ⟨he,iX (by rw [hl];exact hi),fun c hc _=>⟨gv news w b _ c fun q=>?_,fun _ q=>q⟩⟩
       subst q
       rw [he] at ha
       exact hne (hr.hp.inj i id c ha (by rw [eb];exact trivial) hc (by rw [c1];rfl))
      ·rw [lst] at q;cases q
       have hnf : rows.flatten.length = rows.length * P.cellsOf blk.ty:=gI hrl
       have hlt : (blk.cells.take (len * P.cellsOf blk.ty)).length = len * P.cellsOf blk.ty:=by simp;omega
       refine ⟨b,arr',fz,by rw [← hl];exact fj,k2,g1,by rw [g2];exact k4, ?_,fun j c q=>?_,fun _=>k7 hwr,fun o q=>absurd q (k7 hwr o),fun q=>by cases q⟩
       ·rw [List.length_append,hlt,hnf,g2];omega
       ·rcases Nat.lt_or_ge j (len * P.cellsOf blk.ty) with z|z
        ·rw [List.getElem?_append_left (by omega),List.getElem?_take,if_pos z] at q
         obtain ⟨v,q1,q2⟩:=k6 j c q
         exact ⟨v,by rw [g4 j (.inl z)];exact q1,Rep.evo hE (Nat.le_refl _) c v q2⟩
        ·rw [List.getElem?_append_right (by omega),hlt] at q
         obtain ⟨v,q1,q2⟩:=hn.get _ c q
         have:=g3 _ v q1
         rw [show len * P.cellsOf blk.ty + (j - len * P.cellsOf blk.ty) = j by omega] at this
         exact ⟨v,this,Rep.evo hE (Nat.le_refl _) c v q2⟩
      ·rw [lst] at q;cases q
      ·obtain ⟨hne,he⟩:=alv hj aj
       rw [he] at aj
       rw [iX (by rw [hl];exact hj)] at hb'
       rw [← hl,fj] at hb
       have : b = c:=hb
       subst this
       exact hne (hr.hp.inj j id b aj (by rw [eb];exact trivial) hb' (by rw [c1];rfl))
     refine cI hr (done (by rw [ev];exact hrun)) hE ?_ hH (by simp) k
     rw [Rep]
     exact ⟨b,_,cap,arr.size,ty',by rw [← hl];exact fj,rfl,hfit,c3,.inr rfl,hE.shp _ _ c5,c6⟩
    ·have hrd : (Builtin.firstCells (P.cellsOf blk.ty) len (.slice ad len cap)).run P w.drew = .ok (arr.toList.take (len * P.cellsOf blk.ty)).toArray w.drew:=by
      by_cases hl0 : len = 0
      ·subst hl0
       simp only [Nat.zero_mul,List.take_zero]
       cases ad with
       | none=>exact run_firstCells_none w.drew _ 0 0 cap
       | some ad=>exact run_firstCells_some w.drew _ 0 ad 0 cap [] (by simp) (by simp)
      ·rcases c4 with c4|rfl
       ·omega
       ·refine run_firstCells_some w.drew _ len _ len cap _ (by simp;omega) fun j v q=>?_
        rw [dm,Nat.zero_add]
        rw [List.getElem?_take] at q
        split at q
        ·show w.cell? ⟨b,j,none⟩ = some v
         rw [fx k3];simpa using q
        ·cases q
     refine mine (bse:=chunks (P.cellsOf blk.ty) len blk.cells) (id0:=some id) (h':=st.h.set id .dead) (ad:=ad) (cap:=cap) (olds:=arr.toList.take (len * P.cellsOf blk.ty)) (by rw [hcl];exact ev) (by simp) (hr.hp.kill id) f2 (by rw [hcl];omega)
      (by rw [f1];exact hcs) (by rw [hcl];exact hrd) (by rw [hcl];exact hm) (by rw [hcl,f1];exact k)
   ·exact h.elim
  ·exact h.elim

theorem Nl {own : Bool} {c : Call} {t tx e e' : TypeId} {x y : Operand} (hr : ROK base ι S a w st) (ho : o.op = .call c) (hc : c.callee = .builtin .append) (hat : c.argTypes.toList = [t,tx]) (hax : c.args.toList = [x,y])
 (ht : P.underlying t = some (.slice e)) (htx : P.underlying tx = some (.slice e')) (hz : zok P e = true) (h : ee own e (P.cellsOf e) (dA P e) (ae st.fr x) (ae st.fr y) st.h K) : bk P o base ι S a w st K:=by
 refine AJ hr ho hc hat hax ht hz (fun rows hs hrl hsc=>?_) h
 obtain ⟨ad,cap,vs,ev,_,rv,hfl,hcell⟩:=l8 hr.hp (hr.eval y) hs
 refine ⟨vs, ?_,rv⟩
 rw [ev]
 have hvl : vs.length = rows.length * P.cellsOf e:=by rw [← rv.length];exact hfl
 rcases hcell with ⟨rfl,rfl,rfl⟩|⟨b,rfl,hcell⟩
 ·exact Src.ofNil w htx cap
 ·exact Src.ofSlice w htx b rows.length cap vs hvl (fun j u q=>hcell j u q) (oo rv hsc)

theorem L1 {own : Bool} {c : Call} {t tx e : TypeId} {x y : Operand} (hr : ROK base ι S a w st) (ho : o.op = .call c) (hc : c.callee = .builtin .append) (hat : c.argTypes.toList = [t,tx]) (hax : c.args.toList = [x,y])
 (ht : P.underlying t = some (.slice e)) (htx : P.underlying tx = some .string) (hz : zok P e = true) (h1 : P.cellsOf e = 1) (h : vn own e (dA P e) (ae st.fr x) (ae st.fr y) st.h K) : bk P o base ι S a w st K:=by
 have h' : dP own e (P.cellsOf e) (dA P e) (ae st.fr x) (qC (ae st.fr y)) st.h K:=by rw [h1];exact h
 refine AJ hr ho hc hat hax ht hz (fun rows hs _ hsc=>?_) h'
 have hy:=hr.eval y
 unfold qC at hs
 split at hs
 ·rename_i l e1
  cases hs
  rw [e1,dk] at hy
  obtain ⟨ev,_⟩:=hy
  have hfl:=rN l
  refine ⟨byteCells ⟨l.toArray⟩, ?_, ?_⟩
  ·rw [ev,h1]
   have:=Src.ofString (P:=P) w htx ⟨l.toArray⟩
   simpa [ByteArray.size] using this
  ·rw [hfl]
   unfold byteCells
   refine au.mk (by simp) fun i c v q1 q2=>?_
   simp only [List.getElem?_map] at q1 q2
   cases hl : l[i]? with
   | none=>rw [hl] at q1;cases q1
   | some b =>
     rw [hl] at q1 q2
     simp only [Option.map_some,Option.some.injEq] at q1 q2
     subst q1;subst q2
     simp [fe]
 ·cases hs
end

omit [Laid] in
theorem ir (z : List AV) : ∀ n,(fp n z).length = n * z.length
 | 0=>by simp [fp]
 | n + 1=>by rw [fp,List.length_append,ir z n,Nat.add_mul,Nat.one_mul,Nat.add_comm]
omit [Laid] in
theorem xt (z : List AV) : ∀ (n i : Nat),i < n * z.length → (fp n z)[i]? = z[i % z.length]?
 | 0,i,h=>by simp at h
 | n + 1,i,h=>by
   rw [fp]
   rcases Nat.lt_or_ge i z.length with q|q
   ·rw [List.getElem?_append_left q,Nat.mod_eq_of_lt q]
   ·rw [List.getElem?_append_right q,xt z n (i - z.length) (by rw [Nat.add_mul,Nat.one_mul] at h;omega),← Nat.mod_eq_sub_mod q]

omit [Laid] in
theorem nw {ι : List Ix} {S : aJ} {w : World} {cs : List AV} {vs : List Value} (h : au ι S w cs vs) (n m : Nat) (hm : m = n * cs.length) : au ι S w (fp n cs) (madeCells vs.toArray m).toList:=by
 subst hm
 have hl:=h.length
 refine au.mk (by rw [ir];simp [madeCells]) fun i c v e f=>?_
 have hi : i < n * cs.length:=by rw [← ir];exact (List.getElem?_eq_some_iff.1 e).1
 rw [xt cs n i hi] at e
 have hpos : 0 < cs.length:=by
  rcases Nat.eq_zero_or_pos cs.length with q|q
  ·rw [q] at hi;simp at hi
  ·exact q
 have hi2 : i % cs.length < vs.length:=by rw [← hl];exact Nat.mod_lt _ hpos
 simp only [madeCells,Array.toList_map,List.getElem?_map,Array.toList_range,List.getElem?_range hi,Option.map_some,Option.some.injEq] at f
 obtain ⟨u,hu,r⟩:=h.get _ c e
 have : v = u:=by
  rw [← f]
  simp only [List.size_toArray]
  rw [← hl]
  rw [getElem!_pos vs.toArray (i % cs.length) (by simpa using hi2)]
  rw [List.getElem?_eq_getElem hi2] at hu
  simpa using hu
 rw [this];exact r

omit [Laid] in
theorem kF {P : Program} {e : TypeId} {z : AV} (hz : zok P e = true) (h : cU P e = some z) : ∃ i u vs,P.info? e = some i ∧ i.zero = some u ∧ z = fi u ∧ u.cells = (vs : List Value).toArray ∧ vs.length = i.size ∧ P.cellsOf e = i.size ∧ dA P e = i.bytes ∧ ∀ ι S w,au ι S w (bc z) vs:=by
 obtain ⟨i,u,hi,hu,hs,hc,hb⟩:=iT hz
 unfold cU at h
 rw [hi] at h
 simp only [Option.bind_some,hu,Option.map_some,Option.some.injEq] at h
 obtain ⟨vs,e1,r⟩:=mw u
 exact ⟨i,u,vs,hi,hu,h.symm,e1,by rw [e1] at hs;simpa using hs,hc,hb,by rw [← h];exact r⟩

section
variable {P : Program} {o : Oper} {base : Nat} {ι : List Ix} {S : aJ} {a : Act} {w : World} {st : St} {K : AV → aa → Prop}

theorem HOK.other {h : aa} (hh : HOK base ι S w h) (ob : Obj) : Evo ι.length base ι S w ι S (w.alloc ob) ∧ HOK base ι S (w.alloc ob) h:=by
 have hE : Evo ι.length base ι S w ι S (w.alloc ob):=by simpa using Evo.alloc hh.bas (fun b o=>hh.stb b o) ob []
 exact ⟨hE,hh.nK hE hh.len h.length (fun i _ _=>⟨rfl,rfl,fun b _ hb=>⟨Below.heap_alloc w _ b hb,fun _ q=>q⟩⟩) (fun x e=>by simp at e) (fun _ _ _ e=>by simp at e) (fun _ e=>by simp at e) (fun j b _ aT=>by simp [alive] at aT)
  (fun b o q=>by have:=hh.stb b o q;show b < (w.heap.push _).size;simp;omega) (by have:=hh.bas;show base ≤ (w.heap.push _).size;simp;omega)⟩

theorem l4 {e : TypeId} {cells : Array Value} {cs : List AV} {more : List Value} {l c : Nat} {sz : Nat} {fz : Nat × Nat} {w1 : World} (hr : ROK base ι S a w st) (hw1 : w1 = w ∨ w1 = w.drew)
 (hrun : (execOp a.eval o).run P w = .ok (.value (.slice (some ⟨w.heap.size,0,none⟩) l c)) (w1.alloc (.cells cells e fz))) {vs : List Value} (hcells : cells = (vs ++ more).toArray) (r : au ι S w cs vs)
 (hf : ∀ o,o < vs.length + more.length → ¬ (fz.1 ≤ o ∧ o < fz.2)) (hlc : l ≤ c) (hcm : c ≤ maxLen) (hcz : c * sz ≤ vs.length + more.length) (k : K (.own st.h.length 0 l sz) (st.h ++ [.blk ⟨e,cs,true⟩])) : bk P o base ι S a w st K:=by
 have hd : Evo ι.length base ι S w ι S w1 ∧ HOK base ι S w1 st.h ∧ w1.heap = w.heap:=by
  rcases hw1 with rfl|rfl
  ·exact ⟨Evo.refl _ _ _ _ _,hr.hp,rfl⟩
  ·exact ⟨hr.hp.drew.1,hr.hp.drew.2,rfl⟩
 obtain ⟨hE,hH,hh⟩:=hd
 have hA:=hH.alloc e cs vs (au.evo hE (Nat.le_refl _) _ _ r) fz more hf
 rw [← hcells] at hA
 rw [hh] at hA
 refine cI hr hrun (hE.trans (Evo.alloc hH.bas (fun b o=>hH.stb b o) _ [.blk w.heap.size])) ?_ hA (by simp) k
 rw [Rep]
 refine ⟨w.heap.size,_,c,cells.size,e,by rw [← hr.hp.len];simp,rfl,hlc,hcm,.inr rfl, ?_,by rw [hcells];simpa using hcz⟩
 have hnew : (w1.alloc (.cells cells e fz)).heap[w.heap.size]? = some (.cells cells e fz):=by
  show (w1.heap.push _)[w.heap.size]? = _
  rw [← hh];simp
 unfold World.shape?
 rw [hnew]

theorem CM {e : TypeId} {cs : List AV} {sz len : Nat} {vs : List Value} (hr : ROK base ι S a w st)
 (hrun : (execOp a.eval o).run P w = .ok (.value (.slice (some ⟨w.heap.size,0,none⟩) len len)) (w.alloc (.cells vs.toArray e))) (r : au ι S w cs vs)
 (hlen : vs.length = len * sz) (hcm : len ≤ maxLen) (k : K (.sl sz (chunks sz len cs)) st.h) : bk P o base ι S a w st K:=by
 have hh:=hr.hp
 let S' : aJ:=fun b o=>S b o ∨ (b = w.heap.size ∧ o < vs.length)
 have hnew : (w.alloc (.cells vs.toArray e)).heap[w.heap.size]? = some (.cells vs.toArray e (0,0)):=by
  show (w.heap.push _)[w.heap.size]? = _
  simp
 have hE0 : Evo ι.length w.heap.size ι S w ι S (w.alloc (.cells vs.toArray e)):=by simpa using Evo.alloc (Nat.le_refl _) (fun b o=>hh.stb b o) (.cells vs.toArray e) []
 have hE : Evo ι.length w.heap.size ι S w ι S' (w.alloc (.cells vs.toArray e)):=⟨hE0.pre,fun _ _ q=>.inl q,fun b o q=>q.elim .inl (fun q=>.inr (by rw [q.1];exact Nat.le_refl _)),hE0.cell,hE0.shp,hE0.bel⟩
 have hH : HOK base ι S' (w.alloc (.cells vs.toArray e)) st.h:=hh.over hE (fun b o q=>by
  show b < (w.heap.push _).size
  rcases q with q|q
  ·have:=hh.stb b o q;simp;omega
  ·rw [q.1];simp)
 refine cI hr hrun (hE.mono (Nat.le_refl _) hh.bas) ?_ hH (Nat.le_refl _) k
 have hcl:=r.length
 obtain ⟨f1,f2⟩:=fM sz len cs (by rw [hcl,hlen];exact Nat.le_refl _)
 have hcells : bn ι S' (w.alloc (.cells vs.toArray e)) (chunks sz len cs).flatten w.heap.size 0:=by
  rw [f1]
  refine bn.mk fun i c ec=>?_
  have ec' : cs[i]? = some c:=by
   rw [List.getElem?_take] at ec
   split at ec
   ·exact ec
   ·cases ec
  obtain ⟨v,ev,rv⟩:=r.get i c ec'
  have hi:=(List.getElem?_eq_some_iff.1 ev).1
  refine ⟨v,by rw [Nat.zero_add,fx hnew];simpa using ev,.inr ⟨rfl,by omega⟩,Rep.evo hE (Nat.le_refl _) c v rv⟩
 rw [Rep]
 refine ⟨_,len,by rw [fC],by rw [fC];exact Nat.le_refl _,hcm,.inr ⟨w.heap.size,0,rfl, ?_⟩⟩
 exact bA.of_flat f2 hcells

theorem Mh {t e : TypeId} {len : Nat} {parts : Array (Nat × Operand)} {z : AV} (hr : ROK base ι S a w st) (ho : o.op = .buildSlice t len parts) (ht : P.underlying t = some (.slice e)) (hz : cU P e = some z)
 (hk : (zok P e && tOk P e && decide (len * P.cellsOf e ≤ 16777216) && decide (len ≤ 16777216)) = true) (h : fG e len (P.cellsOf e) z (parts.toList.map fun p=>(p.1 * P.cellsOf e,P.cellsOf e,ae st.fr p.2)) st.h K) : bk P o base ι S a w st K:=by
 simp only [Bool.and_eq_true,decide_eq_true_eq] at hk
 obtain ⟨⟨⟨hk1,hk2⟩,hk3⟩,hk4⟩:=hk
 obtain ⟨i,u,vs,hi,hu,rfl,euc,hvl,hce,hbe,rz⟩:=kF hk1 hz
 unfold fG at h
 split at h
 ·rename_i cs e'
  have r0:=nw (rz ι S w) len (len * P.cellsOf e) (by rw [(rz ι S w).length,hvl,hce])
  obtain ⟨q1,q2⟩:=parts_eq hr (fun i=>some (i * P.cellsOf e,P.cellsOf e)) parts
  obtain ⟨vs',e1,r1⟩:=kT (ι:=ι) (S:=S) (w:=w) (fun i=>some (i * P.cellsOf e,P.cellsOf e)) (parts.toList.map fun p=>(p.1,ae st.fr p.2,a.eval p.2)) _ _ cs r0 (fun p hpm=>⟨q1 p hpm,rfl⟩) (by
   rw [← e',List.map_map];rfl)
  simp only [Array.toArray_toList] at e1
  have hlen : vs'.length = len * P.cellsOf e:=by
   have hb : ∀ (ps : List (Nat × Nat × AV)) (c r : List AV),dQ c ps = some r → r.length = c.length:=by
    intro ps
    induction ps with
    | nil=>intro c r h;simp only [dQ,Option.some.injEq] at h;rw [h]
    | cons p ps ih =>
      intro c r h
      obtain ⟨o,n,x⟩:=p
      simp only [dQ] at h
      split at h
      ·rw [ih _ _ h,j6]
      ·cases h
   rw [← r1.length,hb _ _ _ e',ir,(rz ι S w).length,hvl,hce]
  have hrun : (execOp a.eval o).run P w = .ok (.value (.slice (some ⟨w.heap.size,0,none⟩) len len)) (w.alloc (.cells vs'.toArray e)):=?_
  ·split at h
   ·obtain ⟨hE,hH⟩:=hr.hp.other (.cells vs'.toArray e)
    exact cI hr hrun hE (by rw [Rep];exact ⟨_,rfl⟩) hH (Nat.le_refl _) h
   ·exact l4 (more:=[]) (fz:=(0,0)) hr (.inl rfl) hrun (by simp) r1 (fun o _=>by simp) (Nat.le_refl _) (by unfold maxLen;omega) (by simp [hlen]) h
  simp only [execOp,ho]
  refine cV ?_
  have hn : ¬ len * P.cellsOf e > 2 ^ 24:=by
   have : (2 : Nat) ^ 24 = 16777216:=by decide
   omega
  have hzero : (zeroValue e).run P w = .ok u w:=by simp [zeroValue,gL hi,hu]
  have hmade : madeCells vs.toArray (len * P.cellsOf e) = (Array.range (len * P.cellsOf e)).map (vs.toArray[· % vs.toArray.size]!):=rfl
  simp only [Instr.buildSlice,Sem.run_bind,run_underlying ht,Result.andThen_ok,cn hk2,hn,if_false,Sem.run_pure]
  by_cases h0 : len * P.cellsOf e = 0
  ·simp only [h0,if_true,Sem.run_bind,Sem.run_pure,Result.andThen_ok]
   have : madeCells vs.toArray (len * P.cellsOf e) = (Array.range 0).map fun x=>(#[] : Array Value)[x % (#[] : Array Value).size]!:=by
    rw [h0];apply Array.ext';simp [madeCells]
   rw [this,← q2] at e1
   have e2 : Instr.fill (fun i=>some (i * P.cellsOf e,P.cellsOf e)) (Array.map (fun x=>(#[] : Array Value)[x % (#[] : Array Value).size]!) (Array.range 0)) (Array.map (fun x=>(x.fst,a.eval x.snd)) parts).toList = some vs'.toArray:=e1
   rw [e2]
   simp [newRow]
  ·simp only [h0,if_false,Sem.run_bind,hzero,Result.andThen_ok,Sem.run_pure]
   rw [hmade,← euc,← q2] at e1
   rw [e1]
   simp [newRow]
 ·exact h.elim

theorem Kc {t e : TypeId} {len : Nat} {parts : Array (Nat × Operand)} {z : AV} (hr : ROK base ι S a w st) (ho : o.op = .buildSlice t len parts) (ht : P.underlying t = some (.slice e)) (hz : cU P e = some z)
 (hk : (zok P e && tOk P e && decide (len * P.cellsOf e ≤ 16777216) && decide (len ≤ 16777216)) = true) (h : bP len (P.cellsOf e) z (parts.toList.map fun p=>(p.1 * P.cellsOf e,P.cellsOf e,ae st.fr p.2)) fun v=>K v st.h) : bk P o base ι S a w st K:=by
 simp only [Bool.and_eq_true,decide_eq_true_eq] at hk
 obtain ⟨⟨⟨hk1,hk2⟩,hk3⟩,hk4⟩:=hk
 obtain ⟨i,u,vs,hi,hu,rfl,euc,hvl,hce,hbe,rz⟩:=kF hk1 hz
 unfold bP at h
 split at h
 ·rename_i cs e'
  have r0:=nw (rz ι S w) len (len * P.cellsOf e) (by rw [(rz ι S w).length,hvl,hce])
  obtain ⟨q1,q2⟩:=parts_eq hr (fun i=>some (i * P.cellsOf e,P.cellsOf e)) parts
  obtain ⟨vs',e1,r1⟩:=kT (ι:=ι) (S:=S) (w:=w) (fun i=>some (i * P.cellsOf e,P.cellsOf e)) (parts.toList.map fun p=>(p.1,ae st.fr p.2,a.eval p.2)) _ _ cs r0 (fun p hpm=>⟨q1 p hpm,rfl⟩) (by
   rw [← e',List.map_map];rfl)
  simp only [Array.toArray_toList] at e1
  have hlen : vs'.length = len * P.cellsOf e:=by
   have hb : ∀ (ps : List (Nat × Nat × AV)) (c r : List AV),dQ c ps = some r → r.length = c.length:=by
    intro ps
    induction ps with
    | nil=>intro c r h;simp only [dQ,Option.some.injEq] at h;rw [h]
    | cons p ps ih =>
      intro c r h
      obtain ⟨o,n,x⟩:=p
      simp only [dQ] at h
      split at h
      ·rw [ih _ _ h,j6]
      ·cases h
   rw [← r1.length,hb _ _ _ e',ir,(rz ι S w).length,hvl,hce]
  have hrun : (execOp a.eval o).run P w = .ok (.value (.slice (some ⟨w.heap.size,0,none⟩) len len)) (w.alloc (.cells vs'.toArray e)):=?_
  ·exact CM hr hrun r1 hlen (by unfold maxLen;omega) h
  simp only [execOp,ho]
  refine cV ?_
  have hn : ¬ len * P.cellsOf e > 2 ^ 24:=by
   have : (2 : Nat) ^ 24 = 16777216:=by decide
   omega
  have hzero : (zeroValue e).run P w = .ok u w:=by simp [zeroValue,gL hi,hu]
  have hmade : madeCells vs.toArray (len * P.cellsOf e) = (Array.range (len * P.cellsOf e)).map (vs.toArray[· % vs.toArray.size]!):=rfl
  simp only [Instr.buildSlice,Sem.run_bind,run_underlying ht,Result.andThen_ok,cn hk2,hn,if_false,Sem.run_pure]
  by_cases h0 : len * P.cellsOf e = 0
  ·simp only [h0,if_true,Sem.run_bind,Sem.run_pure,Result.andThen_ok]
   have : madeCells vs.toArray (len * P.cellsOf e) = (Array.range 0).map fun x=>(#[] : Array Value)[x % (#[] : Array Value).size]!:=by
    rw [h0];apply Array.ext';simp [madeCells]
   rw [this,← q2] at e1
   have e2 : Instr.fill (fun i=>some (i * P.cellsOf e,P.cellsOf e)) (Array.map (fun x=>(#[] : Array Value)[x % (#[] : Array Value).size]!) (Array.range 0)) (Array.map (fun x=>(x.fst,a.eval x.snd)) parts).toList = some vs'.toArray:=e1
   rw [e2]
   simp [newRow]
  ·simp only [h0,if_false,Sem.run_bind,hzero,Result.andThen_ok,Sem.run_pure]
   rw [hmade,← euc,← q2] at e1
   rw [e1]
   simp [newRow]
 ·exact h.elim

theorem Mf {t e : TypeId} {x y : Operand} {z : AV} (hr : ROK base ι S a w st) (ho : o.op = .makeSlice t x y) (ht : P.underlying t = some (.slice e)) (hz : cU P e = some z) (hk : (zok P e && decide (0 < P.cellsOf e)) = true)
 (h : pq e (P.cellsOf e) (dA P e) z (ae st.fr x) (ae st.fr y) st.h K) : bk P o base ι S a w st K:=by
 simp only [Bool.and_eq_true,decide_eq_true_eq] at hk
 obtain ⟨i,u,vs,hi,hu,rfl,euc,hvl,hce,hbe,rz⟩:=kF hk.1 hz
 have hx:=hr.eval x
 have hy:=hr.eval y
 unfold pq at h
 split at h
 ·rename_i kl l kc c e1 e2
  obtain ⟨⟨g1,g2,g3,g4⟩,h⟩:=h
  rw [e1,bL] at hx
  rw [e2,bL] at hy
  have r0:=nw (rz ι S w) c.toNat (c.toNat * P.cellsOf e) (by rw [(rz ι S w).length,hvl,hce])
  have hrun:=run_make (P:=P) w t e i u ht hi hu kl kc l c g1 g2 (by rw [← hbe];exact g3) g4
  refine l4 (more:=[]) (fz:=(0,0)) hr (.inl rfl) (cells:=madeCells vs.toArray (c.toNat * P.cellsOf e)) (l:=l.toNat) (c:=c.toNat) ?_ (by simp) r0 (fun o _=>by simp) (by omega) (by unfold maxLen;omega) (by simp [madeCells]) h
  simp only [execOp,ho,hx,hy]
  refine cV ?_
  rw [hrun,euc,hce]
 ·exact h.elim

omit [Laid] in
theorem uE {e : TypeId} (h : oQ P e = true) : P.underlying e = some (.int .u8):=by
 unfold oQ at h
 split at h
 ·assumption
 ·cases h

theorem FD {s d e : TypeId} {x : Operand} (hr : ROK base ι S a w st) (ho : o.op = .convert s d x) (hs : P.underlying s = some .string) (hd : P.underlying d = some (.slice e)) (he : oQ P e = true)
 (h : gK e (ae st.fr x) st.h K) : bk P o base ι S a w st K:=by
 have hx:=hr.eval x
 unfold gK at h
 split at h
 ·rename_i l e1
  rw [e1,dk] at hx
  obtain ⟨ev,hl⟩:=hx
  have hrun:=run_bytes_of_string (P:=P) w s d e ⟨l.toArray⟩ hs hd (uE he)
  have hge:=grownCap_ge w l.length 0 e
  have hcm:=grownCap_le_maxLen w l.length 0 e hl
  have hsz : (⟨l.toArray⟩ : ByteArray).size = l.length:=by simp [ByteArray.size]
  rw [hsz] at hrun
  have hrow : bytesRow ⟨l.toArray⟩ (grownCap w l.length 0 e) = ((l.map fun (b : UInt8)=>Value.int .u8 b.toNat) ++ List.replicate (grownCap w l.length 0 e - l.length) (Value.int .u8 0)).toArray:=by
   apply Array.ext'
   simp [bytesRow,hsz]
  refine l4 (vs:=l.map fun (b : UInt8)=>Value.int .u8 b.toNat) (more:=List.replicate (grownCap w l.length 0 e - l.length) (Value.int .u8 0)) (fz:=((bytesRow ⟨l.toArray⟩ (grownCap w l.length 0 e)).size,(bytesRow ⟨l.toArray⟩ (grownCap w l.length 0 e)).size + 1)) hr (.inr rfl) (l:=l.length) (c:=grownCap w l.length 0 e) ?_ hrow ?_ ?_ hge hcm ?_ h
  ·simp only [execOp,ho,ev]
   exact cV hrun
  ·refine au.mk (by simp) fun i c v q1 q2=>?_
   simp only [List.getElem?_map] at q1 q2
   cases hl : l[i]? with
   | none=>rw [hl] at q1;cases q1
   | some b =>
     rw [hl] at q1 q2
     simp only [Option.map_some,Option.some.injEq] at q1 q2
     subst q1;subst q2
     simp [fe]
  ·intro o ho'
   rw [hrow]
   simp only [List.size_toArray,List.length_append]
   omega
  ·simp;omega
 ·exact h.elim

omit [Laid] in
theorem HL {cs : List AV} {vs : List Value} : ∀ {l : List UInt8},au ι S w cs vs → unB cs = some l → ∃ ns : List Int,vs = ns.map (Value.int .u8) ∧ l = ns.map fun n=>UInt8.ofNat n.toNat:=by
 induction cs generalizing vs with
 | nil=>intro l h e;simp at h;simp [unB] at e;subst h;subst e;exact ⟨[],rfl,rfl⟩
 | cons c cs ih =>
   intro l h e
   cases vs with
   | nil=>simp at h
   | cons v vs =>
     simp only [bD] at h
     unfold unB at e
     split at e
     ·rename_i q;cases q
     ·rename_i n r q
      simp only [List.cons.injEq] at q
      obtain ⟨rfl,rfl⟩:=q
      simp only [Option.map_eq_some_iff] at e
      obtain ⟨l',e',rfl⟩:=e
      obtain ⟨ns,rfl,rfl⟩:=ih h.2 e'
      have:=h.1
      rw [bL] at this
      subst this
      exact ⟨n :: ns,rfl,rfl⟩
     ·cases e

omit [Laid] in
theorem foldl_push : ∀ (ns : List Int) (r : ByteArray),ns.foldl (fun r n=>r.push (UInt8.ofNat n.toNat)) r = ⟨r.data ++ (ns.map fun n=>UInt8.ofNat n.toNat).toArray⟩
 | [],r=>by simp
 | n :: ns,r=>by
   simp only [List.foldl_cons,List.map_cons]
   rw [foldl_push ns]
   simp [ByteArray.push]

theorem FA {s d e : TypeId} {x : Operand} (hr : ROK base ι S a w st) (ho : o.op = .convert s d x) (hs : P.underlying s = some (.slice e)) (hd : P.underlying d = some .string) (he : oQ P e = true)
 (h : fk (ae st.fr x) st.h fun v=>K v st.h) : bk P o base ι S a w st K:=by
 unfold fk at h
 split at h
 ·rename_i l hl
  simp only [Option.bind_eq_some_iff] at hl
  obtain ⟨rows,hsrc,hl⟩:=hl
  obtain ⟨ad,cap,vs,ev,hm,rv,hfl,hcell⟩:=l8 hr.hp (hr.eval x) hsrc
  rw [Nat.mul_one] at hfl
  have hvl : vs.length = rows.length:=by rw [← rv.length,hfl]
  obtain ⟨ns,rfl,hl'⟩:=HL rv hl
  have hll : l.length = rows.length:=by rw [hl',← hvl];simp
  refine aM hr (u:=.string ⟨l.toArray⟩) ?_ (by rw [dk];exact ⟨rfl,by omega⟩) h
  simp only [execOp,ho,ev]
  refine cV ?_
  rw [run_convert_bytes_string w s d e ad rows.length cap hs (uE he) hd]
  rcases hcell with ⟨rfl,hv,_⟩|⟨b,rfl,hcell⟩
  ·have : ns = []:=by simpa using hv
   subst this
   simp only [List.map_nil] at hl'
   subst hl'
   rfl
  ·have hload : (loadCells b rows.length).run P w = .ok (ns.map (Value.int .u8)).toArray w:=by
    rw [← hvl];exact run_loadCells_list (P:=P) w b _ hcell
   rw [run_bytesToString w b rows.length cap ns hload,foldl_push,← hl',show ByteArray.empty.data = #[] from rfl,Array.empty_append]
 ·exact h.elim
end
end Go.Aw
end

section
namespace Go.Aw
open Go Go.RowKit
variable [Laid]

section
variable {P : Program} {o : Oper} {base : Nat} {ι : List Ix} {S : aJ} {a : Act} {w : World} {st : St} {K : AV → aa → Prop}

theorem Nw {t : TypeId} {x : Operand} (hr : ROK base ι S a w st) (ho : o.op = .makeInterface t x) (hc : P.concrete t = true) (h : wE t (ae st.fr x) fun v=>K v st.h) : bk P o base ι S a w st K:=by
 refine aM hr (u:=.iface t (a.eval x)) ?_ ?_ h
 ·simp only [execOp,ho]
  exact cV (run_makeInterface w t _ hc)
 ·rw [Rep];exact ⟨_,rfl,hr.eval x⟩

theorem Nm {xT asserted : TypeId} {x : Operand} (hr : ROK base ι S a w st) (ho : o.op = .typeAssert x xT asserted true) (h : oH (B9 P asserted) (ae st.fr x) fun v=>K v st.h) : bk P o base ι S a w st K:=by
 have hx:=hr.eval x
 unfold oH at h
 split at h
 ·rename_i t v e
  rw [e] at hx
  have hx':=hx
  rw [Rep] at hx
  obtain ⟨u,ev,r⟩:=hx
  obtain ⟨hh,h⟩:=h
  unfold B9 at hh
  split at hh
  ·rename_i want i hu hi
   refine aM hr (u:=.tuple #[.iface t u,.bool true]) ?_ ?_ h
   ·simp only [execOp,ho,ev]
    exact cV (run_typeAssert_has hu hi (List.isEmpty_iff.1 hh))
   ·rw [Rep]
    refine ⟨[.iface t u,.bool true],by simp, ?_⟩
    rw [ev] at hx'
    simp [hx']
  ·cases hh
 ·exact h.elim

omit [Laid] in
theorem qz {name : String} {t : TypeId} {f : FuncId} (v : Value) (h : ml P name t = some f) : cq P f = true ∧ (method (P.types.size + Made.depth) t v name).run P w = .ok (f,v) w ∧ (nilAhead (P.types.size + Made.depth) t v name).run P w = .ok (some false) w:=by
 unfold ml at h
 split at h
 ·rename_i i e hi hu
  split at h
  ·rename_i m hm
   split at h
   ·rename_i g hp hf
    split at h
    ·rename_i hb
     cases h
     have hpath : m.path.toList = []:=hp
     obtain ⟨d,hd⟩ : ∃ d,P.types.size + Made.depth = d + 1:=Nat.exists_eq_succ_of_ne_zero (by have : 0 < Made.depth:=(by decide);show P.types.size + Made.depth ≠ 0;exact Nat.ne_of_gt (Nat.lt_of_lt_of_le this (Nat.le_add_left _ _)))
     refine ⟨hb, ?_, ?_⟩
     ·rw [hd]
      simp only [method,Sem.run_bind,gL hi,Result.andThen_ok,hm,hpath,follow,Sem.run_pure,hf,receiverAt,run_underlying hu,Place.get]
     ·rw [hd]
      simp only [nilAhead,Sem.run_bind,gL hi,Result.andThen_ok,hm,hpath,followBlind,Sem.run_pure,hf]
    ·cases h
   ·cases h
  ·cases h
 ·cases h

theorem Mi {x : Operand} (hr : ROK base ι S a w st) (ho : o.op = .nilCheck x) (h : dt P (ae st.fr x) fun v=>K v st.h) : bk P o base ι S a w st K:=by
 have hx:=hr.eval x
 unfold dt at h
 split at h
 ·rename_i name t v r ys e
  rw [e] at hx
  have hx':=hx
  rw [Rep] at hx
  obtain ⟨vs,us,ev,r1,r2⟩:=hx
  obtain ⟨hm,h⟩:=h
  obtain ⟨f,hf⟩:=Option.isSome_iff_exists.1 hm
  cases vs with
  | nil=>simp at r1
  | cons y vs =>
    simp only [bD] at r1
    have ry:=r1.1
    rw [Rep] at ry
    obtain ⟨u,rfl,_⟩:=ry
    refine aM hr (u:=a.eval x) ?_ hx' h
    obtain ⟨_,_,hn⟩:=qz (w:=w) u hf
    simp only [execOp,ho,ev]
    simp only [List.getElem?_toArray,List.getElem?_cons_zero,Sem.run_bind,run_program,Result.andThen_ok,hn]
    simp
 ·rename_i e _
  exact Ny hr ho h

theorem Ns {c : Call} {x : Operand} {name : String} (hr : ROK base ι S a w st) (ho : o.op = .call c) (hc : c.callee = .invoke x name) (h : wD P (ml P name) (ae st.fr x) (c.args.toList.map (ae st.fr)) st.h K) : bk P o base ι S a w st K:=by
 have hv:=hr.eval x
 unfold wD at h
 split at h
 ·rename_i t y e
  split at h
  ·rename_i f hf
   rw [e,Rep] at hv
   obtain ⟨v,ev,rv⟩:=hv
   obtain ⟨hb,hm,_⟩:=qz (w:=w) v hf
   obtain ⟨fn,hfn,hb⟩ : ∃ fn,P.funcs[f]? = some fn ∧ (fn.body.isSome && fn.name != "runtime.NumGoroutine") = true:=by
    unfold cq at hb
    cases hq : P.funcs[f]? with
    | none=>rw [hq] at hb;cases hb
    | some fn=>rw [hq] at hb;exact ⟨fn,rfl,hb⟩
   simp only [Bool.and_eq_true,bne_iff_ne,ne_eq] at hb
   have hargs : au ι S w (y :: c.args.toList.map (ae st.fr)) (v :: c.args.toList.map a.eval):=by simpa using ⟨rv,au.vh hr _⟩
   have hrun : (execOp a.eval o).run P w = .ok (.enter f (v :: c.args.toList.map a.eval).toArray) w:=by
    have e2 : #[v] ++ (#[Value.iface t v] ++ c.args.map a.eval).extract 1 (#[Value.iface t v] ++ c.args.map a.eval).size = (v :: c.args.toList.map a.eval).toArray:=by
     apply Array.ext'
     simp
     rw [List.take_of_length_le (by simp)]
    have e3 : (#[Value.iface t v] ++ c.args.map a.eval)[0]? = some (.iface t v):=by
     rw [Array.getElem?_append_left (by simp)];rfl
    have hne : (fn.name == "runtime.NumGoroutine") = false:=by simpa using hb.2
    have hbn : fn.body.isNone = false:=by cases hbb : fn.body <;> simp_all
    simp only [execOp,ho,resolve,hc,Sem.run_bind,ev,Sem.run_pure,Result.andThen_ok,invoke,e3,callMethod,run_program,hm,e2,callFunc,hfn,hne,hbn,Bool.false_eq_true,if_false]
   intro Q
   unfold Oper.wp
   rw [hrun,Oper.upon_enter]
   refine (h base ι S w _ hargs hr.hp).mono ?_
   rintro e w' ⟨v,ι',S',r,h',rfl,hE,rv,hH,hl,k⟩
   refine ⟨ι',S',r,h', ?_, ?_,hl,k⟩
   ·rw [hr.hp.len];exact hE
   ·have : ROK base ι' S' a w' ⟨st.n,st.fr,h'⟩:=⟨hr.df,hr.sz,cp.evo hE (by rw [hr.hp.len];exact Nat.le_refl _) hr.fr,hH⟩
    exact this.put o.dst rv
  ·exact h.elim
 ·exact h.elim

theorem mF {neg b : Bool} {t yt : TypeId} {x y : Operand} (hr : ROK base ι S a w st) (ho : o.op = .binOp (if neg then .neq else .eql) t x y yt)
 (hg : (eqGuard (if neg then .neq else .eql) t x y (a.eval x) (a.eval y)).run P w = .ok () w) (hb : (binOp (if neg then .neq else .eql) t (a.eval x) (a.eval y)).run P w = .ok (.bool (fo neg b)) w) (k : K (bool (fo neg b)) st.h) : bk P o base ι S a w st K:=by
 refine aM hr (u:=.bool (fo neg b)) ?_ (by simp) k
 simp only [execOp,ho]
 refine cV ?_
 rw [Sem.run_bind,hg]
 simp only [Result.andThen_ok]
 exact hb

omit [Laid] in
theorem sL {neg b : Bool} {t : TypeId} {x y : Value} (h : (Op.equal t x y).run P w = .ok b w) (hx : (∃ p,x = .pointer p) ∨ ∃ p l c,x = .slice p l c) : (binOp (if neg then .neq else .eql) t x y).run P w = .ok (.bool (fo neg b)) w:=by
 rcases hx with ⟨p,rfl⟩|⟨p,l,c,rfl⟩ <;> cases neg <;> simp [binOp,h,fo]

theorem Fz {neg : Bool} {t yt : TypeId} {x y : Operand} {d : TypeDesc} (hr : ROK base ι S a w st) (ho : o.op = .binOp (if neg then .neq else .eql) t x y yt) (ht : P.underlying t = some d)
 (h : lX neg d y (ae st.fr x) fun v=>K v st.h) : bk P o base ι S a w st K:=by
 have hx:=hr.eval x
 unfold lX at h
 split at h
 ·rename_i ms
  have hm : P.underlying t = some (.interface (P.methodsAt t)):=by unfold Program.methodsAt;rw [ht]
  have hy : a.eval (.const .nilIface) = .nilIface:=rfl
  unfold j0 at h
  split at h
  ·rename_i b hb
   unfold pF at hb
   split at hb
   ·rename_i e
    cases hb
    rw [e,bL] at hx
    refine mF (b:=true) hr ho ?_ ?_ h
    ·rw [hx,hy];cases neg <;> cases x <;> rfl
    ·rw [hx,hy]
     cases neg with
     | true=>exact run_neq_nil_nil w t hm
     | false=>exact run_eql_nil_nil w t hm
   ·rename_i u z e
    cases hb
    rw [e,Rep] at hx
    obtain ⟨v,hx,_⟩:=hx
    refine mF (b:=false) hr ho ?_ ?_ h
    ·rw [hx,hy];cases neg <;> rfl
    ·rw [hx,hy]
     cases neg with
     | true=>exact run_neq_held_nil w t u v hm
     | false=>exact run_eql_held_nil w t u v hm
   ·cases hb
  ·exact h.elim
 ·rename_i el
  have hy : a.eval (.const (.pointer none)) = .pointer none:=rfl
  have fin : ∀ (p : Option Addr),a.eval x = .pointer p → K (bool (fo neg p.isNone)) st.h → bk P o base ι S a w st K:=by
   intro p hv k
   have he : (Op.equal t (.pointer p) (.pointer none)).run P w = .ok p.isNone w:=by
    have : ∀ d,(Op.equalIn (d + 1) t (.pointer p) (.pointer none)).run P w = .ok p.isNone w:=fun d=>by cases p <;> simp [Op.equalIn,run_underlying ht]
    exact this 9999
   refine mF (b:=p.isNone) hr ho ?_ ?_ k
   ·rw [hv,hy];exact eT rfl (by intro q;cases q)
   ·rw [hv,hy];exact sL he (.inl ⟨_,rfl⟩)
  unfold j0 at h
  split at h
  ·rename_i b hb
   unfold nz at hb
   split at hb
   ·rename_i e;cases hb;rw [e,bL] at hx;exact fin none hx h
   ·rename_i e;cases hb;rw [e,Rep] at hx;obtain ⟨b,_,hx⟩:=hx;exact fin (some _) hx h
   ·rename_i e;cases hb;rw [e,Rep] at hx;obtain ⟨b,off,hx,_⟩:=hx;exact fin (some _) hx h
   ·cases hb
  ·exact h.elim
 ·rename_i el l0 c0
  have hy : a.eval (.const (.slice none l0 c0)) = .slice none l0 c0:=rfl
  have fin : ∀ (p : Option Addr) (l c : Nat),a.eval x = .slice p l c → K (bool (fo neg p.isNone)) st.h → bk P o base ι S a w st K:=by
   intro p l c hv k
   have he : (Op.equal t (.slice p l c) (.slice none l0 c0)).run P w = .ok p.isNone w:=by
    have : ∀ d,(Op.equalIn (d + 1) t (.slice p l c) (.slice none l0 c0)).run P w = .ok p.isNone w:=fun d=>by cases p <;> simp [Op.equalIn,run_underlying ht]
    exact this 9999
   refine mF (b:=p.isNone) hr ho ?_ ?_ k
   ·rw [hv,hy];exact eT rfl (by intro q;cases q)
   ·rw [hv,hy];exact sL he (.inr ⟨_,_,_,rfl⟩)
  unfold j0 at h
  split at h
  ·rename_i b hb
   unfold pG at hb
   split at hb
   ·rename_i e;cases hb;rw [e,bL] at hx;exact fin none _ _ hx h
   ·rename_i id off len sz e
    split at hb
    ·cases hb
    ·cases hb
     rw [e,Rep] at hx
     obtain ⟨bb,p,cap,n,ty,_,ev,c2,_,c4,_⟩:=hx
     rcases c4 with c4|c4
     ·omega
     ·subst c4;exact fin (some _) _ _ ev h
   ·rename_i sz rows e
    split at hb
    ·cases hb
    ·cases hb
     rw [e,Rep] at hx
     obtain ⟨p,cap,ev,_,_,c3⟩:=hx
     rcases c3 with c3|⟨bb,off,rfl,_⟩
     ·cases c3
     ·exact fin (some _) _ _ ev h
   ·rename_i id sz rows e
    split at hb
    ·cases hb
    ·cases hb
     rw [e,Rep] at hx
     obtain ⟨⟨p,cap,ev,_,_,c3⟩,_⟩:=hx
     rcases c3 with c3|⟨bb,off,rfl,_⟩
     ·cases c3
     ·exact fin (some _) _ _ ev h
   ·cases hb
  ·exact h.elim
 ·exact h.elim
end
end Go.Aw
end
