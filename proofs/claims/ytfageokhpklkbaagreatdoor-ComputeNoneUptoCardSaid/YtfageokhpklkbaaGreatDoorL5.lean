/-
  Steps through a printed text,one word at a time: each lemma takes the word at the head,and nothing behind it is looked at. Loops whose rounds leave memory behind: what lies behind the first places is let go;nil slices that grow from now on. Less is said,at every memory;joins where one state is known;contracts that speak of calls. Steps through a printed text where what is compared is not known: conditions stay as they are until a way parts. Less is said of what lies deep in what is told: a nil slice is a slice with nothing in it. Steps for slices that grow.
  No conditions.
-/
import Derived.Test.YtfageokhpklkbaaGreatDoorL2
import Derived.Test.YtfageokhpklkbaaGreatDoorL4
set_option linter.unusedVariables false
set_option linter.unusedSimpArgs false
section
namespace Go.Aw
open Go Go.RowKit
variable {K : AV → Prop} {A B : Prop} {h : aa}

theorem aG {k : (List AV → aa → Prop) → Prop} {f : List AV → aa → Prop} (q : k f) : aQ k f:=q
theorem cZ {c : AV} {w : Bool} (e : c = .v undef) (q : B) : aK c w A B:=by subst e;simpa using q
theorem aE {c a b : AV} (e : c = .v (.bool true)) (q : K a) : a8 c a b K:=by subst e;simpa using q
theorem ax {c a b : AV} (e : c = .v (.bool false)) (q : K b) : a8 c a b K:=by subst e;simpa using q
theorem ar {X : Prop} {a : List AV} (q : X) : a = a ∧ X:=⟨rfl,q⟩
theorem aP {x y : AV} {a b : Int} (ex : x = int a) (ey : y = int b) (c : inI (a + b)) (q : K (int (a + b))) : af .add x y K:=by subst ex;subst ey;simpa using ⟨c,q⟩
theorem kE {x y : AV} {a b : Int} (ex : x = int a) (ey : y = int b) (c : inI (a - b)) (q : K (int (a - b))) : af .sub x y K:=by subst ex;subst ey;simpa using ⟨c,q⟩
theorem aC {off id o : Nat} {x : AV} (e : x = .op id o) (q : K (.op id (o + off))) : ah off x K:=by subst e;exact q
theorem aD {id o : Nat} {x : AV} {b : Blk} {c : AV} (e : x = .op id o) (hb : h[id]? = some (.blk b)) (hc : b.cells[o]? = some c) (q : K c) : ab false 1 x h K:=by
 subst e
 rw [y6,hb]
 have hl:=(List.getElem?_eq_some_iff.1 hc).1
 simp only [ldP]
 rw [List.drop_eq_getElem_cons hl]
 rw [(List.getElem?_eq_some_iff.1 hc).2];exact q
theorem ba {id o n : Nat} {x : AV} {b : Blk} (e : x = .op id o) (hb : h[id]? = some (.blk b)) (hn : n ≤ (b.cells.drop o).length) (q : K (.agg ((b.cells.drop o).take n))) : ab true n x h K:=by
 subst e
 rw [y6,hb]
 exact ⟨hn,q⟩
theorem bN {t : TypeId} {v : AV} {KH : AV → aa → Prop} (e : (bc v).all cv = true) (q : KH (.op h.length 0) (h ++ [.blk ⟨t,bc v,true⟩])) : bz t v h KH:=⟨e,q⟩
theorem b6 [Laid] {P : Program} {f : FuncId} {args args' : List AV} {r : AV} {KH : AV → aa → Prop} (e : args = args') (hb : cq P f = true) (c : Con P f args' r) (k : KH r h) : aH P (.fn (.func f) [] []) args h KH:=by
 subst e;exact aI hb c k
theorem Mr {i : Nat} {x : AV} {cs : List AV} {c : AV} (e : x = .tup cs) (hc : cs[i]? = some c) (q : K c) : bh i x K:=by subst e;rw [Jz,hc];exact q
end Go.Aw
end

section
namespace Go.Aw
open Go Go.RowKit
variable [Laid]
theorem Wk.OS {L M : Nat} {h : aa} {s : List AV} (hL : L ≤ M) (hM : M ≤ h.length) (hb : ∀ e ∈ h.take M,dg M e) (hs : ∀ a ∈ s,Bd M a) : Wk L s h s (h.take M) :=
 ⟨by simp;omega,rfl,fun base ι S w vs r k=>by
  obtain ⟨hE,hT⟩:=k.cut hM hb
  exact ⟨_,_,hE.mono hL (Nat.le_refl _),au.mk r.length fun i a v e f=>by
   obtain ⟨u,hu,ru⟩:=r.get i a e
   rw [f] at hu
   cases hu
   exact Rep.eD hE a v (hs a (List.mem_of_getElem? e)) ru,hT⟩⟩
theorem Wk.nil {n : Nat} {s : List AV} {h : aa} (hn : n ≤ h.length) (i : Nat) (hi : s[i]? = some (.v (.slice none 0 0))) : Wk n s h (s.set i .emp) h:=by
 refine ⟨hn,by simp,fun base ι S w vs r k=>?_⟩
 obtain ⟨v,hv,rv⟩:=r.get i _ hi
 rw [bL] at rv
 subst rv
 have r2:=r.set i .emp (.slice none 0 0) (by rw [Rep];exact ⟨_,rfl⟩)
 have : vs.set i (.slice none 0 0) = vs:=by
  refine List.ext_getElem? fun j=>?_
  by_cases q : j = i
  ·subst q;rw [List.getElem?_set_self (List.getElem?_eq_some_iff.1 hv).1,hv]
  ·rw [List.getElem?_set_ne (Ne.symm q)]
 rw [this] at r2
 exact ⟨ι,S,Evo.refl _ _ _ _ _,r2,k⟩
end Go.Aw
end

section
namespace Go.Aw
open Go Go.RowKit
variable [Laid]
def RLe (a b : AV) : Prop:=∀ ι S w v,Rep ι S w a v → Rep ι S w b v
omit [Laid] in
theorem RLe.refl (a : AV) : RLe a a:=fun _ _ _ _ h=>h
omit [Laid] in
theorem RLe.nil (sz : Nat) : RLe (.v (.slice none 0 0)) (.sl sz []):=fun _ _ _ _ r=>by
 rw [bL] at r
 subst r
 rw [Rep]
 exact ⟨none,0,rfl,Nat.le_refl _,Nat.zero_le _,.inl rfl⟩
omit [Laid] in
theorem o7 {k : (List AV → aa → Prop) → Prop} {f : List AV → aa → Prop} (s : List AV) (h : aa) (q : f s h) (hk : ∀ F : List AV → aa → Prop,F s h → k F) : aQ k f:=hk f q
theorem cz {P : Program} {f : FuncId} {args args' : List AV} {r : AV} {h : aa} {K : AV → Prop} (e : args = args') (hb : cq P f = true) (c : Con P f args' r) (k : K r) : cK P (.fn (.func f) [] []) args h K:=by
 subst e
 exact ⟨r,aI hb c ⟨rfl,rfl⟩,k⟩
omit [Laid] in
theorem sW {m : Nat} {x i : AV} {rows : List (List AV)} {n : Nat} {K : AV → Prop} (ex : x = .sl m rows) (ei : i = int n) (hn : n < rows.length) (q : K (.ip (rows.getD n []))) : aO m x i K:=by
 subst ex;subst ei
 rw [y5]
 exact ⟨rfl,⟨by omega,by omega⟩,by simpa using q⟩
omit [Laid] in
theorem aR {x c : AV} {r : List AV} {h : aa} {K : AV → Prop} (e : x = .ip (c :: r)) (q : K c) : ab false 1 x h K:=by subst e;exact q
end Go.Aw
end

section
namespace Go.Aw
open Go Go.RowKit
section
variable {K : AV → Prop} {A B : Prop} {h : aa}
theorem aF {k : IntKind} {x y : AV} {a b : Int} (ex : x = .v (.int k a)) (ey : y = .v (.int k b)) (q : K (.v (.bool (decide (a < b))))) : af .lss x y K:=by subst ex;subst ey;simpa using q
theorem eE {k : IntKind} {x y : AV} {a b : Int} (ex : x = .v (.int k a)) (ey : y = .v (.int k b)) (q : K (.v (.bool (decide (a ≤ b))))) : af .leq x y K:=by subst ex;subst ey;simpa using q
theorem bW {k : IntKind} {x y : AV} {a b : Int} (ex : x = .v (.int k a)) (ey : y = .v (.int k b)) (q : K (.v (.bool (decide (b < a))))) : af .gtr x y K:=by subst ex;subst ey;simpa using q
theorem dq {k : IntKind} {x y : AV} {a b : Int} (ex : x = .v (.int k a)) (ey : y = .v (.int k b)) (q : K (.v (.bool (decide (b ≤ a))))) : af .geq x y K:=by subst ex;subst ey;simpa using q
theorem bR {k : IntKind} {x y : AV} {a b : Int} (ex : x = .v (.int k a)) (ey : y = .v (.int k b)) (q : K (.v (.bool (decide (a = b))))) : af .eql x y K:=by subst ex;subst ey;simpa using q
theorem bE {k : IntKind} {x y : AV} {a b : Int} (ex : x = .v (.int k a)) (ey : y = .v (.int k b)) (q : K (.v (.bool (!decide (a = b))))) : af .neq x y K:=by subst ex;subst ey;simpa using q
theorem de {x y : AV} {a b : List UInt8} (ex : x = .str a) (ey : y = .str b) (q : K (.v (.bool (decide (a = b))))) : af .eql x y K:=by subst ex;subst ey;simpa using q
theorem KV {x y : AV} {a b : List UInt8} (ex : x = .str a) (ey : y = .str b) (q : K (.v (.bool (!decide (a = b))))) : af .neq x y K:=by subst ex;subst ey;simpa using q
theorem bF {x : AV} {b : Bool} (e : x = .v (.bool b)) (q : K (.v (.bool (!b)))) : dT x K:=by subst e;simpa using q
theorem cA {c : AV} {b : Bool} (e : c = .v (.bool b)) (qt : b = true → A) (qf : b = false → B) : ao c A B:=by subst e;simpa using ⟨qt,qf⟩
theorem ak {c : AV} {b : Bool} (e : c = .v (.bool b)) (hb : b = true) (q : A) : ao c A B:=by subst e;subst hb;simpa using q
theorem ag {c : AV} {b : Bool} (e : c = .v (.bool b)) (hb : b = false) (q : B) : ao c A B:=by subst e;subst hb;simpa using q
theorem td {c : AV} {b : Bool} (e : c = .v (.bool (!b))) (q : ao (.v (.bool b)) B A) : ao c A B:=by subst e;cases b <;> simpa using q
theorem bV {c : AV} {w b : Bool} (e : c = .v (.bool b)) (qt : b = w → A) (qf : b = (!w) → B) : aK c w A B:=by subst e;simpa using ⟨qt,qf⟩
theorem aA {c : AV} {w b : Bool} (e : c = .v (.bool b)) (hb : b = w) (q : A) : aK c w A B:=by subst e;subst hb;cases b <;> simpa using q
theorem ay {c : AV} {w b : Bool} (e : c = .v (.bool b)) (hb : b = (!w)) (q : B) : aK c w A B:=by subst e;subst hb;cases w <;> simpa using q
theorem cD {c : AV} {w b : Bool} (e : c = .v (.bool (!b))) (q : aK (.v (.bool b)) (!w) A B) : aK c w A B:=by subst e;cases b <;> cases w <;> simpa using q
theorem jr {c x y : AV} {b : Bool} (e : c = .v (.bool b)) (hb : b = true) (q : K x) : a8 c x y K:=by subst e;subst hb;simpa using q
theorem iU {c x y : AV} {b : Bool} (e : c = .v (.bool b)) (hb : b = false) (q : K y) : a8 c x y K:=by subst e;subst hb;simpa using q
theorem bt {off : Nat} {x : AV} {cs : List AV} (e : x = .ip cs) (q : K (.ip (cs.drop off))) : ah off x K:=by subst e;exact q
theorem aY {n : Nat} {x : AV} {cs : List AV} (e : x = .ip cs) (hn : cs.length = n) (q : K (.agg cs)) : ab true n x h K:=by
 subst e
 rw [po]
 exact ⟨by omega,by rw [← hn,List.take_length];exact q⟩
theorem aZ {sz id o : Nat} {x v : AV} {b : Blk} {cs : List AV} {KS : aa → Prop} (e : x = .op id o) (hb : h[id]? = some (.blk b)) (hw : b.wr = true) (hv : bc v = cs) (hl : o + cs.length ≤ b.cells.length) (hz : cs.length = sz) (hs : cs.all cv = true)
 (q : KS (h.set id (.blk { b with cells:=cx b.cells o cs }))) : aN sz x v h KS:=by
 subst e;subst hv
 rw [G7,hb]
 exact ⟨⟨hw,hl,hz,hs⟩,q⟩
theorem aB {sz : Nat} {x : AV} {rows : List (List AV)} {n : Nat} (e : x = .sl sz rows) (hn : rows.length = n) (q : n ≤ maxLen → K (int n)) : bI x K:=by subst e;subst hn;rw [LJ];exact q
theorem fA {x : AV} {l : List UInt8} (e : x = .str l) (q : l.length ≤ maxLen → K (int l.length)) : eS x K:=by subst e;rw [JA];exact q
theorem br {z : AV} {ps : List (Nat × Nat × AV)} {cs : List AV} (e : dQ (bc z) ps = some cs) (q : K (.agg cs)) : bl z ps K:=by rw [G5,e];exact q
theorem bB {i : Nat} {x : AV} {cs : List AV} {c : AV} (e : x = .tup cs) (hc : cs[i]? = some c) (q : K c) : bh i x K:=Mr e hc q
theorem mT {neg : Bool} {ks : List Nat} {x y : AV} {xs ys : List AV} {b : Bool} (ex : x = .agg xs) (ey : y = .agg ys) (hb : eqK ks xs ys = some b) (q : K (.v (.bool (if neg then !b else b)))) : iJ neg ks x y K:=by
 subst ex;subst ey
 rw [LI,hb];exact q
theorem bx {α : Type} {m : Nat} {x i : AV} {l : List α} {rows : List (List AV)} {f : α → List AV} {n : Nat} {a : α} (e : x = .sl m rows) (hr : rows = l.map f) (ei : i = int n) (ha : l[n]? = some a) (q : K (.ip (f a))) : aO m x i K:=by
 subst e;subst ei;subst hr
 rw [y5]
 have hn:=(List.getElem?_eq_some_iff.1 ha).1
 refine ⟨rfl,⟨by omega,by rw [List.length_map];omega⟩, ?_⟩
 have : (l.map f).getD (n : Int).toNat [] = f a:=by rw [Int.toNat_natCast,List.getD_eq_getElem?_getD,List.getElem?_map,ha];rfl
 rw [this];exact q
theorem vx {x i : AV} {l : List UInt8} {n : Nat} {b : UInt8} (e : x = .str l) (ei : i = int n) (hb : l[n]? = some b) (q : K (.v (.int .u8 b.toNat))) : iA x i K:=by
 subst e;subst ei
 have hn:=(List.getElem?_eq_some_iff.1 hb).1
 refine ⟨⟨by omega,by omega⟩, ?_⟩
 have : l.getD (n : Int).toNat 0 = b:=by rw [Int.toNat_natCast,List.getD_eq_getElem?_getD,hb];rfl
 rw [this];exact q
end
theorem xL (f : AV → AV) (L : Nat) (h : aa) (r : List (List AV)) (p : cd r) : tlR f L h r = r:=by
 have:=xK f L h (.sl 0 r) (by rw [Pure];exact p)
 rw [tlA] at this
 simpa using this
theorem uR : ∀ l : List UInt8,unB (l.map fe) = some l
 | []=>rfl
 | b :: l=>by
   rw [List.map_cons,fe,unB,uR l]
   simp
theorem uk {K : AV → Prop} {h : aa} {id : Nat} {x : AV} {b : Blk} {l : List UInt8} (e : x = .own id 0 l.length 1) (hb : h[id]? = some (.blk b)) (hc : b.cells = l.map fe) (q : K (.str l)) : fk x h K:=by
 subst e
 have h1 : ej h 1 (.own id 0 l.length 1) = some (chunks 1 l.length b.cells):=by
  rw [FG,hb]
  simp only [List.drop_zero,true_and]
  rw [if_pos (by rw [hc];simp)]
 have h2 : (chunks 1 l.length b.cells).flatten = l.map fe:=by
  rw [(fM 1 l.length b.cells (by rw [hc];simp)).1,hc]
  rw [List.take_of_length_le (by simp)]
 unfold fk
 rw [h1]
 simp only [Option.bind_some,h2,uR]
 exact q
theorem lD {α : Type} {l : List α} {k : Nat} {x : α} (h : l[k]? = some x) : l.set k x = l:=by
 refine List.ext_getElem? fun j=>?_
 by_cases q : k = j
 ·subst q;rw [List.getElem?_set_self (List.getElem?_eq_some_iff.1 h).1,h]
 ·rw [List.getElem?_set_ne q]
theorem eM (n : Nat) (a : AV) : Pure a → Bd n a:=by
 refine AV.rec (motive_1:=fun a=>Pure a → Bd n a) (motive_2:=fun l=>bM l → BdL n l) (motive_3:=fun r=>cd r → BdR n r) ?_ ?_ ?_ ?_ ?_ ?_ ?_ ?_ ?_ ?_ ?_ ?_ ?_ ?_ ?_ ?_ ?_ ?_ a
 all_goals intros
 all_goals simp_all [Bd,BdL,BdR]
theorem dV (n : Nat) (l : List AV) (p : bM l) : BdL n l:=by
 have:=eM n (.agg l) (by rw [Pure];exact p)
 rwa [Bd] at this
variable [Laid]
theorem Wk.back {n M : Nat} {s s' : List AV} {h h' : aa} (hn : n ≤ M) (hM : M ≤ h.length) (e : h.take M = h') (es : s = s') (hb : ∀ x ∈ h',dg M x) (hs : ∀ a ∈ s',Bd M a) : Wk n s h s' h':=by
 subst es;subst e
 exact Wk.OS hn hM hb hs
end Go.Aw
end

section
namespace Go.Aw
open Go Go.RowKit
mutual
inductive DLe : AV → AV → Prop
 | refl (a : AV) : DLe a a
 | nil (s : Nat) : DLe (.v (.slice none 0 0)) (.sl s [])
 | sl {s : Nat} {r r' : List (List AV)} : mJ r r' → DLe (.sl s r) (.sl s r')
 | tup {r r' : List AV} : jo r r' → DLe (.tup r) (.tup r')
inductive jo : List AV → List AV → Prop
 | nil : jo [] []
 | cons {a b : AV} {as bs : List AV} : DLe a b → jo as bs → jo (a :: as) (b :: bs)
inductive mJ : List (List AV) → List (List AV) → Prop
 | nil : mJ [] []
 | cons {a b : List AV} {as bs : List (List AV)} : jo a b → mJ as bs → mJ (a :: as) (b :: bs)
end
theorem jo.length : ∀ {as bs : List AV},jo as bs → as.length = bs.length
 | _,_,.nil=>rfl
 | _,_,.cons _ k=>by simp [jo.length k]
theorem mJ.length : ∀ {as bs : List (List AV)},mJ as bs → as.length = bs.length
 | _,_,.nil=>rfl
 | _,_,.cons _ k=>by simp [mJ.length k]
variable {ι : List Ix} {S : aJ} {w : World}
mutual
theorem Rep.dle : ∀ {a b : AV},DLe a b → ∀ v,Rep ι S w a v → Rep ι S w b v
 | _,_,.refl _,v,h=>h
 | _,_,.nil s,v,h=>by
   rw [bL] at h;subst h
   rw [Rep]
   exact ⟨none,0,rfl,by simp,by simp,.inl rfl⟩
 | _,_,.sl k,v,h=>by
   rw [Rep] at h ⊢
   obtain ⟨a,cap,rfl,h1,h2,h3⟩:=h
   refine ⟨a,cap,by rw [k.length],by rw [← k.length];exact h1,h2, ?_⟩
   rcases h3 with rfl|⟨b,off,e,h3⟩
   ·left
    cases k
    rfl
   ·exact .inr ⟨b,off,e,bA.dle k _ _ h3⟩
 | _,_,.tup k,v,h=>by
   rw [Rep] at h ⊢
   obtain ⟨vs,e,h1⟩:=h
   exact ⟨vs,e,au.dle k _ h1⟩
theorem au.dle : ∀ {as bs : List AV},jo as bs → ∀ vs,au ι S w as vs → au ι S w bs vs
 | _,_,.nil,vs,h=>h
 | _,_,.cons k ks,vs,h=>by
   rw [au] at h ⊢
   obtain ⟨u,us,e,h1,h2⟩:=h
   exact ⟨u,us,e,Rep.dle k _ h1,au.dle ks _ h2⟩
theorem bn.dle : ∀ {as bs : List AV},jo as bs → ∀ b off,bn ι S w as b off → bn ι S w bs b off
 | _,_,.nil,b,off,h=>h
 | _,_,.cons k ks,b,off,h=>by
   rw [bn] at h ⊢
   obtain ⟨⟨u,h1,h2,h3⟩,h4⟩:=h
   exact ⟨⟨u,h1,h2,Rep.dle k _ h3⟩,bn.dle ks _ _ h4⟩
theorem bA.dle : ∀ {sz : Nat} {as bs : List (List AV)},mJ as bs → ∀ b off,bA ι S w sz as b off → bA ι S w sz bs b off
 | _,_,_,.nil,b,off,h=>h
 | sz,_,_,.cons k ks,b,off,h=>by
   rw [bA] at h ⊢
   obtain ⟨h1,h2,h3⟩:=h
   exact ⟨by rw [← k.length];exact h1,bn.dle k _ _ h2,bA.dle ks _ _ h3⟩
end
variable [Laid]
theorem Con.dle {P : Program} {f : FuncId} {args : List AV} {r r' : AV} (c : Con P f args r) (d : DLe r r') (p : Pure r') : Con P f args r':=by
 obtain ⟨pa,pr,c⟩:=c
 refine ⟨pa,p, ?_⟩
 intro base ι S w vs h1 h2
 refine (c base ι S w vs h1 h2).mono ?_
 rintro e w' ⟨v,ι',S',r2,h',e1,e2,e3,e4,e5,rfl⟩
 exact ⟨v,ι',S',r',h',e1,e2,Rep.dle d v e3,e4,e5,rfl⟩
end Go.Aw
end

section
namespace Go.Aw
open Go
section
variable {h : aa} {K : AV → aa → Prop}
theorem sQ : ∀ (b p a : List AV),a.length = b.length → cx (p ++ a) p.length b = p ++ b
 | [],p,a,h=>by simp at h;subst h;rfl
 | c :: b,p,x :: a,h=>by
   rw [cx]
   have e : (p ++ x :: a).set p.length c = (p ++ [c]) ++ a:=by simp
   have:=sQ b (p ++ [c]) a (by simpa using h)
   rw [e,show p.length + 1 = (p ++ [c]).length by simp,this]
   simp
theorem DE {a b : List AV} (h : a.length = b.length) : cx a 0 b = b:=by simpa using sQ b [] a h
theorem Ip {t sz : Nat} {z : AV} (q : K .emp h) : fG t 0 sz z [] h K:=q
theorem Iq {t sz : Nat} {z v : AV} {cs : List AV} (hv : bc v = cs) (hl : cs.length = sz) (hz : (bc z).length = sz) (hs : cs.all cv = true) (q : K (.own h.length 0 1 sz) (h ++ [.blk ⟨t,cs,true⟩])) : fG t 1 sz z [(0,sz,v)] h K:=by
 subst hv
 have : dQ (fp 1 (bc z)) [(0,sz,v)] = some (bc v):=by
  simp only [dQ,fp,List.append_nil]
  rw [if_pos ⟨hl,by omega,hs⟩,DE (by omega)]
 unfold fG
 rw [this]
 exact q
theorem KR {e sz bytes : Nat} {x y : AV} {rows : List (List AV)} (ex : x = .emp) (hs : ej h sz y = some rows) (hr : rows.all (dJ sz) = true) (hm : cT bytes rows.length) (q : K (.sb h.length sz rows) (h ++ [.tok e sz rows.length])) : ee false e sz bytes x y h K:=by
 subst ex
 unfold ee dP
 rw [hs]
 exact ⟨hr,hm,q⟩
theorem KT {own : Bool} {e sz bytes id k : Nat} {x y : AV} {base rows : List (List AV)} (ex : x = .sb id sz base) (ht : h[id]? = some (.tok e sz k)) (hk : k = base.length) (hs : ej h sz y = some rows) (hr : rows.all (dJ sz) = true) (hm : cT bytes (k + rows.length)) (q : K (.sb id sz (base ++ rows)) (h.set id (.tok e sz (k + rows.length)))) : ee own e sz bytes x y h K:=by
 subst ex
 unfold ee dP
 rw [hs]
 refine ⟨hr, ?_⟩
 simp only [nle]
 rw [ht]
 exact ⟨by simp [hk],hm,q⟩
theorem DT {own : Bool} {e sz bytes id len : Nat} {x y : AV} {cells : List AV} {rows : List (List AV)} (ex : x = .own id 0 len sz) (hb : h[id]? = some (.blk ⟨e,cells,true⟩)) (hl : len * sz ≤ cells.length) (hp : 0 < len) (hs : ej h sz y = some rows) (hr : rows.all (dJ sz) = true) (hm : cT bytes (len + rows.length))
 (q : K (.own h.length 0 (len + rows.length) sz) (h.set id .dead ++ [.blk ⟨e,cells.take (len * sz) ++ rows.flatten,true⟩])) : ee own e sz bytes x y h K:=by
 subst ex
 unfold ee dP
 rw [hs]
 refine ⟨hr, ?_⟩
 simp only [nle]
 rw [hb]
 exact ⟨by simp [hl],by omega,hm,q⟩
section
variable {h' : aa} {n : Nat}
theorem Ay {t sz : Nat} {z v : AV} {cs : List AV} (hv : bc v = cs) (hl : cs.length = sz) (hz : (bc z).length = sz) (hs : cs.all cv = true) (hn : h.length = n) (hh : h ++ [.blk ⟨t,cs,true⟩] = h') (q : K (.own n 0 1 sz) h') : fG t 1 sz z [(0,sz,v)] h K:=by
 subst hn;subst hh;exact Iq hv hl hz hs q
theorem LQ {e sz bytes k : Nat} {x y : AV} {rows : List (List AV)} (ex : x = .emp) (hs : ej h sz y = some rows) (hr : rows.all (dJ sz) = true) (hk : rows.length = k) (hm : cT bytes k) (hn : h.length = n) (hh : h ++ [.tok e sz k] = h') (q : K (.sb n sz rows) h') : ee false e sz bytes x y h K:=by
 subst hn;subst hh;subst hk;exact KR ex hs hr hm q
theorem jg {own : Bool} {e sz bytes id k : Nat} {x y : AV} {base rows : List (List AV)} (ex : x = .sb id sz base) (ht : h[id]? = some (.tok e sz k)) (hk : k = base.length) (hs : ej h sz y = some rows) (hr : rows.all (dJ sz) = true) (hm : cT bytes (k + rows.length)) (hh : h.set id (.tok e sz (k + rows.length)) = h') (q : K (.sb id sz (base ++ rows)) h') : ee own e sz bytes x y h K:=by
 subst hh;exact KT ex ht hk hs hr hm q
theorem sG {own : Bool} {e sz bytes id len : Nat} {x y : AV} {cells : List AV} {rows : List (List AV)} (ex : x = .own id 0 len sz) (hb : h[id]? = some (.blk ⟨e,cells,true⟩)) (hl : len * sz ≤ cells.length) (hp : 0 < len) (hs : ej h sz y = some rows) (hr : rows.all (dJ sz) = true) (hm : cT bytes (len + rows.length)) (hn : h.length = n)
 (hh : h.set id .dead ++ [.blk ⟨e,cells.take (len * sz) ++ rows.flatten,true⟩] = h') (q : K (.own n 0 (len + rows.length) sz) h') : ee own e sz bytes x y h K:=by
 subst hn;subst hh;exact DT ex hb hl hp hs hr hm q
theorem cL {t : TypeId} {v : AV} {cs : List AV} (hv : bc v = cs) (e : cs.all cv = true) (hn : h.length = n) (hh : h ++ [.blk ⟨t,cs,true⟩] = h') (q : K (.op n 0) h') : bz t v h K:=by
 subst hv;subst hn;subst hh;exact bN e q
theorem cQ {sz id o : Nat} {x v : AV} {b : Blk} {cs : List AV} {KS : aa → Prop} (e : x = .op id o) (hb : h[id]? = some (.blk b)) (hw : b.wr = true) (hv : bc v = cs) (hl : o + cs.length ≤ b.cells.length) (hz : cs.length = sz) (hs : cs.all cv = true)
 (hh : h.set id (.blk ⟨b.ty,cx b.cells o cs,b.wr⟩) = h') (q : KS h') : aN sz x v h KS:=by
 subst hh;exact aZ e hb hw hv hl hz hs q
end
theorem eU {sz : Nat} {rows : List (List AV)} : ej h sz (.sl sz rows) = some rows:=by simp [ej,eA]
theorem xE {sz id off len : Nat} {b : Blk} (hb : h[id]? = some (.blk b)) (hl : off + len * sz ≤ b.cells.length) : ej h sz (.own id off len sz) = some (chunks sz len (b.cells.drop off)):=by
 rw [FG,hb]
 simp [hl]
end
theorem mU {h : aa} {n : Nat} {x : AV} {cs : List AV} {K : AV → Prop} (e : x = .ip cs) (hn : n ≤ cs.length) (q : K (.agg (cs.take n))) : ab true n x h K:=by
 subst e
 rw [po]
 exact ⟨hn,q⟩
theorem Km {h : aa} {d id sz : Nat} {rows : List (List AV)} (p : cd rows) : tl 0 h d (.sb id sz rows) = .sl sz rows:=by
 cases d <;> simp [tl,tlA,xL _ _ _ _ p]
end Go.Aw
end
