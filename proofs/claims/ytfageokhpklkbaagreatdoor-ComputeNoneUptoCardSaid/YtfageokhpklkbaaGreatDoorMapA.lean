/-
 Steps over maps of the call's own;a map whose keys are texts,told by what was put into it;calls that leave the memory there as it was.
 No conditions: lemmas over any program.
-/
import Derived.Test.YtfageokhpklkbaaGreatDoorMapW
import Derived.Test.YtfageokhpklkbaaGreatDoorL5
set_option linter.unusedVariables false
set_option linter.unusedSimpArgs false
namespace Go.Aw
open Go Go.RowKit Go.MapKept
section
variable {h : aa} {K : AV → Prop} {KH : AV → aa → Prop} {KS : aa → Prop}
theorem jL {n : Nat} {h' : aa} (hn : h.length = n) (hh : h ++ [.mp 0 []] = h') (q : KH (.mp n) h') : kW h KH:=by subst hn;subst hh;exact q
theorem o9 {d : TypeDesc} {id c c' : Nat} {es es' : List (Nat × AV × AV)} {m k x : AV} {h' : aa} (em : m = .mp id) (he : h[id]? = some (.mp c es)) (hk : dR d k = true) (hu : lG c k x es = some (c',es')) (hh : h.set id (.mp c' es') = h') (q : KS h') : iK d m k x h KS:=by
 subst em;subst hh;unfold iK;simp only [he,hu];exact ⟨hk,q⟩
theorem j7 {d : TypeDesc} {ok : Bool} {id c : Nat} {es : List (Nat × AV × AV)} {z m k v : AV} {q0 : Option AV} (em : m = .mp id) (he : h[id]? = some (.mp c es)) (hk : dR d k = true) (hl : hU k es = some q0) (hv : lkV ok z q0 = v) (q : K v) : gJ d ok z m k h K:=by
 subst em;subst hv;unfold gJ;simp only [he,hl];exact ⟨hk,q⟩
theorem HQ {d : TypeDesc} {id c : Nat} {es es' : List (Nat × AV × AV)} {m k : AV} {h' : aa} (em : m = .mp id) (he : h[id]? = some (.mp c es)) (hk : dR d k = true) (hu : mb k es = some es') (hh : h.set id (.mp c es') = h') (q : KH (.tup []) h') : ql d m k h KH:=by
 subst em;subst hh;unfold ql;simp only [he,hu];exact ⟨hk,q⟩
theorem qM {id c n : Nat} {es : List (Nat × AV × AV)} {x : AV} {h' : aa} (ex : x = .mp id) (he : h[id]? = some (.mp c es)) (hn : h.length = n) (hh : h ++ [.it id c [] c] = h') (q : KH (.op n 0) h') : oM x h KH:=by
 subst ex;subst hn;subst hh;unfold oM;simp only [he];exact q
theorem qJ {id m s l c : Nat} {sn : List Nat} {es : List (Nat × AV × AV)} {x : AV} (ex : x = .op id 0) (hi : h[id]? = some (.it m s sn l)) (he : h[m]? = some (.mp c es)) (hb : jW s es = true) (hs : s ≤ l)
 (q0 : du sn es = [] → KH (.tup [ff]) (h.set id .dead)) (q1 : ∀ p ∈ du sn es,KH (.tup [tt,p.2.1,p.2.2]) (h.set id (.it m s (fU p.1 sn) c))) : oL x h KH:=by
 subst ex;unfold oL;simp only [hi,he];exact ⟨⟨hb,hs⟩,q0,q1⟩
theorem Mv {id m s l c n : Nat} {sn : List Nat} {es : List (Nat × AV × AV)} {x k v : AV} (ex : x = .op id 0) (hi : h[id]? = some (.it m s sn l)) (he : h[m]? = some (.mp c es)) (hc : c = l) (hl : kp sn = some n) (hb : gh n es = some (k,v)) (q : K (.tup [k,v])) : oI x h K:=by
 subst ex;unfold oI;simp only [hi,he,hl,hb];exact ⟨hc,q⟩
end
theorem pL (a b : List UInt8) : nG (.str a) (.str b) = some (decide (a = b)):=by simp [nG,kS]
def mEs (f : Nat → AV) (nm : Nat → List UInt8) (a n : Nat) : List (Nat × AV × AV):=(List.range' a n).map fun i=>(i,.str (nm i),f i)
section
variable {f : Nat → AV} {nm : Nat → List UInt8}
theorem fN (a n : Nat) : mEs f nm a (n + 1) = (a,.str (nm a),f a) :: mEs f nm (a + 1) n:=by simp [mEs,List.range'_succ]
theorem Hl (a n : Nat) : mEs f nm a (n + 1) = mEs f nm a n ++ [(a + n,.str (nm (a + n)),f (a + n))]:=by simp [mEs,List.range'_concat]
theorem qo {s : List UInt8} : ∀ n a,(∀ i,a ≤ i → i < a + n → nm i ≠ s) → hU (.str s) (mEs f nm a n) = some none
 | 0,a,_=>rfl
 | n + 1,a,h=>by
   rw [fN,hU,pL,decide_eq_false (fun e=>h a (Nat.le_refl _) (by omega) e.symm)]
   exact qo n (a + 1) fun i h1 h2=>h i (by omega) (by omega)
theorem jx {N : Nat} (inj : ∀ x y,x < N → y < N → nm x = nm y → x = y) : ∀ n a i,a + n ≤ N → a ≤ i → i < a + n → hU (.str (nm i)) (mEs f nm a n) = some (some (f i))
 | 0,a,i,_,h1,h2=>by omega
 | n + 1,a,i,hN,h1,h2=>by
   rw [fN,hU,pL]
   by_cases e : i = a
   ·subst e;simp
   ·rw [decide_eq_false (fun q=>e (inj _ _ (by omega) (by omega) q))]
    exact jx inj n (a + 1) i (by omega) (by omega) (by omega)
theorem AR {s : List UInt8} {v : AV} {c : Nat} : ∀ n a,(∀ i,a ≤ i → i < a + n → nm i ≠ s) → lG c (.str s) v (mEs f nm a n) = some (c + 1,mEs f nm a n ++ [(c,.str s,v)])
 | 0,a,_=>rfl
 | n + 1,a,h=>by
   rw [fN,lG,pL,decide_eq_false (fun e=>h a (Nat.le_refl _) (by omega) e.symm),AR n (a + 1) fun i h1 h2=>h i (by omega) (by omega)]
   rfl
theorem kI {N : Nat} (inj : ∀ x y,x < N → y < N → nm x = nm y → x = y) {n : Nat} (hn : n < N) : lG n (.str (nm n)) (f n) (mEs f nm 0 n) = some (n + 1,mEs f nm 0 (n + 1)):=by
 rw [AR n 0 fun i _ h2 e=>by have:=inj _ _ (by omega) hn e;omega,Hl,Nat.zero_add]
theorem vZ (a n : Nat) : mb (.str (nm a)) (mEs f nm a (n + 1)) = some (mEs f nm (a + 1) n):=by
 rw [fN,mb,pL];simp
theorem th {c : Nat} : ∀ n a,a + n ≤ c → jW c (mEs f nm a n) = true
 | 0,_,_=>rfl
 | n + 1,a,h=>by
   rw [fN,jW,show Nat.ble (a + 1) c = true from Nat.ble_eq_true_of_le (by omega)]
   exact th n (a + 1) (by omega)
theorem DZ {a b : Nat} (e : a ≠ b) : Nat.beq a b = false:=by
 cases q : Nat.beq a b with
 | false=>rfl
 | true=>exact absurd (Nat.eq_of_beq_eq_true q) e
theorem vQ {i : Nat} : ∀ n a,a ≤ i → i < a + n → gh i (mEs f nm a n) = some (.str (nm i),f i)
 | 0,_,_,h=>by omega
 | n + 1,a,h1,h2=>by
   rw [fN,gh]
   by_cases e : a = i
   ·subst e;simp
   ·rw [DZ e]
    exact vQ n (a + 1) (by omega) (by omega)
theorem JM {p : Nat × AV × AV} {a n : Nat} (h : p ∈ mEs f nm a n) : a ≤ p.1 ∧ p.1 < a + n ∧ p = (p.1,.str (nm p.1),f p.1):=by
 obtain ⟨i,hi,rfl⟩:=List.mem_map.1 h
 have:=List.mem_range'_1.1 hi
 exact ⟨this.1,this.2,rfl⟩
end
theorem uF (b : Nat) : ∀ l,kp (fU b l) = some b
 | []=>rfl
 | [a]=>rfl
 | a :: c :: r=>by
   have:=uF b (c :: r)
   simp only [fU,kp] at this ⊢
   exact this
theorem wI (n b : Nat) : ∀ l,inE n (fU b l) = (inE n l || Nat.beq n b)
 | []=>by simp only [fU,inE];cases Nat.beq n b <;> rfl
 | a :: r=>by
   simp only [fU,inE]
   cases Nat.beq n a with
   | true=>rfl
   | false=>exact wI n b r
theorem lk (sn : List Nat) : ∀ es : List (Nat × AV × AV),du sn es = es.filter fun p=>!inE p.1 sn
 | []=>rfl
 | (n,k,v) :: r=>by
  rw [du,List.filter_cons]
  cases h : inE n sn <;> simp [lk sn r]
theorem JE {sn : List Nat} {es : List (Nat × AV × AV)} {p : Nat × AV × AV} (h : p ∈ du sn es) : (du (fU p.1 sn) es).length < (du sn es).length:=by
 have e : du (fU p.1 sn) es = (du sn es).filter fun q=>!Nat.beq q.1 p.1:=by
  rw [lk,lk,List.filter_filter]
  congr 1;funext q
  rw [wI];cases inE q.1 sn <;> cases Nat.beq q.1 p.1 <;> rfl
 rw [e]
 rcases Nat.lt_or_ge ((du sn es).filter fun q=>!Nat.beq q.1 p.1).length (du sn es).length with q|q
 ·exact q
 ·have:=List.length_filter_eq_length_iff.1 (Nat.le_antisymm (List.length_filter_le _ _) q) p h
  simp at this
section
variable [Laid]
omit [Laid] in
theorem BdL.H8 {M M' : Nat} (h : M ≤ M') {l : List AV} (b : ∀ a ∈ l,Bd M a → Bd M' a) (q : BdL M l) : BdL M' l:=by
 rw [gQ] at *;exact fun a ha=>b a ha (q a ha)
theorem HOK.bound {base : Nat} {ι : List Ix} {S : aJ} {w : World} {h : aa} (hh : HOK base ι S w h) : ∀ e ∈ h,dg h.length e:=by
 intro e he
 obtain ⟨id,hid⟩:=List.getElem?_of_mem he
 have hl : ι.length ≤ h.length:=by rw [hh.len];exact Nat.le_refl _
 cases e with
 | blk b =>
   obtain ⟨_,arr,_,_,_,_,_,_,hc,_⟩:=hh.live id b hid
   show BdL h.length b.cells
   rw [gQ]
   intro a ha
   obtain ⟨i,hi⟩:=List.getElem?_of_mem ha
   obtain ⟨v,_,rv⟩:=hc i a hi
   exact Rep.bd hl a v rv
 | tok=>trivial
 | dead=>trivial
 | mp c es =>
   obtain ⟨_,arr,_,_,_,_,hm⟩:=hh.oth id _ hid
   show BdL h.length (mpC es)
   have : ∀ (es : List (Nat × AV × AV)) (l : List MapEntry),MpR ι S w es l → BdL h.length (mpC es):=by
    intro es
    induction es with
    | nil=>intro _ _;simp [mpC,BdL]
    | cons p r ih =>
      obtain ⟨n,k,c⟩:=p
      intro l hm
      rw [MpR] at hm
      obtain ⟨e,l',rfl,_,h3,h4,h5⟩:=hm
      simp only [mpC,BdL]
      exact ⟨Rep.bd hl k _ h3,Rep.bd hl c _ h4,ih l' h5⟩
   exact this _ _ hm
 | it m s sn l =>
   obtain ⟨_,bm,_,_,_,_,hm⟩:=hh.oth id _ hid
   have:=(List.getElem?_eq_some_iff.1 hm).1
   show m < h.length
   omega
theorem ct.bd {P : Program} {f : FuncId} {args : List AV} {h : aa} {K : AV → aa → Prop} (q : (∀ e ∈ h,dg h.length e) → ct P f args h K) : ct P f args h K :=
 fun base ι S w vs h1 h2=>q h2.bound base ι S w vs h1 h2
def Ex (P : Program) (f : FuncId) (args : List AV) (h : aa) (r : AV) : Prop:=cq P f = true ∧ ct P f args h fun v h' => v = r ∧ h' = h
theorem Con.ex {P : Program} {f : FuncId} {args : List AV} {r : AV} (hb : cq P f = true) (c : Con P f args r) (h : aa) : Ex P f args h r:=⟨hb,c.call ⟨rfl,rfl⟩⟩
theorem lH {P : Program} {f : FuncId} {args args' : List AV} {h : aa} {r : AV} {K : AV → aa → Prop} (e : args = args') (c : Ex P f args' h r) (k : K r h) : aH P (.fn (.func f) [] []) args h K:=by
 subst e
 exact ⟨c.1,by simpa using c.2.mono fun v h' ⟨a,b⟩=>by subst a;subst b;exact k⟩
theorem NF {P : Program} {f : FuncId} {args args' : List AV} {h : aa} {r : AV} {K : AV → Prop} (e : args = args') (c : Ex P f args' h r) (k : K r) : cK P (.fn (.func f) [] []) args h K:=by
 subst e
 exact ⟨r,⟨c.1,by simpa using c.2⟩,k⟩
theorem jS {h h' : aa} {r : AV} (hb : ∀ e ∈ h,dg h.length e) (hr : Bd h.length r) (ht : h'.take h.length = h) : ∃ r' h'',Wk h.length [r] h' [r'] h'' ∧ r' = r ∧ h'' = h:=by
 have hl : h.length ≤ h'.length:=by have:=congrArg List.length ht;simp at this;omega
 exact ⟨r,h,Wk.back (Nat.le_refl _) hl ht rfl hb (by simpa using hr),rfl,rfl⟩
theorem cP.ex {P : Program} {f : FuncId} {args : List AV} {W : aa → (AV → aa → Prop) → Prop} (b : cP P f args W) {h : aa} {r : AV} (q : (∀ e ∈ h,dg h.length e) → W h fun r1 h1=>∃ r' h'',Wk h.length [r1] h1 [r'] h'' ∧ r' = r ∧ h'' = h) : Ex P f args h r :=
 ⟨b.hb,ct.bd fun hb=>b.gg (q hb)⟩
omit [Laid] in
theorem My {M M' : Nat} (hM : M ≤ M') (a : AV) : Bd M a → Bd M' a:=by
 refine AV.rec (motive_1:=fun a=>Bd M a → Bd M' a) (motive_2:=fun l=>BdL M l → BdL M' l) (motive_3:=fun r=>BdR M r → BdR M' r) ?_ ?_ ?_ ?_ ?_ ?_ ?_ ?_ ?_ ?_ ?_ ?_ ?_ ?_ ?_ ?_ ?_ ?_ a
 all_goals intros
 all_goals simp_all [Bd,BdL,BdR]
 all_goals omega
omit [Laid] in
theorem fZ {M M' : Nat} (hM : M ≤ M') {e : Ent} (q : dg M e) : dg M' e:=by
 have bd : ∀ a : AV,Bd M a → Bd M' a:=fun a h=>My hM a h
 cases e with
 | blk b=>exact BdL.H8 hM (fun a _=>bd a) q
 | tok=>trivial
 | dead=>trivial
 | mp c es=>exact BdL.H8 hM (fun a _=>bd a) q
 | it m s sn l=>exact Nat.lt_of_lt_of_le q hM
end
end Go.Aw

