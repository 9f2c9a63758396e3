/-
 A statement whose order is open: where its operations leave the call's own memory alone,whatever order is taken comes to the same;one operation that does not may stand behind all others.
 No conditions: lemmas over any program.
-/
import Derived.Test.YtfageokhpklkbaaGreatDoorIvc
set_option linter.unusedVariables false
set_option linter.unusedSimpArgs false
namespace Go.Aw
open Go Go.RowKit
variable [Laid]

theorem gM {P : Program} {own : Bool} {ev ev' : Operand → AV} {h : aa} {op : Op} {K : AV → aa → Prop} (he : ∀ x ∈ op.operands,ev x = ev' x) (k : bg P own ev h op K) : bg P own ev' h op K:=by
 have lst : ∀ l : List Operand,(∀ x ∈ l,ev x = ev' x) → l.map ev = l.map ev':=fun l hl=>List.map_congr_left hl
 cases op <;> simp only [Op.operands] at he <;> simp only [bg] at k ⊢
 case move x=>rw [← he x (by simp)];exact k
 case assign x=>rw [← he x (by simp)];exact k
 case pick c a b=>rw [← he c (by simp),← he a (by simp),← he b (by simp)];exact k
 case alloc t=>exact k
 case box t x=>rw [← he x (by simp)];exact k
 case build t ps =>
  have e1 : ∀ (f g : Nat → Nat),(ps.toList.map fun p=>(f p.1,g p.1,ev p.2)) = ps.toList.map fun p=>(f p.1,g p.1,ev' p.2):=fun f g=>List.map_congr_left fun p hp=>by
   rw [he p.2 (by simp;exact ⟨p.1,by simpa using hp⟩)]
  split at k
  ·rename_i fs z _ _
   rw [← e1 (fun i=>((fs[i]?).map (·.offset)).getD 0) (fun i=>((fs[i]?).map (fun f=>P.cellsOf f.type)).getD 0)]
   exact k
  ·rename_i n e z _ _
   rw [← e1 (fun i=>i * P.cellsOf e) (fun _=>P.cellsOf e)]
   exact k
  ·exact k
 case buildSlice t n ps =>
  have e1 : ∀ (f g : Nat → Nat),(ps.toList.map fun p=>(f p.1,g p.1,ev p.2)) = ps.toList.map fun p=>(f p.1,g p.1,ev' p.2):=fun f g=>List.map_congr_left fun p hp=>by
   rw [he p.2 (by simp;exact ⟨p.1,by simpa using hp⟩)]
  split at k
  ·rename_i e _
   split at k
   ·rw [← e1 (fun i=>i * P.cellsOf e) (fun _=>P.cellsOf e)];exact k
   ·exact k
  ·exact k
 case makeSlice t l c=>rw [← he l (by simp),← he c (by simp)];exact k
 case load t x=>rw [← he x (by simp)];exact k
 case store t x v=>rw [← he x (by simp),← he v (by simp)];exact k
 case nilCheck x=>rw [← he x (by simp)];exact k
 case binOp o t x y yt=>rw [← he x (by simp),← he y (by simp)];exact k
 case unOp o t x =>
  cases o <;> simp only [bg] at k ⊢
  case neg=>rw [← he x (by simp)];exact k
  case not=>rw [← he x (by simp)];exact k
  case xor=>rw [← he x (by simp)];exact k
 case convert s d x=>rw [← he x (by simp)];exact k
 case makeInterface t x=>rw [← he x (by simp)];exact k
 case typeAssert x xT a ok =>
  cases ok <;> simp only [bg] at k ⊢
  rw [← he x (by simp)];exact k
 case makeFunc f xs ys =>
  rw [← lst xs.toList fun x hx=>he x (by simp at hx ⊢;exact .inl hx),← lst ys.toList fun x hx=>he x (by simp at hx ⊢;exact .inr hx)];exact k
 case slice t x lo hi mx =>
  have e0:=he x (by simp)
  have e1 : lo.map ev = lo.map ev':=by cases lo <;> simp_all
  have e2 : hi.map ev = hi.map ev':=by cases hi <;> simp_all
  cases mx <;> simp only [bg] at k ⊢
  rw [← e0,← e1,← e2];exact k
 case fieldAddr t x i=>rw [← he x (by simp)];exact k
 case field t x i=>rw [← he x (by simp)];exact k
 case indexAddr t x i=>rw [← he x (by simp),← he i (by simp)];exact k
 case index t x i=>rw [← he x (by simp),← he i (by simp)];exact k
 case extract x i=>rw [← he x (by simp)];exact k
 case call c =>
  have ea : ∀ x ∈ c.args,ev x = ev' x:=fun x hx=>he x (by simp [Call.operands];exact .inr hx)
  have el : c.args.toList.map ev = c.args.toList.map ev':=lst _ fun x hx=>ea x (by simpa using hx)
  cases hc : c.callee with
  | value x =>
    rw [hc] at k
    simp only at k ⊢
    rw [← el,← he x (by simp [Call.operands,hc])];exact k
  | invoke r m =>
    rw [hc] at k
    simp only at k ⊢
    rw [← el,← he r (by simp [Call.operands,hc])];exact k
  | builtin b =>
    rw [hc] at k
    cases b <;> simp only at k ⊢ <;> (try exact k)
    case len =>
     cases h0 : c.argTypes[0]? <;> cases h1 : c.args[0]? <;> rw [h0,h1] at k <;> simp only at k ⊢
     rename_i t x
     rw [← ea x (Array.mem_of_getElem? h1)];exact k
    case min =>
     split at k
     ·rename_i x y hxy
      have m : ∀ z ∈ c.args.toList,ev z = ev' z:=fun z hz=>ea z (by simpa using hz)
      rw [hxy] at m
      rw [← m x (by simp),← m y (by simp)];exact k
     ·exact k
    case max =>
     split at k
     ·rename_i x y hxy
      have m : ∀ z ∈ c.args.toList,ev z = ev' z:=fun z hz=>ea z (by simpa using hz)
      rw [hxy] at m
      rw [← m x (by simp),← m y (by simp)];exact k
     ·rename_i x y z hxy
      have m : ∀ z ∈ c.args.toList,ev z = ev' z:=fun z hz=>ea z (by simpa using hz)
      rw [hxy] at m
      rw [← m x (by simp),← m y (by simp),← m z (by simp)];exact k
     ·exact k
    case append =>
     split at k
     ·rename_i t tx x y hat hxy
      have m : ∀ z ∈ c.args.toList,ev z = ev' z:=fun z hz=>ea z (by simpa using hz)
      rw [hxy] at m
      rw [← m x (by simp),← m y (by simp)];exact k
     ·exact k

/-! ### One order for all -/
section
variable (P : Program) (ops : Array Oper) (n : Nat) (h : aa)

def di (o : Oper) (fr : Fr) : Option Bool :=
 match o.guard with
 | none=>some true
 | some (j,w)=>match cf ops j with
   | some d=>match aL fr d with
     | .v (.bool b)=>some (b == w)
     | .v (.tuple x)=>if x = #[] then some false else none
     | _=>none
   | none=>none

def YA (o : Oper) (x : AV) (fr : Fr) : Prop :=
 (di ops o fr = some true ∧ ∃ own,bg P own (ae fr) h o.op fun v h' => v = x ∧ h' = h) ∨ (di ops o fr = some false ∧ x = .v undef)

def qA (i : Nat) (K : Fr → Prop) (fr : Fr) : Prop :=
 match ops[i]? with
 | none=>K fr
 | some o=>∃ x,YA P ops h o x fr ∧ K (bj n fr o.dst x)

def full (t : Nat) : Array Bool:=(Array.range ops.size).map fun i=>decide (i < t)
def vu (t : Nat) (Z : Fr → Prop) : Nat → Array Bool → Fr → Prop
 | 0,listed,fr=>listed = full ops t ∧ Z fr
 | fuel + 1,listed,fr=>Region.ready .any ops listed ≠ [] ∧ ∀ i ∈ Region.ready .any ops listed,i < t ∧ qA P ops n h i (vu t Z fuel (listed.setIfInBounds i true)) fr

def ic (Q : Fr → Prop) : List Oper → Fr → Prop
 | [],fr=>Q fr
 | o :: r,fr=>∃ x,YA P ops h o x fr ∧ ic Q r (bj n fr o.dst x)
end

section
variable {P : Program} {ops : Array Oper} {n : Nat} {h : aa}

theorem pK {i : Nat} {K K' : Fr → Prop} {fr : Fr} (hk : ∀ fr,K fr → K' fr) (q : qA P ops n h i K fr) : qA P ops n h i K' fr:=by
 unfold qA at *
 split
 ·rename_i e;rw [e] at q;exact hk _ q
 ·rename_i o e
  rw [e] at q
  obtain ⟨x,h1,h2⟩:=q
  exact ⟨x,h1,hk _ h2⟩

omit [Laid] in
theorem nI {fr : Fr} {d e : Option Tmp} {x y : AV} (hd : ∀ t,d = some t → e ≠ some t) : bj n (bj n fr d x) e y = bj n (bj n fr e y) d x:=by
 unfold bj
 cases d with
 | none=>cases e <;> rfl
 | some t =>
   cases e with
   | none=>rfl
   | some u =>
     have : t ≠ u:=fun q=>hd t rfl (by rw [q])
     simp only
     split <;> split <;> first|rfl|exact Fi _ _ _ this

theorem YA.same {o : Oper} {x : AV} {fr fr' : Fr} (hs : ∀ t ∈ o.looksAt ops,aL fr' t = aL fr t) (hy : YA P ops h o x fr) : YA P ops h o x fr':=by
 have hw : di ops o fr' = di ops o fr:=by
  unfold di
  cases hg : o.guard with
  | none=>rfl
  | some jw =>
    obtain ⟨j,w⟩:=jw
    simp only
    cases hd : cf ops j with
    | none=>rfl
    | some d =>
      have : aL fr' d = aL fr d:=hs d (by
       unfold Oper.looksAt
       refine List.mem_append_right _ ?_
       simp only [hg]
       unfold cf at hd
       rw [hd];simp)
      simp only [this]
 have he : ∀ y ∈ o.op.operands,ae fr y = ae fr' y:=by
  intro y hy
  cases y with
  | tmp t =>
    have : aL fr' t = aL fr t:=hs t (by
     unfold Oper.looksAt
     refine List.mem_append_left _ ?_
     simp only [List.mem_filterMap]
     exact ⟨.tmp t,by simpa using hy,rfl⟩)
    simp [ae,this]
  | _=>rfl
 unfold YA at *
 rw [hw]
 rcases hy with ⟨h1,h2⟩|h1
 ·exact .inl ⟨h1,h2.imp fun _ k=>gM he k⟩
 ·exact .inr h1

theorem YA.put {o oj : Oper} {x y : AV} {fr : Fr} (hap : ∀ d,oj.dst = some d → d ∉ o.looksAt ops) (hy : YA P ops h o x fr) : YA P ops h o x (bj n fr oj.dst y) :=
 hy.same fun t ht=>dw fun e he q=>hap e he (q ▸ ht)
theorem YA.ND {o oj : Oper} {x y : AV} {fr : Fr} (hap : ∀ d,oj.dst = some d → d ∉ o.looksAt ops) (hy : YA P ops h o x (bj n fr oj.dst y)) : YA P ops h o x fr :=
 hy.same fun t ht=>(dw fun e he q=>hap e he (q ▸ ht)).symm

theorem Fj {j : Nat} {oi oj : Oper} {x : AV} {K : Fr → Prop} {fr : Fr} (hj : ops[j]? = some oj) (hap : oi.apart ops oj = true) (hy : YA P ops h oi x fr) (q : qA P ops n h j K (bj n fr oi.dst x)) :
 qA P ops n h j (fun fr' => YA P ops h oi x fr' ∧ K (bj n fr' oi.dst x)) fr:=by
 obtain ⟨h1,h2,h3⟩:=Oper.apart_spec hap
 unfold qA at *
 simp only [hj] at *
 obtain ⟨y,q1,q2⟩:=q
 refine ⟨y,q1.ND h1,hy.put h3, ?_⟩
 rw [nI (fun t ht=>h2 t ht)] at q2
 exact q2

theorem iZ {base : Nat} {ι : List Ix} {S : aJ} {a : Act} {w : World} {fr : Fr} {o : Oper} {b : Bool} (hr : ROK base ι S a w ⟨n,fr,h⟩) (hw : di ops o fr = some b) : Region.wanted o (yielded ops a.tmps) = b:=by
 unfold di at hw
 unfold Region.wanted
 cases hg : o.guard with
 | none=>rw [hg] at hw;simp only [Option.some.injEq] at hw;exact hw
 | some jw =>
   obtain ⟨j,w'⟩:=jw
   rw [hg] at hw
   simp only at hw ⊢
   split at hw
   ·rename_i d hd
    split at hw
    ·rename_i b' hb
     rw [(ib hr hd).1 b' hb]
     simp only [Option.some.injEq] at hw
     rw [← hw];cases b' <;> cases w' <;> rfl
    ·rename_i x hx
     split at hw
     ·rename_i e
      subst e
      rw [(ib hr hd).2 hx]
      simp only [Option.some.injEq] at hw
      rw [← hw];rfl
     ·cases hw
    ·cases hw
   ·cases hw

theorem xr {m i base : Nat} {ι : List Ix} {S : aJ} {a : Act} {w : World} {fr : Fr} {K : Fr → Prop} {K' : Act → World → Prop} {Q' : Exit → Act → World → Prop} (hm : m ≤ ι.length) (hr : ROK base ι S a w ⟨n,fr,h⟩)
 (hk : ∀ ι' S' a' w' fr',Evo m base ι S w ι' S' w' → ROK base ι' S' a' w' ⟨n,fr',h⟩ → K fr' → K' a' w') (q : qA P ops n h i K fr) : wpOp P ops Q' i K' a w:=by
 unfold qA at q
 unfold wpOp
 split
 ·rename_i e;rw [e] at q;exact hk ι S a w fr (Evo.refl _ _ _ _ _) hr q
 ·rename_i o e
  rw [e] at q
  obtain ⟨x,hy,q⟩:=q
  rcases hy with ⟨hw,own,hy⟩|⟨hw,rfl⟩
  ·rw [if_pos (iZ hr hw)]
   left
   refine ft (fun a' w' k=>?_) (fun _ _ _ k=>k) (fJ (st:=⟨n,fr,h⟩) hr hy Q')
   obtain ⟨ι',S',v,h',hE,hR,hl,rfl,rfl⟩:=k
   exact hk ι' S' a' w' _ (hE.mono hm (Nat.le_refl _)) hR q
  ·rw [iZ hr hw]
   simp only [Bool.false_eq_true,if_false]
   have p:=hr.put (x:=.v undef) (v:=undef) o.dst (by simp)
   refine hk ι S _ w (bj n fr o.dst (.v undef)) (Evo.refl _ _ _ _ _) ?_ q
   cases hd : o.dst with
   | none=>rw [hd] at p;exact p
   | some t=>rw [hd] at p;exact p

omit [Laid] in
theorem DP {i : Nat} {a : Act} {w : World} {K K' : Act → World → Prop} {Q Q' : Exit → Act → World → Prop} (h1 : ∀ a w,K a w → K' a w) (h2 : ∀ e a w,Q e a w → Q' e a w) (q : wpOp P ops Q i K a w) : wpOp P ops Q' i K' a w:=by
 unfold wpOp at *
 split
 ·rename_i e;rw [e] at q;exact h1 _ _ q
 ·rename_i o e
  rw [e] at q
  simp only at q
  split
  ·rename_i hw
   rw [if_pos hw] at q
   rcases q with q|⟨q,a0,w0,k⟩
   ·exact .inl (ft h1 h2 q)
   ·exact .inr ⟨q,a0,w0,h2 _ _ _ k⟩
  ·rename_i hw
   rw [if_neg hw] at q
   exact h1 _ _ q
omit [Laid] in
theorem cE {md : Region.Mode} {Q Q' : Exit → Act → World → Prop} (hq : ∀ e a w,Q e a w → Q' e a w) : ∀ (fuel : Nat) (listed : Array Bool) (a : Act) (w : World),wpAny P md ops Q fuel listed a w → wpAny P md ops Q' fuel listed a w
 | 0,_,_,_,q=>⟨q.1,hq _ _ _ q.2⟩
 | fuel + 1,listed,a,w,q=>⟨fun e=>hq _ _ _ (q.1 e),fun i hi=>DP (fun a w=>cE hq fuel _ a w) hq (q.2 i hi)⟩

def Down (ops : Array Oper) (listed : Array Bool) : Prop :=
 ∀ (i : Nat) (o : Oper),ops[i]? = some o → listed.getD i false = true → ∀ e ∈ o.after,Region.binds .any e = true → listed.getD e.on false = true

omit [Laid] in
theorem Down.set {listed : Array Bool} {i : Nat} (hd : Down ops listed) (hr : i ∈ Region.ready .any ops listed) : Down ops (listed.setIfInBounds i true):=by
 intro j o ho hl e he hb
 obtain ⟨h0,oi,hoi,hall⟩:=mem_ready.1 hr
 have up : listed.getD e.on false = true → (listed.setIfInBounds i true).getD e.on false = true:=fun q=>by
  by_cases he : i = e.on
  ·have hlt : i < listed.size:=by
    rcases Nat.lt_or_ge i listed.size with k|k
    ·exact k
    ·rw [← he] at q;simp [Array.getElem?_eq_none k] at q
   rw [← he];simp [Array.getD_eq_getD_getElem?,Array.getElem?_setIfInBounds,hlt]
  ·rw [getD_set_ne false he];exact q
 by_cases hj : j = i
 ·subst hj
  rw [hoi] at ho;cases ho
  exact up (hall e he hb)
 ·rw [getD_set_ne false (Ne.symm hj)] at hl
  exact up (hd j o ho hl e he hb)

def cH (ops : Array Oper) (i : Nat) : List Nat:=match ops[i]? with|some o=>(o.after.toList.filter (Region.binds .any)).map (·.on)|none=>[]
def clo (ops : Array Oper) : Nat → List Nat → List Nat
 | 0,l=>l
 | k + 1,l=>clo ops k (l ++ l.flatMap (cH ops)).eraseDups
omit [Laid] in
theorem kb {listed : Array Bool} (hd : Down ops listed) : ∀ (k : Nat) (l : List Nat),(∀ i ∈ l,listed.getD i false = true) → ∀ i ∈ clo ops k l,listed.getD i false = true
 | 0,l,hl,i,hi=>hl i hi
 | k + 1,l,hl,i,hi=>by
   refine kb hd k _ (fun j hj=>?_) i hi
   rw [List.mem_eraseDups] at hj
   rcases List.mem_append.1 hj with hj|hj
   ·exact hl j hj
   ·obtain ⟨q,hq,hj⟩:=List.mem_flatMap.1 hj
    unfold cH at hj
    split at hj
    ·rename_i o ho
     simp only [List.mem_map,List.mem_filter] at hj
     obtain ⟨e,⟨he,hb⟩,rfl⟩:=hj
     exact hd q o ho (hl q hq) e (by simpa using he) hb
    ·cases hj


def kn (ops : Array Oper) (t : Nat) : Bool:=(List.range ops.size).all fun i=>decide (i < t) || (List.range t).all fun k=>(clo ops ops.size (cH ops i)).contains k
omit [Laid] in
theorem nj {listed : Array Bool} {t i : Nat} (hd : Down ops listed) (hb : kn ops t = true) (hi : t ≤ i) (hr : i ∈ Region.ready .any ops listed) : ∀ k,k < t → listed.getD k false = true:=by
 intro k hk
 obtain ⟨h0,o,ho,hall⟩:=mem_ready.1 hr
 have hlt:=(Array.getElem?_eq_some_iff.1 ho).1
 have:=List.all_eq_true.1 hb i (by simpa using hlt)
 simp only [Bool.or_eq_true,decide_eq_true_eq] at this
 rcases this with q|q
 ·omega
 ·have:=List.all_eq_true.1 q k (by simpa using hk)
  rw [List.contains_iff_mem] at this
  refine kb hd ops.size _ (fun j hj=>?_) k this
  unfold cH at hj
  rw [ho] at hj
  simp only [List.mem_map,List.mem_filter] at hj
  obtain ⟨e,⟨he,hb⟩,rfl⟩:=hj
  exact hall e (by simpa using he) hb

omit [Laid] in
theorem iQ {listed : Array Bool} {i : Nat} (h0 : listed.getD i true = false) (h1 : listed.getD i false = true) : False:=by
 rcases Nat.lt_or_ge i listed.size with h' | h'
 ·simp [h'] at h0 h1;rw [h0] at h1;cases h1
 ·simp [Array.getElem?_eq_none h'] at h1

theorem A1 {t : Nat} {Z : Fr → Prop} {i : Nat} {oi : Oper} {x : AV} (hB : kn ops t = true) (hi : ops[i]? = some oi) (hT : i < t) : ∀ (fuel : Nat) (listed : Array Bool) (fr : Fr),Down ops listed →
 (∀ j oj,ops[j]? = some oj → j ≠ i → j < t → listed.getD j true = false → (∀ e ∈ oj.after,Region.binds .any e = true → e.on ≠ i) → oi.apart ops oj = true) →
 i ∈ Region.ready .any ops listed → YA P ops h oi x fr → vu P ops n h t Z fuel (listed.setIfInBounds i true) (bj n fr oi.dst x) → vu P ops n h t Z (fuel + 1) listed fr:=by
 have own : ∀ {K : Fr → Prop} {fr : Fr},YA P ops h oi x fr → K (bj n fr oi.dst x) → qA P ops n h i K fr:=fun hy hk=>by unfold qA;simp only [hi];exact ⟨x,hy,hk⟩
 intro fuel
 induction fuel with
 | zero =>
   intro listed fr hd hfree hr hy H
   refine ⟨fun q=>(by rw [q] at hr;cases hr),fun j hj=>?_⟩
   have hj0:=(mem_ready.1 hj).1
   have hjlt : j < t:=by
    rcases Nat.lt_or_ge j t with q|q
    ·exact q
    ·exact (iQ (mem_ready.1 hr).1 (nj hd hB q hj i hT)).elim
   refine ⟨hjlt, ?_⟩
   by_cases hji : j = i
   ·subst hji;exact own hy H
   ·exfalso
    have e:=congrArg (fun a=>a.getD j true) H.1
    simp only [getD_set_ne true (Ne.symm hji)] at e
    rw [hj0] at e
    obtain ⟨_,oj,hoj,_⟩:=mem_ready.1 hj
    have hlt:=(Array.getElem?_eq_some_iff.1 hoj).1
    simp [full,hlt,hjlt] at e
 | succ fuel ih =>
   intro listed fr hd hfree hr hy H
   refine ⟨fun q=>(by rw [q] at hr;cases hr),fun j hj=>?_⟩
   have hjlt : j < t:=by
    rcases Nat.lt_or_ge j t with q|q
    ·exact q
    ·exact (iQ (mem_ready.1 hr).1 (nj hd hB q hj i hT)).elim
   refine ⟨hjlt, ?_⟩
   by_cases hji : j = i
   ·subst hji;exact own hy H
   ·obtain ⟨_,h1⟩:=H.2 j (ready_mono hj hji)
    obtain ⟨hjun,oj,hoj,hall⟩:=mem_ready.1 hj
    have hnot : ∀ e ∈ oj.after,Region.binds .any e = true → e.on ≠ i:=fun e he hb heq=>by
     have h1:=hall e he hb
     rw [heq] at h1
     exact iQ (mem_ready.1 hr).1 h1
    have h2:=Fj hoj (hfree j oj hoj hji hjlt hjun hnot) hy h1
    have hfree' : ∀ k ok,ops[k]? = some ok → k ≠ i → k < t → (listed.setIfInBounds j true).getD k true = false →
     (∀ e ∈ ok.after,Region.binds .any e = true → e.on ≠ i) → oi.apart ops ok = true:=fun k ok hk hki hkT hun hno=>by
     refine hfree k ok hk hki hkT ?_ hno
     by_cases hjk : j = k
     ·subst hjk;exact hjun
     ·rw [getD_set_ne true hjk] at hun;exact hun
    refine pK (fun fr' h3=>ih (listed.setIfInBounds j true) fr' (hd.set hj) hfree' (ready_mono hr (Ne.symm hji)) h3.1 ?_) h2
    rw [Array.setIfInBounds_comm _ _ hji]
    exact h3.2

def rP (ops : Array Oper) (listed : Array Bool) (t i : Nat) : Bool :=
 match ops[i]? with
 | some oi=>(List.range t).all fun j=>j == i || listed.getD j true || (cH ops j).contains i || (match ops[j]? with|some oj=>oi.apart ops oj|none=>true)
 | none=>false
def ln (ops : Array Oper) (t : Nat) : Nat → Nat → Array Bool → Bool
 | 0,_,listed=>listed == full ops t
 | fuel + 1,k,listed=>(Region.ready .any ops listed).contains k && decide (k < t) && rP ops listed t k && ln ops t fuel (k + 1) (listed.setIfInBounds k true)

omit [Laid] in
theorem ni {listed : Array Bool} {t i : Nat} {oi : Oper} (hi : ops[i]? = some oi) (hf : rP ops listed t i = true) :
 ∀ j oj,ops[j]? = some oj → j ≠ i → j < t → listed.getD j true = false → (∀ e ∈ oj.after,Region.binds .any e = true → e.on ≠ i) → oi.apart ops oj = true:=by
 intro j oj hj hji hjT hun hno
 unfold rP at hf
 rw [hi] at hf
 have:=List.all_eq_true.1 hf j (by simpa using hjT)
 simp only [hj,Bool.or_eq_true,beq_iff_eq,hji,hun,false_or,Bool.false_eq_true] at this
 rcases this with h1|h1
 ·exfalso
  unfold cH at h1
  rw [hj] at h1
  simp only [List.contains_iff_mem,List.mem_map,List.mem_filter] at h1
  obtain ⟨e,⟨he,hb⟩,q⟩:=h1
  exact hno e (by simpa using he) hb q
 ·exact h1

theorem vE {t : Nat} {Z : Fr → Prop} (hB : kn ops t = true) : ∀ (l : List Oper) (k : Nat) (listed : Array Bool) (fr : Fr),(∀ j,j < l.length → l[j]? = ops[k + j]?) → Down ops listed →
 ln ops t l.length k listed = true → ic P ops n h Z l fr → vu P ops n h t Z l.length listed fr
 | [],k,listed,fr,_,_,hL,q=>by
   simp only [List.length_nil,ln,beq_iff_eq] at hL
   exact ⟨hL,q⟩
 | o :: l,k,listed,fr,hl,hd,hL,q=>by
   have h0 : ops[k]? = some o:=by simpa using (hl 0 (by simp)).symm
   simp only [List.length_cons,ln,Bool.and_eq_true,decide_eq_true_eq] at hL
   obtain ⟨⟨⟨hr,hkT⟩,hf⟩,hL'⟩:=hL
   obtain ⟨x,hy,hK⟩:=q
   have hr' : k ∈ Region.ready .any ops listed:=by simpa using hr
   exact A1 hB h0 hkT l.length listed fr hd (ni h0 hf) hr' hy
    (vE hB l (k + 1) _ _ (fun j hj=>by have:=hl (j + 1) (by simp;omega);simpa [Nat.add_assoc,Nat.add_comm 1 j] using this) (hd.set hr') hL' hK)

theorem qU {m t more : Nat} {Z : Fr → Prop} {Q' : Exit → St → Prop} (hZ : ∀ fr base ι S a w,ROK base ι S a w ⟨n,fr,h⟩ → Z fr → wpAny P .any ops (bQ m base ι S w Q') more (full ops t) a w) : ∀ (fuel : Nat) (listed : Array Bool) (base : Nat) (ι : List Ix) (S : aJ) (a : Act) (w : World) (fr : Fr),
 m ≤ h.length → ROK base ι S a w ⟨n,fr,h⟩ → vu P ops n h t Z fuel listed fr → wpAny P .any ops (bQ m base ι S w Q') (fuel + more) listed a w
 | 0,listed,base,ι,S,a,w,fr,hm,hr,q=>by rw [Nat.zero_add,q.1];exact hZ fr base ι S a w hr q.2
 | fuel + 1,listed,base,ι,S,a,w,fr,hm,hr,q=>by
   rw [show fuel + 1 + more = (fuel + more) + 1 by omega]
   refine ⟨fun e=>absurd e q.1,fun i hi=>?_⟩
   refine xr (m:=m) (by rw [hr.hp.len];exact hm) hr (fun ι' S' a' w' fr' hE hr' k=>?_) (q.2 i hi).2
   have:=qU hZ fuel (listed.setIfInBounds i true) base ι' S' a' w' fr' hm hr' k
   exact cE (fun e a w z=>bQ.trans hE z) _ _ _ _ this

def jb (ops : Array Oper) : List Nat → Array Bool → Option (Array Bool)
 | [],listed=>some listed
 | i :: l,listed=>match Region.ready .any ops listed == [i] with
   | true=>jb ops l (listed.setIfInBounds i true)
   | false=>none
omit [Laid] in
theorem ma : ∀ (l : List Nat) (listed listed' : Array Bool),Down ops listed → jb ops l listed = some listed' → Down ops listed'
 | [],listed,listed',hd,hc=>by simp only [jb,Option.some.injEq] at hc;exact hc ▸ hd
 | i :: l,listed,listed',hd,hc=>by
   simp only [jb] at hc
   split at hc
   ·rename_i e
    simp only [beq_iff_eq] at e
    exact ma l _ _ (hd.set (by rw [e];simp)) hc
   ·cases hc
omit [Laid] in
theorem HP {o : Oper} {a : Act} {w : World} {K K' : Act → World → Prop} {Q Q' : Exit → Act → World → Prop} (h1 : ∀ a w,K a w → K' a w) (h2 : ∀ e a w,e ≠ .normal → Q e a w → Q' e a w) (h : o.wp P a w K Q) : o.wp P a w K' Q':=by
 unfold Oper.wp at *
 generalize (execOp a.eval o).run P w = r at *
 unfold Oper.upon at *
 split at h
 ·exact h1 _ _ h
 ·exact h1 _ _ h
 ·exact h1 _ _ h
 ·exact h.mono fun e w' k=>by
   cases e with
   | returned v=>exact h1 _ _ k
   | panicked ch=>exact h2 _ _ _ (by simp) k
   | outgrown=>obtain ⟨a0,w0,k⟩:=k;exact ⟨a0,w0,h2 _ _ _ (by simp) k⟩
 ·exact h.mono fun v w' k=>h1 _ _ k
 ·exact h2 _ _ _ (by simp) h
 ·exact h.elim
omit [Laid] in
theorem mV {Q Q2 : Exit → Act → World → Prop} {more : Nat} {listed' : Array Bool} (hq : ∀ e a w,e ≠ .normal → Q2 e a w → Q e a w) (hn : ∀ a w,Q2 .normal a w → wpAny P .any ops Q more listed' a w) :
 ∀ (l : List Nat) (listed : Array Bool) (a : Act) (w : World),jb ops l listed = some listed' → wpOps P ops Q2 l a w → wpAny P .any ops Q (l.length + more) listed a w
 | [],listed,a,w,hc,h=>by
   simp only [jb,Option.some.injEq] at hc
   subst hc
   simp only [List.length_nil,Nat.zero_add]
   exact hn a w h
 | i :: l,listed,a,w,hc,h=>by
   simp only [jb] at hc
   split at hc
   ·rename_i e
    simp only [beq_iff_eq] at e
    rw [List.length_cons,show l.length + 1 + more = (l.length + more) + 1 by omega]
    refine ⟨fun q=>(by rw [e] at q;cases q),fun j hj=>?_⟩
    rw [e] at hj
    simp only [List.mem_singleton] at hj
    subst hj
    have up:=fun a' w' => mV hq hn l (listed.setIfInBounds j true) a' w' hc
    unfold wpOp
    simp only [wpOps] at h
    cases ho : ops[j]? with
    | none =>
      rw [ho] at h
      exact up a w h
    | some o =>
      rw [ho] at h
      simp only at h ⊢
      split
      ·rename_i hw
       rw [if_pos hw] at h
       rcases h with h|⟨h,a0,w0,k⟩
       ·exact .inl (HP up hq h)
       ·exact .inr ⟨h,a0,w0,hq _ _ _ (by simp) k⟩
      ·rename_i hw
       rw [if_neg hw] at h
       exact up _ w h
   ·cases hc
end

/-! ### The condition on abstract values -/
def tA (S : (AV → aa → Prop) → Prop) (h : aa) (K : AV → Prop) : Prop:=∃ x,S (fun v h' => v = x ∧ h' = h) ∧ K x

def Det (W : (AV → Prop) → Prop) : Prop:=∀ K : AV → Prop,W K → ∃ x,W (fun v=>v = x ∧ True) ∧ K x

section
omit [Laid] in
theorem Ed (k : IntKind) (n : Int) : Det (iWr k n):=by
 intro K;unfold iWr;split <;> intro q <;> first|exact ⟨_,⟨rfl,trivial⟩,q⟩|exact ⟨_,⟨q.1,rfl,trivial⟩,q.2⟩
omit [Laid] in
theorem IP (op : BinOp) (k : IntKind) (a b : Int) : Det (mc op k a b):=by
 intro K;unfold mc;split <;> intro q <;> first|exact Ed _ _ K q|exact ⟨_,⟨rfl,trivial⟩,q⟩|exact ⟨_,⟨q.1,rfl,trivial⟩,q.2⟩|exact q.elim
omit [Laid] in
theorem I0 (op : BinOp) (a b : List UInt8) : Det (nk op a b):=by
 intro K;unfold nk;split <;> intro q <;> first|exact ⟨_,⟨rfl,trivial⟩,q⟩|exact ⟨_,⟨q.1,rfl,trivial⟩,q.2⟩|exact q.elim
omit [Laid] in
theorem Ec (op : BinOp) (k : IntKind) (a b : Int) : Det (kX op k a b):=by
 intro K;unfold kX;split <;> intro q <;> first|exact ⟨_,⟨q.1,rfl,trivial⟩,q.2⟩|exact q.2.elim
omit [Laid] in
theorem yL (op : BinOp) (x y : AV) : Det (af op x y):=by
 intro K;unfold af
 split
 ·split
  ·exact Ec _ _ _ _ K
  ·intro q
   obtain ⟨x,q1,q2⟩:=IP _ _ _ _ K q.2
   exact ⟨x,⟨q.1,q1⟩,q2⟩
 ·exact I0 _ _ _ K
 ·exact fun q=>q.elim
omit [Laid] in
theorem Gh (op : BinOp) (x y : AV) : Det (lS op x y):=by
 intro K;unfold lS
 split
 ·split <;> intro q <;> first|exact ⟨_,⟨rfl,trivial⟩,q⟩|exact q.elim
 ·exact fun q=>q.elim
omit [Laid] in
theorem IK (neg : Bool) (ks : List Nat) (x y : AV) : Det (iJ neg ks x y):=by
 intro K;unfold iJ
 split
 ·split <;> intro q <;> first|exact ⟨_,⟨rfl,trivial⟩,q⟩|exact q.elim
 ·exact fun q=>q.elim
omit [Laid] in
theorem Gs (c a b : AV) : Det (a8 c a b):=by
 rintro K ⟨t,rfl,h1,h2⟩
 cases t with
 | true=>exact ⟨a,⟨true,rfl,fun _=>⟨rfl,trivial⟩,fun q=>by cases q⟩,h1 rfl⟩
 | false=>exact ⟨b,⟨false,rfl,(fun q=>by cases q),fun _=>⟨rfl,trivial⟩⟩,h2 rfl⟩
omit [Laid] in
theorem IX (x : AV) : Det (dT x):=by rintro K ⟨t,rfl,q⟩;exact ⟨_,⟨t,rfl,rfl,trivial⟩,q⟩
omit [Laid] in
theorem IV (x : AV) : Det (oK x):=by
 rintro K ⟨k,n,rfl,q⟩
 obtain ⟨y,q1,q2⟩:=Ed _ _ K q
 exact ⟨y,⟨k,n,rfl,q1⟩,q2⟩
omit [Laid] in
theorem Gi (k : IntKind) (x : AV) : Det (lU k x):=by rintro K ⟨k',n,rfl,q⟩;exact ⟨_,⟨k',n,rfl,rfl,trivial⟩,q⟩
omit [Laid] in
theorem Gu (x : AV) : Det (pt x):=by
 intro K;unfold pt;split <;> intro q <;> first|exact ⟨_,⟨rfl,trivial⟩,q⟩|exact q.elim
omit [Laid] in
theorem Gj (i : Nat) (x : AV) : Det (bh i x):=by
 intro K;unfold bh
 split
 ·split <;> intro q <;> first|exact ⟨_,⟨rfl,trivial⟩,q⟩|exact q.elim
 ·exact fun q=>q.elim
omit [Laid] in
theorem ph (g : Bool) (sz : Nat) (cs : List AV) : Det (ldP g sz cs):=by
 intro K;unfold ldP
 split
 ·exact fun q=>⟨_,⟨q.1,rfl,trivial⟩,q.2⟩
 ·split <;> intro q <;> first|exact ⟨_,⟨rfl,trivial⟩,q⟩|exact q.elim
omit [Laid] in
theorem IM (g : Bool) (o n : Nat) (x : AV) : Det (oJ g o n x):=by
 intro K;unfold oJ
 split
 ·exact ph _ _ _ K
 ·exact fun q=>q.elim
omit [Laid] in
theorem Gn (x i : AV) : Det (iA x i):=by
 intro K;unfold iA;split <;> intro q <;> first|exact ⟨_,⟨q.1,rfl,trivial⟩,q.2⟩|exact q.elim
omit [Laid] in
theorem Gk (g : Bool) (sz len : Nat) (x i : AV) : Det (lV g sz len x i):=by
 intro K;unfold lV
 split
 ·intro q
  obtain ⟨y,q1,q2⟩:=ph _ _ _ K q.2
  exact ⟨y,⟨q.1,q1⟩,q2⟩
 ·exact fun q=>q.elim
omit [Laid] in
theorem IZ (x : AV) (lo hi : Option AV) : Det (kY x lo hi):=by
 intro K;unfold kY
 split
 ·split <;> intro q <;> first|exact ⟨_,⟨q.1,rfl,trivial⟩,q.2⟩|exact q.elim
 ·exact fun q=>q.elim
omit [Laid] in
theorem K7 (n : Nat) (x : AV) (lo hi : Option AV) : Det (iSl n x lo hi):=by
 intro K;unfold iSl
 split
 ·split <;> intro q <;> first|exact ⟨_,⟨q.1,q.2.1,rfl,trivial⟩,q.2.2⟩|exact q.elim
 ·split <;> intro q <;> first|exact ⟨_,⟨q.1,q.2.1,rfl,trivial⟩,q.2.2⟩|exact q.elim
 ·split <;> intro q <;> first|exact ⟨_,⟨q.1,rfl,trivial⟩,q.2⟩|exact q.elim
 ·exact fun q=>q.elim
omit [Laid] in
theorem IY (n sz : Nat) (x : AV) (lo hi : Option AV) (h : aa) : Det (oO n sz x lo hi h):=by
 intro K;unfold oO
 split
 ·split <;> intro q <;> first|exact ⟨_,⟨q.1,rfl,trivial⟩,q.2⟩|exact q.elim
 ·split <;> intro q <;> first|exact ⟨_,⟨q.1,rfl,trivial⟩,q.2⟩|exact q.elim
 ·exact fun q=>q.elim
omit [Laid] in
theorem Gl (m : Nat) (x i : AV) : Det (aO m x i):=by
 intro K;unfold aO;split <;> intro q <;> first|exact ⟨_,⟨q.1,q.2.1,rfl,trivial⟩,q.2.2⟩|exact q.elim
omit [Laid] in
theorem Gm (len sz : Nat) (x i : AV) : Det (eP len sz x i):=by
 intro K;unfold eP;split <;> intro q <;> first|exact ⟨_,⟨q.1,rfl,trivial⟩,q.2⟩|exact q.elim
omit [Laid] in
theorem IL (o : Nat) (x : AV) : Det (ah o x):=by
 intro K;unfold ah;split <;> intro q <;> first|exact ⟨_,⟨rfl,trivial⟩,q⟩|exact q.elim
omit [Laid] in
theorem IW (x : AV) : Det (me x):=by
 intro K;unfold me;split <;> intro q <;> first|exact ⟨_,⟨rfl,trivial⟩,q⟩|exact q.elim
omit [Laid] in
theorem qi (g : Bool) (sz : Nat) (x : AV) (h : aa) : Det (ab g sz x h):=by
 intro K;unfold ab
 split
 ·exact ph _ _ _ K
 ·split
  ·exact ph _ _ _ K
  ·exact fun q=>q.elim
 ·exact fun q=>q.elim
omit [Laid] in
theorem ux (z : AV) (ps : List (Nat × Nat × AV)) : Det (bl z ps):=by
 intro K;unfold bl;split <;> intro q <;> first|exact ⟨_,⟨rfl,trivial⟩,q⟩|exact q.elim
omit [Laid] in
theorem Eb (len sz : Nat) (z : AV) (ps : List (Nat × Nat × AV)) : Det (bP len sz z ps):=by
 intro K;unfold bP;split <;> intro q <;> first|exact ⟨_,⟨rfl,trivial⟩,q⟩|exact q.elim
omit [Laid] in
theorem xY (x : AV) (h : aa) : Det (fk x h):=by
 intro K;unfold fk;split <;> intro q <;> first|exact ⟨_,⟨rfl,trivial⟩,q⟩|exact q.elim
omit [Laid] in
theorem IT (x y : AV) : Det (jd x y):=by
 intro K;unfold jd;split <;> intro q <;> first|exact ⟨_,⟨q.1,rfl,trivial⟩,q.2⟩|exact q.elim
omit [Laid] in
theorem tk (x y : AV) : Det (fw x y):=by
 intro K;unfold fw;split <;> intro q <;> first|exact ⟨_,⟨q.1,rfl,trivial⟩,q.2⟩|exact q.elim
omit [Laid] in
theorem Gp (x y z : AV) : Det (fun K=>fw x y fun u=>fw u z K):=by
 intro K q
 obtain ⟨r,h1,h2⟩:=tk x y _ q
 obtain ⟨s,h3,h4⟩:=tk r z K h2
 refine ⟨s, ?_,h4⟩
 unfold fw at h1 ⊢
 split at h1
 ·obtain ⟨e,f⟩:=h1
  refine ⟨e, ?_⟩
  rw [f.1];exact h3
 ·exact h1.elim
omit [Laid] in
theorem eO (b : Bool) {W : (AV → Prop) → Prop} (hW : Det W) : Det (fun K=>req b (W K)):=by
 intro K q
 obtain ⟨hb,q⟩:=aU q
 subst hb
 exact hW K q
end

omit [Laid] in
theorem Gr (P : Program) (x : AV) : Det (dt P x):=by
 intro K;unfold dt;split <;> intro q
 ·exact ⟨_,⟨q.1,rfl,trivial⟩,q.2⟩
 ·exact IW _ K q
omit [Laid] in
theorem IJ (has : TypeId → Bool) (x : AV) : Det (oH has x):=by
 intro K;unfold oH;split <;> intro q <;> first|exact ⟨_,⟨q.1,rfl,trivial⟩,q.2⟩|exact q.elim
omit [Laid] in
theorem IU (t : TypeId) (x : AV) : Det (wE t x):=by
 intro K;unfold wE;intro q;exact ⟨_,⟨rfl,trivial⟩,q⟩
omit [Laid] in
theorem IQ (neg : Bool) (r : Option Bool) : Det (j0 neg r):=by
 intro K;unfold j0;split <;> intro q <;> first|exact ⟨_,⟨rfl,trivial⟩,q⟩|exact q.elim
omit [Laid] in
theorem Gq (neg : Bool) (d : TypeDesc) (y : Operand) (x : AV) : Det (lX neg d y x):=by
 intro K;unfold lX;split <;> intro q <;> first|exact IQ _ _ K q|exact q.elim

def lu (P : Program) (own : Bool) : Op → Bool
 | .buildSlice .. => own
 | .makeInterface .. | .typeAssert .. | .move _|.assign _|.pick .. | .binOp .. | .extract .. | .field .. | .index .. | .slice .. | .indexAddr .. | .fieldAddr .. | .nilCheck _|.load .. | .build .. | .makeFunc .. | .unOp .. => true
 | .convert s d _=>(match P.underlying s,P.underlying d with|some .string,some (.slice _)=>false|_,_=>true)
 | .call c=>(match c.callee with|.builtin .min|.builtin .max=>true|_=>false)
 | _=>false
def cK (P : Program) (x : AV) (args : List AV) (h : aa) (K : AV → Prop) : Prop:=∃ r,aH P x args h (fun v h' => v = r ∧ h' = h) ∧ K r
def gr (x : AV) (K : AV → Prop) : Prop:=match x with|.str l=>K (int l.length)|_=>False
def lW (x : AV) (K : AV → Prop) : Prop :=
 match eA x with
 | .sl _ rows=>K (int rows.length)
 | .own _ _ len _=>K (int len)
 | .emp=>K (int 0)
 | _=>False
def dOp (P : Program) (own : Bool) (ev : Operand → AV) (h : aa) (op : Op) (K : AV → Prop) : Prop :=
 match op with
 | .call c=>(match c.callee with
   | .value x=>cK P (ev x) (c.args.toList.map ev) h K
   | .builtin .len=>(match c.argTypes[0]?,c.args[0]? with
     | some t,some x=>(match P.underlying t with
       | some .string=>gr (ev x) K
       | some (.slice _)=>lW (ev x) K
       | _=>False)
     | _,_=>False)
   | _=>req (lu P own (.call c)) (bg P own ev h (.call c) fun v _=>K v))
 | op=>req (lu P own op) (bg P own ev h op fun v _=>K v)

theorem m5 {P : Program} {own : Bool} {ev : Operand → AV} {h : aa} {op : Op} {K : AV → Prop} (hq : lu P own op = true) (q : bg P own ev h op fun v _=>K v) : tA (bg P own ev h op) h K:=by
 unfold tA
 cases op <;> simp only [lu,Bool.false_eq_true] at hq <;> simp only [bg] at q ⊢
 case move x=>exact ⟨_,⟨rfl,trivial⟩,q⟩
 case assign x=>exact ⟨_,⟨rfl,trivial⟩,q⟩
 case pick=>exact Gs _ _ _ K q
 case build t ps =>
  split at q
  ·exact eO _ (ux _ _) K q
  ·exact eO _ (ux _ _) K q
  ·exact q.elim
 case load=>exact eO _ (qi _ _ _ _) K q
 case buildSlice t n ps =>
  subst hq
  simp only at q ⊢
  cases ht : P.underlying t with
  | none=>rw [ht] at q;exact q.elim
  | some d =>
    rw [ht] at q
    cases d <;> simp only at q ⊢ <;> first|exact q.elim|skip
    rename_i e
    cases hz : cU P e with
    | none=>rw [hz] at q;exact q.elim
    | some z=>rw [hz] at q;exact eO _ (Eb _ _ _ _) K q
 case nilCheck=>exact Gr _ _ K q
 case makeInterface=>exact eO _ (IU _ _) K q
 case typeAssert x xT a ok=>cases ok <;> first|exact q.elim|exact IJ _ _ K q
 case binOp o t x y yt =>
  split at q
  ·rename_i hagg
   simp only [hagg,if_true]
   cases o <;> simp only at q ⊢ <;> first|exact q.elim|skip
   all_goals
    cases hks : gD P 8 t with
    | none=>rw [hks] at q;exact (aU q).2.elim
    | some ks=>rw [hks] at q;exact eO _ (IK _ _ _ _) K q
  ·rename_i hagg
   simp only [hagg,if_false,Bool.false_eq_true]
   cases hu : P.underlying t with
   | none=>rw [hu] at q;exact q.elim
   | some d =>
     rw [hu] at q
     cases d <;> simp only at q ⊢ <;> first|exact Gh _ _ _ K q|exact yL _ _ _ K q|(cases o <;> first|exact q.elim|exact Gq _ _ _ _ K q)
 case unOp o t x=>cases o <;> simp only at q ⊢ <;> first|exact q.elim|exact IX _ K q|exact IV _ K q|(cases hu : P.underlying t with|none=>rw [hu] at q;exact q.elim|some d=>rw [hu] at q;cases d <;> simp only at q ⊢ <;> first|exact q.elim|exact yL _ _ _ K q)
 case convert s d x =>
  cases hs : P.underlying s with
  | none=>rw [hs] at q;exact q.elim
  | some a =>
    cases hd : P.underlying d with
    | none=>rw [hs,hd] at q;cases a <;> exact q.elim
    | some b =>
      rw [hs,hd] at q hq
      cases a <;> cases b <;> simp only [Bool.false_eq_true] at q hq ⊢ <;> first|exact q.elim|exact Gi _ _ K q|exact Gu _ K q|exact eO _ (xY _ _) K q
 case makeFunc=>exact ⟨_,⟨rfl,trivial⟩,q⟩
 case slice t x lo hi mx =>
  cases mx with
  | some m=>exact q.elim
  | none =>
    simp only at q ⊢
    cases ht : P.underlying t with
    | none=>rw [ht] at q;exact q.elim
    | some d =>
      rw [ht] at q
      cases d <;> simp only at q ⊢ <;> first|exact q.elim|exact IZ _ _ _ K q|exact eO _ (K7 _ _ _ _) K q|exact eO _ (IY _ _ _ _ _ _) K q
 case fieldAddr t x i =>
  split at q
  ·split at q
   ·exact eO _ (IL _ _) K q
   ·exact q.elim
  ·exact q.elim
 case field t x i =>
  split at q
  ·split at q
   ·exact eO _ (IM _ _ _ _) K q
   ·exact q.elim
  ·exact q.elim
 case indexAddr t x i =>
  split at q
  ·exact eO _ (Gl _ _ _) K q
  ·exact eO _ (Gm _ _ _ _) K q
  ·exact q.elim
 case index t x i =>
  split at q
  ·exact Gn _ _ K q
  ·exact eO _ (Gk _ _ _ _ _) K q
  ·exact q.elim
 case extract=>exact Gj _ _ K q
 case call c =>
  cases hc : c.callee <;> rw [hc] at q hq <;> first|exact q.elim|(simp only [Bool.false_eq_true] at hq;done)|skip
  rename_i b
  cases b <;> first|(simp only [Bool.false_eq_true] at hq;done)|exact q.elim|skip
  all_goals simp only at q ⊢
  ·split at q
   ·exact tk _ _ K q
   ·exact Gp _ _ _ K q
   ·exact q.elim
  ·split at q
   ·exact IT _ _ K q
   ·exact q.elim

omit [Laid] in
theorem uG {x : AV} {K : AV → Prop} (q : gr x K) : ∃ y,eS x (fun v=>v = y ∧ True) ∧ K y:=by
 unfold gr at q
 split at q
 ·exact ⟨_,fun _=>⟨rfl,trivial⟩,q⟩
 ·exact q.elim
omit [Laid] in
theorem w9 {x : AV} {K : AV → Prop} (q : lW x K) : ∃ y,bI x (fun v=>v = y ∧ True) ∧ K y:=by
 unfold lW at q
 unfold bI
 revert q
 cases eA x <;> intro q <;> first|exact ⟨_,fun _=>⟨rfl,trivial⟩,q⟩|exact ⟨_,⟨rfl,trivial⟩,q⟩|exact q.elim
theorem pe {P : Program} {own : Bool} {ev : Operand → AV} {h : aa} {op : Op} {K : AV → Prop} (q : dOp P own ev h op K) : tA (bg P own ev h op) h K:=by
 unfold dOp at q
 split at q
 ·rename_i c
  split at q
  ·rename_i x hc
   obtain ⟨r,q1,q2⟩:=q
   exact ⟨r,by simp only [bg,hc];exact q1,q2⟩
  ·rename_i hc
   unfold tA
   simp only [bg,hc]
   cases h1 : c.argTypes[0]? with
   | none=>rw [h1] at q;exact q.elim
   | some t =>
     cases h2 : c.args[0]? with
     | none=>rw [h1,h2] at q;exact q.elim
     | some x =>
       rw [h1,h2] at q
       simp only at q ⊢
       cases ht : P.underlying t with
       | none=>rw [ht] at q;exact q.elim
       | some d =>
         rw [ht] at q
         cases d <;> first|exact q.elim|exact uG q|exact w9 q
  ·exact m5 (aU q).1 (aU q).2
 ·exact m5 (aU q).1 (aU q).2

section
variable (P : Program) (ops : Array Oper) (n : Nat) (h : aa)
def dL : List (Nat × Bool) → Fr → (Fr → Prop) → Prop
 | [],fr,K=>K fr
 | (i,own) :: r,fr,K=>match ops[i]? with
  | some o=>tA (bg P own (ae fr) h o.op) h fun v=>dL r (bj n fr o.dst v) K
  | none=>False
def dNo : List (Nat × Bool) → Fr → Fr
 | [],fr=>fr
 | (i,_) :: r,fr=>match ops[i]? with
  | some o=>dNo r (bj n fr o.dst (.v undef))
  | none=>dNo r fr
def gC : List Seg → Fr → (Fr → Prop) → Prop
 | [],fr,K=>K fr
 | .op i own :: r,fr,K=>(match ops[i]? with
   | some o=>tA (bg P own (ae fr) h o.op) h fun v=>gC r (bj n fr o.dst v) K
   | none=>False)
 | .grp j want l _ ms :: r,fr,K=>(match cf ops j with
   | some d=>aQ (fun J=>aK (aL fr d) want (dL P ops n h l fr fun fr' => J (cN fr' ms) h) (J (cN (dNo ops n l fr) ms) h)) fun s _=>gC r (ig fr ms s 0) K
   | none=>False)
def vL : List (Nat × Bool) → Fr → (Fr → Prop) → Prop
 | [],fr,K=>K fr
 | (i,own) :: r,fr,K=>match ops[i]? with
  | some o=>dOp P own (ae fr) h o.op fun v=>vL r (bj n fr o.dst v) K
  | none=>False
def kD : List Seg → Fr → (Fr → Prop) → Prop
 | [],fr,K=>K fr
 | .op i own :: r,fr,K=>(match ops[i]? with
   | some o=>dOp P own (ae fr) h o.op fun v=>kD r (bj n fr o.dst v) K
   | none=>False)
 | .grp j want l _ ms :: r,fr,K=>(match cf ops j with
   | some d=>aQ (fun J=>aK (aL fr d) want (vL P ops n h l fr fun fr' => J (cN fr' ms) h) (J (cN (dNo ops n l fr) ms) h)) fun s _=>kD r (ig fr ms s 0) K
   | none=>False)
def m6 : List (Nat × Bool) → List Nat
 | []=>[]
 | (i,_) :: r=>match ops[i]? with
  | some o=>(match o.dst with|some t=>t :: m6 r|none=>m6 r)
  | none=>m6 r
def mC : Seg → Bool
 | .op .. => true
 | .grp _ _ l _ ms=>(m6 ops l).all (ms.contains ·) && ms.all fun t=>decide (t < n)
end

theorem Mq {P : Program} {ops : Array Oper} {n : Nat} {h : aa} : ∀ (l : List (Nat × Bool)) (fr : Fr) (K K' : Fr → Prop),(∀ f,K f → K' f) → vL P ops n h l fr K → dL P ops n h l fr K'
 | [],fr,K,K',hk,q=>hk _ q
 | (i,_) :: r,fr,K,K',hk,q=>by
  simp only [vL] at q
  simp only [dL]
  cases ho : ops[i]? with
  | none=>rw [ho] at q;exact q.elim
  | some o =>
    rw [ho] at q
    obtain ⟨x,q1,q2⟩:=pe q
    exact ⟨x,q1,Mq r _ K K' hk q2⟩
theorem mH {P : Program} {ops : Array Oper} {n : Nat} {h : aa} : ∀ (l : List Seg) (fr : Fr) (K : Fr → Prop),kD P ops n h l fr K → gC P ops n h l fr K
 | [],fr,K,q=>q
 | .op i _ :: r,fr,K,q=>by
   simp only [kD] at q
   simp only [gC]
   cases ho : ops[i]? with
   | none=>rw [ho] at q;exact q.elim
   | some o =>
     rw [ho] at q
     obtain ⟨x,q1,q2⟩:=pe q
     exact ⟨x,q1,mH r _ K q2⟩
 | .grp j want l _ ms :: r,fr,K,q=>by
   simp only [kD,aQ] at q
   simp only [gC,aQ]
   cases hd : cf ops j with
   | none=>rw [hd] at q;exact q.elim
   | some d =>
     rw [hd] at q
     rcases q with ⟨t,ht,g1,g2⟩|⟨hu,g2⟩
     ·exact .inl ⟨t,ht,fun z=>Mq l fr _ _ (fun f hf=>mH r _ K hf) (g1 z),fun z=>mH r _ K (g2 z)⟩
     ·exact .inr ⟨hu,mH r _ K g2⟩

/-! ### What it comes to -/
def ja (fr fr' : Fr) : Prop:=∀ t,aL fr t = aL fr' t
omit [Laid] in
theorem ja.set {fr fr' : Fr} (e : ja fr fr') (n : Nat) (d : Option Tmp) (x : AV) : ja (bj n fr d x) (bj n fr' d x):=by
 intro t
 unfold bj
 cases d with
 | none=>exact e t
 | some u =>
   simp only
   split
   ·rw [bZ,bZ];split
    ·rfl
    ·exact e t
   ·exact e t

section
variable {P : Program} {ops : Array Oper} {n : Nat} {h : aa} {Z : Fr → Prop}

theorem ic.eq : ∀ (l : List Oper) {fr fr' : Fr},(∀ f f',ja f f' → Z f → Z f') → ja fr fr' → ic P ops n h Z l fr → ic P ops n h Z l fr'
 | [],fr,fr',hZ,e,q=>hZ _ _ e q
 | o :: l,fr,fr',hZ,e,⟨x,hy,q⟩=>⟨x,hy.same fun t _=>(e t).symm,ic.eq l hZ (e.set n o.dst x) q⟩
theorem xb : ∀ (l1 l2 : List Oper) {fr : Fr},ic P ops n h (ic P ops n h Z l2) l1 fr → ic P ops n h Z (l1 ++ l2) fr
 | [],_,_,q=>q
 | _ :: l1,l2,_,⟨x,hy,q⟩=>⟨x,hy,xb l1 l2 q⟩
theorem uI {Z' : Fr → Prop} : ∀ (l : List Oper) {fr : Fr},(∀ f,Z f → Z' f) → ic P ops n h Z l fr → ic P ops n h Z' l fr
 | [],_,hz,q=>hz _ q
 | _ :: l,_,hz,⟨x,hy,q⟩=>⟨x,hy,uI l hz q⟩

def fR (ops : Array Oper) (l : List Nat) : List Oper:=l.filterMap (ops[·]?)

omit [Laid] in
theorem xq : ∀ (ms : List Nat) (fr : Fr) (s : List AV) (k t : Nat),(∀ i u,ms[i]? = some u → ∃ x,s[k + i]? = some x) →
 (t ∉ ms ∧ aL (ig fr ms s k) t = aL fr t) ∨ ∃ i x,ms[i]? = some t ∧ s[k + i]? = some x ∧ aL (ig fr ms s k) t = x
 | [],fr,s,k,t,_=>.inl ⟨by simp,rfl⟩
 | m :: ms,fr,s,k,t,hs=>by
   rw [ig]
   rcases xq ms (bK fr m (nx s k)) s (k + 1) t (fun i u e=>by
    obtain ⟨x,hx⟩:=hs (i + 1) u (by simpa using e)
    exact ⟨x,by rw [show k + 1 + i = k + (i + 1) by omega];exact hx⟩) with ⟨h1,h2⟩|⟨i,x,h1,h2,h3⟩
   ·rw [bZ] at h2
    by_cases e : m = t
    ·right
     obtain ⟨x,hx⟩:=hs 0 m rfl
     rw [if_pos e] at h2
     refine ⟨0,x,by simp [e],hx, ?_⟩
     rw [h2];unfold nx
     rw [List.getD_eq_getElem?_getD,show k = k + 0 from rfl,hx];rfl
    ·left
     rw [if_neg e] at h2
     exact ⟨by simp [Ne.symm e,h1],h2⟩
   ·exact .inr ⟨i + 1,x,by simpa using h1,by rw [show k + (i + 1) = k + 1 + i by omega];exact h2,h3⟩

omit [Laid] in
theorem Ew {fr fr' : Fr} {ms : List Nat} (hk : ∀ t,t ∉ ms → aL fr' t = aL fr t) : ja (ig fr ms (cN fr' ms) 0) fr':=by
 intro t
 rcases xq ms fr (cN fr' ms) 0 t (fun i u e=>⟨aL fr' u,by rw [Nat.zero_add,cN,List.getElem?_map,e];rfl⟩) with ⟨h1,h2⟩|⟨i,x,h1,h2,h3⟩
 ·rw [h2,hk t h1]
 ·rw [h3]
  rw [Nat.zero_add,cN,List.getElem?_map,h1] at h2
  simpa using h2.symm

theorem yJ : ∀ (l : List (Nat × Bool)) (fr : Fr) (K : Fr → Prop),dL P ops n h l fr K → dL P ops n h l fr fun fr' => K fr' ∧ ∀ t,t ∉ m6 ops l → aL fr' t = aL fr t
 | [],fr,K,q=>⟨q,fun _ _=>rfl⟩
 | (i,own) :: l,fr,K,q=>by
  simp only [dL] at q ⊢
  cases ho : ops[i]? with
  | none=>rw [ho] at q;exact q.elim
  | some o =>
    simp only [ho] at q ⊢
    obtain ⟨x,q1,q2⟩:=q
    refine ⟨x,q1, ?_⟩
    have:=yJ l _ _ q2
    have mono : ∀ (l : List (Nat × Bool)) (fr : Fr) (A B : Fr → Prop),(∀ f,A f → B f) → dL P ops n h l fr A → dL P ops n h l fr B:=by
     intro l
     induction l with
     | nil=>intro fr A B hab q;exact hab _ q
     | cons p l ih =>
       intro fr A B hab q
       simp only [dL] at q ⊢
       cases ho : ops[p.1]? with
       | none=>rw [ho] at q;exact q.elim
       | some o =>
         simp only [ho] at q ⊢
         obtain ⟨x,q1,q2⟩:=q
         exact ⟨x,q1,ih _ _ _ hab q2⟩
    refine mono l _ _ _ (fun f hf=>⟨hf.1,fun t ht=>?_⟩) this
    simp only [m6,ho] at ht
    cases hd : o.dst with
    | none=>simp only [hd] at ht;rw [hf.2 t ht,hd];rfl
    | some u =>
      simp only [hd,List.mem_cons,not_or] at ht
      rw [hf.2 t ht.2,hd]
      exact dw fun e he=>by cases he;exact Ne.symm ht.1
omit [Laid] in
theorem kP : ∀ (l : List (Nat × Bool)) (fr : Fr) (t : Nat),t ∉ m6 ops l → aL (dNo ops n l fr) t = aL fr t
 | [],fr,t,_=>rfl
 | (i,own) :: l,fr,t,ht=>by
  simp only [dNo]
  simp only [m6] at ht
  cases ho : ops[i]? with
  | none=>simp only [ho] at ht ⊢;exact kP l fr t ht
  | some o =>
    simp only [ho] at ht ⊢
    cases hd : o.dst with
    | none=>simp only [hd] at ht ⊢;exact kP l _ t ht
    | some u =>
      simp only [hd,List.mem_cons,not_or] at ht ⊢
      rw [kP l _ t ht.2]
      exact dw fun e he=>by cases he;exact Ne.symm ht.1

omit [Laid] in
theorem ku {i : Nat} {o : Oper} {l : List Nat} (h : ops[i]? = some o) : fR ops (i :: l) = o :: fR ops l:=by simp [fR,h]

theorem EK {j d : Nat} {want : Bool} (hd : cf ops j = some d) {K : Fr → Prop} : ∀ (l : List (Nat × Bool)) (fr : Fr),
 l.all (fun p=>match ops[p.1]? with|some o=>o.guard == some (j,want)|none=>false) = true → (l.dropLast).all (fun p=>match ops[p.1]? with|some o=>o.dst != some d|none=>false) = true →
 (l ≠ [] → aL fr d = .v (.bool want)) → dL P ops n h l fr K → ic P ops n h K (fR ops (l.map (·.1))) fr
 | [],fr,_,_,_,q=>q
 | (i,own) :: l,fr,hgs,hds,hc,q=>by
  simp only [List.all_cons,Bool.and_eq_true] at hgs
  obtain ⟨hg,hgs⟩:=hgs
  simp only [dL] at q
  cases ho : ops[i]? with
  | none=>rw [ho] at q;exact q.elim
  | some o =>
    simp only [ho,beq_iff_eq] at hg q
    obtain ⟨x,q1,q2⟩:=q
    rw [List.map_cons,ku ho]
    refine ⟨x,.inl ⟨by simp [di,hg,hd,hc (by simp)],_,q1⟩,EK hd l _ hgs ?_ (fun hne=>?_) q2⟩
    ·cases l with
     | nil=>rfl
     | cons p l=>simp only [List.dropLast_cons_cons,List.all_cons,Bool.and_eq_true] at hds;exact hds.2
    ·cases l with
     | nil=>exact absurd rfl hne
     | cons p l =>
       simp only [List.dropLast_cons_cons,List.all_cons,Bool.and_eq_true,ho,bne_iff_ne,ne_eq] at hds
       rw [dw fun e he q=>hds.1 (by rw [he,q])];exact hc (by simp)
theorem tR {j d : Nat} {want : Bool} (hd : cf ops j = some d) {K : Fr → Prop} : ∀ (l : List (Nat × Bool)) (fr : Fr),
 l.all (fun p=>match ops[p.1]? with|some o=>o.guard == some (j,want)|none=>false) = true → (l.dropLast).all (fun p=>match ops[p.1]? with|some o=>o.dst != some d|none=>false) = true →
 (l ≠ [] → aL fr d = .v (.bool (!want)) ∨ aL fr d = .v undef) → K (dNo ops n l fr) → ic P ops n h K (fR ops (l.map (·.1))) fr
 | [],fr,_,_,_,q=>q
 | (i,own) :: l,fr,hgs,hds,hc,q=>by
  simp only [List.all_cons,Bool.and_eq_true] at hgs
  obtain ⟨hg,hgs⟩:=hgs
  simp only [dNo] at q
  cases ho : ops[i]? with
  | none=>simp only [ho] at hg;cases hg
  | some o =>
    simp only [ho,beq_iff_eq] at hg q
    rw [List.map_cons,ku ho]
    have hw : di ops o fr = some false:=by
     unfold di
     simp only [hg,hd]
     rcases hc (by simp) with z|z
     ·rw [z];cases want <;> rfl
     ·rw [z];rfl
    refine ⟨.v undef,.inr ⟨hw,rfl⟩,tR hd l _ hgs ?_ (fun hne=>?_) q⟩
    ·cases l with
     | nil=>rfl
     | cons p l=>simp only [List.dropLast_cons_cons,List.all_cons,Bool.and_eq_true] at hds;exact hds.2
    ·cases l with
     | nil=>exact absurd rfl hne
     | cons p l =>
       simp only [List.dropLast_cons_cons,List.all_cons,Bool.and_eq_true,ho,bne_iff_ne,ne_eq] at hds
       rw [dw fun e he q=>hds.1 (by rw [he,q])];exact hc (by simp)

theorem oU (hZ : ∀ f f',ja f f' → Z f → Z f') : ∀ (l : List Seg) (fr : Fr),l.all (fT ops) = true → l.all (mC ops n) = true → gC P ops n h l fr Z → ic P ops n h Z (fR ops (l.map Seg.ix).flatten) fr
 | [],fr,_,_,q=>q
 | .op i own :: r,fr,hok,hdk,q=>by
   simp only [List.all_cons,Bool.and_eq_true] at hok hdk
   simp only [gC] at q
   cases ho : ops[i]? with
   | none=>rw [ho] at q;exact q.elim
   | some o =>
     simp only [ho] at q
     obtain ⟨x,q1,q2⟩:=q
     have hg:=hok.1
     simp only [fT,ho,Option.isNone_iff_eq_none] at hg
     simp only [List.map_cons,List.flatten_cons,Seg.ix,List.singleton_append]
     rw [ku ho]
     exact ⟨x,.inl ⟨by simp [di,hg],_,q1⟩,oU hZ r _ hok.2 hdk.2 q2⟩
 | .grp j want l cs ms :: r,fr,hok,hdk,q=>by
   simp only [List.all_cons,Bool.and_eq_true] at hok hdk
   obtain ⟨hg,hok⟩:=hok
   obtain ⟨hdg,hdk⟩:=hdk
   simp only [gC] at q
   cases hd : cf ops j with
   | none=>rw [hd] at q;exact q.elim
   | some d =>
     simp only [hd] at q
     simp only [fT,hd,Bool.and_eq_true] at hg
     simp only [mC,Bool.and_eq_true] at hdg
     have hsub : ∀ t,t ∉ ms → t ∉ m6 ops l:=fun t ht ht' => ht (by simpa using List.all_eq_true.1 hdg.1 t ht')
     unfold aQ at q
     simp only [List.map_cons,List.flatten_cons,Seg.ix]
     have split : fR ops (l.map (·.1) ++ (r.map Seg.ix).flatten) = fR ops (l.map (·.1)) ++ fR ops (r.map Seg.ix).flatten:=by simp [fR,List.filterMap_append]
     rw [split]
     refine xb _ _ ?_
     have after : ∀ {fr' : Fr},(∀ t,t ∉ ms → aL fr' t = aL fr t) → gC P ops n h r (ig fr ms (cN fr' ms) 0) Z → ic P ops n h Z (fR ops (r.map Seg.ix).flatten) fr':=fun hk k =>
      ic.eq _ hZ (Ew hk) (oU hZ r _ hok hdk k)
     rcases q with ⟨t,ht0,g1,g2⟩|⟨hu,g2⟩
     ·by_cases ht : t = want
      ·subst ht
       exact uI _ (fun f hf=>after (fun u hu=>hf.2 u (hsub u hu)) hf.1) (EK hd l fr hg.1 hg.2 (fun _=>ht0) (yJ l fr _ (g1 rfl)))
      ·have ht' : t = !want:=by cases t <;> cases want <;> simp_all
       subst ht'
       exact tR hd l fr hg.1 hg.2 (fun _=>.inl ht0) (after (fun u hu=>kP l fr u (hsub u hu)) (g2 rfl))
     ·exact tR hd l fr hg.1 hg.2 (fun _=>.inr hu) (after (fun u hu' => kP l fr u (hsub u hu')) g2)
end

def Eh (P : Program) (ops : Array Oper) (n t : Nat) (l r q : List Seg) : Bool :=
 P.follows .mixedOrders && kn ops t && ln ops t t 0 (Array.replicate ops.size false) && l.all (fT ops) && l.all (mC ops n) && (l.map Seg.ix).flatten == List.range' 0 t &&
  (match jb ops (r.map Seg.ix).flatten (full ops t) with
  | some listed=>ln ops ops.size (q.map Seg.ix).flatten.length (t + (r.map Seg.ix).flatten.length) listed
  | none=>false) && r.all (fT ops) && q.all (fT ops) && q.all (mC ops n) && (q.map Seg.ix).flatten == List.range' (t + (r.map Seg.ix).flatten.length) (q.map Seg.ix).flatten.length &&
  decide (t + (r.map Seg.ix).flatten.length + (q.map Seg.ix).flatten.length = ops.size)
def Ei (P : Program) (ops : Array Oper) (t : Nat) (l r q : List Seg) (Q : Exit → St → Prop) (st : St) : Prop :=
 req (Eh P ops st.n t l r q) (kD P ops st.n st.h l st.fr fun fr=>gp P ops r ⟨st.n,fr,st.h⟩ fun st' => req (Nat.beq st'.n st.n) (kD P ops st.n st'.h q st'.fr fun fr' => Q .normal ⟨st.n,fr',st'.h⟩))
omit [Laid] in
theorem sU (Q : Exit → St → Prop) : dv (Q .normal) Q = Q:=by
 funext e st;cases e <;> rfl

theorem ROK.drew {base : Nat} {ι : List Ix} {S : aJ} {a : Act} {w : World} {st : St} (hr : ROK base ι S a w st) : Evo ι.length base ι S w ι S { w with drawn:=w.drawn + 1 } ∧ ROK base ι S a { w with drawn:=w.drawn + 1 } st:=by
 have hE : Evo ι.length base ι S w ι S { w with drawn:=w.drawn + 1 }:=⟨fun _ _=>dM.refl _,fun _ _ h=>h,fun _ _ h=>.inl h,fun _ _ _=>rfl,fun _ _ h=>h,(Below.refl base w).drew⟩
 exact ⟨hE,hr.df,hr.sz,cp.evo hE (Nat.le_refl _) hr.fr,hr.hp.nK hE hr.hp.len st.h.length (fun i _ _=>⟨rfl,rfl,fun _ _ _=>⟨rfl,fun _ q=>q⟩⟩) (fun x e=>by simp at e) (fun _ _ _ e=>by simp at e) (fun _ e=>by simp at e) (fun j b _ aT=>by simp [alive] at aT) hr.hp.stb hr.hp.bas⟩

theorem II {P : Program} {ops : Array Oper} {n : Nat} {h : aa} : ∀ (l : List (Nat × Bool)) (fr : Fr) (A B : Fr → Prop),(∀ f,A f → B f) → dL P ops n h l fr A → dL P ops n h l fr B:=by
 intro l
 induction l with
 | nil=>intro fr A B hab q;exact hab _ q
 | cons p l ih =>
   intro fr A B hab q
   simp only [dL] at q ⊢
   cases ho : ops[p.1]? with
   | none=>rw [ho] at q;exact q.elim
   | some o =>
     simp only [ho] at q ⊢
     obtain ⟨x,q1,q2⟩:=q
     exact ⟨x,q1,ih _ _ _ hab q2⟩
theorem Bw {P : Program} {ops : Array Oper} {n : Nat} {h : aa} : ∀ (l : List Seg) (fr : Fr) (A B : Fr → Prop),(∀ f,A f → B f) → gC P ops n h l fr A → gC P ops n h l fr B:=by
 intro l
 induction l with
 | nil=>intro fr A B hab q;exact hab _ q
 | cons p l ih =>
   intro fr A B hab q
   cases p with
   | op i own =>
     simp only [gC] at q ⊢
     cases ho : ops[i]? with
     | none=>rw [ho] at q;exact q.elim
     | some o =>
       simp only [ho] at q ⊢
       obtain ⟨x,q1,q2⟩:=q
       exact ⟨x,q1,ih _ _ _ hab q2⟩
   | grp j want ll cs ms =>
     simp only [gC,aQ] at q ⊢
     cases hd : cf ops j with
     | none=>rw [hd] at q;exact q.elim
     | some d =>
       simp only [hd] at q ⊢
       rcases q with ⟨t,ht,g1,g2⟩|⟨hu,g2⟩
       ·exact .inl ⟨t,ht,fun z=>II _ _ _ _ (fun f hf=>ih _ _ _ hab hf) (g1 z),fun z=>ih _ _ _ hab (g2 z)⟩
       ·exact .inr ⟨hu,ih _ _ _ hab g2⟩

omit [Laid] in
theorem pY {ops : Array Oper} : ∀ (L k : Nat),k + L ≤ ops.size → (fR ops (List.range' k L)).length = L ∧ ∀ j,j < L → (fR ops (List.range' k L))[j]? = ops[k + j]?
 | 0,k,_=>⟨rfl,fun j hj=>by omega⟩
 | L + 1,k,hk=>by
   obtain ⟨i1,i2⟩:=pY (ops:=ops) L (k + 1) (by omega)
   have hlt : k < ops.size:=by omega
   have e : fR ops (List.range' k (L + 1)) = ops[k] :: fR ops (List.range' (k + 1) L):=by
    rw [List.range'_succ]
    exact ku (Array.getElem?_eq_getElem hlt)
   rw [e]
   refine ⟨by simp [i1],fun j hj=>?_⟩
   cases j with
   | zero=>simp [hlt]
   | succ j=>rw [List.getElem?_cons_succ,i2 j (by omega)];rw [show k + 1 + j = k + (j + 1) by omega]

theorem oW {P : Program} {ops : Array Oper} {n : Nat} {h : aa} {m t k L more : Nat} {l : List Seg} {Q : Exit → St → Prop} {Z : Fr → Prop} {listed : Array Bool} (k2 : kn ops t = true) (k5 : l.all (fT ops) = true) (k6 : l.all (mC ops n) = true)
 (k8 : (l.map Seg.ix).flatten = List.range' k L) (hL : k + L ≤ ops.size) (down : Down ops listed) (k3 : ln ops t L k listed = true) (hm : m ≤ h.length)
 (hZ : ∀ fr base ι S a w,ROK base ι S a w ⟨n,fr,h⟩ → Z fr → wpAny P .any ops (bQ m base ι S w Q) more (full ops t) a w)
 {base : Nat} {ι : List Ix} {S : aJ} {a : Act} {w : World} {fr : Fr} (hr : ROK base ι S a w ⟨n,fr,h⟩) (q : kD P ops n h l fr Z) : wpAny P .any ops (bQ m base ι S w Q) (L + more) listed a w:=by
 let Z' : Fr → Prop:=fun fr=>∀ base ι S a w,ROK base ι S a w ⟨n,fr,h⟩ → wpAny P .any ops (bQ m base ι S w Q) more (full ops t) a w
 have hZeq : ∀ f f',ja f f' → Z' f → Z' f':=fun f f' e z base ι S a w hr=>z base ι S a w ⟨hr.df,hr.sz,fun u=>by rw [e u];exact hr.fr u,hr.hp⟩
 have q2 : gC P ops n h l fr Z':=Bw l fr _ Z' (fun fr hfr base ι S a w hr=>hZ fr base ι S a w hr hfr) (mH _ _ _ q)
 have q3:=oU hZeq l fr k5 k6 q2
 rw [k8] at q3
 obtain ⟨l1,l2⟩:=pY (ops:=ops) L k hL
 have q4:=vE k2 (fR ops (List.range' k L)) k listed fr (fun j hj=>l2 j (by rw [l1] at hj;exact hj)) down (by rw [l1];exact k3) q3
 rw [l1] at q4
 exact qU (m:=m) (Q':=Q) (more:=more) (Z:=Z') (fun fr base ι S a w hr z=>z base ι S a w hr) L _ base ι S a _ fr hm hr q4

omit [Laid] in
theorem oE {ops : Array Oper} : Region.ready .any ops (full ops ops.size) = []:=by
 refine List.eq_nil_iff_forall_not_mem.2 fun i hi=>?_
 obtain ⟨h0,o,ho,_⟩:=mem_ready.1 hi
 have hlt:=(Array.getElem?_eq_some_iff.1 ho).1
 simp [full,hlt] at h0
omit [Laid] in
theorem wy {ops : Array Oper} : kn ops ops.size = true:=by
 unfold kn
 exact List.all_eq_true.2 fun i hi=>by simp at hi;simp [hi]
omit [Laid] in
theorem uJ {ops : Array Oper} {t : Nat} : ∀ (L k : Nat) (listed : Array Bool),Down ops listed → ln ops t L k listed = true → Down ops (full ops t)
 | 0,k,listed,hd,hl=>by simp only [ln,beq_iff_eq] at hl;exact hl ▸ hd
 | L + 1,k,listed,hd,hl=>by
   simp only [ln,Bool.and_eq_true,decide_eq_true_eq] at hl
   exact uJ L (k + 1) _ (hd.set (by simpa using hl.1.1.1)) hl.2

theorem DF {P : Program} {m id t : Nat} {ops : Array Oper} {l r q : List Seg} {Q : Exit → St → Prop} {st : St} (hm : m ≤ st.h.length) (hq : Ei P ops t l r q Q st) : AW P m (.region id ops true) Q st:=by
 intro base ι S a w _ hr
 obtain ⟨hok,hq⟩:=aU hq
 simp only [Eh,Bool.and_eq_true,beq_iff_eq,decide_eq_true_eq] at hok
 obtain ⟨⟨⟨⟨⟨⟨⟨⟨⟨⟨⟨k1,k2⟩,k3⟩,k5⟩,k6⟩,k8⟩,k4⟩,k7⟩,q5⟩,q6⟩,q8⟩,k9⟩:=hok
 split at k4
 ·rename_i listed' hch
  obtain ⟨hE,hr'⟩:=hr.drew
  have fin : wpAny P .any ops (bQ m base ι S { w with drawn:=w.drawn + 1 } Q) ops.size (Array.replicate ops.size false) a { w with drawn:=w.drawn + 1 } → (Code.region id ops true).wp P (bQ m base ι S w Q) a w:=fun h1 =>
   wp_region_any k1 (cE (fun e a w z=>bQ.trans (hE.mono (by rw [hr.hp.len];exact hm) (Nat.le_refl _)) z) _ _ _ _ h1)
  have down0 : Down ops (Array.replicate ops.size false):=fun i o ho hl=>by
   have hlt:=(Array.getElem?_eq_some_iff.1 ho).1
   simp [hlt] at hl
  refine fin ?_
  have down1:=uJ _ _ _ down0 k3
  have down2:=ma _ _ _ down1 hch
  have key:=oW (Q:=Q) (more:=(r.map Seg.ix).flatten.length + (q.map Seg.ix).flatten.length) k2 k5 k6 k8 (by omega) down0 k3 hm (fun fr base ι S a w hr hfr=>?_) hr' hq
  ·rwa [show t + ((r.map Seg.ix).flatten.length + (q.map Seg.ix).flatten.length) = ops.size by omega] at key
  ·have hs:=jl (m:=m) (Q:=Q) r base ι S a w ⟨st.n,fr,st.h⟩ k7 hm hr hfr
   refine mV (fun e a w hne z=>?_) (fun a w z=>?_) _ _ _ _ hch hs
   ·obtain ⟨ι',S',st',z1,z2,z3,z4⟩:=z
    refine ⟨ι',S',st',z1,z2,z3, ?_⟩
    cases e <;> first|exact absurd rfl hne|exact z4
   ·obtain ⟨ι',S',st',z1,z2,z3,z4⟩:=z
    obtain ⟨n',fr',h'⟩:=st'
    obtain ⟨en,z4⟩:=aU z4
    have en : n' = st.n:=Nat.eq_of_beq_eq_true en
    subst en
    have:=oW (m:=m) (more:=0) (Q:=Q) wy q5 q6 q8 (by omega) down2 k4 z2 (fun fr base ι S a w hr hfr=>⟨oE,ι,S,⟨st.n,fr,h'⟩,Evo.refl _ _ _ _ _,z2,hr,hfr⟩) z3 z4
    exact cE (fun e a w z=>bQ.trans z1 z) _ _ _ _ this
 ·cases k4

end Go.Aw

