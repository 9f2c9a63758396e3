/-
  A statement whose order is open,with one chain of operations that touch the call's own memory: what does not go by memory may stand ahead of it,and what the chain waits for. A statement whose order is open,with two chains of operations that touch the call's own memory: where either may come next,both ways are gone.
  No conditions.
-/
import Derived.Test.YtfageokhpklkbaaGreatDoorAdopt
set_option linter.unusedVariables false
set_option linter.unusedSimpArgs false
section
namespace Go.Aw
open Go Go.RowKit
variable [Laid]

def HLe (B : Nat → Prop) (h h' : aa) : Prop:=∀ (id : Nat) (b : Blk),B id → h[id]? = some (.blk b) → h'[id]? = some (.blk b)
omit [Laid] in
theorem HLe.refl {B : Nat → Prop} (h : aa) : HLe B h h:=fun _ _ _ e=>e
omit [Laid] in
theorem HLe.trans {B : Nat → Prop} {a b c : aa} (x : HLe B a b) (y : HLe B b c) : HLe B a c:=fun id k hb e=>y id k hb (x id k hb e)
omit [Laid] in
theorem HLe.ext {B : Nat → Prop} (h e : aa) : HLe B h (h ++ e):=fun id b _ q=>by
 rw [List.getElem?_append_left (List.getElem?_eq_some_iff.1 q).1];exact q
omit [Laid] in
theorem HLe.tok {B : Nat → Prop} {h : aa} {id : Nat} {t sz n : Nat} {x : Ent} (q : h[id]? = some (.tok t sz n)) : HLe B h (h.set id x):=fun j b _ e=>by
 rw [List.getElem?_set_ne (fun z=>by subst z;rw [q] at e;cases e)];exact e
omit [Laid] in
theorem HLe.kill {B : Nat → Prop} {h e : aa} {id : Nat} {x : Ent} (q : ¬ B id) : HLe B h (h.set id x ++ e):=fun j b hb z=>by
 rw [List.getElem?_append_left (by simpa using (List.getElem?_eq_some_iff.1 z).1),List.getElem?_set_ne (fun y=>by subst y;exact q hb)];exact z
section
variable (P : Program) (ops : Array Oper) (n : Nat) (Lo Fe Ee Ge : Nat → Bool) (B : Nat → Prop)
def qL (i : Nat) (K : Fr → aa → Prop) (fr : Fr) (h : aa) : Prop :=
 match ops[i]? with
 | none=>False
 | some o=>o.guard = none ∧ ∃ own K0,bg P own (ae fr) h o.op K0 ∧ ∀ v h',K0 v h' → (Ge i = true → HLe B h h') ∧ K (bj n fr o.dst v) h'
def mI (Z : Fr → aa → Prop) : Nat → Array Bool → Fr → aa → Prop
 | 0,listed,fr,h=>listed = full ops ops.size ∧ Z fr h
 | fuel + 1,listed,fr,h=>Region.ready .any ops listed ≠ [] ∧ ∀ i ∈ Region.ready .any ops listed,
   (Lo i = true ∧ qL P ops n Ge B i (fun fr' h' => mI Z fuel (listed.setIfInBounds i true) fr' h') fr h) ∨
   (Lo i = false ∧ qA P ops n h i (fun fr' => mI Z fuel (listed.setIfInBounds i true) fr' h) fr)
def tc (Z : Fr → aa → Prop) : List Nat → Fr → aa → Prop
 | [],fr,h=>Z fr h
 | i :: r,fr,h=>match ops[i]? with
   | none=>False
   | some o=>(Lo i = true ∧ o.guard = none ∧ ∃ own K0,bg P own (ae fr) h o.op K0 ∧ ∀ v h',K0 v h' → (Ge i = true → HLe B h h') ∧ tc Z r (bj n fr o.dst v) h') ∨
     (Lo i = false ∧ ∃ x,YA P ops h o x fr ∧ (Fe i = true → ∀ h',YA P ops h' o x fr) ∧ (Ee i = true → ∀ h',HLe B h h' → YA P ops h' o x fr) ∧ tc Z r (bj n fr o.dst x) h)
end

section
variable {P : Program} {ops : Array Oper} {n : Nat} {Lo Fe Ee Ge : Nat → Bool} {B : Nat → Prop}

theorem AE {i : Nat} {K K' : Fr → aa → Prop} {fr : Fr} {h : aa} (hk : ∀ fr h,K fr h → K' fr h) (q : qL P ops n Ge B i K fr h) : qL P ops n Ge B i K' fr h:=by
 unfold qL at *
 split
 ·rename_i e;rw [e] at q;exact q
 ·rename_i o e
  rw [e] at q
  obtain ⟨g,own,K0,q,k⟩:=q
  exact ⟨g,own,K0,q,fun v h' z=>⟨(k v h' z).1,hk _ _ (k v h' z).2⟩⟩

theorem LW {h : aa} {j : Nat} {oi oj : Oper} {x : AV} {K : Fr → aa → Prop} {fr : Fr} (hj : ops[j]? = some oj) (hap : oi.apart ops oj = true) (hy : ∀ h',YA P ops h' oi x fr) (q : qL P ops n Ge B j K (bj n fr oi.dst x) h) :
 qL P ops n Ge B j (fun fr' h' => (∀ h2,YA P ops h2 oi x fr') ∧ K (bj n fr' oi.dst x) h') fr h:=by
 obtain ⟨h1,h2,h3⟩:=Oper.apart_spec hap
 unfold qL at *
 simp only [hj] at *
 obtain ⟨g,own,K0,q,k⟩:=q
 refine ⟨g,own,K0,gM (ev:=ae (bj n fr oi.dst x)) (fun y hy=>?_) q,fun v h' z=>⟨(k v h' z).1,fun h2=>(hy h2).put h3, ?_⟩⟩
 ·cases y with
  | tmp t =>
    have : aL (bj n fr oi.dst x) t = aL fr t:=dw fun e he q=>h1 e he (by
     unfold Oper.looksAt
     refine List.mem_append_left _ ?_
     simp only [List.mem_filterMap]
     exact ⟨.tmp t,by simpa using hy,by rw [q]⟩)
    simp [ae,this]
  | _=>rfl
 ·have k:=(k v h' z).2
  rw [nI (fun t ht=>h2 t ht)] at k
  exact k

def exB : Op → Bool
 | .alloc _|.box _ _|.buildSlice _ _ _=>true
 | _=>false
theorem xH {own : Bool} {ev : Operand → AV} {h : aa} {op : Op} {K : AV → aa → Prop} (he : exB op = true) (q : bg P own ev h op K) : bg P own ev h op fun v h' => (∃ e,h' = h ++ e) ∧ K v h':=by
 cases op <;> simp only [exB,Bool.false_eq_true] at he <;> simp only [bg] at q ⊢
 case alloc t =>
  split at q
  ·unfold bz at *
   exact ⟨q.1,⟨_,rfl⟩,q.2⟩
  ·exact q.elim
 case box t x =>
  unfold bz at *
  exact ⟨q.1,⟨_,rfl⟩,q.2⟩
 case buildSlice t k ps =>
  split at q
  ·rename_i e he
   split at q
   ·obtain ⟨hr,q⟩:=aU q
    rw [hr]
    simp only [req]
    cases own with
    | true =>
      simp only at q ⊢
      unfold bP at *
      split at q
      ·exact ⟨⟨[],by simp⟩,q⟩
      ·exact q.elim
    | false =>
      simp only at q ⊢
      unfold fG at *
      split at q
      ·split at q
       ·exact ⟨⟨[],by simp⟩,q⟩
       ·exact ⟨⟨_,rfl⟩,q⟩
      ·exact q.elim
   ·exact q.elim
  ·exact q.elim
theorem JW {h : aa} {j : Nat} {oi oj : Oper} {x : AV} {K : Fr → aa → Prop} {fr : Fr} (hj : ops[j]? = some oj) (hex : Ge j = true) (hap : oi.apart ops oj = true) (hy : ∀ h',HLe B h h' → YA P ops h' oi x fr) (q : qL P ops n Ge B j K (bj n fr oi.dst x) h) :
 qL P ops n Ge B j (fun fr' h' => (∀ h2,HLe B h' h2 → YA P ops h2 oi x fr') ∧ K (bj n fr' oi.dst x) h') fr h:=by
 obtain ⟨h1,h2,h3⟩:=Oper.apart_spec hap
 unfold qL at *
 simp only [hj] at *
 obtain ⟨g,own,K0,q,k⟩:=q
 refine ⟨g,own,K0,gM (ev:=ae (bj n fr oi.dst x)) (fun y hy=>?_) q,fun v h' z=>⟨(k v h' z).1,fun h4 hl=>?_, ?_⟩⟩
 ·cases y with
  | tmp t =>
    have : aL (bj n fr oi.dst x) t = aL fr t:=dw fun e he q=>h1 e he (by
     unfold Oper.looksAt
     refine List.mem_append_left _ ?_
     simp only [List.mem_filterMap]
     exact ⟨.tmp t,by simpa using hy,by rw [q]⟩)
    simp [ae,this]
  | _=>rfl
 ·exact (hy h4 (((k v h' z).1 hex).trans hl)).put h3
 ·have k:=(k v h' z).2
  rw [nI (fun t ht=>h2 t ht)] at k
  exact k

def qu (ops : Array Oper) (Lo Ge : Nat → Bool) (listed : Array Bool) (i : Nat) : Bool :=
 (List.range ops.size).all fun j=>!Lo j || listed.getD j true || (clo ops ops.size (cH ops j)).contains i || Ge j
def qv (ops : Array Oper) (Lo : Nat → Bool) (listed : Array Bool) (i : Nat) : Bool :=
 (List.range ops.size).all fun j=>!Lo j || listed.getD j true || (clo ops ops.size (cH ops j)).contains i

omit [Laid] in
theorem JT {listed : Array Bool} {i j : Nat} (hp : qv ops Lo listed i = true) (hd : Down ops listed) (hi : listed.getD i true = false) (hj : j ∈ Region.ready .any ops listed) (hl : Lo j = true) : False:=by
 obtain ⟨h0,o,ho,hall⟩:=mem_ready.1 hj
 have hlt:=(Array.getElem?_eq_some_iff.1 ho).1
 have:=List.all_eq_true.1 hp j (by simpa using hlt)
 simp only [hl,Bool.not_true,Bool.false_or,h0,List.contains_iff_mem] at this
 refine iQ hi (kb hd ops.size _ (fun k hk=>?_) i this)
 unfold cH at hk
 rw [ho] at hk
 simp only [List.mem_map,List.mem_filter] at hk
 obtain ⟨e,⟨he,hb⟩,rfl⟩:=hk
 exact hall e (by simpa using he) hb

omit [Laid] in
theorem JS {listed : Array Bool} {i j : Nat} {oj : Oper} (hp : qu ops Lo Ge listed i = true) (hd : Down ops listed) (hi : listed.getD i true = false) (hj : j ∈ Region.ready .any ops listed) (hoj : ops[j]? = some oj) (hl : Lo j = true) : Ge j = true:=by
 obtain ⟨h0,o,ho,hall⟩:=mem_ready.1 hj
 have hlt:=(Array.getElem?_eq_some_iff.1 ho).1
 have:=List.all_eq_true.1 hp j (by simpa using hlt)
 simp only [hl,Bool.not_true,Bool.false_or,h0,hoj,Bool.or_eq_true,List.contains_iff_mem] at this
 rcases this with this|this
 ·refine (iQ hi (kb hd ops.size _ (fun k hk=>?_) i this)).elim
  unfold cH at hk
  rw [ho] at hk
  simp only [List.mem_map,List.mem_filter] at hk
  obtain ⟨e,⟨he,hb⟩,rfl⟩:=hk
  exact hall e (by simpa using he) hb
 ·exact this

theorem qS {Z : Fr → aa → Prop} {i : Nat} {oi : Oper} {x : AV} (hi : ops[i]? = some oi) (hLi : Lo i = false) : ∀ (fuel : Nat) (listed : Array Bool) (fr : Fr) (h : aa),Down ops listed →
 (∀ j oj,ops[j]? = some oj → j ≠ i → j < ops.size → listed.getD j true = false → (∀ e ∈ oj.after,Region.binds .any e = true → e.on ≠ i) → oi.apart ops oj = true) →
 i ∈ Region.ready .any ops listed → YA P ops h oi x fr → ((∀ h',YA P ops h' oi x fr) ∨ qv ops Lo listed i = true ∨ ((∀ h',HLe B h h' → YA P ops h' oi x fr) ∧ qu ops Lo Ge listed i = true)) → mI P ops n Lo Ge B Z fuel (listed.setIfInBounds i true) (bj n fr oi.dst x) h → mI P ops n Lo Ge B Z (fuel + 1) listed fr h:=by
 have own : ∀ {K : Fr → Prop} {fr : Fr} {h : aa},YA P ops h oi x fr → K (bj n fr oi.dst x) → qA P ops n h i K fr:=fun hy hk=>by unfold qA;simp only [hi];exact ⟨x,hy,hk⟩
 intro fuel
 induction fuel with
 | zero =>
   intro listed fr h hd hfree hr hy hp H
   refine ⟨fun q=>(by rw [q] at hr;cases hr),fun j hj=>?_⟩
   have hj0:=(mem_ready.1 hj).1
   by_cases hji : j = i
   ·subst hji;exact .inr ⟨hLi,own hy H⟩
   ·exfalso
    have e:=congrArg (fun a=>a.getD j true) H.1
    simp only [getD_set_ne true (Ne.symm hji)] at e
    rw [hj0] at e
    obtain ⟨_,oj,hoj,_⟩:=mem_ready.1 hj
    have hlt:=(Array.getElem?_eq_some_iff.1 hoj).1
    simp [full,hlt] at e
 | succ fuel ih =>
   intro listed fr h hd hfree hr hy hp H
   refine ⟨fun q=>(by rw [q] at hr;cases hr),fun j hj=>?_⟩
   by_cases hji : j = i
   ·subst hji;exact .inr ⟨hLi,own hy H⟩
   ·have h1:=H.2 j (ready_mono hj hji)
    obtain ⟨hjun,oj,hoj,hall⟩:=mem_ready.1 hj
    have hjlt:=(Array.getElem?_eq_some_iff.1 hoj).1
    have hnot : ∀ e ∈ oj.after,Region.binds .any e = true → e.on ≠ i:=fun e he hb heq=>by
     have h1:=hall e he hb
     rw [heq] at h1
     exact iQ (mem_ready.1 hr).1 h1
    have hap:=hfree j oj hoj hji hjlt hjun hnot
    have hfree' : ∀ k ok,ops[k]? = some ok → k ≠ i → k < ops.size → (listed.setIfInBounds j true).getD k true = false →
     (∀ e ∈ ok.after,Region.binds .any e = true → e.on ≠ i) → oi.apart ops ok = true:=fun k ok hk hki hkT hun hno=>by
     refine hfree k ok hk hki hkT ?_ hno
     by_cases hjk : j = k
     ·subst hjk;exact hjun
     ·rw [getD_set_ne true hjk] at hun;exact hun
    have hpinE : qu ops Lo Ge listed i = true → qu ops Lo Ge (listed.setIfInBounds j true) i = true:=fun hp=>by
     unfold qu at *
     refine List.all_eq_true.2 fun k hk=>?_
     have:=List.all_eq_true.1 hp k hk
     simp only [Bool.or_eq_true] at this ⊢
     refine this.imp (fun q=>q.imp (fun q=>q.imp id fun q=>?_) id) id
     by_cases hjk : j = k
     ·subst hjk;simp [hjlt,Array.getD_eq_getD_getElem?,Array.getElem?_setIfInBounds];split <;> simp_all
     ·rw [getD_set_ne true hjk];exact q
    have hpin : qv ops Lo listed i = true → qv ops Lo (listed.setIfInBounds j true) i = true:=fun hp=>by
     unfold qv at *
     refine List.all_eq_true.2 fun k hk=>?_
     have:=List.all_eq_true.1 hp k hk
     simp only [Bool.or_eq_true] at this ⊢
     refine this.imp (fun q=>q.imp id fun q=>?_) id
     by_cases hjk : j = k
     ·subst hjk;simp [hjlt,Array.getD_eq_getD_getElem?,Array.getElem?_setIfInBounds];split <;> simp_all
     ·rw [getD_set_ne true hjk];exact q
    rcases h1 with ⟨hLj,h1⟩|⟨hLj,h1⟩
    ·rcases hp with hp|hp|⟨hp,hpe⟩
     ·left
      have h2:=LW hoj hap hp h1
      refine ⟨hLj,AE (fun fr' h' h3=>ih (listed.setIfInBounds j true) fr' h' (hd.set hj) hfree' (ready_mono hr (Ne.symm hji)) (h3.1 h') (.inl h3.1) ?_) h2⟩
      rw [Array.setIfInBounds_comm _ _ hji]
      exact h3.2
     ·exact (JT hp hd (mem_ready.1 hr).1 hj hLj).elim
     ·left
      have h2:=JW hoj (JS hpe hd (mem_ready.1 hr).1 hj hoj hLj) hap hp h1
      refine ⟨hLj,AE (fun fr' h' h3=>ih (listed.setIfInBounds j true) fr' h' (hd.set hj) hfree' (ready_mono hr (Ne.symm hji)) (h3.1 h' (HLe.refl _)) (.inr (.inr ⟨h3.1,hpinE hpe⟩)) ?_) h2⟩
      rw [Array.setIfInBounds_comm _ _ hji]
      exact h3.2
    ·right
     have h2:=Fj hoj hap hy h1
     rcases hp with hp|hp|⟨hp,hpe⟩
     ·have h4 : qA P ops n h j (fun fr' => (∀ h',YA P ops h' oi x fr') ∧ YA P ops h oi x fr' ∧ mI P ops n Lo Ge B Z fuel ((listed.setIfInBounds i true).setIfInBounds j true) (bj n fr' oi.dst x) h) fr:=by
       obtain ⟨_,_,h5⟩:=Oper.apart_spec hap
       unfold qA at h2 ⊢
       simp only [hoj] at h2 ⊢
       obtain ⟨y,q1,q2⟩:=h2
       exact ⟨y,q1,fun h' => (hp h').put h5,q2⟩
      refine ⟨hLj,pK (fun fr' h3=>ih (listed.setIfInBounds j true) fr' h (hd.set hj) hfree' (ready_mono hr (Ne.symm hji)) h3.2.1 (.inl h3.1) ?_) h4⟩
      rw [Array.setIfInBounds_comm _ _ hji]
      exact h3.2.2
     ·refine ⟨hLj,pK (fun fr' h3=>ih (listed.setIfInBounds j true) fr' h (hd.set hj) hfree' (ready_mono hr (Ne.symm hji)) h3.1 (.inr (.inl (hpin hp))) ?_) h2⟩
      rw [Array.setIfInBounds_comm _ _ hji]
      exact h3.2
     ·have h4 : qA P ops n h j (fun fr' => (∀ h',HLe B h h' → YA P ops h' oi x fr') ∧ YA P ops h oi x fr' ∧ mI P ops n Lo Ge B Z fuel ((listed.setIfInBounds i true).setIfInBounds j true) (bj n fr' oi.dst x) h) fr:=by
       obtain ⟨_,_,h5⟩:=Oper.apart_spec hap
       unfold qA at h2 ⊢
       simp only [hoj] at h2 ⊢
       obtain ⟨y,q1,q2⟩:=h2
       exact ⟨y,q1,fun h' hl=>(hp h' hl).put h5,q2⟩
      refine ⟨hLj,pK (fun fr' h3=>ih (listed.setIfInBounds j true) fr' h (hd.set hj) hfree' (ready_mono hr (Ne.symm hji)) h3.2.1 (.inr (.inr ⟨h3.1,hpinE hpe⟩)) ?_) h4⟩
      rw [Array.setIfInBounds_comm _ _ hji]
      exact h3.2.2

def okH (ops : Array Oper) (Lo Fe Ee Ge : Nat → Bool) : List Nat → Array Bool → Bool
 | [],listed=>listed == full ops ops.size
 | i :: r,listed=>(match Lo i with
   | true=>Region.ready .any ops listed == [i]
   | false=>(Region.ready .any ops listed).contains i && rP ops listed ops.size i && (Fe i || qv ops Lo listed i || Ee i && qu ops Lo Ge listed i)) && okH ops Lo Fe Ee Ge r (listed.setIfInBounds i true)

theorem qc {Z : Fr → aa → Prop} : ∀ (l : List Nat) (listed : Array Bool) (fr : Fr) (h : aa),Down ops listed → okH ops Lo Fe Ee Ge l listed = true → tc P ops n Lo Fe Ee Ge B Z l fr h → mI P ops n Lo Ge B Z l.length listed fr h
 | [],listed,fr,h,_,hL,q=>by
   simp only [okH,beq_iff_eq] at hL
   exact ⟨hL,q⟩
 | i :: l,listed,fr,h,hd,hL,q=>by
   simp only [tc] at q
   cases ho : ops[i]? with
   | none=>rw [ho] at q;exact q.elim
   | some o =>
     rw [ho] at q
     simp only at q
     rcases q with ⟨hl,hg,own,K0,q,k⟩|⟨hl,x,hy,hf,hee,q⟩
     ·simp only [okH,hl,Bool.and_eq_true,beq_iff_eq] at hL
      obtain ⟨hr,hL⟩:=hL
      have hm : i ∈ Region.ready .any ops listed:=by rw [hr];simp
      refine ⟨by rw [hr];simp,fun j hj=>?_⟩
      rw [hr] at hj
      simp only [List.mem_singleton] at hj
      subst hj
      refine .inl ⟨hl, ?_⟩
      unfold qL
      simp only [ho]
      exact ⟨hg,own,K0,q,fun v h' z=>⟨(k v h' z).1,qc l _ _ h' (hd.set hm) hL (k v h' z).2⟩⟩
     ·simp only [okH,hl,Bool.and_eq_true,Bool.or_eq_true,or_assoc] at hL
      obtain ⟨⟨⟨hr,hfp⟩,hp⟩,hL⟩:=hL
      have hm : i ∈ Region.ready .any ops listed:=by simpa using hr
      exact qS ho hl l.length listed fr h hd (ni ho hfp) hm hy (hp.imp hf fun z=>z.imp id fun z=>⟨hee z.1,z.2⟩) (qc l _ _ h (hd.set hm) hL q)

theorem Hv {m i base : Nat} {ι : List Ix} {S : aJ} {a : Act} {w : World} {fr : Fr} {h : aa} {K : Fr → aa → Prop} {K' : Act → World → Prop} {Q' : Exit → Act → World → Prop} (hm : m ≤ ι.length) (hr : ROK base ι S a w ⟨n,fr,h⟩)
 (hk : ∀ ι' S' a' w' fr' h',h.length ≤ h'.length → Evo m base ι S w ι' S' w' → ROK base ι' S' a' w' ⟨n,fr',h'⟩ → K fr' h' → K' a' w') (q : qL P ops n Ge B i K fr h) : wpOp P ops Q' i K' a w:=by
 unfold qL at q
 unfold wpOp
 split
 ·rename_i e;rw [e] at q;exact q.elim
 ·rename_i o e
  rw [e] at q
  obtain ⟨g,own,K0,hy,hK⟩:=q
  have hw : di ops o fr = some true:=by unfold di;rw [g]
  rw [if_pos (iZ hr hw)]
  left
  refine ft (fun a' w' k=>?_) (fun _ _ _ k=>k) (fJ (st:=⟨n,fr,h⟩) hr hy Q')
  obtain ⟨ι',S',v,h',hE,hR,hl,k⟩:=k
  exact hk ι' S' a' w' _ h' hl (hE.mono hm (Nat.le_refl _)) hR (hK _ _ k).2

theorem j9 {m : Nat} {Z : Fr → aa → Prop} {Q' : Exit → St → Prop} (hZ : ∀ fr h,Z fr h → Q' .normal ⟨n,fr,h⟩) : ∀ (fuel : Nat) (listed : Array Bool) (base : Nat) (ι : List Ix) (S : aJ) (a : Act) (w : World) (fr : Fr) (h : aa),
 m ≤ h.length → ROK base ι S a w ⟨n,fr,h⟩ → mI P ops n Lo Ge B Z fuel listed fr h → wpAny P .any ops (bQ m base ι S w Q') fuel listed a w
 | 0,listed,base,ι,S,a,w,fr,h,hm,hr,q=>by
   rw [q.1]
   exact ⟨oE,ι,S,⟨n,fr,h⟩,Evo.refl _ _ _ _ _,hm,hr,hZ fr h q.2⟩
 | fuel + 1,listed,base,ι,S,a,w,fr,h,hm,hr,q=>by
   have hm' : m ≤ ι.length:=by rw [hr.hp.len];exact hm
   refine ⟨fun e=>absurd e q.1,fun i hi=>?_⟩
   rcases q.2 i hi with ⟨_,k⟩|⟨_,k⟩
   ·refine Hv (m:=m) hm' hr (fun ι' S' a' w' fr' h' hl hE hr' k=>?_) k
    have:=j9 (m:=m) (Q':=Q') hZ fuel (listed.setIfInBounds i true) base ι' S' a' w' fr' h' (by omega) hr' k
    exact cE (fun e a w z=>bQ.trans hE z) _ _ _ _ this
   ·refine xr (m:=m) hm' hr (fun ι' S' a' w' fr' hE hr' k=>?_) k
    have:=j9 (m:=m) (Q':=Q') hZ fuel (listed.setIfInBounds i true) base ι' S' a' w' fr' h hm hr' k
    exact cE (fun e a w z=>bQ.trans hE z) _ _ _ _ this
end

/-! ### The condition on abstract values -/
def xj (x : AV) : Bool:=match x with|.own _ _ _ _=>false|_=>true
def B8 (ev : Operand → AV) (op : Op) : Bool:=match op with
 | .call c=>(match c.callee,c.args.toList with|.builtin .append,[x,_]=>xj (ev x)|_,_=>false)
 | _=>false
def CK (P : Program) (ev : Operand → AV) (h : aa) (op : Op) (K : AV → Prop) : Prop:=match op with
 | .load t x=>req (tOk P t) (ab (cW P t) (P.cellsOf t) (ev x) h K)
 | _=>False
omit [Laid] in
theorem Hj {B : Nat → Prop} {g : Bool} {sz : Nat} {x : AV} {h h' : aa} {K : AV → Prop} (hx : ∀ id o,x = .op id o → B id) (hl : HLe B h h') (q : ab g sz x h K) : ab g sz x h' K:=by
 cases x <;> simp only [ab] at q ⊢ <;> first|exact q|skip
 rename_i id o
 cases e : h[id]? with
 | none=>rw [e] at q;exact q.elim
 | some en =>
   rw [e] at q
   cases en with
   | blk b=>rw [hl id b (hx _ _ rfl) e];exact q
   | tok=>exact q.elim
   | dead=>exact q.elim
   | mp=>exact q.elim
   | it=>exact q.elim
theorem w5 {B : Nat → Prop} {P : Program} {own : Bool} {ev : Operand → AV} {h : aa} {op : Op} {K : AV → Prop} (hB : ∀ t x id o,op = .load t x → ev x = .op id o → B id) (q : CK P ev h op K) : ∃ x,(∀ h',HLe B h h' → bg P own ev h' op fun v h2=>v = x ∧ h2 = h') ∧ K x:=by
 unfold CK at q
 split at q
 ·obtain ⟨ht,q⟩:=aU q
  obtain ⟨x,q1,q2⟩:=qi _ _ _ _ K q
  refine ⟨x,fun h' hl=>?_,q2⟩
  simp only [bg,ht,req]
  have:=Hj (fun id o e=>hB _ _ id o rfl e) hl q1
  simpa using this
 ·exact q.elim
omit [Laid] in
theorem ur {B : Nat → Prop} {own : Bool} {e sz bytes : Nat} {x : AV} {src : Option (List (List AV))} {h : aa} {K : AV → aa → Prop} (hx : ∀ id o l s,x = .own id o l s → ¬ B id) (q : dP own e sz bytes x src h K) : dP own e sz bytes x src h fun v h' => HLe B h h' ∧ K v h':=by
 unfold dP at *
 cases src with
 | none=>exact q
 | some rows =>
   simp only at q ⊢
   refine ⟨q.1, ?_⟩
   have q:=q.2
   cases hn : nle x <;> rw [hn] at q <;> simp only at q ⊢ <;> first|exact q.elim|skip
   case emp =>
    cases own with
    | false=>exact ⟨q.1,HLe.ext _ _,q.2⟩
    | true=>exact ⟨q.1,q.2.1,HLe.ext _ _,q.2.2⟩
   case sb id sz' base =>
    cases e2 : h[id]? with
    | none=>rw [e2] at q;exact q.elim
    | some en =>
      rw [e2] at q
      cases en with
      | tok=>exact ⟨q.1,q.2.1,HLe.tok e2,q.2.2⟩
      | blk=>exact q.elim
      | dead=>exact q.elim
      | mp=>exact q.elim
      | it=>exact q.elim
   case own id o l s =>
    have hb : ¬ B id:=by
     unfold nle at hn
     split at hn
     ·cases hn
     ·exact hx _ _ _ _ hn
    cases e2 : h[id]? with
    | none=>rw [e2] at q;exact q.elim
    | some en =>
      rw [e2] at q
      cases en with
      | blk=>exact ⟨q.1,q.2.1,q.2.2.1,HLe.kill hb,q.2.2.2⟩
      | tok=>exact q.elim
      | dead=>exact q.elim
      | mp=>exact q.elim
      | it=>exact q.elim
omit [Laid] in
theorem JO {B : Nat → Prop} {x : AV} (h : xj x = true) : ∀ id o l s,x = .own id o l s → ¬ B id:=fun id o l s e=>by subst e;simp [xj] at h
theorem Iu {B : Nat → Prop} {P : Program} {own : Bool} {ev : Operand → AV} {h : aa} {op : Op} {K : AV → aa → Prop} (hg : B8 ev op = true) (q : bg P own ev h op K) : bg P own ev h op fun v h' => HLe B h h' ∧ K v h':=by
 unfold B8 at hg
 split at hg
 ·rename_i c
  split at hg
  ·rename_i x y hc ha
   simp only [bg,hc] at q ⊢
   split at q
   ·rename_i t tx x' y' hat hxy
    rw [ha] at hxy
    simp only [List.cons.injEq,and_true] at hxy
    obtain ⟨rfl,rfl⟩:=hxy
    cases h1 : P.underlying t with
    | none=>rw [h1] at q;exact q.elim
    | some d =>
      cases h2 : P.underlying tx with
      | none=>rw [h1,h2] at q;cases d <;> exact q.elim
      | some d2 =>
        rw [h1,h2] at q
        cases d <;> cases d2 <;> simp only at q ⊢ <;> first|exact q.elim|(obtain ⟨hr,q⟩:=aU q;rw [hr];exact ur (JO hg) q)
   ·exact q.elim
  ·cases hg
 ·cases hg
def om (P : Program) (ops : Array Oper) (n : Nat) : List (Nat × Nat × Bool) → Fr → aa → (Fr → aa → Prop) → Prop
 | [],fr,h,K=>K fr h
 | (i,k,own) :: r,fr,h,K=>match ops[i]? with
  | none=>False
  | some o=>(match k with
    | 0=>eOp P own (ae fr) [] o.op fun v=>om P ops n r (bj n fr o.dst v) h K
    | 1=>dOp P own (ae fr) h o.op fun v=>om P ops n r (bj n fr o.dst v) h K
    | 3=>CK P (ae fr) h o.op fun v=>om P ops n r (bj n fr o.dst v) h K
    | 4=>req (B8 (ae fr) o.op) (bg P own (ae fr) h o.op fun v h' => om P ops n r (bj n fr o.dst v) h' K)
    | _=>bg P own (ae fr) h o.op fun v h' => om P ops n r (bj n fr o.dst v) h' K)
def gZ : List (Nat × Nat × Bool) → Nat → Nat
 | [],_=>2
 | (i,k,_) :: r,j=>match Nat.beq i j with|true=>k|false=>gZ r j
def loC (l : List (Nat × Nat × Bool)) (j : Nat) : Bool:=match gZ l j with|0=>false|1=>false|3=>false|_=>true
def feC (l : List (Nat × Nat × Bool)) (j : Nat) : Bool:=match gZ l j with|0=>true|_=>false
def eeC (l : List (Nat × Nat × Bool)) (j : Nat) : Bool:=match gZ l j with|3=>true|_=>false
def geC (ops : Array Oper) (l : List (Nat × Nat × Bool)) (j : Nat) : Bool:=match gZ l j with|4=>true|2=>(match ops[j]? with|some o=>exB o.op|none=>false)|_=>false
def yP (P : Program) (ops : Array Oper) (l : List (Nat × Nat × Bool)) : Bool :=
 P.follows .mixedOrders && ops.all (fun o=>o.guard.isNone) && decide (l.length = ops.size) && l.all (fun p=>Nat.beq (gZ l p.1) p.2.1) && okH ops (loC l) (feC l) (eeC l) (geC ops l) (l.map (·.1)) (Array.replicate ops.size false)
def yQ (P : Program) (ops : Array Oper) (l : List (Nat × Nat × Bool)) (Q : Exit → St → Prop) (st : St) : Prop :=
 req (yP P ops l) (om P ops st.n l st.fr st.h fun fr h=>Q .normal ⟨st.n,fr,h⟩)

theorem iH {P : Program} {ops : Array Oper} {n : Nat} {K : Fr → aa → Prop} {L : List (Nat × Nat × Bool)} (hg : ∀ (i : Nat) (o : Oper),ops[i]? = some o → o.guard = none) : ∀ (l : List (Nat × Nat × Bool)) (fr : Fr) (h : aa),(∀ p ∈ l,gZ L p.1 = p.2.1) → om P ops n l fr h K → tc P ops n (loC L) (feC L) (eeC L) (geC ops L) (fun _=>True) K (l.map (·.1)) fr h
 | [],fr,h,_,q=>q
 | (i,k,own) :: l,fr,h,hk,q=>by
  have hk0 : gZ L i = k:=hk (i,k,own) (by simp)
  have hk' : ∀ p ∈ l,gZ L p.1 = p.2.1:=fun p hp=>hk p (by simp [hp])
  simp only [om] at q
  simp only [List.map_cons,tc]
  cases ho : ops[i]? with
  | none=>rw [ho] at q;exact q.elim
  | some o =>
    rw [ho] at q
    simp only at q ⊢
    have hw : ∀ fr,di ops o fr = some true:=fun fr=>by unfold di;rw [hg i o ho]
    split at q
    ·obtain ⟨x,q1,q2⟩:=tp q
     refine .inr ⟨by simp [loC,hk0],x,.inl ⟨hw fr,own,by simpa using q1 h⟩,fun _ h' => .inl ⟨hw fr,own,by simpa using q1 h'⟩,fun z=>by simp [eeC,hk0] at z,iH hg l _ h hk' q2⟩
    ·obtain ⟨x,q1,q2⟩:=pe q
     refine .inr ⟨by simp [loC,hk0],x,.inl ⟨hw fr,own,q1⟩,fun z=>by simp [feC,hk0] at z,fun z=>by simp [eeC,hk0] at z,iH hg l _ h hk' q2⟩
    ·obtain ⟨x,q1,q2⟩:=w5 (B:=fun _=>True) (own:=own) (fun _ _ _ _ _ _=>trivial) q
     refine .inr ⟨by simp [loC,hk0],x,.inl ⟨hw fr,own,q1 h (HLe.refl _)⟩,fun z=>by simp [feC,hk0] at z,fun _ h' hl=>.inl ⟨hw fr,own,q1 h' hl⟩,iH hg l _ h hk' q2⟩
    ·obtain ⟨hgr,q⟩:=aU q
     exact .inl ⟨by simp [loC,hk0],hg i o ho,own,_,Iu hgr q,fun v h' k=>⟨fun _=>k.1,iH hg l _ h' hk' k.2⟩⟩
    ·rename_i h0 h1 h3 h4
     have hlo : loC L i = true:=by
      unfold loC
      rw [hk0]
      split
      ·exact absurd rfl h0
      ·exact absurd rfl h1
      ·exact absurd rfl h3
      ·rfl
     cases hex : exB o.op with
     | true=>exact .inl ⟨hlo,hg i o ho,own,_,xH hex q,fun v h' k=>⟨fun _=>by obtain ⟨⟨e,rfl⟩,_⟩:=k;exact HLe.ext _ _,iH hg l _ h' hk' k.2⟩⟩
     | false =>
       have hge : geC ops L i = true → False:=fun z=>by
        unfold geC at z
        rw [hk0] at z
        split at z
        ·exact absurd rfl h4
        ·rw [ho] at z;simp [hex] at z
        ·exact absurd z (by simp)
       exact .inl ⟨hlo,hg i o ho,own,_,q,fun v h' k=>⟨fun z=>(hge z).elim,iH hg l _ h' hk' k⟩⟩

theorem yq {P : Program} {m id : Nat} {ops : Array Oper} {l : List (Nat × Nat × Bool)} {Q : Exit → St → Prop} {st : St} (hm : m ≤ st.h.length) (hq : yQ P ops l Q st) : AW P m (.region id ops true) Q st:=by
 intro base ι S a w _ hr
 obtain ⟨hok,hq⟩:=aU hq
 simp only [yP,Bool.and_eq_true,decide_eq_true_eq] at hok
 obtain ⟨⟨⟨⟨k1,k2⟩,k3⟩,k4⟩,k5⟩:=hok
 obtain ⟨hE,hr'⟩:=hr.drew
 refine wp_region_any k1 (cE (fun e a w z=>bQ.trans (hE.mono (by rw [hr.hp.len];exact hm) (Nat.le_refl _)) z) _ _ _ _ ?_)
 have down0 : Down ops (Array.replicate ops.size false):=fun i o ho hl=>by
  have hlt:=(Array.getElem?_eq_some_iff.1 ho).1
  simp [hlt] at hl
 have hg : ∀ (i : Nat) (o : Oper),ops[i]? = some o → o.guard = none:=fun i o ho=>by
  have:=Array.all_eq_true_iff_forall_mem.1 k2 o (Array.mem_of_getElem? ho)
  simpa using this
 have hk : ∀ p ∈ l,gZ l p.1 = p.2.1:=fun p hp=>Nat.eq_of_beq_eq_true (List.all_eq_true.1 k4 p hp)
 have q2:=iH hg l st.fr st.h hk hq
 have q3:=qc _ _ _ _ down0 k5 q2
 rw [List.length_map,k3] at q3
 obtain ⟨n,fr,h⟩:=st
 exact j9 (m:=m) (Q':=Q) (fun fr h z=>z) ops.size _ base ι S a _ fr h hm hr' q3
end Go.Aw
end

section
namespace Go.Aw
open Go Go.RowKit
variable [Laid]

def Fk.dep : Fk → Nat
 | .nil=>0
 | .one _ _ _ t=>t.dep + 1
 | .two a _=>a.dep
def Fk.flat : Fk → List (Nat × Nat × Bool)
 | .nil=>[]
 | .one i k own t=>(i,k,own) :: t.flat
 | .two a _=>a.flat
def Fk.kinds (f : Nat → Nat) : Fk → Bool
 | .nil=>true
 | .one i k _ t=>Nat.beq (f i) k && t.kinds f
 | .two a b=>a.kinds f && b.kinds f
def Fk.head : Fk → Option Nat
 | .one i _ _ _=>some i
 | _=>none

section
variable (P : Program) (ops : Array Oper) (n : Nat) (Lo Fe Ee Ge : Nat → Bool) (B : Nat → Prop)
def jy : Fk → Array Bool → Bool
 | .nil,listed=>listed == full ops ops.size
 | .one i _ _ t,listed=>(match Lo i with
   | true=>Region.ready .any ops listed == [i]
   | false=>(Region.ready .any ops listed).contains i && rP ops listed ops.size i && (Fe i || qv ops Lo listed i || Ee i && qu ops Lo Ge listed i)) && jy t (listed.setIfInBounds i true)
 | .two (.one i _ _ t) (.one j _ _ u),listed=>Lo i && Lo j && Region.ready .any ops listed == [i,j] && Nat.beq t.dep u.dep && jy t (listed.setIfInBounds i true) && jy u (listed.setIfInBounds j true)
 | _,_=>false
def mL (Z : Fr → aa → Prop) : Fk → Fr → aa → Prop
 | .nil,fr,h=>Z fr h
 | .one i _ _ r,fr,h=>match ops[i]? with
   | none=>False
   | some o=>(Lo i = true ∧ o.guard = none ∧ ∃ own K0,bg P own (ae fr) h o.op K0 ∧ ∀ v h',K0 v h' → (Ge i = true → HLe B h h') ∧ mL Z r (bj n fr o.dst v) h') ∨
     (Lo i = false ∧ ∃ x,YA P ops h o x fr ∧ (Fe i = true → ∀ h',YA P ops h' o x fr) ∧ (Ee i = true → ∀ h',HLe B h h' → YA P ops h' o x fr) ∧ mL Z r (bj n fr o.dst x) h)
 | .two a b,fr,h=>mL Z a fr h ∧ mL Z b fr h
end

section
variable {P : Program} {ops : Array Oper} {n : Nat} {Lo Fe Ee Ge : Nat → Bool} {B : Nat → Prop}
theorem kK {Z : Fr → aa → Prop} : ∀ (l : Fk) (listed : Array Bool) (fr : Fr) (h : aa),Down ops listed → jy ops Lo Fe Ee Ge l listed = true → mL P ops n Lo Fe Ee Ge B Z l fr h → mI P ops n Lo Ge B Z l.dep listed fr h
 | .nil,listed,fr,h,_,hL,q=>by
   simp only [jy,beq_iff_eq] at hL
   exact ⟨hL,q⟩
 | .one i k0 own0 l,listed,fr,h,hd,hL,q=>by
   simp only [mL] at q
   cases ho : ops[i]? with
   | none=>rw [ho] at q;exact q.elim
   | some o =>
     rw [ho] at q
     simp only at q
     rcases q with ⟨hl,hg,own,K0,q,k⟩|⟨hl,x,hy,hf,hee,q⟩
     ·simp only [jy,hl,Bool.and_eq_true,beq_iff_eq] at hL
      obtain ⟨hr,hL⟩:=hL
      have hm : i ∈ Region.ready .any ops listed:=by rw [hr];simp
      refine ⟨by rw [hr];simp,fun j hj=>?_⟩
      rw [hr] at hj
      simp only [List.mem_singleton] at hj
      subst hj
      refine .inl ⟨hl, ?_⟩
      unfold qL
      simp only [ho]
      exact ⟨hg,own,K0,q,fun v h' z=>⟨(k v h' z).1,kK l _ _ h' (hd.set hm) hL (k v h' z).2⟩⟩
     ·simp only [jy,hl,Bool.and_eq_true,Bool.or_eq_true,or_assoc] at hL
      obtain ⟨⟨⟨hr,hfp⟩,hp⟩,hL⟩:=hL
      have hm : i ∈ Region.ready .any ops listed:=by simpa using hr
      exact qS ho hl l.dep listed fr h hd (ni ho hfp) hm hy (hp.imp hf fun z=>z.imp id fun z=>⟨hee z.1,z.2⟩) (kK l _ _ h (hd.set hm) hL q)
 | .two (.one i k1 own1 t) (.one j k2 own2 u),listed,fr,h,hd,hL,q=>by
   simp only [jy,Bool.and_eq_true,beq_iff_eq] at hL
   obtain ⟨⟨⟨⟨⟨hi,hj⟩,hr⟩,hdp⟩,hL1⟩,hL2⟩:=hL
   have hdp : t.dep = u.dep:=Nat.eq_of_beq_eq_true hdp
   have mi : i ∈ Region.ready .any ops listed:=by rw [hr];simp
   have mj : j ∈ Region.ready .any ops listed:=by rw [hr];simp
   simp only [mL] at q
   refine ⟨by rw [hr];simp,fun p hp=>?_⟩
   rw [hr] at hp
   simp only [List.mem_cons,List.not_mem_nil,or_false] at hp
   rcases hp with rfl|rfl
   ·have q:=q.1
    cases ho : ops[p]? with
    | none=>rw [ho] at q;exact q.elim
    | some o =>
      rw [ho] at q
      simp only at q
      rcases q with ⟨hl,hg,own,K0,q,k⟩|⟨hl,_⟩
      ·refine .inl ⟨hl, ?_⟩
       unfold qL
       simp only [ho]
       exact ⟨hg,own,K0,q,fun v h' z=>⟨(k v h' z).1,kK t _ _ h' (hd.set mi) hL1 (k v h' z).2⟩⟩
      ·rw [hi] at hl;cases hl
   ·have q:=q.2
    cases ho : ops[p]? with
    | none=>rw [ho] at q;exact q.elim
    | some o =>
      rw [ho] at q
      simp only at q
      rcases q with ⟨hl,hg,own,K0,q,k⟩|⟨hl,_⟩
      ·refine .inl ⟨hl, ?_⟩
       unfold qL
       simp only [ho]
       refine ⟨hg,own,K0,q,fun v h' z=>⟨(k v h' z).1, ?_⟩⟩
       have:=kK u _ _ h' (hd.set mj) hL2 (k v h' z).2
       rw [← hdp] at this
       exact this
      ·rw [hj] at hl;cases hl
 | .two .nil b,listed,fr,h,hd,hL,q=>by simp [jy] at hL
 | .two (.two _ _) b,listed,fr,h,hd,hL,q=>by simp [jy] at hL
 | .two (.one _ _ _ _) .nil,listed,fr,h,hd,hL,q=>by simp [jy] at hL
 | .two (.one _ _ _ _) (.two _ _),listed,fr,h,hd,hL,q=>by simp [jy] at hL
end

def bel (m : Nat) (x : AV) : Bool:=match x with|.op id _=>Nat.ble (id + 1) m|_=>true
def H9 (m : Nat) (x : AV) : Bool:=match x with|.own id _ _ _=>Nat.ble m id|_=>true
def wC (m : Nat) (ev : Operand → AV) (op : Op) : Bool:=match op with
 | .call c=>(match c.callee,c.args.toList with|.builtin .append,[x,_]=>H9 m (ev x)|_,_=>false)
 | _=>false
def CL (P : Program) (m : Nat) (ev : Operand → AV) (h : aa) (op : Op) (K : AV → Prop) : Prop:=match op with
 | .load t x=>req (bel m (ev x)) (req (tOk P t) (ab (cW P t) (P.cellsOf t) (ev x) h K))
 | _=>False
theorem EH {P : Program} {m : Nat} {own : Bool} {ev : Operand → AV} {h : aa} {op : Op} {K : AV → Prop} (q : CL P m ev h op K) : ∃ x,(∀ h',HLe (· < m) h h' → bg P own ev h' op fun v h2=>v = x ∧ h2 = h') ∧ K x:=by
 unfold CL at q
 split at q
 ·rename_i t x
  obtain ⟨hb,q⟩:=aU q
  refine w5 (B:=(· < m)) (own:=own) (fun t' x' id o e1 e2=>?_) (op:=.load t x) (by unfold CK;exact q)
  cases e1
  unfold bel at hb
  rw [e2] at hb
  exact Nat.le_of_ble_eq_true hb
 ·exact q.elim
theorem FW {P : Program} {m : Nat} {own : Bool} {ev : Operand → AV} {h : aa} {op : Op} {K : AV → aa → Prop} (hg : wC m ev op = true) (q : bg P own ev h op K) : bg P own ev h op fun v h' => HLe (· < m) h h' ∧ K v h':=by
 unfold wC at hg
 split at hg
 ·rename_i c
  split at hg
  ·rename_i x y hc ha
   have hno : ∀ id o l s,ev x = .own id o l s → ¬ id < m:=fun id o l s e=>by
    unfold H9 at hg
    rw [e] at hg
    have:=Nat.le_of_ble_eq_true hg
    omega
   simp only [bg,hc] at q ⊢
   split at q
   ·rename_i t tx x' y' hat hxy
    rw [ha] at hxy
    simp only [List.cons.injEq,and_true] at hxy
    obtain ⟨rfl,rfl⟩:=hxy
    cases h1 : P.underlying t with
    | none=>rw [h1] at q;exact q.elim
    | some d =>
      cases h2 : P.underlying tx with
      | none=>rw [h1,h2] at q;cases d <;> exact q.elim
      | some d2 =>
        rw [h1,h2] at q
        cases d <;> cases d2 <;> simp only at q ⊢ <;> first|exact q.elim|(obtain ⟨hr,q⟩:=aU q;rw [hr];exact ur hno q)
   ·exact q.elim
  ·cases hg
 ·cases hg
def cTr (P : Program) (ops : Array Oper) (n m : Nat) : Fk → Fr → aa → (Fr → aa → Prop) → Prop
 | .nil,fr,h,K=>K fr h
 | .one i k own r,fr,h,K=>match ops[i]? with
   | none=>False
   | some o=>(match k with
     | 0=>eOp P own (ae fr) [] o.op fun v=>cTr P ops n m r (bj n fr o.dst v) h K
     | 1=>dOp P own (ae fr) h o.op fun v=>cTr P ops n m r (bj n fr o.dst v) h K
     | 3=>CL P m (ae fr) h o.op fun v=>cTr P ops n m r (bj n fr o.dst v) h K
     | 4=>req (wC m (ae fr) o.op) (bg P own (ae fr) h o.op fun v h' => cTr P ops n m r (bj n fr o.dst v) h' K)
     | _=>bg P own (ae fr) h o.op fun v h' => cTr P ops n m r (bj n fr o.dst v) h' K)
 | .two a b,fr,h,K=>cTr P ops n m a fr h K ∧ cTr P ops n m b fr h K
def yR (P : Program) (ops : Array Oper) (t : Fk) : Bool :=
 P.follows .mixedOrders && ops.all (fun o=>o.guard.isNone) && Nat.beq t.dep ops.size && t.kinds (gZ t.flat) && jy ops (loC t.flat) (feC t.flat) (eeC t.flat) (geC ops t.flat) t (Array.replicate ops.size false)
def yS (P : Program) (ops : Array Oper) (t : Fk) (Q : Exit → St → Prop) (st : St) : Prop :=
 req (yR P ops t) (cTr P ops st.n st.h.length t st.fr st.h fun fr h=>Q .normal ⟨st.n,fr,h⟩)

theorem gR {P : Program} {ops : Array Oper} {n m : Nat} {K : Fr → aa → Prop} {L : List (Nat × Nat × Bool)} (hg : ∀ (i : Nat) (o : Oper),ops[i]? = some o → o.guard = none) : ∀ (l : Fk) (fr : Fr) (h : aa),l.kinds (gZ L) = true → cTr P ops n m l fr h K → mL P ops n (loC L) (feC L) (eeC L) (geC ops L) (· < m) K l fr h
 | .nil,fr,h,_,q=>q
 | .two a b,fr,h,hk,q=>by
   simp only [Fk.kinds,Bool.and_eq_true] at hk
   exact ⟨gR hg a fr h hk.1 q.1,gR hg b fr h hk.2 q.2⟩
 | .one i k own l,fr,h,hk,q=>by
   simp only [Fk.kinds,Bool.and_eq_true] at hk
   have hk0 : gZ L i = k:=Nat.eq_of_beq_eq_true hk.1
   have hk':=hk.2
   simp only [cTr] at q
   simp only [mL]
   cases ho : ops[i]? with
   | none=>rw [ho] at q;exact q.elim
   | some o =>
     rw [ho] at q
     simp only at q ⊢
     have hw : ∀ fr,di ops o fr = some true:=fun fr=>by unfold di;rw [hg i o ho]
     split at q
     ·obtain ⟨x,q1,q2⟩:=tp q
      refine .inr ⟨by simp [loC,hk0],x,.inl ⟨hw fr,own,by simpa using q1 h⟩,fun _ h' => .inl ⟨hw fr,own,by simpa using q1 h'⟩,fun z=>by simp [eeC,hk0] at z,gR hg l _ h hk' q2⟩
     ·obtain ⟨x,q1,q2⟩:=pe q
      refine .inr ⟨by simp [loC,hk0],x,.inl ⟨hw fr,own,q1⟩,fun z=>by simp [feC,hk0] at z,fun z=>by simp [eeC,hk0] at z,gR hg l _ h hk' q2⟩
     ·obtain ⟨x,q1,q2⟩:=EH (own:=own) q
      refine .inr ⟨by simp [loC,hk0],x,.inl ⟨hw fr,own,q1 h (HLe.refl _)⟩,fun z=>by simp [feC,hk0] at z,fun _ h' hl=>.inl ⟨hw fr,own,q1 h' hl⟩,gR hg l _ h hk' q2⟩
     ·obtain ⟨hgr,q⟩:=aU q
      exact .inl ⟨by simp [loC,hk0],hg i o ho,own,_,FW hgr q,fun v h' k=>⟨fun _=>k.1,gR hg l _ h' hk' k.2⟩⟩
     ·rename_i h0 h1 h3 h4
      have hlo : loC L i = true:=by
       unfold loC
       rw [hk0]
       split
       ·exact absurd rfl h0
       ·exact absurd rfl h1
       ·exact absurd rfl h3
       ·rfl
      cases hex : exB o.op with
      | true=>exact .inl ⟨hlo,hg i o ho,own,_,xH hex q,fun v h' k=>⟨fun _=>by obtain ⟨⟨e,rfl⟩,_⟩:=k;exact HLe.ext _ _,gR hg l _ h' hk' k.2⟩⟩
      | false =>
        have hge : geC ops L i = true → False:=fun z=>by
         unfold geC at z
         rw [hk0] at z
         split at z
         ·exact absurd rfl h4
         ·rw [ho] at z;simp [hex] at z
         ·exact absurd z (by simp)
        exact .inl ⟨hlo,hg i o ho,own,_,q,fun v h' k=>⟨fun z=>(hge z).elim,gR hg l _ h' hk' k⟩⟩

theorem yr {P : Program} {m id : Nat} {ops : Array Oper} {l : Fk} {Q : Exit → St → Prop} {st : St} (hm : m ≤ st.h.length) (hq : yS P ops l Q st) : AW P m (.region id ops true) Q st:=by
 intro base ι S a w _ hr
 obtain ⟨hok,hq⟩:=aU hq
 simp only [yR,Bool.and_eq_true] at hok
 obtain ⟨⟨⟨⟨k1,k2⟩,k3⟩,k4⟩,k5⟩:=hok
 have k3:=Nat.eq_of_beq_eq_true k3
 obtain ⟨hE,hr'⟩:=hr.drew
 refine wp_region_any k1 (cE (fun e a w z=>bQ.trans (hE.mono (by rw [hr.hp.len];exact hm) (Nat.le_refl _)) z) _ _ _ _ ?_)
 have down0 : Down ops (Array.replicate ops.size false):=fun i o ho hl=>by
  have hlt:=(Array.getElem?_eq_some_iff.1 ho).1
  simp [hlt] at hl
 have hg : ∀ (i : Nat) (o : Oper),ops[i]? = some o → o.guard = none:=fun i o ho=>by
  have:=Array.all_eq_true_iff_forall_mem.1 k2 o (Array.mem_of_getElem? ho)
  simpa using this
 have q2:=gR hg l st.fr st.h k4 hq
 have q3:=kK _ _ _ _ down0 k5 q2
 rw [k3] at q3
 obtain ⟨n,fr,h⟩:=st
 exact j9 (m:=m) (Q':=Q) (fun fr h z=>z) ops.size _ base ι S a _ fr h hm hr' q3
end Go.Aw
end
