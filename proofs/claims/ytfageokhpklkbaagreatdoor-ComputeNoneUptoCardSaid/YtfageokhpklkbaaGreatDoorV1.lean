/-
  References in values that have none: not one is found,collected or waited for. Values without references: their length after replacing,their copy. Custom properties by their names;those on a cycle: none,where nothing refers to anything. Custom properties solved,where nothing refers to anything: they are as they were.
  No conditions.
-/
import Derived.Test.YtfageokhpklkbaaGreatDoorS2
import Derived.Test.YtfageokhpklkbaaGreatDoorWVar
import Derived.Test.YtfageokhpklkbaaGreatDoorMapA
set_option linter.unusedVariables false
set_option linter.unusedSimpArgs false
section
namespace Go.Proofs.YtfageokhpklkbaaGreatDoor
open Go Go.Aw Go.Nst
set_option maxRecDepth 100000
theorem qH {l : List Vl} {v : Vl} (h : v ∈ l) (hv : bT l = false) : iR v = false:=by
 cases q : iR v with
 | false=>rfl
 | true=>rw [o6 h q] at hv;cases hv
theorem xe (b c : UInt8) (hc : c = 118 ∨ c = 97 ∨ c = 114) (h : eK .or .u8 (b.toNat : Int) 32 = (c.toNat : Int)) : iM b = c:=by
 have key : ∀ n : Fin 256,∀ c ∈ [(118 : UInt8),97,114],eK .or .u8 ((n.val : Nat) : Int) 32 = (c.toNat : Int) → iM (UInt8.ofNat n.val) = c:=by decide +kernel
 have:=key ⟨b.toNat,b.toNat_lt⟩ c (by simpa using hc)
 simpa using this (by simpa using h)
def je (v : Vl) : Bool:=decide (v.kind = 2) && decide (v.text.length = 3) && decide (eK .or .u8 ((v.text.getD 0 0).toNat : Int) 32 = 118) && decide (eK .or .u8 ((v.text.getD 1 0).toNat : Int) 32 = 97) && decide (eK .or .u8 ((v.text.getD 2 0).toNat : Int) 32 = 114)
theorem ED {v : Vl} (hv : iR v = false) : je v = false:=by
 obtain ⟨kd,tx,nu,un',fl,l2⟩:=v
 cases q : je (.mk kd tx nu un' fl l2) with
 | false=>rfl
 | true =>
   simp only [je,Vl.kind,Vl.text,Bool.and_eq_true] at q
   obtain ⟨⟨⟨⟨h1,h2⟩,h3⟩,h4⟩,h5⟩:=q
   have hk:=of_decide_eq_true h1
   match tx,of_decide_eq_true h2 with
   | [a,b,c],_ =>
     have e1:=xe a 118 (.inl rfl) (of_decide_eq_true h3)
     have e2:=xe b 97 (.inr (.inl rfl)) (of_decide_eq_true h4)
     have e3:=xe c 114 (.inr (.inr rfl)) (of_decide_eq_true h5)
     simp [iR,fq,e1,e2,e3,xO] at hv
     exact absurd hk hv.1
theorem FT {k : IntKind} {x y : AV} {a b : Int} {K : AV → Prop} (ex : x = .v (.int k a)) (ey : y = .v (.int k b)) (q : K (.v (.int k (eK .or k a b)))) : af .or x y K:=by
 subst ex;subst ey
 exact ⟨rfl,q⟩
theorem D5 (v : Vl) : Con Tryz.prog 205 [.agg (cy v)] (bool (je v)):=by
 refine (Od _).gives (by simp [DA]) (by simp) ?_
 unfold KO
 obtain ⟨kd,tx,nu,un',fl,l2⟩:=v
 rw [cy]
 refine cL (n:=0) (h':=[_]) rfl rfl rfl rfl (aC rfl (aC rfl (aD rfl rfl rfl (aC rfl (aC rfl (aD rfl rfl rfl (bR rfl rfl ?_)))))))
 refine aG ?_
 by_cases h1 : kd = 2
 ·subst h1
  refine aA rfl rfl ?_
  refine fA rfl fun _=>?_
  refine bR rfl rfl (ar (aE rfl (aG ?_)))
  by_cases h2 : tx.length = 3
  ·match tx,h2 with
   | [a,b,c],_ =>
     refine aA rfl rfl (vx (n:=0) rfl rfl rfl (FT rfl rfl (bR rfl rfl (ar (aE rfl (aG ?_))))))
     by_cases h3 : eK .or .u8 (a.toNat : Int) 32 = 118
     ·refine aA rfl (decide_eq_true h3) (vx (n:=1) rfl rfl rfl (FT rfl rfl (bR rfl rfl (ar (aE rfl (aG ?_))))))
      by_cases h4 : eK .or .u8 (b.toNat : Int) 32 = 97
      ·refine aA rfl (decide_eq_true h4) (vx (n:=2) rfl rfl rfl (FT rfl rfl (bR rfl rfl (aE rfl ?_))))
       exact .pure (by simp) (by simp [je,Vl.kind,Vl.text,h3,h4])
      ·refine ay rfl (decide_eq_false h4) (ax rfl ?_)
       exact .pure (by simp) (by simp [je,Vl.kind,Vl.text,h3,h4])
     ·refine ay rfl (decide_eq_false h3) (ar (ax rfl (aG (ay rfl rfl (ax rfl ?_)))))
      exact .pure (by simp) (by simp [je,Vl.kind,Vl.text,h3])
  ·refine ay rfl (decide_eq_false (by omega)) ?_
   refine ar (ax rfl (aG (ay rfl rfl (ar (ax rfl (aG (ay rfl rfl ?_)))))))
   refine ax rfl ?_
   exact .pure (by simp) (by simp [je,Vl.kind,Vl.text,h2])
 ·refine ay rfl (decide_eq_false h1) (ar (ax rfl (aG (ay rfl rfl (ar (ax rfl (aG ?_)))))))
  refine ay rfl rfl (ar (ax rfl (aG (ay rfl rfl (ax rfl ?_)))))
  exact .pure (by simp) (by simp [je,Vl.kind,h1])
theorem mZ {v : Vl} (hv : iR v = false) : Con Tryz.prog 205 [.agg (cy v)] ff:=by
 have:=D5 v
 rwa [ED hv] at this
abbrev vB (v : Vl) : Ent:=.blk ⟨103,cy v,true⟩
theorem vC {v : Vl} {h : aa} {KS : AV → aa → Prop} (q : KS (.op h.length 0) (h ++ [vB v])) :
 bz 103 (.agg [(u8 0),(.str []),(int 0),(.str []),ff,(.v (.slice none 0 0))]) h fun x g=>aN 6 x (.agg (cy v)) g fun g' => KS x g':=by
 refine cL (cs:=[(u8 0),(.str []),(int 0),(.str []),ff,(.v (.slice none 0 0))]) (n:=h.length) (h':=h ++ [.blk ⟨103,[(u8 0),(.str []),(int 0),(.str []),ff,(.v (.slice none 0 0))],true⟩]) rfl rfl rfl rfl ?_
 refine cQ (cs:=cy v) (h':=h ++ [vB v]) rfl (b:=⟨103,[(u8 0),(.str []),(int 0),(.str []),ff,(.v (.slice none 0 0))],true⟩) (by simp) rfl rfl (by simp [dc]) (by simp [dc]) (by simp [dc,cv]) (by rw [List.set_append_right _ _ (Nat.le_refl _)];simp [dc,cx]) q
theorem vA {v : Vl} {h : aa} {K : AV → Prop} (q : K (.agg (cy v))) : ab true 6 (.op h.length 0) (h ++ [vB v]) K :=
 ba rfl (b:=⟨103,cy v,true⟩) (by simp) (by simp [dc]) (by simpa [dc] using q)
theorem nY {v : Vl} {h : aa} {i : Nat} {c : AV} {K : AV → Prop} (hc : (cy v)[i]? = some c) (q : K c) : ab false 1 (.op h.length (0 + i)) (h ++ [vB v]) K :=
 aD rfl (b:=⟨103,cy v,true⟩) (by simp) (by rw [Nat.zero_add];exact hc) q
def FP (n : Nat) : Prop:=∀ (l : List Vl) (id : Nat) (h : aa),zVs l ≤ n → bT l = false → Ex Tryz.prog 162 [.sl 6 (aV l),.mp id] h (.tup [])
theorem F1 {n : Nat} (hn : n < 2 ^ 39) (hP : ∀ n',n' < n → FP n') : FP n:=by
 intro l id h hz hv
 refine (N0 _ _).ex fun hb=>?_
 unfold KJ
 have hlen : (aV l).length = l.length:=by simp [bf]
 have hll:=eW l
 refine aB (n:=l.length) rfl hlen fun _=>?_
 refine a7 (α:=Nat) (fun k=>k ≤ l.length) (fun k=>[int k]) (fun _=>h) (fun k=>l.length - k) 0 (by simp) (Wk.refl _ _ _ (Nat.le_refl _)) ?_
 intro k hk
 refine aF rfl rfl ?_
 rcases Nat.lt_or_ge k l.length with q|q
 ·obtain ⟨v,hx⟩ : ∃ x,l[k]? = some x:=⟨l[k],List.getElem?_eq_getElem q⟩
  have hzv:=eX (List.mem_of_getElem? hx)
  have hvv:=qH (List.mem_of_getElem? hx) hv
  have hl2 : bT v.list = false:=by
   obtain ⟨kd,tx,nu,un',fl,l2⟩:=v
   rw [iR,Bool.or_eq_false_iff] at hvv
   exact hvv.2
  have hz2 : zVs v.list < n:=by
   obtain ⟨kd,tx,nu,un',fl,l2⟩:=v
   rw [zV] at hzv
   show zVs l2 < n
   omega
  refine ak rfl (by simpa using q) ?_
  refine bx (f:=cy) rfl (bf l) rfl hx ?_
  refine aY rfl (by simp [dc]) ?_
  refine vC (aG (vA ?_))
  refine b6 rfl (by kernel_rfl) (mZ hvv) ?_
  refine ag rfl rfl (ar (aC rfl ?_))
  refine nY (i:=5) (c:=.sl 6 (aV v.list)) (by simp [dc,bf]) ?_
  refine lH rfl (hP _ hz2 v.list id _ (Nat.le_refl _) hl2) ?_
  refine aP rfl rfl (by unfold inI;omega) ?_
  refine ar ?_
  exact ⟨k + 1,q,Wk.back (M:=h.length) (Nat.le_refl _) (by simp) (by simp) rfl hb (by simp [Bd]),by omega⟩
 ·refine ag rfl (by simpa using q) ?_
  exact jS hb (by simp [Bd,BdL]) (by simp)
theorem nc {l : List Vl} {id : Nat} {h : aa} (hz : zVs l < 2 ^ 39) (hv : bT l = false) : Ex Tryz.prog 162 [.sl 6 (aV l),.mp id] h (.tup []):=by
 have : ∀ n,n < 2 ^ 39 → FP n:=by
  intro n
  induction n using Nat.strongRecOn with
  | _ n ih=>exact fun hn=>F1 hn fun n' h=>ih n' h (by omega)
 exact this _ hz l id h (Nat.le_refl _) hv
end Go.Proofs.YtfageokhpklkbaaGreatDoor
end

section
namespace Go.Proofs.YtfageokhpklkbaaGreatDoor
open Go Go.Aw Go.Nst
set_option maxRecDepth 100000
theorem GR {l : List Vl} {k : Nat} {x : Vl} (h : l[k]? = some x) : aV (l.take (k + 1)) = aV (l.take k) ++ [cy x]:=by
 rw [bf,bf,List.take_add_one,h];simp
theorem KY {v : Vl} {h : aa} {K : AV → Prop} (q : K (.agg (GQ v))) : ab true 5 (.op h.length (0 + 0)) (h ++ [vB v]) K :=
 ba rfl (b:=⟨103,cy v,true⟩) (by simp) (by simp [dc]) (by simpa [dc,GQ] using q)
theorem Mw {v : Vl} {K : AV → Prop} (q : K (.sl 6 [cy v])) : bP 1 6 (.agg [(u8 0),(.str []),(int 0),(.str []),ff,(.v (.slice none 0 0))]) [(0,6,.agg (cy v))] K:=by
 obtain ⟨kd,tx,nu,un',fl,l2⟩:=v
 rw [cy] at q ⊢
 exact b9 (cs:=[u1 kd,.str tx,int nu,.str un',bool fl,.sl 6 (aV l2)]) rfl q
theorem FR {v : Vl} {K : AV → Prop} (q : K (.agg (cy v))) : bl (.agg [(u8 0),(.str []),(int 0),(.str []),ff,(.v (.slice none 0 0))]) [(0,5,.agg (GQ v)),(5,1,.sl 6 (aV v.list))] K:=by
 obtain ⟨kd,tx,nu,un',fl,l2⟩:=v
 rw [cy] at q
 exact br (cs:=[u1 kd,.str tx,int nu,.str un',bool fl,.sl 6 (aV l2)]) rfl q
theorem g_c {h t : aa} {a : Ent} : (h ++ a :: t)[h.length]? = some a:=by simp
theorem xJ {h t : aa} {a : Ent} : (h ++ a :: t).take (h.length + 1) = h ++ [a]:=by
 rw [List.take_append,List.take_of_length_le (by omega),show h.length + 1 - h.length = 1 by omega];rfl
theorem Mo {h t : aa} {a : Ent} : (h ++ [a] ++ t).take (h.length + 1) = h ++ [a]:=by rw [List.append_assoc];exact xJ
theorem JX (v : Vl) : ([cy v].all (dJ 6)) = true:=by
 obtain ⟨kd,tx,nu,un',fl,l2⟩:=v
 rw [cy];rfl
theorem Jp [Laid] {h h' : aa} {id sz : Nat} {rows : List (List AV)} (hb : ∀ e ∈ h,dg h.length e) (pr : cd rows) (ht : h'.take h.length = h) : ∃ r' h'',Wk h.length [.sb id sz rows] h' [r'] h'' ∧ r' = .sl sz rows ∧ h'' = h:=by
 have hl : h.length ≤ h'.length:=by have:=congrArg List.length ht;simp at this;omega
 exact ⟨_,_,(Wk.le (s:=[.sb id sz rows]) (s':=[.sl sz rows]) hl ⟨⟨rfl,rfl⟩,trivial⟩).trans (Wk.back (Nat.le_refl _) hl ht rfl hb (by
  have:=eM h.length (.sl sz rows) (by rw [Aw.Pure];exact pr)
  simpa using this)),rfl,rfl⟩
def MsP (n : Nat) : Prop:=∀ (l : List Vl) (id : Nat) (h : aa),zVs l ≤ n → bT l = false → Ex Tryz.prog 207 [.sl 6 (aV l),.mp id] h (int (zVs l))
theorem JN {n : Nat} (hn : n < 2 ^ 39) (hP : ∀ n',n' < n → MsP n') : MsP n:=by
 intro l id h hz hv
 refine (Oe _ _).ex fun hb=>?_
 unfold KP
 have hlen : (aV l).length = l.length:=by simp [bf]
 have hll:=eW l
 refine aB (n:=l.length) rfl hlen fun _=>?_
 refine a7 (α:=Nat) (fun k=>k ≤ l.length) (fun k=>[int (zVs (l.take k)),int k]) (fun _=>h) (fun k=>l.length - k) 0 (by simp) (by simpa [zVs] using Wk.refl _ _ _ (Nat.le_refl _)) ?_
 intro k hk
 refine aF rfl rfl ?_
 rcases Nat.lt_or_ge k l.length with q|q
 ·obtain ⟨v,hx⟩ : ∃ x,l[k]? = some x:=⟨l[k],List.getElem?_eq_getElem q⟩
  have hzv:=eX (List.mem_of_getElem? hx)
  have b0:=fQ l (k + 1)
  have hvv:=qH (List.mem_of_getElem? hx) hv
  have hl2 : bT v.list = false:=by
   obtain ⟨kd,tx,nu,un',fl,l2⟩:=v
   rw [iR,Bool.or_eq_false_iff] at hvv
   exact hvv.2
  have hz2 : zV v = 1 + v.text.length + v.unit.length + zVs v.list:=by
   obtain ⟨kd,tx,nu,un',fl,l2⟩:=v
   rw [zV];rfl
  have d1 : zVs (l.take (k + 1)) = zVs (l.take k) + zV v:=by
   rw [List.take_add_one,hx,jn];simp [zVs]
  obtain ⟨S,hS⟩ : ∃ S,zVs (l.take k) = S:=⟨_,rfl⟩
  rw [hS] at d1 ⊢
  refine ak rfl (by simpa using q) ?_
  refine bx (f:=cy) rfl (bf l) rfl hx ?_
  refine aY rfl (by simp [dc]) ?_
  refine vC (aG (vA ?_))
  refine b6 rfl (by kernel_rfl) (mZ hvv) ?_
  refine bF rfl (ak rfl rfl (aC rfl (aC rfl ?_)))
  refine nY (i:=1) (c:=.str v.text) (by simp [dc]) ?_
  refine fA rfl fun _=>?_
  refine aP rfl rfl (by unfold inI;omega) ?_
  refine aC rfl (aC rfl ?_)
  refine nY (i:=3) (c:=.str v.unit) (by simp [dc]) ?_
  refine fA rfl fun _=>?_
  refine aP rfl rfl (by unfold inI;omega) ?_
  refine aP rfl rfl (by unfold inI;omega) ?_
  refine aC rfl ?_
  refine nY (i:=5) (c:=.sl 6 (aV v.list)) (by simp [dc,bf]) ?_
  refine lH rfl (hP (zVs v.list) (by omega) v.list id _ (Nat.le_refl _) hl2) ?_
  refine ar (aF rfl rfl ?_)
  refine ag rfl (by first|(simp;done)|(simp;omega)) ?_
  refine aP rfl rfl (by unfold inI;omega) ?_
  refine aP rfl rfl (by unfold inI;omega) ?_
  refine ar ?_
  refine ⟨k + 1,q,Wk.back (M:=h.length) (Nat.le_refl _) (by simp) (by simp) ?_ hb (by simp [Bd]),by omega⟩
  rw [show ((zVs (l.take (k + 1)) : Nat) : Int) = (S : Int) + (1 + v.text.length + v.unit.length) + zVs v.list by rw [d1];omega]
  rfl
 ·obtain rfl : k = l.length:=by omega
  refine ag rfl (by simp) ?_
  rw [List.take_length]
  exact jS hb (by simp [Bd]) (by simp)
theorem B0 {l : List Vl} {id : Nat} {h : aa} (hz : zVs l < 2 ^ 39) (hv : bT l = false) : Ex Tryz.prog 207 [.sl 6 (aV l),.mp id] h (int (zVs l)):=by
 have : ∀ n,n < 2 ^ 39 → MsP n:=by
  intro n
  induction n using Nat.strongRecOn with
  | _ n ih=>exact fun hn=>JN hn fun n' h=>ih n' h (by omega)
 exact this _ hz l id h (Nat.le_refl _) hv
def PtP (n : Nat) : Prop:=∀ (l : List Vl) (id : Nat) (h : aa),zVs l ≤ n → bT l = false → Ex Tryz.prog 208 [.sl 6 (aV l),.mp id] h (.sl 6 (aV l))
theorem JU {n : Nat} (hn : n < 2 ^ 39) (hP : ∀ n',n' < n → PtP n') : PtP n:=by
 intro l id h hz hv
 refine (Og _ _).ex fun hb=>?_
 unfold KQ
 have hlen : (aV l).length = l.length:=by simp [bf]
 have hll:=eW l
 refine aB (n:=l.length) rfl hlen fun _=>?_
 refine a7 (α:=Nat) (fun k=>k ≤ l.length) (fun k=>[.sb h.length 6 (aV (l.take k)),int k]) (fun k=>h ++ [.tok 103 6 k]) (fun k=>l.length - k) 0 (by simp) ((Wk.nil (Nat.le_refl _) 0 rfl).trans (Wk.tok (Nat.le_refl _) 0 103 6 rfl)) ?_
 intro k hk
 refine aF rfl rfl ?_
 rcases Nat.lt_or_ge k l.length with q|q
 ·obtain ⟨v,hx⟩ : ∃ x,l[k]? = some x:=⟨l[k],List.getElem?_eq_getElem q⟩
  have hzv:=eX (List.mem_of_getElem? hx)
  have hvv:=qH (List.mem_of_getElem? hx) hv
  have hl2 : bT v.list = false:=by
   obtain ⟨kd,tx,nu,un',fl,l2⟩:=v
   rw [iR,Bool.or_eq_false_iff] at hvv
   exact hvv.2
  have hz2 : zV v = 1 + v.text.length + v.unit.length + zVs v.list:=by
   obtain ⟨kd,tx,nu,un',fl,l2⟩:=v
   rw [zV];rfl
  have d1:=GR hx
  have pr:=dC (l.take (k + 1))
  obtain ⟨R,hR⟩ : ∃ R,aV (l.take k) = R:=⟨_,rfl⟩
  have hRl : R.length = k:=by rw [← hR,bf,List.length_map,List.length_take];omega
  rw [hR] at d1 ⊢
  refine ak rfl (by simpa using q) ?_
  refine aG (bx (f:=cy) rfl (bf l) rfl hx ?_)
  refine aY rfl (by simp [dc]) ?_
  refine vC (vA ?_)
  refine b6 rfl (by kernel_rfl) (mZ hvv) ?_
  refine bF rfl (ak rfl rfl (aC rfl (KY (aC rfl ?_))))
  refine nY (i:=5) (c:=.sl 6 (aV v.list)) (by simp [dc,bf]) ?_
  refine NF rfl (hP (zVs v.list) (by omega) v.list id _ (Nat.le_refl _) hl2) ?_
  refine FR (Mw ?_)
  refine jg (h':=h ++ [.tok 103 6 (k + 1)] ++ [vB v]) (id:=h.length) (k:=k) (base:=R) (rows:=[cy v]) rfl (by simp) hRl.symm eU (JX v) (by unfold cT maxLen;simp;omega) (by simp) ?_
  refine ar ?_
  refine aP rfl rfl (by unfold inI;omega) ?_
  refine ar ?_
  refine ⟨k + 1,q,Wk.back (M:=h.length + 1) (by simp) (by simp) Mo (by rw [d1];rfl) ?_ ?_,by omega⟩
  ·intro e he
   rcases List.mem_append.1 he with he|he
   ·exact fZ (by omega) (hb e he)
   ·simp only [List.mem_singleton] at he;subst he;trivial
  ·have hb:=eM (h.length + 1) (.sl 6 (aV (l.take (k + 1)))) (by rw [Aw.Pure];exact pr)
   rw [Bd] at hb
   simp [Bd,hb]
 ·obtain rfl : k = l.length:=by omega
  refine ag rfl (by simp) ?_
  rw [List.take_length]
  exact Jp hb (dC l) (by simp)
theorem Lc {l : List Vl} {id : Nat} {h : aa} (hz : zVs l < 2 ^ 39) (hv : bT l = false) : Ex Tryz.prog 208 [.sl 6 (aV l),.mp id] h (.sl 6 (aV l)):=by
 have : ∀ n,n < 2 ^ 39 → PtP n:=by
  intro n
  induction n using Nat.strongRecOn with
  | _ n ih=>exact fun hn=>JU hn fun n' h=>ih n' h (by omega)
 exact this _ hz l id h (Nat.le_refl _) hv
theorem rL {l : List Vl} {id : Nat} {h : aa} (hz : zVs l ≤ 2000) (hv : bT l = false) (hc : fa l = 0) : Ex Tryz.prog 163 [.sl 6 (aV l),.mp id] h (.tup [.sl 6 (aV l),int 0]):=by
 refine (N9 _ _).ex fun hb=>?_
 unfold KK
 refine lH rfl (B0 (by omega) hv) ?_
 refine aF rfl rfl ?_
 refine ag rfl (by first|(simp;done)|(simp;omega)) ?_
 refine bW rfl rfl (aG ?_)
 refine ay rfl (by first|(simp;done)|(simp;omega)) ?_
 refine ar (ax rfl (ag rfl rfl ?_))
 refine lH rfl (Lc (by omega) hv) ?_
 refine b6 rfl (by kernel_rfl) (m4 l (by omega)) ?_
 rw [hc]
 refine bE rfl rfl (ag rfl rfl ?_)
 refine jS hb ?_ (by simp)
 have:=eM h.length (.tup [.sl 6 (aV l),int 0]) (by simp [Aw.Pure,bM,dC])
 exact this
end Go.Proofs.YtfageokhpklkbaaGreatDoor
end

section
namespace Go.Proofs.YtfageokhpklkbaaGreatDoor
open Go Go.Aw Go.Nst
set_option maxRecDepth 100000
def nmC (l : List Cu) (i : Nat) : Str:=(l.map Cu.name).getD i []
def vaC (l : List Cu) (i : Nat) : AV:=.sl 6 (aV ((l.map Cu.value).getD i []))
theorem eF {l : List Cu} {k : Nat} {c : Cu} (h : l[k]? = some c) : nmC l k = c.name:=by
 unfold nmC;rw [List.getD_eq_getElem?_getD,List.getElem?_map,h];rfl
theorem o4 {l : List Cu} {k : Nat} {c : Cu} (h : l[k]? = some c) : vaC l k = .sl 6 (aV c.value):=by
 unfold vaC;rw [List.getD_eq_getElem?_getD,List.getElem?_map,h];rfl
theorem xN (l : List Cu) (i : Nat) : Aw.Pure (vaC l i):=by unfold vaC;rw [Aw.Pure];exact dC _
def nV (l : List Cu) : Prop:=∀ x y,x < l.length → y < l.length → nmC l x = nmC l y → x = y
abbrev cB (c : Cu) : Ent:=.blk ⟨65,bX c,true⟩
theorem jh {c : Cu} {n : Nat} {h h' : aa} {KS : AV → aa → Prop} (hn : h.length = n) (hh : h ++ [cB c] = h') (q : KS (.op n 0) h') :
 bz 65 (.agg [(.str []),(.v (.slice none 0 0))]) h fun x g=>aN 2 x (.agg (bX c)) g fun g' => KS x g':=by
 subst hn;subst hh
 refine cL (cs:=[(.str []),(.v (.slice none 0 0))]) (n:=h.length) (h':=h ++ [.blk ⟨65,[(.str []),(.v (.slice none 0 0))],true⟩]) rfl rfl rfl rfl ?_
 refine cQ (cs:=bX c) (h':=h ++ [cB c]) rfl (b:=⟨65,[(.str []),(.v (.slice none 0 0))],true⟩) (by simp) rfl rfl (by simp [bX]) (by simp [bX]) (by simp [bX,cv]) (by rw [List.set_append_right _ _ (Nat.le_refl _)];simp [bX,cx]) q
theorem fu {c : Cu} {h : aa} {id : Nat} {K : AV → Prop} (hb : h[id]? = some (cB c)) (q : K (.str c.name)) : ab false 1 (.op id (0 + 0)) h K:=aD rfl hb rfl q
theorem mS {c : Cu} {h : aa} {id : Nat} {K : AV → Prop} (hb : h[id]? = some (cB c)) (q : K (.sl 6 (aV c.value))) : ab false 1 (.op id (0 + 1)) h K:=aD rfl hb rfl q
theorem oA {l : List Cu} {k : Nat} {x : Cu} (h : l[k]? = some x) : aq (l.take (k + 1)) = aq (l.take k) ++ [bX x]:=by
 unfold aq;rw [List.take_add_one,h];simp
theorem sF {M : Nat} {f : Nat → AV} {nm : Nat → Str} (hf : ∀ i,Bd M (f i)) : ∀ n a,BdL M (mpC (mEs f nm a n))
 | 0,a=>by simp [mEs,mpC,BdL]
 | n + 1,a=>by
   rw [fN]
   simp only [mpC,BdL]
   exact ⟨by simp [Bd],hf _,sF hf n (a + 1)⟩
theorem im {l : List Cu} {k : Nat} {c : Cu} {K : AV → Prop} (hx : l[k]? = some c) (q : K (.agg (bX c))) {h : aa} : aO 2 (.sl 2 (aq l)) (int k) fun v=>ab true 2 v h K:=by
 refine bx (f:=bX) rfl rfl rfl hx ?_
 exact aY rfl rfl q
theorem Ik [Laid] {P : Program} {f : FuncId} {xs ys args args' : List AV} {h : aa} {r : AV} {K : AV → aa → Prop} (e : xs ++ args ++ ys = args') (c : Ex P f args' h r) (k : K r h) : aH P (.fn (.func f) xs ys) args h K:=by
 subst e
 exact ⟨c.1,c.2.mono fun v h' ⟨a,b⟩=>by subst a;subst b;exact k⟩
theorem lI [Laid] {P : Program} {f : FuncId} {args args' : List AV} {h : aa} {K0 K : AV → aa → Prop} (hb : cq P f = true) (e : args = args') (c : ct P f args' h K0) (k : ∀ r h',K0 r h' → (∀ e ∈ h',dg h'.length e) → K r h') : aH P (.fn (.func f) [] []) args h K:=by
 subst e
 refine ⟨hb, ?_⟩
 simp only [List.nil_append,List.append_nil]
 intro base ι S w vs h1 h2
 refine (c base ι S w vs h1 h2).mono ?_
 rintro e w' ⟨v,ι',S',r,h',a1,a2,a3,a4,a5,a6⟩
 exact ⟨v,ι',S',r,h',a1,a2,a3,a4,a5,k r h' a6 a4.bound⟩
theorem uo {l : List Cu} {h : aa} (hl : l.length < 2 ^ 20) (inj : nV l) : ct Tryz.prog 161 [.sl 2 (aq l)] h fun v h' => v = .mp h.length ∧ h' = h ++ [.mp l.length (mEs (vaC l) (nmC l) 0 l.length)]:=by
 refine ct.bd fun hb=>(NZ _).gg ?_
 unfold KI
 refine jL rfl rfl ?_
 refine aB (n:=l.length) rfl (by simp [aq]) fun _=>?_
 refine a7 (α:=Nat) (fun k=>k ≤ l.length) (fun k=>[int k]) (fun k=>h ++ [.mp k (mEs (vaC l) (nmC l) 0 k)]) (fun k=>l.length - k) 0 (by simp) (Wk.refl _ _ _ (Nat.le_refl _)) ?_
 intro k hk
 refine aF rfl rfl ?_
 rcases Nat.lt_or_ge k l.length with q|q
 ·obtain ⟨c,hx⟩ : ∃ x,l[k]? = some x:=⟨l[k],List.getElem?_eq_getElem q⟩
  refine ak rfl (by simpa using q) ?_
  refine im hx ?_
  refine jh (n:=h.length + 1) (h':=h ++ [.mp k (mEs (vaC l) (nmC l) 0 k),cB c]) (by simp) (by simp) ?_
  refine aC rfl ?_
  refine fu (c:=c) (by simp) ?_
  refine aC rfl ?_
  refine mS (c:=c) (by simp) ?_
  refine o9 (h':=h ++ [.mp (k + 1) (mEs (vaC l) (nmC l) 0 (k + 1)),cB c]) rfl g_c rfl (by rw [← eF hx,← o4 hx];exact kI inj q) (by simp) ?_
  refine aP rfl rfl (by unfold inI;omega) ?_
  refine ar ?_
  refine ⟨k + 1,q,Wk.back (M:=h.length + 1) (by simp) (by simp) xJ rfl ?_ (by simp [Bd]),by omega⟩
  intro e he
  rcases List.mem_append.1 he with he|he
  ·exact fZ (by omega) (hb e he)
  ·simp only [List.mem_singleton] at he;subst he
   exact sF (fun i=>eM _ _ (xN l i)) _ _
 ·obtain rfl : k = l.length:=by omega
  refine ag rfl (by simp) ?_
  exact ⟨_,_,Wk.refl _ _ _ (by simp),rfl,rfl⟩
theorem Jq {h : aa} {s : Str} {nb sb wb nid mid c : Nat} {es : List (Nat × AV × AV)} (h1 : h[nb]? = some (.blk ⟨319,[.mp nid],true⟩)) (h2 : h[nid]? = some (.mp c es)) (h3 : hU (.str s) es = some (some (.mp mid))) (h4 : h[mid]? = some (.mp 0 [])) :
 Ex Tryz.prog 204 [.str s,.op nb 0,.op sb 0,.op wb 0] h (.tup []):=by
 refine (Oc _ _ _ _).ex fun hb=>?_
 unfold KN
 refine aD rfl h1 rfl (j7 rfl h2 rfl h3 rfl (qM rfl h4 rfl rfl ?_))
 have hm:=(List.getElem?_eq_some_iff.1 h4).1
 refine a7 (α:=Unit) (fun _=>True) (fun _=>[]) (fun _=>h ++ [.it mid 0 [] 0]) (fun _=>0) () trivial (Wk.refl _ _ _ (Nat.le_refl _)) ?_
 intro _ _
 refine qJ (m:=mid) (sn:=[]) rfl g_c (by rw [List.getElem?_append_left hm];exact h4) rfl (Nat.le_refl _) (fun _=>?_) fun p hp=>by simp [du] at hp
 refine bB rfl rfl (ag rfl rfl ?_)
 exact jS hb (by simp [Bd,BdL]) (by simp)
def ndE (l : List Cu) (k : Nat) : List (Nat × AV × AV):=mEs (fun i=>.mp (2 * i + 3)) (nmC l) 0 k
structure Lp (l : List Cu) (k : Nat) (H : aa) : Prop where
 len : 2 + 2 * k ≤ H.length
 z : H[0]? = some (.mp k (ndE l k))
 o : H[1]? = some (.blk ⟨319,[.mp 0],true⟩)
 m : ∀ i,i < k → H[2 * i + 3]? = some (.mp 0 [])
theorem pP {l : List Cu} (hl : l.length < 2 ^ 20) (inj : nV l) (hz : ∀ c ∈ l,zVs c.value < 2 ^ 39) (hv : ∀ c ∈ l,bT c.value = false) :
 ct Tryz.prog 160 [.sl 2 (aq l)] [] fun v h' => ∃ id,v = .mp id ∧ h'[id]? = some (.mp l.length (mEs (fun _=>ff) (nmC l) 0 l.length)):=by
 refine (NY _).gg ?_
 unfold KG
 refine jL (n:=0) (h':=[.mp 0 []]) rfl rfl (cL (n:=1) (h':=[_,_]) rfl rfl rfl rfl (cQ (id:=1) (o:=0) (cs:=[.mp 0]) (h':=[.mp 0 [],.blk ⟨319,[.mp 0],true⟩]) rfl rfl rfl rfl (Nat.le_refl _) rfl rfl rfl ?_))
 refine aB (n:=l.length) rfl (by simp [aq]) fun _=>?_
 refine a7 (α:=Nat × aa) (fun x=>x.1 ≤ l.length ∧ x.2.length = 2 + 2 * x.1 ∧ Lp l x.1 x.2) (fun x=>[int x.1]) (fun x=>x.2) (fun x=>l.length - x.1) (0,[.mp 0 [],.blk ⟨319,[.mp 0],true⟩]) ⟨by simp,rfl,⟨Nat.le_refl _,rfl,rfl,fun i h=>by omega⟩⟩ (Wk.refl _ _ _ (Nat.le_refl _)) ?_
 rintro ⟨k,H⟩ ⟨hk,hH,lp⟩
 dsimp only at hk hH lp ⊢
 refine aF rfl rfl ?_
 rcases Nat.lt_or_ge k l.length with q|q
 ·obtain ⟨c,hx⟩ : ∃ x,l[k]? = some x:=⟨l[k],List.getElem?_eq_getElem q⟩
  have hc:=List.mem_of_getElem? hx
  refine ak rfl (by simpa using q) ?_
  refine im hx (jh (n:=H.length) (h':=H ++ [cB c]) rfl rfl ?_)
  refine aD rfl (b:=⟨319,[.mp 0],true⟩) (by rw [List.getElem?_append_left (by omega)];exact lp.o) rfl ?_
  refine aC rfl ?_
  refine fu (c:=c) (by simp) ?_
  refine jL (n:=2 * k + 3) (h':=H ++ [cB c,.mp 0 []]) (by simp;omega) (by simp) ?_
  refine o9 (c':=k + 1) (es':=ndE l (k + 1)) (h':=(H ++ [cB c,.mp 0 []]).set 0 (.mp (k + 1) (ndE l (k + 1)))) rfl (by rw [List.getElem?_append_left (by omega)];exact lp.z) rfl (by rw [← eF hx];exact kI (f:=fun i=>.mp (2 * i + 3)) inj q) rfl ?_
  have e0 : ((H ++ [cB c,.mp 0 []]).set 0 (.mp (k + 1) (ndE l (k + 1)))).length = 2 + 2 * (k + 1):=by simp;omega
  have ez : ((H ++ [cB c,.mp 0 []]).set 0 (.mp (k + 1) (ndE l (k + 1))))[0]? = some (.mp (k + 1) (ndE l (k + 1))):=List.getElem?_set_self (by simp)
  have ge : ∀ i,i ≠ 0 → ((H ++ [cB c,.mp 0 []]).set 0 (.mp (k + 1) (ndE l (k + 1))))[i]? = (H ++ [cB c,.mp 0 []])[i]?:=fun i hi=>List.getElem?_set_ne (Ne.symm hi)
  have lp' : Lp l (k + 1) ((H ++ [cB c,.mp 0 []]).set 0 (.mp (k + 1) (ndE l (k + 1)))):=by
   refine ⟨by rw [e0];exact Nat.le_refl _,ez, ?_,fun i hi=>?_⟩
   ·rw [ge 1 (by omega),List.getElem?_append_left (by omega)];exact lp.o
   ·rw [ge _ (by omega)]
    by_cases e : i = k
    ·subst e
     rw [List.getElem?_append_right (by omega),show 2 * i + 3 - H.length = 1 by omega];rfl
    ·rw [List.getElem?_append_left (by omega)];exact lp.m i (by omega)
  have eb : ((H ++ [cB c,.mp 0 []]).set 0 (.mp (k + 1) (ndE l (k + 1))))[H.length]? = some (cB c):=by rw [ge _ (by omega)];simp
  generalize (H ++ [cB c,.mp 0 []]).set 0 (.mp (k + 1) (ndE l (k + 1))) = H3 at e0 lp' eb ⊢
  refine aC rfl (mS eb (aD rfl lp'.o rfl (aC rfl (fu eb ?_))))
  refine j7 (q0:=some (.mp (2 * k + 3))) rfl lp'.z rfl (by rw [← eF hx];exact jx (f:=fun i=>.mp (2 * i + 3)) inj (k + 1) 0 k (by omega) (by omega) (by omega)) rfl ?_
  refine lH rfl (nc (hz c hc) (hv c hc)) ?_
  refine aP rfl rfl (by unfold inI;omega) ?_
  refine ar ?_
  exact ⟨(k + 1,H3),⟨q,e0,lp'⟩,Wk.refl _ _ _ (by simp only [List.length_cons,List.length_nil];omega),by dsimp only;omega⟩
 ·obtain rfl : k = l.length:=by omega
  refine ag rfl (by simp) ?_
  refine jL (n:=H.length) (h':=H ++ [.mp 0 []]) rfl rfl ?_
  refine aB (n:=l.length) rfl (by simp [aq]) fun _=>?_
  refine a7 (α:=Nat × aa) (fun x=>x.1 ≤ l.length ∧ H.length < x.2.length ∧ x.2[H.length]? = some (.mp x.1 (mEs (fun _=>ff) (nmC l) 0 x.1)) ∧ Lp l l.length x.2) (fun x=>[int x.1]) (fun x=>x.2) (fun x=>l.length - x.1) (0,H ++ [.mp 0 []]) ⟨by simp,by simp,g_c, ?_⟩ (Wk.refl _ _ _ (Nat.le_refl _)) ?_
  ·exact ⟨by simp;omega,by rw [List.getElem?_append_left (by omega)];exact lp.z,by rw [List.getElem?_append_left (by omega)];exact lp.o,fun i hi=>by rw [List.getElem?_append_left (by omega)];exact lp.m i hi⟩
  rintro ⟨k,G⟩ ⟨hk,hG,hO,lg⟩
  dsimp only at hk hG hO lg ⊢
  refine aF rfl rfl ?_
  rcases Nat.lt_or_ge k l.length with q|q
  ·obtain ⟨c,hx⟩ : ∃ x,l[k]? = some x:=⟨l[k],List.getElem?_eq_getElem q⟩
   refine ak rfl (by simpa using q) ?_
   refine im hx (jh (n:=G.length) (h':=G ++ [cB c]) rfl rfl ?_)
   refine jL (n:=G.length + 1) (h':=G ++ [cB c,.mp 0 []]) (by simp) (by simp) ?_
   refine cL (cs:=[.v (.map none)]) (n:=G.length + 2) (h':=G ++ [cB c,.mp 0 [],.blk ⟨143,[.v (.map none)],true⟩]) rfl rfl (by simp) (by simp) ?_
   refine cQ (cs:=[.mp (G.length + 1)]) (h':=G ++ [cB c,.mp 0 [],.blk ⟨143,[.mp (G.length + 1)],true⟩]) rfl (b:=⟨143,[.v (.map none)],true⟩) (by simp) rfl rfl (by simp) rfl rfl (by simp [cx]) ?_
   refine cL (cs:=[.v .nilFunc]) (n:=G.length + 3) (h':=G ++ [cB c,.mp 0 [],.blk ⟨143,[.mp (G.length + 1)],true⟩,.blk ⟨320,[.v .nilFunc],true⟩]) rfl rfl (by simp) (by simp) ?_
   refine cQ (cs:=[.fn (.func 204) [] [.op 1 0,.op (G.length + 2) 0,.op (G.length + 3) 0]]) (h':=G ++ [cB c,.mp 0 [],.blk ⟨143,[.mp (G.length + 1)],true⟩,.blk ⟨320,[.fn (.func 204) [] [.op 1 0,.op (G.length + 2) 0,.op (G.length + 3) 0]],true⟩]) rfl (b:=⟨320,[.v .nilFunc],true⟩) (by simp) rfl rfl (by simp) rfl rfl (by simp [cx]) ?_
   have gl : ∀ i,i < G.length → (G ++ [cB c,.mp 0 [],.blk ⟨143,[.mp (G.length + 1)],true⟩,.blk ⟨320,[.fn (.func 204) [] [.op 1 0,.op (G.length + 2) 0,.op (G.length + 3) 0]],true⟩])[i]? = G[i]?:=fun i hi=>List.getElem?_append_left hi
   have eb : (G ++ [cB c,.mp 0 [],.blk ⟨143,[.mp (G.length + 1)],true⟩,.blk ⟨320,[.fn (.func 204) [] [.op 1 0,.op (G.length + 2) 0,.op (G.length + 3) 0]],true⟩])[G.length]? = some (cB c):=by simp
   have em : (G ++ [cB c,.mp 0 [],.blk ⟨143,[.mp (G.length + 1)],true⟩,.blk ⟨320,[.fn (.func 204) [] [.op 1 0,.op (G.length + 2) 0,.op (G.length + 3) 0]],true⟩])[G.length + 1]? = some (.mp 0 []):=by simp
   have es : (G ++ [cB c,.mp 0 [],.blk ⟨143,[.mp (G.length + 1)],true⟩,.blk ⟨320,[.fn (.func 204) [] [.op 1 0,.op (G.length + 2) 0,.op (G.length + 3) 0]],true⟩])[G.length + 2]? = some (.blk ⟨143,[.mp (G.length + 1)],true⟩):=by simp
   have ew : (G ++ [cB c,.mp 0 [],.blk ⟨143,[.mp (G.length + 1)],true⟩,.blk ⟨320,[.fn (.func 204) [] [.op 1 0,.op (G.length + 2) 0,.op (G.length + 3) 0]],true⟩])[G.length + 3]? = some (.blk ⟨320,[.fn (.func 204) [] [.op 1 0,.op (G.length + 2) 0,.op (G.length + 3) 0]],true⟩):=by simp
   have el : (G ++ [cB c,.mp 0 [],.blk ⟨143,[.mp (G.length + 1)],true⟩,.blk ⟨320,[.fn (.func 204) [] [.op 1 0,.op (G.length + 2) 0,.op (G.length + 3) 0]],true⟩]).length = G.length + 4:=by simp
   generalize (G ++ [cB c,.mp 0 [],.blk ⟨143,[.mp (G.length + 1)],true⟩,.blk ⟨320,[.fn (.func 204) [] [.op 1 0,.op (G.length + 2) 0,.op (G.length + 3) 0]],true⟩]) = J at gl eb em es ew el ⊢
   have lj:=lg.len
   refine aD rfl ew rfl (aC rfl (fu eb ?_))
   refine Ik rfl (Jq (by rw [gl 1 (by omega)];exact lg.o) (by rw [gl 0 (by omega)];exact lg.z) (by rw [← eF hx];exact jx (f:=fun i=>.mp (2 * i + 3)) inj l.length 0 k (by omega) (by omega) (by omega)) (by rw [gl _ (by omega)];exact lg.m k q)) ?_
   refine aC rfl (fu eb (aD rfl es rfl (aC rfl (fu eb (j7 (q0:=none) rfl em rfl rfl rfl ?_)))))
   refine o9 (c':=k + 1) (es':=mEs (fun _=>ff) (nmC l) 0 (k + 1)) (h':=J.set H.length (.mp (k + 1) (mEs (fun _=>ff) (nmC l) 0 (k + 1)))) rfl (by rw [gl _ hG];exact hO) rfl (by rw [← eF hx];exact kI (f:=fun _=>ff) inj q) rfl ?_
   refine aP rfl rfl (by unfold inI;omega) ?_
   refine ar ?_
   refine ⟨(k + 1,J.set H.length (.mp (k + 1) (mEs (fun _=>ff) (nmC l) 0 (k + 1)))),⟨q,by simp only [List.length_set];omega,List.getElem?_set_self (by omega), ?_⟩,Wk.refl _ _ _ (by simp only [List.length_set,List.length_append,List.length_cons,List.length_nil];omega),by dsimp only;omega⟩
   have gs : ∀ i,i < 2 + 2 * l.length → (J.set H.length (.mp (k + 1) (mEs (fun _=>ff) (nmC l) 0 (k + 1))))[i]? = G[i]?:=fun i hi=>by rw [List.getElem?_set_ne (by omega),gl i (by omega)]
   exact ⟨by simp only [List.length_set];omega,by rw [gs 0 (by omega)];exact lg.z,by rw [gs 1 (by omega)];exact lg.o,fun i hi=>by rw [gs _ (by omega)];exact lg.m i hi⟩
  ·obtain rfl : k = l.length:=by omega
   refine ag rfl (by simp) ?_
   exact ⟨_,_,Wk.refl _ _ _ (Nat.zero_le _),_,rfl,hO⟩
end Go.Proofs.YtfageokhpklkbaaGreatDoor
end

section
namespace Go.Proofs.YtfageokhpklkbaaGreatDoor
open Go Go.Aw Go.Nst
set_option maxRecDepth 100000
section
variable {h1 tl : aa} {a b x y : Ent}
theorem g_S : (h1 ++ a :: b :: tl)[h1.length]? = some a:=by simp
theorem g_O : (h1 ++ a :: b :: tl)[h1.length + 1]? = some b:=by simp
theorem g_T {i : Nat} : (h1 ++ a :: b :: tl)[h1.length + (2 + i)]? = tl[i]?:=by
 rw [List.getElem?_append_right (by omega),show h1.length + (2 + i) - h1.length = i + 1 + 1 by omega];rfl
theorem s_S : (h1 ++ a :: b :: tl).set h1.length x = h1 ++ x :: b :: tl:=by rw [List.set_append_right _ _ (Nat.le_refl _)];simp
theorem s_O : (h1 ++ a :: b :: tl).set (h1.length + 1) x = h1 ++ a :: x :: tl:=by rw [List.set_append_right _ _ (by omega)];simp
theorem s_T {i : Nat} : (h1 ++ a :: b :: tl).set (h1.length + (2 + i)) x = h1 ++ a :: b :: tl.set i x:=by
 rw [List.set_append_right _ _ (by omega),show h1.length + (2 + i) - h1.length = i + 1 + 1 by omega];rfl
theorem l_T : (h1 ++ a :: b :: tl).length = h1.length + (2 + tl.length):=by simp;omega
theorem a_T {c : Ent} : (h1 ++ a :: b :: tl) ++ [c] = h1 ++ a :: b :: (tl ++ [c]):=by simp
theorem t_T : (h1 ++ a :: b :: tl).take (h1.length + 2) = h1 ++ [a,b]:=by
 rw [List.take_append,List.take_of_length_le (by omega),show h1.length + 2 - h1.length = 2 by omega];rfl
end
theorem qa {c : Cu} {K : AV → Prop} (q : K (.agg (bX c))) : bl (.agg [(.str []),(.v (.slice none 0 0))]) [(0,1,.str c.name),(1,1,.sl 6 (aV c.value))] K:=br (cs:=bX c) rfl q
theorem AX {c : Cu} {K : AV → Prop} (q : K (.sl 2 [bX c])) : bP 1 2 (.agg [(.str []),(.v (.slice none 0 0))]) [(0,2,.agg (bX c))] K:=b9 (cs:=bX c) rfl q
theorem wz [Laid] {h : aa} {id sz : Nat} {rows : List (List AV)} (pr : cd rows) : iw (.sl sz rows) (.sb id sz rows) h:=by
 refine iw.of ?_
 rw [Km pr]
 exact Le.refl _
set_option maxHeartbeats 4000000 in
theorem Bv {l : List Cu} (hl : l.length < 2 ^ 20) (inj : nV l) (hz : ∀ c ∈ l,zVs c.value ≤ 2000) (hv : ∀ c ∈ l,bT c.value = false) (hk : ∀ c ∈ l,fa c.value = 0) : Con Tryz.prog 118 [.sl 2 (aq l)] (.sl 2 (aq l)):=by
 refine (Kp _).gives (by simp [bG]) (by rw [Aw.Pure];exact bG l) ?_
 unfold FQ
 have mpB : ∀ (M a n c : Nat),dg M (.mp c (mEs (vaC l) (nmC l) a n)):=fun M a n c=>sF (fun i=>eM _ _ (xN l i)) _ _
 have hEg : ∀ (h1 : aa),(∀ e ∈ h1,dg h1.length e) → ∀ k,k ≤ l.length → ∀ e ∈ h1 ++ [.mp k (mEs (vaC l) (nmC l) 0 k),.mp l.length (mEs (vaC l) (nmC l) k (l.length - k))],dg (h1.length + 2) e:=fun h1 hb k _ e he=>by
  rcases List.mem_append.1 he with he|he
  ·exact fZ (by omega) (hb e he)
  ·simp only [List.mem_cons,List.not_mem_nil,or_false] at he
   rcases he with rfl|rfl <;> exact mpB _ _ _ _
 have hGg : ∀ (h1 tl : aa),(∀ e ∈ h1,dg h1.length e) → (∀ e ∈ tl,e = .dead) → ∀ k,k ≤ l.length → ∀ e ∈ h1 ++ .mp k (mEs (vaC l) (nmC l) 0 k) :: .mp l.length (mEs (vaC l) (nmC l) k (l.length - k)) :: tl,dg (h1.length + (2 + tl.length)) e:=fun h1 tl hb ht k _ e he=>by
  rcases List.mem_append.1 he with he|he
  ·exact fZ (by omega) (hb e he)
  ·simp only [List.mem_cons] at he
   rcases he with rfl|rfl|he
   ·exact mpB _ _ _ _
   ·exact mpB _ _ _ _
   ·rw [ht e he];trivial
 refine y7 (α:=aa × Nat) (fun x=>x.2 ≤ l.length ∧ ∀ e ∈ x.1,dg x.1.length e) (fun x=>[.mp x.1.length,.mp (x.1.length + 1)]) (fun x=>x.1 ++ [.mp x.2 (mEs (vaC l) (nmC l) 0 x.2),.mp l.length (mEs (vaC l) (nmC l) x.2 (l.length - x.2))]) (fun x=>l.length - x.2) ?_ ?_
 ·refine lI (by kernel_rfl) rfl (pP hl inj (fun c hc=>by have:=hz c hc;omega) hv) fun r h1 ⟨id,er,hid⟩ hb1=>?_
  subst er
  have hlt:=(List.getElem?_eq_some_iff.1 hid).1
  obtain ⟨m,hm0⟩ : ∃ m,m = 0:=⟨0,rfl⟩
  have hm : m ≤ l.length:=by omega
  refine jL (n:=h1.length) (h':=h1 ++ [.mp m (mEs (vaC l) (nmC l) 0 m)]) rfl (by subst hm0;rfl) ?_
  refine lI (by kernel_rfl) rfl (uo hl inj) fun r G ⟨er,eG⟩ _=>?_
  obtain rfl : r = .mp (h1.length + 1):=by rw [er];simp
  obtain rfl : G = h1 ++ .mp m (mEs (vaC l) (nmC l) 0 m) :: .mp l.length (mEs (vaC l) (nmC l) m (l.length - m)) :: []:=by rw [eG];subst hm0;simp
  refine qM rfl (by rw [List.getElem?_append_left hlt];exact hid) l_T a_T ?_
  refine a7 (α:=List Nat) (fun _=>True) (fun _=>[]) (fun sn=>h1 ++ .mp m (mEs (vaC l) (nmC l) 0 m) :: .mp l.length (mEs (vaC l) (nmC l) m (l.length - m)) :: ([] ++ [.it id l.length sn l.length])) (fun sn=>(du sn (mEs (fun _=>ff) (nmC l) 0 l.length)).length) [] trivial (Wk.refl _ _ _ (Nat.le_refl _)) ?_
  intro sn _
  refine qJ (m:=id) rfl (by rw [g_T];rfl) (by rw [List.getElem?_append_left hlt];exact hid) (th _ _ (by omega)) (Nat.le_refl _) (fun _=>?_) (fun p hp=>?_)
  ·rw [s_T]
   obtain ⟨tl,htl⟩ : ∃ tl,([] ++ [Ent.it id l.length sn l.length]).set ([] : aa).length .dead = tl:=⟨_,rfl⟩
   rw [htl]
   have hdl : ∀ e ∈ tl,e = .dead:=by subst htl;simp
   have hG:=hGg h1 tl hb1 hdl
   have hE:=hEg h1 hb1
   refine bB rfl rfl (ag rfl rfl ?_)
   refine aB (n:=l.length) rfl (by simp [aq]) fun _=>?_
   refine a7 (α:=Nat) (fun i=>i ≤ m ∧ i ≤ l.length) (fun i=>[int i]) (fun _=>h1 ++ Ent.mp m (mEs (vaC l) (nmC l) 0 m) :: Ent.mp l.length (mEs (vaC l) (nmC l) m (l.length - m)) :: tl) (fun i=>l.length - i) 0 ⟨Nat.zero_le _,Nat.zero_le _⟩ (Wk.refl _ _ _ (Nat.le_refl _)) ?_
   rintro i ⟨hi,hin⟩
   refine aF rfl rfl ?_
   rcases Nat.lt_or_ge i l.length with q|q
   ·obtain ⟨c,hx⟩ : ∃ x,l[i]? = some x:=⟨l[i],List.getElem?_eq_getElem q⟩
    have hc:=List.mem_of_getElem? hx
    refine ak rfl (by simpa using q) ?_
    refine aG (im hx (jh l_T a_T (aC rfl ?_)))
    refine fu (c:=c) (by rw [g_T];simp) ?_
    rcases Nat.lt_or_ge i m with r|r
    ·refine j7 (q0:=none) rfl g_O rfl (by rw [← eF hx];exact qo _ _ fun j h1 h2 e=>by have:=inj _ _ (by omega) q e;omega) rfl ?_
     refine bB rfl rfl (bB rfl rfl (bF rfl (ak rfl rfl (ar ?_))))
     refine aP rfl rfl (by unfold inI;omega) ?_
     refine ar ?_
     refine ⟨i + 1,⟨r,q⟩,Wk.back (M:=h1.length + (2 + tl.length)) (Nat.le_of_eq l_T) (by first|(simp;done)|(simp;omega)) (by rw [← l_T (h1:=h1) (tl:=tl),← a_T,List.take_append_of_le_length (Nat.le_refl _),List.take_length]) rfl (hG m hm) (by simp [Bd]),by omega⟩
    ·obtain rfl : m = i:=by omega
     have hrem : l.length - m = (l.length - (m + 1)) + 1:=by omega
     refine j7 (q0:=some (vaC l m)) rfl g_O rfl (by rw [← eF hx];exact jx inj _ _ _ (by omega) (by omega) (by omega)) rfl ?_
     refine bB rfl rfl (bB rfl rfl (bF rfl (ag rfl rfl (jL l_T a_T (aC rfl ?_)))))
     refine mS (c:=c) (by rw [g_T];simp) ?_
     refine lH rfl (nc (by have:=hz c hc;omega) (hv c hc)) ?_
     refine qM rfl (by rw [g_T];exact g_c) l_T a_T ?_
     refine a7 (α:=Unit) (fun _=>True) (fun _=>[ff]) (fun _=>h1 ++ Ent.mp m (mEs (vaC l) (nmC l) 0 m) :: Ent.mp l.length (mEs (vaC l) (nmC l) m (l.length - m)) :: (tl ++ [cB c] ++ [Ent.mp 0 []] ++ [Ent.it (h1.length + (2 + (tl ++ [cB c]).length)) 0 [] 0])) (fun _=>0) () trivial (Wk.refl _ _ _ (Nat.le_refl _)) ?_
     intro _ _
     refine qJ (m:=h1.length + (2 + (tl ++ [cB c]).length)) (sn:=[]) rfl (by rw [g_T];exact g_c) (by rw [g_T,List.append_assoc];exact g_c) rfl (Nat.le_refl _) (fun _=>?_) fun p hp=>by simp [du] at hp
     rw [s_T]
     refine bB rfl rfl (ag rfl rfl (ag rfl rfl ?_))
     have eb2 : ∀ (u v : Ent),(h1 ++ u :: v :: ((tl ++ [cB c] ++ [Ent.mp 0 []] ++ [Ent.it (h1.length + (2 + (tl ++ [cB c]).length)) 0 [] 0]).set (tl ++ [cB c] ++ [Ent.mp 0 []]).length .dead))[h1.length + (2 + tl.length)]? = some (cB c):=fun u v=>by
      rw [g_T,List.getElem?_set_ne (by first|(simp;done)|(simp;omega))];simp
     generalize ((tl ++ [cB c] ++ [Ent.mp 0 []] ++ [Ent.it (h1.length + (2 + (tl ++ [cB c]).length)) 0 [] 0]).set (tl ++ [cB c] ++ [Ent.mp 0 []]).length .dead) = tl2 at eb2 ⊢
     refine aC rfl (fu (eb2 _ _) ?_)
     refine HQ rfl g_O rfl (by rw [← eF hx,hrem];exact vZ _ _) s_O ?_
     refine aC rfl (mS (eb2 _ _) (lH rfl (rL (hz c hc) (hv c hc) (hk c hc)) (bB rfl rfl (bB rfl rfl (bR rfl rfl (aG (aA rfl rfl ?_)))))))
     refine b6 rfl (by kernel_rfl) (m0 _ (by have:=hz c hc;omega)) ?_
     refine eE rfl rfl (ar (aE rfl ?_))
     refine ak rfl (decide_eq_true (by have:=hz c hc;omega)) ?_
     refine aC rfl (fu (eb2 _ _) ?_)
     refine o9 rfl g_S rfl (by rw [← eF hx,← o4 hx];exact kI inj q) s_S ?_
     refine ar ?_
     first
      | exact ⟨(h1,m + 1),⟨q,hb1⟩,Wk.back (n:=0) (M:=h1.length + 2) (Nat.zero_le _) (by simp) (t_T (h1:=h1)) rfl (hE (m + 1) q) (by simp [Bd])⟩
      | exact ⟨(h1,m + 1),⟨q,hb1⟩,Wk.back (n:=0) (M:=h1.length + 2) (Nat.zero_le _) (by simp) (t_T (h1:=h1)) rfl (hE (m + 1) q) (by simp [Bd]),by omega⟩
   ·obtain rfl : i = l.length:=by omega
    obtain rfl : m = l.length:=by omega
    refine ag rfl (by simp) ?_
    refine aB (n:=l.length) rfl (by simp [aq]) fun _=>?_
    refine a7 (α:=Nat) (fun i=>i ≤ l.length) (fun i=>[.sb (h1.length + (2 + tl.length)) 2 (aq (l.take i)),int i]) (fun i=>h1 ++ Ent.mp l.length (mEs (vaC l) (nmC l) 0 l.length) :: Ent.mp l.length (mEs (vaC l) (nmC l) l.length (l.length - l.length)) :: (tl ++ [Ent.tok 65 2 i])) (fun i=>l.length - i) 0 (Nat.zero_le _) (by
     have w:=(Wk.nil (n:=(h1 ++ Ent.mp l.length (mEs (vaC l) (nmC l) 0 l.length) :: Ent.mp l.length (mEs (vaC l) (nmC l) l.length (l.length - l.length)) :: tl).length) (s:=[.v (.slice none 0 0),int 0]) (Nat.le_refl _) 0 rfl).trans (Wk.tok (Nat.le_refl _) 0 65 2 rfl)
     rw [a_T,l_T] at w
     rw [l_T]
     exact w) ?_
    intro j hj
    refine aF rfl rfl ?_
    rcases Nat.lt_or_ge j l.length with q|q
    ·obtain ⟨c,hx⟩ : ∃ x,l[j]? = some x:=⟨l[j],List.getElem?_eq_getElem q⟩
     have d1:=oA hx
     have pr:=bG (l.take (j + 1))
     obtain ⟨R,hR⟩ : ∃ R,aq (l.take j) = R:=⟨_,rfl⟩
     have hRl : R.length = j:=by rw [← hR];first|(simp [aq];done)|(simp [aq];omega)
     rw [hR] at d1 ⊢
     refine ak rfl (by simpa using q) ?_
     refine aG (im hx (jh l_T a_T (aC rfl ?_)))
     refine fu (c:=c) (by rw [g_T];simp) ?_
     refine j7 (q0:=some (vaC l j)) rfl g_S rfl (by rw [← eF hx];exact jx inj _ _ _ (by omega) (by omega) (by omega)) rfl ?_
     refine bB rfl rfl (bB rfl rfl (ak rfl rfl (aC rfl ?_)))
     refine fu (c:=c) (by rw [g_T];simp) ?_
     rw [o4 hx]
     refine qa (AX ?_)
     refine jg (k:=j) (base:=R) (rows:=[bX c]) (h':=h1 ++ Ent.mp l.length (mEs (vaC l) (nmC l) 0 l.length) :: Ent.mp l.length (mEs (vaC l) (nmC l) l.length (l.length - l.length)) :: (tl ++ [Ent.tok 65 2 (j + 1)] ++ [cB c])) rfl (by rw [g_T];simp) hRl.symm eU rfl (by unfold cT maxLen;first|(simp;done)|(simp;omega)) (by rw [s_T];simp) ?_
     refine ar ?_
     refine aP rfl rfl (by unfold inI;omega) ?_
     refine ar ?_
     refine ⟨j + 1,q, ?_,by omega⟩
     rw [d1]
     refine Wk.back (M:=h1.length + (2 + (tl.length + 1))) (by first|(simp;done)|(simp;omega)) (by first|(simp;done)|(simp;omega)) ?_ rfl ?_ ?_
     ·rw [← a_T,show h1.length + (2 + (tl.length + 1)) = (h1 ++ Ent.mp l.length (mEs (vaC l) (nmC l) 0 l.length) :: Ent.mp l.length (mEs (vaC l) (nmC l) l.length (l.length - l.length)) :: (tl ++ [Ent.tok 65 2 (j + 1)])).length by rw [l_T];simp,List.take_append_of_le_length (Nat.le_refl _),List.take_length]
     ·intro e he
      rw [← a_T] at he
      rcases List.mem_append.1 he with he|he
      ·exact fZ (by omega) (hG _ (Nat.le_refl _) e he)
      ·simp only [List.mem_singleton] at he;subst he;trivial
     ·have hb:=eM (h1.length + (2 + (tl.length + 1))) (.sl 2 (aq (l.take (j + 1)))) (by rw [Aw.Pure];exact pr)
      rw [Bd,d1] at hb
      first|(simp [Bd,hb];done)|(simp [Bd,hb];omega)
    ·obtain rfl : j = l.length:=by omega
     refine ag rfl (by simp) ?_
     rw [List.take_length]
     exact wz (bG l)
  ·obtain ⟨p1,p2,ep⟩:=JM (jT.1 hp).1
   have e1 : p.2.1 = .str (nmC l p.1):=by rw [ep]
   have e2 : p.2.2 = ff:=by rw [ep]
   rw [s_T,e1,e2]
   refine bB rfl rfl (ak rfl rfl ?_)
   refine Mv (m:=id) (n:=p.1) rfl (by rw [g_T];rfl) (by rw [List.getElem?_append_left hlt];exact hid) rfl (uF _ _) (vQ _ _ (Nat.zero_le _) (by omega)) ?_
   refine bB rfl rfl (bB rfl rfl (ag rfl rfl (ar ?_)))
   exact ⟨fU p.1 sn,trivial,Wk.refl _ _ _ (by simp),JE hp⟩
 ·rintro ⟨h1,m⟩ ⟨hm,hb1⟩
  dsimp only at hm hb1 ⊢
  obtain ⟨tl,htl⟩ : ∃ tl : aa,[] = tl:=⟨_,rfl⟩
  have hdl : ∀ e ∈ tl,e = .dead:=by subst htl;simp
  have hG:=hGg h1 tl hb1 hdl
  have hE:=hEg h1 hb1
  rw [show h1 ++ [Ent.mp m (mEs (vaC l) (nmC l) 0 m),.mp l.length (mEs (vaC l) (nmC l) m (l.length - m))] = h1 ++ .mp m (mEs (vaC l) (nmC l) 0 m) :: .mp l.length (mEs (vaC l) (nmC l) m (l.length - m)) :: tl from by subst htl;rfl]
  refine aB (n:=l.length) rfl (by simp [aq]) fun _=>?_
  refine a7 (α:=Nat) (fun i=>i ≤ m ∧ i ≤ l.length) (fun i=>[int i]) (fun _=>h1 ++ Ent.mp m (mEs (vaC l) (nmC l) 0 m) :: Ent.mp l.length (mEs (vaC l) (nmC l) m (l.length - m)) :: tl) (fun i=>l.length - i) 0 ⟨Nat.zero_le _,Nat.zero_le _⟩ (Wk.refl _ _ _ (Nat.le_refl _)) ?_
  rintro i ⟨hi,hin⟩
  refine aF rfl rfl ?_
  rcases Nat.lt_or_ge i l.length with q|q
  ·obtain ⟨c,hx⟩ : ∃ x,l[i]? = some x:=⟨l[i],List.getElem?_eq_getElem q⟩
   have hc:=List.mem_of_getElem? hx
   refine ak rfl (by simpa using q) ?_
   refine aG (im hx (jh l_T a_T (aC rfl ?_)))
   refine fu (c:=c) (by rw [g_T];simp) ?_
   rcases Nat.lt_or_ge i m with r|r
   ·refine j7 (q0:=none) rfl g_O rfl (by rw [← eF hx];exact qo _ _ fun j h1 h2 e=>by have:=inj _ _ (by omega) q e;omega) rfl ?_
    refine bB rfl rfl (bB rfl rfl (bF rfl (ak rfl rfl (ar ?_))))
    refine aP rfl rfl (by unfold inI;omega) ?_
    refine ar ?_
    refine ⟨i + 1,⟨r,q⟩,Wk.back (M:=h1.length + (2 + tl.length)) (Nat.le_of_eq l_T) (by first|(simp;done)|(simp;omega)) (by rw [← l_T (h1:=h1) (tl:=tl),← a_T,List.take_append_of_le_length (Nat.le_refl _),List.take_length]) rfl (hG m hm) (by simp [Bd]),by omega⟩
   ·obtain rfl : m = i:=by omega
    have hrem : l.length - m = (l.length - (m + 1)) + 1:=by omega
    refine j7 (q0:=some (vaC l m)) rfl g_O rfl (by rw [← eF hx];exact jx inj _ _ _ (by omega) (by omega) (by omega)) rfl ?_
    refine bB rfl rfl (bB rfl rfl (bF rfl (ag rfl rfl (jL l_T a_T (aC rfl ?_)))))
    refine mS (c:=c) (by rw [g_T];simp) ?_
    refine lH rfl (nc (by have:=hz c hc;omega) (hv c hc)) ?_
    refine qM rfl (by rw [g_T];exact g_c) l_T a_T ?_
    refine a7 (α:=Unit) (fun _=>True) (fun _=>[ff]) (fun _=>h1 ++ Ent.mp m (mEs (vaC l) (nmC l) 0 m) :: Ent.mp l.length (mEs (vaC l) (nmC l) m (l.length - m)) :: (tl ++ [cB c] ++ [Ent.mp 0 []] ++ [Ent.it (h1.length + (2 + (tl ++ [cB c]).length)) 0 [] 0])) (fun _=>0) () trivial (Wk.refl _ _ _ (Nat.le_refl _)) ?_
    intro _ _
    refine qJ (m:=h1.length + (2 + (tl ++ [cB c]).length)) (sn:=[]) rfl (by rw [g_T];exact g_c) (by rw [g_T,List.append_assoc];exact g_c) rfl (Nat.le_refl _) (fun _=>?_) fun p hp=>by simp [du] at hp
    rw [s_T]
    refine bB rfl rfl (ag rfl rfl (ag rfl rfl ?_))
    have eb2 : ∀ (u v : Ent),(h1 ++ u :: v :: ((tl ++ [cB c] ++ [Ent.mp 0 []] ++ [Ent.it (h1.length + (2 + (tl ++ [cB c]).length)) 0 [] 0]).set (tl ++ [cB c] ++ [Ent.mp 0 []]).length .dead))[h1.length + (2 + tl.length)]? = some (cB c):=fun u v=>by
     rw [g_T,List.getElem?_set_ne (by first|(simp;done)|(simp;omega))];simp
    generalize ((tl ++ [cB c] ++ [Ent.mp 0 []] ++ [Ent.it (h1.length + (2 + (tl ++ [cB c]).length)) 0 [] 0]).set (tl ++ [cB c] ++ [Ent.mp 0 []]).length .dead) = tl2 at eb2 ⊢
    refine aC rfl (fu (eb2 _ _) ?_)
    refine HQ rfl g_O rfl (by rw [← eF hx,hrem];exact vZ _ _) s_O ?_
    refine aC rfl (mS (eb2 _ _) (lH rfl (rL (hz c hc) (hv c hc) (hk c hc)) (bB rfl rfl (bB rfl rfl (bR rfl rfl (aG (aA rfl rfl ?_)))))))
    refine b6 rfl (by kernel_rfl) (m0 _ (by have:=hz c hc;omega)) ?_
    refine eE rfl rfl (ar (aE rfl ?_))
    refine ak rfl (decide_eq_true (by have:=hz c hc;omega)) ?_
    refine aC rfl (fu (eb2 _ _) ?_)
    refine o9 rfl g_S rfl (by rw [← eF hx,← o4 hx];exact kI inj q) s_S ?_
    refine ar ?_
    first
     | exact ⟨(h1,m + 1),⟨q,hb1⟩,Wk.back (n:=0) (M:=h1.length + 2) (Nat.zero_le _) (by simp) (t_T (h1:=h1)) rfl (hE (m + 1) q) (by simp [Bd])⟩
     | exact ⟨(h1,m + 1),⟨q,hb1⟩,Wk.back (n:=0) (M:=h1.length + 2) (Nat.zero_le _) (by simp) (t_T (h1:=h1)) rfl (hE (m + 1) q) (by simp [Bd]),by omega⟩
  ·obtain rfl : i = l.length:=by omega
   obtain rfl : m = l.length:=by omega
   refine ag rfl (by simp) ?_
   refine aB (n:=l.length) rfl (by simp [aq]) fun _=>?_
   refine a7 (α:=Nat) (fun i=>i ≤ l.length) (fun i=>[.sb (h1.length + (2 + tl.length)) 2 (aq (l.take i)),int i]) (fun i=>h1 ++ Ent.mp l.length (mEs (vaC l) (nmC l) 0 l.length) :: Ent.mp l.length (mEs (vaC l) (nmC l) l.length (l.length - l.length)) :: (tl ++ [Ent.tok 65 2 i])) (fun i=>l.length - i) 0 (Nat.zero_le _) (by
    have w:=(Wk.nil (n:=(h1 ++ Ent.mp l.length (mEs (vaC l) (nmC l) 0 l.length) :: Ent.mp l.length (mEs (vaC l) (nmC l) l.length (l.length - l.length)) :: tl).length) (s:=[.v (.slice none 0 0),int 0]) (Nat.le_refl _) 0 rfl).trans (Wk.tok (Nat.le_refl _) 0 65 2 rfl)
    rw [a_T,l_T] at w
    rw [l_T]
    exact w) ?_
   intro j hj
   refine aF rfl rfl ?_
   rcases Nat.lt_or_ge j l.length with q|q
   ·obtain ⟨c,hx⟩ : ∃ x,l[j]? = some x:=⟨l[j],List.getElem?_eq_getElem q⟩
    have d1:=oA hx
    have pr:=bG (l.take (j + 1))
    obtain ⟨R,hR⟩ : ∃ R,aq (l.take j) = R:=⟨_,rfl⟩
    have hRl : R.length = j:=by rw [← hR];first|(simp [aq];done)|(simp [aq];omega)
    rw [hR] at d1 ⊢
    refine ak rfl (by simpa using q) ?_
    refine aG (im hx (jh l_T a_T (aC rfl ?_)))
    refine fu (c:=c) (by rw [g_T];simp) ?_
    refine j7 (q0:=some (vaC l j)) rfl g_S rfl (by rw [← eF hx];exact jx inj _ _ _ (by omega) (by omega) (by omega)) rfl ?_
    refine bB rfl rfl (bB rfl rfl (ak rfl rfl (aC rfl ?_)))
    refine fu (c:=c) (by rw [g_T];simp) ?_
    rw [o4 hx]
    refine qa (AX ?_)
    refine jg (k:=j) (base:=R) (rows:=[bX c]) (h':=h1 ++ Ent.mp l.length (mEs (vaC l) (nmC l) 0 l.length) :: Ent.mp l.length (mEs (vaC l) (nmC l) l.length (l.length - l.length)) :: (tl ++ [Ent.tok 65 2 (j + 1)] ++ [cB c])) rfl (by rw [g_T];simp) hRl.symm eU rfl (by unfold cT maxLen;first|(simp;done)|(simp;omega)) (by rw [s_T];simp) ?_
    refine ar ?_
    refine aP rfl rfl (by unfold inI;omega) ?_
    refine ar ?_
    refine ⟨j + 1,q, ?_,by omega⟩
    rw [d1]
    refine Wk.back (M:=h1.length + (2 + (tl.length + 1))) (by first|(simp;done)|(simp;omega)) (by first|(simp;done)|(simp;omega)) ?_ rfl ?_ ?_
    ·rw [← a_T,show h1.length + (2 + (tl.length + 1)) = (h1 ++ Ent.mp l.length (mEs (vaC l) (nmC l) 0 l.length) :: Ent.mp l.length (mEs (vaC l) (nmC l) l.length (l.length - l.length)) :: (tl ++ [Ent.tok 65 2 (j + 1)])).length by rw [l_T];simp,List.take_append_of_le_length (Nat.le_refl _),List.take_length]
    ·intro e he
     rw [← a_T] at he
     rcases List.mem_append.1 he with he|he
     ·exact fZ (by omega) (hG _ (Nat.le_refl _) e he)
     ·simp only [List.mem_singleton] at he;subst he;trivial
    ·have hb:=eM (h1.length + (2 + (tl.length + 1))) (.sl 2 (aq (l.take (j + 1)))) (by rw [Aw.Pure];exact pr)
     rw [Bd,d1] at hb
     first|(simp [Bd,hb];done)|(simp [Bd,hb];omega)
   ·obtain rfl : j = l.length:=by omega
    refine ag rfl (by simp) ?_
    rw [List.take_length]
    exact wz (bG l)
theorem rD {l : List Cu} (hl : l.length ≤ 64) (hn : dx l = true) (inj : nV l) (hz : ∀ c ∈ l,zVs c.value ≤ 2000) (hv : ∀ c ∈ l,bT c.value = false) (hk : ∀ c ∈ l,fa c.value = 0) : Con Tryz.prog 76 [.sl 2 (aq l)] (.tup [.sl 2 (aq l),int 0]):=by
 refine (V76 _).gives (by simp [bG]) (by simp [Aw.Pure,bM,bG]) ?_
 unfold W76
 refine aB (n:=l.length) rfl (by simp [aq]) fun _=>?_
 refine bW rfl rfl ?_
 refine ag rfl (by first|(simp;done)|(simp;omega)) ?_
 have hN:=ov l (by omega)
 rw [hn] at hN
 refine b6 rfl (by kernel_rfl) hN ?_
 refine bF rfl (ag rfl rfl ?_)
 refine aB (n:=l.length) rfl (by simp [aq]) fun _=>?_
 refine a7 (α:=Nat) (fun k=>k ≤ l.length) (fun k=>[int k]) (fun _=>[]) (fun k=>l.length - k) 0 (Nat.zero_le _) (Wk.refl _ _ _ (Nat.le_refl _)) ?_
 intro k hk'
 refine aF rfl rfl ?_
 rcases Nat.lt_or_ge k l.length with q|q
 ·obtain ⟨c,hx⟩ : ∃ x,l[k]? = some x:=⟨l[k],List.getElem?_eq_getElem q⟩
  have hc:=List.mem_of_getElem? hx
  refine ak rfl (by simpa using q) ?_
  refine im hx (jh (n:=0) (h':=[cB c]) rfl rfl (aC rfl (mS (c:=c) rfl ?_)))
  refine b6 rfl (by kernel_rfl) (m4 _ (by have:=hz c hc;omega)) ?_
  rw [hk c hc]
  refine bE rfl rfl (ag rfl rfl ?_)
  refine aP rfl rfl (by unfold inI;omega) ?_
  refine ar ?_
  exact ⟨k + 1,q,Wk.back (M:=0) (Nat.le_refl _) (Nat.zero_le _) rfl rfl (by simp) (by simp [Bd]),by omega⟩
 ·obtain rfl : k = l.length:=by omega
  refine ag rfl (by simp) ?_
  refine b6 rfl (by kernel_rfl) (Bv (by omega) inj hz hv hk) ?_
  exact .pure (by simp [Aw.Pure,bM,bG]) rfl
end Go.Proofs.YtfageokhpklkbaaGreatDoor
end
