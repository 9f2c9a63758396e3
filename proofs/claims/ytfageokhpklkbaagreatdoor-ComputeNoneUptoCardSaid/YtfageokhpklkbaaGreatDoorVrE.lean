/-
 Names in order,each once;a custom property looked up by its name.
 No conditions: contracts.
-/
import Derived.Test.YtfageokhpklkbaaGreatDoorV1
import Derived.Test.YtfageokhpklkbaaGreatDoorSrtO
set_option linter.unusedVariables false
set_option linter.unusedSimpArgs false
namespace Go.Proofs.YtfageokhpklkbaaGreatDoor
open Go Go.Aw Go.Nst
set_option maxRecDepth 100000
theorem HV : ∀ {a b : Str},Op.bytesLess a b = true → a < b
 | _,[],h=>by simp [Op.bytesLess] at h
 | [],b :: bs,_=>List.nil_lt_cons b bs
 | a :: u,b :: bs,h=>by
   rw [Op.bytesLess,Bool.or_eq_true,Bool.and_eq_true,decide_eq_true_eq,beq_iff_eq] at h
   rw [List.cons_lt_cons_iff]
   exact h.imp id fun ⟨e,q⟩=>⟨e,HV q⟩
theorem ny {l : List Cu} (hn : dx l = true) : ∀ j,j < l.length → ∀ i,i < j → nmC l i < nmC l j
 | 0,_,i,h=>by omega
 | j + 1,hj,i,hi=>by
   unfold dx at hn
   have:=List.all_eq_true.1 hn (j + 1) (List.mem_range.2 hj)
   unfold nOk at this
   rw [Bool.and_eq_true] at this
   have h1 : nmC l j < nmC l (j + 1):=HV (by
    have h2:=this.2
    unfold l7 at h2
    rw [if_neg (by omega),Nat.add_sub_cancel] at h2
    exact h2)
   rcases Nat.lt_or_ge i j with q|q
   ·exact List.lt_trans (ny hn j (by omega) i q) h1
   ·obtain rfl : i = j:=by omega
    exact h1
theorem uM {l : List Cu} (hn : dx l = true) : nV l:=fun x y hx hy e=>by
 rcases Nat.lt_trichotomy x y with q|q|q
 ·have:=ny hn y hy x q
  rw [e] at this
  exact absurd this (List.lt_irrefl _)
 ·exact q
 ·have:=ny hn x hx y q
  rw [e] at this
  exact absurd this (List.lt_irrefl _)
theorem Hp {l : List Cu} (hn : dx l = true) {c : Cu} (hc : c ∈ l) : da c.name = true:=by
 obtain ⟨i,hi⟩:=List.getElem?_of_mem hc
 unfold dx at hn
 have:=List.all_eq_true.1 hn i (List.mem_range.2 (List.getElem?_eq_some_iff.1 hi).1)
 rw [xi hi,Bool.and_eq_true] at this
 exact this.1
theorem xk (l : List Cu) : (List.range' 0 l.length).map (nmC l) = l.map Cu.name:=by
 refine List.ext_getElem (by simp) fun i h1 h2=>?_
 have hi : i < l.length:=by simpa using h1
 simp [nmC,List.getElem?_eq_getElem hi]
theorem xl {l : List Cu} (hn : dx l = true) : (l.map Cu.name).Pairwise fun a b=>a < b:=by
 rw [← xk,List.pairwise_map]
 refine List.pairwise_iff_getElem.2 fun i j hi hj h=>?_
 simp only [List.getElem_range',Nat.zero_add,Nat.one_mul]
 exact ny hn j (by simpa using hj) i h
theorem Du {l : List Cu} (hn : dx l = true) : iE (l.map Cu.name) = l.map Cu.name:=by
 rw [← xA (List.Perm.refl _)]
 refine List.mergeSort_of_pairwise ((xl hn).imp fun h=>?_)
 simp only [leB,decide_eq_true_eq]
 exact List.le_of_lt h
theorem wN {f : Nat → AV} {nm : Nat → Str} : ∀ n a,px (mEs f nm a n) = some ((List.range' a n).map nm)
 | 0,a=>rfl
 | n + 1,a=>by rw [fN,px,wN n (a + 1),List.range'_succ];rfl
theorem uv {f : Nat → AV} {nm : Nat → Str} {b : Nat} : ∀ n a,b < a → gh b (mEs f nm a n) = none
 | 0,a,_=>rfl
 | n + 1,a,h=>by rw [fN,gh,DZ (by omega)];exact uv n (a + 1) (by omega)
theorem xm {f : Nat → AV} {nm : Nat → Str} : ∀ n a,tU (mEs f nm a n) = true
 | 0,a=>rfl
 | n + 1,a=>by rw [fN,tU,uv n (a + 1) (by omega)];exact xm n (a + 1)
theorem Az : ∀ {l : List Str},l.Nodup → qs l = true
 | [],_=>rfl
 | x :: r,h=>by
   rw [List.nodup_cons] at h
   rw [qs]
   cases q : qp x r with
   | true=>exact absurd ((qq x r).1 q) h.1
   | false=>exact Az h.2
theorem FH {l : List Cu} (hn : dx l = true) (hl : l.length ≤ 64) : ∃ r,qD l.length (mEs (fun _=>tt) (nmC l) 0 l.length) = some r ∧ RLe r (.sl 1 (gj (l.map Cu.name))):=by
 have nd : qs (l.map Cu.name) = true:=Az ((xl hn).imp fun h e=>by subst e;exact List.lt_irrefl _ h)
 unfold qD
 rw [wN,xk,th _ _ (by omega),xm,show Nat.ble (mEs (fun _=>tt) (nmC l) 0 l.length).length 1000000 = true from Nat.ble_eq_true_of_le (by simp [mEs];omega)]
 simp only [nd,Du hn]
 cases h : l.map Cu.name with
 | nil=>exact ⟨_,rfl,RLe.nil 1⟩
 | cons a r=>exact ⟨_,rfl,RLe.refl _⟩
section
variable [Laid]
theorem It {P : Program} {f : FuncId} {args : List AV} {h : aa} {a b : AV} (c : ct P f args h fun v h' => v = a ∧ h' = h) (q : RLe a b) : ct P f args h fun v h' => v = b ∧ h' = h:=by
 intro base ι S w vs h1 h2
 refine (c base ι S w vs h1 h2).mono ?_
 rintro e w' ⟨v,ι',S',r,h',a1,a2,a3,a4,a5,rfl,rfl⟩
 exact ⟨v,ι',S',b,_,a1,a2,q _ _ _ _ a3,a4,a5,rfl,rfl⟩
end
abbrev pB (vR : List (List AV)) (cus : List Cu) : Ent:=.blk ⟨60,[.sl 7 vR,.sl 2 (aq cus)],true⟩
abbrev sB (s : Str) : Ent:=.blk ⟨9,[.str s],true⟩
theorem Lb {h : aa} {b : Nat} {s : Str} (hb : h[b]? = some (sB s)) (c : Cu) : Ex Tryz.prog 117 [.agg (bX c),.op b 0] h (bool (decide (c.name = s))):=by
 refine (NS _ _).ex fun hbd=>?_
 unfold KA
 have hlt:=(List.getElem?_eq_some_iff.1 hb).1
 refine cL (cs:=bX c) (n:=h.length) (h':=h ++ [cB c]) rfl rfl rfl rfl (aC rfl ?_)
 refine fu (c:=c) (by simp) ?_
 refine aD rfl (b:=⟨9,[.str s],true⟩) (by rw [List.getElem?_append_left hlt];exact hb) rfl ?_
 refine de rfl rfl ?_
 exact jS hbd (by simp [Bd]) (by simp)
theorem GS {h : aa} {b : Nat} {l : List Cu} {k : Nat} {c : Cu} (hl : l.length ≤ 64) (inj : nV l) (hx : l[k]? = some c) (hb : h[b]? = some (sB c.name)) :
 Ex Tryz.prog 116 [.sl 2 (aq l),.fn (.func 117) [] [.op b 0]] h (int k):=by
 refine (NR _ _).ex fun hbd=>?_
 unfold Kz
 have hkl:=(List.getElem?_eq_some_iff.1 hx).1
 refine aB (n:=l.length) rfl (by simp [aq]) fun _=>?_
 refine a7 (α:=Nat) (fun i=>i ≤ k) (fun i=>[int i]) (fun _=>h) (fun i=>l.length - i) 0 (Nat.zero_le _) (Wk.refl _ _ _ (Nat.le_refl _)) ?_
 intro i hi
 refine aF rfl rfl ?_
 refine ak rfl (by first|(simp;done)|(simp;omega)) ?_
 obtain ⟨d,hd⟩ : ∃ x,l[i]? = some x:=⟨l[i],List.getElem?_eq_getElem (by omega)⟩
 refine im hd (Ik rfl (Lb hb d) ?_)
 rcases Nat.lt_or_ge i k with q|q
 ·refine ag rfl (decide_eq_false fun e=>?_) ?_
  ·have:=inj i k (by omega) hkl (by rw [eF hd,eF hx];exact e)
   omega
  refine aP rfl rfl (by unfold inI;omega) ?_
  refine ar ?_
  exact ⟨i + 1,q,Wk.refl _ _ _ (Nat.le_refl _),by omega⟩
 ·obtain rfl : i = k:=by omega
  rw [hx] at hd
  cases hd
  refine ak rfl (decide_eq_true rfl) ?_
  exact jS hbd (by simp [Bd]) (by simp)
theorem Bh {vR : List (List AV)} (pv : cd vR) {l : List Cu} {k : Nat} {c : Cu} (hl : l.length ≤ 64) (inj : nV l) (hx : l[k]? = some c) :
 Con Tryz.prog 75 [.agg [.sl 7 vR,.sl 2 (aq l)],.str c.name] (.tup [.sl 6 (aV c.value),tt]):=by
 refine (V75 _ _).gives (by simp [bM,Aw.Pure,pv,bG]) (by simp [Aw.Pure,bM,dC]) ?_
 unfold W75
 refine cL (n:=0) (h':=[pB vR l]) rfl rfl rfl rfl (cL (n:=1) (h':=[pB vR l,sB c.name]) rfl rfl rfl rfl (aC rfl (aC rfl (aD rfl rfl rfl (lH rfl (GS hl inj hx rfl) (aF rfl rfl ?_))))))
 refine ag rfl (by first|(simp;done)|(simp;omega)) ?_
 refine aC rfl (aC rfl (aD rfl rfl rfl (bx (f:=bX) rfl rfl rfl hx (bt rfl (aR rfl ?_)))))
 exact .pure (by simp [Aw.Pure,bM,dC]) rfl
end Go.Proofs.YtfageokhpklkbaaGreatDoor

