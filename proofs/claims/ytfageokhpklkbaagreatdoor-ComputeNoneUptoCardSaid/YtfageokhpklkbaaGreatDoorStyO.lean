/-
 Histories and styles that are not great.
 No conditions: contracts.
-/
import Derived.Test.YtfageokhpklkbaaGreatDoorStyJ
import Derived.Test.YtfageokhpklkbaaGreatDoorP1
set_option linter.unusedVariables false
set_option linter.unusedSimpArgs false
namespace Go.Proofs.YtfageokhpklkbaaGreatDoor
open Go Go.Aw Go.Nst
set_option maxRecDepth 1000000
theorem yD {α : Type} {l : List α} {p : α → Bool} {n k : Nat} {s : α} (hk : k < n) (h : l[k]? = some s) (hp : p s = true) : (l.take n).any p = true :=
 List.any_eq_true.2 ⟨s,List.mem_of_getElem? (i:=k) (by rw [List.getElem?_take,if_pos hk];exact h),hp⟩
theorem vF {α : Type} {l : List α} {p : α → Bool} {n k : Nat} (hk : l.length ≤ k ∨ n ≤ k) (h : ∀ i s,i < k → l[i]? = some s → p s = false) : (l.take n).any p = false:=by
 rw [List.any_eq_false]
 intro x hx
 obtain ⟨i,hi⟩:=List.mem_iff_getElem?.1 hx
 rw [List.getElem?_take] at hi
 split at hi
 ·have:=(List.getElem?_eq_some_iff.1 hi).1
  rw [h i x (by omega) hi];simp
 ·cases hi
def gCu (c : Cu) : Bool:=wA c.value || decide ((100 : Int) < c.name.length)
def gy (l : List Cu) (k : Nat) : Int:=((l.take k).map fun c=>dd 300 0 c.value).sum
def gCs (l : List Cu) : Bool:=(l.take 71).any gCu || decide ((70 : Int) < l.length) || decide ((1500 : Int) < gy l 71)
theorem um {l : List Cu} {k : Nat} {c : Cu} (h : l[k]? = some c) : gy l (k + 1) = gy l k + dd 300 0 c.value:=by
 unfold gy
 rw [List.take_add_one,h]
 simp
theorem yB (l : List Cu) (hz : ∀ c ∈ l,zVs c.value < 2 ^ 39) : ∀ k,0 ≤ gy l k ∧ gy l k ≤ k * 2 ^ 39
 | 0=>by simp [gy]
 | k + 1=>by
   have ih:=yB l hz k
   cases h : l[k]? with
   | none =>
     have : gy l (k + 1) = gy l k:=by unfold gy;rw [List.take_add_one,h];simp
     rw [this];omega
   | some c =>
     rw [um h]
     obtain ⟨a,b,_⟩:=kH 300 0 c.value
     have:=hz c (List.mem_of_getElem? h)
     omega
theorem FU {l : List Cu} {k : Nat} (h : l.length ≤ k ∨ 71 ≤ k) (hk : k ≤ 71) : gy l 71 = gy l k:=by
 rcases h with h|h
 ·unfold gy;rw [List.take_of_length_le (by omega),List.take_of_length_le h]
 ·obtain rfl : k = 71:=by omega
  rfl
set_option maxHeartbeats 2000000 in
theorem Bf (l : List Cu) (hl : l.length < 2 ^ 40) (hz : ∀ c ∈ l,zVs c.value < 2 ^ 39) : Con Tryz.prog 33 [.sl 2 (aq l)] (bool (gCs l)):=by
 refine (V33 _).gives (by simp [bG]) (by simp) ?_
 unfold W33
 refine a7 (α:=Nat) (fun k=>k ≤ l.length ∧ k ≤ 71 ∧ ∀ i s,i < k → l[i]? = some s → gCu s = false) (fun k=>[int (gy l k),int k]) (fun _=>[]) (fun k=>l.length - k) 0 ⟨by omega,by omega,fun i s h=>by omega⟩ (Wk.refl _ _ _ (by simp)) ?_
 rintro k ⟨hk,hk2,hall⟩
 refine aB (n:=l.length) rfl (by simp [aq]) fun _=>?_
 have done : l.length ≤ k ∨ 71 ≤ k → gCs l = (decide ((70 : Int) < l.length) || decide ((1500 : Int) < gy l k)):=fun h=>by unfold gCs;rw [vF h hall,FU h hk2];simp
 rcases Nat.lt_or_ge k l.length with q|q
 ·obtain ⟨⟨nm,vs⟩,hs⟩ : ∃ x,l[k]? = some x:=⟨l[k],List.getElem?_eq_getElem q⟩
  have q1 : decide ((k : Int) < l.length) = true:=by simpa using q
  have hin : inI ((k : Int) + 1):=by unfold inI;omega
  have hzv : zVs vs < 2 ^ 39:=hz _ (List.mem_of_getElem? hs)
  have hG:=Bu vs hzv
  have hS:=vV vs 300 hzv (by omega) (by omega)
  obtain ⟨b1,b2,_⟩:=kH 300 0 vs
  obtain ⟨c1,c2⟩:=yB l hz k
  have hacc : gy l (k + 1) = gy l k + dd 300 0 vs:=um hs
  have hi1 : inI (gy l k + dd 300 0 vs):=by unfold inI;omega
  rcases Nat.lt_or_ge k 71 with z|z
  ·have q2 : decide ((k : Int) ≤ 70) = true:=by simp;omega
   repeat' (first|(with_reducible first|apply aG|apply ar|refine And.intro True.intro ?_)|((with_reducible first|apply aF|apply eE|apply bW);rfl;rfl)|((with_reducible apply aP);rfl;rfl;first|assumption|(unfold inI;omega))|((with_reducible apply aE);rfl)|((with_reducible apply ax);rfl)|((with_reducible apply ak);rfl;first|rfl|assumption)|((with_reducible apply ag);rfl;first|rfl|assumption)|((with_reducible apply aA);rfl;first|rfl|assumption)|((with_reducible apply ay);rfl;first|rfl|assumption)|((with_reducible apply bt);rfl)|((with_reducible apply aR);rfl)|((with_reducible apply fA);rfl;intro _)|((with_reducible apply aB);rfl;(first|rfl|simp);intro _)|(refine aI (by kernel_rfl) (hG) ?_)|(refine aI (by kernel_rfl) (hS) ?_)|(refine bx (f:=bX) rfl rfl rfl hs ?_)|((with_reducible apply cA);rfl)|((with_reducible apply bV);rfl)|(with_reducible intro _))
   all_goals first
    | (refine ⟨k + 1,⟨q,by omega,fun i x hi hx=>?_⟩,Wk.le (by simp) (by rw [hacc];simp),by omega⟩
       rcases Nat.lt_or_ge i k with y|y
       ·exact hall i x y hx
       ·obtain rfl : i = k:=by omega
        rw [hs] at hx;cases hx
        unfold gCu;grind)
    | (refine .pure (by simp) ?_
       simp only [fW,jj,AV.v.injEq,Value.bool.injEq]
       have hg : gCu ⟨nm,vs⟩ = true:=by unfold gCu;grind
       simp [gCs,yD z hs hg])
  ·have q2 : decide ((k : Int) ≤ 70) = false:=by simp;omega
   repeat' (first|(refine aB (n:=l.length) rfl (by simp [aq]) fun _=>?_)|(with_reducible first|apply aG|apply ar|refine And.intro True.intro ?_)|((with_reducible first|apply aF|apply eE|apply bW);rfl;rfl)|((with_reducible apply aP);rfl;rfl;first|assumption|(unfold inI;omega))|((with_reducible apply aE);rfl)|((with_reducible apply ax);rfl)|((with_reducible apply ak);rfl;first|rfl|assumption)|((with_reducible apply ag);rfl;first|rfl|assumption)|((with_reducible apply aA);rfl;first|rfl|assumption)|((with_reducible apply ay);rfl;first|rfl|assumption)|((with_reducible apply bt);rfl)|((with_reducible apply aR);rfl)|((with_reducible apply fA);rfl;intro _)|((with_reducible apply aB);rfl;(first|rfl|simp);intro _)|((with_reducible apply cA);rfl)|((with_reducible apply bV);rfl)|(with_reducible intro _))
   all_goals
    refine .pure (by simp) ?_
    rw [done (.inr z)]
    simp only [fW,jj,AV.v.injEq,Value.bool.injEq] at *
    grind
 ·have q1 : decide ((k : Int) < l.length) = false:=by simp;omega
  repeat' (first|(refine aB (n:=l.length) rfl (by simp [aq]) fun _=>?_)|(with_reducible first|apply aG|apply ar|refine And.intro True.intro ?_)|((with_reducible first|apply aF|apply eE|apply bW);rfl;rfl)|((with_reducible apply aP);rfl;rfl;first|assumption|(unfold inI;omega))|((with_reducible apply aE);rfl)|((with_reducible apply ax);rfl)|((with_reducible apply ak);rfl;first|rfl|assumption)|((with_reducible apply ag);rfl;first|rfl|assumption)|((with_reducible apply aA);rfl;first|rfl|assumption)|((with_reducible apply ay);rfl;first|rfl|assumption)|((with_reducible apply bt);rfl)|((with_reducible apply aR);rfl)|((with_reducible apply fA);rfl;intro _)|((with_reducible apply aB);rfl;(first|rfl|simp);intro _)|((with_reducible apply cA);rfl)|((with_reducible apply bV);rfl)|(with_reducible intro _))
  all_goals
   refine .pure (by simp) ?_
   rw [done (.inl q)]
   simp only [fW,jj,AV.v.injEq,Value.bool.injEq] at *
   grind
def gVw (v : Vv) : Bool:=decide ((100 : Int) < v.word.length)
def gSy (s : Sy) : Bool:=(s.az.take 31).any gVw || decide ((30 : Int) < s.az.length) || gCs s.db
set_option maxHeartbeats 2000000 in
theorem Bn (s : Sy) (hl : s.az.length < 2 ^ 40) (ok : p8 s) : Con Tryz.prog 17 [.agg (fE s)] (bool (gSy s)):=by
 refine (V17 _).gives (by simp [gU]) (by simp) ?_
 unfold W17
 obtain ⟨vl,cu⟩:=s
 obtain ⟨o1,o2,o3⟩:=ok
 simp only at o1 o2 o3 hl
 have hC:=Bf cu o2 o3
 rw [fE]
 have hlen : (bC vl).length = vl.length:=by simp [bC]
 repeat' (first|(with_reducible first|apply aG|apply ar|refine And.intro True.intro ?_)|((with_reducible first|apply aF|apply eE|apply bW);rfl;rfl)|((with_reducible apply aP);rfl;rfl;first|assumption|(unfold inI;omega))|((with_reducible apply aE);rfl)|((with_reducible apply ax);rfl)|((with_reducible apply ak);rfl;first|rfl|assumption)|((with_reducible apply ag);rfl;first|rfl|assumption)|((with_reducible apply aA);rfl;first|rfl|assumption)|((with_reducible apply ay);rfl;first|rfl|assumption)|((with_reducible apply aC);rfl)|((with_reducible apply bt);rfl)|((with_reducible apply aD);rfl;rfl;rfl)|((with_reducible apply aR);rfl)|((with_reducible apply bN);first|rfl|simp)|((with_reducible apply fA);rfl;intro _)|((with_reducible apply aB);rfl;(first|rfl|simp);intro _)|((with_reducible apply bV);rfl)|(with_reducible intro _))
 refine a7 (α:=Nat) (fun k=>k ≤ vl.length ∧ k ≤ 31 ∧ ∀ i s,i < k → vl[i]? = some s → gVw s = false) (fun k=>[int k]) (fun _=>_) (fun k=>vl.length - k) 0 ⟨by omega,by omega,fun i s h=>by omega⟩ (Wk.refl _ _ _ (by simp)) ?_
 rintro k ⟨hk,hk2,hall⟩
 have done : vl.length ≤ k ∨ 31 ≤ k → gSy ⟨vl,cu⟩ = (decide ((30 : Int) < vl.length) || gCs cu):=fun h=>by unfold gSy;simp only;rw [vF h hall];simp
 rcases Nat.lt_or_ge k vl.length with q|q
 ·obtain ⟨⟨c,w,n,r,g,b,a⟩,hs⟩ : ∃ x,vl[k]? = some x:=⟨vl[k],List.getElem?_eq_getElem q⟩
  have q1 : decide ((k : Int) < vl.length) = true:=by simpa using q
  have hin : inI ((k : Int) + 1):=by unfold inI;omega
  rcases Nat.lt_or_ge k 31 with z|z
  ·have q2 : decide ((k : Int) ≤ 30) = true:=by simp;omega
   cases hg : gVw ⟨c,w,n,r,g,b,a⟩ with
   | true =>
     have hg' : decide ((100 : Int) < w.length) = true:=hg
     repeat' (first|(refine aB (n:=vl.length) rfl hlen fun _=>?_)|(with_reducible first|apply aG|apply ar|refine And.intro True.intro ?_)|((with_reducible first|apply aF|apply eE|apply bW);rfl;rfl)|((with_reducible apply aP);rfl;rfl;first|assumption|(unfold inI;omega))|((with_reducible apply aE);rfl)|((with_reducible apply ax);rfl)|((with_reducible apply ak);rfl;first|rfl|assumption)|((with_reducible apply ag);rfl;first|rfl|assumption)|((with_reducible apply aA);rfl;first|rfl|assumption)|((with_reducible apply ay);rfl;first|rfl|assumption)|((with_reducible apply aC);rfl)|((with_reducible apply bt);rfl)|((with_reducible apply aD);rfl;rfl;rfl)|((with_reducible apply aR);rfl)|((with_reducible apply bN);first|rfl|simp)|((with_reducible apply fA);rfl;intro _)|((with_reducible apply aB);rfl;(first|rfl|simp);intro _)|(refine bx (f:=bS) rfl rfl rfl hs ?_)|((with_reducible apply bV);rfl)|(with_reducible intro _))
     all_goals exact .pure (by simp) (by simp [gSy,yD z hs hg])
   | false =>
     have hg' : decide ((100 : Int) < w.length) = false:=hg
     repeat' (first|(refine aB (n:=vl.length) rfl hlen fun _=>?_)|(with_reducible first|apply aG|apply ar|refine And.intro True.intro ?_)|((with_reducible first|apply aF|apply eE|apply bW);rfl;rfl)|((with_reducible apply aP);rfl;rfl;first|assumption|(unfold inI;omega))|((with_reducible apply aE);rfl)|((with_reducible apply ax);rfl)|((with_reducible apply ak);rfl;first|rfl|assumption)|((with_reducible apply ag);rfl;first|rfl|assumption)|((with_reducible apply aA);rfl;first|rfl|assumption)|((with_reducible apply ay);rfl;first|rfl|assumption)|((with_reducible apply aC);rfl)|((with_reducible apply bt);rfl)|((with_reducible apply aD);rfl;rfl;rfl)|((with_reducible apply aR);rfl)|((with_reducible apply bN);first|rfl|simp)|((with_reducible apply fA);rfl;intro _)|((with_reducible apply aB);rfl;(first|rfl|simp);intro _)|(refine bx (f:=bS) rfl rfl rfl hs ?_)|((with_reducible apply bV);rfl)|(with_reducible intro _))
     all_goals
      refine ⟨k + 1,⟨q,by omega,fun i x hi hx=>?_⟩,Wk.refl _ _ _ (by simp),by omega⟩
      rcases Nat.lt_or_ge i k with y|y
      ·exact hall i x y hx
      ·obtain rfl : i = k:=by omega
       rw [hs] at hx;cases hx;exact hg
  ·have q2 : decide ((k : Int) ≤ 30) = false:=by simp;omega
   repeat' (first|(refine aB (n:=vl.length) rfl hlen fun _=>?_)|(with_reducible first|apply aG|apply ar|refine And.intro True.intro ?_)|((with_reducible first|apply aF|apply eE|apply bW);rfl;rfl)|((with_reducible apply aP);rfl;rfl;first|assumption|(unfold inI;omega))|((with_reducible apply aE);rfl)|((with_reducible apply ax);rfl)|((with_reducible apply ak);rfl;first|rfl|assumption)|((with_reducible apply ag);rfl;first|rfl|assumption)|((with_reducible apply aA);rfl;first|rfl|assumption)|((with_reducible apply ay);rfl;first|rfl|assumption)|((with_reducible apply aC);rfl)|((with_reducible apply bt);rfl)|((with_reducible apply aD);rfl;rfl;rfl)|((with_reducible apply aR);rfl)|((with_reducible apply bN);first|rfl|simp)|((with_reducible apply fA);rfl;intro _)|((with_reducible apply aB);rfl;(first|rfl|simp);intro _)|(refine aI (by kernel_rfl) (hC) ?_)|((with_reducible apply bV);rfl)|(with_reducible intro _))
   all_goals
    refine .pure (by simp) ?_
    rw [done (.inr z)]
    simp only [fW,jj,AV.v.injEq,Value.bool.injEq] at *
    grind
 ·have q1 : decide ((k : Int) < vl.length) = false:=by simp;omega
  repeat' (first|(refine aB (n:=vl.length) rfl hlen fun _=>?_)|(with_reducible first|apply aG|apply ar|refine And.intro True.intro ?_)|((with_reducible first|apply aF|apply eE|apply bW);rfl;rfl)|((with_reducible apply aP);rfl;rfl;first|assumption|(unfold inI;omega))|((with_reducible apply aE);rfl)|((with_reducible apply ax);rfl)|((with_reducible apply ak);rfl;first|rfl|assumption)|((with_reducible apply ag);rfl;first|rfl|assumption)|((with_reducible apply aA);rfl;first|rfl|assumption)|((with_reducible apply ay);rfl;first|rfl|assumption)|((with_reducible apply aC);rfl)|((with_reducible apply bt);rfl)|((with_reducible apply aD);rfl;rfl;rfl)|((with_reducible apply aR);rfl)|((with_reducible apply bN);first|rfl|simp)|((with_reducible apply fA);rfl;intro _)|((with_reducible apply aB);rfl;(first|rfl|simp);intro _)|(refine aI (by kernel_rfl) (hC) ?_)|((with_reducible apply bV);rfl)|(with_reducible intro _))
  all_goals
   refine .pure (by simp) ?_
   rw [done (.inl q)]
   simp only [fW,jj,AV.v.injEq,Value.bool.injEq] at *
   grind
end Go.Proofs.YtfageokhpklkbaaGreatDoor

