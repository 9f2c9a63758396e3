/-
 Custom properties checked: by either way.
 No conditions: contracts.
-/
import Derived.Test.YtfageokhpklkbaaGreatDoorS2
set_option linter.unusedVariables false
set_option linter.unusedSimpArgs false
namespace Go.Proofs.YtfageokhpklkbaaGreatDoor
open Go Go.Aw Go.Nst
set_option maxRecDepth 100000
def kO (c : Cu) : Bool:=decide (fa c.value = 0) && !bT c.value && decide (zVs c.value ≤ 2000)
def eN (l : List Cu) : Int:=if l.length ≤ 64 ∧ dx l = true ∧ l.all kO = true then 0 else 8

set_option maxHeartbeats 4000000 in
theorem Be (l : List Cu) (hl : l.length < 2 ^ 40) (hz : ∀ c ∈ l,zVs c.value < 2 ^ 39) : Con Tryz.prog 40 [.sl 2 (aq l)] (int (eN l)):=by
 refine (V40 _).gives (by simp [bG]) (by simp) ?_
 unfold W40
 have hlen : (aq l).length = l.length:=by simp [aq]
 refine aB (n:=l.length) rfl hlen fun _=>?_
 by_cases h1 : l.length ≤ 64
 case neg =>
  have g1 : decide ((64 : Int) < l.length) = true:=by simp;omega
  repeat' (first|(with_reducible first|apply aG|apply ar|refine And.intro True.intro ?_)|((with_reducible first|apply aF|apply bW|apply bE);rfl;rfl)|((with_reducible apply aP);rfl;rfl;first|assumption|(unfold inI;omega))|((with_reducible apply bF);rfl)|((with_reducible apply aE);rfl)|((with_reducible apply ax);rfl)|((with_reducible apply ak);rfl;first|rfl|assumption)|((with_reducible apply ag);rfl;first|rfl|assumption)|((with_reducible apply aA);rfl;first|rfl|assumption)|((with_reducible apply ay);rfl;first|rfl|assumption)|((with_reducible apply aC);rfl)|((with_reducible apply aD);rfl;rfl;rfl)|((with_reducible apply aY);rfl;first|rfl|simp)|((with_reducible apply bN);first|rfl|simp)|((with_reducible apply aZ);rfl;rfl;rfl;rfl;(first|exact Nat.le_refl _|simp);(first|rfl|simp);(first|rfl|simp))|((with_reducible apply aB);rfl;(first|rfl|simp);intro _)|(with_reducible intro _))
  exact .pure (by simp) (by unfold eN;rw [if_neg (by omega)])
 have g1 : decide ((64 : Int) < l.length) = false:=by simp;omega
 have hN:=ov l hl
 cases h2 : dx l with
 | false =>
   rw [h2] at hN
   repeat' (first|(with_reducible first|apply aG|apply ar|refine And.intro True.intro ?_)|((with_reducible first|apply aF|apply bW|apply bE);rfl;rfl)|((with_reducible apply aP);rfl;rfl;first|assumption|(unfold inI;omega))|((with_reducible apply bF);rfl)|((with_reducible apply aE);rfl)|((with_reducible apply ax);rfl)|((with_reducible apply ak);rfl;first|rfl|assumption)|((with_reducible apply ag);rfl;first|rfl|assumption)|((with_reducible apply aA);rfl;first|rfl|assumption)|((with_reducible apply ay);rfl;first|rfl|assumption)|((with_reducible apply aC);rfl)|((with_reducible apply aD);rfl;rfl;rfl)|((with_reducible apply aY);rfl;first|rfl|simp)|((with_reducible apply bN);first|rfl|simp)|((with_reducible apply aZ);rfl;rfl;rfl;rfl;(first|exact Nat.le_refl _|simp);(first|rfl|simp);(first|rfl|simp))|((with_reducible apply aB);rfl;(first|rfl|simp);intro _)|(refine aI (by kernel_rfl) (hN) ?_)|(with_reducible intro _))
   exact .pure (by simp) (by unfold eN;rw [if_neg (by simp [h2])])
 | true =>
 rw [h2] at hN
 repeat' (first|(refine aB (n:=l.length) rfl hlen fun _=>?_)|(with_reducible first|apply aG|apply ar|refine And.intro True.intro ?_)|((with_reducible first|apply aF|apply bW|apply bE);rfl;rfl)|((with_reducible apply aP);rfl;rfl;first|assumption|(unfold inI;omega))|((with_reducible apply bF);rfl)|((with_reducible apply aE);rfl)|((with_reducible apply ax);rfl)|((with_reducible apply ak);rfl;first|rfl|assumption)|((with_reducible apply ag);rfl;first|rfl|assumption)|((with_reducible apply aA);rfl;first|rfl|assumption)|((with_reducible apply ay);rfl;first|rfl|assumption)|((with_reducible apply aC);rfl)|((with_reducible apply aD);rfl;rfl;rfl)|((with_reducible apply aY);rfl;first|rfl|simp)|((with_reducible apply bN);first|rfl|simp)|((with_reducible apply aZ);rfl;rfl;rfl;rfl;(first|exact Nat.le_refl _|simp);(first|rfl|simp);(first|rfl|simp))|((with_reducible apply aB);rfl;(first|rfl|simp);intro _)|(refine aI (by kernel_rfl) (hN) ?_)|(with_reducible intro _))
 refine a7 (α:=Nat) (fun k=>k ≤ l.length ∧ ∀ i c,i < k → l[i]? = some c → kO c = true) (fun k=>[int k]) (fun _=>[]) (fun k=>l.length - k) 0 ⟨by omega,fun i c h=>by omega⟩ (Wk.refl _ _ _ (by simp)) ?_
 rintro k ⟨hk,hall⟩
 refine aF rfl rfl ?_
 rcases Nat.lt_or_ge k l.length with q|q
 ·obtain ⟨⟨s,vs⟩,hs⟩ : ∃ x,l[k]? = some x:=⟨l[k],List.getElem?_eq_getElem q⟩
  have q1 : decide ((k : Int) < l.length) = true:=by simpa using q
  have hin : inI ((k : Int) + 1):=by unfold inI;omega
  have hzv : zVs vs < 2 ^ 39:=hz _ (List.mem_of_getElem? hs)
  have c1:=m4 vs (by omega)
  have c2:=IG vs hzv
  have c3:=m0 vs hzv
  have hb : kO ⟨s,vs⟩ = (!(!decide (fa vs = 0)) && !bT vs && !decide ((2000 : Int) < (zVs vs : Nat))):=by
   unfold kO
   simp only [Bool.not_not]
   congr 1
   by_cases z : zVs vs ≤ 2000
   ·simp [z];omega
   ·simp [z];omega
  have bad : kO ⟨s,vs⟩ = false → eN l = 8:=fun e=>by
   unfold eN
   rw [if_neg]
   rintro ⟨_,_,h⟩
   rw [List.all_eq_true] at h
   rw [h _ (List.mem_of_getElem? hs)] at e
   cases e
  cases g2 : (!decide (fa vs = 0)) <;> cases g3 : bT vs <;> cases g4 : decide ((2000 : Int) < (zVs vs : Nat))
  all_goals
   rw [g2,g3,g4] at hb
   rw [g3] at c2
   repeat' (first|(with_reducible first|apply aG|apply ar|refine And.intro True.intro ?_)|((with_reducible first|apply aF|apply bW|apply bE);rfl;rfl)|((with_reducible apply aP);rfl;rfl;first|assumption|(unfold inI;omega))|((with_reducible apply bF);rfl)|((with_reducible apply aE);rfl)|((with_reducible apply ax);rfl)|((with_reducible apply ak);rfl;first|rfl|assumption)|((with_reducible apply ag);rfl;first|rfl|assumption)|((with_reducible apply aA);rfl;first|rfl|assumption)|((with_reducible apply ay);rfl;first|rfl|assumption)|((with_reducible apply aC);rfl)|((with_reducible apply aD);rfl;rfl;rfl)|((with_reducible apply aY);rfl;first|rfl|simp)|((with_reducible apply bN);first|rfl|simp)|((with_reducible apply aZ);rfl;rfl;rfl;rfl;(first|exact Nat.le_refl _|simp);(first|rfl|simp);(first|rfl|simp))|((with_reducible apply aB);rfl;(first|rfl|simp);intro _)|(refine aI (by kernel_rfl) (c1) ?_)|(refine aI (by kernel_rfl) (c2) ?_)|(refine aI (by kernel_rfl) (c3) ?_)|(refine bx (f:=bX) rfl rfl rfl hs ?_)|(refine aY rfl (by simp [bX]) ?_)|(refine aZ (cs:=[.str s,.sl 6 (aV vs)]) rfl rfl rfl rfl (Nat.le_refl _) rfl rfl ?_)|(with_reducible intro _))
  all_goals first
   | (refine .pure (by simp) ?_
      rw [bad hb];done)
   | (refine ⟨k + 1,⟨q,fun i c hi he=>?_⟩, ?_,by omega⟩
      ·rcases Nat.lt_or_ge i k with z|z
       ·exact hall i c z he
       ·obtain rfl : i = k:=by omega
        rw [hs] at he
        cases he
        exact hb
      ·first
        | exact Wk.refl _ _ _ (by simp)
        | exact Wk.back (M:=0) (by simp) (by simp) rfl rfl (by simp [dg]) (by simp [Bd])
        | exact Wk.le (by simp) (by simp))
 ·have hk : k = l.length:=by omega
  subst hk
  have q1 : decide ((l.length : Int) < l.length) = false:=by simp
  repeat' (first|(with_reducible first|apply aG|apply ar|refine And.intro True.intro ?_)|((with_reducible first|apply aF|apply bW|apply bE);rfl;rfl)|((with_reducible apply aP);rfl;rfl;first|assumption|(unfold inI;omega))|((with_reducible apply bF);rfl)|((with_reducible apply aE);rfl)|((with_reducible apply ax);rfl)|((with_reducible apply ak);rfl;first|rfl|assumption)|((with_reducible apply ag);rfl;first|rfl|assumption)|((with_reducible apply aA);rfl;first|rfl|assumption)|((with_reducible apply ay);rfl;first|rfl|assumption)|((with_reducible apply aC);rfl)|((with_reducible apply aD);rfl;rfl;rfl)|((with_reducible apply aY);rfl;first|rfl|simp)|((with_reducible apply bN);first|rfl|simp)|((with_reducible apply aZ);rfl;rfl;rfl;rfl;(first|exact Nat.le_refl _|simp);(first|rfl|simp);(first|rfl|simp))|((with_reducible apply aB);rfl;(first|rfl|simp);intro _)|(with_reducible intro _))
  refine .pure (by simp) ?_
  unfold eN
  rw [if_pos]
  refine ⟨h1,h2, ?_⟩
  rw [List.all_eq_true]
  intro c hc
  obtain ⟨i,hi⟩:=List.getElem?_of_mem hc
  exact hall i c (List.getElem?_eq_some_iff.1 hi).1 hi

set_option maxHeartbeats 4000000 in
theorem xR (l : List Cu) (hl : l.length < 2 ^ 40) (hz : ∀ c ∈ l,zVs c.value < 2 ^ 39) : Con Tryz.prog 36 [.sl 2 (aq l)] (int (eN l)):=by
 refine (V36 _).gives (by simp [bG]) (by simp) ?_
 unfold W36
 have hlen : (aq l).length = l.length:=by simp [aq]
 refine aB (n:=l.length) rfl hlen fun _=>?_
 by_cases h1 : l.length ≤ 64
 case neg =>
  have g1 : decide ((64 : Int) < l.length) = true:=by simp;omega
  repeat' (first|(with_reducible first|apply aG|apply ar|refine And.intro True.intro ?_)|((with_reducible first|apply aF|apply bW|apply bE);rfl;rfl)|((with_reducible apply aP);rfl;rfl;first|assumption|(unfold inI;omega))|((with_reducible apply bF);rfl)|((with_reducible apply aE);rfl)|((with_reducible apply ax);rfl)|((with_reducible apply ak);rfl;first|rfl|assumption)|((with_reducible apply ag);rfl;first|rfl|assumption)|((with_reducible apply aA);rfl;first|rfl|assumption)|((with_reducible apply ay);rfl;first|rfl|assumption)|((with_reducible apply bt);rfl)|((with_reducible apply aR);rfl)|((with_reducible apply aB);rfl;(first|rfl|simp);intro _)|(with_reducible intro _))
  exact .pure (by simp) (by unfold eN;rw [if_neg (by omega)])
 have g1 : decide ((64 : Int) < l.length) = false:=by simp;omega
 have hN:=Bl l hl
 cases h2 : dx l with
 | false =>
   rw [h2] at hN
   repeat' (first|(with_reducible first|apply aG|apply ar|refine And.intro True.intro ?_)|((with_reducible first|apply aF|apply bW|apply bE);rfl;rfl)|((with_reducible apply aP);rfl;rfl;first|assumption|(unfold inI;omega))|((with_reducible apply bF);rfl)|((with_reducible apply aE);rfl)|((with_reducible apply ax);rfl)|((with_reducible apply ak);rfl;first|rfl|assumption)|((with_reducible apply ag);rfl;first|rfl|assumption)|((with_reducible apply aA);rfl;first|rfl|assumption)|((with_reducible apply ay);rfl;first|rfl|assumption)|((with_reducible apply bt);rfl)|((with_reducible apply aR);rfl)|((with_reducible apply aB);rfl;(first|rfl|simp);intro _)|(refine aI (by kernel_rfl) (hN) ?_)|(with_reducible intro _))
   exact .pure (by simp) (by unfold eN;rw [if_neg (by simp [h2])])
 | true =>
 rw [h2] at hN
 repeat' (first|(refine aB (n:=l.length) rfl hlen fun _=>?_)|(with_reducible first|apply aG|apply ar|refine And.intro True.intro ?_)|((with_reducible first|apply aF|apply bW|apply bE);rfl;rfl)|((with_reducible apply aP);rfl;rfl;first|assumption|(unfold inI;omega))|((with_reducible apply bF);rfl)|((with_reducible apply aE);rfl)|((with_reducible apply ax);rfl)|((with_reducible apply ak);rfl;first|rfl|assumption)|((with_reducible apply ag);rfl;first|rfl|assumption)|((with_reducible apply aA);rfl;first|rfl|assumption)|((with_reducible apply ay);rfl;first|rfl|assumption)|((with_reducible apply bt);rfl)|((with_reducible apply aR);rfl)|((with_reducible apply aB);rfl;(first|rfl|simp);intro _)|(refine aI (by kernel_rfl) (hN) ?_)|(with_reducible intro _))
 refine a7 (α:=Nat) (fun k=>k ≤ l.length ∧ ∀ i c,i < k → l[i]? = some c → kO c = true) (fun k=>[int k]) (fun _=>[]) (fun k=>l.length - k) 0 ⟨by omega,fun i c h=>by omega⟩ (Wk.refl _ _ _ (by simp)) ?_
 rintro k ⟨hk,hall⟩
 refine aB (n:=l.length) rfl hlen fun _=>?_
 refine aF rfl rfl ?_
 rcases Nat.lt_or_ge k l.length with q|q
 ·obtain ⟨⟨s,vs⟩,hs⟩ : ∃ x,l[k]? = some x:=⟨l[k],List.getElem?_eq_getElem q⟩
  have q1 : decide ((k : Int) < l.length) = true:=by simpa using q
  have hin : inI ((k : Int) + 1):=by unfold inI;omega
  have hzv : zVs vs < 2 ^ 39:=hz _ (List.mem_of_getElem? hs)
  have c1:=xS vs (by omega)
  have c2:=Gd vs hzv
  have c3:=F7 vs hzv
  have hb : kO ⟨s,vs⟩ = (!(!decide (fa vs = 0)) && !bT vs && !decide ((2000 : Int) < (zVs vs : Nat))):=by
   unfold kO
   simp only [Bool.not_not]
   congr 1
   by_cases z : zVs vs ≤ 2000
   ·simp [z];omega
   ·simp [z];omega
  have bad : kO ⟨s,vs⟩ = false → eN l = 8:=fun e=>by
   unfold eN
   rw [if_neg]
   rintro ⟨_,_,h⟩
   rw [List.all_eq_true] at h
   rw [h _ (List.mem_of_getElem? hs)] at e
   cases e
  cases g2 : (!decide (fa vs = 0)) <;> cases g3 : bT vs <;> cases g4 : decide ((2000 : Int) < (zVs vs : Nat))
  all_goals
   rw [g2,g3,g4] at hb
   rw [g3] at c2
   repeat' (first|(with_reducible first|apply aG|apply ar|refine And.intro True.intro ?_)|((with_reducible first|apply aF|apply bW|apply bE);rfl;rfl)|((with_reducible apply aP);rfl;rfl;first|assumption|(unfold inI;omega))|((with_reducible apply bF);rfl)|((with_reducible apply aE);rfl)|((with_reducible apply ax);rfl)|((with_reducible apply ak);rfl;first|rfl|assumption)|((with_reducible apply ag);rfl;first|rfl|assumption)|((with_reducible apply aA);rfl;first|rfl|assumption)|((with_reducible apply ay);rfl;first|rfl|assumption)|((with_reducible apply bt);rfl)|((with_reducible apply aR);rfl)|((with_reducible apply aB);rfl;(first|rfl|simp);intro _)|(refine aI (by kernel_rfl) (c1) ?_)|(refine aI (by kernel_rfl) (c2) ?_)|(refine aI (by kernel_rfl) (c3) ?_)|(refine bx (f:=bX) rfl rfl rfl hs ?_)|(with_reducible intro _))
  all_goals first
   | (refine .pure (by simp) ?_
      rw [bad hb];done)
   | (refine ⟨k + 1,⟨q,fun i c hi he=>?_⟩, ?_,by omega⟩
      ·rcases Nat.lt_or_ge i k with z|z
       ·exact hall i c z he
       ·obtain rfl : i = k:=by omega
        rw [hs] at he
        cases he
        exact hb
      ·first
        | exact Wk.refl _ _ _ (by simp)
        | exact Wk.back (M:=0) (by simp) (by simp) rfl rfl (by simp [dg]) (by simp [Bd])
        | exact Wk.le (by simp) (by simp))
 ·have hk : k = l.length:=by omega
  subst hk
  have q1 : decide ((l.length : Int) < l.length) = false:=by simp
  repeat' (first|(with_reducible first|apply aG|apply ar|refine And.intro True.intro ?_)|((with_reducible first|apply aF|apply bW|apply bE);rfl;rfl)|((with_reducible apply aP);rfl;rfl;first|assumption|(unfold inI;omega))|((with_reducible apply bF);rfl)|((with_reducible apply aE);rfl)|((with_reducible apply ax);rfl)|((with_reducible apply ak);rfl;first|rfl|assumption)|((with_reducible apply ag);rfl;first|rfl|assumption)|((with_reducible apply aA);rfl;first|rfl|assumption)|((with_reducible apply ay);rfl;first|rfl|assumption)|((with_reducible apply bt);rfl)|((with_reducible apply aR);rfl)|((with_reducible apply aB);rfl;(first|rfl|simp);intro _)|(with_reducible intro _))
  refine .pure (by simp) ?_
  unfold eN
  rw [if_pos]
  refine ⟨h1,h2, ?_⟩
  rw [List.all_eq_true]
  intro c hc
  obtain ⟨i,hi⟩:=List.getElem?_of_mem hc
  exact hall i c (List.getElem?_eq_some_iff.1 hi).1 hi
end Go.Proofs.YtfageokhpklkbaaGreatDoor

