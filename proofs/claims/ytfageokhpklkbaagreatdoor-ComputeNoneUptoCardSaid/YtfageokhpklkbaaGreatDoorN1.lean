/-
  Values: how deep they are,how many tokens they have,their shape: the code. Values: checked by either way. Values: their tokens,their size;checked by the reference.
  No conditions.
-/
import Derived.Test.YtfageokhpklkbaaGreatDoorWNst
import Derived.Test.YtfageokhpklkbaaGreatDoorNst
import Derived.Test.YtfageokhpklkbaaGreatDoorL5
set_option linter.unusedVariables false
set_option linter.unusedSimpArgs false
section
namespace Go.Proofs.YtfageokhpklkbaaGreatDoor
open Go Go.Aw Go.Nst
set_option maxRecDepth 100000
variable [Laid]
theorem rB (k : Int) : Con Tryz.prog 151 [u1 k] (u1 (dr k)):=by
 refine (NU _).gives (by simp) (by simp) ?_
 unfold KC
 rcases (by omega : k = 2 ∨ k = 19 ∨ k = 21 ∨ k = 23 ∨ (k ≠ 2 ∧ k ≠ 19 ∧ k ≠ 21 ∧ k ≠ 23)) with rfl|rfl|rfl|rfl|⟨h1,h2,h3,h4⟩
 ·simp;exact .pure (by simp) rfl
 ·simp;exact .pure (by simp) rfl
 ·simp;exact .pure (by simp) rfl
 ·simp;exact .pure (by simp) rfl
 ·simp [h1,h2,h3,h4];exact .pure (by simp) (by simp [dr,h1,h2,h3,h4])
theorem gw (k : Int) : Con Tryz.prog 92 [u1 k] (u1 (dr k)):=by
 refine (V92 _).gives (by simp) (by simp) ?_
 unfold W92
 rcases (by omega : k = 2 ∨ k = 19 ∨ k = 21 ∨ k = 23 ∨ (k ≠ 2 ∧ k ≠ 19 ∧ k ≠ 21 ∧ k ≠ 23)) with rfl|rfl|rfl|rfl|⟨h1,h2,h3,h4⟩
 ·simp;exact .pure (by simp) rfl
 ·simp;exact .pure (by simp) rfl
 ·simp;exact .pure (by simp) rfl
 ·simp;exact .pure (by simp) rfl
 ·simp [h1,h2,h3,h4];exact .pure (by simp) (by simp [dr,h1,h2,h3,h4])
omit [Laid] in
theorem nX {x y : AV} {a b : Int} {K : AV → Prop} (ex : x = int a) (ey : y = int b) (q : K (int (max a b))) : fw x y K:=by
 subst ex;subst ey
 refine ⟨rfl, ?_⟩
 rw [show (if a < b then b else a) = max a b by omega]
 exact q
def pC (c : Int) (l : List Vl) : AV:=.agg [int (cX l),int (dY l),bool (dX c l)]
def LkP (n : Nat) : Prop:=∀ (l : List Vl) (c : Int),zVs l ≤ n → Con Tryz.prog 105 [.sl 6 (aV l),u1 c] (pC c l)
set_option maxHeartbeats 4000000 in
theorem JI {n : Nat} (hn : n < 2 ^ 40) (hP : ∀ n',n' < n → LkP n') : LkP n:=by
 intro l c hz
 refine (NJ _ _).gives (by simp [dC]) (by simp [pC]) ?_
 unfold Ks
 have hlen : (aV l).length = l.length:=by simp [bf]
 have hll:=eW l
 refine bN (by simp) ?_
 refine bN (by simp) ?_
 refine aB (n:=l.length) rfl hlen fun _=>?_
 refine a7 (α:=Nat) (fun k=>k ≤ l.length) (fun k=>[int k]) (fun k=>[.blk ⟨196,[int 0,int 0,ff],true⟩,.blk ⟨196,[int (cX (l.take k)),int (dY (l.take k)),bool (dX c (l.take k))],true⟩]) (fun k=>l.length - k) 0 (by simp) (by simpa [cX,dY,dX] using Wk.refl _ _ _ (by simp)) ?_
 intro k hk
 refine aF rfl rfl ?_
 rcases Nat.lt_or_ge k l.length with q|q
 ·obtain ⟨⟨kd,tx,nu,un',fl,l2⟩,hx⟩ : ∃ x,l[k]? = some x:=⟨l[k],List.getElem?_eq_getElem q⟩
  have hin : inI ((k : Int) + 1):=by unfold inI;omega
  have hzv:=eX (List.mem_of_getElem? hx)
  rw [zV] at hzv
  have hrec:=hP (zVs l2) (by omega) l2 (dr kd) (Nat.le_refl _)
  have d1:=pT hx
  have d2:=A9 hx
  have d3:=q9 c hx
  rw [pf] at d1
  rw [qg] at d2
  rw [A3] at d3
  have b1:=iW (l.take k)
  have b2:=ju (l.take k)
  have b0:=fQ l k
  have b3:=iW l2
  have b4:=ju l2
  have h2len : (aV l2).length = l2.length:=by simp [bf]
  obtain ⟨D,hD⟩ : ∃ D,cX (l.take k) = D:=⟨_,rfl⟩
  obtain ⟨C,hC⟩ : ∃ C,dY (l.take k) = C:=⟨_,rfl⟩
  obtain ⟨B,hB⟩ : ∃ B,dX c (l.take k) = B:=⟨_,rfl⟩
  obtain ⟨D2,hD2⟩ : ∃ D,cX l2 = D:=⟨_,rfl⟩
  obtain ⟨C2,hC2⟩ : ∃ C,dY l2 = C:=⟨_,rfl⟩
  obtain ⟨B2,hB2⟩ : ∃ B,dX (dr kd) l2 = B:=⟨_,rfl⟩
  rw [pC,hD2,hC2,hB2] at hrec
  rw [hD] at d1 b1 ⊢
  rw [hC] at d2 b2 ⊢
  rw [hB] at d3 ⊢
  rw [hD2] at d1 b3
  rw [hC2] at d2 b4
  rw [hB2] at d3
  have i1 : inI ((C : Int) + 1):=by unfold inI;omega
  have i2 : inI ((D2 : Int) + 1):=by unfold inI;omega
  have i3 : inI ((C : Int) + 1 + C2):=by unfold inI;omega
  have i4 : inI ((C : Int) + 1 + C2 + 1):=by unfold inI;omega
  have he : (l2 = []) ↔ l2.length = 0:=List.length_eq_zero_iff.symm
  refine ak rfl (by simpa using q) ?_
  refine aG (bx rfl (bf l) rfl hx ?_)
  refine aY rfl (by simp [dc]) ?_
  refine bN rfl ?_
  rw [cy]
  refine aZ (cs:=[u1 kd,.str tx,int nu,.str un',bool fl,.sl 6 (aV l2)]) rfl rfl rfl rfl (Nat.le_refl _) rfl rfl ?_
  by_cases hc0 : dr kd = 0
  ·have g0 : decide (dr kd = 0) = true:=by simpa using hc0
   rw [if_pos hc0] at d1 d2 d3
   repeat' (first|(with_reducible first|apply aG|apply ar|refine And.intro True.intro ?_)|((with_reducible first|apply aF|apply bW|apply bR|apply bE);rfl;rfl)|((with_reducible apply aP);rfl;rfl;first|assumption|(unfold inI;omega))|((with_reducible apply aE);rfl)|((with_reducible apply ax);rfl)|((with_reducible apply ak);rfl;first|rfl|assumption)|((with_reducible apply ag);rfl;first|rfl|assumption)|((with_reducible apply aA);rfl;first|rfl|assumption)|((with_reducible apply ay);rfl;first|rfl|assumption)|((with_reducible apply cZ);rfl)|((with_reducible apply cD);rfl)|((with_reducible apply aC);rfl)|((with_reducible apply aD);rfl;rfl;rfl)|((with_reducible apply ba);rfl;rfl;first|exact Nat.le_refl _|exact Nat.le_of_ble_eq_true rfl)|((with_reducible apply aY);rfl;first|rfl|simp)|((with_reducible apply bN);first|rfl|simp)|((with_reducible apply aZ);rfl;rfl;rfl;rfl;(first|exact Nat.le_refl _|simp);(first|rfl|simp);(first|rfl|simp))|((with_reducible apply aB);rfl;(first|rfl|simp);intro _)|((with_reducible apply br);rfl)|(refine aI (by kernel_rfl) (rB kd) ?_)|((with_reducible apply cA);rfl)|((with_reducible apply bV);rfl)|(with_reducible intro _))
   all_goals
    refine ⟨k + 1,q,Wk.back (M:=2) (by simp) (by simp) ?_ rfl (by simp [dg];exact ⟨dV _ _ (by simp),dV _ _ (by simp)⟩) (by simp [Bd]),by omega⟩
    rw [d1,d2,d3]
    simp [cx]
    grind
  ·have g0 : decide (dr kd = 0) = false:=by simpa using hc0
   rw [if_neg hc0] at d1 d2 d3
   repeat' (first|((with_reducible apply nX);rfl;rfl)|(with_reducible first|apply aG|apply ar|refine And.intro True.intro ?_)|((with_reducible first|apply aF|apply bW|apply bR|apply bE);rfl;rfl)|((with_reducible apply aP);rfl;rfl;first|assumption|(unfold inI;omega))|((with_reducible apply aE);rfl)|((with_reducible apply ax);rfl)|((with_reducible apply ak);rfl;first|rfl|assumption)|((with_reducible apply ag);rfl;first|rfl|assumption)|((with_reducible apply aA);rfl;first|rfl|assumption)|((with_reducible apply ay);rfl;first|rfl|assumption)|((with_reducible apply cZ);rfl)|((with_reducible apply cD);rfl)|((with_reducible apply aC);rfl)|((with_reducible apply aD);rfl;rfl;rfl)|((with_reducible apply ba);rfl;rfl;first|exact Nat.le_refl _|exact Nat.le_of_ble_eq_true rfl)|((with_reducible apply aY);rfl;first|rfl|simp)|((with_reducible apply bN);first|rfl|simp)|((with_reducible apply aZ);rfl;rfl;rfl;rfl;(first|exact Nat.le_refl _|simp);(first|rfl|simp);(first|rfl|simp))|((with_reducible apply aB);rfl;(first|rfl|simp);intro _)|((with_reducible apply br);rfl)|(refine aI (by kernel_rfl) (rB kd) ?_)|(refine aI (by kernel_rfl) (hrec) ?_)|((with_reducible apply cA);rfl)|((with_reducible apply bV);rfl)|(with_reducible intro _))
   all_goals
    refine ⟨k + 1,q,Wk.back (M:=2) (by simp) (by simp) ?_ rfl (by simp [dg];exact ⟨dV _ _ (by simp),dV _ _ (by simp)⟩) (by simp [Bd]),by omega⟩
    rw [d1,d2,d3]
    simp [cx]
    grind
 ·have hk : k = l.length:=by omega
  subst hk
  rw [List.take_length]
  refine ag rfl (by simp) ?_
  refine ba rfl rfl (by simp) ?_
  refine aZ (cs:=[int (cX l),int (dY l),bool (dX c l)]) rfl rfl rfl rfl (by simp) (by simp) (by simp) ?_
  refine ba rfl rfl (by simp) ?_
  exact .pure (by simp) (by simp [pC])
end Go.Proofs.YtfageokhpklkbaaGreatDoor
end

section
namespace Go.Proofs.YtfageokhpklkbaaGreatDoor
open Go Go.Aw Go.Nst
set_option maxRecDepth 100000
variable [Laid]
theorem LO : ∀ n,n < 2 ^ 40 → LkP n:=by
 intro n
 induction n using Nat.strongRecOn with
 | _ n ih=>exact fun hn=>JI hn fun n' h=>ih n' h (by omega)
theorem Gb (l : List Vl) (c : Int) (hz : zVs l < 2 ^ 40) : Con Tryz.prog 105 [.sl 6 (aV l),u1 c] (pC c l):=LO _ hz l c (Nat.le_refl _)
theorem m4 (l : List Vl) (hz : zVs l < 2 ^ 40) : Con Tryz.prog 65 [.sl 6 (aV l)] (int (fa l)):=by
 refine (V65 _).gives (by simp [dC]) (by simp) ?_
 unfold W65
 have hL:=Gb l 0 hz
 rw [pC] at hL
 repeat' (first|(with_reducible refine And.intro True.intro ?_)|((with_reducible apply bW);rfl;rfl)|((with_reducible apply aC);rfl)|((with_reducible apply aD);rfl;rfl;rfl)|((with_reducible apply bN);first|rfl|simp)|((with_reducible apply aZ);rfl;rfl;rfl;rfl;(first|exact Nat.le_refl _|simp);(first|rfl|simp);(first|rfl|simp))|(refine aI (by kernel_rfl) (hL) ?_)|((with_reducible apply cA);rfl)|(with_reducible intro _))
 all_goals
  refine .pure (by simp) ?_
  simp only [AV.v.injEq,Value.int.injEq,true_and]
  simp [cx] at *
  simp [fa, *]
  try omega
/-! ### The reference -/
def DpP (n : Nat) : Prop:=∀ (l : List Vl),zVs l ≤ n → Con Tryz.prog 54 [.sl 6 (aV l)] (int (cX l))
theorem I1 {n : Nat} (hn : n < 2 ^ 40) (hP : ∀ n',n' < n → DpP n') : DpP n:=by
 intro l hz
 refine (V54 _).gives (by simp [dC]) (by simp) ?_
 unfold W54
 have hlen : (aV l).length = l.length:=by simp [bf]
 have hll:=eW l
 refine a7 (α:=Nat) (fun k=>k ≤ l.length) (fun k=>[int (cX (l.take k)),int k]) (fun _=>[]) (fun k=>l.length - k) 0 (by simp) (by simpa [cX] using Wk.refl _ _ _ (by simp)) ?_
 intro k hk
 refine aB (n:=l.length) rfl hlen fun _=>?_
 refine aF rfl rfl ?_
 rcases Nat.lt_or_ge k l.length with q|q
 ·obtain ⟨⟨kd,tx,nu,un',fl,l2⟩,hx⟩ : ∃ x,l[k]? = some x:=⟨l[k],List.getElem?_eq_getElem q⟩
  have hin : inI ((k : Int) + 1):=by unfold inI;omega
  have hzv:=eX (List.mem_of_getElem? hx)
  rw [zV] at hzv
  have h2len : (aV l2).length = l2.length:=by simp [bf]
  have hrec:=hP (zVs l2) (by omega) l2 (Nat.le_refl _)
  have d1:=pT hx
  rw [pf] at d1
  have b1:=iW (l.take k)
  have b0:=fQ l k
  have b3:=iW l2
  have i1 : inI (1 + (cX l2 : Int)):=by unfold inI;omega
  refine ak rfl (by simpa using q) ?_
  by_cases hc0 : dr kd = 0
  ·have g0 : (!decide (dr kd = 0)) = false:=by simpa using hc0
   rw [if_pos hc0] at d1
   repeat' (first|((with_reducible apply nX);rfl;rfl)|(with_reducible first|apply aG|apply ar|refine And.intro True.intro ?_)|((with_reducible first|apply aF|apply bE);rfl;rfl)|((with_reducible apply aP);rfl;rfl;first|assumption|(unfold inI;omega))|((with_reducible apply ak);rfl;first|rfl|assumption)|((with_reducible apply ag);rfl;first|rfl|assumption)|((with_reducible apply bt);rfl)|((with_reducible apply aR);rfl)|((with_reducible apply aB);rfl;(first|rfl|simp);intro _)|(refine bx rfl (bf l) rfl hx ?_)|(refine aI (by kernel_rfl) (gw kd) ?_)|(refine aI (by kernel_rfl) (hrec) ?_)|(with_reducible intro _))
   refine ⟨k + 1,q,Wk.le (by simp) (by rw [d1];simp),by omega⟩
  ·have g0 : (!decide (dr kd = 0)) = true:=by simpa using hc0
   rw [if_neg hc0] at d1
   repeat' (first|((with_reducible apply nX);rfl;rfl)|(with_reducible first|apply aG|apply ar|refine And.intro True.intro ?_)|((with_reducible first|apply aF|apply bE);rfl;rfl)|((with_reducible apply aP);rfl;rfl;first|assumption|(unfold inI;omega))|((with_reducible apply ak);rfl;first|rfl|assumption)|((with_reducible apply ag);rfl;first|rfl|assumption)|((with_reducible apply bt);rfl)|((with_reducible apply aR);rfl)|((with_reducible apply aB);rfl;(first|rfl|simp);intro _)|(refine bx rfl (bf l) rfl hx ?_)|(refine aI (by kernel_rfl) (gw kd) ?_)|(refine aI (by kernel_rfl) (hrec) ?_)|(with_reducible intro _))
   refine ⟨k + 1,q,Wk.le (by simp) (by rw [d1];simp;omega),by omega⟩
 ·have hk : k = l.length:=by omega
  subst hk
  rw [List.take_length]
  refine ag rfl (by simp) ?_
  exact .pure (by simp) rfl
theorem vU (l : List Vl) (hz : zVs l < 2 ^ 40) : Con Tryz.prog 54 [.sl 6 (aV l)] (int (cX l)):=by
 have : ∀ n,n < 2 ^ 40 → DpP n:=by
  intro n
  induction n using Nat.strongRecOn with
  | _ n ih=>exact fun hn=>I1 hn fun n' h=>ih n' h (by omega)
 exact this _ hz l (Nat.le_refl _)
def ShP (n : Nat) : Prop:=∀ (l : List Vl) (c : Int),zVs l ≤ n → Con Tryz.prog 99 [.sl 6 (aV l),u1 c] (bool (!dX c l))
set_option maxHeartbeats 4000000 in
theorem Ke {n : Nat} (hn : n < 2 ^ 40) (hP : ∀ n',n' < n → ShP n') : ShP n:=by
 intro l c hz
 refine (V99 _ _).gives (by simp [dC]) (by simp) ?_
 unfold W99
 have hlen : (aV l).length = l.length:=by simp [bf]
 have hll:=eW l
 refine a7 (α:=Nat) (fun k=>k ≤ l.length ∧ dX c (l.take k) = false) (fun k=>[int k]) (fun _=>[]) (fun k=>l.length - k) 0 (by simp [dX]) (Wk.refl _ _ _ (by simp)) ?_
 rintro k ⟨hk,hbk⟩
 refine aB (n:=l.length) rfl hlen fun _=>?_
 refine aF rfl rfl ?_
 rcases Nat.lt_or_ge k l.length with q|q
 ·obtain ⟨⟨kd,tx,nu,un',fl,l2⟩,hx⟩ : ∃ x,l[k]? = some x:=⟨l[k],List.getElem?_eq_getElem q⟩
  have hin : inI ((k : Int) + 1):=by unfold inI;omega
  have hzv:=eX (List.mem_of_getElem? hx)
  rw [zV] at hzv
  have h2len : (aV l2).length = l2.length:=by simp [bf]
  have hrec:=hP (zVs l2) (by omega) l2 (dr kd) (Nat.le_refl _)
  have d3:=q9 c hx
  rw [A3,hbk,Bool.false_or] at d3
  have hall : dX c (l.take (k + 1)) = true → dX c l = true:=fun h=>by
   have:=kL c (l.take (k + 1)) (l.drop (k + 1))
   rw [List.take_append_drop,h] at this
   simpa using this
  have he : (l2 = []) ↔ l2.length = 0:=List.length_eq_zero_iff.symm
  refine ak rfl (by simpa using q) ?_
  by_cases hc0 : dr kd = 0
  ·have g0 : decide (dr kd = 0) = true:=by simpa using hc0
   rw [if_pos hc0] at d3
   repeat' (first|(with_reducible first|apply aG|apply ar|refine And.intro True.intro ?_)|((with_reducible first|apply aF|apply bW|apply bR|apply bE);rfl;rfl)|((with_reducible apply aP);rfl;rfl;first|assumption|(unfold inI;omega))|((with_reducible apply bF);rfl)|((with_reducible apply aE);rfl)|((with_reducible apply ax);rfl)|((with_reducible apply ak);rfl;first|rfl|assumption)|((with_reducible apply ag);rfl;first|rfl|assumption)|((with_reducible apply aA);rfl;first|rfl|assumption)|((with_reducible apply ay);rfl;first|rfl|assumption)|((with_reducible apply cZ);rfl)|((with_reducible apply td);rfl)|((with_reducible apply cD);rfl)|((with_reducible apply bt);rfl)|((with_reducible apply aR);rfl)|((with_reducible apply aB);rfl;(first|rfl|simp);intro _)|(refine bx rfl (bf l) rfl hx ?_)|(refine aI (by kernel_rfl) (gw kd) ?_)|(refine aI (by kernel_rfl) (hrec) ?_)|((with_reducible apply cA);rfl)|((with_reducible apply bV);rfl)|(with_reducible intro _))
   all_goals first
    | (refine ⟨k + 1,⟨q,by grind⟩,Wk.refl _ _ _ (by simp),by omega⟩;done)
    | (refine .pure (by simp) ?_;simp;refine hall ?_;grind)
  ·have g0 : decide (dr kd = 0) = false:=by simpa using hc0
   rw [if_neg hc0] at d3
   repeat' (first|(with_reducible first|apply aG|apply ar|refine And.intro True.intro ?_)|((with_reducible first|apply aF|apply bW|apply bR|apply bE);rfl;rfl)|((with_reducible apply aP);rfl;rfl;first|assumption|(unfold inI;omega))|((with_reducible apply bF);rfl)|((with_reducible apply aE);rfl)|((with_reducible apply ax);rfl)|((with_reducible apply ak);rfl;first|rfl|assumption)|((with_reducible apply ag);rfl;first|rfl|assumption)|((with_reducible apply aA);rfl;first|rfl|assumption)|((with_reducible apply ay);rfl;first|rfl|assumption)|((with_reducible apply cZ);rfl)|((with_reducible apply td);rfl)|((with_reducible apply cD);rfl)|((with_reducible apply bt);rfl)|((with_reducible apply aR);rfl)|((with_reducible apply aB);rfl;(first|rfl|simp);intro _)|(refine bx rfl (bf l) rfl hx ?_)|(refine aI (by kernel_rfl) (gw kd) ?_)|(refine aI (by kernel_rfl) (hrec) ?_)|((with_reducible apply cA);rfl)|((with_reducible apply bV);rfl)|(with_reducible intro _))
   all_goals first
    | (refine ⟨k + 1,⟨q,by grind⟩,Wk.refl _ _ _ (by simp),by omega⟩;done)
    | (refine .pure (by simp) ?_;simp;refine hall ?_;grind)
 ·have hk : k = l.length:=by omega
  subst hk
  rw [List.take_length] at hbk
  refine ag rfl (by simp) ?_
  exact .pure (by simp) (by simp [hbk])
theorem Bp (l : List Vl) (c : Int) (hz : zVs l < 2 ^ 40) : Con Tryz.prog 99 [.sl 6 (aV l),u1 c] (bool (!dX c l)):=by
 have : ∀ n,n < 2 ^ 40 → ShP n:=by
  intro n
  induction n using Nat.strongRecOn with
  | _ n ih=>exact fun hn=>Ke hn fun n' h=>ih n' h (by omega)
 exact this _ hz l c (Nat.le_refl _)
end Go.Proofs.YtfageokhpklkbaaGreatDoor
end

section
namespace Go.Proofs.YtfageokhpklkbaaGreatDoor
open Go Go.Aw Go.Nst
set_option maxRecDepth 100000
variable [Laid]
def TkP (n : Nat) : Prop:=∀ (l : List Vl),zVs l ≤ n → Con Tryz.prog 98 [.sl 6 (aV l)] (.sl 5 (cY l))
set_option maxHeartbeats 4000000 in
theorem Kk {n : Nat} (hn : n < 2 ^ 39) (hP : ∀ n',n' < n → TkP n') : TkP n:=by
 intro l hz
 refine (V98 _).gives (by simp [dC]) (by rw [Aw.Pure];exact iv l) ?_
 unfold W98
 have hlen : (aV l).length = l.length:=by simp [bf]
 have hll:=eW l
 refine a7 (α:=Nat) (fun k=>k ≤ l.length) (fun k=>[.sb 0 5 (cY (l.take k)),int k]) (fun k=>[.tok 101 5 (cY (l.take k)).length]) (fun k=>l.length - k) 0 (by simp) ?_ ?_
 ·have a:=Wk.nil (n:=0) (s:=[.v (.slice none 0 0),int 0]) (h:=[]) (by simp) 0 rfl
  have b:=Wk.tok (n:=0) (s:=[.emp,int 0]) (h:=[]) (by simp) 0 101 5 rfl
  simpa [cY] using a.trans b
 intro k hk
 refine aB (n:=l.length) rfl hlen fun _=>?_
 refine aF rfl rfl ?_
 rcases Nat.lt_or_ge k l.length with q|q
 ·obtain ⟨⟨kd,tx,nu,un',fl,l2⟩,hx⟩ : ∃ x,l[k]? = some x:=⟨l[k],List.getElem?_eq_getElem q⟩
  have hin : inI ((k : Int) + 1):=by unfold inI;omega
  have hzv:=eX (List.mem_of_getElem? hx)
  rw [zV] at hzv
  have hrec:=hP (zVs l2) (by omega) l2 (Nat.le_refl _)
  have d1:=yy hx
  rw [kC] at d1
  have b0:=fQ l k
  have b1:=ju (l.take k)
  have b2:=ju l2
  have t1:=jm (l.take k)
  have t2:=jm l2
  have pr:=iv (l.take (k + 1))
  obtain ⟨R,hR⟩ : ∃ R,cY (l.take k) = R:=⟨_,rfl⟩
  rw [hR] at d1 t1 ⊢
  obtain ⟨R2,hR2⟩ : ∃ R,cY l2 = R:=⟨_,rfl⟩
  have rok:=mv l2
  rw [hR2] at d1 t2 hrec rok
  refine ak rfl (by simpa using q) ?_
  refine aG (bx rfl (bf l) rfl hx ?_)
  rw [cy]
  refine bt rfl ?_
  refine mU rfl (by simp) ?_
  refine Ay (n:=1) (h':=[_,_]) (cs:=iP kd tx nu un' fl) rfl rfl rfl rfl rfl rfl ?_
  refine jg (h':=[_,_]) (id:=0) (k:=R.length) (base:=R) (rows:=[iP kd tx nu un' fl]) rfl rfl rfl ((xE rfl (Nat.le_refl _)).trans rfl) rfl (by unfold cT maxLen;simp;omega) rfl ?_
  by_cases hc0 : dr kd = 0
  ·have g0 : (!decide (dr kd = 0)) = false:=by simpa using hc0
   rw [if_pos hc0] at d1
   repeat' (first|(with_reducible first|apply aG|apply ar|refine And.intro True.intro ?_)|((with_reducible first|apply aF|apply bE);rfl;rfl)|((with_reducible apply aP);rfl;rfl;first|assumption|(unfold inI;omega))|((with_reducible apply ak);rfl;first|rfl|assumption)|((with_reducible apply ag);rfl;first|rfl|assumption)|((with_reducible apply bt);rfl)|((with_reducible apply aR);rfl)|((with_reducible apply aB);rfl;(first|rfl|simp);intro _)|((with_reducible apply br);rfl)|(refine bx rfl (bf l) rfl hx ?_)|(refine aI (by kernel_rfl) (gw kd) ?_)|(with_reducible intro _))
   refine ⟨k + 1,q, ?_,by omega⟩
   rw [d1] at pr ⊢
   exact Wk.back (n:=0) (M:=1) (by simp) (by simp) (by simp) rfl (by simp [dg]) (by
    have hb:=eM 1 (.sl 5 (R ++ [iP kd tx nu un' fl])) (by rw [Aw.Pure];exact pr)
    rw [Bd] at hb
    simp [Bd,hb])
  ·have g0 : (!decide (dr kd = 0)) = true:=by simpa using hc0
   rw [if_neg hc0] at d1
   repeat' (first|(with_reducible first|apply aG|apply ar|refine And.intro True.intro ?_)|((with_reducible first|apply aF|apply bE);rfl;rfl)|((with_reducible apply aP);rfl;rfl;first|assumption|(unfold inI;omega))|((with_reducible apply ak);rfl;first|rfl|assumption)|((with_reducible apply ag);rfl;first|rfl|assumption)|((with_reducible apply bt);rfl)|((with_reducible apply aR);rfl)|((with_reducible apply aB);rfl;(first|rfl|simp);intro _)|((with_reducible apply br);rfl)|(refine bx rfl (bf l) rfl hx ?_)|(refine aI (by kernel_rfl) (gw kd) ?_)|(refine aI (by kernel_rfl) (hrec) ?_)|(with_reducible intro _))
   refine jg (h':=[_,_]) (id:=0) (k:=R.length + 1) (base:=R ++ [iP kd tx nu un' fl]) (rows:=R2) rfl rfl (by simp) eU rok (by unfold cT maxLen;omega) rfl ?_
   repeat' (first|(with_reducible first|apply aG|apply ar|refine And.intro True.intro ?_)|((with_reducible first|apply aF|apply bE);rfl;rfl)|((with_reducible apply aP);rfl;rfl;first|assumption|(unfold inI;omega))|((with_reducible apply ak);rfl;first|rfl|assumption)|((with_reducible apply ag);rfl;first|rfl|assumption)|((with_reducible apply bt);rfl)|((with_reducible apply aR);rfl)|((with_reducible apply aB);rfl;(first|rfl|simp);intro _)|((with_reducible apply br);rfl)|(with_reducible intro _))
   refine Ay (n:=2) (h':=[_,_,_]) (cs:=iP (dr kd) [] 0 [] false) rfl rfl rfl rfl rfl rfl ?_
   refine jg (h':=[_,_,_]) (id:=0) (k:=R.length + 1 + R2.length) (base:=R ++ [iP kd tx nu un' fl] ++ R2) (rows:=[iP (dr kd) [] 0 [] false]) rfl rfl (by simp;omega) ((xE rfl (Nat.le_refl _)).trans rfl) rfl (by unfold cT maxLen;simp;omega) rfl ?_
   repeat' (first|(with_reducible first|apply aG|apply ar|refine And.intro True.intro ?_)|((with_reducible first|apply aF|apply bE);rfl;rfl)|((with_reducible apply aP);rfl;rfl;first|assumption|(unfold inI;omega))|((with_reducible apply ak);rfl;first|rfl|assumption)|((with_reducible apply ag);rfl;first|rfl|assumption)|((with_reducible apply bt);rfl)|((with_reducible apply aR);rfl)|((with_reducible apply aB);rfl;(first|rfl|simp);intro _)|((with_reducible apply br);rfl)|(with_reducible intro _))
   refine ⟨k + 1,q, ?_,by omega⟩
   rw [d1] at pr ⊢
   exact Wk.back (n:=0) (M:=1) (by simp) (by simp) (by simp;omega) (by simp) (by simp [dg]) (by
    have hb:=eM 1 (.sl 5 (R ++ iP kd tx nu un' fl :: (R2 ++ [iP (dr kd) [] 0 [] false]))) (by rw [Aw.Pure];exact pr)
    rw [Bd] at hb
    simp [Bd,hb])
 ·have hk : k = l.length:=by omega
  subst hk
  rw [List.take_length]
  refine ag rfl (by simp) ?_
  refine iw.of ?_
  have pr:=iv l
  simp [tl,tlA]
  rw [xL _ _ _ _ pr]
theorem Bb (l : List Vl) (hz : zVs l < 2 ^ 39) : Con Tryz.prog 98 [.sl 6 (aV l)] (.sl 5 (cY l)):=by
 have : ∀ n,n < 2 ^ 39 → TkP n:=by
  intro n
  induction n using Nat.strongRecOn with
  | _ n ih=>exact fun hn=>Kk hn fun n' h=>ih n' h (by omega)
 exact this _ hz l (Nat.le_refl _)
theorem xS (l : List Vl) (hz : zVs l < 2 ^ 39) : Con Tryz.prog 58 [.sl 6 (aV l)] (int (fa l)):=by
 refine (V58 _).gives (by simp [dC]) (by simp) ?_
 unfold W58
 have t1:=jm l
 repeat' (first|(with_reducible refine And.intro True.intro ?_)|((with_reducible apply bW);rfl;rfl)|((with_reducible apply bF);rfl)|((with_reducible apply td);rfl)|((with_reducible apply aB);rfl;(first|rfl|simp);intro _)|(refine aI (by kernel_rfl) (vU l (by omega)) ?_)|(refine aI (by kernel_rfl) (Bb l hz) ?_)|(refine aI (by kernel_rfl) (Bp l 0 (by omega)) ?_)|((with_reducible apply cA);rfl)|(with_reducible intro _))
 all_goals
  refine .pure (by simp) ?_
  simp only [AV.v.injEq,Value.int.injEq,true_and]
  simp [t1] at *
  simp [fa, *]
  try omega
omit [Laid] in
theorem te {x : AV} {l : List UInt8} {K : AV → Prop} (e : x = .str l) (q : K (int l.length)) : gr x K:=by subst e;exact q
def SzP (n : Nat) : Prop:=∀ (l : List Vl) (lim : Int),zVs l ≤ n → 0 ≤ lim → lim ≤ 2 ^ 50 → Con Tryz.prog 32 [.sl 6 (aV l),int lim] (int (dd lim 0 l))
set_option maxHeartbeats 4000000 in
theorem Ki {n : Nat} (hn : n < 2 ^ 39) (hP : ∀ n',n' < n → SzP n') : SzP n:=by
 intro l lim hz hl1 hl2
 refine (V32 _ _).gives (by simp [dC]) (by simp) ?_
 unfold W32
 have hlen : (aV l).length = l.length:=by simp [bf]
 have hll:=eW l
 refine a7 (α:=Nat) (fun k=>k ≤ l.length) (fun k=>[int (dd lim 0 (l.take k)),int k]) (fun _=>[]) (fun k=>l.length - k) 0 (by simp) (by simpa [dd] using Wk.refl _ _ _ (by simp)) ?_
 intro k hk
 refine aB (n:=l.length) rfl hlen fun _=>?_
 refine aF rfl rfl ?_
 rcases Nat.lt_or_ge k l.length with q|q
 ·obtain ⟨⟨kd,tx,nu,un',fl,l2⟩,hx⟩ : ∃ x,l[k]? = some x:=⟨l[k],List.getElem?_eq_getElem q⟩
  have hin : inI ((k : Int) + 1):=by unfold inI;omega
  have hzv:=eX (List.mem_of_getElem? hx)
  rw [zV] at hzv
  have q1 : decide ((k : Int) < l.length) = true:=by simpa using q
  have b0:=fQ l k
  obtain ⟨b1,b2,_⟩:=kH lim 0 (l.take k)
  by_cases hle : dd lim 0 (l.take k) ≤ lim
  ·have g0 : decide (dd lim 0 (l.take k) ≤ lim) = true:=by simpa using hle
   have d1:=FK hx hle
   rw [szV] at d1
   obtain ⟨S,hS⟩ : ∃ S,dd lim 0 (l.take k) = S:=⟨_,rfl⟩
   rw [hS] at d1 g0 b1 b2 hle ⊢
   have hrec:=hP (zVs l2) (by omega) l2 (lim - S) (Nat.le_refl _) (by omega) (by omega)
   obtain ⟨c1,c2,_⟩:=kH (lim - S) 0 l2
   have hrec2 : Con Tryz.prog 32 [.sl 6 (aV l2),int (lim - S)] (int (dd (lim - S) 0 l2)):=hrec
   repeat' (first|(with_reducible first|apply aG|apply ar|refine And.intro True.intro ?_)|((with_reducible first|apply aF|apply eE);rfl;rfl)|((with_reducible apply aP);rfl;rfl;first|assumption|(unfold inI;omega))|((with_reducible apply kE);rfl;rfl;first|assumption|(unfold inI;omega))|((with_reducible apply aE);rfl)|((with_reducible apply ax);rfl)|((with_reducible apply ak);rfl;first|rfl|assumption)|((with_reducible apply ag);rfl;first|rfl|assumption)|((with_reducible apply aA);rfl;first|rfl|assumption)|((with_reducible apply ay);rfl;first|rfl|assumption)|((with_reducible apply bt);rfl)|((with_reducible apply aR);rfl)|((with_reducible apply aB);rfl;(first|rfl|simp);intro _)|(refine bx rfl (bf l) rfl hx ?_)|(refine te rfl ?_)|(refine cz rfl (by kernel_rfl) hrec2 ?_)|(with_reducible intro _))
   exact ⟨k + 1,q,Wk.le (by simp) (by rw [d1];simp),by omega⟩
  ·have g0 : decide (dd lim 0 (l.take k) ≤ lim) = false:=by simpa using hle
   repeat' (first|(with_reducible first|apply aG|apply ar|refine And.intro True.intro ?_)|((with_reducible first|apply aF|apply eE);rfl;rfl)|((with_reducible apply aP);rfl;rfl;first|assumption|(unfold inI;omega))|((with_reducible apply kE);rfl;rfl;first|assumption|(unfold inI;omega))|((with_reducible apply aE);rfl)|((with_reducible apply ax);rfl)|((with_reducible apply ak);rfl;first|rfl|assumption)|((with_reducible apply ag);rfl;first|rfl|assumption)|((with_reducible apply aA);rfl;first|rfl|assumption)|((with_reducible apply ay);rfl;first|rfl|assumption)|((with_reducible apply bt);rfl)|((with_reducible apply aR);rfl)|((with_reducible apply aB);rfl;(first|rfl|simp);intro _)|(with_reducible intro _))
   exact .pure (by simp) (by rw [HH (l:=l) (k:=k) (by omega)];rfl)
 ·have hk : k = l.length:=by omega
  subst hk
  rw [List.take_length]
  have q1 : decide ((l.length : Int) < l.length) = false:=by simp
  repeat' (first|(with_reducible first|apply aG|apply ar|refine And.intro True.intro ?_)|((with_reducible first|apply aF|apply eE);rfl;rfl)|((with_reducible apply aP);rfl;rfl;first|assumption|(unfold inI;omega))|((with_reducible apply kE);rfl;rfl;first|assumption|(unfold inI;omega))|((with_reducible apply aE);rfl)|((with_reducible apply ax);rfl)|((with_reducible apply ak);rfl;first|rfl|assumption)|((with_reducible apply ag);rfl;first|rfl|assumption)|((with_reducible apply aA);rfl;first|rfl|assumption)|((with_reducible apply ay);rfl;first|rfl|assumption)|((with_reducible apply bt);rfl)|((with_reducible apply aR);rfl)|((with_reducible apply aB);rfl;(first|rfl|simp);intro _)|(with_reducible intro _))
  exact .pure (by simp) rfl
theorem vV (l : List Vl) (lim : Int) (hz : zVs l < 2 ^ 39) (h1 : 0 ≤ lim) (h2 : lim ≤ 2 ^ 50) : Con Tryz.prog 32 [.sl 6 (aV l),int lim] (int (dd lim 0 l)):=by
 have : ∀ n,n < 2 ^ 39 → SzP n:=by
  intro n
  induction n using Nat.strongRecOn with
  | _ n ih=>exact fun hn=>Ki hn fun n' h=>ih n' h (by omega)
 exact this _ hz l lim (Nat.le_refl _) h1 h2
def wA (l : List Vl) : Bool:=decide (300 < dd 300 0 l) || decide ((40 : Int) < cX l)
theorem Bu (l : List Vl) (hz : zVs l < 2 ^ 39) : Con Tryz.prog 31 [.sl 6 (aV l)] (bool (wA l)):=by
 refine (V31 _).gives (by simp [dC]) (by simp) ?_
 unfold W31
 repeat' (first|(with_reducible first|apply aG|refine And.intro True.intro ?_)|((with_reducible apply bW);rfl;rfl)|((with_reducible apply aE);rfl)|((with_reducible apply ax);rfl)|(refine aI (by kernel_rfl) (vV l 300 hz (by omega) (by omega)) ?_)|(refine aI (by kernel_rfl) (vU l (by omega)) ?_)|((with_reducible apply bV);rfl)|(with_reducible intro _))
 all_goals
  refine .pure (by simp) ?_
  simp only [fW,jj,AV.v.injEq,Value.bool.injEq,wA]
  first
   | (simp_all;done)
   | (simp_all;omega)
   | grind
end Go.Proofs.YtfageokhpklkbaaGreatDoor
end
