/-
 Styles checked: by either way.
 No conditions: contracts.
-/
import Derived.Test.YtfageokhpklkbaaGreatDoorStyI
import Derived.Test.YtfageokhpklkbaaGreatDoorS1
set_option linter.unusedVariables false
set_option linter.unusedSimpArgs false
namespace Go.Proofs.YtfageokhpklkbaaGreatDoor
open Go Go.Aw Go.Nst
set_option maxRecDepth 1000000
structure Sy where
 az : List Vv
 db : List Cu
def bC (l : List Vv) : List (List AV):=l.map bS
theorem dH : ∀ l,cd (bC l)
 | []=>by simp [bC,cd]
 | s :: l=>by have:=dH l;unfold bC at this ⊢;simp only [List.map_cons,cd];exact ⟨eB s,this⟩
def fE (s : Sy) : List AV:=[.sl 7 (bC s.az),.sl 2 (aq s.db)]
theorem gU (s : Sy) : bM (fE s):=by simp [fE,dH,bG]
def v0 : Vv:=⟨0,[],0,0,0,0,0⟩
def vOk (i : Int) (v : Vv) : Bool:=hasB i v && !decide (v.kind = 3) && !decide (v.kind = 4)
def sx (l : List Vv) : Bool:=decide ((l.getD 0 v0).kind = 7) && decide (0 ≤ (l.getD 15 v0).num) && decide ((l.getD 15 v0).num ≤ 1000)
def fX (s : Sy) : Bool:=decide (s.az.length = 18) && decide (eN s.db = 0) && (List.range 18).all (fun i=>vOk i (s.az.getD i v0)) && sx s.az
def gA (s : Sy) : Int:=if fX s = true then 0 else 8
def p8 (s : Sy) : Prop:=(∀ v ∈ s.az,inI v.num) ∧ s.db.length < 2 ^ 40 ∧ ∀ c ∈ s.db,zVs c.value < 2 ^ 39

set_option maxHeartbeats 8000000 in
theorem xV (s : Sy) (ok : p8 s) : Con Tryz.prog 21 [.agg (fE s)] (int (gA s)):=by
 refine (V21 _).gives (by simp [gU]) (by simp) ?_
 unfold W21
 obtain ⟨vl,cu⟩:=s
 obtain ⟨o1,o2,o3⟩:=ok
 simp only at o1 o2 o3
 rw [fE]
 have hlen : (bC vl).length = vl.length:=by simp [bC]
 by_cases h1 : vl.length = 18
 case neg =>
  have g1 : (!decide ((vl.length : Int) = 18)) = true:=by simp;omega
  repeat' (first|(refine aB (n:=vl.length) rfl hlen fun _=>?_)|(with_reducible first|apply aG|apply ar|refine And.intro True.intro ?_)|((with_reducible first|apply aF|apply bW|apply bR|apply bE);rfl;rfl)|((with_reducible apply aP);rfl;rfl;first|assumption|(unfold inI;omega))|((with_reducible apply bF);rfl)|((with_reducible apply aE);rfl)|((with_reducible apply ax);rfl)|((with_reducible apply ak);rfl;first|rfl|assumption)|((with_reducible apply ag);rfl;first|rfl|assumption)|((with_reducible apply aA);rfl;first|rfl|assumption)|((with_reducible apply ay);rfl;first|rfl|assumption)|((with_reducible apply aC);rfl)|((with_reducible apply bt);rfl)|((with_reducible apply aD);rfl;rfl;rfl)|((with_reducible apply aR);rfl)|((with_reducible apply ba);rfl;rfl;first|exact Nat.le_refl _|exact Nat.le_of_ble_eq_true rfl)|((with_reducible apply aY);rfl;first|rfl|simp)|((with_reducible apply bN);first|rfl|simp)|((with_reducible apply aZ);rfl;rfl;rfl;rfl;(first|exact Nat.le_refl _|simp);(first|rfl|simp);(first|rfl|simp))|((with_reducible apply aB);rfl;(first|rfl|simp);intro _)|((with_reducible apply bB);rfl;rfl)|(with_reducible intro _))
  exact .pure (by simp) (by simp [gA,fX,h1])
 have g1 : (!decide ((vl.length : Int) = 18)) = false:=by simp;omega
 have hN:=Be cu o2 o3
 by_cases h2 : eN cu = 0
 case neg =>
  have g2 : (!decide (eN cu = 0)) = true:=by simp [h2]
  repeat' (first|(refine aB (n:=vl.length) rfl hlen fun _=>?_)|(with_reducible first|apply aG|apply ar|refine And.intro True.intro ?_)|((with_reducible first|apply aF|apply bW|apply bR|apply bE);rfl;rfl)|((with_reducible apply aP);rfl;rfl;first|assumption|(unfold inI;omega))|((with_reducible apply bF);rfl)|((with_reducible apply aE);rfl)|((with_reducible apply ax);rfl)|((with_reducible apply ak);rfl;first|rfl|assumption)|((with_reducible apply ag);rfl;first|rfl|assumption)|((with_reducible apply aA);rfl;first|rfl|assumption)|((with_reducible apply ay);rfl;first|rfl|assumption)|((with_reducible apply aC);rfl)|((with_reducible apply bt);rfl)|((with_reducible apply aD);rfl;rfl;rfl)|((with_reducible apply aR);rfl)|((with_reducible apply ba);rfl;rfl;first|exact Nat.le_refl _|exact Nat.le_of_ble_eq_true rfl)|((with_reducible apply aY);rfl;first|rfl|simp)|((with_reducible apply bN);first|rfl|simp)|((with_reducible apply aZ);rfl;rfl;rfl;rfl;(first|exact Nat.le_refl _|simp);(first|rfl|simp);(first|rfl|simp))|((with_reducible apply aB);rfl;(first|rfl|simp);intro _)|((with_reducible apply bB);rfl;rfl)|(refine aI (by kernel_rfl) (hN) ?_)|(with_reducible intro _))
  exact .pure (by simp) (by simp [gA,fX,h2])
 have g2 : (!decide (eN cu = 0)) = false:=by simp [h2]
 repeat' (first|(refine aB (n:=vl.length) rfl hlen fun _=>?_)|(with_reducible first|apply aG|apply ar|refine And.intro True.intro ?_)|((with_reducible first|apply aF|apply bW|apply bR|apply bE);rfl;rfl)|((with_reducible apply aP);rfl;rfl;first|assumption|(unfold inI;omega))|((with_reducible apply bF);rfl)|((with_reducible apply aE);rfl)|((with_reducible apply ax);rfl)|((with_reducible apply ak);rfl;first|rfl|assumption)|((with_reducible apply ag);rfl;first|rfl|assumption)|((with_reducible apply aA);rfl;first|rfl|assumption)|((with_reducible apply ay);rfl;first|rfl|assumption)|((with_reducible apply aC);rfl)|((with_reducible apply bt);rfl)|((with_reducible apply aD);rfl;rfl;rfl)|((with_reducible apply aR);rfl)|((with_reducible apply ba);rfl;rfl;first|exact Nat.le_refl _|exact Nat.le_of_ble_eq_true rfl)|((with_reducible apply aY);rfl;first|rfl|simp)|((with_reducible apply bN);first|rfl|simp)|((with_reducible apply aZ);rfl;rfl;rfl;rfl;(first|exact Nat.le_refl _|simp);(first|rfl|simp);(first|rfl|simp))|((with_reducible apply aB);rfl;(first|rfl|simp);intro _)|((with_reducible apply bB);rfl;rfl)|(refine aI (by kernel_rfl) (hN) ?_)|(with_reducible intro _))
 refine a7 (α:=Nat) (fun k=>k ≤ vl.length ∧ ∀ i,i < k → vOk i (vl.getD i v0) = true) (fun k=>[int k]) (fun _=>_) (fun k=>vl.length - k) 0 ⟨by omega,fun i h=>by omega⟩ (Wk.refl _ _ _ (by simp)) ?_
 rintro k ⟨hk,hall⟩
 rcases Nat.lt_or_ge k vl.length with q|q
 ·obtain ⟨⟨c,w,n,r,g,b,a⟩,hs⟩ : ∃ x,vl[k]? = some x:=⟨vl[k],List.getElem?_eq_getElem q⟩
  have q1 : decide ((k : Int) < vl.length) = true:=by simpa using q
  have hin : inI ((k : Int) + 1):=by unfold inI;omega
  have hn : inI n:=o1 _ (List.mem_of_getElem? hs)
  have hH : Con Tryz.prog 41 [int k,.agg [.v (.int .u8 c),.str w,int n,.v (.int .u8 r),.v (.int .u8 g),.v (.int .u8 b),.v (.int .u8 a)]] (.tup [bool (hasB k ⟨c,w,n,r,g,b,a⟩),int (if 0 ≤ (k : Int) ∧ (k : Int) < 18 then 0 else 2)]):=IE k ⟨c,w,n,r,g,b,a⟩ hn
  have hv : vOk k (vl.getD k v0) = (!(!hasB k ⟨c,w,n,r,g,b,a⟩) && !decide (c = 3) && !decide (c = 4)):=by
   rw [List.getD_eq_getElem?_getD,hs];simp [vOk]
  have bad : vOk k (vl.getD k v0) = false → gA ⟨vl,cu⟩ = 8:=fun e=>by
   unfold gA
   rw [if_neg]
   intro h
   unfold fX at h
   simp only [Bool.and_eq_true] at h
   obtain ⟨⟨_,h⟩,_⟩:=h
   rw [List.all_eq_true] at h
   rw [h k (List.mem_range.2 (by omega))] at e
   cases e
  cases g3 : (!hasB k ⟨c,w,n,r,g,b,a⟩) <;> cases g4 : decide (c = 3) <;> cases g5 : decide (c = 4)
  all_goals
   rw [g3,g4,g5] at hv
   repeat' (first|(refine aB (n:=vl.length) rfl hlen fun _=>?_)|(with_reducible first|apply aG|apply ar|refine And.intro True.intro ?_)|((with_reducible first|apply aF|apply bW|apply bR|apply bE);rfl;rfl)|((with_reducible apply aP);rfl;rfl;first|assumption|(unfold inI;omega))|((with_reducible apply bF);rfl)|((with_reducible apply aE);rfl)|((with_reducible apply ax);rfl)|((with_reducible apply ak);rfl;first|rfl|assumption)|((with_reducible apply ag);rfl;first|rfl|assumption)|((with_reducible apply aA);rfl;first|rfl|assumption)|((with_reducible apply ay);rfl;first|rfl|assumption)|((with_reducible apply aC);rfl)|((with_reducible apply bt);rfl)|((with_reducible apply aD);rfl;rfl;rfl)|((with_reducible apply aR);rfl)|((with_reducible apply ba);rfl;rfl;first|exact Nat.le_refl _|exact Nat.le_of_ble_eq_true rfl)|((with_reducible apply aY);rfl;first|rfl|simp)|((with_reducible apply bN);first|rfl|simp)|((with_reducible apply aZ);rfl;rfl;rfl;rfl;(first|exact Nat.le_refl _|simp);(first|rfl|simp);(first|rfl|simp))|((with_reducible apply aB);rfl;(first|rfl|simp);intro _)|((with_reducible apply bB);rfl;rfl)|(refine aI (by kernel_rfl) (hH) ?_)|(refine bx (f:=bS) rfl rfl rfl hs ?_)|(refine aY rfl (by simp [bS]) ?_)|(refine aZ (cs:=[.v (.int .u8 c),.str w,int n,.v (.int .u8 r),.v (.int .u8 g),.v (.int .u8 b),.v (.int .u8 a)]) rfl rfl rfl rfl (Nat.le_refl _) rfl rfl ?_)|(with_reducible intro _))
  all_goals first
   | (refine .pure (by simp) ?_
      rw [bad hv];done)
   | (refine ⟨k + 1,⟨q,fun i hi=>?_⟩, ?_,by omega⟩
      ·rcases Nat.lt_or_ge i k with z|z
       ·exact hall i z
       ·obtain rfl : i = k:=by omega
        exact hv
      ·first
        | exact Wk.refl _ _ _ (by simp)
        | exact Wk.le (by simp) (by simp)
        | exact Wk.back (M:=1) (by simp) (by simp) rfl rfl (by simp [dg];exact dV _ _ (by simp [dH,bG,bM])) (by simp [Bd]))
 ·have hk : k = vl.length:=by omega
  subst hk
  have q1 : decide ((vl.length : Int) < vl.length) = false:=by simp
  obtain ⟨⟨c0,w0,n0,r0,x0,b0,a0⟩,e0⟩ : ∃ x,vl[0]? = some x:=⟨vl[0]'(by omega),List.getElem?_eq_getElem _⟩
  obtain ⟨⟨c1,w1,n1,r1,x1,b1,a1⟩,e1⟩ : ∃ x,vl[15]? = some x:=⟨vl[15]'(by omega),List.getElem?_eq_getElem _⟩
  have hl : fX ⟨vl,cu⟩ = (!(!decide (c0 = 7)) && !decide (n1 < 0) && !decide ((1000 : Int) < n1)):=by
   have ha : (List.range 18).all (fun i=>vOk i (vl.getD i v0)) = true:=by
    rw [List.all_eq_true]
    intro i hi
    exact hall i (by rw [h1];exact List.mem_range.1 hi)
   unfold fX sx
   simp only
   rw [ha,h1,h2,List.getD_eq_getElem?_getD,e0,List.getD_eq_getElem?_getD,e1]
   by_cases z0 : c0 = 7 <;> by_cases z1 : n1 < 0 <;> by_cases z2 : (1000 : Int) < n1 <;> simp [z0,z1,z2] <;> omega
  cases g3 : (!decide (c0 = 7)) <;> cases g4 : decide (n1 < 0) <;> cases g5 : decide ((1000 : Int) < n1)
  all_goals
   rw [g3,g4,g5] at hl
   repeat' (first|(refine aB (n:=vl.length) rfl hlen fun _=>?_)|(with_reducible first|apply aG|apply ar|refine And.intro True.intro ?_)|((with_reducible first|apply aF|apply bW|apply bR|apply bE);rfl;rfl)|((with_reducible apply aP);rfl;rfl;first|assumption|(unfold inI;omega))|((with_reducible apply bF);rfl)|((with_reducible apply aE);rfl)|((with_reducible apply ax);rfl)|((with_reducible apply ak);rfl;first|rfl|assumption)|((with_reducible apply ag);rfl;first|rfl|assumption)|((with_reducible apply aA);rfl;first|rfl|assumption)|((with_reducible apply ay);rfl;first|rfl|assumption)|((with_reducible apply aC);rfl)|((with_reducible apply bt);rfl)|((with_reducible apply aD);rfl;rfl;rfl)|((with_reducible apply aR);rfl)|((with_reducible apply ba);rfl;rfl;first|exact Nat.le_refl _|exact Nat.le_of_ble_eq_true rfl)|((with_reducible apply aY);rfl;first|rfl|simp)|((with_reducible apply bN);first|rfl|simp)|((with_reducible apply aZ);rfl;rfl;rfl;rfl;(first|exact Nat.le_refl _|simp);(first|rfl|simp);(first|rfl|simp))|((with_reducible apply aB);rfl;(first|rfl|simp);intro _)|((with_reducible apply bB);rfl;rfl)|(refine bx (f:=bS) rfl rfl rfl e0 ?_)|(refine bx (f:=bS) rfl rfl rfl e1 ?_)|(with_reducible intro _))
  all_goals exact .pure (by simp) (by unfold gA;rw [hl];rfl)

set_option maxHeartbeats 8000000 in
theorem vX (s : Sy) (ok : p8 s) : Con Tryz.prog 19 [.agg (fE s)] (int (gA s)):=by
 refine (V19 _).gives (by simp [gU]) (by simp) ?_
 unfold W19
 obtain ⟨vl,cu⟩:=s
 obtain ⟨o1,o2,o3⟩:=ok
 simp only at o1 o2 o3
 rw [fE]
 have hlen : (bC vl).length = vl.length:=by simp [bC]
 by_cases h1 : vl.length = 18
 case neg =>
  have g1 : (!decide ((vl.length : Int) = 18)) = true:=by simp;omega
  repeat' (first|(refine aB (n:=vl.length) rfl hlen fun _=>?_)|(with_reducible first|apply aG|apply ar|refine And.intro True.intro ?_)|((with_reducible first|apply aF|apply bW|apply bR|apply bE);rfl;rfl)|((with_reducible apply aP);rfl;rfl;first|assumption|(unfold inI;omega))|((with_reducible apply bF);rfl)|((with_reducible apply aE);rfl)|((with_reducible apply ax);rfl)|((with_reducible apply ak);rfl;first|rfl|assumption)|((with_reducible apply ag);rfl;first|rfl|assumption)|((with_reducible apply aA);rfl;first|rfl|assumption)|((with_reducible apply ay);rfl;first|rfl|assumption)|((with_reducible apply aC);rfl)|((with_reducible apply bt);rfl)|((with_reducible apply aD);rfl;rfl;rfl)|((with_reducible apply aR);rfl)|((with_reducible apply ba);rfl;rfl;first|exact Nat.le_refl _|exact Nat.le_of_ble_eq_true rfl)|((with_reducible apply aY);rfl;first|rfl|simp)|((with_reducible apply bN);first|rfl|simp)|((with_reducible apply aZ);rfl;rfl;rfl;rfl;(first|exact Nat.le_refl _|simp);(first|rfl|simp);(first|rfl|simp))|((with_reducible apply aB);rfl;(first|rfl|simp);intro _)|((with_reducible apply bB);rfl;rfl)|(with_reducible intro _))
  exact .pure (by simp) (by simp [gA,fX,h1])
 have g1 : (!decide ((vl.length : Int) = 18)) = false:=by simp;omega
 have hN:=xR cu o2 o3
 by_cases h2 : eN cu = 0
 case neg =>
  have g2 : (!decide (eN cu = 0)) = true:=by simp [h2]
  repeat' (first|(refine aB (n:=vl.length) rfl hlen fun _=>?_)|(with_reducible first|apply aG|apply ar|refine And.intro True.intro ?_)|((with_reducible first|apply aF|apply bW|apply bR|apply bE);rfl;rfl)|((with_reducible apply aP);rfl;rfl;first|assumption|(unfold inI;omega))|((with_reducible apply bF);rfl)|((with_reducible apply aE);rfl)|((with_reducible apply ax);rfl)|((with_reducible apply ak);rfl;first|rfl|assumption)|((with_reducible apply ag);rfl;first|rfl|assumption)|((with_reducible apply aA);rfl;first|rfl|assumption)|((with_reducible apply ay);rfl;first|rfl|assumption)|((with_reducible apply aC);rfl)|((with_reducible apply bt);rfl)|((with_reducible apply aD);rfl;rfl;rfl)|((with_reducible apply aR);rfl)|((with_reducible apply ba);rfl;rfl;first|exact Nat.le_refl _|exact Nat.le_of_ble_eq_true rfl)|((with_reducible apply aY);rfl;first|rfl|simp)|((with_reducible apply bN);first|rfl|simp)|((with_reducible apply aZ);rfl;rfl;rfl;rfl;(first|exact Nat.le_refl _|simp);(first|rfl|simp);(first|rfl|simp))|((with_reducible apply aB);rfl;(first|rfl|simp);intro _)|((with_reducible apply bB);rfl;rfl)|(refine aI (by kernel_rfl) (hN) ?_)|(with_reducible intro _))
  exact .pure (by simp) (by simp [gA,fX,h2])
 have g2 : (!decide (eN cu = 0)) = false:=by simp [h2]
 repeat' (first|(refine aB (n:=vl.length) rfl hlen fun _=>?_)|(with_reducible first|apply aG|apply ar|refine And.intro True.intro ?_)|((with_reducible first|apply aF|apply bW|apply bR|apply bE);rfl;rfl)|((with_reducible apply aP);rfl;rfl;first|assumption|(unfold inI;omega))|((with_reducible apply bF);rfl)|((with_reducible apply aE);rfl)|((with_reducible apply ax);rfl)|((with_reducible apply ak);rfl;first|rfl|assumption)|((with_reducible apply ag);rfl;first|rfl|assumption)|((with_reducible apply aA);rfl;first|rfl|assumption)|((with_reducible apply ay);rfl;first|rfl|assumption)|((with_reducible apply aC);rfl)|((with_reducible apply bt);rfl)|((with_reducible apply aD);rfl;rfl;rfl)|((with_reducible apply aR);rfl)|((with_reducible apply ba);rfl;rfl;first|exact Nat.le_refl _|exact Nat.le_of_ble_eq_true rfl)|((with_reducible apply aY);rfl;first|rfl|simp)|((with_reducible apply bN);first|rfl|simp)|((with_reducible apply aZ);rfl;rfl;rfl;rfl;(first|exact Nat.le_refl _|simp);(first|rfl|simp);(first|rfl|simp))|((with_reducible apply aB);rfl;(first|rfl|simp);intro _)|((with_reducible apply bB);rfl;rfl)|(refine aI (by kernel_rfl) (hN) ?_)|(with_reducible intro _))
 refine a7 (α:=Nat) (fun k=>k ≤ vl.length ∧ ∀ i,i < k → vOk i (vl.getD i v0) = true) (fun k=>[int k]) (fun _=>_) (fun k=>vl.length - k) 0 ⟨by omega,fun i h=>by omega⟩ (Wk.refl _ _ _ (by simp)) ?_
 rintro k ⟨hk,hall⟩
 rcases Nat.lt_or_ge k vl.length with q|q
 ·obtain ⟨⟨c,w,n,r,g,b,a⟩,hs⟩ : ∃ x,vl[k]? = some x:=⟨vl[k],List.getElem?_eq_getElem q⟩
  have q1 : decide ((k : Int) < vl.length) = true:=by simpa using q
  have hin : inI ((k : Int) + 1):=by unfold inI;omega
  have hn : inI n:=o1 _ (List.mem_of_getElem? hs)
  have hH : Con Tryz.prog 37 [int k,.agg [.v (.int .u8 c),.str w,int n,.v (.int .u8 r),.v (.int .u8 g),.v (.int .u8 b),.v (.int .u8 a)]] (.tup [bool (hasB k ⟨c,w,n,r,g,b,a⟩),int (if 0 ≤ (k : Int) ∧ (k : Int) < 18 then 0 else 2)]):=Gc k ⟨c,w,n,r,g,b,a⟩ hn
  have hv : vOk k (vl.getD k v0) = (!(!hasB k ⟨c,w,n,r,g,b,a⟩) && !decide (c = 3) && !decide (c = 4)):=by
   rw [List.getD_eq_getElem?_getD,hs];simp [vOk]
  have bad : vOk k (vl.getD k v0) = false → gA ⟨vl,cu⟩ = 8:=fun e=>by
   unfold gA
   rw [if_neg]
   intro h
   unfold fX at h
   simp only [Bool.and_eq_true] at h
   obtain ⟨⟨_,h⟩,_⟩:=h
   rw [List.all_eq_true] at h
   rw [h k (List.mem_range.2 (by omega))] at e
   cases e
  cases g3 : (!hasB k ⟨c,w,n,r,g,b,a⟩) <;> cases g4 : decide (c = 3) <;> cases g5 : decide (c = 4)
  all_goals
   rw [g3,g4,g5] at hv
   repeat' (first|(refine aB (n:=vl.length) rfl hlen fun _=>?_)|(with_reducible first|apply aG|apply ar|refine And.intro True.intro ?_)|((with_reducible first|apply aF|apply bW|apply bR|apply bE);rfl;rfl)|((with_reducible apply aP);rfl;rfl;first|assumption|(unfold inI;omega))|((with_reducible apply bF);rfl)|((with_reducible apply aE);rfl)|((with_reducible apply ax);rfl)|((with_reducible apply ak);rfl;first|rfl|assumption)|((with_reducible apply ag);rfl;first|rfl|assumption)|((with_reducible apply aA);rfl;first|rfl|assumption)|((with_reducible apply ay);rfl;first|rfl|assumption)|((with_reducible apply aC);rfl)|((with_reducible apply bt);rfl)|((with_reducible apply aD);rfl;rfl;rfl)|((with_reducible apply aR);rfl)|((with_reducible apply ba);rfl;rfl;first|exact Nat.le_refl _|exact Nat.le_of_ble_eq_true rfl)|((with_reducible apply aY);rfl;first|rfl|simp)|((with_reducible apply bN);first|rfl|simp)|((with_reducible apply aZ);rfl;rfl;rfl;rfl;(first|exact Nat.le_refl _|simp);(first|rfl|simp);(first|rfl|simp))|((with_reducible apply aB);rfl;(first|rfl|simp);intro _)|((with_reducible apply bB);rfl;rfl)|(refine aI (by kernel_rfl) (hH) ?_)|(refine bx (f:=bS) rfl rfl rfl hs ?_)|(refine aY rfl (by simp [bS]) ?_)|(refine aZ (cs:=[.v (.int .u8 c),.str w,int n,.v (.int .u8 r),.v (.int .u8 g),.v (.int .u8 b),.v (.int .u8 a)]) rfl rfl rfl rfl (Nat.le_refl _) rfl rfl ?_)|(with_reducible intro _))
  all_goals first
   | (refine .pure (by simp) ?_
      rw [bad hv];done)
   | (refine ⟨k + 1,⟨q,fun i hi=>?_⟩, ?_,by omega⟩
      ·rcases Nat.lt_or_ge i k with z|z
       ·exact hall i z
       ·obtain rfl : i = k:=by omega
        exact hv
      ·first
        | exact Wk.refl _ _ _ (by simp)
        | exact Wk.le (by simp) (by simp)
        | exact Wk.back (M:=1) (by simp) (by simp) rfl rfl (by simp [dg];exact dV _ _ (by simp [dH,bG,bM])) (by simp [Bd]))
 ·have hk : k = vl.length:=by omega
  subst hk
  have q1 : decide ((vl.length : Int) < vl.length) = false:=by simp
  obtain ⟨⟨c0,w0,n0,r0,x0,b0,a0⟩,e0⟩ : ∃ x,vl[0]? = some x:=⟨vl[0]'(by omega),List.getElem?_eq_getElem _⟩
  obtain ⟨⟨c1,w1,n1,r1,x1,b1,a1⟩,e1⟩ : ∃ x,vl[15]? = some x:=⟨vl[15]'(by omega),List.getElem?_eq_getElem _⟩
  have hl : fX ⟨vl,cu⟩ = (!(!decide (c0 = 7)) && !decide (n1 < 0) && !decide ((1000 : Int) < n1)):=by
   have ha : (List.range 18).all (fun i=>vOk i (vl.getD i v0)) = true:=by
    rw [List.all_eq_true]
    intro i hi
    exact hall i (by rw [h1];exact List.mem_range.1 hi)
   unfold fX sx
   simp only
   rw [ha,h1,h2,List.getD_eq_getElem?_getD,e0,List.getD_eq_getElem?_getD,e1]
   by_cases z0 : c0 = 7 <;> by_cases z1 : n1 < 0 <;> by_cases z2 : (1000 : Int) < n1 <;> simp [z0,z1,z2] <;> omega
  cases g3 : (!decide (c0 = 7)) <;> cases g4 : decide (n1 < 0) <;> cases g5 : decide ((1000 : Int) < n1)
  all_goals
   rw [g3,g4,g5] at hl
   repeat' (first|(refine aB (n:=vl.length) rfl hlen fun _=>?_)|(with_reducible first|apply aG|apply ar|refine And.intro True.intro ?_)|((with_reducible first|apply aF|apply bW|apply bR|apply bE);rfl;rfl)|((with_reducible apply aP);rfl;rfl;first|assumption|(unfold inI;omega))|((with_reducible apply bF);rfl)|((with_reducible apply aE);rfl)|((with_reducible apply ax);rfl)|((with_reducible apply ak);rfl;first|rfl|assumption)|((with_reducible apply ag);rfl;first|rfl|assumption)|((with_reducible apply aA);rfl;first|rfl|assumption)|((with_reducible apply ay);rfl;first|rfl|assumption)|((with_reducible apply aC);rfl)|((with_reducible apply bt);rfl)|((with_reducible apply aD);rfl;rfl;rfl)|((with_reducible apply aR);rfl)|((with_reducible apply ba);rfl;rfl;first|exact Nat.le_refl _|exact Nat.le_of_ble_eq_true rfl)|((with_reducible apply aY);rfl;first|rfl|simp)|((with_reducible apply bN);first|rfl|simp)|((with_reducible apply aZ);rfl;rfl;rfl;rfl;(first|exact Nat.le_refl _|simp);(first|rfl|simp);(first|rfl|simp))|((with_reducible apply aB);rfl;(first|rfl|simp);intro _)|((with_reducible apply bB);rfl;rfl)|(refine bx (f:=bS) rfl rfl rfl e0 ?_)|(refine bx (f:=bS) rfl rfl rfl e1 ?_)|(with_reducible intro _))
  all_goals exact .pure (by simp) (by unfold gA;rw [hl];rfl)
end Go.Proofs.YtfageokhpklkbaaGreatDoor

