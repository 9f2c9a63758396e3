/-
  Lengths of values: by either way. Names of custom properties: by either way. Small letters: by either way. References to customs: found by either way.
  No conditions.
-/
import Derived.Test.YtfageokhpklkbaaGreatDoorR1
import Derived.Test.YtfageokhpklkbaaGreatDoorN1
import Derived.Test.YtfageokhpklkbaaGreatDoorWSty
import Derived.Test.YtfageokhpklkbaaGreatDoorP1
set_option linter.unusedVariables false
set_option linter.unusedSimpArgs false
section
namespace Go.Proofs.YtfageokhpklkbaaGreatDoor
open Go Go.Aw Go.Nst
set_option maxRecDepth 100000

def LnP (n : Nat) : Prop:=∀ (l : List Vl),zVs l ≤ n → Con Tryz.prog 67 [.sl 6 (aV l)] (int (zVs l))
set_option maxHeartbeats 4000000 in
theorem JJ {n : Nat} (hn : n < 2 ^ 39) (hP : ∀ n',n' < n → LnP n') : LnP n:=by
 intro l hz
 refine (V67 _).gives (by simp [dC]) (by simp) ?_
 unfold W67
 have hlen : (aV l).length = l.length:=by simp [bf]
 have hll:=eW l
 try refine aB (n:=l.length) rfl hlen fun _=>?_
 refine a7 (α:=Nat) (fun k=>k ≤ l.length) (fun k=>[int (zVs (l.take k)),int k]) (fun _=>[]) (fun k=>l.length - k) 0 (by simp) (by simpa [zVs] using Wk.refl _ _ _ (by simp)) ?_
 intro k hk
 try refine aB (n:=l.length) rfl hlen fun _=>?_
 refine aF rfl rfl ?_
 rcases Nat.lt_or_ge k l.length with q|q
 ·obtain ⟨⟨kd,tx,nu,un',fl,l2⟩,hx⟩ : ∃ x,l[k]? = some x:=⟨l[k],List.getElem?_eq_getElem q⟩
  have hin : inI ((k : Int) + 1):=by unfold inI;omega
  have hzv:=eX (List.mem_of_getElem? hx)
  have q1 : decide ((k : Int) < l.length) = true:=by simpa using q
  have b0:=fQ l (k + 1)
  have d1 : zVs (l.take (k + 1)) = zVs (l.take k) + zV (.mk kd tx nu un' fl l2):=by
   rw [List.take_add_one,hx,jn];simp [zVs]
  rw [zV] at d1 hzv
  obtain ⟨S,hS⟩ : ∃ S,zVs (l.take k) = S:=⟨_,rfl⟩
  rw [hS] at d1 ⊢
  obtain ⟨S2,hS2⟩ : ∃ S,zVs l2 = S:=⟨_,rfl⟩
  have hrec : Con Tryz.prog 67 [.sl 6 (aV l2)] (int (zVs l2)):=hP (zVs l2) (by omega) l2 (Nat.le_refl _)
  rw [hS2] at d1 hrec hzv
  have i1 : inI ((1 : Int) + tx.length):=by unfold inI;omega
  have i2 : inI ((1 : Int) + tx.length + un'.length):=by unfold inI;omega
  have i3 : inI ((1 : Int) + tx.length + un'.length + S2):=by unfold inI;omega
  have i4 : inI ((S : Int) + (1 + tx.length + un'.length + S2)):=by unfold inI;omega
  have e : (((S : Int) + (1 + tx.length + un'.length + S2))) = ((zVs (l.take (k + 1)) : Nat) : Int):=by rw [d1];omega
  have ed:=dc (.mk kd tx nu un' fl l2)
  repeat' (first|(with_reducible first|apply ar|refine And.intro True.intro ?_)|((with_reducible apply aF);rfl;rfl)|((with_reducible apply aP);rfl;rfl;first|assumption|(unfold inI;omega))|((with_reducible apply ak);rfl;first|rfl|assumption)|((with_reducible apply ag);rfl;first|rfl|assumption)|((with_reducible apply aC);rfl)|((with_reducible apply aD);rfl;rfl;rfl)|((with_reducible apply aY);rfl;first|rfl|simp)|((with_reducible apply bN);first|rfl|simp)|((with_reducible apply aZ);rfl;rfl;rfl;rfl;(first|exact Nat.le_refl _|simp);(first|rfl|simp);(first|rfl|simp))|((with_reducible apply aB);rfl;(first|rfl|simp);intro _)|(refine bx rfl (bf l) rfl hx ?_)|(refine aY rfl (by simp [dc]) ?_)|(refine bN rfl ?_)|(refine aZ (cs:=[u1 kd,.str tx,int nu,.str un',bool fl,.sl 6 (aV l2)]) rfl rfl rfl rfl (Nat.le_refl _) rfl rfl ?_)|(refine te rfl ?_)|(refine cz rfl (by kernel_rfl) hrec ?_)|(with_reducible intro _))
  rw [e]
  first
   | exact ⟨k + 1,q,Wk.refl _ _ _ (by simp),by omega⟩
   | exact ⟨k + 1,q,Wk.back (M:=0) (by simp) (by simp) rfl rfl (by simp [dg]) (by simp [Bd]),by omega⟩
   | exact ⟨k + 1,q,Wk.le (by simp) (by simp),by omega⟩
 ·have hk : k = l.length:=by omega
  subst hk
  rw [List.take_length]
  have q1 : decide ((l.length : Int) < l.length) = false:=by simp
  repeat' (first|(with_reducible first|apply ar|refine And.intro True.intro ?_)|((with_reducible apply aF);rfl;rfl)|((with_reducible apply aP);rfl;rfl;first|assumption|(unfold inI;omega))|((with_reducible apply ak);rfl;first|rfl|assumption)|((with_reducible apply ag);rfl;first|rfl|assumption)|((with_reducible apply aC);rfl)|((with_reducible apply aD);rfl;rfl;rfl)|((with_reducible apply aY);rfl;first|rfl|simp)|((with_reducible apply bN);first|rfl|simp)|((with_reducible apply aZ);rfl;rfl;rfl;rfl;(first|exact Nat.le_refl _|simp);(first|rfl|simp);(first|rfl|simp))|((with_reducible apply aB);rfl;(first|rfl|simp);intro _)|(with_reducible intro _))
  exact .pure (by simp) rfl
theorem m0 (l : List Vl) (hz : zVs l < 2 ^ 39) : Con Tryz.prog 67 [.sl 6 (aV l)] (int (zVs l)):=by
 have : ∀ n,n < 2 ^ 39 → LnP n:=by
  intro n
  induction n using Nat.strongRecOn with
  | _ n ih=>exact fun hn=>JJ hn fun n' h=>ih n' h (by omega)
 exact this _ hz l (Nat.le_refl _)

def LgP (n : Nat) : Prop:=∀ (l : List Vl),zVs l ≤ n → Con Tryz.prog 60 [.sl 6 (aV l)] (int (zVs l))
set_option maxHeartbeats 4000000 in
theorem JH {n : Nat} (hn : n < 2 ^ 39) (hP : ∀ n',n' < n → LgP n') : LgP n:=by
 intro l hz
 refine (V60 _).gives (by simp [dC]) (by simp) ?_
 unfold W60
 have hlen : (aV l).length = l.length:=by simp [bf]
 have hll:=eW l
 try refine aB (n:=l.length) rfl hlen fun _=>?_
 refine a7 (α:=Nat) (fun k=>k ≤ l.length) (fun k=>[int (zVs (l.take k)),int k]) (fun _=>[]) (fun k=>l.length - k) 0 (by simp) (by simpa [zVs] using Wk.refl _ _ _ (by simp)) ?_
 intro k hk
 try refine aB (n:=l.length) rfl hlen fun _=>?_
 refine aF rfl rfl ?_
 rcases Nat.lt_or_ge k l.length with q|q
 ·obtain ⟨⟨kd,tx,nu,un',fl,l2⟩,hx⟩ : ∃ x,l[k]? = some x:=⟨l[k],List.getElem?_eq_getElem q⟩
  have hin : inI ((k : Int) + 1):=by unfold inI;omega
  have hzv:=eX (List.mem_of_getElem? hx)
  have q1 : decide ((k : Int) < l.length) = true:=by simpa using q
  have b0:=fQ l (k + 1)
  have d1 : zVs (l.take (k + 1)) = zVs (l.take k) + zV (.mk kd tx nu un' fl l2):=by
   rw [List.take_add_one,hx,jn];simp [zVs]
  rw [zV] at d1 hzv
  obtain ⟨S,hS⟩ : ∃ S,zVs (l.take k) = S:=⟨_,rfl⟩
  rw [hS] at d1 ⊢
  obtain ⟨S2,hS2⟩ : ∃ S,zVs l2 = S:=⟨_,rfl⟩
  have hrec : Con Tryz.prog 60 [.sl 6 (aV l2)] (int (zVs l2)):=hP (zVs l2) (by omega) l2 (Nat.le_refl _)
  rw [hS2] at d1 hrec hzv
  have i1 : inI ((1 : Int) + tx.length):=by unfold inI;omega
  have i2 : inI ((1 : Int) + tx.length + un'.length):=by unfold inI;omega
  have i3 : inI ((1 : Int) + tx.length + un'.length + S2):=by unfold inI;omega
  have i4 : inI ((S : Int) + (1 + tx.length + un'.length + S2)):=by unfold inI;omega
  have e : (((S : Int) + (1 + tx.length + un'.length + S2))) = ((zVs (l.take (k + 1)) : Nat) : Int):=by rw [d1];omega
  have ed:=dc (.mk kd tx nu un' fl l2)
  repeat' (first|(with_reducible first|apply ar|refine And.intro True.intro ?_)|((with_reducible apply aF);rfl;rfl)|((with_reducible apply aP);rfl;rfl;first|assumption|(unfold inI;omega))|((with_reducible apply ak);rfl;first|rfl|assumption)|((with_reducible apply ag);rfl;first|rfl|assumption)|((with_reducible apply bt);rfl)|((with_reducible apply aR);rfl)|((with_reducible apply aB);rfl;(first|rfl|simp);intro _)|(refine bx rfl (bf l) rfl hx ?_)|(refine te rfl ?_)|(refine cz rfl (by kernel_rfl) hrec ?_)|(with_reducible intro _))
  rw [e]
  first
   | exact ⟨k + 1,q,Wk.refl _ _ _ (by simp),by omega⟩
   | exact ⟨k + 1,q,Wk.back (M:=0) (by simp) (by simp) rfl rfl (by simp [dg]) (by simp [Bd]),by omega⟩
   | exact ⟨k + 1,q,Wk.le (by simp) (by simp),by omega⟩
 ·have hk : k = l.length:=by omega
  subst hk
  rw [List.take_length]
  have q1 : decide ((l.length : Int) < l.length) = false:=by simp
  repeat' (first|(with_reducible first|apply ar|refine And.intro True.intro ?_)|((with_reducible apply aF);rfl;rfl)|((with_reducible apply aP);rfl;rfl;first|assumption|(unfold inI;omega))|((with_reducible apply ak);rfl;first|rfl|assumption)|((with_reducible apply ag);rfl;first|rfl|assumption)|((with_reducible apply bt);rfl)|((with_reducible apply aR);rfl)|((with_reducible apply aB);rfl;(first|rfl|simp);intro _)|(with_reducible intro _))
  exact .pure (by simp) rfl
theorem F7 (l : List Vl) (hz : zVs l < 2 ^ 39) : Con Tryz.prog 60 [.sl 6 (aV l)] (int (zVs l)):=by
 have : ∀ n,n < 2 ^ 39 → LgP n:=by
  intro n
  induction n using Nat.strongRecOn with
  | _ n ih=>exact fun hn=>JH hn fun n' h=>ih n' h (by omega)
 exact this _ hz l (Nat.le_refl _)
end Go.Proofs.YtfageokhpklkbaaGreatDoor
end

section
namespace Go.Proofs.YtfageokhpklkbaaGreatDoor
open Go Go.Aw Go.Nst
set_option maxRecDepth 100000
structure Cu where
 name : Str
 value : List Vl
def bX (c : Cu) : List AV:=[.str c.name,.sl 6 (aV c.value)]
def aq (l : List Cu) : List (List AV):=l.map bX
theorem bG : ∀ l,cd (aq l)
 | []=>by simp [aq,cd]
 | s :: l=>by have:=bG l;unfold aq at this ⊢;simp only [List.map_cons,cd];exact ⟨by simp [bX,bM,dC],this⟩
theorem uH : ∀ a b : Str,(pA a b || decide (a = b)) = !pA b a
 | [],[]=>rfl
 | [],_ :: _=>rfl
 | _ :: _,[]=>by simp [pA,Op.bytesLess]
 | x :: a,y :: b=>by
   have ih:=uH a b
   simp only [pA,Op.bytesLess] at ih ⊢
   rcases Nat.lt_trichotomy x.toNat y.toNat with h|h|h
   ·have h1 : x < y:=UInt8.lt_iff_toNat_lt.2 h
    have h2 : ¬ y < x:=fun q=>by have:=UInt8.lt_iff_toNat_lt.1 q;omega
    have h3 : ¬ y = x:=fun q=>by subst q;omega
    simp [h1,h2,h3]
   ·have h0 : x = y:=UInt8.toNat_inj.1 h
    subst h0
    have h2 : ¬ x < x:=fun q=>by have:=UInt8.lt_iff_toNat_lt.1 q;omega
    simpa [h2] using ih
   ·have h1 : y < x:=UInt8.lt_iff_toNat_lt.2 h
    have h2 : ¬ x < y:=fun q=>by have:=UInt8.lt_iff_toNat_lt.1 q;omega
    have h3 : ¬ x = y:=fun q=>by subst q;omega
    simp [h1,h2,h3]
theorem vz {x y : AV} {a b : List UInt8} {K : AV → Prop} (ex : x = .str a) (ey : y = .str b) (q : K (.v (.bool (!Op.bytesLess b a)))) : af .leq x y K:=by
 subst ex;subst ey
 have:=uH a b
 rw [← show (pA a b || decide (a = b)) = !Op.bytesLess b a from this] at q
 exact q
def l7 (l : List Cu) (k : Nat) : Str:=if k = 0 then [] else (l.map Cu.name).getD (k - 1) []
def nOk (l : List Cu) (k : Nat) : Bool:=da ((l.map Cu.name).getD k []) && Op.bytesLess (l7 l k) ((l.map Cu.name).getD k [])
def dx (l : List Cu) : Bool:=(List.range l.length).all (nOk l)
theorem uL {l : List Cu} (h : ∀ i,i < l.length → nOk l i = true) : dx l = true:=by
 unfold dx
 rw [List.all_eq_true]
 intro i hi
 exact h i (List.mem_range.1 hi)
theorem ji {l : List Cu} {i : Nat} (hi : i < l.length) (h : nOk l i = false) : dx l = false:=by
 cases e : dx l with
 | false=>rfl
 | true =>
   unfold dx at e
   rw [List.all_eq_true] at e
   rw [e i (List.mem_range.2 hi)] at h
   cases h
theorem Hh {s : Str} (h : da s = true) : Op.bytesLess [] s = true:=by
 cases s with
 | nil=>simp [da] at h
 | cons a s=>rfl
theorem xi {l : List Cu} {k : Nat} {c : Cu} (h : l[k]? = some c) : nOk l k = (da c.name && Op.bytesLess (l7 l k) c.name):=by
 unfold nOk
 rw [List.getD_eq_getElem?_getD,List.getElem?_map,h];rfl
theorem sJ {l : List Cu} {k : Nat} {c : Cu} (h : l[k]? = some c) : l7 l (k + 1) = c.name:=by
 unfold l7
 rw [if_neg (by omega),Nat.add_sub_cancel,List.getD_eq_getElem?_getD,List.getElem?_map,h];rfl
set_option maxHeartbeats 4000000 in
theorem ov (l : List Cu) (hl : l.length < 2 ^ 40) : Con Tryz.prog 64 [.sl 2 (aq l)] (bool (dx l)):=by
 refine (V64 _).gives (by simp [bG]) (by simp) ?_
 unfold W64
 refine aB (n:=l.length) rfl (by simp [aq]) fun _=>?_
 refine a7 (α:=Nat) (fun k=>k ≤ l.length ∧ ∀ i,i < k → nOk l i = true) (fun k=>[.str (l7 l k),int k]) (fun _=>[]) (fun k=>l.length - k) 0 ⟨by omega,fun i h=>by omega⟩ (Wk.refl _ _ _ (by simp)) ?_
 rintro k ⟨hk,hall⟩
 rcases Nat.lt_or_ge k l.length with q|q
 ·obtain ⟨⟨s,vs⟩,hs⟩ : ∃ x,l[k]? = some x:=⟨l[k],List.getElem?_eq_getElem q⟩
  have q1 : decide ((k : Int) < l.length) = true:=by simpa using q
  have hin : inI ((k : Int) + 1):=by unfold inI;omega
  have hok:=xi hs
  have hnx:=sJ hs
  simp only at hok hnx
  rw [← hnx] at hok
  obtain ⟨P,hP⟩ : ∃ P,l7 l k = P:=⟨_,rfl⟩
  rw [hP] at hok ⊢
  rw [hnx] at hok
  cases hc : da s with
  | false =>
    have g1 : (!da s) = true:=by rw [hc];rfl
    repeat' (first|(with_reducible first|apply aG|apply ar|refine And.intro True.intro ?_)|((with_reducible apply aF);rfl;rfl)|((with_reducible apply aP);rfl;rfl;first|assumption|(unfold inI;omega))|((with_reducible apply bF);rfl)|((with_reducible apply aE);rfl)|((with_reducible apply ax);rfl)|((with_reducible apply ak);rfl;first|rfl|assumption)|((with_reducible apply ag);rfl;first|rfl|assumption)|((with_reducible apply aA);rfl;first|rfl|assumption)|((with_reducible apply ay);rfl;first|rfl|assumption)|((with_reducible apply aC);rfl)|((with_reducible apply aD);rfl;rfl;rfl)|((with_reducible apply aY);rfl;first|rfl|simp)|((with_reducible apply bN);first|rfl|simp)|((with_reducible apply aZ);rfl;rfl;rfl;rfl;(first|exact Nat.le_refl _|simp);(first|rfl|simp);(first|rfl|simp))|((with_reducible apply aB);rfl;(first|rfl|simp);intro _)|(refine aI (by kernel_rfl) (kf s) ?_)|(refine bx (f:=bX) rfl rfl rfl hs ?_)|(refine aY rfl (by simp [bX]) ?_)|(refine aZ (cs:=[.str s,.sl 6 (aV vs)]) rfl rfl rfl rfl (Nat.le_refl _) rfl rfl ?_)|((with_reducible apply vz);rfl;rfl)|(with_reducible intro _))
    exact .pure (by simp) (by rw [ji q (by rw [hok,hc];rfl)])
  | true =>
    have g1 : (!da s) = false:=by rw [hc];rfl
    cases hb : Op.bytesLess P s with
    | false =>
      have g2 : (!Op.bytesLess P s) = true:=by rw [hb];rfl
      repeat' (first|(with_reducible first|apply aG|apply ar|refine And.intro True.intro ?_)|((with_reducible apply aF);rfl;rfl)|((with_reducible apply aP);rfl;rfl;first|assumption|(unfold inI;omega))|((with_reducible apply bF);rfl)|((with_reducible apply aE);rfl)|((with_reducible apply ax);rfl)|((with_reducible apply ak);rfl;first|rfl|assumption)|((with_reducible apply ag);rfl;first|rfl|assumption)|((with_reducible apply aA);rfl;first|rfl|assumption)|((with_reducible apply ay);rfl;first|rfl|assumption)|((with_reducible apply aC);rfl)|((with_reducible apply aD);rfl;rfl;rfl)|((with_reducible apply aY);rfl;first|rfl|simp)|((with_reducible apply bN);first|rfl|simp)|((with_reducible apply aZ);rfl;rfl;rfl;rfl;(first|exact Nat.le_refl _|simp);(first|rfl|simp);(first|rfl|simp))|((with_reducible apply aB);rfl;(first|rfl|simp);intro _)|(refine aI (by kernel_rfl) (kf s) ?_)|(refine bx (f:=bX) rfl rfl rfl hs ?_)|(refine aY rfl (by simp [bX]) ?_)|(refine aZ (cs:=[.str s,.sl 6 (aV vs)]) rfl rfl rfl rfl (Nat.le_refl _) rfl rfl ?_)|((with_reducible apply vz);rfl;rfl)|(with_reducible intro _))
      exact .pure (by simp) (by rw [ji q (by rw [hok,hc,hb];rfl)])
    | true =>
      have g2 : (!Op.bytesLess P s) = false:=by rw [hb];rfl
      repeat' (first|(with_reducible first|apply aG|apply ar|refine And.intro True.intro ?_)|((with_reducible apply aF);rfl;rfl)|((with_reducible apply aP);rfl;rfl;first|assumption|(unfold inI;omega))|((with_reducible apply bF);rfl)|((with_reducible apply aE);rfl)|((with_reducible apply ax);rfl)|((with_reducible apply ak);rfl;first|rfl|assumption)|((with_reducible apply ag);rfl;first|rfl|assumption)|((with_reducible apply aA);rfl;first|rfl|assumption)|((with_reducible apply ay);rfl;first|rfl|assumption)|((with_reducible apply aC);rfl)|((with_reducible apply aD);rfl;rfl;rfl)|((with_reducible apply aY);rfl;first|rfl|simp)|((with_reducible apply bN);first|rfl|simp)|((with_reducible apply aZ);rfl;rfl;rfl;rfl;(first|exact Nat.le_refl _|simp);(first|rfl|simp);(first|rfl|simp))|((with_reducible apply aB);rfl;(first|rfl|simp);intro _)|(refine aI (by kernel_rfl) (kf s) ?_)|(refine bx (f:=bX) rfl rfl rfl hs ?_)|(refine aY rfl (by simp [bX]) ?_)|(refine aZ (cs:=[.str s,.sl 6 (aV vs)]) rfl rfl rfl rfl (Nat.le_refl _) rfl rfl ?_)|((with_reducible apply vz);rfl;rfl)|(with_reducible intro _))
      refine ⟨k + 1,⟨q,fun i hi=>?_⟩, ?_,by omega⟩
      ·rcases Nat.lt_or_ge i k with z|z
       ·exact hall i z
       ·obtain rfl : i = k:=by omega
        rw [hok,hc,hb];rfl
      ·rw [hnx]
       first
        | exact Wk.refl _ _ _ (by simp)
        | exact Wk.back (M:=0) (by simp) (by simp) rfl rfl (by simp [dg]) (by simp [Bd])
        | exact Wk.le (by simp) (by simp)
 ·have hk : k = l.length:=by omega
  subst hk
  have q1 : decide ((l.length : Int) < l.length) = false:=by simp
  repeat' (first|(with_reducible first|apply aG|apply ar|refine And.intro True.intro ?_)|((with_reducible apply aF);rfl;rfl)|((with_reducible apply aP);rfl;rfl;first|assumption|(unfold inI;omega))|((with_reducible apply bF);rfl)|((with_reducible apply aE);rfl)|((with_reducible apply ax);rfl)|((with_reducible apply ak);rfl;first|rfl|assumption)|((with_reducible apply ag);rfl;first|rfl|assumption)|((with_reducible apply aA);rfl;first|rfl|assumption)|((with_reducible apply ay);rfl;first|rfl|assumption)|((with_reducible apply aC);rfl)|((with_reducible apply aD);rfl;rfl;rfl)|((with_reducible apply aY);rfl;first|rfl|simp)|((with_reducible apply bN);first|rfl|simp)|((with_reducible apply aZ);rfl;rfl;rfl;rfl;(first|exact Nat.le_refl _|simp);(first|rfl|simp);(first|rfl|simp))|((with_reducible apply aB);rfl;(first|rfl|simp);intro _)|(with_reducible intro _))
  exact .pure (by simp) (by rw [uL hall])
set_option maxHeartbeats 4000000 in
theorem Bl (l : List Cu) (hl : l.length < 2 ^ 40) : Con Tryz.prog 57 [.sl 2 (aq l)] (bool (dx l)):=by
 refine (V57 _).gives (by simp [bG]) (by simp) ?_
 unfold W57
 refine a7 (α:=Nat) (fun k=>k ≤ l.length ∧ ∀ i,i < k → nOk l i = true) (fun k=>[int k]) (fun _=>[]) (fun k=>l.length - k) 0 ⟨by omega,fun i h=>by omega⟩ (Wk.refl _ _ _ (by simp)) ?_
 rintro k ⟨hk,hall⟩
 refine aB (n:=l.length) rfl (by simp [aq]) fun _=>?_
 rcases Nat.lt_or_ge k l.length with q|q
 ·obtain ⟨⟨s,vs⟩,hs⟩ : ∃ x,l[k]? = some x:=⟨l[k],List.getElem?_eq_getElem q⟩
  have q1 : decide ((k : Int) < l.length) = true:=by simpa using q
  have hin : inI ((k : Int) + 1):=by unfold inI;omega
  have hok:=xi hs
  simp only at hok
  rcases Nat.eq_zero_or_pos k with hk0|hk0
  ·subst hk0
   have hp : l7 l 0 = []:=rfl
   rw [hp] at hok
   cases hc : da s with
   | false =>
     have g1 : (!da s) = true:=by rw [hc];rfl
     repeat' (first|(with_reducible first|apply aG|apply ar|refine And.intro True.intro ?_)|((with_reducible first|apply aF|apply bW);rfl;rfl)|((with_reducible apply aP);rfl;rfl;first|assumption|(unfold inI;omega))|((with_reducible apply kE);rfl;rfl;first|assumption|(unfold inI;omega))|((with_reducible apply bF);rfl)|((with_reducible apply ax);rfl)|((with_reducible apply ak);rfl;first|rfl|assumption)|((with_reducible apply ag);rfl;first|rfl|assumption)|((with_reducible apply aA);rfl;first|rfl|assumption)|((with_reducible apply ay);rfl;first|rfl|assumption)|((with_reducible apply cZ);rfl)|((with_reducible apply jr);rfl;first|rfl|assumption)|((with_reducible apply iU);rfl;first|rfl|assumption)|((with_reducible apply bt);rfl)|((with_reducible apply aR);rfl)|((with_reducible apply aB);rfl;(first|rfl|simp);intro _)|(refine cz rfl (by kernel_rfl) (ik s) ?_)|(refine bx (f:=bX) rfl rfl rfl hs ?_)|(with_reducible intro _))
     exact .pure (by simp) (by rw [ji q (by rw [hok,hc];rfl)])
   | true =>
     have g1 : (!da s) = false:=by rw [hc];rfl
     repeat' (first|(with_reducible first|apply aG|apply ar|refine And.intro True.intro ?_)|((with_reducible first|apply aF|apply bW);rfl;rfl)|((with_reducible apply aP);rfl;rfl;first|assumption|(unfold inI;omega))|((with_reducible apply kE);rfl;rfl;first|assumption|(unfold inI;omega))|((with_reducible apply bF);rfl)|((with_reducible apply ax);rfl)|((with_reducible apply ak);rfl;first|rfl|assumption)|((with_reducible apply ag);rfl;first|rfl|assumption)|((with_reducible apply aA);rfl;first|rfl|assumption)|((with_reducible apply ay);rfl;first|rfl|assumption)|((with_reducible apply cZ);rfl)|((with_reducible apply jr);rfl;first|rfl|assumption)|((with_reducible apply iU);rfl;first|rfl|assumption)|((with_reducible apply bt);rfl)|((with_reducible apply aR);rfl)|((with_reducible apply aB);rfl;(first|rfl|simp);intro _)|(refine cz rfl (by kernel_rfl) (ik s) ?_)|(refine bx (f:=bX) rfl rfl rfl hs ?_)|(with_reducible intro _))
     refine ⟨1,⟨q,fun i hi=>?_⟩,Wk.refl _ _ _ (by simp),by omega⟩
     obtain rfl : i = 0:=by omega
     rw [hok,hc,Hh hc];rfl
  ·obtain ⟨⟨p,pv⟩,hp⟩ : ∃ x,l[k - 1]? = some x:=⟨l[k - 1]'(by omega),List.getElem?_eq_getElem _⟩
   have hsub : inI ((k : Int) - 1):=by unfold inI;omega
   have ek : ((k : Int) - 1) = ((k - 1 : Nat) : Int):=by omega
   have gk : decide ((0 : Int) < k) = true:=by simp;omega
   have hpp:=sJ hp
   rw [show k - 1 + 1 = k by omega] at hpp
   simp only at hpp
   rw [hpp] at hok
   cases hc : da s with
   | false =>
     have g1 : (!da s) = true:=by rw [hc];rfl
     repeat' (first|(with_reducible first|apply aG|apply ar|refine And.intro True.intro ?_)|((with_reducible first|apply aF|apply bW);rfl;rfl)|((with_reducible apply aP);rfl;rfl;first|assumption|(unfold inI;omega))|((with_reducible apply kE);rfl;rfl;first|assumption|(unfold inI;omega))|((with_reducible apply bF);rfl)|((with_reducible apply ax);rfl)|((with_reducible apply ak);rfl;first|rfl|assumption)|((with_reducible apply ag);rfl;first|rfl|assumption)|((with_reducible apply aA);rfl;first|rfl|assumption)|((with_reducible apply ay);rfl;first|rfl|assumption)|((with_reducible apply cZ);rfl)|((with_reducible apply jr);rfl;first|rfl|assumption)|((with_reducible apply iU);rfl;first|rfl|assumption)|((with_reducible apply bt);rfl)|((with_reducible apply aR);rfl)|((with_reducible apply aB);rfl;(first|rfl|simp);intro _)|(refine cz rfl (by kernel_rfl) (ik s) ?_)|(refine bx (f:=bX) rfl rfl rfl hs ?_)|(refine bx (f:=bX) rfl rfl (congrArg (fun n=>AV.v (.int .i64 n)) ek) hp ?_)|((with_reducible apply vw);rfl;rfl)|(with_reducible intro _))
     exact .pure (by simp) (by rw [ji q (by rw [hok,hc];rfl)])
   | true =>
     have g1 : (!da s) = false:=by rw [hc];rfl
     cases hb : Op.bytesLess p s with
     | false =>
       have g2 : (!Op.bytesLess p s) = true:=by rw [hb];rfl
       repeat' (first|(with_reducible first|apply aG|apply ar|refine And.intro True.intro ?_)|((with_reducible first|apply aF|apply bW);rfl;rfl)|((with_reducible apply aP);rfl;rfl;first|assumption|(unfold inI;omega))|((with_reducible apply kE);rfl;rfl;first|assumption|(unfold inI;omega))|((with_reducible apply bF);rfl)|((with_reducible apply ax);rfl)|((with_reducible apply ak);rfl;first|rfl|assumption)|((with_reducible apply ag);rfl;first|rfl|assumption)|((with_reducible apply aA);rfl;first|rfl|assumption)|((with_reducible apply ay);rfl;first|rfl|assumption)|((with_reducible apply cZ);rfl)|((with_reducible apply jr);rfl;first|rfl|assumption)|((with_reducible apply iU);rfl;first|rfl|assumption)|((with_reducible apply bt);rfl)|((with_reducible apply aR);rfl)|((with_reducible apply aB);rfl;(first|rfl|simp);intro _)|(refine cz rfl (by kernel_rfl) (ik s) ?_)|(refine bx (f:=bX) rfl rfl rfl hs ?_)|(refine bx (f:=bX) rfl rfl (congrArg (fun n=>AV.v (.int .i64 n)) ek) hp ?_)|((with_reducible apply vw);rfl;rfl)|(with_reducible intro _))
       exact .pure (by simp) (by rw [ji q (by rw [hok,hc,hb];rfl)])
     | true =>
       have g2 : (!Op.bytesLess p s) = false:=by rw [hb];rfl
       repeat' (first|(with_reducible first|apply aG|apply ar|refine And.intro True.intro ?_)|((with_reducible first|apply aF|apply bW);rfl;rfl)|((with_reducible apply aP);rfl;rfl;first|assumption|(unfold inI;omega))|((with_reducible apply kE);rfl;rfl;first|assumption|(unfold inI;omega))|((with_reducible apply bF);rfl)|((with_reducible apply ax);rfl)|((with_reducible apply ak);rfl;first|rfl|assumption)|((with_reducible apply ag);rfl;first|rfl|assumption)|((with_reducible apply aA);rfl;first|rfl|assumption)|((with_reducible apply ay);rfl;first|rfl|assumption)|((with_reducible apply cZ);rfl)|((with_reducible apply jr);rfl;first|rfl|assumption)|((with_reducible apply iU);rfl;first|rfl|assumption)|((with_reducible apply bt);rfl)|((with_reducible apply aR);rfl)|((with_reducible apply aB);rfl;(first|rfl|simp);intro _)|(refine cz rfl (by kernel_rfl) (ik s) ?_)|(refine bx (f:=bX) rfl rfl rfl hs ?_)|(refine bx (f:=bX) rfl rfl (congrArg (fun n=>AV.v (.int .i64 n)) ek) hp ?_)|((with_reducible apply vw);rfl;rfl)|(with_reducible intro _))
       refine ⟨k + 1,⟨q,fun i hi=>?_⟩,Wk.refl _ _ _ (by simp),by omega⟩
       rcases Nat.lt_or_ge i k with z|z
       ·exact hall i z
       ·obtain rfl : i = k:=by omega
        rw [hok,hc,hb];rfl
 ·have hk : k = l.length:=by omega
  subst hk
  have q1 : decide ((l.length : Int) < l.length) = false:=by simp
  repeat' (first|(with_reducible first|apply aG|apply ar|refine And.intro True.intro ?_)|((with_reducible first|apply aF|apply bW);rfl;rfl)|((with_reducible apply aP);rfl;rfl;first|assumption|(unfold inI;omega))|((with_reducible apply kE);rfl;rfl;first|assumption|(unfold inI;omega))|((with_reducible apply bF);rfl)|((with_reducible apply ax);rfl)|((with_reducible apply ak);rfl;first|rfl|assumption)|((with_reducible apply ag);rfl;first|rfl|assumption)|((with_reducible apply aA);rfl;first|rfl|assumption)|((with_reducible apply ay);rfl;first|rfl|assumption)|((with_reducible apply cZ);rfl)|((with_reducible apply jr);rfl;first|rfl|assumption)|((with_reducible apply iU);rfl;first|rfl|assumption)|((with_reducible apply bt);rfl)|((with_reducible apply aR);rfl)|((with_reducible apply aB);rfl;(first|rfl|simp);intro _)|(with_reducible intro _))
  exact .pure (by simp) (by rw [uL hall])
end Go.Proofs.YtfageokhpklkbaaGreatDoor
end

section
namespace Go.Proofs.YtfageokhpklkbaaGreatDoor
open Go Go.Aw Go.Nst
set_option maxRecDepth 100000
def iM (b : UInt8) : UInt8:=if 65 ≤ b ∧ b ≤ 90 then b + 32 else b
def fq (s : Str) : Str:=s.map iM
theorem JK (b : UInt8) (h1 : 65 ≤ (b.toNat : Int)) (h2 : (b.toNat : Int) ≤ 90) : IntKind.u8.wrap (IntKind.u8.wrap ((b.toNat : Int) + 97) - 65) = ((iM b).toNat : Int):=by
 have : ∀ n : Fin 26,IntKind.u8.wrap (IntKind.u8.wrap (((65 + n.val : Nat) : Int) + 97) - 65) = ((iM (UInt8.ofNat (65 + n.val))).toNat : Int):=by decide
 have hb : b = UInt8.ofNat (65 + (b.toNat - 65)):=by
  rw [show 65 + (b.toNat - 65) = b.toNat by omega];simp
 have h:=this ⟨b.toNat - 65,by omega⟩
 simp only [show 65 + (b.toNat - 65) = b.toNat by omega] at h
 rw [h];simp
theorem Hk (b : UInt8) (h1 : 65 ≤ (b.toNat : Int)) (h2 : (b.toNat : Int) ≤ 90) : IntKind.u8.wrap ((b.toNat : Int) + 32) = ((iM b).toNat : Int):=by
 have : ∀ n : Fin 26,IntKind.u8.wrap (((65 + n.val : Nat) : Int) + 32) = ((iM (UInt8.ofNat (65 + n.val))).toNat : Int):=by decide
 have hb : b = UInt8.ofNat (65 + (b.toNat - 65)):=by
  rw [show 65 + (b.toNat - 65) = b.toNat by omega];simp
 have h:=this ⟨b.toNat - 65,by omega⟩
 simp only [show 65 + (b.toNat - 65) = b.toNat by omega] at h
 rw [h];simp
theorem pD (b : UInt8) (h : ¬ (65 ≤ (b.toNat : Int) ∧ (b.toNat : Int) ≤ 90)) : iM b = b:=by
 unfold iM
 rw [if_neg]
 intro ⟨h1,h2⟩
 rw [UInt8.le_iff_toNat_le] at h1 h2
 simp at h1 h2
 omega
def dz (s : Str) (k : Nat) : List AV:=((s.take k).map iM ++ s.drop k).map fe
theorem pW {s : Str} {k : Nat} {b : UInt8} (hb : s[k]? = some b) : (dz s k)[k]? = some (fe b):=by
 have hk:=(List.getElem?_eq_some_iff.1 hb).1
 unfold dz
 rw [List.getElem?_map,List.getElem?_append_right (by simp;omega)]
 simp [Nat.min_eq_left (Nat.le_of_lt hk),hb]
theorem fV {s : Str} {k : Nat} {b : UInt8} (hb : s[k]? = some b) : (dz s k).set k (fe (iM b)) = dz s (k + 1):=by
 have hk:=(List.getElem?_eq_some_iff.1 hb).1
 refine List.ext_getElem? fun j=>?_
 unfold dz
 rcases Nat.lt_trichotomy j k with q|q|q
 ·rw [List.getElem?_set_ne (by omega),List.getElem?_map,List.getElem?_map,List.getElem?_append_left (by simp;omega),List.getElem?_append_left (by simp;omega)]
  simp [q,Nat.lt_succ_of_lt q]
 ·subst q
  rw [List.getElem?_set_self (by simp;omega),List.getElem?_map,List.getElem?_append_left (by simp;omega)]
  simp [hb]
 ·rw [List.getElem?_set_ne (by omega),List.getElem?_map,List.getElem?_map,List.getElem?_append_right (by simp;omega),List.getElem?_append_right (by simp;omega)]
  simp [Nat.min_eq_left (Nat.le_of_lt hk),Nat.min_eq_left hk]
  congr 2;omega
theorem pX (s : Str) (k : Nat) : (dz s k).length = s.length:=by
 unfold dz;simp;omega

theorem DS {x y : AV} {a b : Int} {K : AV → Prop} (ex : x = .v (.int .u8 a)) (ey : y = .v (.int .u8 b)) (q : K (.v (.int .u8 (IntKind.u8.wrap (a + b))))) : af .add x y K:=by subst ex;subst ey;exact ⟨rfl,q⟩
theorem KX {x y : AV} {a b : Int} {K : AV → Prop} (ex : x = .v (.int .u8 a)) (ey : y = .v (.int .u8 b)) (q : K (.v (.int .u8 (IntKind.u8.wrap (a - b))))) : af .sub x y K:=by subst ex;subst ey;exact ⟨rfl,q⟩

set_option maxHeartbeats 4000000 in
theorem D8 (s : Str) : Con Tryz.prog 108 [.str s] (.str (fq s)):=by
 refine (NM _).gives (by simp) (by simp) ?_
 unfold Kv
 rw [rS,Ez]
 intro hlen
 refine a7 (α:=Nat) (fun k=>k ≤ s.length) (fun k=>[int k]) (fun k=>[.blk ⟨5,dz s k,true⟩]) (fun k=>s.length - k) 0 (by simp) (by simpa [dz] using Wk.refl _ _ _ (by simp)) ?_
 intro k hk
 skip
 by_cases q : k < s.length
 ·obtain ⟨b,hb⟩ : ∃ b,s[k]? = some b:=⟨s[k],List.getElem?_eq_getElem q⟩
  have hc:=pW hb
  have q1 : decide ((k : Int) < s.length) = true:=by simpa using q
  have hin : inI ((k : Int) + 1):=by unfold maxLen at hlen;unfold inI;omega
  have idx : ∀ {K : AV → Prop},K (.op 0 k) → aO 1 (.own 0 0 s.length 1) (nx [int k] 0) K:=fun q2=>by
   rw [fW,yZ];exact ⟨rfl,⟨by omega,by omega⟩,by simpa using q2⟩
  by_cases h1 : 65 ≤ (b.toNat : Int)
  ·have g1 : decide (65 ≤ (b.toNat : Int)) = true:=by simpa using h1
   by_cases h2 : (b.toNat : Int) ≤ 90
   ·have g2 : decide ((b.toNat : Int) ≤ 90) = true:=by simpa using h2
    repeat' (first|(refine aD rfl rfl hc ?_)|(refine idx ?_)|((with_reducible apply DS);rfl;rfl)|((with_reducible apply KX);rfl;rfl)|(refine aZ (cs:=[fe (iM b)]) rfl rfl rfl (by rw [JK b h1 h2];rfl) (by simp [pX];omega) rfl rfl ?_)|(with_reducible first|apply aG|apply ar|refine And.intro True.intro ?_)|((with_reducible first|apply aF|apply eE|apply dq);rfl;rfl)|((with_reducible apply aP);rfl;rfl;first|assumption|(unfold inI;omega))|((with_reducible apply aE);rfl)|((with_reducible apply ax);rfl)|((with_reducible apply ak);rfl;first|rfl|assumption)|((with_reducible apply ag);rfl;first|rfl|assumption)|((with_reducible apply aA);rfl;first|rfl|assumption)|((with_reducible apply ay);rfl;first|rfl|assumption)|((with_reducible apply aD);rfl;rfl;rfl)|((with_reducible apply aZ);rfl;rfl;rfl;rfl;(first|exact Nat.le_refl _|simp);(first|rfl|simp);(first|rfl|simp))|(with_reducible intro _))
    refine ⟨k + 1,by omega, ?_,by omega⟩
    have:=fV hb
    rw [show cx (dz s k) k [fe (iM b)] = dz s (k + 1) from this]
    exact Wk.refl _ _ _ (by simp)
   ·have g2 : decide ((b.toNat : Int) ≤ 90) = false:=by simpa using h2
    repeat' (first|(refine aD rfl rfl hc ?_)|(refine idx ?_)|(with_reducible first|apply aG|apply ar|refine And.intro True.intro ?_)|((with_reducible first|apply aF|apply eE|apply dq);rfl;rfl)|((with_reducible apply aP);rfl;rfl;first|assumption|(unfold inI;omega))|((with_reducible apply aE);rfl)|((with_reducible apply ax);rfl)|((with_reducible apply ak);rfl;first|rfl|assumption)|((with_reducible apply ag);rfl;first|rfl|assumption)|((with_reducible apply aA);rfl;first|rfl|assumption)|((with_reducible apply ay);rfl;first|rfl|assumption)|((with_reducible apply aD);rfl;rfl;rfl)|((with_reducible apply aZ);rfl;rfl;rfl;rfl;(first|exact Nat.le_refl _|simp);(first|rfl|simp);(first|rfl|simp))|(with_reducible intro _))
    refine ⟨k + 1,by omega, ?_,by omega⟩
    have:=fV hb
    rw [pD b (by omega),lD hc] at this
    rw [← this]
    exact Wk.refl _ _ _ (by simp)
  ·have g1 : decide (65 ≤ (b.toNat : Int)) = false:=by simpa using h1
   repeat' (first|(refine aD rfl rfl hc ?_)|(refine idx ?_)|(with_reducible first|apply aG|apply ar|refine And.intro True.intro ?_)|((with_reducible first|apply aF|apply eE|apply dq);rfl;rfl)|((with_reducible apply aP);rfl;rfl;first|assumption|(unfold inI;omega))|((with_reducible apply aE);rfl)|((with_reducible apply ax);rfl)|((with_reducible apply ak);rfl;first|rfl|assumption)|((with_reducible apply ag);rfl;first|rfl|assumption)|((with_reducible apply aA);rfl;first|rfl|assumption)|((with_reducible apply ay);rfl;first|rfl|assumption)|((with_reducible apply aD);rfl;rfl;rfl)|((with_reducible apply aZ);rfl;rfl;rfl;rfl;(first|exact Nat.le_refl _|simp);(first|rfl|simp);(first|rfl|simp))|(with_reducible intro _))
   refine ⟨k + 1,by omega, ?_,by omega⟩
   have:=fV hb
   rw [pD b (by omega),lD hc] at this
   rw [← this]
   exact Wk.refl _ _ _ (by simp)
 ·obtain rfl : k = s.length:=by omega
  refine aF rfl rfl ?_
  refine ag rfl (by simp) ?_
  refine uk (id:=0) (b:=⟨5,dz s s.length,true⟩) (l:=fq s) (by simp [fq]) rfl (by simp [dz,fq]) ?_
  exact .pure (by simp) rfl

set_option maxHeartbeats 4000000 in
theorem Bk (s : Str) : Con Tryz.prog 100 [.str s] (.str (fq s)):=by
 refine (NH _).gives (by simp) (by simp) ?_
 unfold Kq
 rw [rS]
 skip
 refine a7 (α:=Nat) (fun k=>k ≤ s.length) (fun k=>[int k]) (fun k=>[.blk ⟨5,dz s k,true⟩]) (fun k=>s.length - k) 0 (by simp) (by simpa [dz] using Wk.refl _ _ _ (by simp)) ?_
 intro k hk
 rw [Ez];intro hlen
 by_cases q : k < s.length
 ·obtain ⟨b,hb⟩ : ∃ b,s[k]? = some b:=⟨s[k],List.getElem?_eq_getElem q⟩
  have hc:=pW hb
  have q1 : decide ((k : Int) < s.length) = true:=by simpa using q
  have hin : inI ((k : Int) + 1):=by unfold maxLen at hlen;unfold inI;omega
  have idx : ∀ {K : AV → Prop},K (.op 0 k) → aO 1 (.own 0 0 s.length 1) (nx [int k] 0) K:=fun q2=>by
   rw [fW,yZ];exact ⟨rfl,⟨by omega,by omega⟩,by simpa using q2⟩
  by_cases h1 : 65 ≤ (b.toNat : Int)
  ·have g1 : decide (65 ≤ (b.toNat : Int)) = true:=by simpa using h1
   by_cases h2 : (b.toNat : Int) ≤ 90
   ·have g2 : decide ((b.toNat : Int) ≤ 90) = true:=by simpa using h2
    repeat' (first|(refine aD rfl rfl hc ?_)|(refine idx ?_)|((with_reducible apply DS);rfl;rfl)|(refine aZ (cs:=[fe (iM b)]) rfl rfl rfl (by rw [Hk b h1 h2];rfl) (by simp [pX];omega) rfl rfl ?_)|(with_reducible first|apply aG|apply ar|refine And.intro True.intro ?_)|((with_reducible first|apply aF|apply eE|apply dq);rfl;rfl)|((with_reducible apply aP);rfl;rfl;first|assumption|(unfold inI;omega))|((with_reducible apply aE);rfl)|((with_reducible apply ax);rfl)|((with_reducible apply ak);rfl;first|rfl|assumption)|((with_reducible apply ag);rfl;first|rfl|assumption)|((with_reducible apply aA);rfl;first|rfl|assumption)|((with_reducible apply ay);rfl;first|rfl|assumption)|((with_reducible apply aD);rfl;rfl;rfl)|((with_reducible apply aZ);rfl;rfl;rfl;rfl;(first|exact Nat.le_refl _|simp);(first|rfl|simp);(first|rfl|simp))|(with_reducible intro _))
    refine ⟨k + 1,by omega, ?_,by omega⟩
    have:=fV hb
    rw [show cx (dz s k) k [fe (iM b)] = dz s (k + 1) from this]
    exact Wk.refl _ _ _ (by simp)
   ·have g2 : decide ((b.toNat : Int) ≤ 90) = false:=by simpa using h2
    repeat' (first|(refine aD rfl rfl hc ?_)|(refine idx ?_)|(with_reducible first|apply aG|apply ar|refine And.intro True.intro ?_)|((with_reducible first|apply aF|apply eE|apply dq);rfl;rfl)|((with_reducible apply aP);rfl;rfl;first|assumption|(unfold inI;omega))|((with_reducible apply aE);rfl)|((with_reducible apply ax);rfl)|((with_reducible apply ak);rfl;first|rfl|assumption)|((with_reducible apply ag);rfl;first|rfl|assumption)|((with_reducible apply aA);rfl;first|rfl|assumption)|((with_reducible apply ay);rfl;first|rfl|assumption)|((with_reducible apply aD);rfl;rfl;rfl)|((with_reducible apply aZ);rfl;rfl;rfl;rfl;(first|exact Nat.le_refl _|simp);(first|rfl|simp);(first|rfl|simp))|(with_reducible intro _))
    refine ⟨k + 1,by omega, ?_,by omega⟩
    have:=fV hb
    rw [pD b (by omega),lD hc] at this
    rw [← this]
    exact Wk.refl _ _ _ (by simp)
  ·have g1 : decide (65 ≤ (b.toNat : Int)) = false:=by simpa using h1
   repeat' (first|(refine aD rfl rfl hc ?_)|(refine idx ?_)|(with_reducible first|apply aG|apply ar|refine And.intro True.intro ?_)|((with_reducible first|apply aF|apply eE|apply dq);rfl;rfl)|((with_reducible apply aP);rfl;rfl;first|assumption|(unfold inI;omega))|((with_reducible apply aE);rfl)|((with_reducible apply ax);rfl)|((with_reducible apply ak);rfl;first|rfl|assumption)|((with_reducible apply ag);rfl;first|rfl|assumption)|((with_reducible apply aA);rfl;first|rfl|assumption)|((with_reducible apply ay);rfl;first|rfl|assumption)|((with_reducible apply aD);rfl;rfl;rfl)|((with_reducible apply aZ);rfl;rfl;rfl;rfl;(first|exact Nat.le_refl _|simp);(first|rfl|simp);(first|rfl|simp))|(with_reducible intro _))
   refine ⟨k + 1,by omega, ?_,by omega⟩
   have:=fV hb
   rw [pD b (by omega),lD hc] at this
   rw [← this]
   exact Wk.refl _ _ _ (by simp)
 ·obtain rfl : k = s.length:=by omega
  refine aF rfl rfl ?_
  refine ag rfl (by simp) ?_
  refine uk (id:=0) (b:=⟨5,dz s s.length,true⟩) (l:=fq s) (by simp [fq]) rfl (by simp [dz,fq]) ?_
  exact .pure (by simp) rfl
end Go.Proofs.YtfageokhpklkbaaGreatDoor
end

section
namespace Go.Proofs.YtfageokhpklkbaaGreatDoor
open Go Go.Aw Go.Nst
set_option maxRecDepth 100000
def xO : Str:=[118,97,114]
mutual
def iR : Vl → Bool
 | .mk k t _ _ _ l=>decide (k = 2) && decide (fq t = xO) || bT l
def bT : List Vl → Bool
 | []=>false
 | v :: l=>iR v || bT l
end
theorem o5 : ∀ a b : List Vl,bT (a ++ b) = (bT a || bT b)
 | [],b=>by simp [bT]
 | v :: a,b=>by rw [List.cons_append,bT,bT,o5 a b,Bool.or_assoc]
theorem o6 {l : List Vl} {v : Vl} (h : v ∈ l) (hv : iR v = true) : bT l = true:=by
 induction l with
 | nil=>cases h
 | cons y l ih =>
   rw [bT]
   rcases List.mem_cons.1 h with rfl|h
   ·rw [hv];rfl
   ·rw [ih h,Bool.or_true]
theorem sV {l : List Vl} {k : Nat} {v : Vl} (h : l[k]? = some v) : bT (l.take (k + 1)) = (bT (l.take k) || iR v):=by
 rw [List.take_add_one,h,o5];simp [bT]
theorem qb {n : Nat} {x : AV} {cs ds : List AV} {h : aa} {K : AV → Prop} (e : x = .ip cs) (hn : n ≤ cs.length) (ht : cs.take n = ds) (q : K (.agg ds)) : ab true n x h K:=by
 subst e;subst ht
 rw [po]
 exact ⟨hn,q⟩
def RvP (n : Nat) : Prop:=∀ (l : List Vl),zVs l ≤ n → Con Tryz.prog 59 [.sl 6 (aV l)] (bool (bT l))
set_option maxHeartbeats 4000000 in
theorem J0 {n : Nat} (hn : n < 2 ^ 39) (hP : ∀ n',n' < n → RvP n') : RvP n:=by
 intro l hz
 refine (V59 _).gives (by simp [dC]) (by simp) ?_
 unfold W59
 have hlen : (aV l).length = l.length:=by simp [bf]
 have hll:=eW l
 refine a7 (α:=Nat) (fun k=>k ≤ l.length ∧ bT (l.take k) = false) (fun k=>[int k]) (fun _=>[]) (fun k=>l.length - k) 0 (by simp [bT]) (Wk.refl _ _ _ (by simp)) ?_
 rintro k ⟨hk,hnot⟩
 refine aB (n:=l.length) rfl hlen fun _=>?_
 refine aF rfl rfl ?_
 rcases Nat.lt_or_ge k l.length with q|q
 ·obtain ⟨⟨kd,tx,nu,un',fl,l2⟩,hx⟩ : ∃ x,l[k]? = some x:=⟨l[k],List.getElem?_eq_getElem q⟩
  have hin : inI ((k : Int) + 1):=by unfold inI;omega
  have hzv:=eX (List.mem_of_getElem? hx)
  rw [zV] at hzv
  have q1 : decide ((k : Int) < l.length) = true:=by simpa using q
  have hrec : Con Tryz.prog 59 [.sl 6 (aV l2)] (bool (bT l2)):=hP (zVs l2) (by omega) l2 (Nat.le_refl _)
  have d1:=sV hx
  have d2:=o6 (List.mem_of_getElem? hx)
  rw [iR] at d1 d2
  rw [hnot] at d1
  have ed:=dc (.mk kd tx nu un' fl l2)
  have hm : ∀ {b : Bool},decide (kd = 2) = b → True:=fun _=>trivial
  cases g1 : decide (kd = 2) <;> cases g2 : decide (fq tx = [118,97,114]) <;> cases g3 : bT l2
  all_goals
   rw [g3] at hrec
   repeat' (first|(refine aI (by kernel_rfl) hrec ?_)|(refine qb (n:=5) (ds:=[u1 kd,.str tx,int nu,.str un',bool fl]) rfl (by first|decide|simp [cy]) (by first|rfl|simp [cy]) ?_)|(refine aZ (cs:=[u1 kd,.str tx,int nu,.str un',bool fl]) rfl rfl rfl rfl (Nat.le_refl _) rfl rfl ?_)|(with_reducible first|apply aG|apply ar|refine And.intro True.intro ?_)|((with_reducible first|apply aF|apply bR);rfl;rfl)|((with_reducible apply de);rfl;rfl)|((with_reducible apply aP);rfl;rfl;first|assumption|(unfold inI;omega))|((with_reducible apply aE);rfl)|((with_reducible apply ax);rfl)|((with_reducible apply ak);rfl;first|rfl|assumption)|((with_reducible apply ag);rfl;first|rfl|assumption)|((with_reducible apply aA);rfl;first|rfl|assumption)|((with_reducible apply ay);rfl;first|rfl|assumption)|((with_reducible apply aC);rfl)|((with_reducible apply bt);rfl)|((with_reducible apply aD);rfl;rfl;rfl)|((with_reducible apply bN);first|rfl|simp)|((with_reducible apply aZ);rfl;rfl;rfl;rfl;(first|exact Nat.le_refl _|simp);(first|rfl|simp);(first|rfl|simp))|((with_reducible apply aB);rfl;(first|rfl|simp);intro _)|(refine aI (by kernel_rfl) (Bk tx) ?_)|(refine bx rfl (bf l) rfl hx ?_)|(with_reducible intro _))
  all_goals first
   | (refine .pure (by simp) ?_
      rw [d2 (by rw [g1,show decide (fq tx = xO) = _ from g2,g3];rfl)];done)
   | (refine ⟨k + 1,⟨q,by rw [d1,g1,show decide (fq tx = xO) = _ from g2,g3];rfl⟩, ?_,by omega⟩
      first
       | exact Wk.refl _ _ _ (by simp)
       | exact Wk.back (M:=0) (by simp) (by simp) rfl rfl (by simp [dg]) (by simp [Bd])
       | exact Wk.le (by simp) (by simp))
 ·have hk : k = l.length:=by omega
  subst hk
  rw [List.take_length] at hnot
  have q1 : decide ((l.length : Int) < l.length) = false:=by simp
  repeat' (first|(with_reducible first|apply aG|apply ar|refine And.intro True.intro ?_)|((with_reducible first|apply aF|apply bR);rfl;rfl)|((with_reducible apply de);rfl;rfl)|((with_reducible apply aP);rfl;rfl;first|assumption|(unfold inI;omega))|((with_reducible apply aE);rfl)|((with_reducible apply ax);rfl)|((with_reducible apply ak);rfl;first|rfl|assumption)|((with_reducible apply ag);rfl;first|rfl|assumption)|((with_reducible apply aA);rfl;first|rfl|assumption)|((with_reducible apply ay);rfl;first|rfl|assumption)|((with_reducible apply aC);rfl)|((with_reducible apply bt);rfl)|((with_reducible apply aD);rfl;rfl;rfl)|((with_reducible apply bN);first|rfl|simp)|((with_reducible apply aZ);rfl;rfl;rfl;rfl;(first|exact Nat.le_refl _|simp);(first|rfl|simp);(first|rfl|simp))|((with_reducible apply aB);rfl;(first|rfl|simp);intro _)|(with_reducible intro _))
  exact .pure (by simp) (by rw [hnot])
theorem Gd (l : List Vl) (hz : zVs l < 2 ^ 39) : Con Tryz.prog 59 [.sl 6 (aV l)] (bool (bT l)):=by
 have : ∀ n,n < 2 ^ 39 → RvP n:=by
  intro n
  induction n using Nat.strongRecOn with
  | _ n ih=>exact fun hn=>J0 hn fun n' h=>ih n' h (by omega)
 exact this _ hz l (Nat.le_refl _)
/-! ### The program -/
def VpP (n : Nat) : Prop:=∀ (l : List Vl),zVs l ≤ n → Con Tryz.prog 66 [.sl 6 (aV l)] (bool (bT l))
set_option maxHeartbeats 4000000 in
theorem F8 (v : Vl) (hrec : Con Tryz.prog 66 [.sl 6 (aV v.list)] (bool (bT v.list))) : Con Tryz.prog 107 [.agg (cy v)] (bool (iR v)):=by
 refine (NL _).gives (by simp [DA]) (by simp) ?_
 unfold Ku
 obtain ⟨kd,tx,nu,un',fl,l2⟩:=v
 rw [cy,iR]
 have hrec : Con Tryz.prog 66 [.sl 6 (aV l2)] (bool (bT l2)):=hrec
 cases g1 : decide (kd = 2) <;> cases g2 : decide (fq tx = [118,97,114]) <;> cases g3 : bT l2
 all_goals
  rw [g3] at hrec
  repeat' (first|(refine aI (by kernel_rfl) hrec ?_)|(with_reducible first|apply aG|apply ar|refine And.intro True.intro ?_)|((with_reducible apply bR);rfl;rfl)|((with_reducible apply de);rfl;rfl)|((with_reducible apply aE);rfl)|((with_reducible apply ax);rfl)|((with_reducible apply aA);rfl;first|rfl|assumption)|((with_reducible apply ay);rfl;first|rfl|assumption)|((with_reducible apply aC);rfl)|((with_reducible apply aD);rfl;rfl;rfl)|((with_reducible apply bN);first|rfl|simp)|(refine aI (by kernel_rfl) (D8 tx) ?_)|(with_reducible intro _))
 all_goals exact .pure (by simp) (by rw [show decide (fq tx = xO) = _ from g2];rfl)
set_option maxHeartbeats 4000000 in
theorem yx {l : List Vl} (hl : l.length < 2 ^ 40) (hc : ∀ v ∈ l,Con Tryz.prog 107 [.agg (cy v)] (bool (iR v))) {K : AV → aa → Prop} (kk : ∀ i : Int,(0 ≤ i ↔ bT l = true) → K (int i) []) :
 aH Tryz.prog (.fn (.func 152) [] []) [.sl 6 (aV l),.fn (.func 107) [] []] [] K:=by
 refine ⟨by kernel_rfl, ?_⟩
 simp only [List.nil_append,List.append_nil]
 refine (NV _ _).gg ?_
 unfold KD
 refine aB (n:=l.length) rfl (by simp [bf]) fun _=>?_
 refine a7 (α:=Nat) (fun k=>k ≤ l.length ∧ bT (l.take k) = false) (fun k=>[int k]) (fun _=>[]) (fun k=>l.length - k) 0 (by simp [bT]) (Wk.refl _ _ _ (by simp)) ?_
 rintro k ⟨hk,hnot⟩
 refine aF rfl rfl ?_
 rcases Nat.lt_or_ge k l.length with q|q
 ·obtain ⟨v,hx⟩ : ∃ x,l[k]? = some x:=⟨l[k],List.getElem?_eq_getElem q⟩
  have hcv:=hc v (List.mem_of_getElem? hx)
  have d1:=sV hx
  refine ak rfl (by simpa using q) ?_
  refine bx rfl (bf l) rfl hx ?_
  refine aY rfl (by simp [dc]) ?_
  refine aI (by kernel_rfl) hcv ?_
  refine cA rfl (fun hb=>?_) (fun hb=>?_)
  ·refine ⟨_,_,Wk.refl _ _ _ (by simp), ?_⟩
   exact kk k ⟨fun _=>o6 (List.mem_of_getElem? hx) hb,fun _=>by omega⟩
  ·refine aP rfl rfl (by unfold inI;omega) ?_
   refine ar ?_
   exact ⟨k + 1,⟨by omega,by rw [d1,hnot,hb];rfl⟩,Wk.refl _ _ _ (by simp),by omega⟩
 ·obtain rfl : k = l.length:=by omega
  rw [List.take_length] at hnot
  refine ag rfl (by simp) ?_
  refine ⟨_,_,Wk.refl _ _ _ (by simp), ?_⟩
  exact kk (-1) ⟨fun h=>by omega,fun h=>by rw [hnot] at h;cases h⟩
theorem Kn {n : Nat} (hn : n < 2 ^ 39) (hP : ∀ n',n' < n → VpP n') : VpP n:=by
 intro l hz
 refine (V66 _).gives (by simp [dC]) (by simp) ?_
 unfold W66
 refine ⟨by kernel_rfl, ?_⟩
 simp only [List.nil_append,List.append_nil]
 refine (NK _ _).gg ?_
 unfold Kt
 have hll:=eW l
 refine yx (by omega) (fun v hv=>?_) (fun i hi=>?_)
 ·have h1:=eX hv
  obtain ⟨kd,tx,nu,un',fl,l2⟩:=v
  rw [zV] at h1
  exact F8 _ (hP (zVs l2) (by omega) l2 (Nat.le_refl _))
 ·refine dq rfl rfl ?_
  refine ⟨_,_,Wk.refl _ _ _ (by simp), ?_⟩
  refine .pure (by simp) ?_
  cases h : bT l with
  | true=>simp [hi.2 h]
  | false =>
    have : ¬ 0 ≤ i:=fun q=>by rw [hi.1 q] at h;cases h
    simp [this]
theorem IG (l : List Vl) (hz : zVs l < 2 ^ 39) : Con Tryz.prog 66 [.sl 6 (aV l)] (bool (bT l)):=by
 have : ∀ n,n < 2 ^ 39 → VpP n:=by
  intro n
  induction n using Nat.strongRecOn with
  | _ n ih=>exact fun hn=>Kn hn fun n' h=>ih n' h (by omega)
 exact this _ hz l (Nat.le_refl _)
end Go.Proofs.YtfageokhpklkbaaGreatDoor
end
