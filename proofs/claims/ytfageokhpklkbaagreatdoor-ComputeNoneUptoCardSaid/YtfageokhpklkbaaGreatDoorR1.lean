/-
  Names of properties: found,inherited;names of shorthands;by either way. Longhands of shorthands,by either way. Longhands of a name;declarations as plain data;checked by either way.
  No conditions.
-/
import Derived.Test.YtfageokhpklkbaaGreatDoorT1
import Derived.Test.YtfageokhpklkbaaGreatDoorWSrt
import Derived.Test.YtfageokhpklkbaaGreatDoorL5
import Derived.Test.YtfageokhpklkbaaGreatDoorN1
set_option linter.unusedVariables false
set_option linter.unusedSimpArgs false
section
namespace Go.Proofs.YtfageokhpklkbaaGreatDoor
open Go Go.Aw
set_option maxRecDepth 1000000
abbrev Str:=List UInt8
abbrev Pr:=Str × Bool × List AV
def xD (r : List AV) : Pr:=match r with|.str s :: .v (.bool b) :: r=>(s,b,r)|_=>([],false,[])
def m9 (p : Pr) : List AV:=.str p.1 :: bool p.2.1 :: p.2.2
def nmP : List Pr:=fY.map xD
def nmR : List Pr:=ug.map xD
theorem AP : fY = nmP.map m9:=rfl
def nm : List (Str × Bool):=nmR.map fun p=>(p.1,p.2.1)
theorem O4 : nmP.map (fun p=>(p.1,p.2.1)) = nm:=rfl
theorem pH : nmP.length = 18:=rfl
theorem LS : nm.length = 18:=rfl
theorem Jm : ∀ p ∈ nmP,(m9 p).length = 12 ∧ (m9 p).all cv = true:=by
 have : (nmP.all fun p=>Nat.beq (m9 p).length 12 && (m9 p).all cv) = true:=rfl
 intro p hp
 have:=List.all_eq_true.1 this p hp
 rw [Bool.and_eq_true] at this
 exact ⟨Nat.eq_of_beq_eq_true this.1,this.2⟩
def lO (s : Str) : List (Str × Bool) → Nat → Option Nat
 | [],_=>none
 | p :: l,k=>if p.1 = s then some k else lO s l (k + 1)
theorem B3 {s : Str} {l : List (Str × Bool)} {k : Nat} {p : Str × Bool} (h : l[k]? = some p) (n : Nat) : lO s (l.drop k) n = if p.1 = s then some n else lO s (l.drop (k + 1)) (n + 1):=by
 have hk:=(List.getElem?_eq_some_iff.1 h).1
 rw [List.drop_eq_getElem_cons hk,lO,(List.getElem?_eq_some_iff.1 h).2]
theorem rM {s : Str} : ∀ (l : List (Str × Bool)) (k n : Nat),lO s l k = some n → k ≤ n ∧ n < k + l.length
 | [],k,n,h=>by cases h
 | p :: l,k,n,h=>by
   rw [lO] at h
   rw [List.length_cons]
   split at h
   ·cases h;omega
   ·have:=rM l (k + 1) n h;omega
def jO (s : Str) : Option Nat:=lO s nm 0
theorem E7 {k : Nat} {p : Pr} (h : nmP[k]? = some p) : nm[k]? = some (p.1,p.2.1):=by rw [← O4,List.getElem?_map,h];rfl
def vk (s : Str) : AV:=match jO s with|some n=>.tup [int n,int 0]|none=>.tup [int 0,int 6]
theorem xG (p : Pr) (hp : (m9 p).all cv = true) (s : Str) {K : AV → aa → Prop} (k : K (bool (decide (p.1 = s))) [.blk ⟨9,[.str s],true⟩]) :
 aH Tryz.prog (.fn (.func 189) [] [.op 0 0]) [.agg (m9 p)] [.blk ⟨9,[.str s],true⟩] K:=by
 refine ⟨by kernel_rfl, ?_⟩
 simp only [List.nil_append,List.cons_append]
 refine (Ob _ _).gg ?_
 unfold KM
 refine bN hp (aC rfl (aD rfl rfl rfl (aD rfl rfl rfl (de rfl rfl ?_))))
 exact ⟨_,_,Wk.back (n:=1) (M:=1) (by simp) (by simp) rfl rfl (by simp [dg,BdL,Bd]) (by simp [Bd]),k⟩
theorem DH (s : Str) {K : AV → aa → Prop} (kk : K (int (match jO s with|some n=>(n : Int)|none=>-1)) [.blk ⟨9,[.str s],true⟩]) :
 aH Tryz.prog (.fn (.func 188) [] []) [.sl 12 fY,.fn (.func 189) [] [.op 0 0]] [.blk ⟨9,[.str s],true⟩] K:=by
 refine ⟨by kernel_rfl, ?_⟩
 simp only [List.nil_append,List.append_nil]
 refine (Oa _ _).gg ?_
 unfold KL
 refine aB (n:=18) rfl rfl fun _=>?_
 refine a7 (α:=Nat) (fun k=>k ≤ 18 ∧ jO s = lO s (nm.drop k) k) (fun k=>[int k]) (fun _=>[.blk ⟨9,[.str s],true⟩]) (fun k=>18 - k) 0 (by simp [jO]) (Wk.refl _ _ _ (by simp)) ?_
 rintro k ⟨hk,hf⟩
 refine aF rfl rfl ?_
 rcases Nat.lt_or_ge k 18 with q|q
 ·obtain ⟨p,hp⟩ : ∃ p,nmP[k]? = some p:=⟨nmP[k]'(by rw [pH];exact q),List.getElem?_eq_getElem (by rw [pH];exact q)⟩
  have e:=B3 (s:=s) (E7 hp) k
  obtain ⟨o1,o2⟩:=Jm p (List.mem_of_getElem? hp)
  refine ak rfl (by simp;omega) ?_
  refine bx rfl AP rfl hp (aY rfl o1 (xG p o2 s ?_))
  refine cA rfl (fun hc=>?_) (fun hc=>?_)
  ·rw [if_pos (by simpa using hc)] at e
   refine ⟨_,_,Wk.refl _ _ _ (by simp), ?_⟩
   rw [hf,e] at kk
   exact kk
  ·refine aP rfl rfl (by unfold inI;omega) ?_
   refine ar ?_
   rw [if_neg (by simpa using hc)] at e
   exact ⟨k + 1,⟨by omega,by rw [hf,e]⟩,Wk.refl _ _ _ (by simp),by omega⟩
 ·obtain rfl : k = 18:=by omega
  refine ag rfl (by simp) ?_
  refine ⟨_,_,Wk.refl _ _ _ (by simp), ?_⟩
  rw [hf] at kk
  exact kk
theorem F3 (s : Str) : Con Tryz.prog 147 [.str s] (vk s):=by
 refine (NT _).gives (by simp) (by unfold vk;split <;> simp) ?_
 unfold KB
 refine bN (by simp) ?_
 refine b6 rfl (by kernel_rfl) fD ?_
 refine DH s ?_
 unfold vk
 cases jO s with
 | none =>
   refine aF rfl rfl (ak rfl rfl ?_)
   exact .pure (by simp) rfl
 | some n =>
   refine aF rfl rfl ?_
   refine ag rfl (by simp) ?_
   exact .pure (by simp) rfl
/-! ### Custom names -/
def da (s : Str) : Bool:=decide (2 < s.length) && decide (s.length ≤ 64) && decide (s.take 2 = [45,45])
theorem HU {n : Nat} {x v : AV} {l : List UInt8} {K : AV → Prop} (ex : x = .str l) (ev : v = int (n : Int)) (hn : n ≤ l.length) (q : K (.str (l.take n))) : kY x none (some v) K:=by
 subst ex;subst ev
 refine ⟨⟨by omega,by omega,by omega⟩, ?_⟩
 simpa using q
theorem Bj (s : Str) : Con Tryz.prog 111 [.str s,.str [45,45]] (bool (decide (s.take 2 = [45,45]))):=by
 have h0 : Con Tryz.prog 153 [.str s,.str [45,45]] (bool (decide (s.take 2 = [45,45]))):=by
  refine (NW _ _).gives (by simp) (by simp) ?_
  unfold KE
  repeat' (first|(with_reducible first|apply aG|refine And.intro True.intro ?_)|((with_reducible apply dq);rfl;rfl)|((with_reducible apply de);rfl;rfl)|((with_reducible apply aE);rfl)|((with_reducible apply ax);rfl)|((with_reducible apply fA);rfl;intro _)|(refine HU (n:=2) rfl rfl (by first|(simp at *;done)|(simp at *;omega)) ?_)|((with_reducible apply bV);rfl)|(with_reducible intro _))
  all_goals
   refine .pure (by simp) ?_
   simp only [fW,jj,AV.v.injEq,Value.bool.injEq]
   all_goals (try grind)
 refine (NQ _ _).gives (by simp) (by simp) ?_
 unfold Ky
 refine b6 rfl (by kernel_rfl) h0 ?_
 exact .pure (by simp) rfl
theorem kf (s : Str) : Con Tryz.prog 71 [.str s] (bool (da s)):=by
 refine (V71 _).gives (by simp) (by simp) ?_
 unfold W71
 repeat' (first|(with_reducible first|apply aG|apply ar|refine And.intro True.intro ?_)|((with_reducible first|apply eE|apply bW);rfl;rfl)|((with_reducible apply aE);rfl)|((with_reducible apply ax);rfl)|((with_reducible apply ay);rfl;first|rfl|assumption)|((with_reducible apply fA);rfl;intro _)|(refine aI (by kernel_rfl) (Bj s) ?_)|((with_reducible apply bV);rfl)|(with_reducible intro _))
 all_goals
  refine .pure (by simp) ?_
  simp only [fW,jj,AV.v.injEq,Value.bool.injEq,da]
  grind
theorem ik (s : Str) : Con Tryz.prog 97 [.str s] (bool (da s)):=by
 refine (V97 _).gives (by simp) (by simp) ?_
 unfold W97
 repeat' (first|(with_reducible first|apply aG|apply ar|refine And.intro True.intro ?_)|((with_reducible first|apply eE|apply bW);rfl;rfl)|((with_reducible apply de);rfl;rfl)|((with_reducible apply aE);rfl)|((with_reducible apply ax);rfl)|((with_reducible apply ay);rfl;first|rfl|assumption)|((with_reducible apply fA);rfl;intro _)|(refine HU (n:=2) rfl rfl (by first|(simp at *;done)|(simp at *;omega)) ?_)|((with_reducible apply bV);rfl)|(with_reducible intro _))
 all_goals
  refine .pure (by simp) ?_
  simp only [fW,jj,AV.v.injEq,Value.bool.injEq,da]
  grind
end Go.Proofs.YtfageokhpklkbaaGreatDoor
end

section
namespace Go.Proofs.YtfageokhpklkbaaGreatDoor
open Go Go.Aw
set_option maxRecDepth 1000000
def j4 (s : Str) : AV:=if da s then .tup [tt,int 0] else match jO s with|some n=>.tup [bool (nm.getD n ([],false)).2,int 0]|none=>.tup [ff,int 6]
theorem EC (s : Str) : Aw.Pure (j4 s):=by unfold j4;split <;> (try split) <;> simp
theorem GZ {s : Str} {n : Nat} (h : jO s = some n) : n < 18:=by
 have:=rM nm 0 n h
 rw [LS] at this;omega
theorem nN (s : Str) : Con Tryz.prog 101 [.str s] (j4 s):=by
 refine (NI _).gives (by simp) (EC s) ?_
 unfold Kr
 have hF:=F3 s
 refine b6 rfl (by kernel_rfl) (kf s) ?_
 by_cases hc : da s = true
 ·refine ak rfl hc ?_
  exact .pure (by simp) (by rw [j4,if_pos hc])
 ·refine ag rfl (by simpa using hc) ?_
  rw [j4,if_neg hc]
  unfold vk at hF
  cases hf : jO s with
  | none =>
    rw [hf] at hF
    repeat' (first|(with_reducible refine And.intro True.intro ?_)|((with_reducible apply bE);rfl;rfl)|((with_reducible apply ak);rfl;first|rfl|assumption)|((with_reducible apply ag);rfl;first|rfl|assumption)|((with_reducible apply bt);rfl)|((with_reducible apply aR);rfl)|((with_reducible apply bB);rfl;rfl)|(refine aI (by kernel_rfl) (hF) ?_)|(with_reducible intro _))
    exact .pure (by simp) rfl
  | some n =>
    rw [hf] at hF
    have hn:=GZ hf
    obtain ⟨p,hp⟩ : ∃ p,nmP[n]? = some p:=⟨nmP[n]'(by rw [pH];exact hn),List.getElem?_eq_getElem (by rw [pH];exact hn)⟩
    have e:=E7 hp
    repeat' (first|(with_reducible refine And.intro True.intro ?_)|((with_reducible apply bE);rfl;rfl)|((with_reducible apply ak);rfl;first|rfl|assumption)|((with_reducible apply ag);rfl;first|rfl|assumption)|((with_reducible apply bt);rfl)|((with_reducible apply aR);rfl)|((with_reducible apply bB);rfl;rfl)|(refine aI (by kernel_rfl) (hF) ?_)|(refine aI (by kernel_rfl) (fD) ?_)|(refine bx rfl AP rfl hp ?_)|(with_reducible intro _))
    refine .pure (by simp) ?_
    simp only [List.getD_eq_getElem?_getD,e];rfl
/-! ### Lists of names -/
def gj (l : List Str) : List (List AV):=l.map fun s=>[.str s]
theorem kj : ∀ l,cd (gj l)
 | []=>by simp [gj,cd]
 | s :: l=>by have:=kj l;unfold gj at this ⊢;simp only [List.map_cons,cd];exact ⟨by simp,this⟩
def mf (v : Str) : List Str → Nat → Int
 | [],_=>-1
 | s :: l,k=>if v = s then k else mf v l (k + 1)
theorem EA {v s : Str} {l : List Str} {k : Nat} (h : l[k]? = some s) (n : Nat) : mf v (l.drop k) n = if v = s then (n : Int) else mf v (l.drop (k + 1)) (n + 1):=by
 have hk:=(List.getElem?_eq_some_iff.1 h).1
 rw [List.drop_eq_getElem_cons hk,mf,(List.getElem?_eq_some_iff.1 h).2]
theorem wF (v : Str) : ∀ (l : List Str) (k : Nat),(0 ≤ mf v l k ↔ v ∈ l)
 | [],k=>by simp [mf]
 | s :: l,k=>by
   rw [mf]
   split
   ·rename_i h;subst h;simp
   ·rename_i h
    rw [wF v l (k + 1)]
    simp [h]
theorem Bo (l : List Str) (v : Str) (hl : l.length < 2 ^ 40) : Con Tryz.prog 109 [.sl 1 (gj l),.str v] (int (mf v l 0)):=by
 refine (NN _ _).gives (by simp [kj]) (by simp) ?_
 unfold Kw
 refine aB (n:=l.length) rfl (by simp [gj]) fun _=>?_
 refine a7 (α:=Nat) (fun k=>k ≤ l.length ∧ mf v l 0 = mf v (l.drop k) k) (fun k=>[int k]) (fun _=>[]) (fun k=>l.length - k) 0 (by simp) (Wk.refl _ _ _ (by simp)) ?_
 rintro k ⟨hk,hf⟩
 refine aF rfl rfl ?_
 rcases Nat.lt_or_ge k l.length with q|q
 ·obtain ⟨s,hs⟩ : ∃ x,l[k]? = some x:=⟨l[k],List.getElem?_eq_getElem q⟩
  have e:=EA (v:=v) hs k
  refine ak rfl (by simpa using q) ?_
  refine bx (f:=fun s=>[.str s]) rfl rfl rfl hs (aR rfl (de rfl rfl ?_))
  refine cA rfl (fun hc=>?_) (fun hc=>?_)
  ·rw [if_pos (by simpa using hc)] at e
   exact .pure (by simp) (by rw [hf,e];rfl)
  ·rw [if_neg (by simpa using hc)] at e
   refine aP rfl rfl (by unfold inI;omega) ?_
   refine ar ?_
   exact ⟨k + 1,⟨q,by rw [hf,e]⟩,Wk.refl _ _ _ (by simp),by omega⟩
 ·have hk : k = l.length:=by omega
  subst hk
  rw [List.drop_length] at hf
  refine ag rfl (by simp) ?_
  exact .pure (by simp) (by rw [hf];rfl)
theorem ou (l : List Str) (v : Str) (hl : l.length < 2 ^ 40) : Con Tryz.prog 69 [.sl 1 (gj l),.str v] (bool (decide (v ∈ l))):=by
 refine (V69 _ _).gives (by simp [kj]) (by simp) ?_
 unfold W69
 refine b6 rfl (by kernel_rfl) (Bo l v hl) ?_
 refine dq rfl rfl ?_
 refine .pure (by simp) ?_
 have:=wF v l 0
 simp [this]
end Go.Proofs.YtfageokhpklkbaaGreatDoor
end

section
namespace Go.Proofs.YtfageokhpklkbaaGreatDoor
open Go Go.Aw Go.Nst
set_option maxRecDepth 1000000
end Go.Proofs.YtfageokhpklkbaaGreatDoor
end
