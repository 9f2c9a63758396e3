/-
 Values as plain data,and how they stand in memory;their depth,how many tokens,their shape: plain definitions.
 No conditions: definitions and lemmas.
-/
import Derived.Test.YtfageokhpklkbaaGreatDoorL5
set_option linter.unusedVariables false
set_option linter.unusedSimpArgs false
namespace Go.Nst
open Go Go.Aw
abbrev Str:=List UInt8
inductive Vl where
 | mk (kind : Int) (text : Str) (num : Int) (unit : Str) (flag : Bool) (list : List Vl)
def Vl.kind : Vl → Int|.mk k _ _ _ _ _=>k
def Vl.text : Vl → Str|.mk _ t _ _ _ _=>t
def Vl.num : Vl → Int|.mk _ _ n _ _ _=>n
def Vl.unit : Vl → Str|.mk _ _ _ u _ _=>u
def Vl.flag : Vl → Bool|.mk _ _ _ _ f _=>f
def Vl.list : Vl → List Vl|.mk _ _ _ _ _ l=>l
abbrev u1 (n : Int) : AV:=.v (.int .u8 n)
mutual
def cy : Vl → List AV
 | .mk k t n u f l=>[u1 k,.str t,int n,.str u,bool f,.sl 6 (aV l)]
def aV : List Vl → List (List AV)
 | []=>[]
 | v :: l=>cy v :: aV l
end
theorem bf : ∀ l,aV l = l.map cy
 | []=>by simp [aV]
 | p :: l=>by simp [aV,bf l]
def GQ (v : Vl) : List AV:=[u1 v.kind,.str v.text,int v.num,.str v.unit,bool v.flag]
theorem dc (v : Vl) : cy v = [u1 v.kind,.str v.text,int v.num,.str v.unit,bool v.flag,.sl 6 (v.list.map cy)]:=by
 cases v;simp [cy,bf,Vl.kind,Vl.text,Vl.num,Vl.unit,Vl.flag,Vl.list]
mutual
theorem DA : ∀ x : Vl,bM (cy x)
 | .mk k t n u f l=>by simp [cy,bM,Aw.Pure,dC l]
theorem dC : ∀ l : List Vl,cd (aV l)
 | []=>by simp [aV,cd]
 | v :: l=>by simp [aV,cd,DA v,dC l]
end
def dr (k : Int) : Int:=if k = 2 then 22 else if k = 19 ∨ k = 21 ∨ k = 23 then k + 1 else 0
mutual
def pf : Vl → Nat
 | .mk k _ _ _ _ l=>if dr k = 0 then 0 else cX l + 1
def cX : List Vl → Nat
 | []=>0
 | v :: l=>max (pf v) (cX l)
end
mutual
def qg : Vl → Nat
 | .mk k _ _ _ _ l=>if dr k = 0 then 1 else dY l + 2
def dY : List Vl → Nat
 | []=>0
 | v :: l=>qg v + dY l
end
mutual
def A3 (c : Int) : Vl → Bool
 | .mk k _ _ _ _ l=>!decide (c = 0) && decide (k = c) || (if dr k = 0 then !l.isEmpty else dX (dr k) l)
def dX (c : Int) : List Vl → Bool
 | []=>false
 | v :: l=>A3 c v || dX c l
end
def iP (k : Int) (t : Str) (n : Int) (u : Str) (f : Bool) : List AV:=[u1 k,.str t,int n,.str u,bool f]
mutual
def kC : Vl → List (List AV)
 | .mk k t n u f l=>iP k t n u f :: (if dr k = 0 then [] else cY l ++ [iP (dr k) [] 0 [] false])
def cY : List Vl → List (List AV)
 | []=>[]
 | v :: l=>kC v ++ cY l
end
mutual
theorem FN : ∀ v,(kC v).length = qg v
 | .mk k t n u f l=>by
   rw [kC,qg]
   split
   ·rfl
   ·simp [jm l]
theorem jm : ∀ l,(cY l).length = dY l
 | []=>by simp [cY,dY]
 | v :: l=>by simp [cY,dY,FN v,jm l]
end
mutual
theorem DL : ∀ v,cd (kC v)
 | .mk k t n u f l=>by
   rw [kC,cd]
   refine ⟨by simp [iP,bM,Aw.Pure], ?_⟩
   split
   ·simp [cd]
   ·exact (lr _ _).2 ⟨iv l,by simp [cd,bM,iP,Aw.Pure]⟩
theorem iv : ∀ l,cd (cY l)
 | []=>by simp [cY,cd]
 | v :: l=>by rw [cY];exact (lr _ _).2 ⟨DL v,iv l⟩
theorem lr : ∀ a b : List (List AV),cd (a ++ b) ↔ cd a ∧ cd b
 | [],b=>by simp [cd]
 | x :: a,b=>by simp [cd,lr a b,and_assoc]
end
mutual
theorem DM : ∀ v,(kC v).all (dJ 5) = true
 | .mk k t n u f l=>by
   rw [kC]
   split
   ·simp [iP,dJ,cv]
   ·have:=mv l
    rw [List.all_cons,List.all_append,this]
    simp [iP,dJ,cv]
theorem mv : ∀ l,(cY l).all (dJ 5) = true
 | []=>by simp [cY]
 | v :: l=>by rw [cY,List.all_append,DM v,mv l];rfl
end
def fa (l : List Vl) : Int:=if 16 < cX l then 20 else if 1500 < dY l then 4 else if dX 0 l then 8 else 0
/-! ### A size -/
mutual
def zV : Vl → Nat
 | .mk _ t _ u _ l=>1 + t.length + u.length + zVs l
def zVs : List Vl → Nat
 | []=>0
 | v :: l=>zV v + zVs l
end
theorem Mt : ∀ v,0 < zV v
 | .mk _ _ _ _ _ _=>by rw [zV];omega
theorem eX {l : List Vl} {v : Vl} (h : v ∈ l) : zV v ≤ zVs l:=by
 induction l with
 | nil=>cases h
 | cons y l ih =>
   rw [zVs]
   rcases List.mem_cons.1 h with rfl|h
   ·omega
   ·have:=ih h;omega
theorem eW : ∀ l : List Vl,l.length ≤ zVs l
 | []=>by simp
 | v :: l=>by have:=eW l;have:=Mt v;rw [zVs,List.length_cons];omega
mutual
theorem IC : ∀ v,qg v ≤ 2 * zV v
 | .mk k t n u f l=>by
   have:=ju l
   rw [qg,zV]
   split <;> omega
theorem ju : ∀ l,dY l ≤ 2 * zVs l
 | []=>by simp [dY]
 | v :: l=>by have:=IC v;have:=ju l;rw [dY,zVs];omega
end
mutual
theorem Gg : ∀ v,pf v ≤ zV v
 | .mk k t n u f l=>by
   have:=iW l
   rw [pf,zV]
   split <;> omega
theorem iW : ∀ l,cX l ≤ zVs l
 | []=>by simp [cX]
 | v :: l=>by have:=Gg v;have:=iW l;rw [cX,zVs];omega
end
theorem nP : ∀ a b : List Vl,cX (a ++ b) = max (cX a) (cX b)
 | [],b=>by simp [cX]
 | v :: a,b=>by simp [cX,nP a b,Nat.max_assoc]
theorem oq : ∀ a b : List Vl,dY (a ++ b) = dY a + dY b
 | [],b=>by simp [dY]
 | v :: a,b=>by simp [dY,oq a b,Nat.add_assoc]
theorem kL (c : Int) : ∀ a b : List Vl,dX c (a ++ b) = (dX c a || dX c b)
 | [],b=>by simp [dX]
 | v :: a,b=>by simp [dX,kL c a b,Bool.or_assoc]
theorem nR : ∀ a b : List Vl,cY (a ++ b) = cY a ++ cY b
 | [],b=>by simp [cY]
 | v :: a,b=>by simp [cY,nR a b]
theorem jn : ∀ a b : List Vl,zVs (a ++ b) = zVs a + zVs b
 | [],b=>by simp [zVs]
 | v :: a,b=>by simp [zVs,jn a b,Nat.add_assoc]
section
variable {l : List Vl} {k : Nat} {v : Vl}
theorem pT (h : l[k]? = some v) : cX (l.take (k + 1)) = max (cX (l.take k)) (pf v):=by
 rw [List.take_add_one,h,nP];simp [cX]
theorem A9 (h : l[k]? = some v) : dY (l.take (k + 1)) = dY (l.take k) + qg v:=by
 rw [List.take_add_one,h,oq];simp [dY]
theorem q9 (c : Int) (h : l[k]? = some v) : dX c (l.take (k + 1)) = (dX c (l.take k) || A3 c v):=by
 rw [List.take_add_one,h,kL];simp [dX]
theorem yy (h : l[k]? = some v) : cY (l.take (k + 1)) = cY (l.take k) ++ kC v:=by
 rw [List.take_add_one,h,nR];simp [cY]
end
theorem fQ (l : List Vl) (k : Nat) : zVs (l.take k) ≤ zVs l:=by
 have:=jn (l.take k) (l.drop k)
 rw [List.take_append_drop] at this
 omega
/-! ### The size -/
mutual
def dd (lim : Int) (n : Int) : List Vl → Int
 | []=>n
 | v :: l=>if n ≤ lim then dd lim (n + szV (lim - n) v) l else n
def szV (lim : Int) : Vl → Int
 | .mk _ t _ u _ l=>1 + t.length + u.length + dd lim 0 l
end
mutual
theorem kH (lim n : Int) : ∀ l,n ≤ dd lim n l ∧ dd lim n l ≤ n + zVs l ∧ (dd lim n l ≤ lim → dd lim n l = n + zVs l)
 | []=>by rw [dd,zVs];simp
 | v :: l=>by
   have h1:=Mn (lim - n) v
   have h2:=kH lim (n + szV (lim - n) v) l
   rw [dd,zVs]
   split <;> omega
theorem Mn (lim : Int) : ∀ v,1 ≤ szV lim v ∧ szV lim v ≤ zV v ∧ (szV lim v ≤ lim → szV lim v = zV v)
 | .mk k t nu u f l=>by
   have h:=kH lim 0 l
   rw [szV,zV]
   omega
end
theorem uQ (lim n : Int) (h : lim < n) : ∀ l,dd lim n l = n
 | []=>by rw [dd]
 | v :: l=>by rw [dd,if_neg (by omega)]
theorem mu (lim n : Int) : ∀ a b,dd lim n (a ++ b) = dd lim (dd lim n a) b
 | [],b=>by rw [List.nil_append,dd]
 | v :: a,b=>by
   rw [List.cons_append,dd,dd]
   split
   ·exact mu lim _ a b
   ·rename_i h
    rw [uQ lim n (by omega)]
theorem FK {lim : Int} {l : List Vl} {k : Nat} {v : Vl} (h : l[k]? = some v) (hle : dd lim 0 (l.take k) ≤ lim) : dd lim 0 (l.take (k + 1)) = dd lim 0 (l.take k) + szV (lim - dd lim 0 (l.take k)) v:=by
 rw [List.take_add_one,h,mu]
 simp [dd,hle]
theorem HH {lim : Int} {l : List Vl} {k : Nat} (h : lim < dd lim 0 (l.take k)) : dd lim 0 l = dd lim 0 (l.take k):=by
 have:=mu lim 0 (l.take k) (l.drop k)
 rw [List.take_append_drop,uQ _ _ h] at this
 exact this
end Go.Nst

