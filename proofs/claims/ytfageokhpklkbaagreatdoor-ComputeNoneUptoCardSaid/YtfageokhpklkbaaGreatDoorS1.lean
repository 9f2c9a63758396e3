/-
  Values of properties: checked by either way. Values of properties,by the reference;what a property has. What a property has: by either way. What a property has: by the reference.
  No conditions.
-/
import Derived.Test.YtfageokhpklkbaaGreatDoorR1
import Derived.Test.YtfageokhpklkbaaGreatDoorWSty
import Derived.Test.YtfageokhpklkbaaGreatDoorL5
set_option linter.unusedVariables false
set_option linter.unusedSimpArgs false
section
namespace Go.Proofs.YtfageokhpklkbaaGreatDoor
open Go Go.Aw
set_option maxRecDepth 100000
structure Vv where
 kind : Int
 word : Str
 num : Int
 cr : Int
 cg : Int
 cb : Int
 ca : Int
def bS (v : Vv) : List AV:=[.v (.int .u8 v.kind),.str v.word,int v.num,.v (.int .u8 v.cr),.v (.int .u8 v.cg),.v (.int .u8 v.cb),.v (.int .u8 v.ca)]
theorem eB (v : Vv) : bM (bS v):=by simp [bS]
def pI (v : Vv) : Bool:=decide (v.cr = 0) && decide (v.cg = 0) && decide (v.cb = 0) && decide (v.ca = 0)
def DN (n m : Int) : Bool:=decide (-m ≤ n) && decide (n ≤ m)
def okW (v : Vv) : Bool :=
 if v.kind = 1 then decide (v.word ≠ []) && decide (v.num = 0) && pI v
 else if v.kind = 2 ∨ v.kind = 3 ∨ v.kind = 4 ∨ v.kind = 5 then decide (v.word = []) && pI v && DN v.num 1000000000000
 else if v.kind = 6 then decide (v.word = []) && pI v && DN v.num 1000000000
 else if v.kind = 7 then decide (v.word = []) && decide (v.num = 0)
 else if v.kind = 8 then decide (v.word = []) && decide (v.num = 0) && pI v
 else false
def oB (v : Vv) : Int:=if okW v = true then 0 else 8
theorem Mx {x y : AV} {a b c : Int} {K : AV → Prop} (ex : x = int a) (ey : y = int b) (hb : b ≠ 0) (hw : IntKind.i64.wrap (a.tdiv b) = c) (q : K (int c)) : af .quo x y K:=by
 subst ex;subst ey;subst hw
 exact ⟨rfl,hb,q⟩
theorem HS {x : AV} {a : Int} {K : AV → Prop} (ex : x = int a) (hi : inI (0 - a)) (q : K (int (0 - a))) : oK x K:=by
 subst ex
 exact ⟨_,_,rfl,hi,q⟩
theorem DU {x y : AV} {a b : Int} {K : AV → Prop} (ex : x = int a) (ey : y = int b) (q : K (int (min a b))) : jd x y K:=by
 subst ex;subst ey
 refine ⟨rfl, ?_⟩
 rw [show (if b < a then b else a) = min a b by omega]
 exact q
theorem kinds (k : Int) : k = 1 ∨ k = 2 ∨ k = 3 ∨ k = 4 ∨ k = 5 ∨ k = 6 ∨ k = 7 ∨ k = 8 ∨ (k ≠ 1 ∧ k ≠ 2 ∧ k ≠ 3 ∧ k ≠ 4 ∧ k ≠ 5 ∧ k ≠ 6 ∧ k ≠ 7 ∧ k ≠ 8):=by omega
set_option maxHeartbeats 8000000 in
theorem Bt (v : Vv) (hn : inI v.num) : Con Tryz.prog 68 [.agg (bS v)] (int (oB v)):=by
 refine (V68 _).gives (by simp [eB]) (by simp) ?_
 unfold W68
 obtain ⟨k,w,n,r,g,b,a⟩:=v
 simp only at hn
 rw [bS]
 have hq : IntKind.i64.wrap ((1000000000000 : Int).tdiv 1000) = 1000000000:=by decide
 rcases kinds k with rfl|rfl|rfl|rfl|rfl|rfl|rfl|rfl|⟨k1,k2,k3,k4,k5,k6,k7,k8⟩
 iterate 8
  ·repeat' (first|(with_reducible first|apply aG|apply ar|refine And.intro True.intro ?_)|((with_reducible apply bR);rfl;rfl)|((with_reducible apply de);rfl;rfl)|((with_reducible apply aE);rfl)|((with_reducible apply ax);rfl)|((with_reducible apply ak);rfl;first|rfl|assumption)|((with_reducible apply ag);rfl;first|rfl|assumption)|((with_reducible apply aA);rfl;first|rfl|assumption)|((with_reducible apply ay);rfl;first|rfl|assumption)|((with_reducible apply cZ);rfl)|((with_reducible apply cD);rfl)|((with_reducible apply aC);rfl)|((with_reducible apply aD);rfl;rfl;rfl)|((with_reducible apply ba);rfl;rfl;first|exact Nat.le_refl _|exact Nat.le_of_ble_eq_true rfl)|((with_reducible apply mT);rfl;rfl;rfl)|((with_reducible apply bN);first|rfl|simp)|((with_reducible apply aZ);rfl;rfl;rfl;rfl;(first|exact Nat.le_refl _|simp);(first|rfl|simp);(first|rfl|simp))|((with_reducible apply br);rfl)|(refine Mx rfl rfl (by omega) hq ?_)|(refine HS rfl (by unfold inI;omega) ?_)|((with_reducible apply DU);rfl;rfl)|((with_reducible apply nX);rfl;rfl)|((with_reducible apply cA);rfl)|((with_reducible apply bV);rfl)|(with_reducible intro _))
   all_goals
    refine .pure (by simp) ?_
    simp only [AV.v.injEq,Value.int.injEq,true_and,oB,okW,pI,DN]
    grind
 ·have g1 : decide (k = 1) = false:=by simpa using k1
  have g2 : decide (k = 2) = false:=by simpa using k2
  have g3 : decide (k = 3) = false:=by simpa using k3
  have g4 : decide (k = 4) = false:=by simpa using k4
  have g5 : decide (k = 5) = false:=by simpa using k5
  have g6 : decide (k = 6) = false:=by simpa using k6
  have g7 : decide (k = 7) = false:=by simpa using k7
  have g8 : decide (k = 8) = false:=by simpa using k8
  repeat' (first|(with_reducible first|apply aG|apply ar|refine And.intro True.intro ?_)|((with_reducible apply bR);rfl;rfl)|((with_reducible apply de);rfl;rfl)|((with_reducible apply aE);rfl)|((with_reducible apply ax);rfl)|((with_reducible apply ak);rfl;first|rfl|assumption)|((with_reducible apply ag);rfl;first|rfl|assumption)|((with_reducible apply aA);rfl;first|rfl|assumption)|((with_reducible apply ay);rfl;first|rfl|assumption)|((with_reducible apply cZ);rfl)|((with_reducible apply cD);rfl)|((with_reducible apply aC);rfl)|((with_reducible apply aD);rfl;rfl;rfl)|((with_reducible apply ba);rfl;rfl;first|exact Nat.le_refl _|exact Nat.le_of_ble_eq_true rfl)|((with_reducible apply mT);rfl;rfl;rfl)|((with_reducible apply bN);first|rfl|simp)|((with_reducible apply aZ);rfl;rfl;rfl;rfl;(first|exact Nat.le_refl _|simp);(first|rfl|simp);(first|rfl|simp))|((with_reducible apply br);rfl)|((with_reducible apply cA);rfl)|((with_reducible apply bV);rfl)|(with_reducible intro _))
  exact .pure (by simp) (by simp [oB,okW,k1,k2,k3,k4,k5,k6,k7,k8])
end Go.Proofs.YtfageokhpklkbaaGreatDoor
end

section
namespace Go.Proofs.YtfageokhpklkbaaGreatDoor
open Go Go.Aw
set_option maxRecDepth 100000
set_option maxHeartbeats 8000000 in
theorem xU (v : Vv) (hn : inI v.num) : Con Tryz.prog 61 [.agg (bS v)] (int (oB v)):=by
 refine (V61 _).gives (by simp [eB]) (by simp) ?_
 unfold W61
 obtain ⟨k,w,n,r,g,b,a⟩:=v
 simp only at hn
 rw [bS]
 rcases kinds k with rfl|rfl|rfl|rfl|rfl|rfl|rfl|rfl|⟨k1,k2,k3,k4,k5,k6,k7,k8⟩
 iterate 8
  ·repeat' (first|(with_reducible first|apply aG|apply ar|refine And.intro True.intro ?_)|((with_reducible first|apply aF|apply bW|apply bR);rfl;rfl)|((with_reducible apply de);rfl;rfl)|((with_reducible apply aE);rfl)|((with_reducible apply ax);rfl)|((with_reducible apply ak);rfl;first|rfl|assumption)|((with_reducible apply ag);rfl;first|rfl|assumption)|((with_reducible apply ay);rfl;first|rfl|assumption)|((with_reducible apply cD);rfl)|((with_reducible apply aC);rfl)|((with_reducible apply aD);rfl;rfl;rfl)|((with_reducible apply ba);rfl;rfl;first|exact Nat.le_refl _|exact Nat.le_of_ble_eq_true rfl)|((with_reducible apply mT);rfl;rfl;rfl)|((with_reducible apply bN);first|rfl|simp)|((with_reducible apply aZ);rfl;rfl;rfl;rfl;(first|exact Nat.le_refl _|simp);(first|rfl|simp);(first|rfl|simp))|((with_reducible apply br);rfl)|(refine HS rfl (by unfold inI;omega) ?_)|((with_reducible apply cA);rfl)|((with_reducible apply bV);rfl)|(with_reducible intro _))
   all_goals
    refine .pure (by simp) ?_
    simp only [AV.v.injEq,Value.int.injEq,true_and,oB,okW,pI,DN]
    grind
 ·have g1 : decide (k = 1) = false:=by simpa using k1
  have g2 : decide (k = 2) = false:=by simpa using k2
  have g3 : decide (k = 3) = false:=by simpa using k3
  have g4 : decide (k = 4) = false:=by simpa using k4
  have g5 : decide (k = 5) = false:=by simpa using k5
  have g6 : decide (k = 6) = false:=by simpa using k6
  have g7 : decide (k = 7) = false:=by simpa using k7
  have g8 : decide (k = 8) = false:=by simpa using k8
  repeat' (first|(with_reducible first|apply aG|apply ar|refine And.intro True.intro ?_)|((with_reducible first|apply aF|apply bW|apply bR);rfl;rfl)|((with_reducible apply de);rfl;rfl)|((with_reducible apply aE);rfl)|((with_reducible apply ax);rfl)|((with_reducible apply ak);rfl;first|rfl|assumption)|((with_reducible apply ag);rfl;first|rfl|assumption)|((with_reducible apply ay);rfl;first|rfl|assumption)|((with_reducible apply cD);rfl)|((with_reducible apply aC);rfl)|((with_reducible apply aD);rfl;rfl;rfl)|((with_reducible apply ba);rfl;rfl;first|exact Nat.le_refl _|exact Nat.le_of_ble_eq_true rfl)|((with_reducible apply mT);rfl;rfl;rfl)|((with_reducible apply bN);first|rfl|simp)|((with_reducible apply aZ);rfl;rfl;rfl;rfl;(first|exact Nat.le_refl _|simp);(first|rfl|simp);(first|rfl|simp))|((with_reducible apply br);rfl)|((with_reducible apply cA);rfl)|((with_reducible apply bV);rfl)|(with_reducible intro _))
  exact .pure (by simp) (by simp [oB,okW,k1,k2,k3,k4,k5,k6,k7,k8])
end Go.Proofs.YtfageokhpklkbaaGreatDoor
end

section
namespace Go.Aw
variable [Laid]
theorem Con.arg {P : Program} {f : FuncId} {args args' : List AV} {r : AV} (c : Con P f args' r) (hl : jo args args') (pa : bM args) : Con P f args r:=by
 obtain ⟨_,pr,c⟩:=c
 exact ⟨pa,pr,fun base ι S w vs h1 h2=>c base ι S w vs (au.dle hl vs h1) h2⟩
end Go.Aw
namespace Go.Proofs.YtfageokhpklkbaaGreatDoor
open Go Go.Aw
set_option maxRecDepth 1000000
def jX (l : List Int) : List (List AV):=l.map fun s=>[.v (.int .u8 s)]
theorem lN : ∀ l,cd (jX l)
 | []=>by simp [jX,cd]
 | s :: l=>by have:=lN l;unfold jX at this ⊢;simp only [List.map_cons,cd];exact ⟨by simp,this⟩
def mg (v : Int) : List Int → Nat → Int
 | [],_=>-1
 | s :: l,k=>if v = s then k else mg v l (k + 1)
theorem EB {v s : Int} {l : List Int} {k : Nat} (h : l[k]? = some s) (n : Nat) : mg v (l.drop k) n = if v = s then (n : Int) else mg v (l.drop (k + 1)) (n + 1):=by
 have hk:=(List.getElem?_eq_some_iff.1 h).1
 rw [List.drop_eq_getElem_cons hk,mg,(List.getElem?_eq_some_iff.1 h).2]
theorem wG (v : Int) : ∀ (l : List Int) (k : Nat),(0 ≤ mg v l k ↔ v ∈ l)
 | [],k=>by simp [mg]
 | s :: l,k=>by
   rw [mg]
   split
   ·rename_i h;subst h;simp
   ·rename_i h
    rw [wG v l (k + 1)]
    simp [h]
theorem Bq (l : List Int) (v : Int) (hl : l.length < 2 ^ 40) : Con Tryz.prog 110 [.sl 1 (jX l),.v (.int .u8 v)] (int (mg v l 0)):=by
 refine (NP _ _).gives (by simp [lN]) (by simp) ?_
 unfold Kx
 refine aB (n:=l.length) rfl (by simp [jX]) fun _=>?_
 refine a7 (α:=Nat) (fun k=>k ≤ l.length ∧ mg v l 0 = mg v (l.drop k) k) (fun k=>[int k]) (fun _=>[]) (fun k=>l.length - k) 0 (by simp) (Wk.refl _ _ _ (by simp)) ?_
 rintro k ⟨hk,hf⟩
 refine aF rfl rfl ?_
 rcases Nat.lt_or_ge k l.length with q|q
 ·obtain ⟨s,hs⟩ : ∃ x,l[k]? = some x:=⟨l[k],List.getElem?_eq_getElem q⟩
  have e:=EB (v:=v) hs k
  refine ak rfl (by simpa using q) ?_
  refine bx (f:=fun s=>[.v (.int .u8 s)]) rfl rfl rfl hs (aR rfl (bR rfl rfl ?_))
  refine cA rfl (fun hc=>?_) (fun hc=>?_)
  ·rw [if_pos (by simpa using hc)] at e
   exact .pure (by simp) (by rw [hf,e];rfl)
  ·rw [if_neg (by simpa using hc)] at e
   refine aP rfl rfl (by unfold inI;omega) ?_
   refine ar ?_
   exact ⟨k + 1,⟨q,by rw [hf,e]⟩,Wk.refl _ _ _ (by simp),by omega⟩
 ·have hk : k = l.length:=by omega
  subst hk
  rw [List.drop_length] at hf
  refine ag rfl (by simp) ?_
  exact .pure (by simp) (by rw [hf];rfl)
theorem uw (l : List Int) (v : Int) (hl : l.length < 2 ^ 40) : Con Tryz.prog 70 [.sl 1 (jX l),.v (.int .u8 v)] (bool (decide (v ∈ l))):=by
 refine (V70 _ _).gives (by simp [lN]) (by simp) ?_
 unfold W70
 refine b6 rfl (by kernel_rfl) (Bq l v hl) ?_
 refine dq rfl rfl ?_
 refine .pure (by simp) ?_
 have:=wG v l 0
 simp [this]

/-! ### Rows -/
def wAV : Option (List Str) → AV|none=>.v (.slice none 0 0)|some l=>.sl 1 (gj l)
def kAV : Option (List Int) → AV|none=>.v (.slice none 0 0)|some l=>.sl 1 (jX l)
structure Rw where
 name : Str
 inh : Bool
 k : Int
 w : Str
 n : Int
 r : Int
 g : Int
 b : Int
 a : Int
 words : Option (List Str)
 kinds : Option (List Int)
 least : Bool
def ki (p : Rw) : List AV:=[.str p.name,bool p.inh,.v (.int .u8 p.k),.str p.w,int p.n,.v (.int .u8 p.r),.v (.int .u8 p.g),.v (.int .u8 p.b),.v (.int .u8 p.a),wAV p.words,kAV p.kinds,bool p.least]
def dS : AV → Str|.str s=>s|_=>[]
def dI : AV → Int|.v (.int _ n)=>n|_=>0
def dB : AV → Bool|.v (.bool b)=>b|_=>false
def dW : AV → Option (List Str)|.sl _ l=>some (l.map fun r=>match r with|x :: _=>dS x|_=>[])|_=>none
def dK : AV → Option (List Int)|.sl _ l=>some (l.map fun r=>match r with|x :: _=>dI x|_=>0)|_=>none
def HY (l : List AV) : Rw:=match l with
 | [a,b,c,d,e,f,g,h,i,j,k,m]=>⟨dS a,dB b,dI c,dS d,dI e,dI f,dI g,dI h,dI i,dW j,dK k,dB m⟩
 | _=>⟨[],false,0,[],0,0,0,0,0,none,none,false⟩
def rwP : List Rw:=fY.map HY
def rwR : List Rw:=ug.map HY
theorem jF : fY = rwP.map ki:=rfl
theorem Kj : ug = rwR.map ki:=rfl
def tri (p : Rw) : List Str × List Int × Bool:=(p.words.getD [],p.kinds.getD [],p.least)
def prT : List (List Str × List Int × Bool):=rwP.map tri
theorem Ni : rwR.map tri = prT:=rfl
theorem uc : rwP.length = 18:=rfl
theorem AI : rwR.length = 18:=rfl
def FF (t : List Str × List Int × Bool) : Bool:=Nat.ble t.1.length 9 && Nat.ble t.2.1.length 9
theorem Fh : prT.all FF = true:=rfl
theorem AD {k : Nat} {t : List Str × List Int × Bool} (h : prT[k]? = some t) : t.1.length ≤ 9 ∧ t.2.1.length ≤ 9:=by
 have:=List.all_eq_true.1 Fh t (List.mem_of_getElem? h)
 unfold FF at this
 rw [Bool.and_eq_true] at this
 exact ⟨Nat.le_of_ble_eq_true this.1,Nat.le_of_ble_eq_true this.2⟩
theorem Nh {k : Nat} {p : Rw} (h : rwP[k]? = some p) : prT[k]? = some (tri p):=by unfold prT;rw [List.getElem?_map,h];rfl
theorem LV {k : Nat} {p : Rw} (h : rwR[k]? = some p) : prT[k]? = some (tri p):=by rw [← Ni,List.getElem?_map,h];rfl
def jY (t : List Str × List Int × Bool) (v : Vv) : Bool:=okW v && (if v.kind = 1 then decide (v.word ∈ t.1) else decide (v.kind ∈ t.2.1) && (!t.2.2 || decide (0 ≤ v.num)))
def hasB (i : Int) (v : Vv) : Bool:=if 0 ≤ i ∧ i < 18 then jY (prT.getD i.toNat ([],[],false)) v else false
def jZ (i : Int) (v : Vv) : AV:=.tup [bool (hasB i v),int (if 0 ≤ i ∧ i < 18 then 0 else 2)]
theorem D9 (o : Option (List Str)) (v : Str) (h : (o.getD []).length ≤ 9) : Con Tryz.prog 69 [wAV o,.str v] (bool (decide (v ∈ o.getD []))):=by
 cases o with
 | some l=>exact ou l v (by simp at h;omega)
 | none=>exact (ou [] v (by simp)).arg (.cons (.nil 1) (.cons (.refl _) .nil)) (by simp [wAV])
theorem D6 (o : Option (List Int)) (v : Int) (h : (o.getD []).length ≤ 9) : Con Tryz.prog 70 [kAV o,.v (.int .u8 v)] (bool (decide (v ∈ o.getD []))):=by
 cases o with
 | some l=>exact uw l v (by simp at h;omega)
 | none=>exact (uw [] v (by simp)).arg (.cons (.nil 1) (.cons (.refl _) .nil)) (by simp [kAV])
theorem wo {v : Vv} : (!decide (oB v = 0)) = !okW v:=by unfold oB;cases okW v <;> simp
set_option maxHeartbeats 8000000 in
theorem IE (i : Int) (v : Vv) (hn : inI v.num) : Con Tryz.prog 41 [int i,.agg (bS v)] (jZ i v):=by
 refine (V41 _ _).gives (by simp [eB]) (by simp [jZ]) ?_
 unfold W41
 have hC:=Bt v hn
 by_cases hi : 0 ≤ i ∧ i < 18
 ·obtain ⟨k,rfl⟩ : ∃ k : Nat,i = (k : Int):=⟨i.toNat,by omega⟩
  have hk : k < 18:=by omega
  obtain ⟨p,hp⟩ : ∃ p,rwP[k]? = some p:=⟨rwP[k]'(by rw [uc];exact hk),List.getElem?_eq_getElem (by rw [uc];exact hk)⟩
  have ht:=Nh hp
  obtain ⟨s1,s2⟩:=AD ht
  have q1 : decide ((k : Int) < 0) = false:=by simp
  have q2 : decide ((18 : Int) ≤ k) = false:=by simp;omega
  have hW:=D9 p.words v.word s1
  have hK:=D6 p.kinds v.kind s2
  have e : jZ k v = .tup [bool (jY (tri p) v),int 0]:=by
   unfold jZ hasB
   rw [if_pos hi,if_pos hi,Int.toNat_natCast,List.getD_eq_getElem?_getD,ht];rfl
  rw [e]
  obtain ⟨c,w,n,r,g,b,a⟩:=v
  obtain ⟨pn,pi,pk,pw,pnn,pr,pg,pb,pa,ws,ks,le⟩:=p
  rw [bS] at hC ⊢
  simp only at hW hK hn
  have hx:=@wo ⟨c,w,n,r,g,b,a⟩
  cases ho : okW ⟨c,w,n,r,g,b,a⟩ with
  | false =>
    rw [ho] at hx
    cases ws <;> cases ks
    all_goals
     repeat' (first|(with_reducible first|apply aG|apply ar|refine And.intro True.intro ?_)|((with_reducible first|apply aF|apply dq|apply bR|apply bE);rfl;rfl)|((with_reducible apply bF);rfl)|((with_reducible apply aE);rfl)|((with_reducible apply ax);rfl)|((with_reducible apply ak);rfl;first|rfl|assumption)|((with_reducible apply ag);rfl;first|rfl|assumption)|((with_reducible apply aA);rfl;first|rfl|assumption)|((with_reducible apply ay);rfl;first|rfl|assumption)|((with_reducible apply cZ);rfl)|((with_reducible apply cD);rfl)|((with_reducible apply aC);rfl)|((with_reducible apply aD);rfl;rfl;rfl)|((with_reducible apply ba);rfl;rfl;first|exact Nat.le_refl _|exact Nat.le_of_ble_eq_true rfl)|((with_reducible apply aY);rfl;first|rfl|simp)|((with_reducible apply bN);first|rfl|simp)|((with_reducible apply aZ);rfl;rfl;rfl;rfl;(first|exact Nat.le_refl _|simp);(first|rfl|simp);(first|rfl|simp))|(refine aI (by kernel_rfl) (fD) ?_)|(refine aI (by kernel_rfl) (hC) ?_)|(refine bx rfl jF rfl hp ?_)|((with_reducible apply bV);rfl)|(with_reducible intro _))
     exact .pure (by simp) (by simp [jY,ho])
  | true =>
    rw [ho] at hx
    by_cases hc : c = 1
    ·have q3 : decide (c = 1) = true:=by simpa using hc
     cases ws <;> cases ks
     all_goals
      repeat' (first|(with_reducible first|apply aG|apply ar|refine And.intro True.intro ?_)|((with_reducible first|apply aF|apply dq|apply bR|apply bE);rfl;rfl)|((with_reducible apply bF);rfl)|((with_reducible apply aE);rfl)|((with_reducible apply ax);rfl)|((with_reducible apply ak);rfl;first|rfl|assumption)|((with_reducible apply ag);rfl;first|rfl|assumption)|((with_reducible apply aA);rfl;first|rfl|assumption)|((with_reducible apply ay);rfl;first|rfl|assumption)|((with_reducible apply cZ);rfl)|((with_reducible apply cD);rfl)|((with_reducible apply aC);rfl)|((with_reducible apply aD);rfl;rfl;rfl)|((with_reducible apply ba);rfl;rfl;first|exact Nat.le_refl _|exact Nat.le_of_ble_eq_true rfl)|((with_reducible apply aY);rfl;first|rfl|simp)|((with_reducible apply bN);first|rfl|simp)|((with_reducible apply aZ);rfl;rfl;rfl;rfl;(first|exact Nat.le_refl _|simp);(first|rfl|simp);(first|rfl|simp))|(refine aI (by kernel_rfl) (fD) ?_)|(refine aI (by kernel_rfl) (hC) ?_)|(refine aI (by kernel_rfl) (hW) ?_)|(refine bx rfl jF rfl hp ?_)|((with_reducible apply bV);rfl)|(with_reducible intro _))
      refine .pure (by simp) ?_
      subst hc
      first
       | (simp [jY,ho,tri];done)
       | (simp [jY,ho,tri];exact decide_eq_decide.2 Iff.rfl)
    ·have q3 : decide (c = 1) = false:=by simpa using hc
     cases ws <;> cases ks
     all_goals
      repeat' (first|(with_reducible first|apply aG|apply ar|refine And.intro True.intro ?_)|((with_reducible first|apply aF|apply dq|apply bR|apply bE);rfl;rfl)|((with_reducible apply bF);rfl)|((with_reducible apply aE);rfl)|((with_reducible apply ax);rfl)|((with_reducible apply ak);rfl;first|rfl|assumption)|((with_reducible apply ag);rfl;first|rfl|assumption)|((with_reducible apply aA);rfl;first|rfl|assumption)|((with_reducible apply ay);rfl;first|rfl|assumption)|((with_reducible apply cZ);rfl)|((with_reducible apply cD);rfl)|((with_reducible apply aC);rfl)|((with_reducible apply aD);rfl;rfl;rfl)|((with_reducible apply ba);rfl;rfl;first|exact Nat.le_refl _|exact Nat.le_of_ble_eq_true rfl)|((with_reducible apply aY);rfl;first|rfl|simp)|((with_reducible apply bN);first|rfl|simp)|((with_reducible apply aZ);rfl;rfl;rfl;rfl;(first|exact Nat.le_refl _|simp);(first|rfl|simp);(first|rfl|simp))|(refine aI (by kernel_rfl) (fD) ?_)|(refine aI (by kernel_rfl) (hC) ?_)|(refine aI (by kernel_rfl) (hK) ?_)|(refine bx rfl jF rfl hp ?_)|((with_reducible apply bV);rfl)|(with_reducible intro _))
      all_goals exact .pure (by simp) (by simp_all [jY,ho,tri,hc])
 ·have e : jZ i v = .tup [ff,int 2]:=by unfold jZ hasB;rw [if_neg hi,if_neg hi]
  rw [e]
  have g : i < 0 ∨ 18 ≤ i:=by omega
  rw [bS]
  rcases g with g|g
  ·have q1 : decide (i < 0) = true:=by simpa using g
   repeat' (first|(with_reducible first|apply aG|apply ar|refine And.intro True.intro ?_)|((with_reducible first|apply aF|apply dq|apply bR|apply bE);rfl;rfl)|((with_reducible apply bF);rfl)|((with_reducible apply aE);rfl)|((with_reducible apply ax);rfl)|((with_reducible apply ak);rfl;first|rfl|assumption)|((with_reducible apply ag);rfl;first|rfl|assumption)|((with_reducible apply aA);rfl;first|rfl|assumption)|((with_reducible apply ay);rfl;first|rfl|assumption)|((with_reducible apply cZ);rfl)|((with_reducible apply cD);rfl)|((with_reducible apply aC);rfl)|((with_reducible apply aD);rfl;rfl;rfl)|((with_reducible apply ba);rfl;rfl;first|exact Nat.le_refl _|exact Nat.le_of_ble_eq_true rfl)|((with_reducible apply aY);rfl;first|rfl|simp)|((with_reducible apply bN);first|rfl|simp)|((with_reducible apply aZ);rfl;rfl;rfl;rfl;(first|exact Nat.le_refl _|simp);(first|rfl|simp);(first|rfl|simp))|((with_reducible apply bV);rfl)|(with_reducible intro _))
   exact .pure (by simp) rfl
  ·have q1 : decide (i < 0) = false:=by simp;omega
   have q2 : decide (18 ≤ i) = true:=by simpa using g
   repeat' (first|(with_reducible first|apply aG|apply ar|refine And.intro True.intro ?_)|((with_reducible first|apply aF|apply dq|apply bR|apply bE);rfl;rfl)|((with_reducible apply bF);rfl)|((with_reducible apply aE);rfl)|((with_reducible apply ax);rfl)|((with_reducible apply ak);rfl;first|rfl|assumption)|((with_reducible apply ag);rfl;first|rfl|assumption)|((with_reducible apply aA);rfl;first|rfl|assumption)|((with_reducible apply ay);rfl;first|rfl|assumption)|((with_reducible apply cZ);rfl)|((with_reducible apply cD);rfl)|((with_reducible apply aC);rfl)|((with_reducible apply aD);rfl;rfl;rfl)|((with_reducible apply ba);rfl;rfl;first|exact Nat.le_refl _|exact Nat.le_of_ble_eq_true rfl)|((with_reducible apply aY);rfl;first|rfl|simp)|((with_reducible apply bN);first|rfl|simp)|((with_reducible apply aZ);rfl;rfl;rfl;rfl;(first|exact Nat.le_refl _|simp);(first|rfl|simp);(first|rfl|simp))|((with_reducible apply bV);rfl)|(with_reducible intro _))
   exact .pure (by simp) rfl
end Go.Proofs.YtfageokhpklkbaaGreatDoor
end

section
namespace Go.Proofs.YtfageokhpklkbaaGreatDoor
open Go Go.Aw
set_option maxRecDepth 1000000
def ws (p : Rw) : List Str:=p.words.getD []
def ks (p : Rw) : List Int:=p.kinds.getD []
def lM (p : Rw) : List AV:=[.str p.name,bool p.inh,.v (.int .u8 p.k),.str p.w,int p.n,.v (.int .u8 p.r),.v (.int .u8 p.g),.v (.int .u8 p.b),.v (.int .u8 p.a),.sl 1 (gj (ws p)),.sl 1 (jX (ks p)),bool p.least]
theorem Ko (o : Option (List Str)) : DLe (wAV o) (.sl 1 (gj (o.getD []))):=by
 cases o with
 | none=>exact .nil 1
 | some l=>exact .refl _
theorem JD (o : Option (List Int)) : DLe (kAV o) (.sl 1 (jX (o.getD []))):=by
 cases o with
 | none=>exact .nil 1
 | some l=>exact .refl _
theorem Eo (p : Rw) : jo (ki p) (lM p):=by
 unfold ki lM
 iterate 9 refine .cons (.refl _) ?_
 exact .cons (Ko _) (.cons (JD _) (.cons (.refl _) .nil))
theorem rK : ∀ l : List Rw,mJ (l.map ki) (l.map lM)
 | []=>.nil
 | p :: l=>.cons (Eo p) (rK l)
theorem BX (p : Rw) : bM (lM p):=by simp [lM,kj,lN]
theorem pU : ∀ l : List Rw,cd (l.map lM)
 | []=>by simp [cd]
 | p :: l=>by simp only [List.map_cons,cd];exact ⟨BX p,pU l⟩
theorem jR : Con Tryz.prog 29 [] (.sl 12 (rwR.map lM)):=by
 have:=rC
 rw [Kj] at this
 exact this.dle (.sl (rK _)) (by simp [pU])
set_option maxHeartbeats 8000000 in
theorem Gc (i : Int) (v : Vv) (hn : inI v.num) : Con Tryz.prog 37 [int i,.agg (bS v)] (jZ i v):=by
 refine (V37 _ _).gives (by simp [eB]) (by simp [jZ]) ?_
 unfold W37
 have hC:=xU v hn
 have hL : (rwR.map lM).length = 18:=rfl
 by_cases hi : 0 ≤ i ∧ i < 18
 ·obtain ⟨k,rfl⟩ : ∃ k : Nat,i = (k : Int):=⟨i.toNat,by omega⟩
  have hk : k < 18:=by omega
  obtain ⟨p,hp⟩ : ∃ p,rwR[k]? = some p:=⟨rwR[k]'(by rw [AI];exact hk),List.getElem?_eq_getElem (by rw [AI];exact hk)⟩
  have ht:=LV hp
  obtain ⟨s1,s2⟩:=AD ht
  have s1 : (ws p).length ≤ 9:=s1
  have s2 : (ks p).length ≤ 9:=s2
  have q1 : decide ((k : Int) < 0) = false:=by simp
  have q2 : decide (((18 : Nat) : Int) ≤ (k : Int)) = false:=by simp;omega
  have e : jZ k v = .tup [bool (jY (tri p) v),int 0]:=by
   unfold jZ hasB
   rw [if_pos hi,if_pos hi,Int.toNat_natCast,List.getD_eq_getElem?_getD,ht];rfl
  rw [e]
  have et : tri p = (ws p,ks p,p.least):=rfl
  rw [et]
  obtain ⟨c,w,n,r,g,b,a⟩:=v
  rw [bS] at hC ⊢
  simp only at hn
  have hx:=@wo ⟨c,w,n,r,g,b,a⟩
  cases ho : okW ⟨c,w,n,r,g,b,a⟩ with
  | false =>
    rw [ho] at hx
    repeat' (first|(refine aB (n:=18) rfl hL fun _=>?_)|(with_reducible first|apply aG|apply ar|refine And.intro True.intro ?_)|((with_reducible first|apply aF|apply dq|apply bR|apply bE);rfl;rfl)|((with_reducible apply de);rfl;rfl)|((with_reducible apply aP);rfl;rfl;first|assumption|(unfold inI;omega))|((with_reducible apply bF);rfl)|((with_reducible apply aE);rfl)|((with_reducible apply ax);rfl)|((with_reducible apply ak);rfl;first|rfl|assumption)|((with_reducible apply ag);rfl;first|rfl|assumption)|((with_reducible apply aA);rfl;first|rfl|assumption)|((with_reducible apply ay);rfl;first|rfl|assumption)|((with_reducible apply cD);rfl)|((with_reducible apply aC);rfl)|((with_reducible apply aD);rfl;rfl;rfl)|((with_reducible apply aR);rfl)|((with_reducible apply ba);rfl;rfl;first|exact Nat.le_refl _|exact Nat.le_of_ble_eq_true rfl)|((with_reducible apply aY);rfl;first|rfl|simp)|((with_reducible apply bN);first|rfl|simp)|((with_reducible apply aZ);rfl;rfl;rfl;rfl;(first|exact Nat.le_refl _|simp);(first|rfl|simp);(first|rfl|simp))|((with_reducible apply aB);rfl;(first|rfl|simp);intro _)|(refine aI (by kernel_rfl) (jR) ?_)|(refine aI (by kernel_rfl) (hC) ?_)|((with_reducible apply cA);rfl)|((with_reducible apply bV);rfl)|(with_reducible intro _))
    exact .pure (by simp) (by simp [jY,ho])
  | true =>
    rw [ho] at hx
    by_cases hc : c = 1
    ·have q3 : decide (c = 1) = true:=by simpa using hc
     repeat' (first|(refine aB (n:=18) rfl hL fun _=>?_)|(with_reducible first|apply aG|apply ar|refine And.intro True.intro ?_)|((with_reducible first|apply aF|apply dq|apply bR|apply bE);rfl;rfl)|((with_reducible apply de);rfl;rfl)|((with_reducible apply aP);rfl;rfl;first|assumption|(unfold inI;omega))|((with_reducible apply bF);rfl)|((with_reducible apply aE);rfl)|((with_reducible apply ax);rfl)|((with_reducible apply ak);rfl;first|rfl|assumption)|((with_reducible apply ag);rfl;first|rfl|assumption)|((with_reducible apply aA);rfl;first|rfl|assumption)|((with_reducible apply ay);rfl;first|rfl|assumption)|((with_reducible apply cD);rfl)|((with_reducible apply aC);rfl)|((with_reducible apply aD);rfl;rfl;rfl)|((with_reducible apply aR);rfl)|((with_reducible apply ba);rfl;rfl;first|exact Nat.le_refl _|exact Nat.le_of_ble_eq_true rfl)|((with_reducible apply aY);rfl;first|rfl|simp)|((with_reducible apply bN);first|rfl|simp)|((with_reducible apply aZ);rfl;rfl;rfl;rfl;(first|exact Nat.le_refl _|simp);(first|rfl|simp);(first|rfl|simp))|((with_reducible apply aB);rfl;(first|rfl|simp);intro _)|(refine aI (by kernel_rfl) (jR) ?_)|(refine aI (by kernel_rfl) (hC) ?_)|(refine bx rfl rfl rfl hp ?_)|((with_reducible apply cA);rfl)|((with_reducible apply bV);rfl)|(with_reducible intro _))
     subst hc
     refine a7 (α:=Nat) (fun k=>k ≤ (ws p).length ∧ w ∉ (ws p).take k) (fun k=>[int k]) (fun _=>_) (fun k=>(ws p).length - k) 0 (by simp) (Wk.refl _ _ _ (by simp)) ?_
     rintro k ⟨hk,hnot⟩
     rcases Nat.lt_or_ge k (ws p).length with q|q
     ·obtain ⟨s,hs⟩ : ∃ x,(ws p)[k]? = some x:=⟨(ws p)[k],List.getElem?_eq_getElem q⟩
      have g1 : decide ((k : Int) < ((ws p).length : Nat)) = true:=by simpa using q
      have gi : inI ((k : Int) + 1):=by unfold inI;omega
      repeat' (first|(refine aB (n:=(ws p).length) rfl (by simp [gj]) fun _=>?_)|(with_reducible first|apply aG|apply ar|refine And.intro True.intro ?_)|((with_reducible first|apply aF|apply dq|apply bR|apply bE);rfl;rfl)|((with_reducible apply de);rfl;rfl)|((with_reducible apply aP);rfl;rfl;first|assumption|(unfold inI;omega))|((with_reducible apply bF);rfl)|((with_reducible apply aE);rfl)|((with_reducible apply ax);rfl)|((with_reducible apply ak);rfl;first|rfl|assumption)|((with_reducible apply ag);rfl;first|rfl|assumption)|((with_reducible apply aA);rfl;first|rfl|assumption)|((with_reducible apply ay);rfl;first|rfl|assumption)|((with_reducible apply cD);rfl)|((with_reducible apply aC);rfl)|((with_reducible apply aD);rfl;rfl;rfl)|((with_reducible apply aR);rfl)|((with_reducible apply ba);rfl;rfl;first|exact Nat.le_refl _|exact Nat.le_of_ble_eq_true rfl)|((with_reducible apply aY);rfl;first|rfl|simp)|((with_reducible apply bN);first|rfl|simp)|((with_reducible apply aZ);rfl;rfl;rfl;rfl;(first|exact Nat.le_refl _|simp);(first|rfl|simp);(first|rfl|simp))|((with_reducible apply aB);rfl;(first|rfl|simp);intro _)|(refine bx (f:=fun s=>[.str s]) rfl rfl rfl hs ?_)|((with_reducible apply cA);rfl)|((with_reducible apply bV);rfl)|(with_reducible intro _))
      ·rename_i hc
       have hc : s = w:=by simpa using hc
       have : w ∈ ws p:=by rw [← hc];exact List.mem_of_getElem? hs
       exact .pure (by simp) (by simp [jY,ho,this])
      ·rename_i hc
       have hc : s ≠ w:=by simpa using hc
       exact ⟨k + 1,⟨q,by rw [List.take_add_one,hs];simp;exact ⟨hnot,fun h=>hc h.symm⟩⟩,Wk.refl _ _ _ (by simp),by omega⟩
     ·have hk : k = (ws p).length:=by omega
      subst hk
      rw [List.take_length] at hnot
      have g1 : decide ((((ws p).length : Nat) : Int) < ((ws p).length : Nat)) = false:=by simp
      repeat' (first|(refine aB (n:=(ws p).length) rfl (by simp [gj]) fun _=>?_)|(with_reducible first|apply aG|apply ar|refine And.intro True.intro ?_)|((with_reducible first|apply aF|apply dq|apply bR|apply bE);rfl;rfl)|((with_reducible apply de);rfl;rfl)|((with_reducible apply aP);rfl;rfl;first|assumption|(unfold inI;omega))|((with_reducible apply bF);rfl)|((with_reducible apply aE);rfl)|((with_reducible apply ax);rfl)|((with_reducible apply ak);rfl;first|rfl|assumption)|((with_reducible apply ag);rfl;first|rfl|assumption)|((with_reducible apply aA);rfl;first|rfl|assumption)|((with_reducible apply ay);rfl;first|rfl|assumption)|((with_reducible apply cD);rfl)|((with_reducible apply aC);rfl)|((with_reducible apply aD);rfl;rfl;rfl)|((with_reducible apply aR);rfl)|((with_reducible apply ba);rfl;rfl;first|exact Nat.le_refl _|exact Nat.le_of_ble_eq_true rfl)|((with_reducible apply aY);rfl;first|rfl|simp)|((with_reducible apply bN);first|rfl|simp)|((with_reducible apply aZ);rfl;rfl;rfl;rfl;(first|exact Nat.le_refl _|simp);(first|rfl|simp);(first|rfl|simp))|((with_reducible apply aB);rfl;(first|rfl|simp);intro _)|((with_reducible apply cA);rfl)|((with_reducible apply bV);rfl)|(with_reducible intro _))
      exact .pure (by simp) (by simp [jY,ho,hnot])
    ·have q3 : decide (c = 1) = false:=by simpa using hc
     repeat' (first|(refine aB (n:=18) rfl hL fun _=>?_)|(with_reducible first|apply aG|apply ar|refine And.intro True.intro ?_)|((with_reducible first|apply aF|apply dq|apply bR|apply bE);rfl;rfl)|((with_reducible apply de);rfl;rfl)|((with_reducible apply aP);rfl;rfl;first|assumption|(unfold inI;omega))|((with_reducible apply bF);rfl)|((with_reducible apply aE);rfl)|((with_reducible apply ax);rfl)|((with_reducible apply ak);rfl;first|rfl|assumption)|((with_reducible apply ag);rfl;first|rfl|assumption)|((with_reducible apply aA);rfl;first|rfl|assumption)|((with_reducible apply ay);rfl;first|rfl|assumption)|((with_reducible apply cD);rfl)|((with_reducible apply aC);rfl)|((with_reducible apply aD);rfl;rfl;rfl)|((with_reducible apply aR);rfl)|((with_reducible apply ba);rfl;rfl;first|exact Nat.le_refl _|exact Nat.le_of_ble_eq_true rfl)|((with_reducible apply aY);rfl;first|rfl|simp)|((with_reducible apply bN);first|rfl|simp)|((with_reducible apply aZ);rfl;rfl;rfl;rfl;(first|exact Nat.le_refl _|simp);(first|rfl|simp);(first|rfl|simp))|((with_reducible apply aB);rfl;(first|rfl|simp);intro _)|(refine aI (by kernel_rfl) (jR) ?_)|(refine aI (by kernel_rfl) (hC) ?_)|(refine bx rfl rfl rfl hp ?_)|((with_reducible apply cA);rfl)|((with_reducible apply bV);rfl)|(with_reducible intro _))
     refine a7 (α:=Nat) (fun k=>k ≤ (ks p).length ∧ c ∉ (ks p).take k) (fun k=>[int k]) (fun _=>_) (fun k=>(ks p).length - k) 0 (by simp) (Wk.refl _ _ _ (by simp)) ?_
     rintro k ⟨hk,hnot⟩
     rcases Nat.lt_or_ge k (ks p).length with q|q
     ·obtain ⟨s,hs⟩ : ∃ x,(ks p)[k]? = some x:=⟨(ks p)[k],List.getElem?_eq_getElem q⟩
      have g1 : decide ((k : Int) < ((ks p).length : Nat)) = true:=by simpa using q
      have gi : inI ((k : Int) + 1):=by unfold inI;omega
      by_cases hs2 : s = c
      ·subst hs2
       have : s ∈ ks p:=List.mem_of_getElem? hs
       have g2 : decide (s = s) = true:=by simp
       repeat' (first|(refine aB (n:=(ks p).length) rfl (by simp [jX]) fun _=>?_)|(with_reducible first|apply aG|apply ar|refine And.intro True.intro ?_)|((with_reducible first|apply aF|apply dq|apply bR|apply bE);rfl;rfl)|((with_reducible apply de);rfl;rfl)|((with_reducible apply aP);rfl;rfl;first|assumption|(unfold inI;omega))|((with_reducible apply bF);rfl)|((with_reducible apply aE);rfl)|((with_reducible apply ax);rfl)|((with_reducible apply ak);rfl;first|rfl|assumption)|((with_reducible apply ag);rfl;first|rfl|assumption)|((with_reducible apply aA);rfl;first|rfl|assumption)|((with_reducible apply ay);rfl;first|rfl|assumption)|((with_reducible apply cD);rfl)|((with_reducible apply aC);rfl)|((with_reducible apply aD);rfl;rfl;rfl)|((with_reducible apply aR);rfl)|((with_reducible apply ba);rfl;rfl;first|exact Nat.le_refl _|exact Nat.le_of_ble_eq_true rfl)|((with_reducible apply aY);rfl;first|rfl|simp)|((with_reducible apply bN);first|rfl|simp)|((with_reducible apply aZ);rfl;rfl;rfl;rfl;(first|exact Nat.le_refl _|simp);(first|rfl|simp);(first|rfl|simp))|((with_reducible apply aB);rfl;(first|rfl|simp);intro _)|(refine bx (f:=fun s=>[.v (.int .u8 s)]) rfl rfl rfl hs ?_)|((with_reducible apply cA);rfl)|((with_reducible apply bV);rfl)|(with_reducible intro _))
       all_goals exact .pure (by simp) (by simp_all [jY,ho,this,hc])
      ·have g2 : decide (s = c) = false:=by simpa using hs2
       repeat' (first|(refine aB (n:=(ks p).length) rfl (by simp [jX]) fun _=>?_)|(with_reducible first|apply aG|apply ar|refine And.intro True.intro ?_)|((with_reducible first|apply aF|apply dq|apply bR|apply bE);rfl;rfl)|((with_reducible apply de);rfl;rfl)|((with_reducible apply aP);rfl;rfl;first|assumption|(unfold inI;omega))|((with_reducible apply bF);rfl)|((with_reducible apply aE);rfl)|((with_reducible apply ax);rfl)|((with_reducible apply ak);rfl;first|rfl|assumption)|((with_reducible apply ag);rfl;first|rfl|assumption)|((with_reducible apply aA);rfl;first|rfl|assumption)|((with_reducible apply ay);rfl;first|rfl|assumption)|((with_reducible apply cD);rfl)|((with_reducible apply aC);rfl)|((with_reducible apply aD);rfl;rfl;rfl)|((with_reducible apply aR);rfl)|((with_reducible apply ba);rfl;rfl;first|exact Nat.le_refl _|exact Nat.le_of_ble_eq_true rfl)|((with_reducible apply aY);rfl;first|rfl|simp)|((with_reducible apply bN);first|rfl|simp)|((with_reducible apply aZ);rfl;rfl;rfl;rfl;(first|exact Nat.le_refl _|simp);(first|rfl|simp);(first|rfl|simp))|((with_reducible apply aB);rfl;(first|rfl|simp);intro _)|(refine bx (f:=fun s=>[.v (.int .u8 s)]) rfl rfl rfl hs ?_)|((with_reducible apply cA);rfl)|((with_reducible apply bV);rfl)|(with_reducible intro _))
       exact ⟨k + 1,⟨q,by rw [List.take_add_one,hs];simp;exact ⟨hnot,fun h=>hs2 h.symm⟩⟩,Wk.refl _ _ _ (by simp),by omega⟩
     ·have hk : k = (ks p).length:=by omega
      subst hk
      rw [List.take_length] at hnot
      have g1 : decide ((((ks p).length : Nat) : Int) < ((ks p).length : Nat)) = false:=by simp
      repeat' (first|(refine aB (n:=(ks p).length) rfl (by simp [jX]) fun _=>?_)|(with_reducible first|apply aG|apply ar|refine And.intro True.intro ?_)|((with_reducible first|apply aF|apply dq|apply bR|apply bE);rfl;rfl)|((with_reducible apply de);rfl;rfl)|((with_reducible apply aP);rfl;rfl;first|assumption|(unfold inI;omega))|((with_reducible apply bF);rfl)|((with_reducible apply aE);rfl)|((with_reducible apply ax);rfl)|((with_reducible apply ak);rfl;first|rfl|assumption)|((with_reducible apply ag);rfl;first|rfl|assumption)|((with_reducible apply aA);rfl;first|rfl|assumption)|((with_reducible apply ay);rfl;first|rfl|assumption)|((with_reducible apply cD);rfl)|((with_reducible apply aC);rfl)|((with_reducible apply aD);rfl;rfl;rfl)|((with_reducible apply aR);rfl)|((with_reducible apply ba);rfl;rfl;first|exact Nat.le_refl _|exact Nat.le_of_ble_eq_true rfl)|((with_reducible apply aY);rfl;first|rfl|simp)|((with_reducible apply bN);first|rfl|simp)|((with_reducible apply aZ);rfl;rfl;rfl;rfl;(first|exact Nat.le_refl _|simp);(first|rfl|simp);(first|rfl|simp))|((with_reducible apply aB);rfl;(first|rfl|simp);intro _)|((with_reducible apply cA);rfl)|((with_reducible apply bV);rfl)|(with_reducible intro _))
      exact .pure (by simp) (by simp [jY,ho,hnot,hc])
 ·have e : jZ i v = .tup [ff,int 2]:=by unfold jZ hasB;rw [if_neg hi,if_neg hi]
  rw [e]
  have g : i < 0 ∨ 18 ≤ i:=by omega
  rw [bS]
  rcases g with g|g
  ·have q1 : decide (i < 0) = true:=by simpa using g
   repeat' (first|(refine aB (n:=18) rfl hL fun _=>?_)|(with_reducible first|apply aG|apply ar|refine And.intro True.intro ?_)|((with_reducible first|apply aF|apply dq|apply bR|apply bE);rfl;rfl)|((with_reducible apply de);rfl;rfl)|((with_reducible apply aP);rfl;rfl;first|assumption|(unfold inI;omega))|((with_reducible apply bF);rfl)|((with_reducible apply aE);rfl)|((with_reducible apply ax);rfl)|((with_reducible apply ak);rfl;first|rfl|assumption)|((with_reducible apply ag);rfl;first|rfl|assumption)|((with_reducible apply aA);rfl;first|rfl|assumption)|((with_reducible apply ay);rfl;first|rfl|assumption)|((with_reducible apply cD);rfl)|((with_reducible apply aC);rfl)|((with_reducible apply aD);rfl;rfl;rfl)|((with_reducible apply aR);rfl)|((with_reducible apply ba);rfl;rfl;first|exact Nat.le_refl _|exact Nat.le_of_ble_eq_true rfl)|((with_reducible apply aY);rfl;first|rfl|simp)|((with_reducible apply bN);first|rfl|simp)|((with_reducible apply aZ);rfl;rfl;rfl;rfl;(first|exact Nat.le_refl _|simp);(first|rfl|simp);(first|rfl|simp))|((with_reducible apply aB);rfl;(first|rfl|simp);intro _)|(refine aI (by kernel_rfl) (jR) ?_)|((with_reducible apply cA);rfl)|((with_reducible apply bV);rfl)|(with_reducible intro _))
   exact .pure (by simp) rfl
  ·have q1 : decide (i < 0) = false:=by simp;omega
   have q2 : decide (((18 : Nat) : Int) ≤ i) = true:=by simp;omega
   repeat' (first|(refine aB (n:=18) rfl hL fun _=>?_)|(with_reducible first|apply aG|apply ar|refine And.intro True.intro ?_)|((with_reducible first|apply aF|apply dq|apply bR|apply bE);rfl;rfl)|((with_reducible apply de);rfl;rfl)|((with_reducible apply aP);rfl;rfl;first|assumption|(unfold inI;omega))|((with_reducible apply bF);rfl)|((with_reducible apply aE);rfl)|((with_reducible apply ax);rfl)|((with_reducible apply ak);rfl;first|rfl|assumption)|((with_reducible apply ag);rfl;first|rfl|assumption)|((with_reducible apply aA);rfl;first|rfl|assumption)|((with_reducible apply ay);rfl;first|rfl|assumption)|((with_reducible apply cD);rfl)|((with_reducible apply aC);rfl)|((with_reducible apply aD);rfl;rfl;rfl)|((with_reducible apply aR);rfl)|((with_reducible apply ba);rfl;rfl;first|exact Nat.le_refl _|exact Nat.le_of_ble_eq_true rfl)|((with_reducible apply aY);rfl;first|rfl|simp)|((with_reducible apply bN);first|rfl|simp)|((with_reducible apply aZ);rfl;rfl;rfl;rfl;(first|exact Nat.le_refl _|simp);(first|rfl|simp);(first|rfl|simp))|((with_reducible apply aB);rfl;(first|rfl|simp);intro _)|(refine aI (by kernel_rfl) (jR) ?_)|((with_reducible apply cA);rfl)|((with_reducible apply bV);rfl)|(with_reducible intro _))
   exact .pure (by simp) rfl
end Go.Proofs.YtfageokhpklkbaaGreatDoor
end
