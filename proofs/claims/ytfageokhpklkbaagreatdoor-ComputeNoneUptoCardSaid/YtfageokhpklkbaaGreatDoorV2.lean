/-
  A style's custom properties without declarations: the parent's. What is declared for a property,where nothing is: the parent's value,or the initial one. A style without declarations. Styles held against each other;the style without declarations,and the initial one. Without declarations a style is the parent's for inherited properties and custom ones,and initial otherwise: the law,over its examples.
  No conditions.
-/
import Derived.Test.YtfageokhpklkbaaGreatDoorVrE
import Derived.Test.YtfageokhpklkbaaGreatDoorSrtK
import Derived.Test.YtfageokhpklkbaaGreatDoorStyJ
import Derived.Test.YtfageokhpklkbaaGreatDoorVrDec
import Derived.Test.YtfageokhpklkbaaGreatDoorS1
import Derived.Test.YtfageokhpklkbaaGreatDoorStyO
set_option linter.unusedVariables false
set_option linter.unusedSimpArgs false
section
namespace Go.Proofs.YtfageokhpklkbaaGreatDoor
open Go Go.Aw Go.Nst
set_option maxRecDepth 100000
abbrev aX : AV:=.v (.slice none 0 0)
theorem vy {K : AV → Prop} (q : K (int 0)) : bI aX K:=q
theorem fB {P : Program} {id o : Nat} {K : AV → Prop} (q : K (.op id o)) : dt P (.op id o) K:=q
theorem KW {n k : Nat} {x : AV} {rows : List (List AV)} {K : AV → Prop} (ex : x = .sl n rows) (hk : rows.length = k) (q : K (.sl n rows)) : iSl n x none (some (int k)) K:=by
 subst ex;subst hk
 rw [Na]
 simp only [cM]
 refine ⟨by simp,⟨by omega,by omega,by omega⟩, ?_⟩
 simpa using q
theorem KU {a b : Nat} {x y : AV} {K : AV → Prop} (ex : x = int a) (ey : y = int b) (h : a ≤ b) (q : K (int a)) : jd x y K:=by
 subst ex;subst ey
 refine ⟨rfl, ?_⟩
 rw [if_neg (by omega)];exact q
theorem Bc : Con Tryz.prog 38 [aX] (int 0):=by
 refine (V38 _).gives (by simp) (by simp) ?_
 unfold W38
 refine vy (a7 (α:=Unit) (fun _=>True) (fun _=>[int 0]) (fun _=>[]) (fun _=>0) () trivial (Wk.refl _ _ _ (Nat.le_refl _)) ?_)
 intro _ _
 refine aF rfl rfl (ag rfl rfl (a7 (α:=Unit) (fun _=>True) (fun _=>[int 1]) (fun _=>[]) (fun _=>0) () trivial (Wk.refl _ _ _ (Nat.le_refl _)) ?_))
 intro _ _
 refine vy (aF rfl rfl (ag rfl rfl ?_))
 exact .pure (by simp) rfl
theorem pS {s : Str} {b : Bool} (hs : j4 s = .tup [bool b,int 0]) : Con Tryz.prog 74 [aX,.str s] (.tup [int (-1),.str (jG b),int 0]):=by
 refine (V74 _ _).gives (by simp) (by simp) ?_
 unfold W74
 refine b6 rfl (by kernel_rfl) Bc ?_
 refine bE rfl rfl (ag rfl rfl ?_)
 have h:=nN s
 rw [hs] at h
 refine b6 rfl (by kernel_rfl) h ?_
 refine bB rfl rfl (bB rfl rfl (bE rfl rfl (ag rfl rfl ?_)))
 refine b6 rfl (by kernel_rfl) (F9 hs) ?_
 refine bB rfl rfl (bB rfl rfl ?_)
 exact .pure (by simp) rfl
abbrev dkB (s : Sy) (own : AV) (root : Int) : Ent:=.blk ⟨62,[.sl 7 (bC s.az),.sl 2 (aq s.db),aX,own,.sl 12 fY,int root],true⟩
abbrev kB (id : Nat) : Ent:=.blk ⟨143,[.mp id],true⟩
theorem FV {id : Nat} {h : aa} : ct Tryz.prog 73 [.mp id] h fun v h' => v = .fn (.func 114) [] [.op h.length 0] ∧ h' = h ++ [kB id]:=by
 refine (V73 _).gg ?_
 unfold W73
 refine cL (cs:=[.mp id]) (n:=h.length) (h':=h ++ [kB id]) rfl rfl rfl rfl ?_
 exact ⟨_,_,Wk.refl _ _ _ (by simp),rfl,rfl⟩
theorem Er {id mid c : Nat} {h : aa} {es : List (Nat × AV × AV)} {r r' : AV} (h1 : h[id]? = some (kB mid)) (h2 : h[mid]? = some (.mp c es)) (h3 : qD c es = some r) (h4 : RLe r r') :
 Ex Tryz.prog 72 [.fn (.func 114) [] [.op id 0]] h r' :=
 ⟨by kernel_rfl,It (yC h1 rfl h2 h3) h4⟩
set_option maxHeartbeats 4000000 in
theorem AY {s : Sy} {h : aa} {d : Nat} {root : Int} (hd : h[d]? = some (dkB s aX root)) (hl : s.db.length ≤ 64) (hn : dx s.db = true) (hz : ∀ c ∈ s.db,zVs c.value ≤ 2000) (hv : ∀ c ∈ s.db,bT c.value = false) (hk : ∀ c ∈ s.db,fa c.value = 0) :
 ct Tryz.prog 42 [.op d 0] h fun v h' => v = .tup [] ∧ h' = h.set d (dkB s (.sl 2 (aq s.db)) root):=by
 refine ct.bd fun hb=>(V42 _).gg ?_
 unfold W42
 obtain ⟨az,l⟩:=s
 dsimp only at hl hn hz hv hk hd ⊢
 have inj:=uM hn
 have hlt:=(List.getElem?_eq_some_iff.1 hd).1
 have gd : ∀ t : aa,(h ++ t)[d]? = some (dkB ⟨az,l⟩ aX root):=fun t=>by rw [List.getElem?_append_left hlt];exact hd
 have mpB : ∀ (M a n c : Nat),dg M (.mp c (mEs (fun _=>tt) (nmC l) a n)):=fun M a n c=>sF (fun i=>by simp [Bd]) _ _
 refine jL (n:=h.length) (h':=h ++ [.mp 0 (mEs (fun _=>tt) (nmC l) 0 0)]) rfl rfl (fB (aC rfl (aD rfl (gd _) rfl (vy (a7 (α:=Unit) (fun _=>True) (fun _=>[int 0]) (fun _=>h ++ [.mp 0 (mEs (fun _=>tt) (nmC l) 0 0)]) (fun _=>0) () trivial (Wk.refl _ _ _ (Nat.le_refl _)) ?_)))))
 intro _ _
 refine aF rfl rfl (ag rfl rfl (fB (aC rfl (aC rfl (aC rfl (aD rfl (gd _) rfl ?_))))))
 refine aB (n:=l.length) rfl (by simp [aq]) fun _=>?_
 refine a7 (α:=Nat) (fun k=>k ≤ l.length) (fun k=>[int k]) (fun k=>h ++ [.mp k (mEs (fun _=>tt) (nmC l) 0 k)]) (fun k=>l.length - k) 0 (Nat.zero_le _) (Wk.refl _ _ _ (Nat.le_refl _)) ?_
 intro k hk'
 refine aF rfl rfl ?_
 rcases Nat.lt_or_ge k l.length with q|q
 ·obtain ⟨c,hx⟩ : ∃ x,l[k]? = some x:=⟨l[k],List.getElem?_eq_getElem q⟩
  refine ak rfl (by simpa using q) ?_
  refine im hx ?_
  refine jh (n:=h.length + 1) (h':=h ++ [.mp k (mEs (fun _=>tt) (nmC l) 0 k),cB c]) (by simp) (by simp) ?_
  refine aC rfl ?_
  refine fu (c:=c) (by simp) ?_
  refine o9 (h':=h ++ [.mp (k + 1) (mEs (fun _=>tt) (nmC l) 0 (k + 1)),cB c]) rfl g_c rfl (by rw [← eF hx];exact kI (f:=fun _=>tt) inj q) (by simp) ?_
  refine aP rfl rfl (by unfold inI;omega) ?_
  refine ar ?_
  refine ⟨k + 1,q,Wk.back (M:=h.length + 1) (by simp) (by simp) xJ rfl ?_ (by simp [Bd]),by omega⟩
  intro e he
  rcases List.mem_append.1 he with he|he
  ·exact fZ (by omega) (hb e he)
  ·simp only [List.mem_singleton] at he;subst he;exact mpB _ _ _ _
 ·obtain rfl : k = l.length:=by omega
  refine ag rfl (by simp) ?_
  refine lI (by kernel_rfl) rfl FV fun r G ⟨er,eG⟩ hbG=>?_
  obtain rfl : r = .fn (.func 114) [] [.op (h.length + 1) 0]:=by rw [er];simp
  obtain ⟨rr,hr1,hr2⟩:=FH hn hl
  have gG : G[d]? = some (dkB ⟨az,l⟩ aX root):=by rw [eG,List.append_assoc];exact gd _
  have gT : ∀ t : aa,(G ++ t)[d]? = some (dkB ⟨az,l⟩ aX root):=fun t=>by rw [eG,List.append_assoc,List.append_assoc];exact gd _
  refine lH rfl (Er (mid:=h.length) (by rw [eG];simp) (by rw [eG,List.append_assoc];exact g_c) hr1 hr2) ?_
  refine aB (n:=l.length) rfl (by simp [gj]) fun _=>?_
  refine KU (b:=64) rfl rfl hl ?_
  refine KW rfl (by simp [gj]) ?_
  refine aB (n:=l.length) rfl (by simp [gj]) fun _=>?_
  refine a7 (α:=Nat) (fun k=>k ≤ l.length) (fun k=>[.sb G.length 2 (aq (l.take k)),int k]) (fun k=>G ++ [.tok 65 2 k]) (fun k=>l.length - k) 0 (Nat.zero_le _) ((Wk.nil (Nat.le_refl _) 0 rfl).trans (Wk.tok (Nat.le_refl _) 0 65 2 rfl)) ?_
  intro k hk'
  refine aF rfl rfl ?_
  rcases Nat.lt_or_ge k l.length with q|q
  ·obtain ⟨c,hx⟩ : ∃ x,l[k]? = some x:=⟨l[k],List.getElem?_eq_getElem q⟩
   have d1:=oA hx
   have pr:=bG (l.take (k + 1))
   obtain ⟨R,hR⟩ : ∃ R,aq (l.take k) = R:=⟨_,rfl⟩
   have hRl : R.length = k:=by rw [← hR];first|(simp [aq];done)|(simp [aq];omega)
   rw [hR] at d1 ⊢
   refine ak rfl (by simpa using q) ?_
   refine aG ?_
   refine bx (f:=fun s=>[.str s]) (l:=l.map Cu.name) (a:=c.name) rfl rfl rfl (by rw [List.getElem?_map,hx];rfl) ?_
   refine aR rfl (fB (aC rfl (aD rfl (gT _) rfl ?_)))
   refine b6 rfl (by kernel_rfl) (pS (s:=c.name) (b:=true) (by unfold j4;rw [if_pos (Hp hn (List.mem_of_getElem? hx))])) ?_
   refine bB rfl rfl (bB rfl rfl (bB rfl rfl (dq rfl rfl (ag rfl rfl (fB (aC rfl ?_))))))
   refine ba rfl (gT _) (by show 2 ≤ 6;decide) ?_
   refine b6 rfl (by kernel_rfl) (Bh (dH az) hl inj hx) ?_
   refine bB rfl rfl (bB rfl rfl (aG (aA rfl rfl (de rfl rfl (ar (aE rfl ?_))))))
   refine ak rfl (by decide) ?_
   refine qa (AX ?_)
   refine jg (id:=G.length) (k:=k) (base:=R) (rows:=[bX c]) (h':=G ++ [.tok 65 2 (k + 1)]) rfl (by simp) hRl.symm eU rfl (by unfold cT maxLen;first|(simp;done)|(simp;omega)) (by rw [List.set_append_right _ _ (Nat.le_refl _)];simp) ?_
   refine ar ?_
   refine aP rfl rfl (by unfold inI;omega) ?_
   refine ar ?_
   exact ⟨k + 1,q,by rw [d1];exact Wk.refl _ _ _ (by simp),by omega⟩
  ·obtain rfl : k = l.length:=by omega
   refine ag rfl (by simp) ?_
   rw [List.take_length]
   refine G6 (args':=[.sl 2 (aq l)]) (by kernel_rfl) (rD hl hn inj hz hv hk) ⟨⟨rfl,rfl⟩,trivial⟩ ?_
   refine bB rfl rfl (bB rfl rfl (fB (aC rfl ?_)))
   refine cQ (id:=d) (o:=0 + 3) (cs:=[.sl 2 (aq l)]) (h':=(G ++ [Ent.tok 65 2 l.length]).set d (dkB ⟨az,l⟩ (.sl 2 (aq l)) root)) rfl (gT _) rfl rfl (by show 0 + 3 + 1 ≤ 6;decide) rfl rfl rfl ?_
   have et : ((G ++ [Ent.tok 65 2 l.length]).set d (dkB ⟨az,l⟩ (.sl 2 (aq l)) root)).take h.length = h.set d (dkB ⟨az,l⟩ (.sl 2 (aq l)) root):=by
    rw [eG,List.append_assoc,List.append_assoc,List.set_append_left _ _ hlt,List.take_append_of_le_length (by simp),List.take_of_length_le (by simp)]
   refine ⟨_,_,Wk.back (M:=h.length) (Nat.le_refl _) (by rw [eG];first|(simp;done)|(simp;omega)) et rfl (fun e he=>?_) (by simp [Bd,BdL]),rfl,rfl⟩
   rcases List.mem_or_eq_of_mem_set he with he|rfl
   ·exact hb e he
   ·exact dV _ _ (by simp [bM,Aw.Pure,dH,bG,fY])
end Go.Proofs.YtfageokhpklkbaaGreatDoor
end

section
namespace Go.Proofs.YtfageokhpklkbaaGreatDoor
open Go Go.Aw Go.Nst
set_option maxRecDepth 100000
def j5 (p : Rw) : Vv:=⟨p.k,p.w,p.n,p.r,p.g,p.b,p.a⟩
def xy : List Rw → Nat → Bool
 | [],_=>true
 | p :: l,i=>!da p.name && decide (jO p.name = some i) && ((nm.getD i ([],false)).2 == p.inh) && xy l (i + 1)
theorem LZ : xy rwP 0 = true:=by decide +kernel
theorem AH : ∀ {l : List Rw} {i k : Nat} {p : Rw},xy l i = true → l[k]? = some p → da p.name = false ∧ jO p.name = some (i + k) ∧ (nm.getD (i + k) ([],false)).2 = p.inh
 | [],_,_,_,_,h=>by simp at h
 | q :: l,i,0,p,h,hp=>by
   simp only [List.getElem?_cons_zero,Option.some.injEq] at hp
   subst hp
   simp only [xy,Bool.and_eq_true,Bool.not_eq_true',decide_eq_true_eq,beq_iff_eq] at h
   exact ⟨h.1.1.1,h.1.1.2,h.1.2⟩
 | q :: l,i,k + 1,p,h,hp=>by
   simp only [xy,Bool.and_eq_true] at h
   have:=AH (k:=k) h.2 (by simpa using hp)
   rwa [show i + 1 + k = i + (k + 1) by omega] at this
theorem LK {k : Nat} {p : Rw} (hp : rwP[k]? = some p) : j4 p.name = .tup [bool p.inh,int 0]:=by
 obtain ⟨h1,h2,h3⟩:=AH LZ hp
 rw [Nat.zero_add] at h2 h3
 unfold j4
 rw [h1,h2]
 rw [← h3]
 rfl
def sdV (az : List Vv) (i : Nat) : Vv:=match rwP[i]?,az[i]? with
 | some p,some v=>if p.inh then v else j5 p
 | _,_=>v0
abbrev wB (v : Vv) : Ent:=.blk ⟨38,bS v,true⟩
abbrev NG : AV:=.agg [(u8 0),(.str []),(int 0),(u8 0),(u8 0),(u8 0),(u8 0)]
theorem j8 {h : aa} {id : Nat} {v : Vv} {K : AV → Prop} (hb : h[id]? = some (wB v)) (q : K (.agg (bS v))) : ab true 7 (.op id 0) h K:=ba rfl hb (Nat.le_refl 7) q
theorem jM {h h' : aa} {id : Nat} {v w : Vv} {KS : aa → Prop} (hb : h[id]? = some (wB v)) (hh : h.set id (wB w) = h') (q : KS h') : aN 7 (.op id 0) (.agg (bS w)) h KS :=
 cQ (cs:=bS w) rfl hb rfl rfl (by simp [bS]) rfl rfl (by rw [← hh];rfl) q
theorem qQ {h : aa} {id i : Nat} {v : Vv} {c : AV} {K : AV → Prop} (hb : h[id]? = some (wB v)) (hc : (bS v)[i]? = some c) (q : K c) : ab false 1 (.op id (0 + i)) h K :=
 aD rfl hb (by rw [Nat.zero_add];exact hc) q
theorem HR {v : Vv} {K : AV → Prop} (q : K (.sl 7 [bS v])) : bP 1 7 NG [(0,7,.agg (bS v))] K:=b9 (cs:=bS v) rfl q
theorem FO [Laid] {P : Program} {f : FuncId} {xs ys args args' : List AV} {h : aa} {r : AV} {K : AV → Prop} (e : xs ++ args ++ ys = args') (c : Ex P f args' h r) (k : K r) : cK P (.fn (.func f) xs ys) args h K:=by
 subst e
 exact ⟨r,⟨c.1,c.2⟩,k⟩
theorem Ij [Laid] {P : Program} {f : FuncId} {xs ys args args' : List AV} {h : aa} {r : AV} {K : AV → Prop} (e : xs ++ args ++ ys = args') (c : ∀ ext,Ex P f args' (h ++ ext) r) (k : K r) : fb P (.fn (.func f) xs ys) args h K:=by
 subst e
 exact ⟨r,(c []).1,fun ext=>(c ext).2,k⟩
theorem tu {az : List Vv} {cus : List Cu} {own : AV} {root : Int} {h : aa} {d i : Nat} {p : Rw} {v : Vv} (hd : h[d]? = some (dkB ⟨az,cus⟩ own root)) (hp : rwP[i]? = some p) (hx : az[i]? = some v) :
 Ex Tryz.prog 43 [.op d 0,int i] h (.agg (bS (sdV az i))):=by
 have hsd : sdV az i = if p.inh then v else j5 p:=by unfold sdV;rw [hp,hx]
 rw [hsd]
 have hlt:=(List.getElem?_eq_some_iff.1 hd).1
 have gd : ∀ t : aa,(h ++ t)[d]? = some (dkB ⟨az,cus⟩ own root):=fun t=>by rw [List.getElem?_append_left hlt];exact hd
 refine (V43 _ _).ex fun hb=>?_
 unfold W43
 refine cL (cs:=bS v0) (n:=h.length) (h':=h ++ [wB v0]) rfl rfl rfl rfl (fB (aC rfl (aD rfl (gd _) rfl (fB (aC rfl (aD rfl (gd _) rfl (bx (f:=ki) rfl jF rfl hp ?_)))))))
 refine bt rfl (aR rfl ?_)
 refine cz rfl (by kernel_rfl) (pS (LK hp)) ?_
 refine bB rfl rfl (bB rfl rfl (bB rfl rfl ?_))
 refine cL (cs:=bS v0) (n:=h.length + 1) (h':=h ++ [wB v0,wB v0]) rfl rfl (by simp) (by simp) ?_
 refine aG (dq rfl rfl (ag rfl rfl (ar (de rfl rfl ?_))))
 cases hi : p.inh with
 | true =>
   refine ak rfl (by decide) ?_
   refine fB (aC rfl (aC rfl (aC rfl (aD rfl (gd _) rfl (bx (f:=bS) rfl rfl rfl hx (aY rfl rfl ?_))))))
   refine jM (v:=v0) (h':=h ++ [wB v,wB v0]) (by simp) (by simp) ?_
   refine j8 (v:=v) (by simp) ?_
   exact jS hb (eM _ _ (by rw [Aw.Pure];exact eB v)) (by simp)
 | false =>
   refine ag rfl (by decide) ?_
   refine de rfl rfl ?_
   refine ak rfl (by decide) ?_
   refine fB (aC rfl (aD rfl (gd _) rfl (bx (f:=ki) rfl jF rfl hp (bt rfl ?_))))
   refine qb (n:=7) (ds:=bS (j5 p)) rfl (by show 7 ≤ 10;decide) rfl ?_
   refine jM (v:=v0) (h':=h ++ [wB (j5 p),wB v0]) (by simp) (by simp) ?_
   refine j8 (v:=j5 p) (by simp) ?_
   exact jS hb (eM _ _ (by rw [Aw.Pure];exact eB _)) (by simp)
theorem vW {v : Vv} {em rem : Int} (h3 : v.kind ≠ 3) (h4 : v.kind ≠ 4) : Con Tryz.prog 44 [.agg (bS v),int em,int rem] (.agg (bS v)):=by
 refine (V44 _ _ _).gives (by simp [bM,Aw.Pure,eB]) (by rw [Aw.Pure];exact eB v) ?_
 unfold W44
 refine cL (n:=0) (h':=[wB v]) rfl rfl rfl rfl (cL (n:=1) (h':=[wB v,wB v0]) rfl rfl rfl rfl (aG (aC rfl (aD rfl rfl rfl (bR rfl rfl (ag rfl (decide_eq_false h3) (bR rfl rfl ?_)))))))
 refine ag rfl (decide_eq_false h4) (j8 (v:=v) rfl (jM (v:=v0) (h':=[wB v,wB v]) rfl rfl (j8 (v:=v) rfl ?_)))
 exact .pure (by rw [Aw.Pure];exact eB v) rfl
end Go.Proofs.YtfageokhpklkbaaGreatDoor
end

section
namespace Go.Proofs.YtfageokhpklkbaaGreatDoor
open Go Go.Aw Go.Nst
set_option maxRecDepth 100000
theorem LR {h' : aa} {n : Nat} {e sz bytes k : Nat} {x y : AV} {rows : List (List AV)} {h : aa} {K : AV → aa → Prop} (ex : x = .v (.slice none 0 0)) (hs : ej h sz y = some rows) (hr : rows.all (dJ sz) = true) (hk : rows.length = k) (hm : cT bytes k) (hn : h.length = n) (hh : h ++ [.tok e sz k] = h') (q : K (.sb n sz rows) h') : ee false e sz bytes x y h K:=by
 subst ex;subst hn;subst hh;subst hk
 unfold ee dP
 rw [hs]
 exact ⟨hr,hm,q⟩
def rwK : List Rw → Bool
 | []=>true
 | p :: l=>!decide (p.k = 3) && !decide (p.k = 4) && rwK l
theorem Fs : ∀ {l : List Rw} {k : Nat} {p : Rw},rwK l = true → l[k]? = some p → p.k ≠ 3 ∧ p.k ≠ 4
 | [],_,_,_,h=>by simp at h
 | q :: l,0,p,h,hp=>by
   simp only [List.getElem?_cons_zero,Option.some.injEq] at hp
   subst hp
   simp only [rwK,Bool.and_eq_true,Bool.not_eq_true',decide_eq_false_iff_not] at h
   exact h.1
 | q :: l,k + 1,p,h,hp=>by
   simp only [rwK,Bool.and_eq_true] at h
   exact Fs (k:=k) h.2 (by simpa using hp)
theorem Nk : rwK rwP = true:=by decide +kernel
structure Vok (az : List Vv) : Prop where
 len : az.length = 18
 kd : ∀ v ∈ az,v.kind ≠ 3 ∧ v.kind ≠ 4
 col : ∀ v,az[0]? = some v → v.kind = 7
 opa : ∀ v,az[15]? = some v → 0 ≤ v.num ∧ v.num ≤ 1000
def sdL (az : List Vv) : List Vv:=(List.range 18).map (sdV az)
theorem sM {i : Nat} (hi : i < 18) : ∃ p,rwP[i]? = some p:=⟨_,List.getElem?_eq_getElem (by rw [uc];exact hi)⟩
section
variable {az : List Vv} (o : Vok az)
include o
theorem Vok.get {i : Nat} (hi : i < 18) : ∃ v,az[i]? = some v:=⟨_,List.getElem?_eq_getElem (by rw [o.len];exact hi)⟩
theorem Vok.sd {i : Nat} (hi : i < 18) : (sdV az i).kind ≠ 3 ∧ (sdV az i).kind ≠ 4:=by
 obtain ⟨p,hp⟩:=sM hi
 obtain ⟨v,hv⟩:=o.get hi
 unfold sdV
 rw [hp,hv]
 dsimp only
 split
 ·exact o.kd v (List.mem_of_getElem? hv)
 ·exact Fs Nk hp
theorem Vok.sd0 : (sdV az 0).kind ≠ 8:=by
 obtain ⟨v,hv⟩:=o.get (i:=0) (by omega)
 have : sdV az 0 = v:=by
  unfold sdV
  rw [hv]
  rfl
 rw [this,o.col v hv]
 decide
theorem Vok.O8 : 0 ≤ (sdV az 15).num ∧ (sdV az 15).num ≤ 1000:=by
 obtain ⟨v,hv⟩:=o.get (i:=15) (by omega)
 have : sdV az 15 = j5 (rwP.getD 15 ⟨[],false,0,[],0,0,0,0,0,none,none,false⟩):=by
  unfold sdV
  rw [hv]
  rfl
 rw [this]
 decide
end
theorem FE {az : List Vv} {k : Nat} (hk : k < 18) : (sdL az)[k]? = some (sdV az k):=by
 unfold sdL;rw [List.getElem?_map,List.getElem?_range hk];rfl
theorem Ml {az : List Vv} {k : Nat} (hk : k < 18) : bC ((sdL az).take (k + 1)) = bC ((sdL az).take k) ++ [bS (sdV az k)]:=by
 unfold bC;rw [List.take_add_one,FE hk];simp
abbrev stB (a b : AV) : Ent:=.blk ⟨25,[a,b],true⟩
def stH (B : aa) (az : List Vv) (cu : AV) : Nat → aa
 | 0=>B ++ [stB aX cu]
 | k + 1=>B ++ [stB (.sb 8 7 (bC ((sdL az).take (k + 1)))) cu,wB (sdV az 0),.tok 38 7 (k + 1)]
theorem ue {B : aa} {az : List Vv} {cu : AV} : ∀ {k : Nat},0 < k → stH B az cu k = B ++ [stB (.sb 8 7 (bC ((sdL az).take k))) cu,wB (sdV az 0),.tok 38 7 k]
 | k + 1,_=>rfl
set_option maxHeartbeats 8000000 in
theorem DV {az : List Vv} {l : List Cu} {root : Int} (o : Vok az) (hl : l.length ≤ 64) (hn : dx l = true) (hz : ∀ c ∈ l,zVs c.value ≤ 2000) (hv : ∀ c ∈ l,bT c.value = false) (hk : ∀ c ∈ l,fa c.value = 0) (A : Ent) (hA : dg 0 A) :
 ct Tryz.prog 22 [.op 2 0] [A,stB aX aX,dkB ⟨az,l⟩ aX root] fun v h' => v = .agg [.sl 7 (bC (sdL az)),.sl 2 (aq l)] ∧ h'[1]? = some (stB aX aX):=by
 refine (V22 _).gg ?_
 unfold W22
 refine cL (cs:=[aX,aX]) (n:=3) (h':=[A,stB aX aX,dkB ⟨az,l⟩ aX root,stB aX aX]) rfl rfl rfl rfl ?_
 refine lI (by kernel_rfl) rfl (AY (s:=⟨az,l⟩) (d:=2) (root:=root) rfl hl hn hz hv hk) fun r G ⟨er,eG⟩ _=>?_
 subst er
 obtain rfl : G = [A,stB aX aX,dkB ⟨az,l⟩ (.sl 2 (aq l)) root,stB aX aX]:=eG
 obtain ⟨D,hD⟩ : ∃ D,dkB ⟨az,l⟩ (.sl 2 (aq l)) root = D:=⟨_,rfl⟩
 obtain ⟨p12,hp12⟩:=sM (i:=12) (by omega)
 obtain ⟨x12,hx12⟩:=o.get (i:=12) (by omega)
 refine fB (aC rfl (aD rfl rfl rfl ?_))
 refine o7 [int (if root < 0 then 16000 else root)] [A,stB aX aX,dkB ⟨az,l⟩ (.sl 2 (aq l)) root,stB aX aX] ?_ fun F hF=>?_
 rotate_left
 ·refine aF rfl rfl ?_
  refine cA rfl (fun hb=>?_) (fun hb=>?_)
  ·refine ar ?_
   rw [if_pos (of_decide_eq_true hb)] at hF
   exact hF
  ·refine ar ?_
   rw [if_neg (of_decide_eq_false hb)] at hF
   exact hF
 refine Ij rfl (fun ext=>tu (h:=[A,stB aX aX,dkB ⟨az,l⟩ (.sl 2 (aq l)) root,stB aX aX] ++ ext) (d:=2) (i:=12) rfl hp12 hx12) (fB (aC rfl (aC rfl (aC rfl (aD rfl rfl rfl (bx (f:=bS) (n:=12) rfl rfl rfl hx12 (bt rfl ?_)))))))
 refine aR rfl ?_
 refine Ij rfl (fun ext=>(vW (o.sd (i:=12) (by omega)).1 (o.sd (i:=12) (by omega)).2).ex (by kernel_rfl) _) ?_
 show aN 7 _ _ _ _
 refine jM (id:=5) (v:=v0) (h':=[A,stB aX aX,dkB ⟨az,l⟩ (.sl 2 (aq l)) root,stB aX aX,.dead,wB (sdV az 12)]) rfl rfl ?_
 refine o7 [int (if root < 0 then (sdV az 12).num else (if root < 0 then 16000 else root))] [A,stB aX aX,dkB ⟨az,l⟩ (.sl 2 (aq l)) root,stB aX aX,.dead,wB (sdV az 12)] ?_ fun F hF=>?_
 rotate_left
 ·refine fB (aC rfl (aD rfl rfl rfl (aF rfl rfl ?_)))
  refine cA rfl (fun hb=>?_) (fun hb=>?_)
  ·refine aC rfl (qQ (id:=5) (i:=2) (v:=sdV az 12) rfl rfl (ar ?_))
   rw [if_pos (of_decide_eq_true hb)] at hF
   exact hF
  ·refine ar ?_
   rw [if_neg (of_decide_eq_false hb)] at hF
   exact hF
 generalize (if root < 0 then (sdV az 12).num else (if root < 0 then 16000 else root)) = rem
 refine fB (aC rfl (aD rfl rfl rfl (br (cs:=[aX,.sl 2 (aq l)]) rfl (cL (cs:=[aX,aX]) (n:=6) (h':=[A,stB aX aX,dkB ⟨az,l⟩ (.sl 2 (aq l)) root,stB aX aX,.dead,wB (sdV az 12),stB aX aX]) rfl rfl rfl rfl (cQ (id:=6) (cs:=[aX,.sl 2 (aq l)]) (h':=[A,stB aX aX,dkB ⟨az,l⟩ (.sl 2 (aq l)) root,stB aX aX,.dead,wB (sdV az 12),stB aX (.sl 2 (aq l))]) rfl rfl rfl rfl (Nat.le_refl _) rfl rfl rfl (fB (aC rfl ?_)))))))
 refine aD rfl rfl rfl ?_
 refine aB (n:=18) rfl rfl fun _=>?_
 obtain ⟨B,hB⟩ : ∃ B : aa,[A,stB aX aX,dkB ⟨az,l⟩ (.sl 2 (aq l)) root,stB aX aX,.dead,wB (sdV az 12)] = B:=⟨_,rfl⟩
 have hBl : B.length = 6:=by subst hB;rfl
 have hB2 : B[2]? = some (dkB ⟨az,l⟩ (.sl 2 (aq l)) root):=by subst hB;rfl
 have hB5 : B[5]? = some (wB (sdV az 12)):=by subst hB;rfl
 have hB1 : B[1]? = some (stB aX aX):=by subst hB;rfl
 have hB3 : B[3]? = some (stB aX aX):=by subst hB;rfl
 have hBb : ∀ e ∈ B,dg 9 e:=by
  subst hB
  intro e he
  simp only [List.mem_cons,List.not_mem_nil,or_false] at he
  rcases he with rfl|rfl|rfl|rfl|rfl|rfl
  ·exact fZ (by omega) hA
  ·exact dV _ _ (by simp [bM,Aw.Pure])
  ·exact dV _ _ (by simp [bM,Aw.Pure,dH,bG,fY])
  ·exact dV _ _ (by simp [bM,Aw.Pure])
  ·trivial
  ·exact dV _ _ (eB _)
 have gB : ∀ (t : aa) (i : Nat),i < 6 → (B ++ t)[i]? = B[i]?:=fun t i hi=>List.getElem?_append_left (by omega)
 have gT : ∀ (t : aa) (i : Nat),(B ++ t)[6 + i]? = t[i]?:=fun t i=>by rw [List.getElem?_append_right (by omega),hBl,Nat.add_sub_cancel_left]
 have sT : ∀ (t : aa) (i : Nat) (x : Ent),(B ++ t).set (6 + i) x = B ++ t.set i x:=fun t i x=>by rw [List.set_append_right _ _ (by omega),hBl,Nat.add_sub_cancel_left]
 have lT : ∀ (t : aa),(B ++ t).length = 6 + t.length:=fun t=>by rw [List.length_append,hBl]
 show bO [int 0] ([A,stB aX aX,dkB ⟨az,l⟩ (.sl 2 (aq l)) root,stB aX aX,.dead,wB (sdV az 12)] ++ [stB aX (.sl 2 (aq l))]) _
 rw [hB]
 refine a7 (α:=Nat) (fun k=>k ≤ 18) (fun k=>[int k]) (stH B az (.sl 2 (aq l))) (fun k=>18 - k) 0 (Nat.zero_le _) (Wk.refl _ _ _ (Nat.le_refl _)) ?_
 intro k hk
 refine aF rfl rfl ?_
 rcases Nat.lt_or_ge k 18 with q|q
 ·obtain ⟨p,hp⟩:=sM q
  obtain ⟨x,hx⟩:=o.get q
  refine ak rfl (decide_eq_true (by omega)) ?_
  rcases Nat.eq_zero_or_pos k with rfl|hpos
  ·rw [show stH B az (.sl 2 (aq l)) 0 = B ++ [stB aX (.sl 2 (aq l))] from rfl]
   refine j8 (id:=5) (v:=sdV az 12) (by rw [gB _ _ (by omega)];exact hB5) ?_
   refine cL (cs:=bS v0) (n:=6 + 1) (h':=B ++ [stB aX (.sl 2 (aq l)),wB v0]) rfl rfl (lT _) (by simp) ?_
   refine jM (v:=v0) (h':=B ++ [stB aX (.sl 2 (aq l)),wB (sdV az 12)]) (gT _ _) (sT _ _ _) (aG (bE rfl rfl ?_))
   refine ak rfl (by decide) ?_
   refine FO rfl (tu (h:=B ++ [stB aX (.sl 2 (aq l)),wB (sdV az 12)]) (d:=2) (i:=0) (by rw [gB _ _ (by omega)];exact hB2) hp hx) ?_
   refine aC rfl ?_
   refine qQ (id:=5) (i:=2) (v:=sdV az 12) (by rw [gB _ _ (by omega)];exact hB5) rfl ?_
   refine cz rfl (by kernel_rfl) (vW (o.sd q).1 (o.sd q).2) ?_
   refine jM (v:=sdV az 12) (h':=B ++ [stB aX (.sl 2 (aq l)),wB (sdV az 0)]) (gT _ _) (sT _ _ _) (ar (aG (bR rfl rfl (aG (aA rfl rfl (aC rfl (qQ (i:=0) (v:=sdV az 0) (gT _ _) rfl ?_)))))))
   refine bR rfl rfl (ar (aE rfl (ag rfl (decide_eq_false o.sd0) (bR rfl rfl ?_))))
   refine ag rfl (by decide) ?_
   refine ar (aC rfl (aD rfl (gT _ 0) rfl (j8 (v:=sdV az 0) (gT _ _) (HR ?_))))
   refine LR (n:=8) (k:=1) (rows:=[bS (sdV az 0)]) (h':=B ++ [stB aX (.sl 2 (aq l)),wB (sdV az 0),.tok 38 7 1]) rfl eU rfl rfl (by unfold cT maxLen;omega) (by rw [lT];rfl) (by simp) ?_
   refine aC rfl ?_
   refine cQ (id:=6 + 0) (cs:=[.sb 8 7 [bS (sdV az 0)]]) (h':=B ++ [stB (.sb 8 7 [bS (sdV az 0)]) (.sl 2 (aq l)),wB (sdV az 0),.tok 38 7 1]) rfl (gT _ 0) rfl rfl (by show 0 + 0 + 1 ≤ 2;omega) rfl rfl (sT _ _ _) ?_
   refine aP rfl rfl (by unfold inI;omega) ?_
   refine ar ?_
   exact ⟨1,by omega,Wk.refl _ _ _ (by rw [lT,lT];show 6 + 1 ≤ 6 + 3;omega),by omega⟩
  ·rw [ue hpos]
   obtain ⟨R,hR⟩ : ∃ R,bC ((sdL az).take k) = R:=⟨_,rfl⟩
   have hRl : R.length = k:=by rw [← hR];unfold bC sdL;simp;omega
   have d1:=Ml (az:=az) q
   rw [hR] at d1 ⊢
   refine j8 (id:=5) (v:=sdV az 12) (by rw [gB _ _ (by omega)];exact hB5) ?_
   refine cL (cs:=bS v0) (n:=6 + 3) (h':=B ++ [stB (.sb 8 7 R) (.sl 2 (aq l)),wB (sdV az 0),.tok 38 7 k,wB v0]) rfl rfl (lT _) (by simp) ?_
   refine jM (v:=v0) (h':=B ++ [stB (.sb 8 7 R) (.sl 2 (aq l)),wB (sdV az 0),.tok 38 7 k,wB (sdV az 12)]) (gT _ _) (sT _ _ _) ?_
   obtain ⟨G,hG⟩ : ∃ G : aa,B ++ [stB (.sb 8 7 R) (.sl 2 (aq l)),wB (sdV az 0),.tok 38 7 k,wB (sdV az 12)] = G:=⟨_,rfl⟩
   obtain ⟨G2,hG2⟩ : ∃ G : aa,B ++ [stB (.sb 8 7 R) (.sl 2 (aq l)),wB (sdV az 0),.tok 38 7 k,wB (sdV az k)] = G:=⟨_,rfl⟩
   have hdk : G[2]? = some (dkB ⟨az,l⟩ (.sl 2 (aq l)) root):=by rw [← hG,gB _ _ (by omega)];exact hB2
   have h5 : G[5]? = some (wB (sdV az 12)):=by rw [← hG,gB _ _ (by omega)];exact hB5
   have hN : G[6 + 3]? = some (wB (sdV az 12)):=by rw [← hG];exact gT _ _
   have hS : G.set (6 + 3) (wB (sdV az k)) = G2:=by rw [← hG,← hG2];exact sT _ _ _
   have hM : G2[6 + 3]? = some (wB (sdV az k)):=by rw [← hG2];exact gT _ _
   rw [hG]
   refine o7 [] G2 ?_ fun F hF=>?_
   rotate_left
   ·refine bE rfl rfl ?_
    by_cases h12 : k = 12
    ·subst h12
     refine ag rfl (by decide) ?_
     refine ar ?_
     rw [show G2 = G from by rw [← hG,← hG2]] at hF
     exact hF
    ·refine ak rfl (by first|(simp;done)|(simp;omega)) ?_
     refine FO rfl (tu (h:=G) hdk hp hx) (aC rfl (qQ (id:=5) (i:=2) (v:=sdV az 12) h5 rfl ?_))
     refine cz rfl (by kernel_rfl) (vW (o.sd q).1 (o.sd q).2) ?_
     refine jM (v:=sdV az 12) hN hS (ar ?_)
     exact hF
   refine o7 [] G2 ?_ fun F hF=>?_
   rotate_left
   ·refine bR rfl rfl (aG ?_)
    refine ay rfl (by first|(simp;done)|(simp;omega)) ?_
    refine ar (ax rfl (ag rfl rfl (bR rfl rfl ?_)))
    by_cases h15 : k = 15
    ·subst h15
     refine ak rfl (by decide) ?_
     refine aC rfl (qQ (i:=2) (v:=sdV az 15) hM rfl (DU rfl rfl (nX rfl rfl (aC rfl ?_))))
     have e15 : max 0 (min 1000 (sdV az 15).num) = (sdV az 15).num:=by have:=o.O8;omega
     rw [e15]
     refine cQ (cs:=[int (sdV az 15).num]) (h':=G2) rfl hM rfl rfl (by simp [bS]) rfl rfl (by
      have e : cx (bS (sdV az 15)) (0 + 2) [int (sdV az 15).num] = bS (sdV az 15):=rfl
      show G2.set _ (Ent.blk ⟨38,cx (bS (sdV az 15)) (0 + 2) [int (sdV az 15).num],true⟩) = G2
      rw [e];exact lD hM) ?_
     refine ar ?_
     exact hF
    ·refine ag rfl (by first|(simp;done)|(simp;omega)) ?_
     refine ar ?_
     exact hF
   refine aC rfl ?_
   refine aD rfl (b:=⟨25,[.sb 8 7 R,.sl 2 (aq l)],true⟩) (by rw [← hG2];exact gT _ 0) rfl ?_
   refine j8 hM (HR ?_)
   refine jg (id:=8) (k:=k) (base:=R) (rows:=[bS (sdV az k)]) (h':=B ++ [stB (.sb 8 7 R) (.sl 2 (aq l)),wB (sdV az 0),.tok 38 7 (k + 1),wB (sdV az k)]) rfl (by rw [← hG2];exact gT _ 2) hRl.symm eU rfl (by unfold cT maxLen;first|(simp;done)|(simp;omega)) (by rw [← hG2];exact sT _ 2 _) ?_
   refine aC rfl ?_
   refine cQ (id:=6 + 0) (cs:=[.sb 8 7 (R ++ [bS (sdV az k)])]) (h':=B ++ [stB (.sb 8 7 (R ++ [bS (sdV az k)])) (.sl 2 (aq l)),wB (sdV az 0),.tok 38 7 (k + 1),wB (sdV az k)]) rfl (gT _ 0) rfl rfl (by show 0 + 0 + 1 ≤ 2;omega) rfl rfl (sT _ _ _) ?_
   refine aP rfl rfl (by unfold inI;omega) ?_
   refine ar ?_
   refine ⟨k + 1,q, ?_,by omega⟩
   have pr:=dH ((sdL az).take (k + 1))
   rw [ue (by omega),d1]
   rw [d1] at pr
   refine Wk.back (M:=9) (by rw [lT];show 6 + 1 ≤ 9;omega) (by rw [lT];show 9 ≤ 6 + 4;omega) (by rw [List.take_append,List.take_of_length_le (by omega),hBl];rfl) rfl (fun e he=>?_) (by simp [Bd])
   rcases List.mem_append.1 he with he|he
   ·exact hBb e he
   ·simp only [List.mem_cons,List.not_mem_nil,or_false] at he
    rcases he with rfl|rfl|rfl
    ·have hb:=eM 9 (.sl 7 (R ++ [bS (sdV az k)])) (by rw [Aw.Pure];exact pr)
     have hc:=eM 9 (.sl 2 (aq l)) (by rw [Aw.Pure];exact bG l)
     rw [Bd] at hb
     exact ⟨by rw [Bd];exact ⟨by omega,hb⟩,hc,trivial⟩
    ·exact dV _ _ (eB _)
    ·trivial
 ·obtain rfl : k = 18:=by omega
  refine ag rfl (by decide) ?_
  rw [ue (by omega)]
  have ht : (sdL az).take 18 = sdL az:=List.take_of_length_le (by simp [sdL])
  rw [ht]
  refine ba rfl (b:=⟨25,[.sb 8 7 (bC (sdL az)),.sl 2 (aq l)],true⟩) (gT _ 0) (Nat.le_refl 2) ?_
  refine cQ (id:=3) (cs:=[.sb 8 7 (bC (sdL az)),.sl 2 (aq l)]) (b:=⟨25,[aX,aX],true⟩) rfl (by rw [gB _ _ (by omega)];exact hB3) rfl rfl (Nat.le_refl 2) rfl rfl rfl ?_
  refine ba rfl (b:=⟨25,[.sb 8 7 (bC (sdL az)),.sl 2 (aq l)],true⟩) (List.getElem?_set_self (by rw [lT];omega)) (Nat.le_refl 2) ?_
  refine ⟨_,_,Wk.le (s':=[.agg [.sl 7 (bC (sdL az)),.sl 2 (aq l)]]) ?_ ⟨⟨⟨rfl,rfl⟩,Le.refl _,trivial⟩,trivial⟩,rfl, ?_⟩
  ·rw [List.length_set,lT];show 3 ≤ _;omega
  ·rw [List.getElem?_set_ne (by omega),gB _ _ (by omega)];exact hB1
end Go.Proofs.YtfageokhpklkbaaGreatDoor
end

section
namespace Go.Proofs.YtfageokhpklkbaaGreatDoor
open Go Go.Aw Go.Nst
set_option maxRecDepth 1000000
theorem mU {n : Nat} {x : AV} {cs : List AV} {h : aa} {K : AV → Prop} (e : x = .ip cs) (hn : n ≤ cs.length) (q : K (.agg (cs.take n))) : ab true n x h K:=by
 subst e
 rw [po]
 exact ⟨hn,q⟩
noncomputable def kz {α : Type} (a b : α) : Bool:=@decide (a = b) (Classical.propDecidable _)
theorem nF {α : Type} {a b : α} : kz a b = true ↔ a = b:=by unfold kz;exact @decide_eq_true_iff _ (Classical.propDecidable _)
theorem sO {α : Type} (a : α) : kz a a = true:=nF.2 rfl
theorem qB {α : Type} {a b : α} (h : a ≠ b) : kz a b = false:=by
 cases q : kz a b with
 | false=>rfl
 | true=>exact absurd (nF.1 q) h
def SmP (n : Nat) : Prop:=∀ (l m : List Vl),zVs l ≤ n → zVs m < 2 ^ 39 → Con Tryz.prog 23 [.sl 6 (aV l),.sl 6 (aV m)] (bool (kz l m))
theorem FM {α : Type} {l m : List α} {k : Nat} {x : α} (h : l.take k = m.take k) (hx : l[k]? = some x) (hy : m[k]? = some x) : l.take (k + 1) = m.take (k + 1):=by
 rw [List.take_add_one,List.take_add_one,hx,hy,h]
theorem Ia {α : Type} {l m : List α} {k : Nat} {x y : α} (hx : l[k]? = some x) (hy : m[k]? = some y) (h : x ≠ y) : l ≠ m:=fun e=>by
 subst e;rw [hx] at hy;cases hy;exact h rfl
theorem Kf {n : Nat} (hn : n < 2 ^ 39) (hP : ∀ n',n' < n → SmP n') : SmP n:=by
 intro l m hz hzm
 refine (V23 _ _).gives (by simp [dC]) (by simp) ?_
 unfold W23
 have hlen : (aV l).length = l.length:=by simp [bf]
 have hlem : (aV m).length = m.length:=by simp [bf]
 have hll:=eW l
 refine aB (n:=l.length) rfl hlen fun _=>?_
 refine aB (n:=m.length) rfl hlem fun _=>?_
 refine bE rfl rfl ?_
 by_cases hlm : l.length = m.length
 rotate_left
 ·refine ak rfl (by simp;omega) ?_
  exact .pure (by simp) (by rw [qB (fun e=>hlm (by rw [e]))])
 refine ag rfl (by simp [hlm]) ?_
 refine a7 (α:=Nat) (fun k=>k ≤ l.length ∧ l.take k = m.take k) (fun k=>[int k]) (fun _=>[]) (fun k=>l.length - k) 0 ⟨by omega,by simp⟩ (Wk.refl _ _ _ (by simp)) ?_
 rintro k ⟨hk,ht⟩
 refine aB (n:=l.length) rfl hlen fun _=>?_
 refine aF rfl rfl ?_
 rcases Nat.lt_or_ge k l.length with q|q
 ·obtain ⟨x,hx⟩ : ∃ x,l[k]? = some x:=⟨l[k],List.getElem?_eq_getElem q⟩
  obtain ⟨y,hy⟩ : ∃ x,m[k]? = some x:=⟨m[k]'(by omega),List.getElem?_eq_getElem _⟩
  have hzx:=eX (List.mem_of_getElem? hx)
  have hzy:=eX (List.mem_of_getElem? hy)
  obtain ⟨kd,tx,nu,un,fl,l2⟩:=x
  obtain ⟨kd',tx',nu',un',fl',m2⟩:=y
  rw [zV] at hzx hzy
  have hrec:=hP (zVs l2) (by omega) l2 m2 (Nat.le_refl _) (by omega)
  have hb : eqK [1,2,1,2,0] [u1 kd,.str tx,int nu,.str un,bool fl] [u1 kd',.str tx',int nu',.str un',bool fl'] = some (decide (kd = kd') && (decide (tx = tx') && (decide (nu = nu') && (decide (un = un') && ((fl == fl') && true))))):=rfl
  refine ak rfl (by simpa using q) ?_
  refine bx (f:=cy) rfl (bf l) rfl hx (bt rfl ?_)
  refine mU rfl (by show 5 ≤ 6;decide) ?_
  refine bx (f:=cy) rfl (bf m) rfl hy (bt rfl ?_)
  refine mU rfl (by show 5 ≤ 6;decide) ?_
  refine mT (xs:=[u1 kd,.str tx,int nu,.str un,bool fl]) (ys:=[u1 kd',.str tx',int nu',.str un',bool fl']) (by rw [cy];rfl) (by rw [cy];rfl) hb ?_
  refine aG ?_
  by_cases hT : kd = kd' ∧ tx = tx' ∧ nu = nu' ∧ un = un' ∧ fl = fl'
  ·obtain ⟨rfl,rfl,rfl,rfl,rfl⟩:=hT
   refine aA rfl (by simp) ?_
   refine bx (f:=cy) rfl (bf l) rfl hx (bt rfl ?_)
   refine aR (c:=.sl 6 (aV l2)) (r:=[]) (by rw [cy];rfl) ?_
   refine bx (f:=cy) rfl (bf m) rfl hy (bt rfl ?_)
   refine aR (c:=.sl 6 (aV m2)) (r:=[]) (by rw [cy];rfl) ?_
   refine cz rfl (by kernel_rfl) hrec ?_
   refine bF rfl ?_
   refine iU rfl (by simp) ?_
   refine cA rfl (fun hc=>?_) (fun hc=>?_)
   ·refine .pure (by simp) ?_
    have hc : kz l2 m2 = false:=by simpa using hc
    rw [qB (Ia hx hy fun e=>by cases e;rw [sO] at hc;cases hc)]
   ·have hc : kz l2 m2 = true:=by simpa using hc
    obtain rfl:=nF.1 hc
    refine aP rfl rfl (by unfold inI;omega) ?_
    refine ar ?_
    exact ⟨k + 1,⟨q,FM ht hx hy⟩,Wk.refl _ _ _ (by simp),by omega⟩
  ·have hf : (decide (kd = kd') && (decide (tx = tx') && (decide (nu = nu') && (decide (un = un') && ((fl == fl') && true))))) = false:=by
    rw [Bool.eq_false_iff]
    intro z
    simp only [Bool.and_eq_true,decide_eq_true_eq,beq_iff_eq,and_true] at z
    exact hT z
   rw [hf]
   refine ay rfl rfl (jr rfl rfl (ak rfl rfl ?_))
   refine .pure (by simp) ?_
   rw [qB (Ia hx hy fun e=>by cases e;exact hT ⟨rfl,rfl,rfl,rfl,rfl⟩)]
 ·refine ag rfl (by simp;omega) ?_
  rw [List.take_of_length_le q,List.take_of_length_le (by omega)] at ht
  exact .pure (by simp) (by rw [nF.2 ht])
theorem D7 (l m : List Vl) (hz : zVs l < 2 ^ 39) (hm : zVs m < 2 ^ 39) : Con Tryz.prog 23 [.sl 6 (aV l),.sl 6 (aV m)] (bool (kz l m)):=by
 have : ∀ n,n < 2 ^ 39 → SmP n:=by
  intro n
  induction n using Nat.strongRecOn with
  | _ n ih=>exact fun hn=>Kf hn fun n' h=>ih n' h (by omega)
 exact this _ hz l m (Nat.le_refl _) hm
theorem Bg {l : List Cu} (hl : l.length < 2 ^ 40) (hz : ∀ c ∈ l,zVs c.value ≤ 2000) : Con Tryz.prog 7 [.sl 2 (aq l),.sl 2 (aq l)] tt:=by
 refine (V7 _ _).gives (by simp [bG]) (by simp) ?_
 unfold W7
 have hlen : (aq l).length = l.length:=by simp [aq]
 refine aB (n:=l.length) rfl hlen fun _=>?_
 refine aB (n:=l.length) rfl hlen fun _=>?_
 refine bE rfl rfl ?_
 refine ag rfl (by simp) ?_
 refine a7 (α:=Nat) (fun k=>k ≤ l.length) (fun k=>[int k]) (fun _=>[]) (fun k=>l.length - k) 0 (Nat.zero_le _) (Wk.refl _ _ _ (Nat.le_refl _)) ?_
 intro k hk
 refine aB (n:=l.length) rfl hlen fun _=>?_
 refine aF rfl rfl ?_
 rcases Nat.lt_or_ge k l.length with q|q
 ·obtain ⟨c,hx⟩ : ∃ x,l[k]? = some x:=⟨l[k],List.getElem?_eq_getElem q⟩
  have hc:=hz c (List.mem_of_getElem? hx)
  have hv:=D7 c.value c.value (by omega) (by omega)
  rw [sO] at hv
  refine ak rfl (by simpa using q) ?_
  refine bx (f:=bX) rfl rfl rfl hx (bt rfl (aR rfl (bx (f:=bX) rfl rfl rfl hx (bt rfl (aR rfl (KV rfl rfl (aG ?_)))))))
  refine aA rfl (by simp) ?_
  refine bx (f:=bX) rfl rfl rfl hx (bt rfl (aR rfl (bx (f:=bX) rfl rfl rfl hx (bt rfl (aR rfl ?_)))))
  refine cz rfl (by kernel_rfl) hv ?_
  refine bF rfl ?_
  refine iU rfl (by simp) ?_
  refine ag rfl rfl ?_
  refine aP rfl rfl (by unfold inI;omega) ?_
  refine ar ?_
  exact ⟨k + 1,q,Wk.refl _ _ _ (Nat.le_refl _),by omega⟩
 ·obtain rfl : k = l.length:=by omega
  refine ag rfl (by simp) ?_
  exact .pure (by simp) rfl
theorem JG : iy Tryz.prog cfg oT 200 20 [aX,u8 1] [] = some (.tup [aX,int 0],none):=by kernel_rfl
theorem F5 : Con Tryz.prog 20 [aX,u8 1] (.tup [aX,int 0]):=gF lZ (by kernel_rfl) (by kernel_rfl) (by kernel_rfl) JG
theorem Iv : iy Tryz.prog cfg oT 200 18 [aX] [] = some (int 0,none):=by kernel_rfl
theorem F2 : Con Tryz.prog 18 [aX] (int 0):=gF lZ (by kernel_rfl) (by kernel_rfl) (by kernel_rfl) Iv
theorem Jy : iy Tryz.prog cfg oT 200 16 [aX] [] = some (ff,none):=by kernel_rfl
theorem F4 : Con Tryz.prog 16 [aX] ff:=gF lZ (by kernel_rfl) (by kernel_rfl) (by kernel_rfl) Jy
noncomputable def wZ : aw:=fun f args _=>match Nat.beq f 8 with
 | true=>(match args with|[]=>some (.sl 12 fY,none)|_=>none)
 | false=>none
theorem EF : aW Tryz.prog wZ:=by
 intro f args h v oh e
 unfold wZ at e
 split at e
 ·rename_i hf
  obtain rfl:=Nat.eq_of_beq_eq_true hf
  split at e
  ·cases e
   exact .inl ⟨by kernel_rfl,fD.call ⟨rfl,rfl⟩⟩
  ·cases e
 ·cases e
def kZ : List Vv:=rwP.map j5
theorem JB : iy Tryz.prog cfg wZ 200 9 [] [] = some (.agg [.sl 7 (bC kZ),aX],none):=by kernel_rfl
theorem xQ : Con Tryz.prog 9 [] (.agg [.sl 7 (bC kZ),aX]):=gF EF (by kernel_rfl) (by kernel_rfl) (by kernel_rfl) JB
theorem y8 {k : Nat} {p : Rw} (hp : rwP[k]? = some p) : kZ[k]? = some (j5 p):=by unfold kZ;rw [List.getElem?_map,hp];rfl
theorem FJ {s : Sy} (hs : fX s = true) : s.db.length ≤ 64 ∧ dx s.db = true ∧ (∀ c ∈ s.db,zVs c.value ≤ 2000) ∧ (∀ c ∈ s.db,bT c.value = false) ∧ ∀ c ∈ s.db,fa c.value = 0:=by
 unfold fX at hs
 simp only [Bool.and_eq_true,decide_eq_true_eq] at hs
 have h:=hs.1.1.2
 unfold eN at h
 split at h
 ·rename_i q
  obtain ⟨q1,q2,q3⟩:=q
  have : ∀ c ∈ s.db,kO c = true:=List.all_eq_true.1 q3
  refine ⟨q1,q2,fun c hc=>?_,fun c hc=>?_,fun c hc=>?_⟩ <;>
  ·have:=this c hc
   unfold kO at this
   simp only [Bool.and_eq_true,decide_eq_true_eq,Bool.not_eq_true'] at this
   first|exact this.2|exact this.1.2|exact this.1.1
 ·cases h
theorem AM {s : Sy} (hs : fX s = true) : Vok s.az:=by
 unfold fX sx at hs
 simp only [Bool.and_eq_true,decide_eq_true_eq] at hs
 obtain ⟨⟨⟨h1,_⟩,h3⟩,⟨h4,h5⟩,h6⟩:=hs
 refine ⟨h1,fun v hv=>?_,fun v hv=>?_,fun v hv=>?_⟩
 ·obtain ⟨i,hi⟩:=List.getElem?_of_mem hv
  have hlt:=(List.getElem?_eq_some_iff.1 hi).1
  have:=List.all_eq_true.1 h3 i (List.mem_range.2 (by omega))
  unfold vOk at this
  rw [List.getD_eq_getElem?_getD,hi] at this
  simp only [Bool.and_eq_true,Bool.not_eq_true',decide_eq_false_iff_not,Option.getD_some] at this
  exact ⟨this.1.2,this.2⟩
 ·rw [List.getD_eq_getElem?_getD,hv] at h4;exact h4
 ·rw [List.getD_eq_getElem?_getD,hv] at h5 h6;exact ⟨h5,h6⟩
set_option maxHeartbeats 4000000 in
theorem D4 {s : Sy} {root : Int} (ok : p8 s) (hs : fX s = true) (h1 : -1 ≤ root) (h2 : root ≤ 1000000000000) :
 Con Tryz.prog 6 [aX,.agg (fE s),int root] (.tup [.agg [.sl 7 (bC (sdL s.az)),.sl 2 (aq s.db)],int 0]):=by
 refine (V6 _ _ _).gives (by simp [bM,Aw.Pure,gU]) (by simp [bM,Aw.Pure,dH,bG]) ?_
 unfold W6
 have hC:=xV s ok
 have hO:=AM hs
 obtain ⟨c1,c2,c3,c4,c5⟩:=FJ hs
 rw [show gA s = 0 by unfold gA;rw [if_pos hs]] at hC
 obtain ⟨az,l⟩:=s
 dsimp only at hO c1 c2 c3 c4 c5 hC ⊢
 refine cL (cs:=[.sl 7 (bC az),.sl 2 (aq l)]) (n:=0) (h':=[stB (.sl 7 (bC az)) (.sl 2 (aq l))]) rfl rfl rfl rfl (cL (cs:=[aX,aX]) (n:=1) (h':=[stB (.sl 7 (bC az)) (.sl 2 (aq l)),stB aX aX]) rfl rfl rfl rfl ?_)
 refine b6 rfl (by kernel_rfl) F5 ?_
 refine bB rfl rfl (bB rfl rfl (bE rfl rfl (ag rfl rfl (ba (id:=0) rfl rfl (Nat.le_refl 2) ?_))))
 refine b6 rfl (by kernel_rfl) hC ?_
 refine bE rfl rfl (ag rfl rfl (aF rfl rfl (aG ?_)))
 refine aA rfl (decide_eq_false (by omega)) ?_
 refine bW rfl rfl (ar (ax rfl ?_))
 refine ag rfl (decide_eq_false (by omega)) ?_
 refine ba (id:=0) rfl rfl (Nat.le_refl 2) (br (cs:=[.sl 7 (bC az),.sl 2 (aq l)]) rfl ?_)
 refine cz rfl (by kernel_rfl) fD ?_
 refine br (cs:=[.sl 7 (bC az),.sl 2 (aq l),aX,aX,.sl 12 fY,int root]) rfl (cL (cs:=[.sl 7 (bC az),.sl 2 (aq l),aX,aX,.sl 12 fY,int root]) (n:=2) (h':=[stB (.sl 7 (bC az)) (.sl 2 (aq l)),stB aX aX,dkB ⟨az,l⟩ aX root]) rfl rfl rfl rfl ?_)
 refine lI (by kernel_rfl) rfl (DV (root:=root) hO c1 c2 c3 c4 c5 (stB (.sl 7 (bC az)) (.sl 2 (aq l))) (dV _ _ (by simp [bM,Aw.Pure,dH,bG]))) fun r G ⟨er,eG⟩ _=>?_
 subst er
 have hlt:=(List.getElem?_eq_some_iff.1 eG).1
 refine cQ (id:=1) (cs:=[.sl 7 (bC (sdL az)),.sl 2 (aq l)]) (b:=⟨25,[aX,aX],true⟩) rfl eG rfl rfl (Nat.le_refl 2) rfl rfl rfl ?_
 refine ba (id:=1) (b:=⟨25,[.sl 7 (bC (sdL az)),.sl 2 (aq l)],true⟩) rfl (List.getElem?_set_self hlt) (Nat.le_refl 2) ?_
 exact .pure (by simp [bM,Aw.Pure,dH,bG]) rfl
end Go.Proofs.YtfageokhpklkbaaGreatDoor
end

section
namespace Go.Proofs.YtfageokhpklkbaaGreatDoor
open Go Go.Aw Go.Nst
set_option maxRecDepth 1000000
def wv (s : Sy) (root : Int) : Bool:=!gSy s && fX s && decide (-1 ≤ root) && decide (root ≤ 1000000000000)
theorem H2 (v : Vv) : eqK [1,2,1,1,1,1,1] (bS v) (bS v) = some true:=by
 have : eqK [1,2,1,1,1,1,1] (bS v) (bS v) = some (decide (v.kind = v.kind) && (decide (v.word = v.word) && (decide (v.num = v.num) && (decide (v.cr = v.cr) && (decide (v.cg = v.cg) && (decide (v.cb = v.cb) && (decide (v.ca = v.ca) && true))))))):=rfl
 rw [this];simp
theorem Ga {s : Sy} {root : Int} (ok : p8 s) (hl : s.az.length < 2 ^ 40) : Con Tryz.prog 5 [aX,.agg (fE s),int root] (bool (wv s root)):=by
 refine (V5 _ _ _).gives (by simp [bM,Aw.Pure,gU]) (by simp) ?_
 unfold W5
 have hG:=Bn s hl ok
 have hC:=vX s ok
 have e : wv s root = (!gSy s && fX s && decide (-1 ≤ root) && decide (root ≤ 1000000000000)):=rfl
 rw [e]
 clear e
 refine cL (cs:=fE s) (n:=0) (h':=[.blk ⟨25,fE s,true⟩]) rfl rfl rfl rfl ?_
 refine b6 rfl (by kernel_rfl) F4 ?_
 refine bF rfl (aG (aA rfl rfl (ba (id:=0) rfl rfl (Nat.le_refl 2) ?_)))
 refine b6 rfl (by kernel_rfl) hG ?_
 refine bF rfl (ar (aE rfl (aG ?_)))
 cases hg : gSy s with
 | true =>
   refine ay rfl rfl (ar (ax rfl (aG (ay rfl rfl (ar (ax rfl (aG ?_)))))))
   refine ay rfl rfl (ar (ax rfl (aG (ay rfl rfl (ax rfl ?_)))))
   exact .pure (by simp) rfl
 | false =>
   refine aA rfl rfl ?_
   refine b6 rfl (by kernel_rfl) F2 ?_
   refine bR rfl rfl (ar (aE rfl (aG (aA rfl rfl (ba (id:=0) rfl rfl (Nat.le_refl 2) ?_)))))
   refine b6 rfl (by kernel_rfl) hC ?_
   refine bR rfl rfl (ar (aE rfl (aG ?_)))
   cases hs : fX s with
   | false =>
     have e8 : gA s = 8:=by unfold gA;rw [hs];rfl
     refine ay rfl (by rw [e8];rfl) ?_
     refine ar (ax rfl (aG (ay rfl rfl (ax rfl ?_))))
     exact .pure (by simp) rfl
   | true =>
     have e0 : gA s = 0:=by unfold gA;rw [if_pos hs]
     refine aA rfl (by rw [e0];rfl) ?_
     refine dq rfl rfl (ar (aE rfl (aG ?_)))
     cases h1 : decide (-1 ≤ root) with
     | false =>
       refine ay rfl rfl (ax rfl ?_)
       exact .pure (by simp) rfl
     | true =>
       refine aA rfl rfl (eE rfl rfl (aE rfl ?_))
       exact .pure (by simp) rfl
theorem G0 {s : Sy} {root : Int} (h : wv s root = true) : fX s = true ∧ -1 ≤ root ∧ root ≤ 1000000000000:=by
 unfold wv at h
 simp only [Bool.and_eq_true,decide_eq_true_eq] at h
 exact ⟨h.1.1.2,h.1.2,h.2⟩
set_option maxHeartbeats 8000000 in
theorem rA {s : Sy} {root : Int} (al : Con Tryz.prog 4 [] tt) (ok : p8 s) (hl : s.az.length < 2 ^ 40) : Con Tryz.prog 3 [.agg (fE s),int root] tt:=by
 refine (V3 _ _).gives (by simp [bM,Aw.Pure,gU]) (by simp) ?_
 unfold W3
 have hF:=Ga (root:=root) ok hl
 refine cL (cs:=fE s) (n:=0) (h':=[.blk ⟨25,fE s,true⟩]) rfl rfl rfl rfl ?_
 refine b6 rfl (by kernel_rfl) al ?_
 refine ba (id:=0) rfl rfl (Nat.le_refl 2) ?_
 refine b6 rfl (by kernel_rfl) hF ?_
 refine bF rfl (aG ?_)
 cases hf : wv s root with
 | false =>
   refine ay rfl rfl (ar (aE rfl (ak rfl rfl ?_)))
   exact .pure (by simp) rfl
 | true =>
   obtain ⟨hs,r1,r2⟩:=G0 hf
   have hS:=D4 ok hs r1 r2
   obtain ⟨c1,c2,c3,c4,c5⟩:=FJ hs
   have o:=AM hs
   have hSame:=Bg (l:=s.db) (by omega) c3
   obtain ⟨az,l⟩:=s
   dsimp only at hS c1 c2 c3 c4 c5 o hSame ⊢
   refine aA rfl rfl (bF rfl (ar (ax rfl (ag rfl rfl (ba (id:=0) rfl rfl (Nat.le_refl 2) ?_)))))
   refine b6 rfl (by kernel_rfl) hS ?_
   refine bB rfl rfl (bB rfl rfl (cL (cs:=[aX,aX]) (n:=1) (h':=[stB (.sl 7 (bC az)) (.sl 2 (aq l)),stB aX aX]) rfl rfl rfl rfl (cQ (id:=1) (cs:=[.sl 7 (bC (sdL az)),.sl 2 (aq l)]) (h':=[stB (.sl 7 (bC az)) (.sl 2 (aq l)),stB (.sl 7 (bC (sdL az))) (.sl 2 (aq l))]) rfl rfl rfl rfl (Nat.le_refl 2) rfl rfl rfl (bE rfl rfl (aG (aA rfl rfl (aC rfl ?_)))))))
   refine aD rfl rfl rfl ?_
   refine aB (n:=18) rfl (by simp [bC,sdL]) fun _=>?_
   refine bE rfl rfl (ar (ax rfl (aG ?_)))
   refine aA rfl (by decide) ?_
   refine aC rfl (aD rfl rfl rfl (aC rfl (aD rfl rfl rfl ?_)))
   refine b6 rfl (by kernel_rfl) hSame ?_
   refine bF rfl (ar (ax rfl (ag rfl rfl ?_)))
   refine b6 rfl (by kernel_rfl) fD ?_
   refine b6 rfl (by kernel_rfl) xQ ?_
   refine cL (cs:=[aX,aX]) (n:=2) (h':=[stB (.sl 7 (bC az)) (.sl 2 (aq l)),stB (.sl 7 (bC (sdL az))) (.sl 2 (aq l)),stB aX aX]) rfl rfl rfl rfl (cQ (id:=2) (cs:=[.sl 7 (bC kZ),aX]) (h':=[stB (.sl 7 (bC az)) (.sl 2 (aq l)),stB (.sl 7 (bC (sdL az))) (.sl 2 (aq l)),stB (.sl 7 (bC kZ)) aX]) rfl rfl rfl rfl (Nat.le_refl 2) rfl rfl rfl ?_)
   refine aB (n:=18) rfl rfl fun _=>?_
   refine bE rfl rfl (aG ?_)
   refine aA rfl (by decide) ?_
   refine aC rfl (aD rfl rfl rfl ?_)
   refine aB (n:=18) rfl rfl fun _=>?_
   refine bE rfl rfl (ar (ax rfl ?_))
   refine ag rfl (by decide) ?_
   refine a7 (α:=Nat) (fun k=>k ≤ 18) (fun k=>[int k]) (fun _=>[stB (.sl 7 (bC az)) (.sl 2 (aq l)),stB (.sl 7 (bC (sdL az))) (.sl 2 (aq l)),stB (.sl 7 (bC kZ)) aX]) (fun k=>18 - k) 0 (Nat.zero_le _) (Wk.refl _ _ _ (Nat.le_refl _)) ?_
   intro k hk
   refine aF rfl rfl ?_
   rcases Nat.lt_or_ge k 18 with q|q
   ·obtain ⟨p,hp⟩:=sM q
    obtain ⟨v,hx⟩:=o.get q
    have hsd : sdV az k = if p.inh then v else j5 p:=by unfold sdV;rw [hp,hx]
    refine ak rfl (decide_eq_true (by omega)) ?_
    refine aC rfl (aD rfl rfl rfl (bx (f:=bS) rfl rfl rfl (y8 hp) (aY rfl rfl (cL (cs:=bS v0) (n:=3) (h':=[stB (.sl 7 (bC az)) (.sl 2 (aq l)),stB (.sl 7 (bC (sdL az))) (.sl 2 (aq l)),stB (.sl 7 (bC kZ)) aX,wB v0]) rfl rfl rfl rfl (jM (id:=3) (v:=v0) (h':=[stB (.sl 7 (bC az)) (.sl 2 (aq l)),stB (.sl 7 (bC (sdL az))) (.sl 2 (aq l)),stB (.sl 7 (bC kZ)) aX,wB (j5 p)]) rfl rfl ?_)))))
    refine o7 [] [stB (.sl 7 (bC az)) (.sl 2 (aq l)),stB (.sl 7 (bC (sdL az))) (.sl 2 (aq l)),stB (.sl 7 (bC kZ)) aX,wB (sdV az k)] ?_ fun F hF=>?_
    rotate_left
    ·refine bx (f:=ki) rfl jF rfl hp (bt rfl (aR rfl ?_))
     cases hi : p.inh with
     | true =>
       rw [hi,if_pos rfl] at hsd
       rw [hsd] at hF
       refine ak rfl rfl (aC rfl (aD rfl rfl rfl (bx (f:=bS) rfl rfl rfl hx (aY rfl rfl (jM (id:=3) (v:=j5 p) (h':=[stB (.sl 7 (bC az)) (.sl 2 (aq l)),stB (.sl 7 (bC (sdL az))) (.sl 2 (aq l)),stB (.sl 7 (bC kZ)) aX,wB v]) rfl rfl (ar ?_))))))
       exact hF
     | false =>
       rw [hi,if_neg (by decide)] at hsd
       rw [hsd] at hF
       refine ag rfl rfl (ar ?_)
       exact hF
    refine aC rfl (aD rfl rfl rfl (bx (f:=bS) rfl rfl rfl (FE q) (aY rfl rfl (j8 (id:=3) (v:=sdV az k) rfl (mT rfl rfl (H2 _) (aG (aA rfl rfl ?_)))))))
    refine aC rfl (aD rfl rfl rfl (bx (f:=bS) rfl rfl rfl (y8 hp) (aY rfl rfl (bx (f:=ki) rfl jF rfl hp (bt rfl ?_)))))
    refine qb (n:=7) (ds:=bS (j5 p)) rfl (by show 7 ≤ 10;decide) rfl ?_
    refine mT rfl rfl (H2 _) (ax rfl (ag rfl rfl ?_))
    refine aP rfl rfl (by unfold inI;omega) ?_
    refine ar ?_
    refine ⟨k + 1,q,Wk.back (M:=3) (Nat.le_refl _) (by show 3 ≤ 4;omega) rfl rfl (fun e he=>?_) (by simp [Bd]),by omega⟩
    simp only [List.mem_cons,List.not_mem_nil,or_false] at he
    rcases he with rfl|rfl|rfl <;> exact dV _ _ (by simp [bM,Aw.Pure,dH,bG])
   ·obtain rfl : k = 18:=by omega
    refine ag rfl (by decide) ?_
    exact .pure (by simp) rfl
end Go.Proofs.YtfageokhpklkbaaGreatDoor
end
