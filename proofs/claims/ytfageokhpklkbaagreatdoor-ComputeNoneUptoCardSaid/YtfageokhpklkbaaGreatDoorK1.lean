/-
  What the runs know beforehand: the tables of properties,a map's keys sorted,what a list of declarations decides. What the runs know of custom properties solved.
  No conditions.
-/
import Derived.Test.YtfageokhpklkbaaGreatDoorDecK
import Derived.Test.YtfageokhpklkbaaGreatDoorT1
import Derived.Test.YtfageokhpklkbaaGreatDoorMemo
import Derived.Test.YtfageokhpklkbaaGreatDoorVrE
import Derived.Test.YtfageokhpklkbaaGreatDoorS1
set_option linter.unusedVariables false
set_option linter.unusedSimpArgs false
section
namespace Go.Proofs.YtfageokhpklkbaaGreatDoor
open Go Go.Aw Go.RowKit
set_option maxRecDepth 1000000
noncomputable def HD (args : List AV) (h : aa) : Option (AV × Option aa):=match args with
 | [.fn (.func g) [] [.op id o]]=>(match Nat.beq g 114,Nat.beq o 0 with
   | true,true=>(match fg h id with
     | some (.blk x)=>(match x.cells with
       | .mp mid :: _=>(match fg h mid with
         | some (.mp c es)=>(match qD c es with|some r=>some (r,none)|none=>none)
         | _=>none)
       | _=>none)
     | _=>none)
   | _,_=>none)
 | _=>none
theorem Kh {args : List AV} {h : aa} {v : AV} {oh : Option aa} (e : HD args h = some (v,oh)) : oh = none ∧ ct Tryz.prog 72 args h fun r hh=>r = v ∧ hh = h:=by
 unfold HD at e
 split at e
 ·rename_i g id o
  split at e
  ·rename_i h1 h2
   obtain rfl:=Nat.eq_of_beq_eq_true h1
   obtain rfl:=Nat.eq_of_beq_eq_true h2
   split at e
   ·rename_i x hx
    split at e
    ·rename_i mid tl hc
     split at e
     ·rename_i c es hm
      split at e
      ·rename_i r hr
       cases e
       rw [dy] at hx hm
       exact ⟨rfl,yC hx (by rw [hc];rfl) hm hr⟩
      ·cases e
     ·cases e
    ·cases e
   ·cases e
  ·cases e
 ·cases e
noncomputable def pz : aw:=fun f args h=>match Nat.beq f 8 with
 | true=>(match args with|[]=>some (.sl 12 fY,none)|_=>none)
 | false=>(match Nat.beq f 29 with
   | true=>(match args with|[]=>some (.sl 12 ug,none)|_=>none)
   | false=>(match Nat.beq f 72 with
     | true=>HD args h
     | false=>none))
theorem sw : aW Tryz.prog pz:=by
 intro f args h v oh e
 unfold pz at e
 split at e
 ·rename_i hf
  obtain rfl:=Nat.eq_of_beq_eq_true hf
  split at e
  ·cases e
   exact .inl ⟨by kernel_rfl,fD.call ⟨rfl,rfl⟩⟩
  ·cases e
 ·split at e
  ·rename_i hf
   obtain rfl:=Nat.eq_of_beq_eq_true hf
   split at e
   ·cases e
    exact .inl ⟨by kernel_rfl,rC.call ⟨rfl,rfl⟩⟩
   ·cases e
  ·split at e
   ·rename_i hf
    obtain rfl:=Nat.eq_of_beq_eq_true hf
    obtain ⟨rfl,q⟩:=Kh e
    exact .inl ⟨by kernel_rfl,q⟩
   ·cases e
def OQ : Cfg:=⟨fun _ _ _=>false,fun _=>false,100000⟩
noncomputable def MA : aw:=iy Tryz.prog OQ pz 80
noncomputable def wY : aw:=fun f args h=>match Nat.beq f 115 with
 | true=>(match vY MA args with|some r=>some (r,none)|none=>none)
 | false=>pz f args h
theorem EE : aW Tryz.prog wY:=by
 intro f args h v oh e
 unfold wY at e
 split at e
 ·rename_i hf
  obtain rfl:=Nat.eq_of_beq_eq_true hf
  split at e
  ·rename_i r hr
   cases e
   obtain ⟨q1,q2⟩:=yI (qe sw 80) hr
   exact .inl ⟨q1,q2 h⟩
  ·cases e
 ·exact sw _ _ _ _ _ e
def inP (l : List (Nat × Nat)) (a b : Nat) : Bool:=match l with
 | []=>false
 | x :: l=>match Nat.beq x.1 a,Nat.beq x.2 b with|true,true=>true|_,_=>inP l a b
def O6 : List (Nat × List (Nat × Nat)) :=
 [(209,[(3,2)]),
  (144,[(6,2),(8,15),(8,16),(10,14),(10,15)]),
  (50,[(6,13)]),
  (90,[(8,2)]),
  (11,[(6,8)])]
def LU : List (Nat × List (Nat × Nat)) → Nat → Nat → Nat → Bool
 | [],_,_,_=>false
 | x :: l,f,id,i=>match Nat.beq x.1 f with|true=>inP x.2 id i|false=>LU l f id i
def bp : Cfg:=⟨LU O6,fun f=>(match f with|11=>true|161=>true|73=>true|209=>true|_=>false),100000⟩
end Go.Proofs.YtfageokhpklkbaaGreatDoor
end

section
namespace Go.Proofs.YtfageokhpklkbaaGreatDoor
open Go Go.Aw Go.RowKit Go.Nst
set_option maxRecDepth 1000000
theorem tf {P : Program} {f : FuncId} {a b : AV} {h : aa} {K : AV → aa → Prop} (q : RLe a b) (c : ct P f [b] h K) : ct P f [a] h K:=by
 intro base ι S w vs h1 h2
 refine c base ι S w vs ?_ h2
 match vs,h1 with
 | [],h1=>simp at h1
 | _ :: _ :: _,h1=>simp at h1
 | [v],h1 =>
   simp only [bD,fL,and_true] at h1 ⊢
   exact q _ _ _ _ h1
theorem o8 {K : AV → Prop} (q : K (int 0)) : bI (.v (.slice none 0 0)) K:=q
theorem xX : Con Tryz.prog 118 [.v (.slice none 0 0)] (.v (.slice none 0 0)):=by
 refine (Kp _).gives (by simp) (by simp) ?_
 unfold FQ
 have inj : nV []:=fun x y hx=>by simp at hx
 refine y7 (α:=Empty) (fun _=>True) (fun _=>[]) (fun _=>[]) (fun _=>0) ?_ (fun x=>x.elim)
 refine lI (by kernel_rfl) rfl (tf (RLe.nil 2) (pP (l:=[]) (by simp) inj (by simp) (by simp))) fun r h1 ⟨id,er,hid⟩ _=>?_
 subst er
 have hlt:=(List.getElem?_eq_some_iff.1 hid).1
 refine jL (n:=h1.length) (h':=h1 ++ [.mp 0 []]) rfl rfl ?_
 refine lI (by kernel_rfl) rfl (tf (RLe.nil 2) (uo (l:=[]) (by simp) inj)) fun r G ⟨er,eG⟩ _=>?_
 subst er
 subst eG
 refine qM (es:=[]) (c:=0) rfl (by rw [List.append_assoc,List.getElem?_append_left hlt];exact hid) rfl rfl ?_
 refine a7 (α:=Unit) (fun _=>True) (fun _=>[]) (fun _=>h1 ++ [.mp 0 []] ++ [.mp 0 []] ++ [.it id 0 [] 0]) (fun _=>0) () trivial (Wk.refl _ _ _ (Nat.le_refl _)) ?_
 intro _ _
 refine qJ (m:=id) (sn:=[]) (es:=[]) rfl g_c (by rw [List.append_assoc,List.append_assoc,List.getElem?_append_left hlt];exact hid) rfl (Nat.le_refl _) (fun _=>?_) fun p hp=>by simp [du] at hp
 refine bB rfl rfl (ag rfl rfl (o8 (a7 (α:=Unit) (fun _=>True) (fun _=>[int 0]) (fun _=>_) (fun _=>0) () trivial (Wk.refl _ _ _ (Nat.le_refl _)) ?_)))
 intro _ _
 refine aF rfl rfl (ag rfl rfl (o8 (a7 (α:=Unit) (fun _=>True) (fun _=>[.v (.slice none 0 0),int 0]) (fun _=>_) (fun _=>0) () trivial (Wk.refl _ _ _ (Nat.le_refl _)) ?_)))
 intro _ _
 refine aF rfl rfl (ag rfl rfl ?_)
 exact .pure (by simp) rfl
theorem Bi : Con Tryz.prog 64 [.v (.slice none 0 0)] tt:=by
 have h:=ov [] (by simp)
 exact h.arg (.cons (.nil 2) .nil) (by simp)
theorem xW : Con Tryz.prog 76 [.v (.slice none 0 0)] (.tup [.v (.slice none 0 0),int 0]):=by
 refine (V76 _).gives (by simp) (by simp) ?_
 unfold W76
 refine o8 (bW rfl rfl (ag rfl rfl ?_))
 refine b6 rfl (by kernel_rfl) Bi ?_
 refine bF rfl (ag rfl rfl (o8 (a7 (α:=Unit) (fun _=>True) (fun _=>[int 0]) (fun _=>[]) (fun _=>0) () trivial (Wk.refl _ _ _ (Nat.le_refl _)) ?_)))
 intro _ _
 refine aF rfl rfl (ag rfl rfl ?_)
 refine b6 rfl (by kernel_rfl) xX ?_
 exact .pure (by simp) rfl
def pxV (n : Int) : Vl:=.mk 12 [] n [112,120] true []
def cu1 : List Cu:=[⟨[45,45,112],[pxV 5000]⟩]
def cu2 : List Cu:=[⟨[45,45,97],[pxV 1000]⟩,⟨[45,45,112],[pxV 5000]⟩]
def rw1 (n : Str) (k : Int) : List AV:=[.str n,.sl 6 [[u1 12,.str [],int k,.str [112,120],tt,.v (.slice none 0 0)]]]
theorem Gv (n : Str) (k : Int) : jo (rw1 n k) (bX ⟨n,[pxV k]⟩) :=
 .cons (.refl _) (.cons (.sl (.cons (.cons (.refl _) (.cons (.refl _) (.cons (.refl _) (.cons (.refl _) (.cons (.refl _) (.cons (.nil 6) .nil)))))) .nil)) .nil)
theorem HX {l : List Cu} (h : (Nat.ble l.length 64 && dx l && l.all fun c=>Nat.ble (zVs c.value) 2000 && !bT c.value && decide (fa c.value = 0)) = true) : Con Tryz.prog 76 [.sl 2 (aq l)] (.tup [.sl 2 (aq l),int 0]):=by
 simp only [Bool.and_eq_true,List.all_eq_true,decide_eq_true_eq,Bool.not_eq_true'] at h
 obtain ⟨⟨h1,h2⟩,h3⟩:=h
 exact rD (Nat.le_of_ble_eq_true h1) h2 (uM h2) (fun c hc=>Nat.le_of_ble_eq_true (h3 c hc).1.1) (fun c hc=>(h3 c hc).1.2) (fun c hc=>(h3 c hc).2)
theorem K4 : Con Tryz.prog 76 [.sl 2 [rw1 [45,45,112] 5000]] (.tup [.sl 2 (aq cu1),int 0]) :=
 (HX (l:=cu1) (by decide +kernel)).arg (.cons (.sl (.cons (Gv _ _) .nil)) .nil) (by simp [rw1])
theorem K5 : Con Tryz.prog 76 [.sl 2 [rw1 [45,45,97] 1000,rw1 [45,45,112] 5000]] (.tup [.sl 2 (aq cu2),int 0]) :=
 (HX (l:=cu2) (by decide +kernel)).arg (.cons (.sl (.cons (Gv _ _) (.cons (Gv _ _) .nil))) .nil) (by simp [rw1])
theorem pd {xs ys : List AV} (h : oc xs ys = true) : xs = ys:=by
 unfold oc at h
 have:=iV _ _ h
 cases this;rfl
noncomputable def Ii (a : AV) : AV:=match a with|.sb _ sz rows=>.sl sz rows|_=>a
theorem LX (id sz : Nat) (rows : List (List AV)) : RLe (.sb id sz rows) (.sl sz rows):=by
 intro ι S w v r
 rw [Rep] at r
 rw [Rep]
 exact r.1
theorem Fl (a : AV) : RLe a (Ii a):=by
 cases a with
 | sb id sz rows=>exact LX id sz rows
 | _=>exact RLe.refl _
noncomputable def HC (a : AV) : Option AV:=match oc [a] [.v (.slice none 0 0)] with
 | true=>some (.tup [.v (.slice none 0 0),int 0])
 | false=>(match oc [a] [.sl 2 [rw1 [45,45,112] 5000]] with
   | true=>some (.tup [.sl 2 (aq cu1),int 0])
   | false=>(match oc [a] [.sl 2 [rw1 [45,45,97] 1000,rw1 [45,45,112] 5000]] with
     | true=>some (.tup [.sl 2 (aq cu2),int 0])
     | false=>none))
theorem Kg {a r : AV} (e : HC a = some r) : Con Tryz.prog 76 [a] r:=by
 unfold HC at e
 split at e
 ·rename_i ha
  have:=pd ha
  cases this
  cases e
  exact xW
 ·split at e
  ·rename_i ha
   have:=pd ha
   cases this
   cases e
   exact K4
  ·split at e
   ·rename_i ha
    have:=pd ha
    cases this
    cases e
    exact K5
   ·cases e
noncomputable def w3 : aw:=fun f args h=>match Nat.beq f 76 with
 | true=>(match args with
   | [a]=>(match HC (Ii a) with|some r=>some (r,none)|none=>none)
   | _=>none)
 | false=>wY f args h
theorem EG : aW Tryz.prog w3:=by
 intro f args h v oh e
 unfold w3 at e
 split at e
 ·rename_i hf
  obtain rfl:=Nat.eq_of_beq_eq_true hf
  split at e
  ·split at e
   ·rename_i r hr
    cases e
    exact .inl ⟨by kernel_rfl,tf (Fl _) ((Kg hr).call ⟨rfl,rfl⟩)⟩
   ·cases e
  ·cases e
 ·exact EE _ _ _ _ _ e
end Go.Proofs.YtfageokhpklkbaaGreatDoor
end
