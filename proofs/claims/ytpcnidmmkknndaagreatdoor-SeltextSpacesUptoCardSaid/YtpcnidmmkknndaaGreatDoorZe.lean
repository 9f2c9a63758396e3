/-
 The reading of tokens into values,of values into selectors,in plain Lean (as_ the program reads them).
 No conditions.
-/
import Derived.ScopeJumps
import Derived.Test.YtpcnidmmkknndaaGreatDoorProg
import Derived.KernelRfl
import Derived.Shelf.LaysM
import Derived.Shelf.Strings.Search3
import Derived.Shelf.Strings.Shaped
import Derived.Test.YtpcnidmmkknndaaGreatDoorZd
import Derived.Test.YtpcnidmmkknndaaGreatDoorZc
set_option linter.unusedVariables false
set_option linter.unusedSimpArgs false
set_option maxRecDepth 1000000
set_option maxHeartbeats 16000000
open Go.Proofs.Tryz renaming prog→p_
noncomputable section
namespace Go.Proofs.YtpcnidmmkknndaaGreatDoor
section
open Go Go.Aw Go.fg Go.bG
/-! ### Blocks -/
def iy(o:Tok)(l:List Vl):Vl:=.mk o.k o.t o.n o.u o.f l
def iE(t:Tok)(c:List Vl):List (Tok×List Vl)→Option (List Vl×List (Tok×List Vl))
 | []=>if cG t.k≠0 then some ([],[(t,c)]) else some (c++[iy t []],[])
 | (o,b):: s=>if t.k=cG o.k then some (b++[iy o c],s)
  else if cG t.k≠0 then (if s.length+1=16 then none else some ([],(t,c):: (o,b):: s)) else some (c++[iy t []],(o,b):: s)
def qq(c:List Vl):List (Tok×List Vl)→List Vl
 | []=>c
 | (o,b):: s=>qq (b++[iy o c]) s
def iT:List Tok→List Vl→List (Tok×List Vl)→Option (List Vl×List (Tok×List Vl))
 | [],c,s=>some (c,s)
 | t:: l,c,s=>match iE t c s with|some (c,s)=>iT l c s|none=>none
def kE(l:List Tok):List Vl×Int:=if 1500<l.length then ([],4) else match iT l [] [] with
 | none=>([],20)
 | some (c,s)=>if 1500<l.length+s.length then ([],4) else (qq c s,0)
/-! ### Progressions -/
def dI:List Tok→List Tok
 | []=>[]
 | t:: r=>if t.k=13 then dI r else t:: r
def kT(k:Int):List Tok→Option (Tok×List Tok)
 | []=>none
 | t:: r=>if t.k=k then some (t,r) else none
def iH:List Tok→Int×List Tok
 | []=>(0,[])
 | t:: r=>if t.k=9∧t.t=[43] then (1,r) else if t.k=9∧t.t=[45] then (-1,r) else (0,t:: r)
def cV(l:List Tok):(Int×Bool)×List Tok:=match kT 10 l with
 | some (t,r)=>((t.n.tdiv 1000,t.f&&decide (t.n.tmod 1000=0)),r)
 | none=>((0,false),l)
def jK:af:=[48,49,50,51,52,53,54,55,56,57]
def bT(s:af):af:=s.map bG.dF
def Em(w:af)(l:List Tok):(Int×Bool)×List Tok:=
 if w=[45] then cV (dI l)
 else if w≠[] then (if Lib.hasPrefix w [45]=false∨Lib.trimS (Lib.trimPrefix w [45]) jK≠[] then ((0,false),l) else ((-((min (ie (Lib.trimPrefix w [45])) 1000000000:Nat):Int),true),l))
 else match dI l with
  | []=>((0,true),[])
  | t:: r=>let s:=iH (t:: r);let w:=cV (dI s.2)
    if s.1=0 then w else ((s.1*w.1.1,w.1.2&&decide (0≤w.1.1)),w.2)
def fQ(w:af)(l:List Tok):(Int×Bool)×List Tok:=
 if w=[45] then (let r:=cV (dI l);((-1*r.1.1,r.1.2&&decide (0≤r.1.1)),r.2)) else Em w l
def gN(l:List Tok):((Int×Int)×Bool)×List Tok:=
 let w:=cV l
 if w.1.2=true then (((0,w.1.1),true),w.2)
 else match kT 12 w.2 with
  | some (t,r)=>if Lib.hasPrefix (bT t.u) [110]=true∧t.f=true∧t.n.tmod 1000=0 then
   (let b:=fQ (Lib.trimPrefix (bT t.u) [110]) r;(((t.n.tdiv 1000,b.1.1),b.1.2),b.2)) else (((0,0),false),r)
  | none=>let s:=iH w.2
    match kT 1 s.2 with
    | none=>(((0,0),false),s.2)
    | some (t,r)=>if s.1<0 then (((0,0),false),r) else
      let m:=bT t.t
      if s.1=0∧m=[111,100,100] then (((2,1),true),r)
      else if s.1=0∧m=[101,118,101,110] then (((2,0),true),r)
      else
       let neg:Bool:=decide (s.1=0)&&Lib.hasPrefix m [45]
       let q:=if neg=true then Lib.trimPrefix m [45] else m
       if Lib.hasPrefix q [110]=true then (let b:=fQ (Lib.trimPrefix q [110]) r;((((if neg=true then -1 else 1:Int),b.1.1),b.1.2),b.2)) else (((0,0),false),r)
def kj(n:Int):Bool:=decide (-1000000000≤n)&&decide (n≤1000000000)
def wo(l:List Tok):Option (Int×Int):=
 let r:=gN (dI l)
 if r.1.2=true∧dI r.2=[]∧kj r.1.1.1=true∧kj r.1.1.2=true then some r.1.1 else none
/-! ### Selectors -/
def cv:List Vl→List Vl
 | []=>[]
 | v:: r=>if v.kind=13 then cv r else v:: r
def jq(c:UInt8):List Vl→Option (List Vl)
 | []=>none
 | v:: r=>if v.kind=9∧v.text=[c] then some r else none
def ko(v:List Vl):Int×List Vl:=match jq 62 v with
 | some r=>(2,cv r)
 | none=>match jq 43 v with
   | some r=>(3,cv r)
   | none=>match jq 126 v with
     | some r=>(4,cv r)
     | none=>(0,v)
def dt(k:Int)(n:af):Sm:=.mk k n 0 [] false 0 0 false []
def eD(n:af)(o:Int)(w:af)(f:Bool):Sm:=.mk 3 n o w f 0 0 false []
def po:af:=[126,124,94,36,42]
def G4(n:af)(o:Int)(w:af):List Vl→Sm×Bool
 | []=>(eD n o w false,true)
 | f:: r=>if f.kind=1 then (eD n o w (decide (bT f.text=[105])),(cv r).isEmpty&&(decide (bT f.text=[105])||decide (bT f.text=[115]))) else (eD n o w false,false)
def yT(n:af)(o:Int):List Vl→Sm×Bool
 | []=>(eD n o [] false,false)
 | t:: r=>if t.kind=1∨t.kind=5 then G4 n o t.text (cv r) else (eD n o [] false,false)
def qz(n:af)(q:List Vl):Sm×Bool:=match q with
 | []=>(eD n 0 [] false,true)
 | t:: r=>match jq 61 (t:: r) with
   | some r=>yT n 1 (cv r)
   | none=>if t.kind=9∧0≤Lib.index po t.text then (match jq 61 r with
     | some r=>yT n (2+Lib.index po t.text) (cv r)
     | none=>(eD n 0 [] false,false)) else (eD n 0 [] false,false)
def lD(v:List Vl):Sm×Bool:=match cv v with
 | []=>(eD [] 0 [] false,false)
 | t:: r=>if t.kind=1 then qz (bT t.text) (cv r) else (eD (bT t.text) 0 [] false,false)
def dX:List af:=[[108,105,110,107],[118,105,115,105,116,101,100],[97,110,121,45,108,105,110,107],[114,111,111,116],[101,109,112,116,121],[110,116,104,45,99,104,105,108,100],[110,116,104,45,108,97,115,116,45,99,104,105,108,100],[105,115],[119,104,101,114,101],[110,111,116],[104,97,115]]
def kM(l:List af)(s:af):Int:=match l.idxOf? s with|some i=>(i:Int)|none=>-1
def mr(s:af):Sm×Bool:=
 if bT s=[102,105,114,115,116,45,99,104,105,108,100] then (.mk 9 [] 0 [] false 0 1 false [],true)
 else if bT s=[108,97,115,116,45,99,104,105,108,100] then (.mk 10 [] 0 [] false 0 1 false [],true)
 else (dt (4+max (kM dX (bT s)) 0) [],decide (0≤kM dX (bT s))&&decide (kM dX (bT s)<5))
def OK(v:Vl):Tok:=⟨v.kind,v.text,v.num,v.unit,v.flag⟩
mutual
def iI:Vl→List Tok
 | .mk k t n u f l=>⟨k,t,n,u,f⟩:: (if cG k=0 then [] else bJ l++[⟨cG k,[],0,[],false⟩])
def bJ:List Vl→List Tok
 | []=>[]
 | v:: l=>iI v++bJ l
end
abbrev Sub:=Int→List Vl→Bool→Bool→Option (List Cx×Bool)
def rX(k:Int)(w:Bool)(l:List Cx)(v:List Vl):Sm×Bool:=if jr v=0 then (match wo (bJ v) with
 | some (a,b)=>(.mk k [] 0 [] false a b w l,true)
 | none=>(.mk k [] 0 [] false 0 0 w l,false)) else (.mk k [] 0 [] false 0 0 w l,false)
def jb(v:Vl):Bool:=decide (v.kind=1)&&decide (bT v.text=[111,102])
def vz(sub:Sub)(k:Int)(v:List Vl):Sm×Bool:=match v.findIdx? jb with
 | some i=>(match sub k (v.drop (i+1)) false false with
   | some (l,true)=>rX k true l (v.take i)
   | _=>(dt k [],false))
 | none=>rX k false [] v
def mP(sub:Sub)(s:af)(v:List Vl):Sm×Bool:=
 let i:=kM dX (bT s)
 if i<5 then (dt 0 [],false)
 else if i<7 then vz sub (4+i) v
 else match sub (4+i) v (decide (4+i=14)) (decide (4+i≤12)) with
  | none=>(dt (4+i) [],false)
  | some (l,b)=>(.mk (4+i) [] 0 [] false 0 0 false l,b)
def iY(x:Sm):Option (List Sm×List Vl)→Option (List Sm×List Vl)
 | some (l,r)=>some (x:: l,r)
 | none=>none
def dy(fn:af→List Vl→Sm×Bool):List Vl→Option (List Sm×List Vl)
 | []=>some ([],[])
 | t:: r =>
   if t.kind=4 then (if t.flag=true then iY (dt 1 t.text) (dy fn r) else none)
   else if t.kind=9∧t.text=[46] then (match r with
    | []=>none
    | u:: q=>if u.kind=1 then iY (dt 2 u.text) (dy fn q) else none)
   else if t.kind=19 then (if (lD t.list).2=true then iY (lD t.list).1 (dy fn r) else none)
   else if t.kind=16 then (match r with
    | []=>none
    | u:: q=>if u.kind=1 then (if (mr u.text).2=true then iY (mr u.text).1 (dy fn q) else none)
      else if u.kind=2 then (if (fn u.text u.list).2=true then iY (fn u.text u.list).1 (dy fn q) else none) else none)
   else some ([],t:: r)
def eF:List Vl→af×List Vl
 | []=>([],[])
 | t:: r=>if t.kind=1 then (bT t.text,r) else match jq 42 (t:: r) with|some r=>([42],r)|none=>([],t:: r)
def js(fn:af→List Vl→Sm×Bool)(ok:Cp→Bool)(lead:Int):Nat→List Cp→List Int→List Vl→Cx×Bool
 | 0,ps,cs,_=>(.mk lead ps cs,false)
 | n+1,ps,cs,v=>match dy fn (eF v).2 with
   | none=>(.mk lead ps cs,false)
   | some (ss,r)=>if ok (.mk (eF v).1 ss)=true then
    (if cv r=[] then (.mk lead (ps++[.mk (eF v).1 ss]) cs,decide (ps.length+1≤64))
    else if (ko (cv r)).1=0 then
     (if (cv r).length=r.length then (.mk lead (ps++[.mk (eF v).1 ss]) cs,false) else js fn ok lead n (ps++[.mk (eF v).1 ss]) (cs++[1]) (ko (cv r)).2)
    else js fn ok lead n (ps++[.mk (eF v).1 ss]) (cs++[(ko (cv r)).1]) (ko (cv r)).2)
    else (.mk lead ps cs,false)
def mO(fn:af→List Vl→Sm×Bool)(ok:Cp→Bool)(rel:Bool)(v:List Vl):Cx×Bool:=
 let c:=ko (cv v)
 if rel=true then js fn ok (if c.1=0 then 1 else c.1) (c.2.length+1) [] [] c.2 else js fn ok 0 ((cv v).length+1) [] [] (cv v)
def eZ:List Vl→List (List Vl)
 | []=>[[]]
 | v:: r=>if v.kind=18 then []:: eZ r else match eZ r with
   | h:: t=>(v:: h):: t
   | []=>[[v]]
def ib(cp:List Vl→Cx×Bool)(forg:Bool):List (List Vl)→List Cx→List Cx×Bool
 | [],acc=>(acc,true)
 | p:: ps,acc=>if (cp p).2=true then ib cp forg ps (acc++[(cp p).1]) else if forg=true then ib cp forg ps acc else ([],false)
def nL:Nat→Bool→List Vl→Bool→Bool→List Cx×Bool
 | 0,has,v,rel,forg=>ib (mO (mP fun _ _ _ _=>none) (cZ 3 has) rel) forg (eZ v) []
 | k+1,has,v,rel,forg=>ib (mO (mP fun kd v rel forg=>if has=true∧kd=14 then none else some (nL k (has||decide (kd=14)) v rel forg)) (cZ (3-(k+1)) has) rel) forg (eZ v) []
def Lx(v:List Vl):List Cx×Int:=if jr v=0 then (let r:=nL 3 false v false false
 if r.2=true then (if 64<number r.1 then ([],4) else (r.1,0)) else ([],12)) else ([],jr v)
end
end Go.Proofs.YtpcnidmmkknndaaGreatDoor
namespace Go.Aw
section
open Go Go.RowKit
variable{p:Nat→Prop}
theorem Fb(h:∃k,p k):∃k,p k∧∀j,p j→k≤j:=by
 obtain⟨k,hk⟩:=h;induction k using Nat.strongRecOn with
 | _ k ih =>
   by_cases q:∃j,j<k∧p j
   ·obtain⟨j,hj,pj⟩:=q;exact ih j hj pj
   ·exact⟨k,hk,fun j pj=>Nat.le_of_not_lt fun z=>q ⟨j,z,pj⟩⟩
open Classical in
def Bc(p:Nat→Prop):Nat:=if h:∃k,p k then Classical.choose (Fb h) else 0
theorem zb(h:∃k,p k):p (Bc p)∧∀j,p j→Bc p≤j:=by
 unfold Bc;rw[dif_pos h];exact Classical.choose_spec (Fb h)
theorem DI{P:Program}{a:Act}{w:World}{Q:Exit→Act→World→Prop}{c rest:Code}(l:Nat)(J:Nat→Act→World→Prop)(hf:findLabel c l=some rest)(first:c.wp P (Exit.jump l (fun a w=>∃k,J k a w) Q) a w)
 (pass:∀k a w,J k a w→rest.wp P (Exit.jump l (fun a' w' => ∃k',k'<k∧J k' a' w') Q) a w):(Code.scope c).wp P Q a w:=by
 refine wp_scope_jumps l (fun a w=>∃k,J k a w) (fun a w=>Bc fun k=>J k a w) hf first fun a w h=>?_
 obtain⟨h1,h2⟩:=zb h;refine wp_mono (pass _ a w h1) fun e a' w' z=>?_;cases e with
 | goto l' =>
   obtain⟨rfl,k',hk,hJ⟩:=z;exact⟨rfl,⟨k',hJ⟩,Nat.lt_of_le_of_lt ((zb (p:=fun k=>J k a' w') ⟨k',hJ⟩).2 k' hJ) hk⟩
 | normal=>exact z
 | exit id=>exact z
 | ret=>exact z
 | panic ch=>exact z
 | outgrown=>exact z
end
section
open Go Go.RowKit
variable [Laid]
variable{P:Program}{W:aa→(AV→aa→Prop)→Prop}{args:List AV}{Q:Exit→St→Prop}{K:AV→aa→Prop}{f:FuncId}{h:aa}{ops:Array Oper}{ev:Operand→AV}{st:St}{m id:Nat}{own:Bool}
section
variable {P:Program} {ops:Array Oper} {n:Nat} {Lo Fe Ee Ge:Nat→Bool} {B:Nat→Prop}
theorem NU{f f':Fr}(e:nW f f'):aG f=aG f':=by
 funext x
 cases x with
 | tmp t=>exact e t
 | _=>rfl
theorem B4{Z:Fr→aa→Prop}(hZ:∀f f' h,nW f f'→Z f h→Z f' h):∀(l:List Nat) {f f':Fr} {h:aa},nW f f'→jZ P ops n Lo Fe Ee Ge B Z l f h→jZ P ops n Lo Fe Ee Ge B Z l f' h
 | [],f,f',h,e,q=>hZ _ _ _ e q
 | i:: l,f,f',h,e,q=>by
   simp only[jZ]at q ⊢;cases ho:ops[i]? with
   | none=>rw[ho]at q;exact q.elim
   | some o =>
     rw[ho]at q;simp only at q ⊢;rcases q with⟨hl,hg,own,K0,q,k⟩|⟨hl,x,hy,hf,hee,q⟩
     ·exact .inl ⟨hl,hg,own,K0,by rw[←NU e];exact q,fun v h' z=>⟨(k v h' z).1,B4 hZ l (e.set n o.dst v) (k v h' z).2⟩⟩
     ·exact .inr ⟨hl,x,hy.same fun t _=>(e t).symm,fun z h' => (hf z h').same fun t _=>(e t).symm,fun z h' hl=>(hee z h' hl).same fun t _=>(e t).symm,B4 hZ l (e.set n o.dst x) q⟩
def DL(P:Program)(ops:Array Oper)(i:Nat):Bool:=match ops[i]? with|some o=>vc P false o.op&&vc P true o.op|none=>false
theorem RP{i:Nat}{o:Oper}{x:AV}{fr:Fr}{h:aa}(ho:ops[i]?=some o)(hf:DL P ops i=true)(hy:YA P ops h o x fr)(h':aa):YA P ops h' o x fr:=by
 unfold DL at hf;rw[ho]at hf;simp only[NO]at hf;rcases hy with⟨w,own,q⟩|r
 ·refine .inl ⟨w,own,wS ?_ q⟩;cases own
  ·exact hf.1
  ·exact hf.2
 ·exact .inr r
theorem Lh{Z:Fr→aa→Prop}{r:List Nat}{h:aa}:∀(l:List Nat) (fr:Fr),(∀i∈l,i<ops.size∧Lo i=false∧Ee i=false∧(Fe i=true→DL P ops i=true))→lM P ops n h (fun fr=>jZ P ops n Lo Fe Ee Ge B Z r fr h) (jT ops l) fr→jZ P ops n Lo Fe Ee Ge B Z (l++r) fr h
 | [],fr,_,q=>q
 | i:: l,fr,hl,q=>by
   obtain⟨h1,h2,h3,h4⟩:=hl i (by simp);have ho:ops[i]?=some ops[i]:=UP h1;rw[oy ho]at q;obtain⟨x,hy,q⟩:=q;simp only[abg,jZ,ho];exact .inr ⟨h2,x,hy,fun z h' => RP ho (h4 z) hy h',fun (z:Ee i=true)=>(by rw[h3]at z;cases z),Lh l _ (fun j hj=>hl j (by simp[hj])) q⟩
theorem lQ{K:Fr→aa→Prop}:∀(l:List (Nat×Nat×Bool)) (fr:Fr) (h:aa),(∀p∈l,(∀o,ops[p.1]?=some o→o.guard=none)∧(Lo p.1=(match p.2.1 with|0=>false|1=>false|3=>false|_=>true))∧(Fe p.1=true→p.2.1=0)∧(Ee p.1=true→p.2.1=3)∧(Ge p.1=true→p.2.1=4∨(p.2.1≠4∧∃o,ops[p.1]?=some o∧A2 o.op=true))) →
 rG P ops n l fr h K→jZ P ops n Lo Fe Ee Ge (fun _=>True) K (l.map (·.1)) fr h
 | [],fr,h,_,q=>q
 | (i,k,own):: l,fr,h,hk,q=>by
  obtain⟨hg,hlo,hfe,hee,hge⟩:=hk (i,k,own) (by simp);dsimp only at hg hlo hfe hee hge;have hk':=fun p (hp:p∈l)=>hk p (by simp[hp]);simp only[rG]at q;simp only[GO,jZ];cases ho:ops[i]? with
  | none=>rw[ho]at q;exact q.elim
  | some o =>
    rw[ho]at q;simp only at q ⊢;have hw:∀fr,gG ops o fr=some true:=fun fr=>by unfold gG;rw[hg o ho]
    split at q
    ·obtain⟨x,q1,q2⟩:=ue q;refine .inr ⟨hlo,x,.inl ⟨hw fr,own,by simpa using q1 h⟩,fun _ h' => .inl ⟨hw fr,own,by simpa using q1 h'⟩,fun (z:Ee i=true)=>(by have:=hee z;cases this),lQ l _ h hk' q2⟩
    ·obtain⟨x,q1,q2⟩:=ri q;refine .inr ⟨hlo,x,.inl ⟨hw fr,own,q1⟩,fun (z:Fe i=true)=>(by have:=hfe z;cases this),fun (z:Ee i=true)=>(by have:=hee z;cases this),lQ l _ h hk' q2⟩
    ·obtain⟨x,q1,q2⟩:=vp (B:=fun _=>True) (own:=own) (fun _ _ _ _ _ _=>trivial) q;refine .inr ⟨hlo,x,.inl ⟨hw fr,own,q1 h (fA.refl _)⟩,fun (z:Fe i=true)=>(by have:=hfe z;cases this),fun _ h' hl=>.inl ⟨hw fr,own,q1 h' hl⟩,lQ l _ h hk' q2⟩
    ·obtain⟨hgr,q⟩:=aZ q;exact .inl ⟨hlo,hg o ho,own,_,G2 hgr q,fun v h' k=>⟨fun _=>k.1,lQ l _ h' hk' k.2⟩⟩
    ·rename_i h0 h1 h3 h4;have hlo:Lo i=true:=by
      rw[hlo];split
      ·exact absurd rfl h0
      ·exact absurd rfl h1
      ·exact absurd rfl h3
      ·rfl
     cases hex:A2 o.op with
     | true=>exact .inl ⟨hlo,hg o ho,own,_,vT hex q,fun v h' k=>⟨fun _=>by obtain⟨⟨e,rfl⟩,_⟩:=k;exact fA.ext _ _,lQ l _ h' hk' k.2⟩⟩
     | false =>
       have hge:Ge i=true→False:=fun z=>by
        rcases hge z with z|⟨_,o2,z1,z2⟩
        ·exact absurd z h4
        ·rw[ho]at z1;cases z1;rw[hex]at z2;cases z2
       exact .inl ⟨hlo,hg o ho,own,_,q,fun v h' k=>⟨fun z=>(hge z).elim,lQ l _ h' hk' k⟩⟩
theorem w6{Z Z':Fr→aa→Prop}(hZ:∀f h,Z f h→Z' f h):∀(l:List Nat) {f:Fr} {h:aa},jZ P ops n Lo Fe Ee Ge B Z l f h→jZ P ops n Lo Fe Ee Ge B Z' l f h
 | [],f,h,q=>hZ _ _ q
 | i:: l,f,h,q=>by
   simp only[jZ]at q ⊢;cases ho:ops[i]? with
   | none=>rw[ho]at q;exact q.elim
   | some o =>
     rw[ho]at q;simp only at q ⊢;rcases q with⟨hl,hg,own,K0,q,k⟩|⟨hl,x,hy,hf,hee,q⟩
     ·exact .inl ⟨hl,hg,own,K0,q,fun v h' z=>⟨(k v h' z).1,w6 hZ l (k v h' z).2⟩⟩
     ·exact .inr ⟨hl,x,hy,hf,hee,w6 hZ l q⟩
theorem tE{m:Nat}{Z:Fr→aa→Prop}{Q':Exit→St→Prop}(hZ:∀fr h,Z fr h→∃f2,nW fr f2∧Q' .normal ⟨n,f2,h⟩):∀(fuel:Nat) (listed:Array Bool) (base:Nat) (ι:List Ix) (S:ba) (a:Act) (w:World) (fr:Fr) (h:aa),
 m≤h.length→bX base ι S a w ⟨n,fr,h⟩→tB P ops n Lo Ge B Z fuel listed fr h→wpAny P .any ops (dv m base ι S w Q') fuel listed a w
 | 0,listed,base,ι,S,a,w,fr,h,hm,hr,q=>by
   rw[q.1];obtain⟨f2,e,k⟩:=hZ fr h q.2;exact⟨sW,ι,S,⟨n,f2,h⟩,bS.refl _ _ _ _ _,hm,⟨hr.df,hr.sz,fun u=>by rw[←e u];exact hr.fr u,hr.hp⟩,k⟩
 | fuel+1,listed,base,ι,S,a,w,fr,h,hm,hr,q=>by
   have hm':m≤ι.length:=by rw[hr.hp.len];exact hm
   refine⟨fun e=>absurd e q.1,fun i hi=>?_⟩;rcases q.2 i hi with⟨_,k⟩|⟨_,k⟩
   ·refine FO (m:=m) hm' hr (fun ι' S' a' w' fr' h' hl hE hr' k=>?_) k;have:=tE (m:=m) (Q':=Q') hZ fuel (listed.setIfInBounds i true) base ι' S' a' w' fr' h' (by omega) hr' k;exact dR (fun e a w z=>dv.trans hE z) _ _ _ _ this
   ·refine Ac (m:=m) hm' hr (fun ι' S' a' w' fr' hE hr' k=>?_) k;have:=tE (m:=m) (Q':=Q') hZ fuel (listed.setIfInBounds i true) base ι' S' a' w' fr' h hm hr' k;exact dR (fun e a w z=>dv.trans hE z) _ _ _ _ this
end
def wY(l:List cW):List Nat:=(l.map cW.ix).flatten
def HV(l:List cW)(s:List (Nat×Nat×Bool))(j:Nat):Bool:=match (wY l).contains j with|true=>false|false=>kJ s j
def Hw(P:Program)(ops:Array Oper)(l:List cW)(s:List (Nat×Nat×Bool))(j:Nat):Bool:=match (wY l).contains j with|true=>DL P ops j|false=>sU s j
def Hu(l:List cW)(s:List (Nat×Nat×Bool))(j:Nat):Bool:=match (wY l).contains j with|true=>false|false=>sT s j
def KZ(ops:Array Oper)(l:List cW)(s:List (Nat×Nat×Bool))(j:Nat):Bool:=match (wY l).contains j with|true=>false|false=>sX ops s j
def Ho(P:Program)(ops:Array Oper)(n:Nat)(l:List cW)(s:List (Nat×Nat×Bool)):Bool:=
 P.follows .mixedOrders&&l.all (lI ops)&&l.all (rL ops n)&&(wY l).all (fun i=>decide (i<ops.size))&&s.all (fun p=>!(wY l).contains p.1&&(match ops[p.1]? with|some o=>o.guard.isNone|none=>false)&&Nat.beq (jE s p.1) p.2.1) &&
  decide ((wY l++s.map (·.1)).length=ops.size)&&FD ops (HV l s) (Hw P ops l s) (Hu l s) (KZ ops l s) (wY l++s.map (·.1)) (Array.replicate ops.size false)
def Hp(P:Program)(ops:Array Oper)(l:List cW)(s:List (Nat×Nat×Bool))(Q:Exit→St→Prop)(st:St):Prop:=
 cM (Ho P ops st.n l s) (pQ P ops st.n st.h l st.fr fun fr=>rG P ops st.n s fr st.h fun fr h=>Q .normal ⟨st.n,fr,h⟩)
theorem GU{l:List cW}{s:List (Nat×Nat×Bool)}(hm:m≤st.h.length)(hq:Hp P ops l s Q st):AW P m (.region id ops true) Q st:=by
 intro base ι S a w _ hr;obtain⟨hok,hq⟩:=aZ hq;simp only[Ho,NO,Of]at hok;obtain⟨⟨⟨⟨⟨⟨k1,k2⟩,k3⟩,k4⟩,k5⟩,k6⟩,k7⟩:=hok;obtain⟨hE,hr'⟩:=hr.drew;refine wp_region_any k1 (dR (fun e a w z=>dv.trans (hE.mono (by rw[hr.hp.len];exact hm) (bY _)) z) _ _ _ _ ?_);have down0:Down ops (Array.replicate ops.size false):=fun i o ho hl=>by
  have hlt:=(AS.1 ho).1;simp[hlt]at hl
 obtain⟨n,fr0,h0⟩:=st;dsimp only at hq hm hr hr' k3
 let Z:Fr→aa→Prop:=fun fr h=>∃f2,nW fr f2∧Q .normal ⟨n,f2,h⟩
 have hZ:∀f f' h,nW f f'→Z f h→Z f' h:=fun f f' h e ⟨f2,e2,q⟩=>⟨f2,fun t=>by rw[←e t];exact e2 t,q⟩;have hk:∀p∈s,(∀o,ops[p.1]?=some o→o.guard=none)∧(HV l s p.1=(match p.2.1 with|0=>false|1=>false|3=>false|_=>true))∧(Hw P ops l s p.1=true→p.2.1=0)∧(Hu l s p.1=true→p.2.1=3)∧(KZ ops l s p.1=true→p.2.1=4∨(p.2.1≠4∧∃o,ops[p.1]?=some o∧A2 o.op=true)):=by
  intro p hp;have:=At.1 k5 p hp;simp only[NO]at this;obtain⟨⟨c1,c2⟩,c3⟩:=this;have c1:(wY l).contains p.1=false:=by simpa using c1
  have c3:=lE c3;refine⟨fun o ho=>?_, ?_, ?_, ?_, ?_⟩
  ·rw[ho]at c2;simpa using c2
  ·unfold HV;rw[c1];show kJ s p.1=_;unfold kJ;rw[c3];rfl
  ·unfold Hw;rw[c1];show sU s p.1=true→_;unfold sU;rw[c3];intro z;split at z
   ·rename_i e;exact e
   ·cases z
  ·unfold Hu;rw[c1];show sT s p.1=true→_;unfold sT;rw[c3];intro z;split at z
   ·rename_i e;exact e
   ·cases z
  ·unfold KZ;rw[c1];show sX ops s p.1=true→_;unfold sX;rw[c3];intro z;split at z
   ·rename_i e;exact .inl e
   ·rename_i e;split at z
    ·rename_i o ho;exact .inr ⟨by rw[e];decide,o,ho,z⟩
    ·cases z
   ·cases z
 have q2:kL P ops n h0 l fr0 (fun fr=>jZ P ops n (HV l s) (Hw P ops l s) (Hu l s) (KZ ops l s) (fun _=>True) Z (s.map (·.1)) fr h0):=
  AU l fr0 _ _ (fun fr hfr=>w6 (fun f h z=>⟨f,fun _=>rfl,z⟩) _ (lQ s fr h0 hk hfr)) (rq _ _ _ hq)
 have q3:=ti (fun f f' e z=>B4 hZ _ e z) l fr0 k2 k3 q2;have q4:jZ P ops n (HV l s) (Hw P ops l s) (Hu l s) (KZ ops l s) (fun _=>True) Z (wY l++s.map (·.1)) fr0 h0:=Lh _ _ (fun i hi=>by
  have c:(wY l).contains i=true:=by simpa using hi
  refine⟨oN (At.1 k4 i hi), ?_, ?_, ?_⟩
  ·unfold HV;rw[c]
  ·unfold Hu;rw[c]
  ·unfold Hw;rw[c];exact fun z=>z) q3
 have q5:=rE _ _ _ _ down0 k7 q4;rw[k6]at q5;exact tE (m:=m) (Q':=Q) (fun fr h z=>z) ops.size _ base ι S a _ fr0 h0 hm hr' q5
def qF(d:Nat)(x:AV):Bool:=match x with|.op id _=>!Nat.beq id d|_=>true
def vD(d:Nat)(x:AV):Bool:=match x with|.own id _ _ _=>Nat.beq id d|_=>true
def xo(d:Nat)(x:AV):Bool:=match x with|.op id _=>Nat.beq id d|_=>false
def EV(d:Nat)(ev:Operand→AV)(op:Op):Bool:=match op with
 | .store _ x _=>xo d (ev x)
 | .call c=>(match c.callee,c.args.toList with|.builtin .append,[x,_]=>vD d (ev x)|_,_=>false)
 | _=>false
def JH(P:Program)(d:Nat)(ev:Operand→AV)(h:aa)(op:Op)(K:AV→Prop):Prop:=match op with
 | .load t x=>cM (qF d (ev x)) (cM (fT P t) (ak (fx P t) (P.cellsOf t) (ev x) h K))
 | _=>False
theorem Lf{d:Nat}{op:Op}{K:AV→Prop}(q:JH P d ev h op K):∃x,(∀h',fA (·≠d) h h'→bE P own ev h' op fun v h2=>v=x∧h2=h')∧K x:=by
 unfold JH at q;split at q
 ·rename_i t x;obtain⟨hb,q⟩:=aZ q;refine vp (B:=(·≠d)) (own:=own) (fun t' x' id o e1 e2=>?_) (op:=.load t x) (by unfold Fa;exact q);cases e1;unfold qF at hb;rw[e2]at hb;intro e;subst e;simp at hb
 ·exact q.elim
omit [Laid] in
theorem JZ{d sz:Nat}{x v:AV}{K:aa→Prop}(hx:xo d x=true)(q:ao sz x v h K):ao sz x v h fun h' => fA (·≠d) h h'∧K h':=by
 cases x<;>simp only[ao]at q⊢<;> first|exact q.elim|skip
 rename_i id o;cases e:h[id]? with
 | none=>rw[e]at q;exact q.elim
 | some en =>
   rw[e]at q;cases en with
   | ah b=>exact⟨q.1,fA.VU (fun z=>z (lE hx)),q.2⟩
   | tok=>exact q.elim
   | dead=>exact q.elim
   | mp=>exact q.elim
   | it=>exact q.elim
theorem M8{d:Nat}{op:Op}(hg:EV d ev op=true)(q:bE P own ev h op K):bE P own ev h op fun v h' => fA (·≠d) h h'∧K v h':=by
 unfold EV at hg;split at hg
 ·simp only[bE]at q ⊢;obtain⟨hr,q⟩:=aZ q;rw[hr];exact JZ hg q
 ·rename_i c;split at hg
  ·rename_i x y hc ha;have hno:∀id o l s,ev x=.own id o l s→¬id≠d:=fun id o l s e=>by
    unfold vD at hg;rw[e]at hg;have:=lE hg;omega
   simp only[bE,hc]at q ⊢;split at q
   ·rename_i t tx x' y' hat hxy;rw[ha]at hxy;simp only[List.cons.injEq,and_true]at hxy;obtain⟨rfl,rfl⟩:=hxy;cases h1:P.underlying t with
    | none=>rw[h1]at q;exact q.elim
    | some d =>
      cases h2:P.underlying tx with
      | none=>rw[h1,h2]at q;cases d<;>exact q.elim
      | some d2 =>
        rw[h1,h2]at q;cases d<;>cases d2<;>simp only at q⊢<;> first|exact q.elim|(obtain⟨hr,q⟩:=aZ q;rw[hr];exact wI hno q)
   ·exact q.elim
  ·cases hg
 ·cases hg
def sM(P:Program)(ops:Array Oper)(n d:Nat):List (Nat×Nat×Bool)→Fr→aa→(Fr→aa→Prop)→Prop
 | [],fr,h,K=>K fr h
 | (i,k,own):: r,fr,h,K=>match ops[i]? with
  | none=>False
  | some o=>(match k with
    | 0=>Ht P own (aG fr) [] o.op fun v=>sM P ops n d r (bN n fr o.dst v) h K
    | 1=>ED P own (aG fr) h o.op fun v=>sM P ops n d r (bN n fr o.dst v) h K
    | 3=>JH P d (aG fr) h o.op fun v=>sM P ops n d r (bN n fr o.dst v) h K
    | 4=>cM (EV d (aG fr) o.op) (bE P own (aG fr) h o.op fun v h' => sM P ops n d r (bN n fr o.dst v) h' K)
    | _=>bE P own (aG fr) h o.op fun v h' => sM P ops n d r (bN n fr o.dst v) h' K)
def Hn(P:Program)(ops:Array Oper)(l:List (Nat×Nat×Bool))(Q:Exit→St→Prop)(st:St):Prop:=
 cM (xG P ops l) (∃d:Nat,sM P ops st.n d l st.fr st.h fun fr h=>Q .normal ⟨st.n,fr,h⟩)
theorem lP{P:Program}{ops:Array Oper}{n d:Nat}{K:Fr→aa→Prop}{L:List (Nat×Nat×Bool)}(hg:∀(i:Nat) (o:Oper),ops[i]?=some o→o.guard=none):∀(l:List (Nat×Nat×Bool)) (fr:Fr) (h:aa),(∀p∈l,jE L p.1=p.2.1)→sM P ops n d l fr h K→jZ P ops n (kJ L) (sU L) (sT L) (sX ops L) (·≠d) K (l.map (·.1)) fr h
 | [],fr,h,_,q=>q
 | (i,k,own):: l,fr,h,hk,q=>by
  have hk0:jE L i=k:=hk (i,k,own) (by simp);have hk':∀p∈l,jE L p.1=p.2.1:=fun p hp=>hk p (by simp[hp]);simp only[sM]at q;simp only[GO,jZ];cases ho:ops[i]? with
  | none=>rw[ho]at q;exact q.elim
  | some o =>
    rw[ho]at q;simp only at q ⊢;have hw:∀fr,gG ops o fr=some true:=fun fr=>by unfold gG;rw[hg i o ho]
    split at q
    ·obtain⟨x,q1,q2⟩:=ue q;refine .inr ⟨by simp[kJ,hk0],x,.inl ⟨hw fr,own,by simpa using q1 h⟩,fun _ h' => .inl ⟨hw fr,own,by simpa using q1 h'⟩,fun z=>by simp[sT,hk0]at z,lP hg l _ h hk' q2⟩
    ·obtain⟨x,q1,q2⟩:=ri q;refine .inr ⟨by simp[kJ,hk0],x,.inl ⟨hw fr,own,q1⟩,fun z=>by simp[sU,hk0]at z,fun z=>by simp[sT,hk0]at z,lP hg l _ h hk' q2⟩
    ·obtain⟨x,q1,q2⟩:=Lf (own:=own) q;refine .inr ⟨by simp[kJ,hk0],x,.inl ⟨hw fr,own,q1 h (fA.refl _)⟩,fun z=>by simp[sU,hk0]at z,fun _ h' hl=>.inl ⟨hw fr,own,q1 h' hl⟩,lP hg l _ h hk' q2⟩
    ·obtain⟨hgr,q⟩:=aZ q;exact .inl ⟨by simp[kJ,hk0],hg i o ho,own,_,M8 hgr q,fun v h' k=>⟨fun _=>k.1,lP hg l _ h' hk' k.2⟩⟩
    ·rename_i h0 h1 h3 h4;have hlo:kJ L i=true:=by
      unfold kJ;rw[hk0];split
      ·exact absurd rfl h0
      ·exact absurd rfl h1
      ·exact absurd rfl h3
      ·rfl
     cases hex:A2 o.op with
     | true=>exact .inl ⟨hlo,hg i o ho,own,_,vT hex q,fun v h' k=>⟨fun _=>by obtain⟨⟨e,rfl⟩,_⟩:=k;exact fA.ext _ _,lP hg l _ h' hk' k.2⟩⟩
     | false =>
       have hge:sX ops L i=true→False:=fun z=>by
        unfold sX at z;rw[hk0]at z;split at z
        ·exact absurd rfl h4
        ·rw[ho]at z;simp[hex]at z
        ·exact absurd z (by simp)
       exact .inl ⟨hlo,hg i o ho,own,_,q,fun v h' k=>⟨fun z=>(hge z).elim,lP hg l _ h' hk' k⟩⟩
theorem GS{l:List (Nat×Nat×Bool)}(hm:m≤st.h.length)(hq:Hn P ops l Q st):AW P m (.region id ops true) Q st:=by
 intro base ι S a w _ hr;obtain⟨hok,hq⟩:=aZ hq;simp only[xG,NO,Of]at hok;obtain⟨⟨⟨⟨k1,k2⟩,k3⟩,k4⟩,k5⟩:=hok;obtain⟨hE,hr'⟩:=hr.drew;refine wp_region_any k1 (dR (fun e a w z=>dv.trans (hE.mono (by rw[hr.hp.len];exact hm) (bY _)) z) _ _ _ _ ?_);have down0:Down ops (Array.replicate ops.size false):=fun i o ho hl=>by
  have hlt:=(AS.1 ho).1;simp[hlt]at hl
 have hg:∀(i:Nat) (o:Oper),ops[i]?=some o→o.guard=none:=fun i o ho=>by
  have:=Array.all_eq_true_iff_forall_mem.1 k2 o (Array.mem_of_getElem? ho);simpa using this
 have hk:∀p∈l,jE l p.1=p.2.1:=fun p hp=>lE (At.1 k4 p hp);obtain⟨d,hq⟩:=hq;have q2:=lP hg l st.fr st.h hk hq;have q3:=rE _ _ _ _ down0 k5 q2;rw[aaC,k3]at q3;obtain⟨n,fr,h⟩:=st;exact oa (m:=m) (Q':=Q) (fun fr h z=>z) ops.size _ base ι S a _ fr h hm hr' q3
/-! ### Jumps back to a label -/
def DM(l:Nat)(J:St→Prop)(Q:Exit→St→Prop):Exit→St→Prop
 | .goto l',st=>cM (Nat.beq l' l) (J st)
 | e,st=>Q e st
def E1(h:aa)(first:(List AV→aa→Prop)→Prop)(body:(List AV→aa→Prop)→List AV→aa→Prop):Prop:=
 ∃(α:Type) (I:α→Prop) (f:α→List AV) (g:α→aa) (μ:α→Nat),first (fun s' h' => ∃y,I y∧Wk h.length s' h' (f y) (g y)) ∧
  ∀x,I x→body (fun s' h' => ∃y,I y∧Wk h.length s' h' (f y) (g y)∧μ y<μ x) (f x) (g x)
theorem HH{α:Type}(I:α→Prop)(f:α→List AV)(g:α→aa)(μ:α→Nat){first:(List AV→aa→Prop)→Prop}{body:(List AV→aa→Prop)→List AV→aa→Prop}(h0:first (fun s' h' => ∃y,I y∧Wk h.length s' h' (f y) (g y)))
 (step:∀x,I x→body (fun s' h' => ∃y,I y∧Wk h.length s' h' (f y) (g y)∧μ y<μ x) (f x) (g x)):E1 h first body:=⟨α,I,f,g,μ,h0,step⟩
def lX(P:Program):Nat→Code→An→(Exit→St→Prop)→St→Prop
 | 0,_,_,_,_=>False
 | n+1,c,t,Q,st=>match c with
   | .skip=>Q .normal st
   | .ret=>Q .ret st
   | .exit id=>Q (.exit id) st
   | .label _=>Q .normal st
   | .goto l=>Q (.goto l) st
   | .seq a b=>(match t with
     | .join cs ms _ _=>aw (fun J=>lX P n a t.l (iO (fun st' => cM (Nat.beq st'.n st.n) (jmp cs ms st.fr st'.fr st'.h J)) Q) st) fun s h=>lX P n b t.r Q ⟨st.n,join cs ms st.fr s,h⟩
     | _=>lX P n a t.l (iO (fun st=>lX P n b t.r Q st) Q) st)
   | .block id c=>lX P n c t.l (AG id Q) st
   | .cond c a b=>(match c with
     | .tmp x=>ag (bA st.fr x) (lX P n a t.l Q ⟨st.n,eU st.fr x (.v (.bool true)),st.h⟩) (lX P n b t.r Q ⟨st.n,eU st.fr x (.v (.bool false)),st.h⟩)
     | c=>ag (aG st.fr c) (lX P n a t.l Q st) (lX P n b t.r Q st))
   | .region id ops draw=>(match draw with
     | false=>mQ P (.region id ops false) t Q st
     | true=>(match t with
       | .two (.draw _ l _ _) (.jQ s)=>Hp P ops l s Q st
       | .two (.jQ s) .nil=>Hn P ops s Q st
       | _=>mQ P (.region id ops true) t Q st))
   | .loop c=>(match t with
     | .loop cs ms a=>bL (dV st.fr ms) st.h fun next s h=>lX P n c a (iO (fun st' => cM (Nat.beq st'.n st.n) (jmp cs ms st.fr st'.fr st'.h next)) Q) ⟨st.n,join cs ms st.fr s,h⟩
     | _=>False)
   | .scope c=>(match t.l.j,t.r.j with
     | some ([l],_),some (cs,ms)=>(match findLabel c l with
       | some rest=>E1 st.h (fun N=>lX P n c t.r.l (DM l (fun st' => cM (Nat.beq st'.n st.n) (jmp cs ms st.fr st'.fr st'.h N)) Q) st)
        fun N s h=>lX P n rest t.r.r (DM l (fun st' => cM (Nat.beq st'.n st.n) (jmp cs ms st.fr st'.fr st'.h N)) Q) ⟨st.n,join cs ms st.fr s,h⟩
       | none=>False)
     | _,_=>False)
   | _=>False
theorem PN{m l:Nat}{c rest:Code}{cs ms:List Nat}(hm:m≤st.h.length)(hl:findLabel c l=some rest)(first:(List AV→aa→Prop)→Prop)(body:(List AV→aa→Prop)→List AV→aa→Prop)
 (hf:∀next,first next→AW P st.h.length c (DM l (fun st' => cM (Nat.beq st'.n st.n) (jmp cs ms st.fr st'.fr st'.h next)) Q) st)
 (hb:∀next s h,st.h.length≤h.length→body next s h→AW P st.h.length rest (DM l (fun st' => cM (Nat.beq st'.n st.n) (jmp cs ms st.fr st'.fr st'.h next)) Q) ⟨st.n,join cs ms st.fr s,h⟩)
 (hs:E1 st.h first body):AW P m (.scope c) Q st:=by
 obtain⟨α,I,f,g,μ,h0,round⟩:=hs;intro base ι S a w _ hr
 let Inv:α→Act→World→Prop:=fun x a' w' => I x∧∃ι' S',bS st.h.length base ι S w ι' S' w'∧st.h.length≤(g x).length∧bX base ι' S' a' w' ⟨st.n,join cs ms st.fr (f x),g x⟩∧dC ι' S' w' (jS cs st.fr) a'.tmps
 have enter:∀{x:α} {a':Act} {w':World} {ι1:List Ix} {S1:ba} {s:List AV} {h':aa},bS st.h.length base ι S w ι1 S1 w'→a'.defers=[]→a'.tmps.size=st.n→cL base ι1 S1 w' h'→dC ι1 S1 w' (jS cs st.fr) a'.tmps→aE ι1 S1 w' s (ms.map fun t=>a'.tmps.getD t undef) →
  I x→Wk st.h.length s h' (f x) (g x)→Inv x a' w':=by
  intro x a' w' ι1 S1 s h' hE hdf hsz hp hc hs hI hw;obtain⟨hw1,hw2,hw3⟩:=hw;obtain⟨ι2,S2,hE2,hs2,hp2⟩:=hw3 base ι1 S1 w' _ hs hp;have hc2:dC ι2 S2 w' (jS cs st.fr) a'.tmps:=by
   intro t;have hbd:Bd st.h.length (bA (jS cs st.fr) t):=by
    rcases nr cs st.fr t with q|⟨_,q⟩
    ·rw[q];simp[Bd]
    ·rw[q];exact au.bd (by rw[hr.hp.len];exact bY _) _ _ (hr.fr t)
   exact au.gW hE2 _ _ hbd (hc t)
  exact⟨hI,ι2,S2,hE.trans hE2,hw1,⟨hdf,hsz,dC.mW ms _ _ 0 hc2 fun i t e=>by rw[aaQ];exact hs2.nx (by rw[iN,e];rfl),hp2⟩,hc2⟩
 refine DI l (fun k a' w' => ∃x,μ x=k∧Inv x a' w') hl ?_ ?_
 ·refine wp_mono (hf _ h0 base ι S a w (bY _) hr) ?_;intro e a'' w'' k;obtain⟨ι'',S'',st'',h1,h2,h3,h4⟩:=k;have out:Q e st''→dv m base ι S w Q e a'' w'':=fun q=>⟨ι'',S'',st'',h1.mono hm (bY _),aaT hm h2,h3,q⟩;cases e with
  | goto l' =>
    obtain⟨hll,h4⟩:=aZ h4;obtain⟨hn,q⟩:=aZ h4;obtain⟨e1,y,hy,hw⟩:=rk q;have hn:st''.n=st.n:=lE hn;exact⟨lE hll,_,y,rfl,enter h1 h3.df (by rw[←hn];exact h3.sz) h3.hp (h3.fr.fB e1) (aE.sy h3.fr ms) hy hw⟩
  | normal=>exact out h4
  | exit id=>exact out h4
  | ret=>exact out h4
  | panic ch=>exact out h4
  | outgrown=>exact out h4
 ·rintro k a' w' ⟨x,rfl,hx,ι',S',hE,hm',hr',_⟩;refine wp_mono (hb _ _ _ hm' (round x hx) base ι' S' a' w' hm' hr') ?_;intro e a'' w'' k;obtain⟨ι'',S'',st'',h1,h2,h3,h4⟩:=k;have out:Q e st''→dv m base ι S w Q e a'' w'':=fun q=>⟨ι'',S'',st'',(hE.trans h1).mono hm (bY _),aaT hm h2,h3,q⟩;cases e with
  | goto l' =>
    obtain⟨hll,h4⟩:=aZ h4;obtain⟨hn,q⟩:=aZ h4;obtain⟨e1,y,hy,hw,hlt⟩:=rk q;have hn:st''.n=st.n:=lE hn;exact⟨lE hll,_,hlt,y,rfl,enter (hE.trans h1) h3.df (by rw[←hn];exact h3.sz) h3.hp (h3.fr.fB e1) (aE.sy h3.fr ms) hy hw⟩
  | normal=>exact out h4
  | exit id=>exact out h4
  | ret=>exact out h4
  | panic ch=>exact out h4
  | outgrown=>exact out h4
theorem Dr{P:Program}:∀(n:Nat) (c:Code) (t:An) (Q:Exit→St→Prop) (st:St) (m:Nat),m≤st.h.length→lX P n c t Q st→AW P m c Q st
 | 0,_,_,_,_,_,_,h=>h.elim
 | n+1,c,t,Q,st,m,hm,h=>by
   have ih:=Dr (P:=P) n;cases c with
   | skip=>exact GY h
   | ret=>exact Kd h
   | exit id=>exact GW h
   | label l=>exact D8 h
   | goto l=>exact GX h
   | seq a b =>
     simp only[lX]at h;split at h
     ·rename_i cs ms a' b';refine Am (AW.DQ (ih a _ _ st m hm h) fun e st' hm' k=>?_);cases e with
      | normal =>
        obtain⟨hn,q⟩:=aZ k;obtain⟨e1,k⟩:=rk q;have hn:st'.n=st.n:=lE hn;intro base ι S ac w _ hr;exact ih b _ Q ⟨st.n,join cs ms st.fr (dV st'.fr ms),st'.h⟩ m hm' k base ι S ac w hm' ⟨hr.df,by rw[←hn];exact hr.sz,hr.fr.join e1,hr.hp⟩
      | _=>exact k
     ·refine Am (AW.DQ (ih a _ _ st m hm h) fun e st' hm' k=>?_);cases e with
      | normal=>exact ih b _ Q _ m hm' k
      | _=>exact k
   | block id c=>exact D6 (ih c t.l _ st m hm h)
   | cond c a b =>
     intro base ι S ac w hm' hr;simp only[lX]at h;have other:∀{x:AV},au ι S w x (ac.eval c)→ag x (lX P n a t.l Q st) (lX P n b t.r Q st)→(Code.cond c a b).wp P (dv m base ι S w Q) ac w:=by
      rintro x rx ⟨b',rfl,h1,h2⟩;rw[cz]at rx;cases b' with
      | true=>exact wp_cond_true rx (ih a t.l Q st m hm (h1 rfl) base ι S ac w hm hr)
      | false=>exact wp_cond_false rx (ih b t.r Q st m hm (h2 rfl) base ι S ac w hm hr)
     split at h
     ·rename_i x;have rv:=hr.get x;obtain⟨b',e,h1,h2⟩:=h;rw[e]at rv;have he:ac.eval (.tmp x)=.bool b':=by rw[cz]at rv;exact rv
      cases b' with
      | true=>exact wp_cond_true he (ih a t.l Q ⟨st.n,eU st.fr x (.v (.bool true)),st.h⟩ m hm (h1 rfl) base ι S ac w hm ⟨hr.df,hr.sz,dC.Dl hr.fr rv,hr.hp⟩)
      | false=>exact wp_cond_false he (ih b t.r Q ⟨st.n,eU st.fr x (.v (.bool false)),st.h⟩ m hm (h2 rfl) base ι S ac w hm ⟨hr.df,hr.sz,dC.Dl hr.fr rv,hr.hp⟩)
     ·exact other (hr.eval _) h
   | region id ops draw =>
     cases draw with
     | false=>exact gf _ t Q st m hm h
     | true =>
       simp only[lX]at h;split at h
       ·exact GU hm h
       ·exact GS hm h
       ·exact gf _ t Q st m hm h
   | loop c =>
     simp only[lX]at h;split at h
     ·rename_i cs ms a;exact D7 (cs:=cs) (ms:=ms) hm _ (fun next s h' hl k=>ih c a _ _ st.h.length hl k) h
     ·exact h.elim
   | scope c =>
     simp only[lX]at h;split at h
     ·rename_i l x cs ms _ _;split at h
      ·rename_i rest hl;exact PN (cs:=cs) (ms:=ms) hm hl _ _ (fun next k=>ih c _ _ _ st.h.length (bY _) k) (fun next s h' hle k=>ih rest _ _ _ st.h.length hle k) h
      ·exact h.elim
     ·exact h.elim
   | rangeFunc _ _ _ _=>exact h.elim
   | refuse _=>exact h.elim
theorem BF.Tn{c:Code}{n:Nat}{rs:List ResultVar}{F:Nat}(G:BF P f c n rs)(t:An)(hl:args.length≤n)
 (q:lX P F c t (xD P rs fun r h' => ∃r' h'',Wk h.length [r] h' [r'] h''∧K r' h'') ⟨n,oc args 0,h⟩):bV P f args h K:=by
 obtain⟨fn,hf,hb,hrs,hn,_⟩:=G;subst hrs;intro base ι S w vs h1 h2;have hlen:=h1.length;refine calls_of_wp hf hb (wp_mono (Dr _ _ _ _ _ h.length (bY _) q base ι S _ w (bY _) ⟨rfl,by simp[hn];omega,G3 h1 _,h2⟩) ?_);rintro e a' w' ⟨ι',S',st',hE,hm,hr,hq⟩;have fin:Ad P st' fn.results.toList (fun l=>∃r' h'',Wk h.length [qu l] st'.h [r'] h''∧K r' h'')→a'.defers=[]∧∃v,(results fn a'.tmps).run P w'=.ok v w' ∧
  ∃u ι'' S'' r h',Ending.returned v=.returned u∧bS h.length base ι S w ι'' S'' w'∧au ι'' S'' w' r u∧cL base ι'' S'' w' h'∧h.length≤h'.length∧K r h':=by
  intro hq;obtain⟨l,us,e1,rl,r',h'',⟨wk1,wk2,wk3⟩,k⟩:=pM (P:=P) hr fn.results.toList _ hq;have hv:au ι' S' w' (qu l) (if hh:us.length=1 then us[0] else .tuple us.toArray):=by
   have hl:=rl.length
   match l,us,hl,rl with
   | [],[],_,_=>simp only[qu];rw[au];exact⟨[],rfl,by simp⟩
   | [x],[u],_,rl=>simp at rl;simpa[qu]using rl
   | x:: y:: l,u:: v:: us,_,rl=>simp only[qu];rw[au];exact⟨u:: v:: us,by simp,rl⟩
  obtain⟨ι2,S2,hE2,hs2,hp2⟩:=wk3 base ι' S' w' [_] ((bO _ _ _ _).2 ⟨hv,by simp⟩) hr.hp;refine⟨hr.df,if hh:us.length=1 then us[0] else .tuple us.toArray, ?_,_,ι2,S2,r',h'',rfl,hE.trans hE2,((bO _ _ _ _).1 hs2).1,hp2,wk1,k⟩;rw[Bs,←Array.toArray_toList (xs:=fn.results),List.mapM_toArray];simp only[aa4,Sem.run_map,e1,aa3,aa5]
  by_cases hh:us.length=1<;>simp[hh]
 cases e with
 | normal=>exact fin hq
 | ret=>exact fin hq
 | _=>exact hq.elim
def fv(P:Program)(f:FuncId)(args:List AV)(W:aa→(AV→aa→Prop)→Prop):Prop:=
 ∃F c t n rs,BF P f c n rs∧args.length≤n∧∀h K,lX P F c t (xD P rs K) ⟨n,oc args 0,h⟩=W h K
theorem mkM{fn:Func}(e:P.funcs[f]?=some fn)(t:An)(n:Nat)(rs:List ResultVar)(q:(fn.results.toList,fn.ntmps,dr P f,fn.body.isSome,Nat.ble args.length n)=(rs,n,true,true,true):=by kernel_rfl)(k:∀h K,lX P 1000 (fn.body.getD .skip) t (xD P rs K) ⟨n,oc args 0,h⟩=W h K:=by intro _ _;kernel_rfl):fv P f args W:=by
 simp only[aaK]at q;refine⟨1000,fn.body.getD .skip,t,n,rs,⟨fn,e,?_,q.1,q.2.1,q.2.2.1⟩,lT q.2.2.2.2,k⟩;cases hb:fn.body with
 | none=>rw[hb]at q;cases q.2.2.2.1
 | some c=>rfl
theorem fv.bI(b:fv P f args W)(q:W h fun r h' => ∃r' h'',Wk h.length [r] h' [r'] h''∧K r' h''):bV P f args h K:=
 let ⟨_,_,t,_,_,F,hl,e⟩:=b;F.Tn t hl ((e h _).symm▸q)
theorem fv.bj(b:fv P f args W){r:AV}(pa:aV args)(pr:Pure r)(q:W [] (dK r)):bn P f args r:=
 ⟨pa,pr,b.bI q⟩
end
end Go.Aw
namespace Go.Proofs.YtpcnidmmkknndaaGreatDoor
section
open Go Go.Aw
variable [Laid]
def Xc(x0:AV)(h:aa)(K:AV→aa→Prop):Prop:=
 bu x0 fun H=>qBe .gtr H 1500 fun I=>ag I (K (.aA [qNs,i_ 4]) h) (qO 54 1 24 qNs (i_ 1) (i_ 1) h fun J L=>aW 72 qNs L fun a M=>aW 51 qNs M fun b N=>ao 1 a J N fun O=>ao 1 b qNs O fun P=>bu x0 fun i=>bL [i_ 0] P fun Q e l =>
 ae .lss (nx e 0) i fun R=>ag R (aw (fun n=>aQ 5 x0 (nx e 0) fun S=>ak true 5 S l fun T=>aW 70 (.agg [u8 0,.str [],i_ 0,.str [],ff]) l fun f U=>ao 5 f T U fun c=>ak false 1 b c fun V=>bu V fun d=>qBe .gtr d 0 fun o=>aw (fun p=>ar o true (bp 0 f fun q=>ak false 1 q c fun r=>ak false 1 b c fun s=>qBe .sub d 1 fun t=>aQ 5 s t fun u=>bp 0 u fun v=>ak false 1 v c fun w=>iQ p_ 30 [w] c fun x=>ae .eql r x fun W=>p [q,r,s,d,t,u,v,w,x,W] c) (p [un,un,un,un,un,un,un,un,un,un] c)) fun X _=>aI o (nx X 9) ff fun Y=>ag Y (bz p_ (.fn (.func 29) [] [b,a]) [] c fun f4 Z=>eC [x0,a,b,(.fn (.func 29) [] [b,a]),x0,i,nx e 0] (n [] Z)) (iFL 0 false 1 f c fun a0=>iC p_ 30 [a0] c fun a1 j=>ae .neq a1 (u8 0) fun a2=>ag a2 (qBe .eql d 16 fun a3=>ag a3 (K (.aA [qNs,i_ 20]) j) ((∃d45:Nat,ak false 1 a j fun y=>br 1 1 qNs [(0,1,qNs)] fun a4=>cM (qF d45 b) (ak false 1 b j fun a5=>cM (qF d45 f) (ak true 5 f j fun a6=>br 1 5 (.agg [u8 0,.str [],i_ 0,.str [],ff]) [(0,5,a6)] fun a7=>cM (vD d45 y) (bP true 54 1 24 y a4 j fun a8 a9=>bP true 70 5 56 a5 a7 a9 fun b0 b1=>ao 1 a a8 b1 fun b2=>ao 1 b b0 b2 fun b3=>eC [x0,a,b,(.fn (.func 29) [] [b,a]),x0,i,nx e 0] (n [] b3))))))) (aw (fun z=>aW 4 ff j fun k A=>(ao 1 k tt A fun b4=>ao 1 k ff b4 fun B=>ak false 1 k B fun b5=>eC [x0,a,b,(.fn (.func 29) [] [b,a]),f,d,x0,i,nx e 0] (z [b5] B))∧(ao 1 k ff A fun b6=>ao 1 k tt b6 fun C=>ak false 1 k C fun b7=>eC [x0,a,b,(.fn (.func 29) [] [b,a]),f,d,x0,i,nx e 0] (z [b7] C))) fun b8 g=>ag (nx b8 0) (ak false 1 a g fun D=>aQ 1 D d fun b9=>ak false 1 b9 g fun E=>ak true 5 f g fun c0=>aY (.agg [u8 0,.str [],i_ 0,.str [],ff,qNs]) [(0,5,c0)] fun c1=>ja E fun c2=>br 1 6 (.agg [u8 0,.str [],i_ 0,.str [],ff,qNs]) [(0,6,(.agg [u8 0,.str [],i_ 0,.str [],ff,qNs]))] fun c3=>bP true 74 6 80 E c3 g fun F c4=>aQ 1 D d fun c5=>ao 1 c5 F c4 fun c6=>aQ 6 F c2 fun c7=>ao 6 c7 c1 c6 fun c8=>eC [x0,a,b,(.fn (.func 29) [] [b,a]),x0,i,nx e 0] (n [] c8)) ((∃d81:Nat,cM (qF d81 a) (ak false 1 a g fun c9=>ak false 1 a g fun d0=>aQ 1 d0 d fun d1=>ak false 1 d1 g fun G=>ak true 5 f g fun d2=>aY (.agg [u8 0,.str [],i_ 0,.str [],ff,qNs]) [(0,5,d2)] fun d3=>br 1 6 (.agg [u8 0,.str [],i_ 0,.str [],ff,qNs]) [(0,6,d3)] fun d4=>cM (vD d81 G) (bP true 74 6 80 G d4 g fun d5 d6=>aQ 1 c9 d fun d7=>ao 1 d7 d5 d6 fun d8=>eC [x0,a,b,(.fn (.func 29) [] [b,a]),x0,i,nx e 0] (n [] d8)))))))) fun f5 d9=>qBe .add (nx e 0) 1 fun e0=>eC [x0,a,b,(.fn (.func 29) [] [b,a]),x0,i] (Q [e0] d9)) (bu x0 fun e1=>ak false 1 b l fun e2=>bu e2 fun e3=>ae .add e1 e3 fun e4=>qBe .gtr e4 1500 fun e5=>ag e5 (K (.aA [qNs,i_ 4]) l) (bL [] l fun e6 f6 m =>
 ak false 1 b m fun e7=>bu e7 fun e8=>qBe .gtr e8 0 fun e9=>ag e9 (bz p_ (.fn (.func 29) [] [b,a]) [] m fun f7 f0=>eC [a,b,(.fn (.func 29) [] [b,a])] (e6 [] f0)) (ak false 1 a m fun f1=>aQ 1 f1 (i_ 0) fun f2=>ak false 1 f2 m fun f3=>K (.aA [f3,i_ 0]) m))))
theorem V18(x0:AV):fv p_ 18 [x0] (Xc x0):=mkM Tryz.func18 (sn (sn (sn (sn (.seq (sn (.one (.loop [0,4,5,6,15,16] [17] (sn (sn (.join [0,4,5,6,15,16,17] [] (.one (sn (sn (.one (.seq (.draw 15 (oR 0 3 (.aD 2 true (fR 3 10) [] [51,52,53,54,55,56,57,58,59,60]::oR 13 2 [])) [] []) (.two .nil (sn (.two (sn (.two (.jQ [(0,1,false),(1,0,true),(3,3,false),(4,3,false),(5,0,true),(2,4,true),(6,2,true),(7,2,false),(8,2,false)]) .nil)) (.join [0,4,5,6,8,9,15,16,17] [24] (.Jz (.one 0 2 false (.two (.one 1 2 false (.one 2 2 false (.one 3 1 false .nil))) (.one 2 2 false (.one 1 2 false (.one 3 1 false .nil)))))) (.two (.seq (.draw 8 (oR 0 7 (.op 7 true::[])) (.op 8 true::oR 9 2 []) []) .nil) (.two (.jQ [(0,3,false),(1,0,false),(2,1,false),(3,0,false),(4,0,false),(5,1,false),(6,1,false),(7,0,false),(8,0,true),(9,4,true),(10,0,false),(11,2,false)]) .nil))))))))))) .nil)))))) (sn (.seq (.one (.loop [4,5,6] [] .nil)) .nil))))))) 93 [.tmp 2,.tmp 3]
def Xm(x0 x1:AV)(h:aa)(K:AV→aa→Prop):Prop:=
 ak false 1 x0 h fun n=>bu n fun o=>qBe .sub o 1 fun a=>ak false 1 x0 h fun p=>aQ 5 p a fun q=>ak true 5 q h fun r=>ak false 1 x1 h fun s=>qBe .add a 1 fun t=>aQ 1 s t fun u=>ak false 1 u h fun v=>aY (.agg [u8 0,.str [],i_ 0,.str [],ff,qNs]) [(0,5,r),(5,1,v)] fun w=>(fun (x:aa)=>ao 6 (AV.op (h.length+1+0) 0) w x fun d=>(∃d14:Nat,ak false 1 x1 d fun y=>qBe .add a 1 fun z=>lg 1 y none (some z) fun A=>cM (qF d14 x0) (ak false 1 x0 d fun B=>lg 5 B none (some a) fun C=>cM (xo d14 x1) (ao 1 x1 A d fun D=>ao 1 x0 C D fun E=>aw (fun e=>aW 4 ff E fun c f=>(ao 1 c tt f fun F=>ao 1 c ff F fun g=>ak false 1 c g fun G=>eC [x1,a,(AV.op (h.length+1+0) 0)] (e [G] g))∧(ao 1 c ff f fun H=>ao 1 c tt H fun i=>ak false 1 c i fun I=>eC [x1,a,(AV.op (h.length+1+0) 0)] (e [I] i))) fun J b=>ag (nx J 0) (ak false 1 x1 b fun j=>aQ 1 j a fun L=>ak false 1 L b fun k=>ak true 6 (AV.op (h.length+1+0) 0) b fun M=>ja k fun N=>br 1 6 (.agg [u8 0,.str [],i_ 0,.str [],ff,qNs]) [(0,6,(.agg [u8 0,.str [],i_ 0,.str [],ff,qNs]))] fun O=>bP true 74 6 80 k O b fun l P=>aQ 1 j a fun Q=>ao 1 Q l P fun R=>aQ 6 l N fun S=>ao 6 S M R fun T=>K (.aA []) T) ((∃d45:Nat,cM (qF d45 x1) (ak false 1 x1 b fun U=>ak false 1 x1 b fun V=>aQ 1 V a fun W=>ak false 1 W b fun m=>ak true 6 (AV.op (h.length+1+0) 0) b fun X=>br 1 6 (.agg [u8 0,.str [],i_ 0,.str [],ff,qNs]) [(0,6,X)] fun Y=>cM (vD d45 m) (bP true 74 6 80 m Y b fun Z a0=>aQ 1 U a fun a1=>ao 1 a1 Z a0 fun a2=>K (.aA []) a2)))))))) (h++[.dead]++[.ah ⟨74,[u8 0,.str [],i_ 0,.str [],ff,qNs],true⟩])
theorem V29(x0 x1:AV):fv p_ 29 [x0,x1] (Xm x0 x1):=mkM Tryz.func29 (sn (.seq (.Jy 11 [10] (fR 0 11) [.op 11 false] []) (.seq (.two (.jQ [(0,1,false),(1,0,false),(2,0,false),(3,0,false),(4,3,false),(5,0,false),(6,0,false),(7,4,false),(8,2,false)]) .nil) (.join [1,2,3] [25] (.Jz (.one 0 2 false (.two (.one 1 2 false (.one 2 2 false (.one 3 1 false .nil))) (.one 2 2 false (.one 1 2 false (.one 3 1 false .nil)))))) (.two (.seq (.draw 7 (oR 0 6 (.op 6 true::[])) (.op 7 true::oR 8 2 []) []) .nil) (.two (.jQ [(0,3,false),(1,0,false),(2,1,false),(3,0,false),(4,0,false),(5,1,false),(6,1,false),(7,0,true),(8,4,true),(9,0,false),(10,2,false)]) .nil)))))) 46 []
def Xn(x0:AV)(h:aa)(K:AV→aa→Prop):Prop:=
 ae .eql x0 (u8 2) fun c=>ag c (K (u8 22) h) (aw (fun a=>ae .eql x0 (u8 19) fun d=>ag d (eC [x0] (a [tt] h)) (ae .eql x0 (u8 21) fun e=>ag e (eC [x0] (a [tt] h)) (ae .eql x0 (u8 23) fun f=>eC [x0] (a [f] h)))) fun g b=>ag (nx g 0) (ae .add x0 (u8 1) fun i=>K i b) (K (u8 0) b))
theorem V30(x0:AV):fv p_ 30 [x0] (Xn x0):=mkM Tryz.func30 (sn (.seq (sn (.one (sn (.two .nil (.join [0] [6] .nil .nil))))) .nil)) 12 [.tmp 2]
end
section
open Go Go.Aw Go.Rt Go.RowKit
variable{s:Rt.af}{i:Nat}{q:UInt8→Bool}{p:Int→Bool}{c:UInt8}
theorem oW{p:Nat→Bool}(h:((List.range 256).all p)=true)(c:UInt8):p c.toNat=true:=At.1 h c.toNat (List.mem_range.2 c.toNat_lt)
theorem pK(h:i<s.length):pk s i=((aB s i).toNat:Int):=by
 unfold pk aB;rw[dO h,nE,dO h];rfl
theorem DU(h:¬i<s.length):pk s i=-1:=Ik (by omega)
theorem xA(h:¬i<s.length):aB s i=0:=by unfold aB;rw[nE,iS (by omega)];rfl
theorem jn(h:i<s.length):aB s i=s[i]:=by unfold aB;rw[nE,dO h];rfl
theorem Bn(h1:p (-1)=q 0)(h2:((List.range 256).all fun n=>p (n:Int) == q (UInt8.ofNat n))=true)(s:Rt.af)(i:Nat):p (pk s i)=q (aB s i):=by
 by_cases h:i<s.length
 ·rw[pK h];have:=oW h2 (aB s i);rw[UInt8.ofNat_toNat]at this;exact eq_of_beq this
 ·rw[DU h,xA h];exact h1
theorem LM(s:Rt.af)(i:Nat):fi_ (pk s i)=tQ (aB s i):=Bn (by decide) (by kernel_rfl) s i
theorem LL(s:Rt.af)(i:Nat):T9 (pk s i)=eX (aB s i):=Bn (by decide) (by kernel_rfl) s i
theorem uw(s:Rt.af)(i:Nat):jv (pk s i) 48 57=cn (aB s i):=Bn (p:=fun n=>jv n 48 57) (by decide) (by kernel_rfl) s i
theorem Bp(s:Rt.af)(i:Nat):uA (pk s i)=eY (aB s i):=Bn (by decide) (by kernel_rfl) s i
theorem Bo(hc:c≠0)(s:Rt.af)(i:Nat):(pk s i=(c.toNat:Int))↔aB s i=c:=by
 by_cases h:i<s.length
 ·rw[pK h];exact⟨fun e=>UInt8.toNat_inj.1 (by omega),fun e=>by rw[e]⟩
 ·rw[DU h,xA h];exact⟨fun e=>by omega,fun e=>absurd e.symm hc⟩
theorem jU:(pk s i=-1)↔¬i<s.length:=by
 by_cases h:i<s.length
 ·rw[pK h];exact⟨fun e=>by omega,fun e=>absurd h e⟩
 ·rw[DU h];exact⟨fun _=>h,fun _=>rfl⟩
theorem AX(hc:c≠0)(s:Rt.af)(i:Nat):decide (pk s i=(c.toNat:Int))=decide (aB s i=c):=decide_eq_decide.2 (Bo hc s i)
theorem uf(s:Rt.af)(i:Nat):wQ s i=cC s i:=by
 unfold wQ cC;rw[←AX (c:=92) (by decide),←AX (c:=10) (by decide)];rfl
theorem Bg(s:Rt.af)(i:Nat):vr s i=gM s i:=by
 unfold vr gM;rw[LM,LM,uf,uf];have h1:(pk s i=45)↔aB s i=45:=Bo (c:=45) (by decide) s i;have h2:decide (pk s (i+1)=45)=decide (aB s (i+1)=45):=AX (c:=45) (by decide) s (i+1);rw[h2]
 by_cases h:aB s i=45
 ·rw[if_pos h,if_pos (h1.2 h)]
 ·rw[if_neg h,if_neg (fun e=>h (h1.1 e))]
theorem Uv(s:Rt.af)(i:Nat):FA s i=kD s i:=by
 unfold FA kD;have h1:(pk s i=43)↔aB s i=43:=Bo (c:=43) (by decide) s i;have h2:(pk s i=45)↔aB s i=45:=Bo (c:=45) (by decide) s i;have e1:i+(if pk s i=43∨pk s i=45 then 1 else 0)=(if aB s i=43∨aB s i=45 then i+1 else i):=by
  by_cases h:aB s i=43∨aB s i=45
  ·rw[if_pos h,if_pos (by rw[h1,h2];exact h)]
  ·rw[if_neg h,if_neg (by rw[h1,h2];exact h)];rfl
 simp only[];rw[e1];obtain⟨j,hj⟩:∃j,(if aB s i=43∨aB s i=45 then i+1 else i)=j:=⟨_,rfl⟩;rw[hj];have h3:(pk s j=46)↔aB s j=46:=Bo (c:=46) (by decide) s j
 by_cases h:aB s j=46
 ·rw[if_pos h,if_pos (h3.2 h),←uw]
  congr 2
  rw[←Nat.add_assoc,e1,hj]
 ·rw[if_neg h,if_neg (fun e=>h (h3.1 e)),←uw,e1,hj]
theorem Ir(h2:((List.range 256).all fun n=>p (n:Int) == q (UInt8.ofNat n))=true)(s:Rt.af)(i:Nat):mX p s i=((s.drop i).takeWhile q).length:=by
 unfold mX;have:(fun b:UInt8=>p (b.toNat:Int))=q:=by
  funext b
  have:=oW h2 b;rw[UInt8.ofNat_toNat]at this;exact eq_of_beq this
 rw[this]
theorem Co(s:Rt.af)(i:Nat):i+mX (fun n=>jv n 48 57) s i=gL s i:=by unfold gL;rw[Ir (q:=cn) (by kernel_rfl)]
theorem It(s:Rt.af)(i:Nat):i+mX uA s i=eO s i:=by unfold eO;rw[Ir (q:=eY) (by kernel_rfl)]
end
section
open Go Go.Aw Go.RowKit
def Gb(n:Nat)(x:AV)(h:aa)(l:af):Prop:=(l=[]∧x=.v (.slice none 0 0))∨∃tid,n≤tid∧x=.sb tid 1 (zt l)∧h[tid]?=some (.tok 5 1 l.length)
theorem Gb.fB{n:Nat}{x:AV}{h h':aa}{l:af}(g:Gb n x h l)(k:∀i e,n≤i→h[i]?=some (.tok 5 1 e)→h'[i]?=h[i]?):Gb n x h' l:=by
 rcases g with g|⟨t,h1,h2,h3⟩
 ·exact .inl g
 ·exact .inr ⟨t,h1,h2,by rw[k t _ h1 h3];exact h3⟩
theorem Ay{len sz:Nat}{z:AV}{ps:List (Nat×Nat×AV)}{cs:List AV}{K:AV→Prop}(e:dQ (gQ len (bl z)) ps=some cs)(q:K (.sl sz (chunks sz len cs))):br len sz z ps K:=by
 unfold br;rw[e];exact q
theorem qe{n:Nat}{x y:AV}{h:aa}{l m:af}(g:Gb n x h l)(hn:n≤h.length)(hl:l.length+m.length≤2^40)(ey:y=.sl 1 (zt m)){K:AV→aa→Prop}
 (k:∀x' h',Gb n x' h' (l++m)→h.length≤h'.length→(∀i,i<n→h'[i]?=h[i]?)→K x' h'):bP false 5 1 1 x y h K:=by
 subst ey;rcases g with⟨rfl,rfl⟩|⟨t,h1,rfl,h3⟩
 ·unfold bP eE;rw[fP];refine⟨G5 _,⟨by unfold maxLen;simp at hl ⊢;omega,by simp at hl ⊢;omega⟩, ?_⟩;refine k _ _ (.inr ⟨h.length,hn,by simp,by simp⟩) (by simp) fun i hi=>?_;rw[gO (by omega)]
 ·have ht:=(eQ.1 h3).1;refine xa (rows:=zt m) (k:=l.length) rfl h3 (by simp) fP (G5 _) ⟨by unfold maxLen;simp;omega,by simp;omega⟩ rfl ?_;refine k _ _ (.inr ⟨t,h1,by simp, ?_⟩) (by simp) fun i hi=>?_
  ·rw[iD ht];simp
  ·rw[iF (by omega)]
theorem ER{n:Nat}{x:AV}{h:aa}{l:af}{K:AV→Prop}(g:Gb n x h l)(q:K (.str l)):cJ x h K:=by
 rcases g with⟨rfl,rfl⟩|⟨t,h1,rfl,h3⟩
 ·exact q
 ·exact Tm rfl q
def iU(n:Nat):af:=if n<128 then [UInt8.ofNat n] else if n<2048 then [UInt8.ofNat (192+n/64),UInt8.ofNat (128+n%64)] else if (55296≤n∧n≤57343)∨1114111<n then Rt.lG else if n<65536 then [UInt8.ofNat (224+n/4096),UInt8.ofNat (128+n/64%64),UInt8.ofNat (128+n%64)] else [UInt8.ofNat (240+n/262144),UInt8.ofNat (128+n/4096%64),UInt8.ofNat (128+n/64%64),UInt8.ofNat (128+n%64)]
theorem Ow(n:Nat):iU (if n=0 then 65533 else n)=Rt.sx n:=by
 by_cases h0:n=0
 ·subst h0;rfl
 ·rw[if_neg h0];unfold iU Rt.sx
  by_cases h1:n<128
  ·simp only[if_pos h1,if_neg (show ¬(n=0∨(55296≤n∧n≤57343)∨1114111<n) by omega)]
  ·by_cases h2:n<2048
   ·simp only[if_neg h1,if_pos h2,if_neg (show ¬(n=0∨(55296≤n∧n≤57343)∨1114111<n) by omega)]
   ·by_cases h3:(55296≤n∧n≤57343)∨1114111<n
    ·simp only[if_neg h1,if_neg h2,if_pos h3,if_pos (show n=0∨(55296≤n∧n≤57343)∨1114111<n from .inr h3)]
    ·simp only[if_neg h1,if_neg h2,if_neg h3,if_neg (show ¬(n=0∨(55296≤n∧n≤57343)∨1114111<n) by rintro (e|e);exact h0 e;exact h3 e)]
theorem cP{k:(List AV→aa→Prop)→Prop}{f:List AV→aa→Prop}(P:List AV→aa→Prop)(q:∀s h,P s h→f s h)(hk:∀F:List AV→aa→Prop,(∀s h,P s h→F s h)→k F):aw k f:=hk f q
theorem rh(m:Nat):di .or .u8 128 (di .and .u8 (IntKind.u8.wrap (m:Int)) 63)=((128+m%64:Nat):Int):=by
 have key:∀c:Fin 256,di .or .u8 128 (di .and .u8 ((c.val:Nat):Int) 63)=((128+c.val%64:Nat):Int):=by decide +kernel
 have e:IntKind.u8.wrap (m:Int)=((m%256:Nat):Int):=by rw[IntKind.wrap_u8];omega
 rw[e];have:=key ⟨m%256,Nat.mod_lt _ (by decide)⟩;rw[this];show ((128+m%256%64:Nat):Int)=_;rw[Nat.mod_mod_of_dvd _ (by decide)]
theorem Zr{m:Nat}(h:m<32):di .or .u8 192 (IntKind.u8.wrap (m:Int))=((192+m:Nat):Int):=by
 have key:∀c:Fin 32,di .or .u8 192 (IntKind.u8.wrap ((c.val:Nat):Int))=((192+c.val:Nat):Int):=by decide +kernel
 exact key ⟨m,h⟩
theorem Zs{m:Nat}(h:m<16):di .or .u8 224 (IntKind.u8.wrap (m:Int))=((224+m:Nat):Int):=by
 have key:∀c:Fin 16,di .or .u8 224 (IntKind.u8.wrap ((c.val:Nat):Int))=((224+c.val:Nat):Int):=by decide +kernel
 exact key ⟨m,h⟩
theorem Zt{m:Nat}(h:m<8):di .or .u8 240 (IntKind.u8.wrap (m:Int))=((240+m:Nat):Int):=by
 have key:∀c:Fin 8,di .or .u8 240 (IntKind.u8.wrap ((c.val:Nat):Int))=((240+c.val:Nat):Int):=by decide +kernel
 exact key ⟨m,h⟩
theorem zn{m:Nat}(h:m<256):((UInt8.ofNat m).toNat:Int)=(m:Int):=by rw[UInt8.toNat_ofNat'];omega
theorem pG{k:IntKind}{x y:AV}{a b:Int}{K:AV→Prop}(ex:x=.v (.int k a))(ey:y=.v (.int k b))(q:K (.v (.int k (di .or k a b)))):ae .or x y K:=by
 subst ex;subst ey;refine⟨rfl, ?_⟩;exact q
theorem tT{k:IntKind}{x y:AV}{a b:Int}{K:AV→Prop}(ex:x=.v (.int k a))(ey:y=.v (.int k b))(q:K (.v (.int k (di .and k a b)))):ae .and x y K:=by
 subst ex;subst ey;refine⟨rfl, ?_⟩;exact q
theorem yn{k k':IntKind}{x y:AV}{a b c:Int}{K:AV→Prop}(ex:x=.v (.int k a))(ey:y=.v (.int k' b))(h0:0≤b)(hc:a.fdiv (2^(min b.toNat k.bits))=c)(q:K (.v (.int k c))):ae .shr x y K:=by
 subst ex;subst ey;subst hc;unfold ae;simp only[lv,if_true];exact⟨h0,q⟩
theorem VF{k k':IntKind}{x y:AV}{a b c:Int}{K:AV→Prop}(ex:x=.v (.int k a))(ey:y=.v (.int k' b))(h0:0≤b)(hc:k.wrap (a*2^(min b.toNat k.bits))=c)(q:K (.v (.int k c))):ae .shl x y K:=by
 subst ex;subst ey;subst hc;unfold ae;simp only[lv,if_true];exact⟨h0,q⟩
theorem Va(n:Nat):(n:Int).fdiv (2^(min (6:Int).toNat IntKind.i32.bits))=((n/64:Nat):Int):=by
 show (n:Int).fdiv ((64:Nat):Int)=_;exact Int.ofNat_fdiv n 64 |>.symm
theorem U9(n:Nat):(n:Int).fdiv (2^(min (12:Int).toNat IntKind.i32.bits))=((n/4096:Nat):Int):=by
 show (n:Int).fdiv ((4096:Nat):Int)=_;exact Int.ofNat_fdiv n 4096 |>.symm
theorem ZY(n:Nat):(n:Int).fdiv (2^(min (18:Int).toNat IntKind.i32.bits))=((n/262144:Nat):Int):=by
 show (n:Int).fdiv ((262144:Nat):Int)=_;exact Int.ofNat_fdiv n 262144 |>.symm
theorem Vq{n:Nat}(h:n<2^24):IntKind.u32.wrap (n:Int)=(n:Int):=by simp[IntKind.wrap,IntKind.bits,IntKind.signed];omega
abbrev i32(n:Int):AV:=.v (.int .i32 n)
abbrev u32(n:Int):AV:=.v (.int .u32 n)
variable [Laid]
theorem N5{n0:Nat}{x:AV}{h:aa}{l:af}(g:Gb n0 x h l)(hn:n0≤h.length)(hl:l.length≤2^39){n:Nat}(h0:128≤n)(h1:n<2^24){K:AV→aa→Prop}
 (k:∀x' h',Gb n0 x' h' (l++iU n)→h.length≤h'.length→(∀i,i<n0→h'[i]?=h[i]?)→K x' h'):bz p_ (.fn (.func 165) [] []) [x,i32 n] h K:=by
 refine cB (by kernel_rfl) rfl (K0:=fun r h' => Gb n0 r h' (l++iU n)∧h.length≤h'.length∧(∀i,i<n0→h'[i]?=h[i]?)) ?_ (fun r h' ⟨a,b,c⟩=>k r h' a b c);refine (Y5 _ _).bI ?_;unfold SN;have fin:∀(x':AV) (h':aa),Gb n0 x' h' (l++iU n)→h.length≤h'.length→(∀i,i<n0→h'[i]?=h[i]?)→∃r' h'',Wk h.length [x'] h' [r'] h''∧Gb n0 r' h'' (l++iU n)∧h.length≤h''.length∧(∀i,i<n0→h''[i]?=h[i]?):=fun x' h' a b c=>⟨_,_,Wk.refl _ _ _ b,a,b,c⟩;have lost:2048≤n→((55296≤n∧n≤57343)∨1114111<n)→iU n=Rt.lG:=fun a b=>by
  unfold iU;rw[if_neg (by omega),if_neg (by omega),if_pos b]
 refine fk rfl (Vq h1) (zzD ?_)
 by_cases c1:n<2048
 ·have e:iU n=[UInt8.ofNat (192+n/64),UInt8.ofNat (128+n%64)]:=by unfold iU;rw[if_neg (by omega),if_pos c1]
  refine zzL (oF (by omega)) (yn rfl rfl (by decide) (Va n) (fk rfl rfl (pG rfl rfl (fk rfl rfl (tT rfl rfl (pG rfl rfl (Ay rfl ?_)))))));refine qe g hn (m:=iU n) (by rw[e];simp;omega) ?_ fin;rw[e];show AV.sl 1 [[u8 _],[u8 _]]=AV.sl 1 [[bg _],[bg _]];rw[Zr (by omega),rh,bg,bg,zn (by omega),zn (by omega)]
 ·refine zzK (nO (by omega)) ?_;refine cP (fun t H=>H=h∧nx t 0=b_ (decide (n<55296∨(57343<n∧n≤65535)))) (fun t H ht=>?_) fun F hF=>?_
  ·obtain⟨rfl,ht⟩:=ht;rw[ht]
   by_cases c2:n<55296∨(57343<n∧n≤65535)
   ·have e:iU n=[UInt8.ofNat (224+n/4096),UInt8.ofNat (128+n/64%64),UInt8.ofNat (128+n%64)]:=by unfold iU;rw[if_neg (by omega),if_neg c1,if_neg (by omega),if_pos (by omega)]
    refine zzL (oF c2) (yn rfl rfl (by decide) (U9 n) (fk rfl rfl (pG rfl rfl (yn rfl rfl (by decide) (Va n) (fk rfl rfl (tT rfl rfl (pG rfl rfl (fk rfl rfl (tT rfl rfl (pG rfl rfl (Ay rfl ?_)))))))))));refine qe g hn (m:=iU n) (by rw[e];simp;omega) ?_ fin;rw[e];show AV.sl 1 [[u8 _],[u8 _],[u8 _]]=AV.sl 1 [[bg _],[bg _],[bg _]];rw[Zs (by omega),rh,rh,bg,bg,bg,zn (by omega),zn (by omega),zn (by omega)]
   ·refine zzK (nO c2) (zzE ?_);have rest:∀b:Bool,b=decide (65535<n∧n≤1114111)→ag (b_ b) (ae .shr (i32 n) (.v (.int .u64 18)) fun v41=>cy .u8 v41 fun v42=>ae .or (u8 240) v42 fun v43=>ae .shr (i32 n) (.v (.int .u64 12)) fun v44=>cy .u8 v44 fun v45=>ae .and v45 (u8 63) fun v46=>ae .or (u8 128) v46 fun v47=>ae .shr (i32 n) (.v (.int .u64 6)) fun v48=>cy .u8 v48 fun v49=>ae .and v49 (u8 63) fun v50=>ae .or (u8 128) v50 fun v51=>cy .u8 (i32 n) fun v52=>ae .and v52 (u8 63) fun v53=>ae .or (u8 128) v53 fun v54=>br 4 1 (u8 0) [(0,1,v43),(1,1,v47),(2,1,v51),(3,1,v54)] fun v55=>bP false 5 1 1 x v55 H fun v56 g57=>∃r' h'',Wk H.length [v56] g57 [r'] h''∧Gb n0 r' h'' (l++iU n)∧H.length≤h''.length∧(∀i,i<n0→h''[i]?=H[i]?)) (br 3 1 (u8 0) [(0,1,(u8 239)),(1,1,(u8 191)),(2,1,(u8 189))] fun v58=>bP false 5 1 1 x v58 H fun v59 g60=>∃r' h'',Wk H.length [v59] g60 [r'] h''∧Gb n0 r' h'' (l++iU n)∧H.length≤h''.length∧(∀i,i<n0→h''[i]?=H[i]?)):=by
     rintro b rfl
     by_cases c3:65535<n∧n≤1114111
     ·have e:iU n=[UInt8.ofNat (240+n/262144),UInt8.ofNat (128+n/4096%64),UInt8.ofNat (128+n/64%64),UInt8.ofNat (128+n%64)]:=by unfold iU;rw[if_neg (by omega),if_neg c1,if_neg (by omega),if_neg (by omega)]
      refine zzL (oF c3) (yn rfl rfl (by decide) (ZY n) (fk rfl rfl (pG rfl rfl (yn rfl rfl (by decide) (U9 n) (fk rfl rfl (tT rfl rfl (pG rfl rfl (yn rfl rfl (by decide) (Va n) (fk rfl rfl (tT rfl rfl (pG rfl rfl (fk rfl rfl (tT rfl rfl ?_)))))))))))));refine pG rfl rfl (Ay rfl ?_);refine qe g hn (m:=iU n) (by rw[e];simp;omega) ?_ fin;rw[e];show AV.sl 1 [[u8 _],[u8 _],[u8 _],[u8 _]]=AV.sl 1 [[bg _],[bg _],[bg _],[bg _]];rw[Zt (by omega),rh,rh,rh,bg,bg,bg,bg,zn (by omega),zn (by omega),zn (by omega),zn (by omega)]
     ·have e:=lost (by omega) (by omega);refine zzK (nO c3) (Ay rfl ?_);refine qe g hn (m:=iU n) (by rw[e];unfold Rt.lG;simp;omega) ?_ fin;rw[e];rfl
    refine aH ?_
    by_cases c3:65535<n
    ·refine zzN (oF (by omega)) (zzD (aq (zzR ?_)));exact rest _ (by rw[decide_eq_decide];omega)
    ·refine zzM (nO (by omega)) (aq (aO (by rw[nO (by omega)];rfl) ?_));exact rest false (by rw[eq_comm,decide_eq_false_iff_not];omega)
  ·refine zzC ?_
   by_cases c2:n<55296
   ·refine zzL (oF (by omega)) ?_;refine aq (hF _ _ ⟨rfl, ?_⟩);rw[oF (.inl c2)];rfl
   ·refine zzK (nO (by omega)) (zzC (aH ?_))
    by_cases c3:57343<n
    ·refine zzN (oF (by omega)) (zzD (aq (zzR ?_)));refine aq (hF _ _ ⟨rfl, ?_⟩);exact congrArg Aw.b_ (decide_eq_decide.2 (by omega))
    ·refine zzM (nO (by omega)) (aq (aO (by rw[nO (by omega)];rfl) ?_));refine aq (hF _ _ ⟨rfl, ?_⟩);rw[nO (by omega)];rfl
theorem La{n0:Nat}{x:AV}{h:aa}{l:af}(g:Gb n0 x h l)(hn:n0≤h.length)(hl:l.length≤2^39){n:Nat}(h1:n<2^24){K:AV→aa→Prop}
 (k:∀x' h',Gb n0 x' h' (l++iU n)→h.length≤h'.length→(∀i,i<n0→h'[i]?=h[i]?)→K x' h'):bz p_ (.fn (.func 135) [] []) [x,i32 n] h K:=by
 refine cB (by kernel_rfl) rfl (K0:=fun r h' => Gb n0 r h' (l++iU n)∧h.length≤h'.length∧(∀i,i<n0→h'[i]?=h[i]?)) ?_ (fun r h' ⟨a,b,c⟩=>k r h' a b c);refine (YS _ _).bI ?_;unfold SA;refine fk rfl (Vq h1) (zzD ?_)
 by_cases c1:n<128
 ·have e:iU n=[UInt8.ofNat n]:=by unfold iU;rw[if_pos c1]
  refine zzL (oF (by omega)) (fk (m:=(n:Int)) rfl (by rw[IntKind.wrap_u8];omega) (Ay rfl ?_));refine qe g hn (m:=iU n) (by rw[e];simp;omega) ?_ fun x' h' a b c=>⟨_,_,Wk.refl _ _ _ b,a,b,c⟩;rw[e];show AV.sl 1 [[u8 _]]=AV.sl 1 [[bg _]];rw[bg,zn (by omega)]
 ·refine zzK (nO (by omega)) ?_;exact N5 g hn hl (by omega) h1 fun x' h' a b c=>⟨_,_,Wk.refl _ _ _ b,a,b,c⟩
end
section
open Go Go.Aw Go.RowKit
structure Mw(id:Nat)(s:af)(a:Nat)(h H:aa):Prop where
 len:h.length≤H.length
 sc:Sc id H s a
 kq:∀i,i<h.length→i≠id→H[i]?=h[i]?
theorem Mw.mv{id a:Nat}{s:af}{h H:aa}(hid:id<h.length)(m:Mw id s a h H):Mv id s a h H:=by
 refine⟨H.drop h.length,List.ext_getElem? fun i=>?_⟩
 by_cases q:i<h.length
 ·rw[gO (by simpa using q)]
  by_cases q2:i=id
  ·subst q2;rw[iD q];exact m.sc
  ·rw[iF (Ne.symm q2)];exact m.kq i q q2
 ·rw[gT (by simp;omega),aaG]
  congr 1;simp;omega
theorem Mw.refl{id a:Nat}{s:af}{h:aa}(sc:Sc id h s a):Mw id s a h h:=⟨bY _,sc,fun _ _ _=>rfl⟩
theorem Mw.trans{id a b:Nat}{s:af}{h H H2:aa}(x:Mw id s a h H)(y:Mw id s b H H2):Mw id s b h H2:=⟨aaT x.len y.len,y.sc,fun i hi hn=>by rw[y.kq i (Up hi x.len) hn,x.kq i hi hn]⟩
theorem Mw.ext{id a:Nat}{s:af}{h H H2:aa}(x:Mw id s a h H)(hid:id<h.length)(hl:H.length≤H2.length)(k:∀i,i<h.length→H2[i]?=H[i]?):Mw id s a h H2:=⟨aaT x.len hl,by unfold Sc;rw[k id hid];exact x.sc,fun i hi hn=>by rw[k i hi,x.kq i hi hn]⟩
theorem Mw.pre{id a:Nat}{s:af}{h j H:aa}(x:Mw id s a (h++j) H):Mw id s a h H:=⟨aaT (by simp) x.len,x.sc,fun i hi hn=>by rw[x.kq i (by simp;omega) hn,gO hi]⟩
theorem Mw.set{id a:Nat}{s:af}{h H:aa}(x:Mw id s a h H)(b:Nat):Mw id s b h (H.set id (ek s b)):=⟨by simpa using x.len,iD x.sc.lt,fun i hi hn=>by rw[iF (Ne.symm hn),x.kq i hi hn]⟩
theorem Gb.mv{n id b a0:Nat}{s:af}{x:AV}{H:aa}{l:af}(g:Gb n x H l)(hid:id<n)(sc:Sc id H s a0):Gb n x (H.set id (ek s b)) l:=g.fB fun i e hi _=>by rw[iF (by omega)]
theorem jR[Laid]{id:Nat}{H:aa}{s:af}{a:Nat}(sc:Sc id H s a)(ha:a≤2^40){P:Program}{x:AV}(ex:x=.op id 0){K:aa→Prop}(k:K (H.set id (ek s (a+1)))):ca P x fun v1=>bp 1 v1 fun v2=>ak false 1 v2 H fun v3=>ae .add v3 (i_ 1) fun v4=>ca P x fun v5=>bp 1 v5 fun v6=>ao 1 v6 v4 H fun g7=>K g7:=by
 subst ex;refine bx (zzA (zzU sc rfl (zzP (by unfold aJ;omega) (bx (zzA ?_)))));refine aX (cs:=[i_ ((a:Int)+1)]) (h':=H.set id (ek s (a+1))) rfl sc rfl rfl (by simp) rfl rfl ?_ k;show _=List.set H id (.ah ⟨101,[.str s,i_ ((a+1:Nat):Int)],true⟩);rw[show ((a+1:Nat):Int)=(a:Int)+1 by omega];rfl
def BV(n:Int):Int:=if jv n 48 57=true then n-48 else if n≠-1∧jv (di .or .i64 n 32) 97 102=true∧64<n∧n<128 then di .or .i64 n 32-97+10 else -1
theorem UC(s:af)(i:Nat):BV (pk s i)=Rt.iZ (Rt.aB s i):=by
 have h2:((List.range 256).all fun n=>BV (n:Int) == Rt.iZ (UInt8.ofNat n))=true:=by kernel_rfl
 by_cases h:i<s.length
 ·rw[pK h];have:=oW h2 (Rt.aB s i);rw[UInt8.ofNat_toNat]at this;exact eq_of_beq this
 ·rw[DU h,xA h];rfl
theorem TK(c:UInt8):Rt.iZ c<16:=by
 have h2:((List.range 256).all fun n=>decide (Rt.iZ (UInt8.ofNat n)<16))=true:=by kernel_rfl
 have:=oW h2 c;rw[UInt8.ofNat_toNat]at this;exact oN this
variable [Laid]
theorem Nn(n:Int)(h1:-1≤n)(h2:n<256):bn p_ 136 [i_ n] (i_ (BV n)):=by
 refine (YT _).bj (by simp) (by simp) ?_;unfold SB;refine uCon (nG n) ?_;cases c1:jv n 48 57 with
 | true =>
   refine zzL rfl ?_;have:48≤n:=by unfold jv at c1;simp at c1;omega
   refine zze (by unfold aJ;omega) ?_;exact .pure (by simp) (by unfold BV;rw[if_pos c1])
 | false =>
   refine zzK rfl ?_;have hb:∀n:Int,-1≤n→n<256→-1≤di .or .i64 n 32∧di .or .i64 n 32<512:=by
    have key:∀c:Fin 257,-1≤di .or .i64 (((c.val:Nat):Int)-1) 32∧di .or .i64 (((c.val:Nat):Int)-1) 32<512:=by decide +kernel
    intro n h1 h2;have:=key ⟨(n+1).toNat,by omega⟩
    rwa [show (((n+1).toNat:Nat):Int)-1=n by omega]at this
   obtain⟨b1,b2⟩:=hb n h1 h2;refine zzH ?_;refine cP (fun t H=>H=[]∧((nx t 0=ff∧n=-1)∨(nx t 0=tt∧nx t 1=b_ (jv (di .or .i64 n 32) 97 102)∧n≠-1))) (fun t H ht=>?_) fun F hF=>?_;rotate_left
   ·by_cases q:n=-1
    ·refine zzM (by simp[q]) ?_;exact aq (hF _ _ ⟨rfl,.inl ⟨by rw[oF q];rfl,q⟩⟩)
    ·refine zzN (by rw[nO q];rfl) (OV rfl rfl (uCon (pI _ _ _) ?_));exact aq (hF _ _ ⟨rfl,.inr ⟨rfl,rfl,q⟩⟩)
   obtain⟨rfl,ht⟩:=ht;obtain⟨b,hb1,hb2⟩:∃b:Bool,(∀K:AV→Prop,K (b_ b)→aI (nx t 0) (nx t 1) ff K)∧b=decide (n≠-1∧jv (di .or .i64 n 32) 97 102=true):=by
    rcases ht with⟨h1,h2⟩|⟨h1,h2,h3⟩
    ·exact⟨false,fun K q=>aO h1 q,by simp[h2]⟩
    ·exact⟨jv (di .or .i64 n 32) 97 102,fun K q=>aM h1 (by rw[h2];exact q),by simp[h3]⟩
   refine hb1 _ ?_;refine cP (fun t H=>H=[]∧((nx t 0=ff∧b=false)∨(nx t 0=tt∧nx t 1=Aw.b_ (decide (64<n))∧b=true))) (fun t H ht=>?_) fun F hF=>?_;rotate_left
   ·cases hbb:b with
    | false=>exact zzM rfl (aq (hF _ _ ⟨rfl,.inl ⟨rfl,hbb⟩⟩))
    | true =>
      refine zzN rfl (zzE ?_);exact aq (hF _ _ ⟨rfl,.inr ⟨rfl,rfl,hbb⟩⟩)
   obtain⟨rfl,ht⟩:=ht;obtain⟨c,hc1,hc2⟩:∃c:Bool,(∀K:AV→Prop,K (b_ c)→aI (nx t 0) (nx t 1) ff K)∧c=(b&&decide (64<n)):=by
    rcases ht with⟨h1,h2⟩|⟨h1,h2,h3⟩
    ·exact⟨false,fun K q=>aO h1 q,by simp[h2]⟩
    ·exact⟨decide (64<n),fun K q=>aM h1 (by rw[h2];exact q),by simp[h3]⟩
   refine hc1 _ ?_;refine cP (fun t H=>H=[]∧((nx t 0=ff∧c=false)∨(nx t 0=tt∧nx t 1=Aw.b_ (decide (n<128))∧c=true))) (fun t H ht=>?_) fun F hF=>?_;rotate_left
   ·cases hcc:c with
    | false=>exact zzM rfl (aq (hF _ _ ⟨rfl,.inl ⟨rfl,hcc⟩⟩))
    | true =>
      refine zzN rfl (zzC ?_);exact aq (hF _ _ ⟨rfl,.inr ⟨rfl,rfl,hcc⟩⟩)
   obtain⟨rfl,ht⟩:=ht;obtain⟨d,hd1,hd2⟩:∃d:Bool,(∀K:AV→Prop,K (b_ d)→aI (nx t 0) (nx t 1) ff K)∧d=(c&&decide (n<128)):=by
    rcases ht with⟨h1,h2⟩|⟨h1,h2,h3⟩
    ·exact⟨false,fun K q=>aO h1 q,by simp[h2]⟩
    ·exact⟨decide (n<128),fun K q=>aM h1 (by rw[h2];exact q),by simp[h3]⟩
   refine hd1 _ ?_;have e:d=decide (n≠-1∧jv (di .or .i64 n 32) 97 102=true∧64<n∧n<128):=by
    rw[hd2,hc2,hb2,Bool.eq_iff_iff];simp only[NO,Of,and_assoc]
   by_cases q:n≠-1∧jv (di .or .i64 n 32) 97 102=true∧64<n∧n<128
   ·refine zzL (by rw[e];exact oF q) (OV rfl rfl (zze (by unfold aJ;omega) (zzP (by unfold aJ;omega) ?_)));exact .pure (by simp) (by unfold BV;rw[if_neg (by rw[c1];decide),if_pos q])
   ·refine zzK (by rw[e];exact nO q) ?_;exact .pure (by simp) (by unfold BV;rw[if_neg (by rw[c1];decide),if_neg q])
theorem Mu{s:af}{i:Nat}{H:aa}{K:AV→aa→Prop}(q:K (i_ (Rt.iZ (Rt.aB s i))) H):bz p_ (.fn (.func 136) [] []) [i_ (pk s i)] H K:=by
 refine uCon (Nn _ (V3 s i) (V5 s i)) ?_;rw[UC];exact q
end
section
open Go Go.Aw Go.RowKit
theorem HC(s:af):∀k i n,(Rt.kA s k i n).2≤i+k
 | 0,i,n=>bY _
 | k+1,i,n=>by
   rw[Rt.kA];split
   ·split
    ·have:=HC s k (i+1) (16*n+(Rt.iZ ‹_›).toNat);omega
    ·simp
   ·simp
theorem Tu{n d:Nat}(hn:n<2^28)(hd:d<16):di .or .i64 ((16*n:Nat):Int) (d:Int)=((16*n+d:Nat):Int):=by
 have e1:(BitVec.ofInt 64 ((16*n:Nat):Int)).toNat=16*n:=by rw[BitVec.toNat_ofInt];omega
 have e2:(BitVec.ofInt 64 ((d:Nat):Int)).toNat=d:=by rw[BitVec.toNat_ofInt];omega
 have e3:(16*n) ||| d=16*n+d:=by
  have:=Nat.shiftLeft_add_eq_or_of_lt (i:=4) (b:=d) (by omega) n;rw[Nat.shiftLeft_eq]at this;rw[Nat.mul_comm 16 n];exact this.symm
 show IntKind.i64.wrap ((BitVec.ofInt 64 ((16*n:Nat):Int) ||| BitVec.ofInt 64 ((d:Nat):Int)).toNat:Int)=_;rw[BitVec.toNat_or,e1,e2,e3,IntKind.wrap_i64];omega
theorem lr{s:af}{a:Nat}(ha:a<s.length):(Rt.cU s a).2≤s.length:=by
 unfold Rt.cU;split
 ·omega
 ·rename_i c hc;have hlt:=(eQ.1 hc).1;split
  ·dsimp only;omega
  ·have key:∀k i n,i≤s.length→(Rt.kA s k i n).2≤s.length:=by
    intro k;induction k with
    | zero=>intro i n hi;exact hi
    | succ k ih =>
      intro i n hi;rw[Rt.kA];split
      ·rename_i c2 hc2;have:=(eQ.1 hc2).1;split
       ·exact ih _ _ (by omega)
       ·exact hi
      ·exact hi
   have h6:=key 6 (a+1) 0 (by omega);dsimp only;split
   ·rename_i hs;have:(Rt.kA s 6 (a+1) 0).2<s.length:=by
     by_cases z:(Rt.kA s 6 (a+1) 0).2<s.length
     ·exact z
     ·rw[xA z]at hs;exact absurd hs (by decide)
    omega
   ·exact h6
theorem pf(s:af):∀n i,s.length-i≤n→i≤s.length→i≤(Rt.cY s i).2∧(Rt.cY s i).2≤s.length:=by
 intro n;induction n with
 | zero =>
   intro i hi h2;rw[Rt.cY,dif_neg (by omega)];exact⟨bY _,h2⟩
 | succ n ih =>
   intro i hi h2;rw[Rt.cY];split
   ·rename_i h;split
    ·have:=ih (i+1) (by omega) h;dsimp only;omega
    ·split
     ·have h1:=Rt.gd s i;have:=ih (Rt.cU s i).2 (by omega) (lr h);dsimp only;omega
     ·exact⟨bY _,h2⟩
   ·exact⟨bY _,h2⟩
variable [Laid]
theorem tc{id a:Nat}{h H:aa}{s l:af}{x y:AV}{K:AV→aa→Prop}(m:Mw id s a h H)(hid:id<h.length)(ey:y=.op id 0)(g:Gb h.length x H l)(hs:s.length≤2^20)(hl:l.length≤2^30)(ha:a<s.length)
 (k:∀z H',Mw id s (Rt.cU s a).2 h H'→Gb h.length z H' (l++(Rt.cU s a).1)→K z H'):bz p_ (.fn (.func 96) [] []) [y,x] H K:=by
 subst ey;refine cB (by kernel_rfl) rfl (K0:=fun r H' => Mw id s (Rt.cU s a).2 h H'∧Gb h.length r H' (l++(Rt.cU s a).1)) ?_ (fun r h' ⟨a,b⟩=>k r h' a b);refine (V96 _ _).bI ?_;unfold Yh;have hH:=m.len;have fin:∀(z:AV) (H':aa),H.length≤H'.length→Mw id s (Rt.cU s a).2 h H'→Gb h.length z H' (l++(Rt.cU s a).1)→∃r' h'',Wk H.length [z] H' [r'] h''∧Mw id s (Rt.cU s a).2 h h''∧Gb h.length r' h'' (l++(Rt.cU s a).1):=fun z H' c a b=>⟨_,_,Wk.refl _ _ _ c,a,b⟩;refine jR m.sc (by omega) rfl ?_;have m1:=m.set (a+1);have g1:=g.mv (s:=s) (b:=a+1) hid m.sc;refine dx 0 m1.sc rfl rfl (by omega) ?_;rw[Nat.add_zero];refine zzG ?_;have hL1:h.length≤(H.set id (ek s (a+1))).length:=by simpa using hH
 by_cases q:a+1<s.length
 ·have e1:s[a+1]?=some s[a+1]:=dO q;have hat:=jn q;refine zzK (nO (by rw[jU];simpa using q)) (Mu (zzC ?_))
  by_cases q2:Rt.iZ s[a+1]<0
  ·have ee:Rt.cU s a=([s[a+1]],a+2):=by unfold Rt.cU;rw[e1];simp only[if_pos q2]
   refine zzL (by rw[hat];exact oF q2) (jR m1.sc (by omega) rfl ?_);rw[aaM];refine fk (m:=(s[a+1].toNat:Int)) rfl (by rw[pK q,hat,IntKind.wrap_u8];have:=s[a+1].toNat_lt;omega) (Gf ?_);refine qe (n:=h.length) (l:=l) (m:=[s[a+1]]) (g.mv (s:=s) (b:=a+1+1) hid m.sc) (by simpa using hH) (by simp;omega) rfl fun z H' gz hz oz=>?_;refine fin z H' (by simpa using hz) ?_ (by rw[ee];exact gz);rw[ee];exact (m.set (a+2)).ext hid hz oz
  ·obtain⟨R,hR⟩:∃R,Rt.kA s 6 (a+1) 0=R:=⟨_,rfl⟩;have ee:Rt.cU s a=(Rt.sx R.1,if Rt.eY (Rt.aB s R.2)=true then R.2+1 else R.2):=by unfold Rt.cU;rw[e1];simp only[if_neg q2,hR]
   have hRl:R.2≤a+7:=by rw[←hR];have:=HC s 6 (a+1) 0;omega
   refine zzK (by rw[hat];exact nO q2) ?_;refine cP (fun t T=>nx t 0=i_ R.1∧T=H.set id (ek s R.2)∧R.1<16^6) (fun t T ht=>?_) fun F hF=>?_
   ·obtain⟨ht,rfl,hb⟩:=ht;have m2:=m.set R.2;refine cP (fun _ T=>T=H.set id (ek s (Rt.cU s a).2)) (fun _ T hT=>?_) fun F hF=>?_
    ·subst hT;rw[ht];refine cP (fun t T=>nx t 0=i_ ((if R.1=0 then 65533 else R.1:Nat):Int)∧T=H.set id (ek s (Rt.cU s a).2)) (fun t T hT=>?_) fun F hF=>?_
     ·obtain⟨ht2,rfl⟩:=hT;rw[ht2];have hb2:(if R.1=0 then 65533 else R.1)<2^24:=by split<;>omega
      refine fk (m:=((if R.1=0 then 65533 else R.1:Nat):Int)) rfl (by simp[IntKind.wrap,IntKind.bits,IntKind.signed];split<;>omega) ?_;refine La (n0:=h.length) (g.mv (s:=s) (b:=(Rt.cU s a).2) hid m.sc) (by simpa using hH) (by omega) hb2 fun z H' gz hz oz=>?_;refine fin z H' (by simpa using hz) ((m.set _).ext hid hz oz) ?_;rw[Ow]at gz;rw[show (Rt.cU s a).1=Rt.sx R.1 by rw[ee]];exact gz
     ·refine zzG ?_
      by_cases z:R.1=0
      ·refine zzL (oF (by omega)) ?_;exact aq (hF _ _ ⟨by rw[if_pos z];rfl,rfl⟩)
      ·refine zzK (nO (by omega)) ?_;exact aq (hF _ _ ⟨by rw[if_neg z];rfl,rfl⟩)
    ·refine dx 0 m2.sc rfl rfl (by omega) ?_;rw[Nat.add_zero];refine uCon (sQ _) ?_;rw[Bp];cases z:Rt.eY (Rt.aB s R.2) with
     | true =>
       refine zzL rfl (jR m2.sc (by omega) rfl ?_);refine aq (hF _ _ ?_);rw[aaM,ee];simp only[z,if_true]
     | false =>
       refine zzK rfl ?_;refine aq (hF _ _ ?_);rw[ee];simp only[z,aaJ,if_false]
   ·refine bc (α:=Nat×Nat) (fun p=>p.1≤6∧p.2<16^p.1∧Rt.kA s (6-p.1) (a+1+p.1) p.2=R) (fun p=>[i_ p.2,i_ p.1]) (fun p=>H.set id (ek s (a+1+p.1))) (fun p=>6-p.1) (0,0) ⟨by omega,by decide,hR⟩ (Wk.refl _ _ _ (by simp)) ?_;rintro⟨j,n⟩ ⟨hj,hn,hr⟩;dsimp only at hj hn hr ⊢;have m2:=m.set (a+1+j);have hn28:n<2^28:=Up hn (aaT (Nat.pow_le_pow_right (by decide) hj) (by decide));have hn6:n<16^6:=Up hn (Nat.pow_le_pow_right (by decide) hj);refine zzC ?_
    by_cases c:j<6
    ·refine zzL (oF (by omega)) (dx 0 m2.sc rfl rfl (by omega) ?_);rw[Nat.add_zero];refine Mu (zzC ?_);have e6:6-j=(5-j)+1:=by omega
     rw[e6,Rt.kA]at hr;have stop:Rt.iZ (Rt.aB s (a+1+j))<0→R=(n,a+1+j):=fun z=>by
      cases z2:s[a+1+j]? with
      | none=>rw[z2]at hr;exact hr.symm
      | some c =>
        rw[z2]at hr;have:Rt.aB s (a+1+j)=c:=by unfold Rt.aB;rw[nE,z2];rfl
        rw[this]at z;simp only[if_neg (show ¬0≤Rt.iZ c by omega)]at hr;exact hr.symm
     by_cases z:Rt.iZ (Rt.aB s (a+1+j))<0
     ·refine zzL (oF z) ?_;obtain rfl:=stop z;exact aq (hF _ _ ⟨rfl,rfl,hn6⟩)
     ·refine zzK (nO z) ?_;obtain⟨d,hd⟩:∃d:Nat,Rt.iZ (Rt.aB s (a+1+j))=(d:Int):=⟨(Rt.iZ (Rt.aB s (a+1+j))).toNat,by omega⟩;have hd16:d<16:=by have:=TK (Rt.aB s (a+1+j));omega
      rw[hd];have hnx:Rt.kA s (5-j) (a+1+(j+1)) (16*n+d)=R:=by
       cases z2:s[a+1+j]? with
       | none =>
         exfalso;have:Rt.aB s (a+1+j)=0:=by unfold Rt.aB;rw[nE,z2];rfl
         rw[this]at hd;have:Rt.iZ 0=-1:=by decide
         omega
       | some c =>
         rw[z2]at hr;have:Rt.aB s (a+1+j)=c:=by unfold Rt.aB;rw[nE,z2];rfl
         rw[this]at hd;simp only[if_pos (show 0≤Rt.iZ c by omega)]at hr;rw[hd]at hr;exact hr
      refine VF (c:=((16*n:Nat):Int)) rfl rfl (by decide) ?_ ?_
      ·show IntKind.i64.wrap ((n:Int)*16)=_;rw[IntKind.wrap_i64];omega
      refine pG rfl rfl ?_;rw[Tu hn28 hd16];refine jR m2.sc (by omega) rfl ?_;rw[aaM];refine zzP (by unfold aJ;omega) ?_;refine aq ⟨(j+1,16*n+d),⟨c, ?_, ?_⟩,Wk.refl _ _ _ (by simp),by dsimp only;omega⟩
      ·dsimp only;rw[Nat.pow_succ];omega
      ·dsimp only;rw[show 6-(j+1)=5-j by omega];exact hnx
    ·refine zzK (nO (by omega)) ?_;obtain rfl:j=6:=by omega
     rw[show 6-6=0 from rfl,Rt.kA]at hr;subst hr;exact aq (hF _ _ ⟨rfl,rfl,hn6⟩)
 ·have ee:Rt.cU s a=(Rt.lG,a+1):=by unfold Rt.cU;rw[iS (by omega)]
  refine zzL (oF (by rw[jU];exact q)) ?_;refine La (n0:=h.length) (n:=65533) g1 (by simpa using hH) (by omega) (by decide) fun z H' gz hz oz=>?_;refine fin z H' (by simpa using hz) ?_ (by rw[ee];exact gz);rw[ee];exact m1.ext hid hz oz
theorem xP{id a:Nat}{h:aa}{s:af}{y:AV}{K:AV→aa→Prop}(sc:Sc id h s a)(ey:y=.op id 0)(hs:s.length≤2^20)(ha:a≤s.length)
 (k:∀H,Mw id s (Rt.cY s a).2 h H→K (.str (Rt.cY s a).1) H):bz p_ (.fn (.func 68) [] []) [y] h K:=by
 subst ey;have hid:=sc.lt;refine cB (by kernel_rfl) rfl (K0:=fun r H=>r=.str (Rt.cY s a).1∧Mw id s (Rt.cY s a).2 h H) ?_ (by rintro r H ⟨rfl,m⟩;exact k H m);refine (V68 _).bI ?_;unfold XU;obtain⟨R,hR⟩:∃R,Rt.cY s a=R:=⟨_,rfl⟩;rw[hR];refine bc (α:=Nat×AV×aa×af) (fun p=>p.1≤s.length∧Mw id s p.1 h p.2.2.1∧Gb h.length p.2.1 p.2.2.1 p.2.2.2∧p.2.2.2.length≤4*p.1∧(p.2.2.2++(Rt.cY s p.1).1,(Rt.cY s p.1).2)=R) (fun p=>[p.2.1]) (fun p=>p.2.2.1) (fun p=>s.length-p.1) (a,.v (.slice none 0 0),h,[]) ⟨ha,Mw.refl sc,.inl ⟨rfl,rfl⟩,by simp,by simpa using hR⟩ (Wk.refl _ _ _ (bY _)) ?_;rintro⟨i,x,H,l⟩ ⟨hi,m,g,hl,hr⟩;dsimp only at hi m g hl hr ⊢;have hH:=m.len;refine dx 0 m.sc rfl rfl (by omega) ?_;rw[Nat.add_zero];refine uCon (AL _) ?_;show ag (b_ (T9 (pk s i))) _ _;rw[LL];rw[Rt.cY]at hr;cases c:Rt.eX (Rt.aB s i) with
 | true =>
   have hlt:i<s.length:=by
    by_cases z:i<s.length
    ·exact z
    ·rw[xA z]at c;exact absurd c (by decide)
   have hat:=jn hlt;rw[hat]at c;simp only[dif_pos hlt,if_pos c]at hr;refine zzL rfl (fk (m:=(s[i].toNat:Int)) rfl (by rw[pK hlt,hat,IntKind.wrap_u8];have:=s[i].toNat_lt;omega) (Gf ?_));refine qe (n:=h.length) (l:=l) (m:=[s[i]]) g hH (by simp;omega) rfl fun z H' gz hz oz=>?_;have m2:=m.ext hid hz oz;refine jR m2.sc (by omega) rfl ?_;refine aq ⟨(i+1,z,H'.set id (ek s (i+1)),l++[s[i]]),⟨hlt,m2.set _,gz.mv hid m2.sc,by simp;omega,by rw[To];exact hr⟩,Wk.refl _ _ _ (by simpa using m2.len),by dsimp only;omega⟩
 | false =>
   refine zzK rfl (zzH ?_);refine cP (fun t T=>T=H∧((nx t 0=ff∧¬i<s.length)∨(nx t 0=tt∧nx t 1=b_ (Rt.cC s i)∧i<s.length))) (fun t T ht=>?_) fun F hF=>?_
   ·obtain⟨rfl,ht⟩:=ht;have hend:(¬i<s.length∨Rt.cC s i=false)→R=(l,i):=fun z=>by
     by_cases z1:i<s.length
     ·have z2:=z.resolve_left (by simpa using z1);rw[jn z1]at c;simp only[dif_pos z1,c,z2,aaJ,if_false]at hr;rw[←hr];simp
     ·simp only[dif_neg z1]at hr;rw[←hr];simp
    have stop:R=(l,i)→cJ x T fun v28=>∃r' h'',Wk h.length [v28] T [r'] h''∧r'=.str R.1∧Mw id s R.2 h h'':=fun z=>by
     subst z;exact ER g ⟨_,_,Wk.refl _ _ _ hH,rfl,m⟩
    rcases ht with⟨t1,t2⟩|⟨t1,t2,t3⟩
    ·rw[t1];refine zzQ ?_;exact zzK rfl (stop (hend (.inl t2)))
    ·rw[t1,t2];refine zzR ?_;cases z:Rt.cC s i with
     | false=>exact zzK rfl (stop (hend (.inr z)))
     | true =>
       rw[jn t3]at c;simp only[dif_pos t3,c,z,aaJ,if_false,if_true]at hr;refine zzL rfl ?_;have h1:=Rt.gd s i;have h2:(Rt.cU s i).1.length≤4:=by
        unfold Rt.cU;split
        ·simp[Rt.lG]
        ·split
         ·simp
         ·simp only[Rt.sx];repeat' split
          all_goals simp[Rt.lG]
       refine tc m hid rfl g hs (by omega) t3 fun z H' mz gz=>?_;refine aq ⟨((Rt.cU s i).2,z,H',l++(Rt.cU s i).1),⟨lr t3,mz,gz,by simp;omega,by rw[To];exact hr⟩,Wk.refl _ _ _ mz.len,by dsimp only;omega⟩
   ·by_cases z:i<s.length
    ·refine zzN (by rw[nO (by rw[jU];simpa using z)];rfl) (xO 0 m.sc rfl rfl (by omega) ?_);rw[Nat.add_zero,uf];exact aq (hF _ _ ⟨rfl,.inr ⟨rfl,rfl,z⟩⟩)
    ·refine zzM (by rw[oF (jU.2 z)]) ?_;refine aq (hF _ _ ⟨rfl,.inl ⟨?_,z⟩⟩);rw[oF (jU.2 z)];rfl
end
section
open Go.Shelf
theorem uSo4{α:Type}{a b:α}(h:a=b:=by kernel_rfl):some a=some b:=congrArg some h
def lays143_ren:Go.Shelf.Ren:=⟨fun|143=>60|219=>95|217=>103|225=>132|224=>133|267=>134|266=>142|314=>164|n=>n,fun|9=>9|3=>3|4=>4|5=>5|46=>188|146=>221|51=>150|n=>n,fun|1=>0|n=>n⟩
theorem lays143:Go.Proofs.Lays.n143 p_ lays143_ren:={
 mixed:=by kernel_rfl
 f143:=Tryz.func60.trans uSo4
 f217:=Tryz.func103.trans uSo4
 f219:=Tryz.func95.trans uSo4
 f224:=Tryz.func133.trans uSo4
 f225:=Tryz.func132.trans uSo4
 f266:=Tryz.func142.trans uSo4
 f267:=Tryz.func134.trans uSo4
 f314:=Tryz.func164.trans uSo4
 t3:=Tryz.underlying3
 a3:=Tryz.isAgg3
 z3:=Tryz.sizeOf3
 v3:=Tryz.zeroValue3
 t4:=Tryz.underlying4
 a4:=Tryz.isAgg4
 z4:=Tryz.sizeOf4
 v4:=Tryz.zeroValue4
 t5:=Tryz.underlying5
 a5:=Tryz.isAgg5
 z5:=Tryz.sizeOf5
 v5:=Tryz.zeroValue5
 t9:=Tryz.underlying9
 a9:=Tryz.isAgg9
 z9:=Tryz.sizeOf9
 v9:=Tryz.zeroValue9
 t46:=Tryz.underlying188
 a46:=Tryz.isAgg188
 z46:=Tryz.sizeOf188
 v46:=Tryz.zeroValue188
 t51:=Tryz.underlying150
 a51:=Tryz.isAgg150
 z51:=Tryz.sizeOf150
 v51:=Tryz.zeroValue150
 t146:=Tryz.underlying221
 a146:=Tryz.isAgg221
 z146:=Tryz.sizeOf221
 v146:=Tryz.zeroValue221
 g1:=by kernel_rfl }
def laysM143_ren:Go.Shelf.Ren:=⟨fun|143=>60|219=>95|217=>103|225=>132|224=>133|267=>134|266=>142|314=>164|n=>n,fun|9=>9|3=>3|4=>4|5=>5|46=>188|146=>221|51=>150|n=>n,fun|1=>0|n=>n⟩
theorem laysM143:Go.Proofs.LaysM.n143 p_ laysM143_ren:={
 mixed:=by kernel_rfl
 f143:=Tryz.func60.trans uSo4
 f217:=Tryz.func103.trans uSo4
 f219:=Tryz.func95.trans uSo4
 f224:=Tryz.func133.trans uSo4
 f225:=Tryz.func132.trans uSo4
 f266:=Tryz.func142.trans uSo4
 f267:=Tryz.func134.trans uSo4
 f314:=Tryz.func164.trans uSo4
 t3:=Tryz.underlying3
 a3:=Tryz.isAgg3
 z3:=Tryz.sizeOf3
 v3:=Tryz.zeroValue3
 t4:=Tryz.underlying4
 a4:=Tryz.isAgg4
 z4:=Tryz.sizeOf4
 v4:=Tryz.zeroValue4
 t5:=Tryz.underlying5
 a5:=Tryz.isAgg5
 z5:=Tryz.sizeOf5
 v5:=Tryz.zeroValue5
 t9:=Tryz.underlying9
 a9:=Tryz.isAgg9
 z9:=Tryz.sizeOf9
 v9:=Tryz.zeroValue9
 t46:=Tryz.underlying188
 a46:=Tryz.isAgg188
 z46:=Tryz.sizeOf188
 v46:=Tryz.zeroValue188
 t51:=Tryz.underlying150
 a51:=Tryz.isAgg150
 z51:=Tryz.sizeOf150
 v51:=Tryz.zeroValue150
 t146:=Tryz.underlying221
 a146:=Tryz.isAgg221
 z146:=Tryz.sizeOf221
 v146:=Tryz.zeroValue221
 g1:=by kernel_rfl
 i3:=by kernel_rfl
 i4:=by kernel_rfl
 i5:=by kernel_rfl
 i9:=by kernel_rfl
 i46:=by kernel_rfl
 i51:=by kernel_rfl
 i146:=by kernel_rfl
 m1:=by kernel_rfl
 s1_3:=fun w h=>Go.Proofs.cell_of_shapedOpen_int (zero:=#[.int .i64 0]) (t:=3) h (of_decide_eq_true (by kernel_rfl)) (by kernel_rfl) rfl (by kernel_rfl) (by kernel_rfl) Tryz.underlying3 }
end
section
open Go Go.Aw Go.RowKit
variable [bq]
theorem BK(l m:List UInt8)(hl:l.length<4294967281)(h:aa):bV p_ 60 [.str l,.str m] h fun r hh=>r=i_ (Lib.index l m)∧hh=h:=by
 intro base ι S w vs h1 h2;have hg:=(h2.gl 0 [i_ bq.m] rfl).1.get 0 (i_ bq.m) rfl;obtain⟨u,hu,_,hr⟩:=hg;rw[cz]at hr;subst hr;rw[aaQ]at hu
 match vs,h1 with
 | [],h1=>simp at h1
 | [v],h1=>simp at h1
 | v:: u:: x:: vs,h1=>simp at h1
 | [v,u],h1 =>
   simp only[bO,dp,and_true,eA]at h1;obtain⟨⟨rfl,_⟩,rfl,_⟩:=h1;refine (Any.strings_Index lays143 ⟨l.toArray⟩ ⟨m.toArray⟩ bq.m w (by simp[ByteArray.size];omega) hu).mono ?_;rintro e w' ⟨rfl,rfl⟩;exact⟨_,ι,S,i_ (Lib.index l m),h,rfl,bS.refl _ _ _ _ _,by simp,h2,bY _,rfl,rfl⟩
end
section
open Go Go.Aw Go.RowKit
def RY(b:Bool)(s:List AV):Prop:=(nx s 0=tt∧b=true)∨(nx s 0=ff∧nx s 1=Aw.b_ b)
def MJ(b:Bool)(s:List AV):Prop:=(nx s 0=ff∧b=false)∨(nx s 0=tt∧nx s 1=Aw.b_ b)
theorem lH{b:Bool}{s:List AV}(h:RY b s){K:AV→Prop}(q:K (Aw.b_ b)):aI (nx s 0) tt (nx s 1) K:=by
 rcases h with⟨h1,rfl⟩|⟨h1,h2⟩
 ·exact aM h1 q
 ·exact aO h1 (by rw[h2];exact q)
theorem lh{b:Bool}{s:List AV}(h:MJ b s){K:AV→Prop}(q:K (Aw.b_ b)):aI (nx s 0) (nx s 1) ff K:=by
 rcases h with⟨h1,rfl⟩|⟨h1,h2⟩
 ·exact aO h1 q
 ·exact aM h1 (by rw[h2];exact q)
theorem mJ{c:AV}{b1:Bool}(b:Bool){vs:List AV}{A:(List AV→aa→Prop)→Prop}{H:aa}{f:List AV→aa→Prop}(ec:c=.v (.bool b1))(hb:b1=true→b=true)(hA:b1=false→∀F:List AV→aa→Prop,F [ff,Aw.b_ b] H→A F)(q:∀s,RY b s→f s H):aw (fun J=>ar c false (A J) (vs=vs∧J [aN false c,un] H)) f:=by
 subst ec;show ar _ _ _ _;cases b1 with
 | true=>exact zzM rfl (aq (q _ (.inl ⟨rfl,hb rfl⟩)))
 | false=>exact zzN rfl (hA rfl _ (q _ (.inr ⟨rfl,rfl⟩)))
theorem mq{c:AV}{b1:Bool}(b:Bool){vs:List AV}{A:(List AV→aa→Prop)→Prop}{H:aa}{f:List AV→aa→Prop}(ec:c=.v (.bool b1))(hb:b1=false→b=false)(hA:b1=true→∀F:List AV→aa→Prop,F [tt,Aw.b_ b] H→A F)(q:∀s,MJ b s→f s H):aw (fun J=>ar c true (A J) (vs=vs∧J [aN true c,un] H)) f:=by
 subst ec;show ar _ _ _ _;cases b1 with
 | false=>exact zzM rfl (aq (q _ (.inl ⟨rfl,hb rfl⟩)))
 | true=>exact zzN rfl (hA rfl _ (q _ (.inr ⟨rfl,rfl⟩)))
theorem ud{s:af}{i:Nat}(hi:i≤s.length):i≤Rt.gL s i∧Rt.gL s i≤s.length:=by
 unfold Rt.gL;have:=(List.takeWhile_sublist (l:=s.drop i) Rt.cn).length_le;rw[List.length_drop]at this;omega
theorem at_lt{s:af}{i:Nat}(h:Rt.aB s i≠0):i<s.length:=by
 by_cases q:i<s.length
 ·exact q
 ·exact absurd (xA q) h
theorem AZ{s:af}{i:Nat}(h:Rt.cn (Rt.aB s i)=true):i<s.length:=at_lt fun e=>by rw[e]at h;exact absurd h (by decide)
theorem gi{c:UInt8}(n:Int)(hn:n=(c.toNat:Int))(hc:c≠0)(s:af)(i:Nat):decide (pk s i=n)=decide (Rt.aB s i=c):=by subst hn;exact AX hc s i
def ji(s:af)(i:Nat):Nat:=if Rt.aB s i=43∨Rt.aB s i=45 then i+1 else i
theorem FY{s:af}{i:Nat}(hi:i≤s.length):i≤ji s i∧ji s i≤s.length:=by
 unfold ji;split
 ·rename_i h;have:i<s.length:=at_lt (by rcases h with h|h<;>rw[h]<;>decide);omega
 ·exact⟨bY _,hi⟩
def qk(s:af)(i1:Nat):Nat×Bool:=if Rt.aB s i1=46∧Rt.cn (Rt.aB s (i1+1))=true then (Rt.gL s (i1+1),false) else (i1,true)
def wu(s:af)(r:Nat×Bool):Nat×Bool:=if Rt.aB s r.1=101∨Rt.aB s r.1=69 then (if Rt.cn (Rt.aB s (ji s (r.1+1)))=true then (Rt.gL s (ji s (r.1+1)),false) else r) else r
theorem Cg(s:af)(i:Nat):Rt.iz s i=wu s (qk s (Rt.gL s (ji s i))):=by
 unfold Rt.iz wu qk ji;rfl
theorem LQ{s:af}{i:Nat}(hi:i≤s.length):i≤(qk s i).1∧(qk s i).1≤s.length:=by
 unfold qk;split
 ·rename_i h;have:=AZ h.2;have:=ud (s:=s) (i:=i+1) (by omega);dsimp only;omega
 ·exact⟨bY _,hi⟩
theorem TG{s:af}{r:Nat×Bool}(hi:r.1≤s.length):r.1≤(wu s r).1∧(wu s r).1≤s.length:=by
 unfold wu;split
 ·split
  ·rename_i h;have h2:=AZ h;have h1:r.1+1≤ji s (r.1+1):=by unfold ji;split<;>omega
   have:=ud (s:=s) (i:=ji s (r.1+1)) (by omega);dsimp only;omega
  ·exact⟨bY _,hi⟩
 ·exact⟨bY _,hi⟩
theorem Cf{s:af}{i:Nat}(hi:i≤s.length):i≤(Rt.iz s i).1∧(Rt.iz s i).1≤s.length:=by
 rw[Cg];have h1:=FY hi;have h2:=ud h1.2;have h3:=LQ h2.2;have h4:=TG (r:=qk s (Rt.gL s (ji s i))) h3.2;omega
section
variable [Laid]
theorem E5{id:Nat}{h:aa}{s:af}{a:Nat}{x:AV}{K:AV→aa→Prop}(sc:Sc id h s a)(ex:x=.op id 0)(ha:a≤s.length)(hl:s.length≤2^20)(k:K (.aA []) (h.set id (ek s (Rt.gL s a)))):bz p_ (.fn (.func 63) [] []) [x,.fn (.func 98) [] []] h K:=by
 refine HQ (f:=98) (p:=fun n=>jv n 48 57) sc ex (by kernel_rfl) nG (by decide) ha (by omega) ?_;rw[Co];exact k
theorem A9{id:Nat}{h:aa}{s:af}{a:Nat}{x:AV}{K:AV→aa→Prop}(sc:Sc id h s a)(ex:x=.op id 0)(ha:a≤s.length)(hl:s.length≤2^20)(k:K (.aA []) (h.set id (ek s (Rt.eO s a)))):bz p_ (.fn (.func 63) [] []) [x,.fn (.func 62) [] []] h K:=by
 refine HQ (f:=62) (p:=uA) sc ex (by kernel_rfl) sQ (by decide) ha (by omega) ?_;rw[It];exact k
theorem TY{id a:Nat}{h:aa}{s:af}{y:AV}{K:AV→aa→Prop}(sc:Sc id h s a)(ey:y=.op id 0)(hs:s.length≤2^20)(ha:a≤s.length)(k:K (Aw.b_ (Rt.iz s a).2) (h.set id (ek s (Rt.iz s a).1))):bz p_ (.fn (.func 99) [] []) [y] h K:=by
 subst ey;refine cB (by kernel_rfl) rfl (K0:=fun r H=>r=Aw.b_ (Rt.iz s a).2∧H=h.set id (ek s (Rt.iz s a).1)) ?_ (by rintro r H ⟨rfl,rfl⟩;exact k);refine (V99 _).bI ?_;unfold Yk;rw[Cg];have h1:=FY ha;have h2:=ud h1.2;have h3:=LQ h2.2;obtain⟨r,hr⟩:∃r,qk s (Rt.gL s (ji s a))=r:=⟨_,rfl⟩;rw[hr]at h3 ⊢;have fin:∀(b:Bool) (i:Nat),wu s r=(i,b)→∃r' h'',Wk h.length [Aw.b_ b] (h.set id (ek s i)) [r'] h''∧r'=Aw.b_ (wu s r).2∧h''=h.set id (ek s (wu s r).1):=fun b i e=>⟨_,_,Wk.refl _ _ _ (by simp),by rw[e],by rw[e]⟩;refine cP (fun _ T=>T=h.set id (ek s (ji s a))) (fun _ T hT=>?_) fun F hF=>?_
 ·subst hT;refine E5 (sc.set _) rfl h1.2 hs ?_;rw[aaM];refine cP (fun t T=>nx t 0=Aw.b_ r.2∧T=h.set id (ek s r.1)) (fun t T hT=>?_) fun F hF=>?_
  ·obtain⟨ht,rfl⟩:=hT;rw[ht];have sc3:=sc.set r.1;refine dx 0 sc3 rfl rfl (by omega) ?_;rw[Nat.add_zero];refine zzG ?_;rw[gi (c:=101) 101 rfl (by decide)];refine mJ (decide (Rt.aB s r.1=101∨Rt.aB s r.1=69)) rfl (fun z=>by simp at z;simp[z]) (fun z F hF=>?_) fun t ht=>?_
   ·refine dx 0 sc3 rfl rfl (by omega) ?_;rw[Nat.add_zero];refine zzG ?_;rw[gi (c:=69) 69 rfl (by decide)];have z:=tO z;simp only[z,false_or]at hF;exact aq hF
   refine lH ht ?_
   by_cases q:Rt.aB s r.1=101∨Rt.aB s r.1=69
   ·refine zzL (oF q) ?_;have hlt:r.1<s.length:=at_lt (by rcases q with q|q<;>rw[q]<;>decide);have e:wu s r=if Rt.cn (Rt.aB s (ji s (r.1+1)))=true then (Rt.gL s (ji s (r.1+1)),false) else r:=by unfold wu;rw[if_pos q]
    obtain⟨n,hn⟩:∃n:Nat,ji s (r.1+1)=r.1+n∧(n=1∨n=2):=by
     unfold ji;split
     ·exact⟨2,by omega,.inr rfl⟩
     ·exact⟨1,rfl,.inl rfl⟩
    rw[hn.1]at e;refine cP (fun t T=>nx t 0=i_ n∧T=h.set id (ek s r.1)) (fun t T hT=>?_) fun F hF=>?_
    ·obtain⟨ht,rfl⟩:=hT;rw[ht];refine dx n sc3 rfl rfl (by omega) (uCon (nG _) ?_);rw[uw];cases z:Rt.cn (Rt.aB s (r.1+n)) with
     | true =>
       rw[if_pos z]at e;have hlt2:=AZ z;refine zzL rfl (bx (zzA (zzU sc3 rfl (zzP (by unfold aJ;omega) (bx (zzA ?_))))));refine aX (cs:=[i_ ((r.1:Int)+n)]) (h':=h.set id (ek s (r.1+n))) rfl sc3 rfl rfl (by simp) rfl rfl ?_ ?_
       ·show (h.set id (ek s r.1)).set id (.ah ⟨101,[.str s,i_ ((r.1:Int)+n)],true⟩)=_;rw[aaM];show _=List.set h id (.ah ⟨101,[.str s,i_ ((r.1+n:Nat):Int)],true⟩);rw[show ((r.1+n:Nat):Int)=(r.1:Int)+n by omega]
       refine E5 (sc.set _) rfl (by omega) hs ?_;rw[aaM];exact fin false _ e
     | false =>
       rw[if_neg (by rw[z];decide)]at e;refine zzK rfl ?_;exact fin r.2 r.1 e
    ·refine dx 1 sc3 rfl rfl (by omega) (zzG ?_);rw[gi (c:=43) 43 rfl (by decide)];refine mJ (decide (Rt.aB s (r.1+1)=43∨Rt.aB s (r.1+1)=45)) rfl (fun z=>by simp at z;simp[z]) (fun z F hF=>?_) fun t ht=>?_
     ·refine zzG ?_;rw[gi (c:=45) 45 rfl (by decide)];have z:=tO z;simp only[z,false_or]at hF;exact aq hF
     refine lH ht ?_
     by_cases z:Rt.aB s (r.1+1)=43∨Rt.aB s (r.1+1)=45
     ·have hn1:=hn.1;unfold ji at hn1;rw[if_pos z]at hn1;refine zzL (oF z) (zzP (by unfold aJ;omega) ?_);refine aq (hF _ _ ⟨?_,rfl⟩);show i_ ((1:Int)+1)=_;rw[show (1:Int)+1=(n:Int) by omega]
     ·have hn1:=hn.1;unfold ji at hn1;rw[if_neg z]at hn1;refine zzK (nO z) ?_;refine aq (hF _ _ ⟨?_,rfl⟩);show i_ (1:Int)=_;rw[show (1:Int)=(n:Int) by omega]
   ·refine zzK (nO q) ?_;exact fin r.2 r.1 (by unfold wu;rw[if_neg q])
  ·have sc3:=sc.set (Rt.gL s (ji s a));refine dx 0 sc3 rfl rfl (by omega) ?_;rw[Nat.add_zero];refine zzG ?_;rw[gi (c:=46) 46 rfl (by decide)];obtain⟨i1,hi1⟩:∃i1,Rt.gL s (ji s a)=i1:=⟨_,rfl⟩;rw[hi1]at sc3 h2 hr ⊢;refine mq (decide (Rt.aB s i1=46∧Rt.cn (Rt.aB s (i1+1))=true)) rfl (fun z=>by simp at z;simp[z]) (fun z F hF=>?_) fun t ht=>?_
   ·refine dx 1 sc3 rfl rfl (by omega) (uCon (nG _) ?_);rw[uw];have z:=oN z;simp only[z,true_and,Bool.decide_eq_true]at hF;exact aq hF
   refine lh ht ?_
   by_cases q:Rt.aB s i1=46∧Rt.cn (Rt.aB s (i1+1))=true
   ·have hlt:=AZ q.2;refine zzL (oF q) (jR sc3 (by omega) rfl ?_);rw[aaM];refine E5 (sc.set _) rfl (by omega) hs ?_;rw[aaM];unfold qk at hr;rw[if_pos q]at hr;subst hr;exact aq (hF _ _ ⟨rfl,rfl⟩)
   ·refine zzK (nO q) ?_;unfold qk at hr;rw[if_neg q]at hr;subst hr;exact aq (hF _ _ ⟨rfl,rfl⟩)
 ·refine dx 0 sc rfl rfl (by omega) ?_;rw[Nat.add_zero];refine zzG ?_;rw[gi (c:=43) 43 rfl (by decide)];refine mJ (decide (Rt.aB s a=43∨Rt.aB s a=45)) rfl (fun z=>by simp at z;simp[z]) (fun z F hF=>?_) fun t ht=>?_
  ·refine zzG ?_;rw[gi (c:=45) 45 rfl (by decide)];have z:=tO z;simp only[z,false_or]at hF;exact aq hF
  refine lH ht ?_
  by_cases q:Rt.aB s a=43∨Rt.aB s a=45
  ·refine zzL (oF q) (jR sc (by omega) rfl ?_);refine aq (hF _ _ ?_);unfold ji;rw[if_pos q]
  ·refine zzK (nO q) ?_;refine aq (hF _ _ ?_);unfold ji;rw[if_neg q,kn sc]
end
/-! ### Comments -/
theorem zB(s:af)(i:Nat)(m:af):(decide (m.length≤(s.drop i).length)&&decide ((s.drop i).take m.length=m))=Rt.hasB s i m:=by
 unfold Rt.hasB
 by_cases h:(s.drop i).take m.length=m
 ·have:m.length≤(s.drop i).length:=by
   have:=congrArg List.length h;rw[aaI]at this;omega
  rw[oF h,oF this];rfl
 ·rw[nO h,Bool.and_false]
theorem NT(s:af):∀n j,s.length-j≤n→j≤s.length→Rt.kb s j=if Lib.index (s.drop j) [42,47]<0 then s.length else j+(Lib.index (s.drop j) [42,47]).toNat+2:=by
 intro n;induction n with
 | zero =>
   intro j hn hj;have:s.drop j=[]:=List.drop_eq_nil_of_le (by omega);rw[this,Rt.kb,dif_neg (by omega)];rfl
 | succ n ih =>
   intro j hn hj
   by_cases h:j<s.length
   ·have hd:s.drop j=s[j]:: s.drop (j+1):=aba h;rw[Rt.kb,dif_pos h];have hp:([42,47]:af).isPrefixOf (s.drop j)=Rt.hasB s j [42,47]:=by
     unfold Rt.hasB;rw[Bool.eq_iff_iff,List.isPrefixOf_iff_prefix,List.prefix_iff_eq_take,decide_eq_true_iff];exact eq_comm
    have hi:Lib.index (s.drop j) [42,47]=if Rt.hasB s j [42,47]=true then 0 else if Lib.index (s.drop (j+1)) [42,47] == -1 then -1 else Lib.index (s.drop (j+1)) [42,47]+1:=by
     rw[←hp,hd];rfl
    rw[hi]
    by_cases q:Rt.hasB s j [42,47]=true
    ·rw[if_pos q,if_pos q];simp
    ·rw[if_neg q,if_neg q,ih (j+1) (by omega) h];have hg:=Lib.index_ge (s.drop (j+1)) [42,47]
     by_cases z:Lib.index (s.drop (j+1)) [42,47]=-1
     ·rw[z];simp
     ·have e:(if (Lib.index (s.drop (j+1)) [42,47] == -1)=true then (-1:Int) else Lib.index (s.drop (j+1)) [42,47]+1)=Lib.index (s.drop (j+1)) [42,47]+1:=if_neg (by simpa using z);rw[e,if_neg (show ¬Lib.index (s.drop (j+1)) [42,47]<0 by omega),if_neg (by omega)];omega
   ·have:s.drop j=[]:=List.drop_eq_nil_of_le (by omega);rw[this,Rt.kb,dif_neg h];rfl
theorem rO{s:af}{i:Nat}{x:af}(h:Rt.hasB s i x=true)(hx:0<x.length):i+x.length≤s.length:=by
 unfold Rt.hasB at h;have:=congrArg List.length (oN h);rw[aaI,List.length_drop]at this;omega
theorem BO(s:af):∀n j,s.length-j≤n→j≤s.length→Rt.kb s j≤s.length
 | 0,j,hn,hj=>by rw[Rt.kb,dif_neg (by omega)];exact bY _
 | n+1,j,hn,hj=>by
   rw[Rt.kb];split
   ·rename_i h;split
    ·rename_i q;exact rO (x:=[42,47]) q (by decide)
    ·exact BO s n (j+1) (by omega) h
   ·exact bY _
theorem uv(s:af):∀n j,s.length-j≤n→j≤s.length→j≤Rt.gr s j∧Rt.gr s j≤s.length
 | 0,j,hn,hj=>by rw[Rt.gr,dif_neg (by omega)];exact⟨bY _,hj⟩
 | n+1,j,hn,hj=>by
   rw[Rt.gr];split
   ·rename_i h;have h1:=Rt.xH s (j+2);have h3:=rO (x:=[47,42]) h.2 (by decide);have h2:=BO s s.length (j+2) (by omega) h3;have:=uv s n (Rt.kb s (j+2)) (by simp at h3;omega) h2;simp at h3;exact⟨by omega,this.2⟩
   ·exact⟨bY _,hj⟩
variable [bq]
theorem HJ{id a:Nat}{h:aa}{s:af}{y:AV}{K:AV→aa→Prop}(sc:Sc id h s a)(ey:y=.op id 0)(hs:s.length≤2^20)(ha:a≤s.length)(k:K (.aA []) (h.set id (ek s (Rt.gr s a)))):bz p_ (.fn (.func 43) [] []) [y] h K:=by
 subst ey;refine cB (by kernel_rfl) rfl (K0:=fun r H=>r=.aA []∧H=h.set id (ek s (Rt.gr s a))) ?_ (by rintro r H ⟨rfl,rfl⟩;exact k);refine (V43 _).bI ?_;unfold Xz;obtain⟨R,hR⟩:∃R,Rt.gr s a=R:=⟨_,rfl⟩;rw[hR];refine bc (α:=Nat) (fun j=>j≤s.length∧Rt.gr s j=R) (fun _=>[]) (fun j=>h.set id (ek s j)) (fun j=>s.length-j) a ⟨ha,hR⟩ (by rw[kn sc];exact Wk.refl _ _ _ (bY _)) ?_;rintro j ⟨hj,hp⟩;have sc2:=sc.set j;refine bx (zzA (zzU sc2 rfl (bx (zzA (zzU sc2 rfl (nw (a:=j) (b:=s.length) (r:=s.drop j) rfl rfl rfl (by omega) (bY _) (by rw[BY]) ?_))))));refine⟨_,uCon (rI _ _) ⟨rfl,rfl⟩, ?_⟩;rw[zB];rw[Rt.gr]at hp;cases q:Rt.hasB s j [47,42] with
 | false =>
   rw[dif_neg (by rw[q];simp)]at hp;subst hp;refine zzK rfl ?_;exact⟨_,_,Wk.refl _ _ _ (by simp),rfl,rfl⟩
 | true =>
   have h3:=rO (x:=[47,42]) q (by decide);simp only[aaB,abd]at h3;rw[dif_pos ⟨by omega,q⟩]at hp;have he:=NT s s.length (j+2) (by omega) (by omega);have hin:=BO s s.length (j+2) (by omega) (by omega);have hge:=Lib.index_ge (s.drop (j+2)) [42,47];refine zzL rfl (bx (zzA (zzU sc2 rfl (bx (zzA (zzU sc2 rfl (zzP (by unfold aJ;omega) (nw (a:=j+2) (b:=s.length) (r:=s.drop (j+2)) rfl (by simp[eT]) rfl (by omega) (bY _) (by rw[BY]) ?_))))))));refine⟨_,cB (by kernel_rfl) rfl (BK _ _ (by simp;omega) _) fun r h' z=>z, ?_⟩;refine zzC ?_
   by_cases z:Lib.index (s.drop (j+2)) [42,47]<0
   ·rw[if_pos z]at he;rw[he,Rt.gr,dif_neg (by omega)]at hp;subst hp;refine zzL (oF z) (bx (zzA (zzU sc2 rfl ?_)));refine zzZ fun _=>?_;refine bx (zzA (aX (cs:=[i_ (s.length:Int)]) (h':=h.set id (ek s s.length)) rfl sc2 rfl rfl (by simp) rfl rfl (by rw[aaM];rfl) ?_));exact⟨_,_,Wk.refl _ _ _ (by simp),rfl,rfl⟩
   ·rw[if_neg z]at he;refine zzK (nO z) (bx (zzA (zzU sc2 rfl (zzP (by unfold aJ;omega) (zzP (by unfold aJ;omega) (bx (zzA (aX (cs:=[i_ ((Rt.kb s (j+2):Nat):Int)]) (h':=h.set id (ek s (Rt.kb s (j+2)))) rfl sc2 rfl (by show [i_ ((j:Int)+(Lib.index (s.drop (j+2)) [42,47]+4))]=_;rw[show (j:Int)+(Lib.index (s.drop (j+2)) [42,47]+4)=((Rt.kb s (j+2):Nat):Int) by omega]) (by simp) rfl rfl (by rw[aaM];rfl) ?_))))))));have hge2:=Rt.xH s (j+2);exact aq ⟨Rt.kb s (j+2),⟨hin,hp⟩,Wk.refl _ _ _ (by simp),by omega⟩
end
section
open Go Go.Aw Go.RowKit
def sS(c:UInt8):Nat:=(c.toNat+208)%256
def jJ(most:Nat)(l:af):Nat:=l.foldl (fun n c=>min (10*n+sS c) most) 0
theorem xz(most:Nat)(l:af):jJ most l≤most:=by
 unfold jJ;have key:∀(l:af) (a:Nat),a≤most→l.foldl (fun n c=>min (10*n+sS c) most) a≤most:=by
  intro l;induction l with
  | nil=>intro a h;exact h
  | cons c l ih=>intro a h;exact ih _ (Nat.min_le_right _ _)
 exact key l 0 (aaO _)
theorem Kp{most:Nat}{l:af}{k:Nat}(h:k<l.length):jJ most (l.take (k+1))=min (10*jJ most (l.take k)+sS l[k]) most:=by
 unfold jJ;rw[List.take_succ_eq_append_getElem h,aaS];rfl
def jh:Nat:=1000000000000
def qC(t:af):Int:=if 0≤Lib.indexAny t [101,69] then (if Rt.aB t ((Lib.indexAny t [101,69]).toNat+1)=45 then -(jJ 1048576 (Lib.trimLeftS (t.drop ((Lib.indexAny t [101,69]).toNat+1)) [43,45]):Int) else (jJ 1048576 (Lib.trimLeftS (t.drop ((Lib.indexAny t [101,69]).toNat+1)) [43,45]):Int)) else 0
def qg(t:af):af:=if 0≤Lib.indexAny t [101,69] then t.take (Lib.indexAny t [101,69]).toNat else t
def oA(t:af):Int:=3+qC t-((Lib.cut (qg t) [46]).2.1.length:Int)
def u3(t:af):af:=(Lib.cut (qg t) [46]).1++(Lib.cut (qg t) [46]).2.1
def oq(t:af):af:=if oA t<0 then (u3 t).take (max 0 ((u3 t).length+oA t)).toNat else u3 t
def vq(t:af):Nat:=Rt.tw jh (oA t).toNat (jJ jh (oq t))
def mY(x:af):Int:=if Rt.aB x 0=45 then -(vq (Lib.trimLeftS x [43,45]):Int) else (vq (Lib.trimLeftS x [43,45]):Int)
theorem Mp:∀p n,n≤jh→Rt.tw jh p n≤jh
 | 0,n,h=>h
 | p+1,n,h=>by
   rw[Rt.tw];split
   ·exact Mp p _ (Nat.min_le_left _ _)
   ·exact h
theorem Rs(x:af):-1000000000000≤mY x∧mY x≤1000000000000:=by
 have:=Mp (oA (Lib.trimLeftS x [43,45])).toNat _ (xz jh (oq (Lib.trimLeftS x [43,45])));have h:vq (Lib.trimLeftS x [43,45])≤1000000000000:=this;unfold mY;split<;>omega
theorem Dz(l m:af):(Lib.trimLeftS l m).length≤l.length:=(List.dropWhile_sublist _).length_le
theorem Mm{l m:af}{c:UInt8}(h:c∈Lib.trimLeftS l m):c∈l:=(List.dropWhile_sublist _).subset h
theorem Hg(l m:af):(Lib.cut l m).1.length+(Lib.cut l m).2.1.length≤l.length:=by
 unfold Lib.cut;split
 ·simp;omega
 ·simp
theorem VE{K:AV→Prop}{x y:AV}{a b:Int}(ex:x=i_ a)(ey:y=i_ b)(q:K (i_ (max a b))):kr x y K:=by
 subst ex;subst ey;rw[TP]
 by_cases h:b > a
 ·rw[if_pos h];rwa [Int.max_eq_right (by omega)]at q
 ·rw[if_neg h];rwa [Int.max_eq_left (by omega)]at q
theorem Km{K:AV→Prop}{x y:AV}{a b:Int}(ex:x=i_ a)(ey:y=i_ b)(q:K (i_ (min a b))):nT x y K:=by
 subst ex;subst ey;rw[TQ]
 by_cases h:b<a
 ·rw[if_pos h];rwa [Int.min_eq_right (by omega)]at q
 ·rw[if_neg h];rwa [Int.min_eq_left (by omega)]at q
theorem zzd{K:AV→Prop}{a b:Int}(q:K (i_ (min a b))):nT (i_ a) (i_ b) K:=Km rfl rfl q
theorem RN(c:UInt8):IntKind.u8.wrap ((c.toNat:Int)-48)=((sS c:Nat):Int):=by
 rw[IntKind.wrap_u8];unfold sS;have:=c.toNat_lt;omega
theorem TA(c:UInt8):sS c<256:=Nat.mod_lt _ (by decide)
variable [bq]
theorem Nj(l m:af)(hl:l.length≤2^31):bn p_ 140 [.str l,.str m] (.aA [.str (Lib.cut l m).1,.str (Lib.cut l m).2.1,Aw.b_ (Lib.cut l m).2.2]):=by
 have hc:=Hg l m;refine iu (v:=.tuple #[.string ⟨(Lib.cut l m).1.toArray⟩,.string ⟨(Lib.cut l m).2.1.toArray⟩,.bool (Lib.cut l m).2.2]) (by simp[aV]) (by simp) (by simp[aV]) (fun w=>by rw[au];exact⟨[.string ⟨(Lib.cut l m).1.toArray⟩,.string ⟨(Lib.cut l m).2.1.toArray⟩,.bool (Lib.cut l m).2.2],rfl,by simp[maxLen];omega⟩) ?_;intro ι S w vs h1 hg;have hg:=(hg 0 [i_ bq.m] rfl).1.get 0 (i_ bq.m) rfl;obtain⟨u,hu,_,hr⟩:=hg;rw[cz]at hr;subst hr;rw[aaQ]at hu
 match vs,h1 with
 | [],h1=>simp at h1
 | [v],h1=>simp at h1
 | v:: u:: x:: vs,h1=>simp at h1
 | [v,u],h1 =>
   simp only[bO,dp,and_true,eA]at h1;obtain⟨⟨rfl,_⟩,rfl,_⟩:=h1;refine (Any.strings_Cut lays145 ⟨l.toArray⟩ ⟨m.toArray⟩ bq.m w (by simp[ByteArray.size];omega) hu).mono ?_;rintro e w' ⟨rfl,n,rfl⟩;exact⟨by simp,(Below.refl _ _).trans ⟨rfl,rfl,rfl,bY _,fun _ _=>rfl⟩⟩
theorem Pl{most:Nat}{M:Int}(hM:M=(most:Int))(hm:most≤2^50){l:af}(hl:l.length≤2^31){id:Nat}{T:aa}(ht:T[id]?=some (.ah ⟨5,l.map bg,true⟩)){vs:List AV}{f:List AV→aa→Prop}(q:f [i_ (jJ most l),i_ l.length] T):
 bL [i_ 0,i_ 0] T fun N s g=>ae .lss (nx s 1) (i_ l.length) fun v19=>ag v19 (aQ 1 (.own id 0 l.length 1) (nx s 1) fun v20=>ak false 1 v20 g fun v21=>ae .mul (i_ 10) (nx s 0) fun v22=>ae .sub v21 (u8 48) fun v23=>cy .i64 v23 fun v24=>ae .add v22 v24 fun v25=>nT v25 (i_ M) fun v26=>ae .add (nx s 1) (i_ 1) fun v27=>vs=vs∧N [v26,v27] g) (f s g):=by
 subst hM;refine bc (α:=Nat) (fun k=>k≤l.length) (fun k=>[i_ (jJ most (l.take k)),i_ k]) (fun _=>T) (fun k=>l.length-k) 0 (aaO _) (Wk.refl _ _ _ (bY _)) ?_;intro k hk;refine zzC ?_
 by_cases c:k<l.length
 ·have h1:=xz most (l.take k);have h2:=Kp (most:=most) c;have h3:=TA l[k];refine zzL (oF (by omega)) (jm rfl rfl c ?_);refine zzU (c:=bg l[k]) ht (by simp[dO c]) ?_;refine J6 rfl rfl (by unfold aJ;omega) (Mi (c:=((sS l[k]:Nat):Int)) (by decide) rfl rfl (RN _) (fk (m:=((sS l[k]:Nat):Int)) rfl (by rw[IntKind.wrap_i64];omega) (zzP (by unfold aJ;omega) (zzd (zzP (by unfold aJ;omega) ?_)))));refine aq ⟨k+1,c, ?_,by omega⟩;show Wk _ [i_ (min ((10:Int)*(jJ most (l.take k):Int)+((sS l[k]:Nat):Int)) (most:Int)),i_ ((k:Int)+1)] T _ T;rw[h2,show min ((10:Int)*(jJ most (l.take k):Int)+((sS l[k]:Nat):Int)) (most:Int)=((min (10*jJ most (l.take k)+sS l[k]) most:Nat):Int) by omega];exact Wk.refl _ _ _ (bY _)
 ·refine zzK (nO (by omega)) ?_;obtain rfl:k=l.length:=by omega
  rw[BY];exact q
theorem KG(x:af)(h0:x≠[])(hl:x.length≤2^20)(ha:sI x)(hE:0≤Lib.indexAny (Lib.trimLeftS x [43,45]) [101,69]→(Lib.indexAny (Lib.trimLeftS x [43,45]) [101,69]).toNat+1<(Lib.trimLeftS x [43,45]).length):bn p_ 100 [.str x] (i_ (mY x)):=by
 refine (Yt _).bj (by simp) (by simp) ?_;unfold R8;obtain⟨t,ht⟩:∃t,Lib.trimLeftS x [43,45]=t:=⟨_,rfl⟩;have htl:t.length≤x.length:=by rw[←ht];exact Dz _ _
 have hta:sI t:=fun b hb=>ha b (Mm (by rw[ht];exact hb));have hlx:0<x.length:=List.length_pos_iff.2 h0;have sg:∀c∈([43,45]:af),c.toNat<128:=fun b hb=>by simp at hb;rcases hb with rfl|rfl<;>decide
 rw[ht]at hE;refine tW (n:=0) (b:=x[0]) rfl rfl (dO hlx) ?_;refine zzG ?_;have hat:Rt.aB x 0=x[0]:=jn hlx;have hdec:decide ((x[0].toNat:Int)=45)=decide (Rt.aB x 0=45):=by
  rw[hat];exact decide_eq_decide.2 ⟨fun e=>UInt8.toNat_inj.1 (by show x[0].toNat=45;omega),fun e=>by rw[e];rfl⟩
 rw[hdec];refine uCon (CU x [43,45] (by omega) (by decide) sg) ?_;rw[ht];have hex:qC t=qC t:=rfl;refine cP (fun v T=>nx v 0=.str (qg t)∧nx v 1=i_ (3+qC t)∧-1048576≤qC t∧qC t≤1048576) (fun v T hv=>?_) fun F hF=>?_
 ·obtain⟨v0,v1,e1,e2⟩:=hv;have hml:(qg t).length≤t.length:=by unfold qg;split<;>simp;omega
  have hcl:=Hg (qg t) [46];rw[v0,v1];refine uCon (Nj (qg t) [46] (by omega)) (bo rfl rfl (bo rfl rfl (bo rfl rfl ?_)));refine zzZ fun _=>?_;refine zze (by unfold aJ;omega) (tU rfl rfl (by omega) ?_);have hp:(3+qC t-((Lib.cut (qg t) [46]).2.1.length:Int))=oA t:=rfl;have hd:(Lib.cut (qg t) [46]).1++(Lib.cut (qg t) [46]).2.1=u3 t:=rfl;have hdl:(u3 t).length≤2^20:=by rw[←hd,AT];omega
  have hpl:-2^22≤oA t∧oA t≤2^22:=by rw[←hp];omega
  rw[hp,hd];refine cP (fun v H=>nx v 0=.str (oq t)) (fun v H hv=>?_) fun F hF=>?_
  ·rw[hv];have hcl2:(oq t).length≤2^20:=by unfold oq;split<;>simp<;>omega
   refine O9 rfl (Kk rfl ?_);have hblk:(H++[aL.ah ⟨5,(oq t).map bg,true⟩]:aa)[H.length]?=some (.ah ⟨5,(oq t).map bg,true⟩):=by simp
   refine Pl (M:=1000000000000) (most:=jh) rfl (by decide) (by omega) hblk ?_;obtain⟨n0,hn0⟩:∃n0,jJ jh (oq t)=n0:=⟨_,rfl⟩;have hn1:n0≤jh:=by rw[←hn0];exact xz _ _
   rw[hn0];have hmag:vq t=Rt.tw jh (oA t).toNat n0:=by unfold vq;rw[hn0]
   refine bc (α:=Int×Nat) (fun p=>p.2≤jh∧-2^22≤p.1∧p.1≤2^22∧Rt.tw jh p.1.toNat p.2=vq t) (fun p=>[i_ p.1,i_ p.2]) (fun _=>H++[aL.ah ⟨5,(oq t).map bg,true⟩]) (fun p=>p.1.toNat) (oA t,n0) ⟨hn1,hpl.1,hpl.2,hmag.symm⟩ (Wk.refl _ _ _ (bY _)) ?_;rintro⟨p,n⟩ ⟨hn,hp1,hp2,hu⟩;dsimp only at hn hp1 hp2 hu ⊢;unfold jh at hn;refine zzE ?_;refine mq (decide (0<p∧0<n)) rfl (fun z=>by have z:=tO z;simp;omega) (fun z F hF=>?_) fun v hv=>?_
   ·refine zzE ?_;have z:=oN z;have e:decide ((0:Int)<(n:Int))=decide (0<p∧0<n):=decide_eq_decide.2 (by omega);rw[e];exact aq hF
   refine lh hv ?_;refine mq (decide (0<p∧0<n∧n<jh)) rfl (fun z=>by have z:=tO z;simp;omega) (fun z F hF=>?_) fun v hv=>?_
   ·refine zzC ?_;have z:=oN z;have e:decide ((n:Int)<1000000000000)=decide (0<p∧0<n∧n<jh):=decide_eq_decide.2 (by unfold jh;omega);rw[e];exact aq hF
   refine lh hv ?_
   by_cases q:0<p∧0<n∧n<jh
   ·refine zzL (oF q) ?_;have q3:=q.2.2;unfold jh at q3;refine J6 rfl rfl (by unfold aJ;omega) (zzd (zze (by unfold aJ;omega) ?_));refine aq ⟨(p-1,min jh (10*n)),⟨Nat.min_le_left _ _,by dsimp only;omega,by dsimp only;omega, ?_⟩, ?_,by dsimp only;omega⟩
    ·dsimp only;rw[show p.toNat=(p-1).toNat+1 by omega,Rt.tw,if_pos q.2]at hu;exact hu
    ·show Wk _ [i_ (p-1),i_ (min ((10:Int)*n) 1000000000000)] _ _ _;rw[show min ((10:Int)*n) 1000000000000=((min jh (10*n):Nat):Int) by unfold jh;omega];exact Wk.refl _ _ _ (bY _)
   ·refine zzK (nO q) ?_;have e:vq t=n:=by
     rw[←hu]
     by_cases z:0<p
     ·rw[show p.toNat=(p-1).toNat+1 by omega,Rt.tw,if_neg (fun y=>q ⟨z,y⟩)]
     ·rw[show p.toNat=0 by omega,Rt.tw]
    unfold mY;rw[ht,e]
    by_cases z:Rt.aB x 0=45
    ·refine zzL (oF z) ?_;rw[if_pos z];show pb (i_ (n:Int)) _;rw[EZ];exact⟨by unfold aJ;omega,.pure (by simp) (by rw[show (0:Int)-(n:Int)=-(n:Int) by omega])⟩
    ·refine zzK (nO z) ?_;rw[if_neg z];exact .pure (by simp) rfl
  ·refine zzC ?_
   by_cases q:oA t<0
   ·refine zzL (oF q) ?_;refine zzZ fun _=>?_;refine zzP (by unfold aJ;omega) (VE rfl rfl (nw (a:=0) (b:=(max 0 (((u3 t).length:Int)+oA t)).toNat) (r:=oq t) rfl rfl (by show some (max 0 (((u3 t).length:Int)+oA t))=_;congr 1;omega) (by omega) (by omega) (by unfold oq;rw[if_pos q,List.drop_zero]) ?_));exact aq (hF _ _ rfl)
   ·refine zzK (nO q) ?_;refine aq (hF _ _ ?_);unfold oq;rw[if_neg q];rfl
 ·refine uCon (EA t [101,69] (by omega) (by decide) hta (fun b hb=>by simp at hb;rcases hb with rfl|rfl<;>decide)) (zzF ?_);obtain⟨i,hi⟩:∃i,Lib.indexAny t [101,69]=i:=⟨_,rfl⟩;rw[hi]at hE ⊢
  by_cases q:0≤i
  ·have hE:=hE q;refine zzL (oF q) (zzP (by unfold aJ;omega) (nw (a:=i.toNat+1) (b:=t.length) (r:=t.drop (i.toNat+1)) rfl (by show some (i+1)=_;congr 1;omega) rfl (by omega) (bY _) (by rw[BY]) (uCon (CU (t.drop (i.toNat+1)) [43,45] (by simp;omega) (by decide) sg) ?_)));obtain⟨d,hd⟩:∃d,Lib.trimLeftS (t.drop (i.toNat+1)) [43,45]=d:=⟨_,rfl⟩;have hdl:d.length≤2^20:=by have:=Dz (t.drop (i.toNat+1)) [43,45];rw[hd]at this;simp at this;omega
   rw[hd];refine O9 rfl (Kk rfl ?_);have hblk:([]++[aL.ah ⟨5,d.map bg,true⟩]:aa)[([]:aa).length]?=some (.ah ⟨5,d.map bg,true⟩):=rfl;refine Pl (M:=1048576) (most:=1048576) rfl (by decide) (by omega) hblk ?_;have hle:=xz 1048576 d;have e:qC t=if Rt.aB t (i.toNat+1)=45 then -(jJ 1048576 d:Int) else (jJ 1048576 d:Int):=by unfold qC;rw[hi,if_pos q,hd]
   have em:qg t=t.take i.toNat:=by unfold qg;rw[hi,if_pos q]
   refine cP (fun v T=>nx v 0=i_ (qC t)) (fun v T hv=>?_) fun G hG=>?_
   ·have hb:-1048576≤qC t∧qC t≤1048576:=by rw[e];split<;>omega
    rw[hv];refine zzP (by unfold aJ;omega) (nw (a:=0) (b:=i.toNat) (r:=t.take i.toNat) rfl rfl (by show some i=_;congr 1;omega) (by omega) (by omega) (by rw[List.drop_zero]) ?_);exact aq (hF _ _ ⟨by rw[em];rfl,rfl,hb.1,hb.2⟩)
   ·refine zzP (by unfold aJ;omega) ?_;refine tW (n:=i.toNat+1) (b:=t[i.toNat+1]) rfl (by show i_ (i+1)=_;rw[show i+1=((i.toNat+1:Nat):Int) by omega]) (dO hE) ?_;refine zzG ?_;have hat2:Rt.aB t (i.toNat+1)=t[i.toNat+1]:=jn hE
    by_cases z:Rt.aB t (i.toNat+1)=45
    ·refine zzL (oF (by rw[←hat2,z];rfl)) ?_;show pb (i_ (jJ 1048576 d:Int)) _;rw[EZ];refine⟨by unfold aJ;omega, ?_⟩;refine aq (hG _ _ ?_);rw[e,if_pos z];show i_ (0-(jJ 1048576 d:Int))=_;rw[show (0:Int)-(jJ 1048576 d:Int)=-(jJ 1048576 d:Int) by omega]
    ·refine zzK (nO (fun y=>z (by rw[hat2];exact UInt8.toNat_inj.1 (by show _=45;omega)))) ?_;refine aq (hG _ _ ?_);rw[e,if_neg z];rfl
  ·refine zzK (nO q) ?_;have e:qC t=0:=by unfold qC;rw[hi,if_neg q]
   have em:qg t=t:=by unfold qg;rw[hi,if_neg q]
   exact aq (hF _ _ ⟨by rw[em];rfl,by rw[e];rfl,by rw[e];decide,by rw[e];decide⟩)
end
section
open Go Go.Aw Go.RowKit
theorem rK{s:af}{k j:Nat}(h1:k≤j)(h2:j<Rt.gL s k):j<s.length∧Rt.cn (Rt.aB s j)=true:=by
 have hr:j-k<mX (fun n=>jv n 48 57) s k:=by rw[←Co]at h2;omega
 have:=L0 hr;rw[show k+(j-k)=j by omega]at this;exact⟨this.1,by rw[←uw];exact this.2⟩
theorem zA{s:af}{k:Nat}(h:Rt.cn (Rt.aB s k)=true):k<Rt.gL s k:=by
 have he:=Cq (p:=fun n=>jv n 48 57) (by decide) s k;rw[Co]at he;have he:jv (pk s (Rt.gL s k)) 48 57=false:=he;rw[uw]at he;rcases uP k (Rt.gL s k) with q|q
 ·exact q
 ·have:Rt.gL s k=k:=by unfold Rt.gL at q ⊢;omega
  rw[this,h]at he;cases he
theorem xF{c:UInt8}(h:Rt.cn c=true):c.toNat<128:=by unfold Rt.cn at h;simp at h;omega
theorem Bh{s:af}{a:Nat}(ha:a<s.length)(hn:Rt.kD s a=true):a<(Rt.iz s a).1∧Rt.cn (Rt.aB s ((Rt.iz s a).1-1))=true∧∀j,a≤j→j<(Rt.iz s a).1→(Rt.aB s j).toNat<128:=by
 rw[Cg];have s1:=FY (Nat.le_of_lt ha);have h1:∀j,a≤j→j<ji s a→(Rt.aB s j).toNat<128:=by
  intro j x y;unfold ji at y;split at y
  ·rename_i q;obtain rfl:j=a:=by omega
   rcases q with q|q<;>rw[q]<;>decide
  ·omega
 obtain⟨i0,hi0⟩:∃i0,ji s a=i0:=⟨_,rfl⟩;rw[hi0]at s1 h1 ⊢;have d1:=ud (s:=s) (i:=i0) s1.2;obtain⟨i1,hi1⟩:∃i1,Rt.gL s i0=i1:=⟨_,rfl⟩;have g1:∀j,i0≤j→j<i1→j<s.length∧Rt.cn (Rt.aB s j)=true:=fun j x y=>rK x (by rw[hi1];exact y);rw[hi1]at d1 ⊢;have hn':Rt.cn (Rt.aB s (if Rt.aB s i0=46 then i0+1 else i0))=true:=by
  unfold Rt.kD at hn;have e:(if Rt.aB s a=43∨Rt.aB s a=45 then a+1 else a)=i0:=hi0;simp only[e]at hn;exact hn
 -- behind the point
 have p:a<(qk s i1).1∧Rt.cn (Rt.aB s ((qk s i1).1-1))=true∧∀j,a≤j→j<(qk s i1).1→(Rt.aB s j).toNat<128:=by
  by_cases q:Rt.aB s i1=46∧Rt.cn (Rt.aB s (i1+1))=true
  ·have e:qk s i1=(Rt.gL s (i1+1),false):=by unfold qk;rw[if_pos q]
   rw[e];have g:=zA q.2;refine⟨by dsimp only;omega,(rK (s:=s) (k:=i1+1) (by dsimp only;omega) (by dsimp only;omega)).2,fun j x y=>?_⟩;dsimp only at y
   by_cases c1:j<i0
   ·exact h1 j x c1
   ·by_cases c2:j<i1
    ·exact xF (g1 j (by omega) c2).2
    ·by_cases c3:j=i1
     ·rw[c3,q.1];decide
     ·exact xF (rK (s:=s) (k:=i1+1) (by omega) y).2
  ·have e:qk s i1=(i1,true):=by unfold qk;rw[if_neg q]
   rw[e];have hlt:i0<i1:=by
    by_cases c:Rt.aB s i0=46
    ·rw[if_pos c]at hn';exfalso;have:i1=i0:=by
      rcases uP i0 i1 with z|z
      ·have:=(g1 i0 (bY _) z).2;rw[c]at this;exact absurd this (by decide)
      ·omega
     exact q ⟨by rw[this];exact c,by rw[this];exact hn'⟩
    ·rw[if_neg c]at hn';rw[←hi1];exact zA hn'
   refine⟨by dsimp only;omega,(g1 (i1-1) (by omega) (by omega)).2,fun j x y=>?_⟩;dsimp only at y
   by_cases c1:j<i0
   ·exact h1 j x c1
   ·exact xF (g1 j (by omega) y).2
 obtain⟨r,hr⟩:∃r,qk s i1=r:=⟨_,rfl⟩;rw[hr]at p ⊢;unfold wu;split
 ·rename_i q;split
  ·rename_i q2;have g:=zA q2;have k1:r.1+1≤ji s (r.1+1):=by unfold ji;split<;>omega
   refine⟨by dsimp only;omega,(rK (s:=s) (k:=ji s (r.1+1)) (by dsimp only;omega) (by dsimp only;omega)).2,fun j x y=>?_⟩;dsimp only at y
   by_cases c1:j<r.1
   ·exact p.2.2 j x c1
   ·by_cases c2:j=r.1
    ·rw[c2];rcases q with q|q<;>rw[q]<;>decide
    ·by_cases c3:j<ji s (r.1+1)
     ·unfold ji at c3;split at c3
      ·rename_i q3;obtain rfl:j=r.1+1:=by omega
       rcases q3 with q3|q3<;>rw[q3]<;>decide
      ·omega
     ·exact xF (rK (s:=s) (k:=ji s (r.1+1)) (by omega) y).2
  ·exact p
 ·exact p
theorem C9{p:UInt8→Bool}:∀{l:af} {b:UInt8},l.getLast?=some b→p b=false→(l.dropWhile p).getLast?=some b
 | [],b,h,_=>by simp at h
 | c:: l,b,h,hp=>by
   rw[List.dropWhile_cons];split
   ·rename_i hc;cases l with
    | nil=>simp at h;subst h;rw[hp]at hc;cases hc
    | cons d l=>exact C9 (by simpa[List.getLast?_cons_cons]using h) hp
   ·exact h
theorem indexAny_hit{m:af}:∀{l:af},0≤Lib.indexAny l m→∃b,l[(Lib.indexAny l m).toNat]?=some b∧m.contains b=true
 | [],h=>by simp[Lib.indexAny]at h
 | c:: l,h=>by
   unfold Lib.indexAny at h ⊢
   by_cases q:m.contains c=true
   ·rw[if_pos q];exact⟨c,rfl,q⟩
   ·rw[if_neg q]at h ⊢
    by_cases z:(Lib.indexAny l m == -1)=true
    ·rw[if_pos z]at h;exact absurd h (by decide)
    ·rw[if_neg z]at h ⊢;have hg:=Lib.indexAny_ge m l;have h0:0≤Lib.indexAny l m:= by have:Lib.indexAny l m≠-1:= (by simpa using z); omega
     obtain⟨b,hb,hm⟩:=indexAny_hit h0;refine⟨b, ?_,hm⟩;rw[show (Lib.indexAny l m+1).toNat=(Lib.indexAny l m).toNat+1 by omega,List.getElem?_cons_succ];exact hb
def gB(s:af)(a:Nat):af:=(s.take (Rt.iz s a).1).drop a
theorem Uo{s:af}{a:Nat}(ha:a<s.length)(hn:Rt.kD s a=true):gB s a≠[]∧(gB s a).length≤s.length∧sI (gB s a)∧(0≤Lib.indexAny (Lib.trimLeftS (gB s a) [43,45]) [101,69]→(Lib.indexAny (Lib.trimLeftS (gB s a) [43,45]) [101,69]).toNat+1<(Lib.trimLeftS (gB s a) [43,45]).length):=by
 obtain⟨h1,h2,h3⟩:=Bh ha hn;have h4:=Cf (s:=s) (i:=a) (by omega);have hl:(gB s a).length=(Rt.iz s a).1-a:=by unfold gB;rw[List.length_drop,aaI];omega
 have hg:∀j,j<(gB s a).length→(gB s a)[j]?=some (Rt.aB s (a+j)):=fun j hj=>by
  unfold gB;rw[aaG,ON,if_pos (by omega),jn (show a+j<s.length by omega)];exact dO _
 refine⟨fun e=>by rw[e]at hl;simp at hl;omega,by omega, ?_, ?_⟩
 ·intro b hb;obtain⟨j,hj,e⟩:=List.getElem_of_mem hb;have:=hg j hj;rw[dO hj]at this;rw[e]at this;rw[DO this];exact h3 _ (by omega) (by omega)
 ·have hlast:(gB s a).getLast?=some (Rt.aB s ((Rt.iz s a).1-1)):=by
   rw[List.getLast?_eq_getElem?,hg _ (by omega)]
   congr 2;omega
  have hp:([43,45]:af).contains (Rt.aB s ((Rt.iz s a).1-1))=false:=by
   have key:((List.range 256).all fun n=>!(Rt.cn (UInt8.ofNat n))||!(([43,45]:af).contains (UInt8.ofNat n)))=true:=by kernel_rfl
   have:=oW key (Rt.aB s ((Rt.iz s a).1-1));rw[UInt8.ofNat_toNat,h2]at this;simpa using this
  have hl2:(Lib.trimLeftS (gB s a) [43,45]).getLast?=some (Rt.aB s ((Rt.iz s a).1-1)):=C9 hlast hp;intro h0;obtain⟨b,hb,hm⟩:=indexAny_hit h0;have hlt:=(eQ.1 hb).1;rcases uP ((Lib.indexAny (Lib.trimLeftS (gB s a) [43,45]) [101,69]).toNat+1) (Lib.trimLeftS (gB s a) [43,45]).length with q|q
  ·exact q
  ·exfalso;rw[List.getLast?_eq_getElem?,show (Lib.trimLeftS (gB s a) [43,45]).length-1=(Lib.indexAny (Lib.trimLeftS (gB s a) [43,45]) [101,69]).toNat by omega,hb]at hl2;have:b=Rt.aB s ((Rt.iz s a).1-1):=DO hl2;rw[←this]at h2;have key:((List.range 256).all fun n=>!(Rt.cn (UInt8.ofNat n))||!(([101,69]:af).contains (UInt8.ofNat n)))=true:=by kernel_rfl
   have:=oW key b;rw[UInt8.ofNat_toNat,h2,hm]at this;cases this
def ki(s:af)(i:Nat):Tok×Nat:=
 let r:=Rt.iz s i
 if Rt.gM s r.1=true then (⟨12,[],mY (gB s i),(Rt.cY s r.1).1,r.2⟩,(Rt.cY s r.1).2)
 else if Rt.aB s r.1=37 then (⟨11,[],mY (gB s i),[],false⟩,r.1+1) else (⟨10,[],mY (gB s i),[],r.2⟩,r.1)
abbrev tv(t:Tok):aL:=cx t.k t.t t.n t.u t.f
theorem DP{V o:Nat}{H:aa}{t t':Tok}{c:AV}{KS:aa→Prop}(hv:H[V]?=some (tv t))(hc:bZ [u8 t.k,.str t.t,i_ t.n,.str t.u,Aw.b_ t.f] o [c]=[u8 t'.k,.str t'.t,i_ t'.n,.str t'.u,Aw.b_ t'.f])(ho:o<5)(hs:bQ c=true)(hk:bl c=[c])(q:KS (H.set V (tv t'))):ao 1 (.op V o) c H KS:=by
 refine aX (cs:=[c]) (h':=H.set V (tv t')) rfl hv rfl hk (by simp;omega) rfl (by rw[aa2,hs];rfl) ?_ q;show H.set V (.ah ⟨_,bZ _ o [c],true⟩)=_;rw[hc]
theorem Mt[Laid]{P:Program}{f:FuncId}{args args':List AV}{h:aa}{r:AV}{K:AV→Prop}(e:args=args')(hb:dr P f=true)(c:bn P f args' r)(k:K r):wU P (.fn (.func f) [] []) args h K:=by
 subst e;exact⟨r,hb,fun ext=>by simpa using c.call (h:=h++ext) (K:=fun v h' => v=r∧h'=h++ext) ⟨rfl,rfl⟩,k⟩
variable [bq]
theorem TZ{id a:Nat}{h:aa}{s:af}{y:AV}{K:AV→aa→Prop}(sc:Sc id h s a)(ey:y=.op id 0)(hs:s.length≤2^20)(ha:a<s.length)(hn:Rt.kD s a=true)(k:∀H,Mw id s (ki s a).2 h H→K (ki s a).1.av H):bz p_ (.fn (.func 70) [] []) [y] h K:=by
 subst ey;have hid:=sc.lt;refine cB (by kernel_rfl) rfl (K0:=fun r H=>r=(ki s a).1.av∧Mw id s (ki s a).2 h H) ?_ (by rintro r H ⟨rfl,m⟩;exact k H m);refine (V70 _).bI ?_;unfold XW;obtain⟨x1,x2,x3,x4⟩:=Uo ha hn;have hE:=Cf (s:=s) (i:=a) (by omega);obtain⟨E,b,hEb⟩:∃E b,Rt.iz s a=(E,b):=⟨_,_,rfl⟩;have hN:ki s a=if Rt.gM s E=true then (⟨12,[],mY (gB s a),(Rt.cY s E).1,b⟩,(Rt.cY s E).2) else if Rt.aB s E=37 then (⟨11,[],mY (gB s a),[],false⟩,E+1) else (⟨10,[],mY (gB s a),[],b⟩,E):=by unfold ki;rw[hEb]
 have hx:gB s a=(s.take E).drop a:=by unfold gB;rw[hEb]
 obtain⟨v,hv⟩:∃v,mY (gB s a)=v:=⟨_,rfl⟩;rw[hv]at hN;rw[hEb]at hE;dsimp only at hE;refine bW (cs:=[u8 0,.str [],i_ 0,.str [],ff]) (n:=h.length) (h':=h++[cx 0 [] 0 [] false]) rfl (by simp[bQ]) rfl rfl ?_;have sc2:Sc id (h++[cx 0 [] 0 [] false]) s a:=sc.app _;refine bx (zzA (zzU sc2 rfl (TY sc2 rfl hs (by omega) ?_)));rw[hEb];have m1:Mw id s E (h++[cx 0 [] 0 [] false]) ((h++[cx 0 [] 0 [] false]).set id (ek s E)):=(Mw.refl sc2).set E;have hV1:((h++[cx 0 [] 0 [] false]).set id (ek s E))[h.length]?=some (cx 0 [] 0 [] false):=by rw[m1.kq _ (by simp) (by omega)];simp
 have hL1:((h++[cx 0 [] 0 [] false]).set id (ek s E)).length=h.length+1:=by simp
 obtain⟨H1,hH1⟩:∃H1,(h++[cx 0 [] 0 [] false]).set id (ek s E)=H1:=⟨_,rfl⟩;rw[hH1]at m1 hV1 hL1 ⊢;refine bx (zzA (zzU m1.sc rfl (bx (zzA (zzU m1.sc rfl (nw (a:=a) (b:=E) (r:=gB s a) rfl rfl rfl (by omega) hE.2 hx.symm (Mt rfl (by kernel_rfl) (KG _ x1 (by omega) x3 x4) ?_)))))));rw[hv];refine bf rfl ?_;show ao _ _ _ _ _;obtain⟨T,hT⟩:∃T,H1.length+1+0=T:=⟨_,rfl⟩;rw[hT];have hgT:(H1++[aL.dead]++[cx 0 [] 0 [] false])[T]?=some (cx 0 [] 0 [] false):=by
  rw[←hT,gT (by simp)];simp
 have hlt:=(eQ.1 hgT).1;have hLx:(H1++[aL.dead]++[cx 0 [] 0 [] false]).length=T+1:=by simp;omega
 refine aX (cs:=[u8 10,.str [],i_ v,.str [],Aw.b_ b]) (h':=(H1++[aL.dead]++[cx 0 [] 0 [] false]).set T (tv ⟨10,[],v,[],b⟩)) rfl hgT rfl rfl (by simp) rfl (by simp[bQ]) rfl ?_;have oth2:∀i,i<h.length+1→((H1++[aL.dead]++[cx 0 [] 0 [] false]).set T (tv ⟨10,[],v,[],b⟩))[i]?=H1[i]?:=fun i hi=>by
  rw[iF (by omega),To,gO (by omega)]
 have m2:Mw id s E (h++[cx 0 [] 0 [] false]) ((H1++[aL.dead]++[cx 0 [] 0 [] false]).set T (tv ⟨10,[],v,[],b⟩)):=m1.ext (by first|(simp;done)|(simp;omega)) (by first|(simp;done)|(simp;omega)) fun i hi=>oth2 i (by simpa using hi);have hV2:((H1++[aL.dead]++[cx 0 [] 0 [] false]).set T (tv ⟨10,[],v,[],b⟩))[h.length]?=some (cx 0 [] 0 [] false):=by rw[oth2 _ (by omega)];exact hV1
 have hT2:((H1++[aL.dead]++[cx 0 [] 0 [] false]).set T (tv ⟨10,[],v,[],b⟩))[T]?=some (tv ⟨10,[],v,[],b⟩):=iD hlt;have hL2:((H1++[aL.dead]++[cx 0 [] 0 [] false]).set T (tv ⟨10,[],v,[],b⟩)).length=T+1:=by simp;omega
 obtain⟨H2,hH2⟩:∃H2,(H1++[aL.dead]++[cx 0 [] 0 [] false]).set T (tv ⟨10,[],v,[],b⟩)=H2:=⟨_,rfl⟩;rw[hH2]at m2 hV2 hT2 hL2 ⊢;refine cP (fun _ H=>Mw id s (ki s a).2 h H∧H[h.length]?=some (cx 0 [] 0 [] false)∧H[T]?=some (tv (ki s a).1)) (fun _ H hH=>?_) fun F hF=>?_
 ·obtain⟨mm,q1,q2⟩:=hH;refine zzV q2 (by simp) (qS (k:=(ki s a).1.k) (n:=(ki s a).1.n) (t:=(ki s a).1.t) (u:=(ki s a).1.u) (f:=(ki s a).1.f) q1 ?_);refine⟨_,_,Wk.refl _ _ _ (by simpa using mm.len),rfl, ?_⟩;exact mm.ext hid (by simp) fun i hi=>iF (by omega)
 ·refine A8 0 m2.sc rfl rfl (by omega) ?_;rw[Nat.add_zero,Bg];cases c1:Rt.gM s E with
  | true =>
    rw[if_pos c1]at hN;refine zzL rfl ?_;refine xP m2.sc rfl hs hE.2 fun H3 m3=>?_;have hT3:H3[T]?=some (tv ⟨10,[],v,[],b⟩):=by rw[m3.kq _ (by omega) (by omega)];exact hT2
    have hV3:H3[h.length]?=some (cx 0 [] 0 [] false):=by rw[m3.kq _ (by omega) (by omega)];exact hV2
    have hl3:=(eQ.1 hT3).1;refine zzA (DP (t':=⟨12,[],v,[],b⟩) hT3 rfl (by decide) rfl rfl (zzA ?_));refine DP (t':=⟨12,[],v,(Rt.cY s E).1,b⟩) (iD hl3) rfl (by decide) rfl rfl ?_;rw[aaM];refine aq (hF _ _ ⟨?_, ?_, ?_⟩)
    ·rw[hN];exact (m2.trans ⟨by simpa using m3.len,m3.sc,fun i hi hne=>m3.kq i hi hne⟩).pre.ext hid (by simp) fun i hi=>iF (by omega)
    ·rw[iF (by omega)];exact hV3
    ·rw[hN];exact iD hl3
  | false =>
    rw[if_neg (by rw[c1];decide)]at hN;refine zzK rfl (dx 0 m2.sc rfl rfl (by omega) ?_);rw[Nat.add_zero];refine zzG ?_;rw[gi (c:=37) 37 rfl (by decide)]
    by_cases c2:Rt.aB s E=37
    ·rw[if_pos c2]at hN;have hlt2:E<s.length:=at_lt (by rw[c2];decide);refine zzL (oF c2) (jR m2.sc (by omega) rfl ?_);have hT3:(H2.set id (ek s (E+1)))[T]?=some (tv ⟨10,[],v,[],b⟩):=by rw[iF (by omega)];exact hT2
     have hl3:=(eQ.1 hT3).1;refine zzA (DP (t':=⟨11,[],v,[],b⟩) hT3 rfl (by decide) rfl rfl (zzA ?_));refine DP (t':=⟨11,[],v,[],false⟩) (iD hl3) rfl (by decide) rfl rfl ?_;rw[aaM];refine aq (hF _ _ ⟨?_, ?_, ?_⟩)
     ·rw[hN];exact (m2.set (E+1)).pre.ext hid (by simp) fun i hi=>iF (by omega)
     ·rw[iF (by omega),iF (by omega)];exact hV2
     ·rw[hN];exact iD hl3
    ·rw[if_neg c2]at hN;refine zzK (nO c2) ?_;refine aq (hF _ _ ⟨by rw[hN];exact m2.pre,hV2,by rw[hN];exact hT2⟩)
end
section
open Go Go.Aw
variable [Laid]
def XQ(x0:AV)(h:aa)(K:AV→aa→Prop):Prop:=
 aW 70 (.agg [u8 0,.str [],i_ 0,.str [],ff]) h fun a q=>E1 q (fun P=>iC p_ 61 [x0,i_ 0] q fun g r=>qLd p_ x0 1 r fun Q=>qBe .add Q 1 fun R=>qSt p_ x0 1 R r fun S=>aw (fun s=>bL [qNs] S fun o d T =>
 iC p_ 61 [x0,i_ 0] T fun b i=>qBe .eql b (-1) fun U=>ag U (eC [a] (s [nx d 0] i)) (ae .eql b g fun V=>ag V (qLd p_ x0 1 i fun W=>qBe .add W 1 fun X=>qSt p_ x0 1 X i fun Y=>eC [a] (s [nx d 0] Y)) (qBe .eql b 10 fun Z=>ag Z (aY (.agg [u8 0,.str [],i_ 0,.str [],ff]) [(0,1,(u8 6))] fun a0=>ao 5 a a0 i fun t=>ak true 5 a t fun r33=>K r33 t) (qBe .eql b 92 fun u=>aw (fun v=>ar u true (iC p_ 61 [x0,i_ 1] i fun a1 a2=>qBe .eql a1 (-1) fun a3=>eC [x0,a,g,nx d 0,b] (v [tt,a3] a2)) (eC [x0,a,g,nx d 0,b] (v [aN true u,un] i))) fun k w=>aw (fun x=>ar (nx k 1) false (iC p_ 61 [x0,i_ 1] w fun a4 a5=>qBe .eql a4 10 fun a6=>eC [x0,a,g,nx d 0,b,nx k 0] (x [ff,a6] a5)) (eC [x0,a,g,nx d 0,b,nx k 0] (x [(aN false (nx k 1)),un] w))) fun y z=>qJa (nx k 0) [x0,a,g,nx d 0,b] z (fun a7=>aI (nx y 0) tt (nx y 1) fun a8=>a7 a8 z) fun a9 l=>ag a9 (qLd p_ x0 1 l fun b0=>qBe .add b0 2 fun b1=>qLd p_ x0 0 l fun b2=>kZ b2 fun b3=>nT b1 b3 fun b4=>qSt p_ x0 1 b4 l fun b5=>eC [x0,a,g] (o [nx d 0] b5)) (qBe .eql b 92 fun b6=>ag b6 (iC p_ 96 [x0,nx d 0] l fun b7 b8=>eC [x0,a,g] (o [b7] b8)) (cy .u8 b fun b9=>br 1 1 (u8 0) [(0,1,b9)] fun c0=>bP false 5 1 1 (nx d 0) c0 l fun c1 A=>qLd p_ x0 1 A fun c2=>qBe .add c2 1 fun c3=>qSt p_ x0 1 c3 A fun c4=>eC [x0,a,g] (o [c1] c4))))))) fun c5 B=>cJ (nx c5 0) B fun c6=>aY (.agg [u8 0,.str [],i_ 0,.str [],ff]) [(0,1,(u8 5)),(1,1,c6)] fun c7=>ao 5 a c7 B fun C=>ak true 5 a C fun r83=>K r83 C) fun P e c8 =>
 aw (fun D=>bL [nx e 1] c8 fun p f c9 =>
 iC p_ 61 [x0,i_ 0] c9 fun c j=>qBe .eql c (-1) fun d0=>ag d0 (eC [a] (D [nx f 0] j)) (ae .eql c (nx e 0) fun d1=>ag d1 (qLd p_ x0 1 j fun d2=>qBe .add d2 1 fun d3=>qSt p_ x0 1 d3 j fun d4=>eC [a] (D [nx f 0] d4)) (qBe .eql c 10 fun d5=>ag d5 (aY (.agg [u8 0,.str [],i_ 0,.str [],ff]) [(0,1,(u8 6))] fun d6=>ao 5 a d6 j fun E=>ak true 5 a E fun r102=>K r102 E) (qBe .eql c 92 fun F=>aw (fun G=>ar F true (iC p_ 61 [x0,i_ 1] j fun d7 d8=>qBe .eql d7 (-1) fun d9=>eC [x0,a,nx e 0,nx f 0,c] (G [tt,d9] d8)) (eC [x0,a,nx e 0,nx f 0,c] (G [aN true F,un] j))) fun m H=>aw (fun I=>ar (nx m 1) false (iC p_ 61 [x0,i_ 1] H fun e0 e1=>qBe .eql e0 10 fun e2=>eC [x0,a,nx e 0,nx f 0,c,nx m 0] (I [ff,e2] e1)) (eC [x0,a,nx e 0,nx f 0,c,nx m 0] (I [(aN false (nx m 1)),un] H))) fun J L=>qJa (nx m 0) [x0,a,nx e 0,nx f 0,c] L (fun e3=>aI (nx J 0) tt (nx J 1) fun e4=>e3 e4 L) fun e5 n=>ag e5 (qLd p_ x0 1 n fun e6=>qBe .add e6 2 fun e7=>qLd p_ x0 0 n fun e8=>kZ e8 fun e9=>nT e7 e9 fun f0=>qSt p_ x0 1 f0 n fun f1=>eC [x0,a,nx e 0] (p [nx f 0] f1)) (qBe .eql c 92 fun f2=>ag f2 (iC p_ 96 [x0,nx f 0] n fun f3 f4=>eC [x0,a,nx e 0] (p [f3] f4)) (cy .u8 c fun f5=>br 1 1 (u8 0) [(0,1,f5)] fun f6=>bP false 5 1 1 (nx f 0) f6 n fun f7 M=>qLd p_ x0 1 M fun f8=>qBe .add f8 1 fun f9=>qSt p_ x0 1 f9 M fun g0=>eC [x0,a,nx e 0] (p [f7] g0))))))) fun g1 N=>cJ (nx g1 0) N fun g2=>aY (.agg [u8 0,.str [],i_ 0,.str [],ff]) [(0,1,(u8 5)),(1,1,g2)] fun g3=>ao 5 a g3 N fun O=>ak true 5 a O fun r152=>K r152 O
theorem V64(x0:AV):fv p_ 64 [x0] (XQ x0):=mkM Tryz.func64 (sn (.seq (.loop [0] [] .nil) (.join [0,2] [3,4] (sn (sn (sn (sn (.join [2] [4] (.one (.loop [0,2,3] [4] (.one (sn (.one (sn (.two .nil (sn (.two .nil (sn (.two .nil (.seq (.aR (oR 0 3 (.aD 2 true (fR 3 4) [0,2,3,4,5] [50,54]::.aD 6 false (fR 7 3) [0,2,3,4,5,50] [54,57]::.aD 2 true [(10,false)] [0,2,3,4,5] [50,58]::oR 11 2 []))) (.two (.draw 14 (oR 0 14 []) [.op 14 false] []) (sn (.two .nil (.seq (.aR (oR 0 3 (.op 3 true::oR 4 2 []))) .nil)))))))))))))))) .nil))))) (sn (.join [2] [4] (.one (.loop [0,2,3] [4] (.one (sn (.one (sn (.two .nil (sn (.two .nil (sn (.two .nil (.seq (.aR (oR 0 3 (.aD 2 true (fR 3 4) [0,2,3,4,5] [50,54]::.aD 6 false (fR 7 3) [0,2,3,4,5,50] [54,57]::.aD 2 true [(10,false)] [0,2,3,4,5] [50,58]::oR 11 2 []))) (.two (.draw 14 (oR 0 14 []) [.op 14 false] []) (sn (.two .nil (.seq (.aR (oR 0 3 (.op 3 true::oR 4 2 []))) .nil)))))))))))))))) .nil))))) 83 [.cell 2 70]
end
section
open Go Go.Aw Go.RowKit
theorem EK(s:af)(i:Nat):(Rt.cU s i).1.length≤4:=by
 unfold Rt.cU;split
 ·simp[Rt.lG]
 ·split
  ·simp
  ·simp only[Rt.sx];repeat' split
   all_goals simp[Rt.lG]
theorem vE(a b:af)(r:Option af×Nat):Rt.kF a (Rt.kF b r)=Rt.kF (a++b) r:=by
 obtain⟨o,n⟩:=r;cases o<;>simp[Rt.kF]
theorem FJ(r:Option af×Nat):Rt.kF [] r=r:=by
 obtain⟨o,n⟩:=r;cases o<;>simp[Rt.kF]
def Gd:Option af→Tok
 | some t=>⟨5,t,0,[],false⟩
 | none=>⟨6,[],0,[],false⟩
def sw:Option af→Tok
 | some t=>⟨7,t,0,[],false⟩
 | none=>⟨8,[],0,[],false⟩
theorem PZ{s:af}{i:Nat}(h:i<s.length):IntKind.u8.wrap (pk s i)=(s[i].toNat:Int):=by
 rw[pK h,jn h,IntKind.wrap_u8];have:=s[i].toNat_lt;omega
theorem K9[Laid]{id i:Nat}{h H:aa}{s l:af}{x y:AV}{P:Program}(m:Mw id s i h H)(hid:id<h.length)(g:Gb h.length x H l)(hi:i<s.length)(hs:s.length≤2^20)(hl:l.length≤2^30)(ey:y=.op id 0){K:AV→aa→Prop}
 (k:∀z H',Mw id s (i+1) h H'→Gb h.length z H' (l++[s[i]])→K z H'):cy .u8 (i_ (pk s i)) fun v1=>br 1 1 (u8 0) [(0,1,v1)] fun v2=>bP false 5 1 1 x v2 H fun v3 g4=>ca P y fun v5=>bp 1 v5 fun v6=>ak false 1 v6 g4 fun v7=>ae .add v7 (i_ 1) fun v8=>ca P y fun v9=>bp 1 v9 fun v10=>ao 1 v10 v8 g4 fun g5=>K v3 g5:=by
 refine fk (m:=(s[i].toNat:Int)) rfl (PZ hi) (Gf ?_);refine qe (n:=h.length) (l:=l) (m:=[s[i]]) g m.len (by simp;omega) rfl fun z H' gz hz oz=>?_;have m2:=m.ext hid hz oz;exact jR m2.sc (by omega) ey (k _ _ (m2.set _) (gz.mv hid m2.sc))
variable [Laid]
theorem T4{id a:Nat}{h:aa}{s:af}{y:AV}{K:AV→aa→Prop}(sc:Sc id h s a)(ey:y=.op id 0)(hs:s.length≤2^20)(ha:a<s.length)(hm:Rt.aB s a=34∨Rt.aB s a=39)(k:∀H,Mw id s (Rt.ic (Rt.aB s a) s (a+1)).2 h H→K (Gd (Rt.ic (Rt.aB s a) s (a+1)).1).av H):bz p_ (.fn (.func 64) [] []) [y] h K:=by
 subst ey;have hid:=sc.lt;obtain⟨R,hR⟩:∃R,Rt.ic (Rt.aB s a) s (a+1)=R:=⟨_,rfl⟩;rw[hR]at k;refine cB (by kernel_rfl) rfl (K0:=fun r H=>r=(Gd R.1).av∧Mw id s R.2 h H) ?_ (by rintro r H ⟨rfl,m⟩;exact k H m);refine (V64 _).bI ?_;unfold XQ;refine bW (cs:=[u8 0,.str [],i_ 0,.str [],ff]) (n:=h.length) (h':=h++[cx 0 [] 0 [] false]) rfl (by simp[bQ]) rfl rfl ?_;obtain⟨hB,hhB⟩:∃hB,h++[cx 0 [] 0 [] false]=hB:=⟨_,rfl⟩;have hBl:hB.length=h.length+1:=by rw[←hhB];simp
 have scB':Sc id hB s a:=by rw[←hhB];exact sc.app _
 have hV:hB[h.length]?=some (cx 0 [] 0 [] false):=by rw[←hhB];simp
 have pre:∀{b H},Mw id s b hB H→Mw id s b h H:=fun m=>by rw[←hhB]at m;exact m.pre
 rw[hhB]
 -- a token is handed back
 have ret:∀(t:Tok) (b:Nat) (T:aa),Mw id s b hB T→R.2=b→(Gd R.1)=t→ao 5 (.op h.length 0) t.av T fun g=>ak true 5 (.op h.length 0) g fun r=>∃r' h'',Wk h.length [r] g [r'] h''∧r'=(Gd R.1).av∧Mw id s R.2 h h'':=by
  intro t b T m e1 e2;refine qS (k:=t.k) (n:=t.n) (t:=t.t) (u:=t.u) (f:=t.f) (by rw[m.kq _ (by omega) (by omega)];exact hV) ?_;refine⟨_,_,Wk.refl _ _ _ (by have:=m.len;simp;omega),by rw[e2], ?_⟩;rw[e1];exact (pre m).ext hid (by simp) fun i hi=>iF (by omega)
 refine HH (α:=Empty) (fun _=>True) (fun _=>[]) (fun _=>[]) (fun _=>0) ?_ (fun x=>x.elim);refine dx 0 scB' rfl rfl (by omega) ?_;rw[Nat.add_zero];refine jR scB' (by omega) rfl ?_;have m0:=(Mw.refl scB').set (a+1);have hmn:Rt.aB s a≠0:=by rcases hm with h|h<;>rw[h]<;>decide
 have hpm:pk s a=((Rt.aB s a).toNat:Int):=pK ha;obtain⟨mk,hmk⟩:∃mk,Rt.aB s a=mk:=⟨_,rfl⟩;rw[hmk]at hR hmn hpm;refine cP (fun v T=>∃l i,Gb hB.length (nx v 0) T l∧Mw id s i hB T∧R=(some l,i)) (fun v T hT=>?_) fun F hF=>?_
 ·obtain⟨l,i,g,m,e⟩:=hT;refine ER g (bf rfl ?_);exact ret ⟨5,l,0,[],false⟩ i T m (by rw[e]) (by rw[e];rfl)
 ·refine bc (α:=Nat×AV×aa×af) (fun p=>p.1≤s.length∧Mw id s p.1 hB p.2.2.1∧Gb hB.length p.2.1 p.2.2.1 p.2.2.2∧p.2.2.2.length≤4*p.1∧Rt.kF p.2.2.2 (Rt.ic mk s p.1)=R) (fun p=>[p.2.1]) (fun p=>p.2.2.1) (fun p=>s.length-p.1) (a+1,.v (.slice none 0 0),hB.set id (ek s (a+1)),[]) ⟨ha,m0,.inl ⟨rfl,rfl⟩,by simp,by rw[FJ];exact hR⟩ (Wk.refl _ _ _ (by simp)) ?_;rintro⟨i,x,H,l⟩ ⟨hi,m,g,hl,hr⟩;dsimp only at hi m g hl hr ⊢;have hH:=m.len;have hLn:(hB.set id (ek s (a+1))).length=hB.length:=by simp
  refine dx 0 m.sc rfl rfl (by omega) ?_;rw[Nat.add_zero];refine zzG ?_;rw[Rt.ic]at hr
  by_cases q:i<s.length
  ·rw[dif_pos q]at hr;have hat:=jn q;refine zzK (nO (by rw[jU];simpa using q)) (zzG ?_);rw[gi (c:=mk) _ hpm hmn]
   by_cases q1:Rt.aB s i=mk
   ·rw[if_pos (by rw[←hat];exact q1)]at hr;refine zzL (oF q1) (jR m.sc (by omega) rfl ?_);refine aq (hF _ _ ⟨l,i+1,g.mv (by omega) m.sc,m.set _,by rw[←hr];simp[Rt.kF]⟩)
   ·rw[if_neg (by rw[←hat];exact q1)]at hr;refine zzK (nO q1) (zzG ?_);rw[gi (c:=10) 10 rfl (by decide)]
    by_cases q2:Rt.aB s i=10
    ·rw[if_pos (by rw[←hat];exact q2)]at hr;refine zzL (oF q2) (bf rfl ?_);exact ret ⟨6,[],0,[],false⟩ i H m (by rw[←hr];rfl) (by rw[←hr];rfl)
    ·rw[if_neg (by rw[←hat];exact q2)]at hr;refine zzK (nO q2) (zzG ?_);rw[gi (c:=92) 92 rfl (by decide)]
     by_cases q3:Rt.aB s i=92
     ·rw[if_pos (by rw[←hat];exact q3)]at hr;rw[oF q3];refine aH (zzN rfl (dx 1 m.sc rfl rfl (by omega) (zzG (aq ?_))));refine mJ (decide (¬i+1<s.length∨Rt.aB s (i+1)=10)) (b1:=decide (pk s (i+1)=-1)) rfl (fun z=>by have z:=oN z;rw[jU]at z;simp[z]) (fun z F hF=>?_) fun v hv=>?_
      ·have z:=tO z;rw[jU]at z;refine dx 1 m.sc rfl rfl (by omega) (zzG ?_);rw[gi (c:=10) 10 rfl (by decide)];simp only[z,false_or]at hF;exact aq hF
      refine aH (zzN rfl (lH hv (aq (zzR ?_))))
      by_cases q4:¬i+1<s.length∨Rt.aB s (i+1)=10
      ·refine zzL (oF q4) (bx (zzA (zzU m.sc rfl (zzP (by unfold aJ;omega) (bx (zzA (zzU m.sc rfl (IK rfl (zzd (bx (zzA (aX (cs:=[i_ ((min (i+2) s.length:Nat):Int)]) (h':=H.set id (ek s (min (i+2) s.length))) rfl m.sc rfl (by show [i_ (min ((i:Int)+2) (s.length:Int))]=_;rw[show min ((i:Int)+2) (s.length:Int)=((min (i+2) s.length:Nat):Int) by omega]) (by simp) rfl rfl rfl ?_))))))))))));refine aq ⟨(min (i+2) s.length,x,H.set id (ek s (min (i+2) s.length)),l),⟨Nat.min_le_right _ _,m.set _,g.mv (by omega) m.sc,by dsimp only;omega, ?_⟩,Wk.refl _ _ _ (by simp;omega),by dsimp only;omega⟩;dsimp only;rw[←hr]
       by_cases q5:i+1=s.length
       ·rw[if_pos q5,show min (i+2) s.length=i+1 by omega,Rt.ic,dif_neg (by omega)]
       ·rw[if_neg q5,show min (i+2) s.length=i+2 by omega];rw[if_pos (q4.resolve_left (by omega))]
      ·refine zzK (nO q4) ?_;have q5:i+1≠s.length:=by omega
       have q6:Rt.aB s (i+1)≠10:=fun z=>q4 (.inr z);rw[if_neg q5,if_neg q6]at hr;refine zzG ?_;rw[gi (c:=92) 92 rfl (by decide)];refine zzL (oF q3) ?_;have hel:=EK s i;have heg:=Rt.gd s i;refine tc m (by omega) rfl g hs (by omega) q fun z H' mz gz=>?_;refine aq ⟨((Rt.cU s i).2,z,H',l++(Rt.cU s i).1),⟨lr q,mz,gz,by simp;omega, ?_⟩,Wk.refl _ _ _ (by have:=mz.len;omega),by dsimp only;omega⟩;dsimp only;rw[←hr,vE]
     ·rw[if_neg (by rw[←hat];exact q3)]at hr;rw[nO q3];refine aH (zzM rfl (aq (aH (dc rfl (aq (aH (zzM rfl (aq (zzQ (zzK rfl (zzG ?_)))))))))));rw[gi (c:=92) 92 rfl (by decide)];refine zzK (nO q3) ?_;refine K9 m (by omega) g q hs (by omega) rfl fun z H' mz gz=>?_;refine aq ⟨(i+1,z,H',l++[s[i]]),⟨q,mz,gz,by simp;omega, ?_⟩,Wk.refl _ _ _ (by have:=mz.len;omega),by dsimp only;omega⟩;dsimp only;rw[←hr,vE]
  ·rw[dif_neg q]at hr;refine zzL (oF (jU.2 q)) ?_;exact aq (hF _ _ ⟨l,i,g,m,by rw[←hr];simp[Rt.kF]⟩)
theorem TW{id a:Nat}{h:aa}{s:af}{y:AV}{K:AV→aa→Prop}(sc:Sc id h s a)(ey:y=.op id 0)(hs:s.length≤2^20)(ha:a≤s.length)(k:∀H,Mw id s (Rt.mT s a) h H→K (sw none).av H):bz p_ (.fn (.func 141) [] []) [y] h K:=by
 subst ey;have hid:=sc.lt;obtain⟨R,hR⟩:∃R,Rt.mT s a=R:=⟨_,rfl⟩;rw[hR]at k;refine cB (by kernel_rfl) rfl (K0:=fun r H=>r=(sw none).av∧Mw id s R h H) ?_ (by rintro r H ⟨rfl,m⟩;exact k H m);refine (YV _).bI ?_;unfold SD;refine bW (cs:=[u8 0,.str [],i_ 0,.str [],ff]) (n:=h.length) (h':=h++[cx 0 [] 0 [] false]) rfl (by simp[bQ]) rfl rfl ?_;obtain⟨hB,hhB⟩:∃hB,h++[cx 0 [] 0 [] false]=hB:=⟨_,rfl⟩;have hBl:hB.length=h.length+1:=by rw[←hhB];simp
 have scB':Sc id hB s a:=by rw[←hhB];exact sc.app _
 have hV:hB[h.length]?=some (cx 0 [] 0 [] false):=by rw[←hhB];simp
 have pre:∀{b H},Mw id s b hB H→Mw id s b h H:=fun m=>by rw[←hhB]at m;exact m.pre
 rw[hhB];have ret:∀(b:Nat) (T:aa),Mw id s b hB T→R=b→ao 5 (.op h.length 0) (vW 8 [] 0 [] false) T fun g=>ak true 5 (.op h.length 0) g fun r=>∃r' h'',Wk h.length [r] g [r'] h''∧r'=(sw none).av∧Mw id s R h h'':=by
  intro b T m e1;refine qS (k:=8) (n:=0) (t:=[]) (u:=[]) (f:=false) (by rw[m.kq _ (by omega) (by omega)];exact hV) ?_;refine⟨_,_,Wk.refl _ _ _ (by have:=m.len;simp;omega),rfl, ?_⟩;rw[e1];exact (pre m).ext hid (by simp) fun i hi=>iF (by omega)
 refine bc (α:=Nat×aa) (fun p=>p.1≤s.length∧Mw id s p.1 hB p.2∧Rt.mT s p.1=R) (fun p=>[]) (fun p=>p.2) (fun p=>s.length-p.1) (a,hB) ⟨ha,Mw.refl scB',hR⟩ (Wk.refl _ _ _ (bY _)) ?_;rintro⟨i,H⟩ ⟨hi,m,hr⟩;dsimp only at hi m hr ⊢;have hH:=m.len;refine dx 0 m.sc rfl rfl (by omega) ?_;rw[Nat.add_zero];refine zzG ?_;rw[Rt.mT]at hr
 by_cases q:i<s.length
 ·rw[dif_pos q]at hr;have hat:=jn q;refine zzK (nO (by rw[jU];simpa using q)) (xO 0 m.sc rfl rfl (by omega) ?_);rw[Nat.add_zero,uf];cases q1:Rt.cC s i with
  | true =>
    have n41:s[i]≠41:=by
     rw[←hat];unfold Rt.cC at q1;simp at q1;rw[q1.1];decide
    rw[if_neg n41,if_pos q1]at hr;have heg:=Rt.gd s i;refine zzL rfl ?_;refine tc (l:=[]) m (by omega) rfl (.inl ⟨rfl,rfl⟩) hs (by simp) q fun z H' mz gz=>?_;exact aq ⟨((Rt.cU s i).2,H'),⟨lr q,mz,hr⟩,Wk.refl _ _ _ mz.len,by dsimp only;omega⟩
  | false =>
    refine zzK rfl (jR m.sc (by omega) rfl ?_);have m2:=m.set (i+1);refine bx (zzA (zzU m2.sc rfl (bx (zzA (zzU m2.sc rfl (zze (by unfold aJ;omega) ?_))))));refine tW (n:=i) (b:=s[i]) rfl (by show i_ (((i+1:Nat):Int)-1)=_;rw[show ((i+1:Nat):Int)-1=(i:Int) by omega]) (dO q) ?_;refine zzG ?_
    by_cases q2:s[i]=41
    ·rw[if_pos q2]at hr;refine zzL (oF (by rw[q2];rfl)) (bf rfl ?_);exact ret (i+1) _ m2 hr.symm
    ·rw[if_neg q2,if_neg (by rw[q1];decide)]at hr;refine zzK (nO (fun z=>q2 (UInt8.toNat_inj.1 (by show s[i].toNat=41;omega)))) ?_;exact aq ⟨(i+1,H.set id (ek s (i+1))),⟨q,m2,hr⟩,Wk.refl _ _ _ (by simpa using hH),by dsimp only;omega⟩
 ·rw[dif_neg q]at hr;refine zzL (oF (jU.2 q)) (bf rfl ?_);exact ret i H m (by omega)
end
section
open Go Go.Aw Go.RowKit
theorem UD{s:af}{i:Nat}(h:i<s.length):(decide (pk s i≤8)||decide (pk s i=11)||jv (pk s i) 14 31||decide (pk s i=127))=Rt.Gr s[i]:=by
 rw[pK h,jn h];unfold Rt.Gr jv;have e1:decide (((s[i].toNat:Nat):Int)≤8)=decide (s[i].toNat≤8):=decide_eq_decide.2 (by omega);have e2:decide (((s[i].toNat:Nat):Int)=11)=decide (s[i].toNat=11):=decide_eq_decide.2 (by omega);have e3:decide (14≤((s[i].toNat:Nat):Int))=decide (14≤s[i].toNat):=decide_eq_decide.2 (by omega);have e4:decide (((s[i].toNat:Nat):Int)≤31)=decide (s[i].toNat≤31):=decide_eq_decide.2 (by omega);have e5:decide (((s[i].toNat:Nat):Int)=127)=decide (s[i].toNat=127):=decide_eq_decide.2 (by omega);rw[e1,e2,e3,e4,e5]
theorem rp{s:af}{i:Nat}(hi:i≤s.length):i≤Rt.eO s i∧Rt.eO s i≤s.length:=by
 unfold Rt.eO;have:=(List.takeWhile_sublist (l:=s.drop i) Rt.eY).length_le;rw[List.length_drop]at this;omega
theorem uS(s:af):∀n i,s.length-i≤n→i≤s.length→Rt.mT s i≤s.length
 | 0,i,hn,hi=>by rw[Rt.mT,dif_neg (by omega)];omega
 | n+1,i,hn,hi=>by
   rw[Rt.mT];split
   ·rename_i h;split
    ·omega
    ·split
     ·have:=Rt.gd s i;exact uS s n _ (by omega) (lr h)
     ·exact uS s n _ (by omega) h
   ·omega
variable [Laid]
theorem T6{id a:Nat}{h:aa}{s:af}{y:AV}{K:AV→aa→Prop}(sc:Sc id h s a)(ey:y=.op id 0)(hs:s.length≤2^20)(ha:a≤s.length)(k:∀H,Mw id s (Rt.jd s (Rt.eO s a)).2 h H→K (sw (Rt.jd s (Rt.eO s a)).1).av H):bz p_ (.fn (.func 102) [] []) [y] h K:=by
 subst ey;have hid:=sc.lt;obtain⟨R,hR⟩:∃R,Rt.jd s (Rt.eO s a)=R:=⟨_,rfl⟩;rw[hR]at k;refine cB (by kernel_rfl) rfl (K0:=fun r H=>r=(sw R.1).av∧Mw id s R.2 h H) ?_ (by rintro r H ⟨rfl,m⟩;exact k H m);refine (Yv _).bI ?_;unfold Sa;refine bW (cs:=[u8 0,.str [],i_ 0,.str [],ff]) (n:=h.length) (h':=h++[cx 0 [] 0 [] false]) rfl (by simp[bQ]) rfl rfl ?_;obtain⟨hB,hhB⟩:∃hB,h++[cx 0 [] 0 [] false]=hB:=⟨_,rfl⟩;have hBl:hB.length=h.length+1:=by rw[←hhB];simp
 have scB':Sc id hB s a:=by rw[←hhB];exact sc.app _
 have hV:hB[h.length]?=some (cx 0 [] 0 [] false):=by rw[←hhB];simp
 have pre:∀{b H},Mw id s b hB H→Mw id s b h H:=fun m=>by rw[←hhB]at m;exact m.pre
 rw[hhB];have ret:∀(t:Tok) (b:Nat) (T:aa),Mw id s b hB T→R.2=b→(sw R.1)=t→ao 5 (.op h.length 0) t.av T fun g=>ak true 5 (.op h.length 0) g fun r=>∃r' h'',Wk h.length [r] g [r'] h''∧r'=(sw R.1).av∧Mw id s R.2 h h'':=by
  intro t b T m e1 e2;refine qS (k:=t.k) (n:=t.n) (t:=t.t) (u:=t.u) (f:=t.f) (by rw[m.kq _ (by omega) (by omega)];exact hV) ?_;refine⟨_,_,Wk.refl _ _ _ (by have:=m.len;simp;omega),by rw[e2], ?_⟩;rw[e1];exact (pre m).ext hid (by simp) fun i hi=>iF (by omega)
 refine A9 scB' rfl ha hs ?_;have hsp:=rp ha;have m0:=(Mw.refl scB').set (Rt.eO s a);refine bc (α:=Nat×AV×aa×af) (fun p=>p.1≤s.length∧Mw id s p.1 hB p.2.2.1∧Gb hB.length p.2.1 p.2.2.1 p.2.2.2∧p.2.2.2.length≤4*p.1∧Rt.kF p.2.2.2 (Rt.jd s p.1)=R) (fun p=>[p.2.1]) (fun p=>p.2.2.1) (fun p=>s.length-p.1) (Rt.eO s a,.v (.slice none 0 0),hB.set id (ek s (Rt.eO s a)),[]) ⟨hsp.2,m0,.inl ⟨rfl,rfl⟩,by simp,by rw[FJ];exact hR⟩ (Wk.refl _ _ _ (by simp)) ?_;rintro⟨i,x,H,l⟩ ⟨hi,m,g,hl,hr⟩;dsimp only at hi m g hl hr ⊢;have hH:=m.len;refine dx 0 m.sc rfl rfl (by omega) ?_;rw[Nat.add_zero]
 -- the ends
 have endU:∀(j:Nat) (T:aa),Mw id s j hB T→Gb hB.length x T l→R=(some l,j)→cJ x T fun v30=>aY (.agg [(u8 0),(.str []),(i_ 0),(.str []),ff]) [(0,1,(u8 7)),(1,1,v30)] fun v31=>ao 5 (.op h.length 0) v31 T fun g32=>ak true 5 (.op h.length 0) g32 fun r33=>∃r' h'',Wk h.length [r33] g32 [r'] h''∧r'=(sw R.1).av∧Mw id s R.2 h h'':=fun j T mj gj e=>by
  refine ER gj (bf rfl ?_);exact ret ⟨7,l,0,[],false⟩ j T mj (by rw[e]) (by rw[e];rfl)
 have endB:∀(j:Nat) (T:aa),j≤s.length→Mw id s j hB T→R=(none,Rt.mT s j)→bz p_ (.fn (.func 141) [] []) [.op id 0] T fun v23 g24=>ao 5 (.op h.length 0) v23 g24 fun g25=>ak true 5 (.op h.length 0) g25 fun r26=>∃r' h'',Wk h.length [r26] g25 [r'] h''∧r'=(sw R.1).av∧Mw id s R.2 h h'':=fun j T hj mj e=>by
  refine TW mj.sc rfl hs hj fun T2 m2=>?_;have m3:Mw id s (Rt.mT s j) hB T2:=mj.trans m2;exact ret ⟨8,[],0,[],false⟩ _ T2 m3 (by rw[e]) (by rw[e];rfl)
 -- behind spaces
 refine cP (fun v T=>∃j,nx v 0=i_ (pk s j)∧j≤s.length∧i≤j∧Mw id s j hB T∧Gb hB.length x T l∧((j=i∧Rt.eY (Rt.aB s i)=false)∨(R=(some l,min s.length (j+1))∧(¬j<s.length∨Rt.aB s j=41)))) (fun v T hT=>?_) fun F hF=>?_
 ·obtain⟨j,hv,hj,hij,mj,gj,hc⟩:=hT;rw[hv];refine zzG ?_
  by_cases q:j<s.length
  ·have hat:=jn q;refine zzK (nO (by rw[jU];simpa using q)) (zzG ?_);rw[gi (c:=41) 41 rfl (by decide)]
   by_cases q1:Rt.aB s j=41
   ·have e:R=(some l,j+1):=by
     rcases hc with⟨rfl,hc⟩|⟨hc,_⟩
     ·rw[←hr,Rt.jd,dif_pos q,if_pos (by rw[←hat];exact q1)];simp[Rt.kF]
     ·rw[hc,show min s.length (j+1)=j+1 by omega]
    refine zzL (oF q1) (jR mj.sc (by omega) rfl ?_);exact endU (j+1) _ (mj.set _) (gj.mv (by omega) mj.sc) e
   ·rcases hc with⟨rfl,hc⟩|⟨_,hc⟩;rotate_left
    ·rcases hc with hc|hc
     ·exact absurd q hc
     ·exact absurd hc q1
    rw[Rt.jd,dif_pos q,if_neg (by rw[←hat];exact q1),if_neg (by rw[←hat,hc];decide)]at hr;refine zzK (nO q1) (zzG ?_);rw[gi (c:=34) 34 rfl (by decide)];have tr:∀(b c:Bool),decide (b=true∨c=true)=(b||c):=fun b c=>by cases b<;>cases c<;>rfl
    refine mJ (decide (Rt.aB s j=34)||decide (Rt.aB s j=39)) rfl (fun z=>by rw[z];rfl) (fun z F hF=>?_) fun v1 hv1=>?_
    ·refine zzG ?_;rw[gi (c:=39) 39 rfl (by decide)];rw[z,Bool.false_or]at hF;exact aq hF
    refine lH hv1 ?_;refine mJ (decide (Rt.aB s j=34)||decide (Rt.aB s j=39)||decide (Rt.aB s j=40)) rfl (fun z=>by rw[z];rfl) (fun z F hF=>?_) fun v1 hv1=>?_
    ·refine zzG ?_;rw[gi (c:=40) 40 rfl (by decide)];rw[z,Bool.false_or]at hF;exact aq hF
    refine lH hv1 ?_;refine mJ (decide (Rt.aB s j=34)||decide (Rt.aB s j=39)||decide (Rt.aB s j=40)||decide (pk s j≤8)) rfl (fun z=>by rw[z];rfl) (fun z F hF=>?_) fun v1 hv1=>?_
    ·refine zzD ?_;rw[z,Bool.false_or]at hF;exact aq hF
    refine lH hv1 ?_;refine mJ (decide (Rt.aB s j=34)||decide (Rt.aB s j=39)||decide (Rt.aB s j=40)||decide (pk s j≤8)||decide (pk s j=11)) rfl (fun z=>by rw[z];rfl) (fun z F hF=>?_) fun v1 hv1=>?_
    ·refine zzG ?_;rw[z,Bool.false_or]at hF;exact aq hF
    refine lH hv1 ?_;refine mJ (decide (Rt.aB s j=34)||decide (Rt.aB s j=39)||decide (Rt.aB s j=40)||decide (pk s j≤8)||decide (pk s j=11)||jv (pk s j) 14 31) rfl (fun z=>by rw[z];rfl) (fun z F hF=>?_) fun v1 hv1=>?_
    ·refine uCon (pI _ _ _) ?_;rw[z,Bool.false_or]at hF;exact aq hF
    refine lH hv1 ?_;refine mJ (decide (Rt.aB s j=34)||decide (Rt.aB s j=39)||decide (Rt.aB s j=40)||decide (pk s j≤8)||decide (pk s j=11)||jv (pk s j) 14 31||decide (pk s j=127)) rfl (fun z=>by rw[z];rfl) (fun z F hF=>?_) fun v1 hv1=>?_
    ·refine zzG ?_;rw[z,Bool.false_or]at hF;exact aq hF
    refine lH hv1 ?_;have hb:(decide (Rt.aB s j=34)||decide (Rt.aB s j=39)||decide (Rt.aB s j=40)||decide (pk s j≤8)||decide (pk s j=11)||jv (pk s j) 14 31||decide (pk s j=127))=decide (s[j]=34∨s[j]=39∨s[j]=40∨Rt.Gr s[j]=true):=by
     rw[←UD q,hat,Bool.eq_iff_iff];simp only[aa7,Of];simp only[or_assoc]
    rw[hb]
    by_cases q2:s[j]=34∨s[j]=39∨s[j]=40∨Rt.Gr s[j]=true
    ·rw[if_pos (by rcases q2 with h|h|h|h<;>simp[h])]at hr;refine zzL (oF q2) ?_;exact endB j T hj mj (by rw[←hr];rfl)
    ·refine zzK (nO q2) (zzH ?_);rw[gi (c:=92) 92 rfl (by decide)];have hH2:=mj.len
     by_cases q3:Rt.aB s j=92
     ·refine zzK (by rw[oF q3];rfl) (xO 0 mj.sc rfl rfl (by omega) ?_);rw[Nat.add_zero,uf];cases q4:Rt.cC s j with
      | true =>
        rw[if_neg (by simp only[q4];rintro (z|z|z|z|⟨_,z⟩);exact q2 (.inl z);exact q2 (.inr (.inl z));exact q2 (.inr (.inr (.inl z)));exact q2 (.inr (.inr (.inr z)));cases z),if_pos (by rw[←hat];exact q3)]at hr;refine zzL rfl ?_;have hel:=EK s j;have heg:=Rt.gd s j;refine tc mj (by omega) rfl gj hs (by omega) q fun z H' mz gz=>?_;refine aq ⟨((Rt.cU s j).2,z,H',l++(Rt.cU s j).1),⟨lr q,mz,gz,by simp;omega, ?_⟩,Wk.refl _ _ _ (by have:=mz.len;simp;omega),by dsimp only;omega⟩;dsimp only;rw[←hr,vE]
      | false =>
        rw[if_pos (.inr (.inr (.inr (.inr ⟨by rw[←hat];exact q3,q4⟩))))]at hr;refine zzK rfl ?_;exact endB j T hj mj (by rw[←hr];rfl)
     ·rw[if_neg (by rintro (z|z|z|z|⟨z,_⟩);exact q2 (.inl z);exact q2 (.inr (.inl z));exact q2 (.inr (.inr (.inl z)));exact q2 (.inr (.inr (.inr z)));exact q3 (by rw[hat];exact z)),if_neg (by rw[←hat];exact q3)]at hr;refine zzL (by rw[nO q3];rfl) ?_;refine K9 mj (by omega) gj q hs (by omega) rfl fun z H' mz gz=>?_;refine aq ⟨(j+1,z,H',l++[s[j]]),⟨q,mz,gz,by simp;omega, ?_⟩,Wk.refl _ _ _ (by have:=mz.len;simp;omega),by dsimp only;omega⟩;dsimp only;rw[←hr,vE]
  ·have e:R=(some l,j):=by
    rcases hc with⟨rfl,hc⟩|⟨hc,_⟩
    ·rw[←hr,Rt.jd,dif_neg q];simp[Rt.kF];omega
    ·rw[hc,show min s.length (j+1)=j by omega]
   refine zzL (oF (jU.2 q)) ?_;exact endU j T mj gj e
 ·refine uCon (sQ _) ?_;rw[Bp];cases c:Rt.eY (Rt.aB s i) with
  | false =>
    refine zzK rfl ?_;exact aq (hF _ _ ⟨i,rfl,hi,bY _,m,g,.inl ⟨rfl,c⟩⟩)
  | true =>
    have q:i<s.length:=at_lt fun e=>by rw[e]at c;exact absurd c (by decide)
    have hat:=jn q;have n41:s[i]≠41:=fun e=>by rw[hat,e]at c;exact absurd c (by decide)
    rw[Rt.jd,dif_pos q,if_neg n41,if_pos (by rw[←hat];exact c)]at hr;refine zzL rfl (A9 m.sc rfl hi hs ?_);have hsp:=rp hi;obtain⟨j,hj⟩:∃j,Rt.eO s i=j:=⟨_,rfl⟩;rw[hj]at hsp hr ⊢;have mj:=m.set j;have gj:=g.mv (s:=s) (b:=j) (by omega) m.sc;refine dx 0 mj.sc rfl rfl (by omega) ?_;rw[Nat.add_zero];refine zzH ?_;rw[gi (c:=41) 41 rfl (by decide)];refine mq (decide (j<s.length∧Rt.aB s j≠41)) (b1:=!decide (Rt.aB s j=41)) rfl (fun z=>by simp at z;simp[z]) (fun z F hF=>?_) fun v hv=>?_
    ·refine zzH ?_;have z:Rt.aB s j≠41:=by simpa using z
     have e:(!decide (pk s j=-1))=decide (j<s.length∧Rt.aB s j≠41):=by
      rw[Bool.eq_iff_iff];simp only[aa8,decide_eq_false_iff_not,Of,jU];exact⟨fun y=>⟨by omega,z⟩,fun y=>by omega⟩
     rw[e];exact aq hF
    refine lh hv ?_
    by_cases q2:j<s.length∧Rt.aB s j≠41
    ·rw[if_pos q2]at hr;refine zzL (oF q2) ?_;exact endB j _ hsp.2 mj (by rw[←hr];rfl)
    ·rw[if_neg q2]at hr;refine zzK (nO q2) ?_;refine aq (hF _ _ ⟨j,rfl,hsp.2,hsp.1,mj,gj,.inr ⟨by rw[←hr];simp[Rt.kF], ?_⟩⟩)
     by_cases z:j<s.length
     ·right
      by_cases z2:Rt.aB s j=41
      ·exact z2
      ·exact absurd ⟨z,z2⟩ q2
     ·exact .inl z
end
section
open Go Go.Aw
variable [Laid]
def Xe(x0:AV)(h:aa)(K:AV→aa→Prop):Prop:=
 bu x0 fun c=>qBe .eql c 0 fun d=>qJo d [x0] h (fun e=>iC p_ 33 [x0,.fn (.func 34) [] []] h e) fun f a=>ag f (K (i_ 8) a) (iC p_ 26 [x0] a fun g b=>qBe .gtr g 64 fun i=>ag i (K (i_ 4) b) (K (i_ 0) b))
theorem V20(x0:AV):Body p_ 20 [x0] (Xe x0):=bB Tryz.func20 (sn (.seq (.seq (.aR (oR 0 4 (.aD 3 false (fR 4 2) [0] [6,8]::.op 6 false::[]))) .nil) .nil)) 13 [.tmp 2]
def Xq(x0 x1:AV)(h:aa)(K:AV→aa→Prop):Prop:=
 iC p_ 47 [x0,x1] h fun a b=>qBe .geq a 0 fun c=>K c b
theorem V33(x0 x1:AV):Body p_ 33 [x0,x1] (Xq x0 x1):=bB Tryz.func33 .nil 9 [.tmp 4]
def Xr(x0:AV)(h:aa)(K:AV→aa→Prop):Prop:=
 aW 39 x0 h fun b a=>ak true 3 b a fun c=>aY (.agg [i_ 0,ff]) [] fun d=>iC p_ 35 [c,d,ff] a fun e f=>cq e fun g=>K g f
theorem V34(x0:AV):Body p_ 34 [x0] (Xr x0):=bB Tryz.func34 .nil 7 [.tmp 2]
def XD(x0 x1:AV)(h:aa)(K:AV→aa→Prop):Prop:=
 bu x0 fun c=>bL [i_ 0] h fun e a b =>
 ae .lss (nx a 0) c fun f=>ag f (aQ 3 x0 (nx a 0) fun g=>ak true 3 g b fun i=>bz p_ x1 [i] b fun j d=>ag j (K (nx a 0) d) (qBe .add (nx a 0) 1 fun k=>eC [x0,x1,c] (e [k] d))) (K (i_ (-1)) b)
theorem V47(x0 x1:AV):Body p_ 47 [x0,x1] (XD x0 x1):=bB Tryz.func47 (sn (.seq (sn (.one (.loop [0,1,7] [8] .nil))) .nil)) 19 [.tmp 4]
def Xs(x0 x1 x2:AV)(h:aa)(K:AV→aa→Prop):Prop:=
 aW 39 x0 h fun a n=>aW 80 x1 n fun b d=>iFL 0 false 1 a d fun o=>ae .neq o (u8 0) fun p=>qN .neq x2 p fun q=>qJo q [a,b] d (fun r=>iFL 0 false 1 a d fun s=>ae .gtr s (u8 4) fun t=>r t d) fun u e=>qJo u [a,b] e (fun v=>iFL 2 false 1 a e fun w=>bu w fun x=>qBe .add x 1 fun y=>iFL 1 false 1 a e fun z=>bu z fun A=>ae .neq y A fun B=>v B e) fun C i=>qJo C [a,b] i (fun D=>iFL 1 false 1 a i fun E=>bu E fun F=>qBe .gtr F 64 fun G=>D G i) fun H j=>ag H (K ff j) (iFL 2 false 1 a j fun f=>bu f fun k=>bL [i_ 0] j fun I g c =>
 ae .lss (nx g 0) k fun J=>ag J (aQ 1 f (nx g 0) fun L=>ak false 1 L c fun l=>ae .lss l (u8 1) fun M=>qJo M [a,b,f,k,nx g 0] c (fun N=>ae .gtr l (u8 4) fun O=>N O c) fun P m=>ag P (K ff m) (qBe .add (nx g 0) 1 fun Q=>eC [a,b,f,k] (I [Q] m))) (iFL 1 false 1 a c fun R=>iC p_ 48 [R,(.fn (.func 49) [] [b])] c fun S T=>cq S fun U=>K U T))
theorem V35(x0 x1 x2:AV):Body p_ 35 [x0,x1,x2] (Xs x0 x1 x2):=bB Tryz.func35 (sn (.seq (.seq (.aR (oR 0 6 (.aD 5 false (fR 6 3) [3,4] [14,17]::oR 9 2 (.aD 10 false (fR 11 8) [3,4] [19,27]::oR 19 2 (.aD 20 false (fR 21 4) [3,4] [29,33]::.op 25 false::[]))))) .nil) (.seq (sn (.one (.loop [3,4,36,37] [38] (sn (sn (.seq (.one (sn (.seq (.aR (oR 0 3 (.aD 2 false (fR 3 2) [3,4,36,37,38] [44,46]::.op 5 false::[]))) .nil))) .nil)))))) .nil))) 54 [.tmp 6]
def XE(x0 x1:AV)(h:aa)(K:AV→aa→Prop):Prop:=
 iC p_ 80 [x0,x1] h fun a b=>qBe .geq a 0 fun c=>K c b
theorem V48(x0 x1:AV):Body p_ 48 [x0,x1] (XE x0 x1):=bB Tryz.func48 .nil 9 [.tmp 4]
def XF(x0 x1:AV)(h:aa)(K:AV→aa→Prop):Prop:=
 aW 42 x0 h fun b a=>ak true 2 b a fun c=>ak true 2 x1 a fun d=>iC p_ 50 [c,d] a fun e f=>cq e fun g=>K g f
theorem V49(x0 x1:AV):Body p_ 49 [x0,x1] (XF x0 x1):=bB Tryz.func49 .nil 8 [.tmp 3]
def X5(x0 x1:AV)(h:aa)(K:AV→aa→Prop):Prop:=
 bu x0 fun c=>bL [i_ 0] h fun e a b =>
 ae .lss (nx a 0) c fun f=>ag f (aQ 2 x0 (nx a 0) fun g=>ak true 2 g b fun i=>bz p_ x1 [i] b fun j d=>ag j (K (nx a 0) d) (qBe .add (nx a 0) 1 fun k=>eC [x0,x1,c] (e [k] d))) (K (i_ (-1)) b)
theorem V80(x0 x1:AV):Body p_ 80 [x0,x1] (X5 x0 x1):=bB Tryz.func80 (sn (.seq (sn (.one (.loop [0,1,7] [8] .nil))) .nil)) 19 [.tmp 4]
def XG(x0 x1:AV)(h:aa)(K:AV→aa→Prop):Prop:=
 aW 42 x0 h fun a o=>aW 80 x1 o fun c d=>iFL 0 false 1 a d fun p=>ae .neq p (.str []) fun q=>qJa q [a,c] d (fun r=>iFL 0 false 1 a d fun s=>ae .neq s (.str [42]) fun t=>r t d) fun u e=>qJa u [a,c] e (fun v=>iFL 0 false 1 a e fun w=>iC p_ 81 [w] e fun x y=>cq x fun z=>v z y) fun A f=>qJo A [a,c] f (fun B=>iFL 1 false 1 a f fun C=>bu C fun D=>qBe .gtr D 64 fun E=>B E f) fun F g=>ag F (K ff g) (iFL 1 false 1 a g fun i=>bu i fun l=>bL [i_ 0] g fun G j b =>
 ae .lss (nx j 0) l fun H=>ag H (aQ 9 i (nx j 0) fun I=>ak true 9 I b fun J=>aW 46 (.agg [u8 0,.str [],u8 0,.str [],ff,i_ 0,i_ 0,ff,qNs]) b fun m L=>ao 9 m J L fun k=>ak true 9 m k fun M=>ak true 2 c k fun N=>iC p_ 82 [M,N] k fun O n=>cq O fun P=>ag P (K ff n) (qBe .add (nx j 0) 1 fun Q=>eC [a,c,i,l] (G [Q] n))) (iFL 0 false 1 a b fun R=>ae .neq R (.str []) fun S=>qKo S b (fun T=>iFL 1 false 1 a b fun U=>bu U fun V=>qBe .gtr V 0 fun W=>T W b) fun X Y=>K X Y))
theorem V50(x0 x1:AV):Body p_ 50 [x0,x1] (XG x0 x1):=bB Tryz.func50 (sn (.seq (.seq (.aR (oR 0 4 (.aD 3 true (fR 4 3) [2,3] [10,13]::oR 7 2 (.aD 8 true (fR 9 4) [2,3] [15,19]::oR 13 2 (.aD 14 false (fR 15 4) [2,3] [21,25]::.op 19 false::[]))))) .nil) (.seq (sn (.one (.loop [2,3,28,29] [30] .nil))) (.seq (.aR (oR 0 4 (.aD 3 false (fR 4 4) [] [42,46]::oR 8 2 []))) .nil)))) 48 [.tmp 4]
def X6(x0:AV)(h:aa)(K:AV→aa→Prop):Prop:=
 iC p_ 108 [x0] h fun b a=>qKa b a (fun c=>iC p_ 76 [x0] a fun d e=>ae .eql d x0 fun f=>c f e) fun g i=>K g i
theorem V81(x0:AV):Body p_ 81 [x0] (X6 x0):=bB Tryz.func81 (sn (.seq (.aR (oR 0 3 (.aD 2 true (fR 3 4) [] [5,9]::oR 7 2 []))) .nil)) 11 [.tmp 2]
def X7(x0 x1:AV)(h:aa)(K:AV→aa→Prop):Prop:=
 aW 46 x0 h fun a c7=>aW 80 x1 c7 fun c8 F=>ak true 9 a F fun c9=>iC p_ 109 [c9] F fun G g=>aU 0 G fun d0=>aU 1 G fun d1=>aw (fun H=>ag d0 (ak true 2 c8 g fun d2=>iFL 0 false 1 a g fun d3=>iC p_ 110 [d2,d3] g fun I d4=>aU 0 I fun d5=>aU 1 I fun d6=>aW 80 (.agg [i_ 0,ff]) d4 fun f d7=>ao 2 f d5 d7 fun J=>cq d6 fun L=>aw (fun M=>ar L false (cq d1 fun d8=>eC [a,f] (M [ff,d8] J)) (eC [a,f] (M [aN false L,un] J))) fun l r=>aw (fun N=>ar (nx l 1) true (iFL 8 false 1 a r fun d9=>bu d9 fun e0=>qBe .eql e0 0 fun e1=>eC [a,f,nx l 0] (N [tt,e1] r)) (eC [a,f,nx l 0] (N [(aN true (nx l 1)),un] r))) fun O P=>qJo (nx l 0) [a,f] P (fun e2=>aI (nx O 0) (nx O 1) ff fun e3=>e2 e3 P) fun e4 s=>qJo e4 [a] s (fun e5=>iFL 8 false 1 a s fun e6=>iC p_ 33 [e6,(.fn (.func 111) [] [f,a])] s e5) fun e7 Q=>ag e7 (K ff Q) (eC [a] (H [] Q))) (iFL 8 false 1 a g fun e8=>bu e8 fun e9=>qBe .gtr e9 0 fun f0=>ag f0 (K ff g) (eC [a] (H [] g)))) fun n1 m=>iFL 0 false 1 a m fun f1=>ae .eql f1 (u8 3) fun R=>iFL 0 false 1 a m fun f2=>ae .eql f2 (u8 9) fun f3=>qJo f3 [a,R] m (fun f4=>iFL 0 false 1 a m fun f5=>ae .eql f5 (u8 10) fun f6=>f4 f6 m) fun b t=>cq R fun S=>aw (fun T=>ar S true (iFL 2 false 1 a t fun f7=>ae .neq f7 (u8 0) fun f8=>eC [a,b] (T [tt,f8] t)) (eC [a,b] (T [aN true S,un] t))) fun i u=>aw (fun U=>ar (nx i 1) false (iFL 3 false 1 a u fun f9=>ae .neq f9 (.str []) fun g0=>eC [a,b,nx i 0] (U [ff,g0] u)) (eC [a,b,nx i 0] (U [(aN false (nx i 1)),un] u))) fun V W=>aw (fun X=>ar (nx i 0) true (aI (nx V 0) tt (nx V 1) fun g1=>eC [a,b] (X [tt,g1] W)) (eC [a,b] (X [(aN true (nx i 0)),un] W))) fun n v=>aw (fun Y=>ar (nx n 1) false (iFL 4 false 1 a v fun g2=>eC [a,b,nx n 0] (Y [ff,g2] v)) (eC [a,b,nx n 0] (Y [(aN false (nx n 1)),un] v))) fun Z a0=>qJa (nx n 0) [a,b] a0 (fun g3=>aI (nx Z 0) tt (nx Z 1) fun g4=>g3 g4 a0) fun a1 a2=>aw (fun a3=>ar a1 false (cq b fun g5=>eC [a,b] (a3 [ff,g5] a2)) (eC [a,b] (a3 [aN false a1,un] a2))) fun c w=>aw (fun a4=>ar (nx c 1) true (iFL 7 false 1 a w fun g6=>eC [a,b,nx c 0] (a4 [tt,g6] w)) (eC [a,b,nx c 0] (a4 [(aN true (nx c 1)),un] w))) fun j x=>aw (fun a5=>ar (nx j 1) false (iFL 5 true 2 a x fun g7=>aY (.agg [i_ 0,i_ 0]) [] fun g8=>lW true [1,1] g7 g8 fun g9=>eC [a,b,nx c 0,nx j 0] (a5 [ff,g9] x)) (eC [a,b,nx c 0,nx j 0] (a5 [(aN false (nx j 1)),un] x))) fun a6 a7=>aw (fun a8=>ar (nx j 0) true (aI (nx a6 0) tt (nx a6 1) fun i0=>eC [a,b,nx c 0] (a8 [tt,i0] a7)) (eC [a,b,nx c 0] (a8 [(aN true (nx j 0)),un] a7))) fun a9 b0=>qJo (nx c 0) [a,b] b0 (fun i1=>aI (nx a9 0) (nx a9 1) ff fun i2=>i1 i2 b0) fun i3 q=>ag i3 (K ff q) (iFL 0 false 1 a q fun o=>aw (fun b1=>ae .eql o (u8 1) fun i4=>ag i4 (eC [a,b,o] (b1 [tt] q)) (ae .eql o (u8 2) fun i5=>eC [a,b,o] (b1 [i5] q))) fun i6 e=>ag (nx i6 0) (iFL 1 false 1 a e fun i7=>iC p_ 108 [i7] e fun i8 i9=>K i8 i9) (ae .eql o (u8 3) fun j0=>ag j0 (iFL 1 false 1 a e fun j1=>iC p_ 81 [j1] e fun j2 y=>qJa j2 [a] y (fun j3=>iFL 2 false 1 a y fun j4=>ae .leq j4 (u8 6) fun j5=>j3 j5 y) fun j6 z=>qJa j6 [a] z (fun j7=>iFL 3 false 1 a z fun j8=>iC p_ 112 [j8,i_ 400] z fun j9 k0=>cq j9 fun k1=>j7 k1 k0) fun b2 A=>aw (fun b3=>ar b2 true (iFL 2 false 1 a A fun k2=>ae .neq k2 (u8 0) fun k3=>eC [a] (b3 [tt,k3] A)) (eC [a] (b3 [aN true b2,un] A))) fun d B=>aw (fun b4=>ar (nx d 1) false (iFL 3 false 1 a B fun k4=>ae .eql k4 (.str []) fun k5=>eC [a,nx d 0] (b4 [ff,k5] B)) (eC [a,nx d 0] (b4 [(aN false (nx d 1)),un] B))) fun k C=>aw (fun b5=>ar (nx k 1) true (iFL 4 false 1 a C fun k6=>cq k6 fun k7=>eC [nx d 0,nx k 0] (b5 [tt,k7] C)) (eC [nx d 0,nx k 0] (b5 [(aN true (nx k 1)),un] C))) fun b6 b7=>aw (fun b8=>ar (nx k 0) false (aI (nx b6 0) (nx b6 1) ff fun k8=>eC [nx d 0] (b8 [ff,k8] b7)) (eC [nx d 0] (b8 [(aN false (nx k 0)),un] b7))) fun b9 c0=>qKa (nx d 0) c0 (fun k9=>aI (nx b9 0) tt (nx b9 1) fun l0=>k9 l0 c0) fun l1 l2=>K l1 l2) (iFL 1 false 1 a e fun l3=>ae .eql l3 (.str []) fun l4=>qJa l4 [a,b] e (fun l5=>iFL 0 false 1 a e fun l6=>ae .geq l6 (u8 4) fun l7=>l5 l7 e) fun l8 D=>qJa l8 [a,b] D (fun l9=>iFL 0 false 1 a D fun m0=>ae .leq m0 (u8 14) fun m1=>l9 m1 D) fun c1 c2=>aw (fun c3=>ar c1 true (cq b fun m2=>eC [a] (c3 [tt,m2] c2)) (eC [a] (c3 [aN true c1,un] c2))) fun p E=>aw (fun c4=>ar (nx p 1) false (iFL 5 true 2 a E fun m3=>iC p_ 86 [m3] E fun m4 m5=>qBe .eql m4 0 fun m6=>eC [nx p 0] (c4 [ff,m6] m5)) (eC [nx p 0] (c4 [(aN false (nx p 1)),un] E))) fun c5 c6=>qKa (nx p 0) c6 (fun m7=>aI (nx c5 0) tt (nx c5 1) fun m8=>m7 m8 c6) fun m9 n0=>K m9 n0)))
theorem V82(x0 x1:AV):Body p_ 82 [x0,x1] (X7 x0 x1):=bB Tryz.func82 (sn (sn (.join [2] [] (sn (.two (sn (.seq (.aR (oR 0 3 (.aD 2 false (fR 3 3) [2,7] [26,29]::.aD 5 true (fR 6 4) [2,7,26] [29,33]::.aD 2 false [(10,false)] [2,7] [26,34]::oR 11 2 (.aD 12 false (fR 13 4) [2] [36,40]::.op 17 false::[])))) .nil)) .nil)) (sn (.seq (.aR (oR 0 4 (.aD 3 false (fR 4 3) [2,9] [52,55]::oR 7 2 []))) (.seq (.seq (.aR (oR 0 3 (.aD 2 true (fR 3 4) [2,10] [59,63]::.aD 6 false (fR 7 3) [2,10,59] [63,66]::.aD 2 true (fR 10 2) [2,10] [59,68]::.aD 11 false (fR 12 2) [2,10,59] [68,70]::.aD 2 true [(14,false)] [2,10] [59,71]::oR 15 2 (.aD 16 false (fR 17 3) [2,10] [73,76]::.aD 19 true (fR 20 3) [2,10,73] [76,79]::.aD 22 false (fR 23 4) [2,10,73,76] [79,83]::.aD 19 true [(27,false)] [2,10,73] [76,84]::.aD 16 false [(28,false)] [2,10] [73,85]::.op 29 false::[])))) .nil) (.seq (sn (.one (.join [2,10,88] [89] .nil (.two .nil (sn (.two (.seq (.aR (oR 0 4 (.aD 3 true (fR 4 3) [2] [100,103]::oR 7 2 (.aD 8 true (fR 9 4) [2] [105,109]::oR 13 2 (.aD 14 true (fR 15 4) [2] [111,115]::.aD 18 false (fR 19 4) [2,111] [115,119]::.aD 22 true (fR 23 3) [111,115] [119,122]::.aD 18 false [(26,false)] [111] [115,123]::.aD 14 true [(27,false)] [] [111,124]::oR 28 2 []))))) .nil) .nil)))))) (.seq (.aR (oR 0 4 (.aD 3 true (fR 4 3) [2,10] [129,132]::oR 7 2 (.aD 8 true (fR 9 3) [2,10] [134,137]::oR 12 2 (.aD 13 true (fR 14 3) [2] [139,142]::.aD 16 false (fR 17 4) [139] [142,146]::.aD 13 true [(21,false)] [] [139,147]::oR 22 2 []))))) .nil)))))))) 149 [.tmp 4]
def X1(x0:AV)(h:aa)(K:AV→aa→Prop):Prop:=
 iP 5 x0 h fun a i=>bu a fun c=>bL [i_ 0] i fun j b d =>
 ae .lss (nx b 0) c fun k=>ag k (aw (fun f=>aQ 1 a (nx b 0) fun l=>ak false 1 l d fun g=>ae .leq (u8 65) g fun m=>qJa m [a,nx b 0,a,c,nx b 0] d (fun n=>ae .leq g (u8 90) fun o=>n o d) fun p e=>ag p (aQ 1 a (nx b 0) fun q=>ak false 1 q e fun r=>ae .or r (u8 32) fun s=>aQ 1 a (nx b 0) fun t=>ao 1 t s e fun u=>eC [a,a,c,nx b 0] (f [] u)) (eC [a,a,c,nx b 0] (f [] e))) fun y v=>qBe .add (nx b 0) 1 fun w=>eC [a,a,c] (j [w] v)) (cJ a d fun x=>K x d)
theorem V76(x0:AV):Body p_ 76 [x0] (X1 x0):=bB Tryz.func76 (sn (sn (.seq (sn (.one (.loop [3,8,9] [10] (sn (sn (.join [3,8,9,10] [] (.one (sn (.seq (.aR (oR 0 3 (.aD 2 true (fR 3 2) [3,4,8,9,10] [17,19]::.op 5 false::[]))) .nil))) .nil)))))) .nil))) 30 [.tmp 2]
def Sg(x0:AV)(h:aa)(K:AV→aa→Prop):Prop:=
 ae .neq x0 (.str []) fun a=>qKa a h (fun b=>iC p_ 112 [x0,i_ 64] h fun c d=>cq c fun e=>b e d) fun f g=>K f g
theorem YB(x0:AV):Body p_ 108 [x0] (Sg x0):=bB Tryz.func108 (sn (.seq (.aR (oR 0 3 (.aD 2 true (fR 3 3) [] [5,8]::oR 6 2 []))) .nil)) 10 [.tmp 2]
def Ya(x0:AV)(h:aa)(K:AV→aa→Prop):Prop:=
 aW 44 x0 h fun b c=>iFL 0 false 1 b c fun e=>iC p_ 121 [e] c fun f a=>cq f fun g=>qKo g a (fun i=>iFL 1 false 1 b a fun j=>iC p_ 121 [j] a fun k l=>cq k fun m=>i m l) fun n d=>ag n (K (i_ 8) d) (K (i_ 0) d)
theorem V86(x0:AV):Body p_ 86 [x0] (Ya x0):=bB Tryz.func86 (sn (.seq (.seq (.aR (oR 0 5 (.aD 4 false (fR 5 4) [] [7,11]::.op 9 false::[]))) .nil) .nil)) 13 [.tmp 2]
def Si(x0:AV)(h:aa)(K:AV→aa→Prop):Prop:=
 aW 46 x0 h fun b d=>iFL 0 false 1 b d fun a=>aw (fun f=>ae .eql a (u8 9) fun k=>ag k (eC [b,a] (f [tt] d)) (ae .eql a (u8 10) fun l=>eC [b,a] (f [l] d))) fun m c=>ag (nx m 0) (iFL 7 false 1 b c fun n=>K (.aA [n,ff]) c) (aw (fun g=>ae .eql a (u8 11) fun o=>ag o (eC [a] (g [tt] c)) (ae .eql a (u8 12) fun p=>eC [a] (g [p] c))) fun q e=>ag (nx q 0) (K (.aA [tt,tt]) e) (aw (fun i=>ae .eql a (u8 13) fun r=>ag r (i [tt] e) (ae .eql a (u8 14) fun s=>i [s] e)) fun t j=>ag (nx t 0) (K (.aA [tt,ff]) j) (K (.aA [ff,tt]) j)))
theorem YC(x0:AV):Body p_ 109 [x0] (Si x0):=bB Tryz.func109 (sn (.seq (sn (.one (.join [1,5] [6] .nil (.two .nil (.join [5] [11] .nil (.two .nil (.join [] [14] .nil .nil))))))) .nil)) 17 [.tmp 2,.tmp 3]
def Sk(x0 x1:AV)(h:aa)(K:AV→aa→Prop):Prop:=
 aW 80 x0 h fun b q=>aW 80 (.agg [i_ 0,ff]) q fun a f=>ae .eql x1 (u8 14) fun c=>iFL 0 false 1 b f fun r=>qBe .eql r 3 fun g=>aw (fun i=>ar g false (iFL 1 false 1 b f fun s=>eC [b,a,c] (i [ff,s] f)) (eC [b,a,c] (i [aN false g,un] f))) fun d j=>aw (fun k=>ar (nx d 1) true (eC [b,a,c,nx d 0] (k [tt,c] j)) (eC [b,a,c,nx d 0] (k [(aN true (nx d 1)),un] j))) fun l m=>qJo (nx d 0) [b,a,c] m (fun t=>aI (nx l 0) (nx l 1) ff fun u=>t u m) fun v e=>ag v (aY (.agg [i_ 0,ff]) [] fun w=>ao 2 a w e fun n=>ak true 2 a n fun r24=>K (.aA [r24,ff]) n) (iFL 0 false 1 b e fun x=>qBe .add x 1 fun o=>iFL 1 false 1 b e fun y=>qJo y [a,o] e (fun z=>z c e) fun A B=>aY (.agg [i_ 0,ff]) [(0,1,o),(1,1,A)] fun C=>ao 2 a C B fun p=>ak true 2 a p fun r36=>K (.aA [r36,tt]) p)
theorem YD(x0 x1:AV):Body p_ 110 [x0,x1] (Sk x0 x1):=bB Tryz.func110 (sn (sn (.seq (.seq (.aR (oR 0 4 (.aD 3 false (fR 4 3) [2,4,6] [12,15]::.aD 6 true [(7,false)] [2,4,6,12] [15,16]::.aD 3 false [(8,false)] [2,4,6] [12,17]::.op 9 false::[]))) .nil) (.seq (.aR (oR 0 6 (.aD 5 false [(6,false)] [4,22] [25,26]::oR 7 4 []))) .nil)))) 29 [.cell 4 80,.tmp 5]
def Sl(x0 x1 x2:AV)(h:aa)(K:AV→aa→Prop):Prop:=
 aW 39 x0 h fun b a=>ak true 3 b a fun c=>ak true 2 x1 a fun d=>iFL 0 false 1 x2 a fun e=>ae .eql e (u8 14) fun f=>iC p_ 35 [c,d,f] a fun g i=>cq g fun j=>K j i
theorem YE(x0 x1 x2:AV):Body p_ 111 [x0,x1,x2] (Sl x0 x1 x2):=bB Tryz.func111 .nil 12 [.tmp 4]
def Sn(x0 x1:AV)(h:aa)(K:AV→aa→Prop):Prop:=
 cR x0 fun a=>ae .gtr a x1 fun b=>qKo b h (fun c=>iC p_ 72 [x0,u8 0] h fun d e=>qBe .geq d 0 fun f=>c f e) fun g i=>K g i
theorem YF(x0 x1:AV):Body p_ 112 [x0,x1] (Sn x0 x1):=bB Tryz.func112 (sn (.seq (.aR (oR 0 5 (.aD 4 false (fR 5 3) [] [9,12]::oR 8 2 []))) .nil)) 14 [.tmp 4]
def Sr(x0:AV)(h:aa)(K:AV→aa→Prop):Prop:=
 ae .leq (i_ (-1000000000)) x0 fun a=>qKa a h (fun b=>qBe .leq x0 1000000000 fun c=>b c h) fun d e=>K d e
theorem YJ(x0:AV):Body p_ 121 [x0] (Sr x0):=bB Tryz.func121 (sn (.seq (.aR (oR 0 3 (.aD 2 true (fR 3 2) [] [5,7]::oR 5 2 []))) .nil)) 9 [.tmp 2]
def Xj(x0:AV)(h:aa)(K:AV→aa→Prop):Prop:=
 bu x0 fun s=>bu x0 fun d=>bL [s,i_ 0] h fun t a f =>
 ae .lss (nx a 1) d fun u=>ag u (aQ 3 x0 (nx a 1) fun v=>ak true 3 v f fun w=>aW 39 (.agg [u8 0,qNs,qNs]) f fun l x=>ao 3 l w x fun m=>iFL 1 false 1 l m fun e=>bu e fun g=>bL [nx a 0,i_ 0] m fun y b i =>
 ae .lss (nx b 1) g fun z=>ag z (aQ 2 e (nx b 1) fun A=>ak true 2 A i fun B=>aW 42 (.agg [.str [],qNs]) i fun n C=>ao 2 n B C fun o=>iFL 1 false 1 n o fun j=>bu j fun p=>bL [nx b 0,i_ 0] o fun D c k =>
 ae .lss (nx c 1) p fun E=>ag E (aQ 9 j (nx c 1) fun F=>ak true 9 F k fun G=>aW 46 (.agg [u8 0,.str [],u8 0,.str [],ff,i_ 0,i_ 0,ff,qNs]) k fun q H=>ao 9 q G H fun r=>iFL 8 false 1 q r fun I=>iC p_ 26 [I] r fun J L=>ae .add (nx c 0) J fun M=>qBe .add (nx c 1) 1 fun N=>eC [x0,d,nx a 1,e,g,nx b 1,j,p] (D [M,N] L)) (qBe .add (nx b 1) 1 fun O=>eC [x0,d,nx a 1,e,g] (y [nx c 0,O] k))) (qBe .add (nx a 1) 1 fun P=>eC [x0,d] (t [nx b 0,P] i))) (K (nx a 0) f)
theorem V26(x0:AV):Body p_ 26 [x0] (Xj x0):=bB Tryz.func26 (sn (sn (.seq (sn (.one (.loop [12,13] [3,14] (sn (sn (.seq (.one (sn (sn (.one (.loop [12,13,14,19,20] [3,21] (sn (sn (.seq (.one (sn (sn (.one (.loop [12,13,14,19,20,21,26,27] [3,28] .nil))))) .nil)))))))) .nil)))))) .nil))) 41 [.tmp 2]
end
end Go.Proofs.YtpcnidmmkknndaaGreatDoor
end
