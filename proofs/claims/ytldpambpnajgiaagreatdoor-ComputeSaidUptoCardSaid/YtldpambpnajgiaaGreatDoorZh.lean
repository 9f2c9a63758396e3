/-
 Putting and replacing,with what stands under the names.
 No conditions.
-/
import Derived.Tactics
import Derived.Tactics2
import Derived.Defers
import Derived.Laws.Pointers
import Derived.RegionTactic
import Derived.RegionCalls
import Derived.ChangeAlike
import Derived.KernelRfl
import Derived.WalkKit
import Derived.Sort.KeysCollected
import Derived.Maps.Own
import Derived.Shelf.SlIter.Sorted
import Derived.Shelf.SlIter.Collect
import Derived.Shelf.SortM.Plain
import Derived.Shelf.SortM.SortNone
import Derived.Ground.GgzProg
import Derived.Ground.SlgmProg
import Derived.RangeFuncNested
import Derived.RangeFuncBound
import Derived.RangeFuncCalls
import Derived.RangeFuncLeaves
import Derived.RangeFuncBox
import Derived.Shelf.Abstract
import Derived.Shelf.RegionOpen
import Derived.OwnWalkIn
import Derived.TacticsInMore
import Derived.LoopNIn
import Derived.LoopIn
import Derived.Test.YtldpambpnajgiaaGreatDoorProg
import Derived.Deep.WholeRow
import Derived.Test.YtldpambpnajgiaaGreatDoorZg
import Derived.Test.YtldpambpnajgiaaGreatDoorZf
import Derived.Test.YtldpambpnajgiaaGreatDoorZd
import Derived.Test.YtldpambpnajgiaaGreatDoorZe
set_option linter.unusedVariables false
set_option linter.unusedSimpArgs false
set_option maxRecDepth 1000000
set_option maxHeartbeats 16000000
open Go.Proofs.Tryz renaming prog→p_
noncomputable section
namespace Go.Proofs.YtldpambpnajgiaaGreatDoor
section
open Go Go.Aw Go.dz
variable{l:List Cu}{f g:aD→Option AV}{h:aa}{id:Nat}
theorem z6:∀l:List Vl,(ar l).all (gh 6)=true
 | []=>rfl
 | v:: l=>by
   have:=Ls v;rw[acG,List.all_nil,Bool.and_true]at this;rw[ar,acG,this,z6 l];rfl
theorem OV(a b:List Vl):ar (a++b)=ar a++ar b:=by simp[aJ]
def QH(n:Nat):Prop:=∀(l:List Vl) (id:Nat) (h:aa) (c:dJ),aW l≤n→(eA c l).isSome=true→tm c id h→Ex p_ 81 [.sl 6 (ar l),.mp id] h (.sl 6 (ar (dG c l)))
theorem SM{n:Nat}(hn:n<2^24)(hP:∀n',n'<n→QH n'):QH n:=by
 intro l id h c hz hs hm;refine (V81 _ _).ex fun hb=>?_;unfold YE;have hlen:(ar l).length=l.length:=by simp[aJ]
 have hll:=fu l;obtain⟨T,hT⟩:=Option.isSome_iff_exists.1 hs;refine zzk (n:=l.length) hlen fun _=>?_;refine aU (α:=Nat) (fun k=>k≤l.length) (fun k=>[.sb h.length 6 (ar (dG c (l.take k))),i_ k]) (fun k=>h++[.tok 100 6 (dG c (l.take k)).length]) (fun k=>l.length-k) 0 (by simp) (by
  rw[List.take_zero,nZ];exact (Wk.nil (aS _) 0 rfl).trans (Wk.tok (aS _) 0 100 6 rfl)) ?_
 intro k hk;refine zzC ?_;rcases AT k l.length with q|q
 ·obtain⟨v,hx⟩:∃x,l[k]?=some x:=⟨l[k],dO q⟩;have hmem:=gO hx;have hzv:=gX hmem;have hz2:=qB v;have hz4:=um v;have hll2:=fu v.list;have d1:=SO (c:=c) hx
  -- how long it is,all in all
  obtain⟨x1,y1,e1,_,_⟩:=uv (a:=eA c (l.take (k+1))) (b:=eA c (l.drop (k+1))) (n:=T) (by rw[←sE,List.take_append_drop];exact hT);have hb1:=pT hm.ok _ _ _ (aS _) e1;have hzt:=jG l (k+1);have hpz:=(lS hm.ok _ _ _ (aS _) e1).1;have hpl:=fu (dG c (l.take (k+1)));rw[Gg hx]at e1;obtain⟨_,xo,_,ho,_⟩:=uv e1;rw[d1]at hpz;rw[d1,DO]at hpl;have hroom:dU 80 ((dG c (l.take k)).length+(ar (ky c v)).length):=by
   have:(ar (ky c v)).length=(ky c v).length:=by simp[aJ]
   rw[this];unfold dU maxLen;omega
  have d2:ar (dG c (l.take (k+1)))=ar (dG c (l.take k))++ar (ky c v):=by rw[d1,OV]
  have d3:(dG c (l.take (k+1))).length=(dG c (l.take k)).length+(ar (ky c v)).length:=by rw[d1];simp[aJ]
  have pr:=dd (dG c (l.take (k+1)));obtain⟨R,hR⟩:∃R,ar (dG c (l.take k))=R:=⟨_,rfl⟩;obtain⟨rk,hrk⟩:∃rk,(dG c (l.take k)).length=rk:=⟨_,rfl⟩;have hRl:R.length=rk:=by rw[←hR,←hrk];simp[aJ]
  rw[hR]at d2 ⊢;rw[hrk]at d3 hroom ⊢;have hm':∀t,tm c id (h++[.tok 100 6 rk]++t):=fun t=>(hm.app _).app t;refine zzL (by simpa using q) ?_;refine jx [.sb h.length 6 (R++ar (ky c v))] (h++[.tok 100 6 (rk+(ar (ky c v)).length)]++[vB v]) ?_ fun F hF=>?_
  ·refine zzP (by unfold aN;omega) (af ?_);refine⟨k+1,q, ?_,by omega⟩;rw[d3];refine Wk.back (M:=h.length+1) (by simp) (by simp) Qz (by rw[d2];rfl) ?_ ?_
   ·intro e he;rcases IN.1 he with he|he
    ·exact nQ (by omega) (hb e he)
    ·simp only[Up]at he;subst he;trivial
   ·have hb:=iR (h.length+1) (.sl 6 (ar (dG c (l.take (k+1))))) (by rw[Aw.Pure];exact pr);rw[Bd,d2]at hb;simp[Bd,hb,d2]
  ·refine zzg (f:=cQ) (aJ l) rfl hx (zzY (by simp[cK]) (vz (tu (zzS (by kernel_rfl) (uB v) (zzO ?_)))));have ap:∀{rows:List (List AV)} {y:AV} {K:AV→aa→Prop},ar (ky c v)=rows→y=.sl 6 rows→K (.sb h.length 6 (R++rows)) (h++[.tok 100 6 (rk+rows.length)]++[vB v])→eE false 100 6 80 (.sb h.length 6 R) y (h++[.tok 100 6 rk]++[vB v]) K:=by
    intro rows y K e1 e2 q;subst e1;subst e2;exact kP (h':=h++[.tok 100 6 (rk+(ar (ky c v)).length)]++[vB v]) (id:=h.length) (k:=rk) (base:=R) (rows:=ar (ky c v)) rfl (by simp) hRl.symm fw (z6 _) hroom (by simp) q
   cases hv:gJ v with
   | false =>
     have e:ky c v=[.mk v.kind v.text v.num v.unit v.flag (dG c v.list)]:=by unfold ky;rw[hv];rfl
     have hs2:(eA c v.list).isSome=true:=by
      unfold nD at ho;rw[hv,if_neg (by decide)]at ho;obtain⟨m,hm,_⟩:=aar.1 ho;rw[hm];rfl
     refine zzL rfl (zzA (B8 (zzA (vA (i:=5) (c:=.sl 6 (ar v.list)) (by simp[cK,aJ]) (Uy rfl (hP (aW v.list) (by omega) v.list id _ c (aS _) hs2 (hm' _)) (Ho (v:=.mk v.kind v.text v.num v.unit v.flag (dG c v.list)) (TD (ap (by rw[e,ar,ar]) rfl (af ?_)))))))));rw[e,ar,ar]at hF;exact hF
   | true =>
     refine zzK rfl (tu (zzS (by kernel_rfl) (yD v (by omega)) (zzB rfl (zzB rfl (zzB rfl ?_)))));have e:ky c v=(match c (eB v).1 with|some x=>x|none=>dG c (pQ v)):=by unfold ky;rw[hv];rfl
     have ho':(match c (eB v).1 with|some x=>some (aW x)|none=>if (eB v).2.2 then eA c (pQ v) else none)=some xo:=by
      unfold nD at ho;rw[hv]at ho;exact ho
     cases hc:c (eB v).1 with
     | some x =>
       rw[hc]at e;refine jx [.sl 6 (ar x)] (h++[.tok 100 6 rk]++[vB v]) ?_ fun F' hF' => ?_
       ·have:=hm.ok.le _ _ hc;refine zzd (Zj (by omega) (hm.ok.no _ _ hc)) (ap (by rw[e]) rfl (af ?_));rw[e]at hF;exact hF
       ·refine (hm' _).look ?_;rw[hc];refine zzB rfl (zzB rfl (zzL rfl (af ?_)));exact hF'
     | none =>
       rw[hc]at e ho';simp only at e ho';cases hh:(eB v).2.2 with
       | false=>rw[hh]at ho';cases ho'
       | true =>
         rw[hh,if_pos rfl]at ho';refine jx [.sl 6 (ar (pQ v))] (h++[.tok 100 6 rk]++[vB v]) ?_ fun F' hF' => ?_
         ·refine zzd (hP (aW (pQ v)) (by omega) (pQ v) id _ c (aS _) (by rw[ho'];rfl) (hm' _)) (ap (by rw[e]) rfl (af ?_));rw[e]at hF;exact hF
         ·refine (hm' _).look ?_;rw[hc];refine zzB rfl (zzB rfl (zzK rfl (af ?_)));exact hF'
 ·obtain rfl:k=l.length:=by omega
  refine zzK (by simp) ?_;rw[GO];exact KC hb (dd (dG c l)) (by simp)
theorem VE{l:List Vl}{c:dJ}(hz:aW l<2^24)(hs:(eA c l).isSome=true)(hm:tm c id h):Ex p_ 81 [.sl 6 (ar l),.mp id] h (.sl 6 (ar (dG c l))):=by
 have:∀n,n<2^24→QH n:=by
  intro n;induction n using Nat.strongRecOn with
  | _ n ih=>exact fun hn=>SM hn fun n' h=>ih n' h (by omega)
 exact this _ hz l id h c (aS _) hs hm
def dM(c:dJ)(l:List Vl):List Vl×Int:=match eA c l with
 | none=>([],6)
 | some n=>if 2000<n∧ct l=true then ([],28) else if dC (dG c l)=0 then (dG c l,0) else ([],dC (dG c l))
def mn(c:dJ)(l:List Vl):AV:=.aF [if (dM c l).2=0 then .sl 6 (ar (dM c l).1) else .v (.slice none 0 0),i_ (dM c l).2]
theorem xw(c:dJ)(l:List Vl):Aw.Pure (mn c l):=by
 unfold mn;split<;>simp[Aw.Pure,bf,dd]
theorem KD{l:List Vl}{c:dJ}(hz:aW l<2^24)(hm:tm c id h):Ex p_ 41 [.sl 6 (ar l),.mp id] h (mn c l):=by
 refine (V41 _ _).ex fun hb=>?_;unfold W41;have fin:∀{r:AV},mn c l=r→∃r' h'',Wk h.length [r] h [r'] h''∧r'=mn c l∧h''=h:=fun e=>by
  subst e;exact lB hb (iR _ _ (xw c l)) (by simp)
 refine zzd (VD (by omega) hm) ?_;cases hq:eA c l with
 | none =>
   refine zzC (zzL rfl ?_);exact fin (by unfold mn dM;rw[hq];rfl)
 | some n =>
   have hle:=pT hm.ok _ _ _ (aS _) hq;have hpz:=(lS hm.ok _ _ _ (aS _) hq).1;have eF:dM c l=if 2000<n∧ct l=true then ([],28) else if dC (dG c l)=0 then (dG c l,0) else ([],dC (dG c l)):=by unfold dM;rw[hq]
   refine zzC (zzK (oN (by omega)) (zzE ?_));have tail:¬(2000<n∧ct l=true)→eJ p_ (.fn (.func 81) [] []) [.sl 6 (ar l),.mp id] h fun v11 g12=>eJ p_ (.fn (.func 40) [] []) [v11] g12 fun v13 g14=>ab .neq v13 (i_ 0) fun v15=>ae v15 (∃r' h'',Wk h.length [.aF [.v (.slice none 0 0),v13]] g14 [r'] h''∧r'=mn c l∧h''=h) (∃r' h'',Wk h.length [.aF [v11,i_ 0]] g14 [r'] h''∧r'=mn c l∧h''=h):=by
    intro hno;rw[if_neg hno]at eF;refine zzd (VE hz (by rw[hq];rfl) hm) (zzS (by kernel_rfl) (mO _ (by omega)) (zzH ?_))
    by_cases h0:dC (dG c l)=0
    ·rw[if_pos h0]at eF;refine zzK (by simp[h0]) ?_;exact fin (by unfold mn;rw[eF];rfl)
    ·rw[if_neg h0]at eF;refine zzL (by simp[h0]) ?_;exact fin (by unfold mn;rw[eF];simp only[h0,if_false])
   refine ay ?_
   by_cases hg:2000<n
   ·refine zzN (tO (by omega)) (zzS (by kernel_rfl) (Ej l (by omega)) (af (zzR ?_)));cases hv:ct l with
    | true =>
      refine zzL rfl ?_;rw[if_pos ⟨hg,hv⟩]at eF;exact fin (by unfold mn;rw[eF];rfl)
    | false =>
      refine zzK rfl ?_;exact tail (by rw[hv];simp)
   ·refine zzM (oN (by omega)) (af (zzQ (zzK rfl ?_)));exact tail (by omega)
def pX(l:List Cu)(i:Nat):List Vl:=(l.map Cu.value).getD i []
theorem uk{k:Nat}{c:Cu}(h:l[k]?=some c):pX l k=c.value:=by
 unfold pX;rw[oF,lE,h];rfl
def yg(l:List Cu)(a b:aD):Prop:=(∃i,i<l.length∧dQ l i=a∧b∈iO (pX l i))∧∃j,j<l.length∧dQ l j=b
inductive xP(l:List Cu):aD→aD→Prop
 | one {a b:aD}:yg l a b→xP l a b
 | step {a b c:aD}:yg l a b→xP l b c→xP l a c
structure Lq(l:List Cu)(k:Nat)(H:aa):Prop where
 len:2+2*k≤H.length
 z:H[0]?=some (.mp k (zh l k))
 o:H[1]?=some (.aC ⟨340,[.mp 0],true⟩)
 m:∀i,i<k→∃c es,H[2*i+3]?=some (.mp c es)∧Mp c es (nA (iO (pX l i)) fun _=>none)
theorem Lq.of{k:Nat}{H G:aa}(q:Lq l k H)(hl:2+2*k≤G.length)(e:∀i,i<2+2*k→G[i]?=H[i]?):Lq l k G:=
 ⟨hl,by rw[e 0 (by omega)];exact q.z,by rw[e 1 (by omega)];exact q.o,fun i hi=>by rw[e _ (by omega)];exact q.m i hi⟩
theorem TK{ns:List aD}{s:aD}{v:AV}(h:nA ns (fun _=>none) s=some v):s∈ns∧v=tt:=by
 unfold nA at h;split at h
 ·cases h;exact⟨by assumption,rfl⟩
 ·cases h
def zz(l:List Cu)(f:aD→Option AV):Nat:=((List.range l.length).filter fun j=>(f (dQ l j)).isNone).length
theorem filter_lt{α:Type}{p q:α→Bool}(h:∀x,q x=true→p x=true){y:α}(h1:p y=true)(h2:q y=false):∀{L:List α},y∈L→(L.filter q).length<(L.filter p).length
 | x:: L,hy=>by
   have le:∀L:List α,(L.filter q).length≤(L.filter p).length:=by
    intro L;induction L with
    | nil=>simp
    | cons x L ih =>
      rw[List.filter_cons,List.filter_cons];cases hq:q x with
      | true=>rw[if_pos rfl,if_pos (h x hq)];simpa using ih
      | false =>
        rw[if_neg (by decide)];split
        ·rw[aah];omega
        ·exact ih
   rw[List.filter_cons,List.filter_cons];rcases IS.1 hy with rfl|hy
   ·rw[if_pos h1,if_neg (by rw[h2];decide),aah];have:=le L;omega
   ·have ih:=filter_lt h h1 h2 hy;cases hq:q x with
    | true=>rw[if_pos rfl,if_pos (h x hq),aah,aah];omega
    | false =>
      rw[if_neg (by decide)];split
      ·rw[aah];omega
      ·exact ih
theorem aa7{j:Nat}(hj:j<l.length)(h:∀s,f s≠none→g s≠none)(h1:f (dQ l j)=none)(h2:g (dQ l j)≠none):zz l g<zz l f:=by
 unfold zz;refine filter_lt (fun x hx=>?_) (y:=j) (by rw[h1];rfl) ?_ (ID.2 hj)
 ·cases hf:f (dQ l x) with
  | none=>rfl
  | some v =>
    have:=h _ (by rw[hf];simp);cases hg:g (dQ l x) with
    | none=>exact absurd hg this
    | some w=>rw[hg]at hx;cases hx
 ·cases hg:g (dQ l j) with
  | none=>exact absurd hg h2
  | some w=>rfl
theorem aa6(h:∀s,f s≠none→g s≠none):zz l g≤zz l f:=by
 unfold zz;have:∀L:List Nat,(L.filter fun j=>(g (dQ l j)).isNone).length≤(L.filter fun j=>(f (dQ l j)).isNone).length:=by
  intro L;induction L with
  | nil=>simp
  | cons x L ih =>
    rw[List.filter_cons,List.filter_cons];cases hf:f (dQ l x) with
    | none =>
      simp only[Option.isNone_none,if_true];split
      ·simpa using ih
      ·rw[aah];omega
    | some v =>
      have:=h _ (by rw[hf];simp);cases hg:g (dQ l x) with
      | none=>exact absurd hg this
      | some w=>simpa using ih
 exact this _
structure Rl(l:List Cu)(f f':aD→Option AV)(x:aD):Prop where
 mono:∀s,f s≠none→f' s≠none
 new:∀s,f' s≠none→f s≠none∨xP l x s
 own:∀b,yg l x b→f' b≠none
 cl:∀s,f' s≠none→f s=none→∀b,yg l s b→f' b≠none
theorem UH[Laid]{neg:Bool}{K:AV→Prop}(q:K (.v (.bool (!neg)))):sU neg (.v (.map none)) K:=by
 unfold sU;cases neg<;>exact q
theorem rI[Laid]{P:Program}{f:FuncId}{xs ys args args':List AV}{K0 K:AV→aa→Prop}(hb:cd P f=true)(e:xs++args++ys=args')(c:dY P f args' h K0)(k:∀r h',K0 r h'→K r h'):eJ P (.fn (.func f) xs ys) args h K:=by
 subst e;exact⟨hb,c.mono k⟩
theorem wa{α:Type}{A:List α}{x y:α}{n:Nat}(hn:n=A.length):(A++[x]).set n y=A++[y]:=by
 subst hn;rw[Lt _ _ (aS _)];simp
def YI(l:List Cu)(N:Nat):Prop:=∀(H:aa) (f:aD→Option AV) (i sid sb wb c:Nat) (es:List (Nat×AV×AV)),i<l.length→zz l f≤N→Lq l l.length H→2+2*l.length≤sid→H[sb]?=some (.aC ⟨175,[.mp sid],true⟩) →
 H[wb]?=some (.aC ⟨341,[.fn (.func 225) [] [.op 1 0,.op sb 0,.op wb 0]],true⟩)→H[sid]?=some (.mp c es)→Mp c es f→xQ f →
 dY p_ 225 [.str (dQ l i),.op 1 0,.op sb 0,.op wb 0] H fun v h' => v=.aF []∧∃c' es' f',h'=H.set sid (.mp c' es')∧Mp c' es' f'∧xQ f'∧Rl l f f' (dQ l i)
theorem Xk(inj:ny l){N:Nat}(hP:∀N',N'<N→YI l N'):YI l N:=by
 intro H f i sid sb wb c es hi hun lq hsid hsb hwb hse hm ht;refine dY.bd fun hb=>(aeD _ _ _ _).kb ?_;unfold Yx;have hlt:=(gE.1 hse).1;have nsb:sb≠sid:=fun e=>by subst e;rw[hse]at hsb;cases hsb
 have nwb:wb≠sid:=fun e=>by subst e;rw[hse]at hwb;cases hwb
 have lH:=lq.len;obtain⟨ci,ei,hi1,hi2⟩:=lq.m i hi;refine zzU lq.o rfl (rN (q0:=some (.mp (2*i+3))) rfl lq.z rfl (zQ (f:=fun i=>.mp (2*i+3)) inj l.length 0 i (by omega) (by omega) (by omega)) rfl (GH rfl hi1 rfl rfl ?_))
 -- what stands where,whatever the set and the walk are
 have gk:∀(x y:dh) (j:Nat),j<H.length→j≠sid→(H.set sid x++[y])[j]?=H[j]?:=fun x y j h1 h2=>by rw[iD (by simpa using h1),iS (Ne.symm h2)]
 have gs:∀(x y:dh),(H.set sid x++[y])[sid]?=some x:=fun x y=>by rw[iD (by simpa using hlt)];exact iN hlt
 have gi:∀(x y:dh),(H.set sid x++[y])[H.length]?=some y:=fun x y=>by rw[iF (by simp)];simp
 have ss:∀(x x' y:dh),(H.set sid x++[y]).set sid x'=H.set sid x'++[y]:=fun x x' y=>by rw[Aa (by simpa using hlt),aa5]
 have lsb:=(gE.1 hsb).1;have lwb:=(gE.1 hwb).1;have lqG:∀(x y:dh),Lq l l.length (H.set sid x++[y]):=fun x y=>lq.of (by simp;omega) fun j hj=>gk x y j (by omega) (by omega);refine aU (α:=Nat×List (Nat×AV×AV)×(aD→Option AV)×List Nat)
  (fun x=>Mp x.1 x.2.1 x.2.2.1∧xQ x.2.2.1∧(∀s,f s≠none→x.2.2.1 s≠none)∧(∀s,x.2.2.1 s≠none→f s≠none∨xP l (dQ l i) s)∧(∀s,x.2.2.1 s≠none→f s=none→∀b,yg l s b→x.2.2.1 b≠none)
   ∧ (∀p∈ei,∀b v,p=(p.1,.str b,v)→(yg l (dQ l i) b→x.2.2.1 b≠none)∨p∈fq x.2.2.2 ei)∧zz l x.2.2.1≤N)
  (fun _=>[]) (fun x=>H.set sid (.mp x.1 x.2.1)++[.it (2*i+3) ci x.2.2.2 ci]) (fun x=>(fq x.2.2.2 ei).length) (c,es,f,[])
  ⟨hm,ht,fun s h=>h,fun s h=>.inl h,fun s h h0=>absurd h0 h,fun p hp b v e=>.inr (by dsimp only;rw[zb];exact hp),hun⟩ (by dsimp only;rw[ou hse];exact Wk.refl _ _ _ (aS _)) ?_
 rintro⟨c1,jD,g,sn⟩ ⟨m1,t1,i1,i2,i3,i4,i5⟩;dsimp only at m1 t1 i1 i2 i3 i4 i5 ⊢;refine GG (m:=2*i+3) (sn:=sn) rfl (gi _ _) (by rw[gk _ _ _ (by omega) (by omega)];exact hi1) hi2.nP (aS _) (fun e0=>?_) fun p hp=>?_
 ·refine zzB rfl (zzK rfl ?_);have et:((H.set sid (.mp c1 jD)++[dh.it (2*i+3) ci sn ci]).set H.length .dead).take H.length=H.set sid (.mp c1 jD):=by
   rw[wa (by simp),acS (by simp),Of (by simp)]
  refine⟨_,_,Wk.back (M:=H.length) (aS _) (by simp) et rfl (fun e he=>?_) (by simp[Bd,gU]),rfl,c1,jD,g,rfl,m1,t1,⟨i1,i2,fun b hn=>?_,i3⟩⟩
  ·rcases List.mem_or_eq_of_mem_set he with he|rfl
   ·exact hb e he
   ·exact Mp.bdT m1 t1
  ·obtain⟨⟨i',hi',en,hu⟩,_⟩:=id hn;obtain rfl:=inj _ _ hi' hi en;obtain⟨k,hk⟩:=hi2.all (s:=b) (v:=tt) (by unfold nA;rw[if_pos hu]);rcases i4 _ hk b tt rfl with q|q
   ·exact q hn
   ·rw[e0]at q;cases q
 ·obtain⟨s,v,ep,fs,bs⟩:=hi2.tF (rp hp);obtain⟨hu,rfl⟩:=TK fs;rw[wa (by simp)];have nxt:∀(c2:Nat) (ga:List (Nat×AV×AV)) (g2:aD→Option AV),Mp c2 ga g2→xQ g2→(∀s,g s≠none→g2 s≠none)→(∀s,g2 s≠none→g s≠none∨xP l (dQ l i) s)→(∀s,g2 s≠none→g s=none→∀b,yg l s b→g2 b≠none)→(yg l (dQ l i) s→g2 s≠none) →
   ∃y:Nat×List (Nat×AV×AV)×(aD→Option AV)×List Nat,(Mp y.1 y.2.1 y.2.2.1∧xQ y.2.2.1∧(∀s,f s≠none→y.2.2.1 s≠none)∧(∀s,y.2.2.1 s≠none→f s≠none∨xP l (dQ l i) s)∧(∀s,y.2.2.1 s≠none→f s=none→∀b,yg l s b→y.2.2.1 b≠none)
    ∧ (∀p∈ei,∀b v,p=(p.1,.str b,v)→(yg l (dQ l i) b→y.2.2.1 b≠none)∨p∈fq y.2.2.2 ei)∧zz l y.2.2.1≤N)∧Wk (H++[dh.it (2*i+3) ci [] ci]).length [] (H.set sid (.mp c2 ga)++[.it (2*i+3) ci (jt p.1 sn) ci]) [] (H.set sid (.mp y.1 y.2.1)++[.it (2*i+3) ci y.2.2.2 ci])∧(fq y.2.2.2 ei).length<(fq sn ei).length:=by
   intro c2 ga g2 m2 t2 j1 j2 j3 j4;refine⟨(c2,ga,g2,jt p.1 sn),⟨m2,t2,fun s h=>j1 s (i1 s h),fun s h=>?_,fun s h h0 b hb=>?_,fun p' hp' b v' ep' => ?_,acx (aa6 j1) i5⟩,Wk.refl _ _ _ (by simp),vT hp⟩
   ·rcases j2 s h with q|q
    ·exact i2 s q
    ·exact .inr q
   ·cases hg:g s with
    | none=>exact j3 s h hg b hb
    | some w=>exact j1 b (i3 s (by rw[hg];simp) h0 b hb)
   ·rcases i4 p' hp' b v' ep' with q|q
    ·exact .inl fun hb=>j1 b (q hb)
    ·rcases hi2.left (rp hp) q with rfl|q
     ·left;rw[ep]at ep';simp only[aaZ,AV.str.injEq,true_and]at ep';obtain⟨rfl,_⟩:=ep';exact j4
     ·exact .inr q
  refine zzB rfl (zzL rfl (LQ (m:=2*i+3) (n:=p.1) rfl (gi _ _) (by rw[gk _ _ _ (by omega) (by omega)];exact hi1) rfl (uO _ _) bs (zzB rfl (zzU (by rw[gk _ _ _ (by omega) (by omega)];exact lq.o) rfl ?_))))
  by_cases hj:∃j,j<l.length∧dQ l j=s
  ·obtain⟨j,hj,rfl⟩:=hj;have ne1:yg l (dQ l i) (dQ l j):=⟨⟨i,hi,rfl,hu⟩,j,hj,rfl⟩;refine rN (q0:=some (.mp (2*j+3))) rfl (by rw[gk _ _ _ (by omega) (by omega)];exact lq.z) rfl (zQ (f:=fun i=>.mp (2*i+3)) inj l.length 0 j (by omega) (by omega) (by omega)) rfl (UI rfl (ay (zzN rfl (zzU (by rw[gk _ _ _ lsb nsb];exact hsb) rfl (rN rfl (gs _ _) rfl (m1.look _) rfl ?_)))));cases hg:g (dQ l j) with
   | some v =>
     obtain rfl:=t1 _ _ hg;refine zzO (af (zzR (zzK rfl (af ?_))));exact nxt c1 jD g m1 t1 (fun s h=>h) (fun s h=>.inl h) (fun s h h0=>absurd h0 h) fun _=>by rw[hg];simp
   | none =>
     refine zzO (af (zzR (zzL rfl (zzU (by rw[gk _ _ _ lsb nsb];exact hsb) rfl ?_))));obtain⟨c2,ga,u2,m2,_⟩:=m1.Jw (dQ l j) tt;refine zze (gs _ _) rfl u2 (ss _ _ _) (zzU (by rw[gk _ _ _ lwb nwb];exact hwb) rfl ?_);have t2:xQ (fun t=>if t=dQ l j then some tt else g t):=fun t v h=>by
      dsimp only at h;split at h
      ·cases h;rfl
      ·exact t1 t v h
     have k1:∀t,g t≠none→(if t=dQ l j then some tt else g t)≠none:=fun t h=>if e:t=dQ l j then by rw[if_pos e];simp else by rw[if_neg e];exact h
     have lt:zz l (fun t=>if t=dQ l j then some tt else g t)<N:=UP (aa7 hj k1 hg (by simp)) i5;refine rI (by kernel_rfl) rfl (hP _ lt _ _ j sid sb wb c2 ga hj (aS _) (lqG _ _) hsid (by rw[gk _ _ _ lsb nsb];exact hsb) (by rw[gk _ _ _ lwb nwb];exact hwb) (gs _ _) m2 t2) ?_;rintro r G' ⟨rfl,c3,es3,g3,rfl,m3,t3,R⟩;rw[ss];refine af ?_;refine nxt c3 es3 g3 m3 t3 (fun s h=>R.mono s (k1 s h)) (fun s h=>?_) (fun s h h0 b hb=>?_) fun _=>R.mono _ (by simp)
     ·rcases R.new s h with q|q
      ·split at q
       ·rename_i e;subst e;exact .inr (.one ne1)
       ·exact .inl q
      ·exact .inr (.step ne1 q)
     ·by_cases e:s=dQ l j
      ·subst e;exact R.own b hb
      ·exact R.cl s h (by rw[if_neg e];exact h0) b hb
  ·refine rN (q0:=none) rfl (by rw[gk _ _ _ (by omega) (by omega)];exact lq.z) rfl (IM (f:=fun i=>.mp (2*i+3)) l.length 0 fun i _ h e=>hj ⟨i,by omega,e⟩) rfl (UH (ay (zzM rfl (af (zzQ (zzK rfl (af ?_)))))));exact nxt c1 jD g m1 t1 (fun s h=>h) (fun s h=>.inl h) (fun s h h0=>absurd h0 h) fun⟨_,q⟩=>absurd q hj
theorem abf(inj:ny l)(N:Nat):YI l N:=by
 induction N using Nat.strongRecOn with
 | _ N ih=>exact Xk inj ih
theorem Rl.iff{f':aD→Option AV}{x:aD}(r:Rl l (fun _=>none) f' x)(t:aD):f' t≠none↔xP l x t:=by
 constructor
 ·intro h;rcases r.new t h with q|q
  ·exact absurd rfl q
  ·exact q
 ·have cl:∀{a b:aD},xP l a b→f' a≠none→f' b≠none:=by
   intro a b h;induction h with
   | one e=>exact fun q=>r.cl _ q rfl _ e
   | step e _ ih=>exact fun q=>ih (r.cl _ q rfl _ e)
  intro h;cases h with
  | one e=>exact r.own _ e
  | step e h=>exact cl h (r.own _ e)
open Classical in
def jH(l:List Cu)(i:Nat):Bool:=decide (xP l (dQ l i) (dQ l i))
theorem Za{i:Nat}(h:¬xP l (dQ l i) (dQ l i)):jH l i=false:=by unfold jH;exact @decide_eq_false _ (_) h
theorem aeM{i:Nat}(h:xP l (dQ l i) (dQ l i)):jH l i=true:=by unfold jH;exact @decide_eq_true _ (_) h
theorem yk(hl:l.length<2^20)(inj:ny l)(hz:∀c∈l,aW c.value<2^38):
 dY p_ 185 [.sl 2 (az l)] [] fun v h' => ∃id,v=.mp id∧h'[id]?=some (.mp l.length (jv (fun i=>b_ (jH l i)) (dQ l) 0 l.length)):=by
 refine (aeu _).kb ?_;unfold Yo;refine qa (n:=0) (h':=[.mp 0 []]) rfl rfl (cI (n:=1) (h':=[_,_]) rfl rfl rfl rfl (cf (id:=1) (o:=0) (cs:=[.mp 0]) (h':=[.mp 0 [],.aC ⟨340,[.mp 0],true⟩]) rfl rfl rfl rfl (aS _) rfl rfl rfl ?_));refine zzk (n:=l.length) (by simp[az]) fun _=>?_;refine aU (α:=Nat×aa) (fun x=>x.1≤l.length∧x.2.length=2+2*x.1∧Lq l x.1 x.2) (fun x=>[i_ x.1]) (fun x=>x.2) (fun x=>l.length-x.1) (0,[.mp 0 [],.aC ⟨340,[.mp 0],true⟩]) ⟨by simp,rfl,⟨aS _,rfl,rfl,fun i h=>by omega⟩⟩ (Wk.refl _ _ _ (aS _)) ?_;rintro⟨k,H⟩ ⟨hk,hH,lp⟩;dsimp only at hk hH lp ⊢;refine zzC ?_;rcases AT k l.length with q|q
 ·obtain⟨c,hx⟩:∃x,l[k]?=some x:=⟨l[k],dO q⟩;have hc:=gO hx;refine zzL (by simpa using q) (qk hx (tX (n:=H.length) (h':=H++[cB c]) rfl rfl ?_));refine zzU (b:=⟨340,[.mp 0],true⟩) (by rw[iD (by omega)];exact lp.o) rfl ?_;refine zzA (oz (c:=c) (by simp) (qa (n:=2*k+3) (h':=H++[cB c,.mp 0 []]) (by simp;omega) (by simp) ?_));refine uu (c':=k+1) (es':=zh l (k+1)) (h':=(H++[cB c,.mp 0 []]).set 0 (.mp (k+1) (zh l (k+1)))) rfl (by rw[iD (by omega)];exact lp.z) rfl (by rw[←nk hx];exact Fs (f:=fun i=>.mp (2*i+3)) inj q) rfl ?_;have e0:((H++[cB c,.mp 0 []]).set 0 (.mp (k+1) (zh l (k+1)))).length=2+2*(k+1):=by simp;omega
  have ez:((H++[cB c,.mp 0 []]).set 0 (.mp (k+1) (zh l (k+1))))[0]?=some (.mp (k+1) (zh l (k+1))):=iN (by simp);have ge:∀i,i≠0→((H++[cB c,.mp 0 []]).set 0 (.mp (k+1) (zh l (k+1))))[i]?=(H++[cB c,.mp 0 []])[i]?:=fun i hi=>iS (Ne.symm hi);have gH:∀i,i≠0→i<H.length→((H++[cB c,.mp 0 []]).set 0 (.mp (k+1) (zh l (k+1))))[i]?=H[i]?:=fun i h0 hi=>by rw[ge i h0,iD hi]
  have em:((H++[cB c,.mp 0 []]).set 0 (.mp (k+1) (zh l (k+1))))[2*k+3]?=some (.mp 0 []):=by rw[ge _ (by omega),iF (by omega),show 2*k+3-H.length=1 by omega];rfl
  have eb:((H++[cB c,.mp 0 []]).set 0 (.mp (k+1) (zh l (k+1))))[H.length]?=some (cB c):=by rw[ge _ (by omega)];simp
  generalize (H++[cB c,.mp 0 []]).set 0 (.mp (k+1) (zh l (k+1)))=H3 at e0 ez gH em eb ⊢;have eo:H3[1]?=some (.aC ⟨340,[.mp 0],true⟩):=by rw[gH 1 (by omega) (by omega)];exact lp.o
  refine zzA (B3 eb (zzU eo rfl (zzA (oz eb (rN (q0:=some (.mp (2*k+3))) rfl ez rfl (by rw[←nk hx];exact zQ (f:=fun i=>.mp (2*i+3)) inj (k+1) 0 k (by omega) (by omega) (by omega)) rfl (rI (by kernel_rfl) rfl (Ag (hz c hc) em Mp.new fun _ _ h=>by cases h) ?_))))));rintro r G ⟨rfl,c',es',rfl,mm⟩;have gs:∀i,i≠2*k+3→(H3.set (2*k+3) (.mp c' es'))[i]?=H3[i]?:=fun i hi=>iS (Ne.symm hi);refine zzP (by unfold aN;omega) (af ?_);refine⟨(k+1,H3.set (2*k+3) (.mp c' es')),⟨q,by simpa using e0,⟨by simp only[abe];omega,by rw[gs 0 (by omega)];exact ez,by rw[gs 1 (by omega)];exact eo,fun i hi=>?_⟩⟩,Wk.refl _ _ _ (by simp only[aah,acR,abe];omega),by dsimp only;omega⟩
  by_cases e:i=k
  ·subst e;exact⟨c',es',iN (by omega),by rw[uk hx];exact mm⟩
  ·rw[gs _ (by omega),gH _ (by omega) (by omega)];exact lp.m i (by omega)
 ·obtain rfl:k=l.length:=by omega
  refine zzK (by simp) (qa (n:=H.length) (h':=H++[.mp 0 []]) rfl rfl ?_);refine zzk (n:=l.length) (by simp[az]) fun _=>?_;refine aU (α:=Nat×aa) (fun x=>x.1≤l.length∧H.length<x.2.length∧x.2[H.length]?=some (.mp x.1 (jv (fun i=>b_ (jH l i)) (dQ l) 0 x.1))∧Lq l l.length x.2) (fun x=>[i_ x.1]) (fun x=>x.2) (fun x=>l.length-x.1) (0,H++[.mp 0 []]) ⟨by simp,by simp,KL, ?_⟩ (Wk.refl _ _ _ (aS _)) ?_
  ·exact lp.of (by simp;omega) fun i hi=>iD (by omega)
  rintro⟨k,G⟩ ⟨hk,hG,hO,lg⟩;dsimp only at hk hG hO lg ⊢;refine zzC ?_;rcases AT k l.length with q|q
  ·obtain⟨c,hx⟩:∃x,l[k]?=some x:=⟨l[k],dO q⟩;refine zzL (by simpa using q) (qk hx (tX (n:=G.length) (h':=G++[cB c]) rfl rfl (qa (n:=G.length+1) (h':=G++[cB c,.mp 0 []]) (by simp) (by simp) (cI (cs:=[.v (.map none)]) (n:=G.length+2) (h':=G++[cB c,.mp 0 [],.aC ⟨175,[.v (.map none)],true⟩]) rfl rfl (by simp) (by simp) (cf (cs:=[.mp (G.length+1)]) (h':=G++[cB c,.mp 0 [],.aC ⟨175,[.mp (G.length+1)],true⟩]) rfl (b:=⟨175,[.v (.map none)],true⟩) (by simp) rfl rfl (by simp) rfl rfl (by simp[dw]) (cI (cs:=[.v .nilFunc]) (n:=G.length+3) (h':=G++[cB c,.mp 0 [],.aC ⟨175,[.mp (G.length+1)],true⟩,.aC ⟨341,[.v .nilFunc],true⟩]) rfl rfl (by simp) (by simp) (cf (cs:=[.fn (.func 225) [] [.op 1 0,.op (G.length+2) 0,.op (G.length+3) 0]]) (h':=G++[cB c,.mp 0 [],.aC ⟨175,[.mp (G.length+1)],true⟩,.aC ⟨341,[.fn (.func 225) [] [.op 1 0,.op (G.length+2) 0,.op (G.length+3) 0]],true⟩]) rfl (b:=⟨341,[.v .nilFunc],true⟩) (by simp) rfl rfl (by simp) rfl rfl (by simp[dw]) ?_)))))));obtain⟨J,hJ⟩:∃J,G++[cB c,.mp 0 [],.aC ⟨175,[.mp (G.length+1)],true⟩,.aC ⟨341,[.fn (.func 225) [] [.op 1 0,.op (G.length+2) 0,.op (G.length+3) 0]],true⟩]=J:=⟨_,rfl⟩;have gl:∀i,i<G.length→J[i]?=G[i]?:=fun i hi=>by rw[←hJ];exact iD hi
   have eb:J[G.length]?=some (cB c):=by rw[←hJ];simp
   have em:J[G.length+1]?=some (.mp 0 []):=by rw[←hJ];simp
   have es:J[G.length+2]?=some (.aC ⟨175,[.mp (G.length+1)],true⟩):=by rw[←hJ];simp
   have ew:J[G.length+3]?=some (.aC ⟨341,[.fn (.func 225) [] [.op 1 0,.op (G.length+2) 0,.op (G.length+3) 0]],true⟩):=by rw[←hJ];simp
   have el:J.length=G.length+4:=by rw[←hJ];simp
   rw[hJ];clear hJ;have lj:=lg.len;refine zzU ew rfl (zzA (oz eb (rI (by kernel_rfl) (by rw[nk hx];rfl) (abf inj (zz l fun _=>none) J (fun _=>none) k (G.length+1) (G.length+2) (G.length+3) 0 [] q (aS _) (lg.of (by omega) fun i hi=>gl i (by omega)) (by omega) es ew em Mp.new fun _ _ h=>by cases h) ?_)));rintro r G' ⟨rfl,c3,es3,f3,rfl,m3,t3,R⟩;have gj:∀i,i≠G.length+1→(J.set (G.length+1) (.mp c3 es3))[i]?=J[i]?:=fun i hi=>iS (Ne.symm hi);have ev:(match f3 c.name with|some v=>v|none=>ff)=b_ (jH l k):=by
    have:=R.iff (dQ l k);rw[nk hx]at this;cases hf:f3 c.name with
    | none =>
      rw[hf]at this;rw[Za (by rw[nk hx];exact fun h=>(this.2 h) rfl)]
    | some v =>
      obtain rfl:=t3 _ _ hf;rw[hf]at this;rw[aeM (by rw[nk hx];exact this.1 (by simp))]
   refine zzA (oz (by rw[gj _ (by omega)];exact eb) (zzU (by rw[gj _ (by omega)];exact es) rfl (zzA (oz (by rw[gj _ (by omega)];exact eb) ?_))));refine rN (v:=b_ (jH l k)) rfl (iN (by omega)) rfl (m3.look c.name) (by
    rw[←ev];cases f3 c.name<;>rfl) ?_
   have gz:∀i,i<G.length→i≠H.length→((J.set (G.length+1) (.mp c3 es3)).set H.length (.mp (k+1) (jv (fun i=>b_ (jH l i)) (dQ l) 0 (k+1))))[i]?=G[i]?:=fun i h1 h2=>by rw[iS (Ne.symm h2),gj i (by omega),gl i h1]
   refine uu (c':=k+1) (es':=jv (fun i=>b_ (jH l i)) (dQ l) 0 (k+1)) rfl (by rw[gj _ (by omega),gl _ hG];exact hO) rfl (by rw[←nk hx];exact Fs (f:=fun i=>b_ (jH l i)) inj q) rfl (zzP (by unfold aN;omega) (af ?_));have hlg:=lg.len;refine⟨(k+1,(J.set (G.length+1) (.mp c3 es3)).set H.length (.mp (k+1) (jv (fun i=>b_ (jH l i)) (dQ l) 0 (k+1)))),⟨q,by simp only[abe];omega,iN (by simp only[abe];omega),lg.of (by simp only[abe];omega) fun i hi=>gz i (by omega) (by omega)⟩,Wk.refl _ _ _ (by simp only[abe,DO,aah,acR];omega),by dsimp only;omega⟩
  ·obtain rfl:k=l.length:=by omega
   refine zzK (by simp) ?_;exact⟨_,_,Wk.refl _ _ _ (acr _),_,rfl,hO⟩
end
section
open Go Go.Aw
variable [Laid]
def Tz(x0 a b:AV)(g:aa)(N1:List AV→aa→Prop)(K:AV→aa→Prop):Prop:=
 bu x0 fun v108=>bJ [(i_ 0)] g fun N109 s110 g111 =>
 /- - -/ ab .lss (nx s110 0) v108 fun v112=>ae v112 (aB (fun J113=>aG 2 x0 (nx s110 0) fun v114=>ag true 2 v114 g111 fun v115=>br 86 (.agg [(.str []),(.v (.slice none 0 0))]) g111 fun v116 g117=>aE 2 v116 v115 g117 fun g118=>bh 0 v116 fun v119=>ag false 1 v119 g118 fun v120=>kq .string true (.v (.slice none 0 0)) b v120 g118 fun v121=>aK 0 v121 fun v122=>aK 1 v121 fun v123=>fe v123 fun v124=>ae v124 ([x0,a,b,x0,v108,(nx s110 0)]=[x0,a,b,x0,v108,(nx s110 0)]∧J113 [] g118) (qj g118 fun v125 g126=>bh 1 v116 fun v127=>ag false 1 v127 g126 fun v128=>eJ p_ (.fn (.func 186) [] []) [v128,v125] g126 fun v129 g130=>w9 v125 g130 fun v131 g132=>bJ [ff] g132 fun N133 s134 g135 =>
 /- waits -/ w8 v131 g135 fun v136 g137=>aK 0 v136 fun v138=>ae v138 (w7 v131 g137 fun v139=>aK 0 v139 fun v140=>kq .string true (.v (.slice none 0 0)) b v140 g137 fun v141=>aK 0 v141 fun v142=>aK 1 v141 fun v143=>ae v143 ([x0,a,b,v116,x0,v108,(nx s110 0),v131]=[x0,a,b,v116,x0,v108,(nx s110 0),v131]∧N133 [tt] g137) ([x0,a,b,v116,x0,v108,(nx s110 0),v131]=[x0,a,b,v116,x0,v108,(nx s110 0),v131]∧N133 [(nx s134 0)] g137)) (ae (nx s134 0) ([x0,a,b,x0,v108,(nx s110 0)]=[x0,a,b,x0,v108,(nx s110 0)]∧J113 [] g137) (bh 0 v116 fun v144=>ag false 1 v144 g137 fun v145=>yU .string b v145 g137 fun v146 g147=>bh 1 v116 fun v148=>ag false 1 v148 g147 fun v149=>eJ p_ (.fn (.func 41) [] []) [v149,a] g147 fun v150 g151=>aK 0 v150 fun v152=>aK 1 v150 fun v153=>ab .eql v153 (i_ 0) fun v154=>aB (fun J155=>au v154 true (eJ p_ (.fn (.func 62) [] []) [v152] g151 fun v156 g157=>ab .leq v156 (i_ 2000) fun v158=>[x0,a,b,v116,v152]=[x0,a,b,v116,v152]∧J155 [tt,v158] g157) ([x0,a,b,v116,v152]=[x0,a,b,v116,v152]∧J155 [(aQ true v154),un] g151)) fun s159 g160=>aH (nx s159 0) (nx s159 1) ff fun v161=>ae v161 (bh 0 v116 fun v162=>ag false 1 v162 g160 fun v163=>jh .string a v163 v152 g160 fun g164=>[x0]=[x0]∧N1 [a,b] g164) ([x0]=[x0]∧N1 [a,b] g160))))) fun s165 g166=>ab .add (nx s110 0) (i_ 1) fun v167=>[x0,a,b,x0,v108]=[x0,a,b,x0,v108]∧N109 [v167] g166) (bu x0 fun v168=>bJ [(.v (.slice none 0 0)),(i_ 0)] g111 fun N169 s170 g171 =>
 /- out - -/ ab .lss (nx s170 1) v168 fun v172=>ae v172 (aB (fun J173=>aG 2 x0 (nx s170 1) fun v174=>ag true 2 v174 g171 fun v175=>br 86 (.agg [(.str []),(.v (.slice none 0 0))]) g171 fun v176 g177=>aE 2 v176 v175 g177 fun g178=>bh 0 v176 fun v179=>ag false 1 v179 g178 fun v180=>kq .string true (.v (.slice none 0 0)) a v180 g178 fun v181=>aK 0 v181 fun v182=>aK 1 v181 fun v183=>ae v183 (bh 0 v176 fun v184=>ag false 1 v184 g178 fun v185=>aY (.agg [(.str []),(.v (.slice none 0 0))]) [(0,1,v185),(1,1,v182)] fun v186=>bH 1 2 (.agg [(.str []),(.v (.slice none 0 0))]) [(0,2,v186)] fun v187=>eE false 86 2 40 (nx s170 0) v187 g178 fun v188 g189=>[a,x0,v168,(nx s170 1)]=[a,x0,v168,(nx s170 1)]∧J173 [v188] g189) ([a,x0,v168,(nx s170 1)]=[a,x0,v168,(nx s170 1)]∧J173 [(nx s170 0)] g178)) fun s190 g191=>ab .add (nx s170 1) (i_ 1) fun v192=>[a,x0,v168]=[a,x0,v168]∧N169 [(nx s190 0),v192] g191) (K (nx s170 0) g171))
end
section
open Go Go.Aw Go.dz
variable{l:List Cu}{op:Nat→Bool}{jD ga:List (Nat×AV×AV)}{i c1 c2:Nat}{sv:dJ}{s:aD}
def my(l:List Cu)(s:aD):Option Nat:=(List.range l.length).find? fun i=>decide (dQ l i=s)
theorem nU(h:my l s=some i):i<l.length∧dQ l i=s:=by
 unfold my at h;exact⟨ID.1 (List.mem_of_find?_eq_some h),by simpa using List.find?_some h⟩
theorem EC(inj:ny l)(hi:i<l.length):my l (dQ l i)=some i:=by
 cases h:my l (dQ l i) with
 | none =>
   unfold my at h;have:=List.find?_eq_none.1 h i (ID.2 hi);simp at this
 | some j =>
   obtain⟨h1,h2⟩:=nU h;rw[inj _ _ h1 hi h2]
theorem VZ(h:my l s=none)(hi:i<l.length):dQ l i≠s:=by
 unfold my at h;have:=List.find?_eq_none.1 h i (ID.2 hi);simpa using this
def oW(l:List Cu)(op:Nat→Bool):dJ:=fun s=>(my l s).bind fun i=>if op i then some (pX l i) else none
theorem aaj(inj:ny l)(hi:i<l.length):oW l op (dQ l i)=if op i then some (pX l i) else none:=by
 unfold oW;rw[EC inj hi];rfl
theorem zj{op op':Nat→Bool}(h:∀i,i<l.length→op i=op' i)(s:aD):oW l op s=oW l op' s:=by
 unfold oW;cases e:my l s with
 | none=>rfl
 | some i=>simp only[Option.bind_some,h i (nU e).1]
def sF(op:Nat→Bool)(i:Nat):Nat→Bool:=fun j=>if j=i then false else op j
theorem Lh(inj:ny l)(hi:i<l.length)(s:aD):(if s=dQ l i then none else kU (oW l op) s)=kU (oW l (sF op i)) s:=by
 unfold kU oW sF;cases e:my l s with
 | none=>simp
 | some j =>
   obtain⟨hj,rfl⟩:=nU e
   by_cases q:j=i
   ·subst q;simp
   ·rw[if_neg fun h=>q (inj _ _ hj hi h)];simp[q]
theorem IT(inj:ny l)(f:Nat→AV):Mp l.length (jv f (dQ l) 0 l.length) fun s=>(my l s).map f:=by
 refine⟨(List.range' 0 l.length).map fun i=>(i,dQ l i,f i),by simp[ki,jv],⟨?_, ?_, ?_⟩,fun s=>?_⟩
 ·rw[List.map_map,List.Nodup,List.pairwise_map];refine (List.nodup_range' (s:=0) (n:=l.length) (step:=1)).imp_of_mem fun {a b} ha hb h e=>h ?_;exact inj _ _ (by have:=List.mem_range'_1.1 ha;omega) (by have:=List.mem_range'_1.1 hb;omega) e
 ·rw[List.map_map];exact (List.map_id _).symm▸List.nodup_range' (s:=0) (n:=l.length) (step:=1)
 ·intro p hp;obtain⟨i,hi,rfl⟩:=aas.1 hp;have:=List.mem_range'_1.1 hi;show i<l.length;omega
 ·have:∀n a,a+n≤l.length→fL ((List.range' a n).map fun i=>(i,dQ l i,f i)) s=(match my l s with|some i=>if a≤i∧i<a+n then some (f i) else none|none=>none):=by
   intro n;induction n with
   | zero=>intro a _;cases my l s<;>simp[fL]
   | succ n ih =>
     intro a ha;rw[List.range'_succ,IF,fL,ih (a+1) (by omega)];cases e:my l s with
     | none=>rw[if_neg (VZ e (by omega))]
     | some i =>
       obtain⟨hi,rfl⟩:=nU e
       by_cases q:dQ l a=dQ l i
       ·obtain rfl:=inj _ _ (by omega) hi q;simp
       ·have:a≠i:=fun e=>q (by rw[e]);rw[if_neg q];simp only
        by_cases r:a+1≤i∧i<a+1+n
        ·rw[if_pos r,if_pos ⟨by omega,by omega⟩]
        ·rw[if_neg r,if_neg (by omega)]
  rw[this l.length 0 (by omega)];cases e:my l s with
  | none=>simp[e]
  | some i=>simp[e,(nU e).1]
def rA(l:List Cu)(op:Nat→Bool)(i:Nat):Bool:=op i&&(iO (pX l i)).all fun s=>(oW l op s).isNone
def qh(l:List Cu)(op:Nat→Bool):Option Nat:=(List.range l.length).find? (rA l op)
theorem wW{p:Nat→Bool}{j:Nat}:∀n a,a≤j→j<a+n→p j=true→(∀i,a≤i→i<j→p i=false)→(List.range' a n).find? p=some j
 | 0,a,h1,h2,_,_=>by omega
 | n+1,a,h1,h2,hp,h=>by
   rw[List.range'_succ,List.find?_cons]
   by_cases e:a=j
   ·subst e;rw[hp]
   ·rw[h a (aS _) (by omega)];exact wW n (a+1) (by omega) (by omega) hp fun i h1 h2=>h i (by omega) h2
theorem VP{j:Nat}(hj:j<l.length)(hp:rA l op j=true)(h:∀i,i<j→rA l op i=false):qh l op=some j:=by
 unfold qh;rw[List.range_eq_range'];exact wW _ _ (acr _) (by omega) hp fun i _=>h i
theorem VQ(h:∀i,i<l.length→rA l op i=false):qh l op=none:=by
 unfold qh;rw[List.find?_eq_none];intro i hi;rw[h i (ID.1 hi)];decide
theorem O7{j:Nat}(h:qh l op=some j):j<l.length∧op j=true:=by
 unfold qh at h;have h1:=List.find?_some h;unfold rA at h1;rw[On]at h1;exact⟨ID.1 (List.mem_of_find?_eq_some h),h1.1⟩
def nY(sv:dJ)(l:List Cu)(i:Nat):dJ:=if (dM sv (pX l i)).2=0∧aW (dM sv (pX l i)).1≤2000 then fun s=>if s=dQ l i then some (dM sv (pX l i)).1 else sv s else sv
theorem Jc(ok:oX sv){x:List Vl}(h:(dM sv x).2=0):ct (dM sv x).1=false∧dC (dM sv x).1=0:=by
 cases hm:eA sv x with
 | none=>simp[dM,hm]at h
 | some n =>
   have e:dM sv x=if 2000<n∧ct x=true then ([],28) else if dC (dG sv x)=0 then (dG sv x,0) else ([],dC (dG sv x)):=by unfold dM;rw[hm]
   rw[e]at h ⊢
   by_cases h1:2000<n∧ct x=true
   ·rw[if_pos h1]at h;cases h
   ·rw[if_neg h1]at h ⊢
    by_cases h2:dC (dG sv x)=0
    ·rw[if_pos h2];exact⟨(lS ok _ _ _ (aS _) hm).2,h2⟩
    ·rw[if_neg h2]at h;exact absurd h h2
theorem Lm(ok:oX sv)(l:List Cu)(i:Nat):oX (nY sv l i):=by
 unfold nY;split
 ·rename_i h;refine⟨fun s x e=>?_,fun s x e=>?_⟩
  ·split at e
   ·cases e;exact (Jc ok h.1).1
   ·exact ok.no s x e
  ·split at e
   ·cases e;exact h.2
   ·exact ok.le s x e
 ·exact ok
def pI(l:List Cu):Nat→(Nat→Bool)→dJ→dJ
 | 0,_,sv=>sv
 | N+1,op,sv=>match qh l op with
   | none=>sv
   | some i=>pI l N (sF op i) (nY sv l i)
def uZ(l:List Cu):dJ:=pI l l.length (fun i=>!jH l i) fun _=>none
def kR(sv:dJ)(l:List Cu):List Cu:=l.filterMap fun x=>(sv x.name).map fun v=>⟨x.name,v⟩
def mX(l:List Cu):List Cu:=kR (uZ l) l
def wE(l:List Cu)(op:Nat→Bool):Nat:=((List.range l.length).filter op).length
theorem QW(hi:i<l.length)(h:op i=true):wE l (sF op i)<wE l op:=
 filter_lt (fun x hx=>by unfold sF at hx;split at hx<;>first|cases hx|exact hx) h (by simp[sF]) (ID.2 hi)
theorem Ni[Laid]{c:dJ}{id cl:Nat}{es:List (Nat×AV×AV)}{h:aa}{K:AV→Prop}(h1:h[id]?=some (.mp cl es))(h2:Mp cl es (kU c))(q:K (.aF [match c s with|some x=>.sl 6 (ar x)|none=>.v (.slice none 0 0),b_ (c s).isSome])):kq .string true (.v (.slice none 0 0)) (.mp id) (.str s) h K:=by
 refine rN rfl h1 rfl (h2.look s) rfl ?_;unfold kU;cases hc:c s with
 | none=>rw[hc]at q;exact q
 | some x=>rw[hc]at q;exact q
theorem Fj{α:Type}{B G:List α}{t:List α}(e:G=B++t):G.take B.length=B:=by subst e;simp
theorem CC(a b:List Cu):az (a++b)=az a++az b:=by simp[az]
theorem Wv{k:Nat}{c:Cu}(h:l[k]?=some c):kR sv (l.take (k+1))=kR sv (l.take k)++(match sv c.name with|some v=>[⟨c.name,v⟩]|none=>[]):=by
 unfold kR;rw[Gt,h,List.filterMap_append];cases hs:sv c.name<;>simp[hs]
theorem I3(sv:dJ)(l:List Cu):(kR sv l).length≤l.length:=List.length_filterMap_le _ _
theorem LK(hl:l.length≤64)(inj:ny l)(hz:∀c∈l,aW c.value<2^23){B:aa}{a b c1 c2:Nat}(hab:a≠b)(hS:B[a]?=some (.mp c1 jD))(hO:B[b]?=some (.mp c2 ga))(hB:∀e∈B,gr B.length e)
 (m1:Mp c1 jD (kU sv)) (m2:Mp c2 ga (kU (oW l op))) (ok:oX sv) {N1:List AV→aa→Prop} {K:AV→aa→Prop}
 (hN:∀i c1' es1' c2' es2' t,qh l op=some i→Mp c1' es1' (kU (nY sv l i))→Mp c2' es2' (kU (oW l (sF op i)))→N1 [.mp a,.mp b] ((B.set b (.mp c2' es2')).set a (.mp c1' es1')++t))
 (hK:qh l op=none→∀id G,K (.sb id 2 (az (kR sv l))) G):Tz (.sl 2 (az l)) (.mp a) (.mp b) B N1 K:=by
 unfold Tz;have ha:=(gE.1 hS).1;have hb:=(gE.1 hO).1;have gB:∀(t:aa) (i:Nat),i<B.length→(B++t)[i]?=B[i]?:=fun t i hi=>iD hi;refine zzk (n:=l.length) (by simp[az]) fun _=>?_;refine aU (α:=Nat) (fun j=>j≤l.length∧∀i,i<j→rA l op i=false) (fun j=>[i_ j]) (fun _=>B) (fun j=>l.length-j) 0 ⟨acr _,fun i h=>absurd h (Nat.not_lt_zero _)⟩ (Wk.refl _ _ _ (aS _)) ?_;rintro j ⟨hj,hno⟩;refine zzC ?_;rcases AT j l.length with q|q
 ·obtain⟨c,hx⟩:∃x,l[j]?=some x:=⟨l[j],dO q⟩;have hc:=gO hx;have hnm:=nk hx;have hvl:=uk hx;have eo:=aaj (op:=op) inj q;rw[hnm,hvl]at eo;refine zzL (by simpa using q) ?_;refine gF (fun s G=>s=[]∧(∃t,G=B++t)∧rA l op j=false) ?_ fun F hF=>?_
  ·rintro _ _ ⟨rfl,⟨t,rfl⟩,hr⟩;refine zzP (by unfold aN;omega) (af ?_);refine⟨j+1,⟨q,fun i hi=>?_⟩,Wk.back (M:=B.length) (aS _) (by simp) (Fj rfl) rfl hB (by simp[Bd]),by omega⟩
   by_cases e:i=j
   ·subst e;exact hr
   ·exact hno i (by omega)
  refine qk hx (tX (n:=B.length) (h':=B++[cB c]) rfl rfl (zzA (oz (c:=c) (by simp) (Ni (by rw[gB _ _ hb];exact hO) m2 (zzB rfl (zzB rfl (zzO ?_)))))));cases hop:op j with
  | false =>
    rw[hop]at eo;refine zzL (by rw[eo];rfl) (af ?_);exact hF _ _ ⟨rfl,⟨_,rfl⟩,by unfold rA;rw[hop];rfl⟩
  | true =>
    rw[hop,if_pos rfl]at eo;refine zzK (by rw[eo];rfl) (qa (n:=B.length+1) (h':=B++[cB c,.mp 0 []]) (by simp) (by simp) (zzA (B3 (c:=c) (by simp) (rI (by kernel_rfl) rfl (Ag (by have:=hz c hc;omega) (h:=B++[cB c,.mp 0 []]) (by simp) Mp.new fun _ _ h=>by cases h) ?_))));rintro r G ⟨rfl,cu,eu,rfl,mu⟩;rw[show (B++[cB c,.mp 0 []]).set (B.length+1) (.mp cu eu)=B++[cB c,.mp cu eu] by rw[Lt _ _ (by omega)];simp];refine GH (id:=B.length+1) (c:=cu) (es:=eu) (n:=B.length+2) (h':=B++[cB c,.mp cu eu,.it (B.length+1) cu [] cu]) rfl (by simp) (by simp) (by simp) ?_;refine aU (α:=Bool×List Nat) (fun x=>(x.1=true→∃s∈iO c.value,oW l op s≠none)∧(x.1=false→∀p∈eu,∀s v,p=(p.1,.str s,v)→oW l op s=none∨p∈fq x.2 eu)) (fun x=>[b_ x.1]) (fun x=>B++[cB c,.mp cu eu,.it (B.length+1) cu x.2 cu]) (fun x=>(fq x.2 eu).length) (false,[])
     ⟨fun h=>(Bool.noConfusion h),fun _ p hp s v _=>.inr (by dsimp only;rw[zb];exact hp)⟩ (Wk.refl _ _ _ (aS _)) ?_
    rintro⟨w,sn⟩ ⟨w1,w0⟩;dsimp only at w1 w0 ⊢;have gu:∀x:dh,(B++[cB c,.mp cu eu,x])[B.length+1]?=some (.mp cu eu):=fun x=>by rw[iF (by omega)];simp
    have gx:∀x:dh,(B++[cB c,.mp cu eu,x])[B.length+2]?=some x:=fun x=>by rw[iF (by omega)];simp
    have gc:∀x:dh,(B++[cB c,.mp cu eu,x])[B.length]?=some (cB c):=fun x=>by rw[iF (by omega)];simp
    have sx:∀x y:dh,(B++[cB c,.mp cu eu,x]).set (B.length+2) y=B++[cB c,.mp cu eu,y]:=fun x y=>by rw[Lt _ _ (by omega)];simp
    refine GG (m:=B.length+1) (sn:=sn) rfl (gx _) (gu _) mu.nP (aS _) (fun e0=>?_) fun p hp=>?_
    ·rw[sx];refine zzB rfl (zzK rfl ?_);cases w with
     | true =>
       refine zzL rfl (af ?_);refine hF _ _ ⟨rfl,⟨_,rfl⟩, ?_⟩;obtain⟨s,hs,ho⟩:=w1 rfl;unfold rA;rw[hop,Bool.true_and,hvl,List.all_eq_false];refine⟨s,hs, ?_⟩;cases hh:oW l op s with
       | none=>exact absurd hh ho
       | some x=>simp
     | false =>
       have hr:rA l op j=true:=by
        unfold rA;rw[hop,Bool.true_and,hvl,By];intro s hs;obtain⟨k,hk⟩:=mu.all (s:=s) (v:=tt) (by unfold nA;rw[if_pos hs]);rcases w0 rfl _ hk s tt rfl with q|q
        ·rw[q];rfl
        ·rw[e0]at q;cases q
       have hfs:=VP q hr hno;obtain⟨es2',d2,m2'⟩:=m2.del c.name;have m2'':Mp c2 es2' (kU (oW l (sF op j))):=m2'.ext fun s=>by rw[←hnm];exact Lh inj q s
       have hS':∀t:aa,(B.set b (.mp c2 es2')++t)[a]?=some (.mp c1 jD):=fun t=>by rw[iD (by simpa using ha),iS (Ne.symm hab)];exact hS
       have sb:∀t:aa,(B++t).set b (.mp c2 es2')=B.set b (.mp c2 es2')++t:=fun t=>Aa hb;have sa:∀(t:aa) (x:dh),(B.set b (.mp c2 es2')++t).set a x=(B.set b (.mp c2 es2')).set a x++t:=fun t x=>Aa (by simpa using ha);have gc':∀x:dh,(B.set b (.mp c2 es2')++[cB c,.mp cu eu,x])[B.length]?=some (cB c):=fun x=>by rw[iF (by simp)];simp
       have same:(B.set b (.mp c2 es2')).set a (.mp c1 jD)=B.set b (.mp c2 es2'):=ou (by rw[iS (Ne.symm hab)];exact hS);have stay:nY sv l j=sv→∀t,N1 [.mp a,.mp b] (B.set b (.mp c2 es2')++t):=fun e t=>by
        have:=hN j c1 jD c2 es2' t hfs (by rw[e];exact m1) m2''
        rwa [same]at this
       refine zzK rfl (zzA (oz (gc _) (TC rfl (by rw[gB _ _ hb];exact hO) rfl d2 (sb _) (zzA (B3 (gc' _) (zzd (KD (c:=sv) (by have:=hz c hc;omega) ⟨ok,c1,jD,hS' _,m1⟩) (zzB rfl (zzB rfl (zzG (ay ?_))))))))))
       by_cases h0:(dM sv c.value).2=0
       ·rw[h0];refine zzN rfl ?_;rw[if_pos rfl];have hlen:aW (dM sv c.value).1<2^39:=by
         unfold dM at h0 ⊢;cases hm:eA sv c.value with
         | none=>rw[hm]at h0;cases h0
         | some n =>
           have e1:=(lS ok _ _ _ (aS _) hm).1;have e2:=pT ok _ _ _ (aS _) hm;have e3:=hz c hc;simp only;split
           ·simp[aW]
           ·split
            ·simp only;omega
            ·simp[aW]
        refine zzS (by kernel_rfl) (wJ _ hlen) (zzD (af (zzR ?_)))
        by_cases h1:aW (dM sv c.value).1≤2000
        ·have ep:nY sv l j=fun s=>if s=c.name then some (dM sv c.value).1 else sv s:=by unfold nY;rw[hvl,hnm,if_pos ⟨h0,h1⟩]
         obtain⟨c1',es1',u1,m1',_⟩:=m1.Jw c.name (.sl 6 (ar (dM sv c.value).1));refine zzL (tO (by omega)) (zzA (oz (gc' _) (zze (hS' _) rfl u1 (sa _ _) (af ?_))));refine hN j c1' es1' c2 es2' _ hfs (m1'.ext fun s=>?_) m2'';rw[ep];show (if s=c.name then some (.sl 6 (ar (dM sv c.value).1)) else kU sv s)=Option.map (fun l=>AV.sl 6 (ar l)) (if s=c.name then some (dM sv c.value).1 else sv s)
         by_cases e:s=c.name
         ·rw[if_pos e,if_pos e];rfl
         ·rw[if_neg e,if_neg e];rfl
        ·refine zzK (oN (by omega)) (af ?_);exact stay (by unfold nY;rw[hvl,if_neg fun h=>h1 h.2]) _
       ·refine zzM (oN h0) (af (zzQ (zzK rfl (af ?_))));exact stay (by unfold nY;rw[hvl,if_neg fun h=>h0 h.1]) _
    ·obtain⟨s,v,ep,fs,bs⟩:=mu.tF (rp hp);obtain⟨hu,rfl⟩:=TK fs;rw[sx];refine zzB rfl (zzL rfl (LQ (m:=B.length+1) (n:=p.1) rfl (gx _) (gu _) rfl (uO _ _) bs (zzB rfl (Ni (by rw[gB _ _ hb];exact hO) m2 (zzB rfl (zzB rfl ?_))))));cases ho:oW l op s with
     | some x =>
       refine zzL rfl (af ?_);exact⟨(true,jt p.1 sn),⟨fun _=>⟨s,hu,by rw[ho];simp⟩,fun h=>(Bool.noConfusion h)⟩,Wk.refl _ _ _ (by simp),vT hp⟩
     | none =>
       refine zzK rfl (af ?_);refine⟨(w,jt p.1 sn),⟨w1,fun h p' hp' s' v' ep' => ?_⟩,Wk.refl _ _ _ (by simp),vT hp⟩;rcases w0 h p' hp' s' v' ep' with q|q
       ·exact .inl q
       ·rcases mu.left (rp hp) q with rfl|q
        ·rw[ep]at ep';simp only[aaZ,AV.str.injEq,true_and]at ep';obtain⟨rfl,_⟩:=ep';exact .inl ho
        ·exact .inr q
 ·obtain rfl:j=l.length:=by omega
  have hfs:=VQ hno;refine zzK (by simp) ?_;refine zzk (n:=l.length) (by simp[az]) fun _=>?_;refine aU (α:=Nat) (fun i=>i≤l.length) (fun i=>[.sb B.length 2 (az (kR sv (l.take i))),i_ i]) (fun i=>B++[.tok 86 2 (kR sv (l.take i)).length]) (fun i=>l.length-i) 0 (acr _) ((Wk.nil (aS _) 0 rfl).trans (Wk.tok (aS _) 0 86 2 rfl)) ?_;intro i hi;refine zzC ?_;rcases AT i l.length with q|q
  ·obtain⟨c,hx⟩:∃x,l[i]?=some x:=⟨l[i],dO q⟩;have d1:=Wv (sv:=sv) hx;have pr:=dp (kR sv (l.take (i+1)));have hle:=I3 sv (l.take i);rw[aaW]at hle;obtain⟨R,hR⟩:∃R,az (kR sv (l.take i))=R:=⟨_,rfl⟩;obtain⟨rk,hrk⟩:∃rk,(kR sv (l.take i)).length=rk:=⟨_,rfl⟩;have hRl:R.length=rk:=by rw[←hR,←hrk];simp[az]
   have d2:=congrArg az d1;rw[CC,hR]at d2;have d3:=congrArg List.length d1;rw[DO,hrk]at d3;rw[hR,hrk];rw[hrk]at hle;refine zzL (by simpa using q) ?_;refine gF (fun s G=>∃t,s=[.sb B.length 2 (az (kR sv (l.take (i+1))))]∧G=B++[.tok 86 2 (kR sv (l.take (i+1))).length]++t) ?_ fun F hF=>?_
   ·rintro _ _ ⟨t,rfl,rfl⟩;refine zzP (by unfold aN;omega) (af ?_);refine⟨i+1,q,Wk.back (M:=B.length+1) (by simp) (by first|(simp;done)|(simp;omega)) (by rw[show B.length+1=(B++[dh.tok 86 2 (kR sv (l.take (i+1))).length]).length by simp];exact Fj rfl) rfl ?_ ?_,by omega⟩
    ·intro e he;rcases IN.1 he with he|he
     ·exact nQ (by omega) (hB e he)
     ·simp only[Up]at he;subst he;trivial
    ·have hb:=iR (B.length+1) (.sl 2 (az (kR sv (l.take (i+1))))) (by rw[Aw.Pure];exact pr);rw[Bd]at hb;simp[Bd,hb]
   refine qk hx (tX (n:=B.length+1) (h':=B++[.tok 86 2 rk]++[cB c]) (by simp) (by simp) (zzA (oz (c:=c) (by simp) (Ni (by rw[TO,gB _ _ ha];exact hS) m1 (zzB rfl (zzB rfl ?_))))));cases hs:sv c.name with
   | none =>
     rw[hs]at d2 d3;refine zzK rfl (af ?_);exact hF _ _ ⟨[cB c],by rw[d2];simp[az],by rw[d3];simp⟩
   | some v =>
     rw[hs]at d2 d3;refine zzL rfl (zzA (oz (c:=c) (by simp) (AN (c:=⟨c.name,v⟩) (LR (kP (id:=B.length) (k:=rk) (base:=R) (rows:=[eT ⟨c.name,v⟩]) (h':=B++[.tok 86 2 (rk+1)]++[cB c]) rfl (by simp) hRl.symm fw rfl (by unfold dU maxLen;first|(simp;done)|(simp;omega)) (by simp) (af ?_))))));exact hF _ _ ⟨[cB c],by rw[d2];rfl,by rw[d3];rfl⟩
  ·obtain rfl:i=l.length:=by omega
   refine zzK (by simp) ?_;rw[GO];exact hK hfs _ _
theorem Lu(h:qh l op=none):∀N,pI l N op sv=sv
 | 0=>rfl
 | N+1=>by rw[pI,h]
theorem YZ{h1:aa}{f1 f2:dJ}(hb:∀e∈h1,gr h1.length e)(m1:Mp c1 jD (kU f1))(m2:Mp c2 ga (kU f2)){M:Nat}(hM:h1.length≤M):∀e∈h1++[.mp c1 jD,.mp c2 ga],gr M e:=by
 intro e he;rcases IN.1 he with he|he
 ·exact nQ hM (hb e he)
 ·simp only[IS,List.not_mem_nil,or_false]at he;rcases he with rfl|rfl
  ·exact m1.bd OA
  ·exact m2.bd OA
theorem ok0:oX fun _=>none:=⟨fun _ _ h=>(by cases h),fun _ _ h=>(by cases h)⟩
structure Ty where
 h1:aa
 N:Nat
 op:Nat→Bool
 sv:dJ
 c1:Nat
 jD:List (Nat×AV×AV)
 c2:Nat
 ga:List (Nat×AV×AV)
structure Tx(l:List Cu)(y:Ty):Prop where
 hb:∀e∈y.h1,gr y.h1.length e
 m1:Mp y.c1 y.jD (kU y.sv)
 m2:Mp y.c2 y.ga (kU (oW l y.op))
 ok:oX y.sv
 run:pI l y.N y.op y.sv=uZ l
 cnt:wE l y.op≤y.N
def Qu(y:Ty):List AV:=[.mp y.h1.length,.mp (y.h1.length+1)]
def Ur(y:Ty):aa:=y.h1++[.mp y.c1 y.jD,.mp y.c2 y.ga]
theorem Qv(h1 t:aa)(x y x' y':dh):(((h1++x:: y:: t).set (h1.length+1) y').set h1.length x')=h1++[x',y']++t:=by
 rw[Lt _ _ (by omega),Lt _ _ (by omega)];simp
theorem aa2(h1 t:aa)(x y:dh):(h1++x:: y:: t)[h1.length]?=some x:=by simp
theorem Ta(h1 t:aa)(x y:dh):(h1++x:: y:: t)[h1.length+1]?=some y:=by rw[iF (by omega)];simp
theorem Jq[Laid]{h1 t:aa}{N:Nat}(hb:∀e∈h1,gr h1.length e)(ok:oX sv)(hr:pI l N op sv=uZ l)(hc:wE l op≤N)(hf:qh l op=some i)(m1:Mp c1 jD (kU (nY sv l i)))(m2:Mp c2 ga (kU (oW l (sF op i)))):
 ∃y,Tx l y∧Wk ([]:aa).length [.mp h1.length,.mp (h1.length+1)] (h1++[.mp c1 jD,.mp c2 ga]++t) (Qu y) (Ur y)∧wE l y.op<wE l op:=by
 obtain⟨hi,ho⟩:=O7 hf;have hlt:=QW hi ho;obtain⟨N',rfl⟩:∃N',N=N'+1:=⟨N-1,by omega⟩;rw[pI,hf]at hr;refine⟨⟨h1,N',sF op i,nY sv l i,c1,jD,c2,ga⟩,⟨hb,m1,m2,Lm ok l i,hr,by dsimp only;omega⟩, ?_,hlt⟩;exact Wk.back (M:=(h1++[dh.mp c1 jD,.mp c2 ga]).length) (acr _) (by simp) (Fj rfl) rfl (YZ hb m1 m2 (by simp)) (by simp[Bd,gU,Qu])
theorem mp0:Mp 0 [] (kU fun _=>none):=Mp.new.ext fun _=>rfl
theorem JL(hl:l.length≤64)(inj:ny l)(hz:∀c∈l,aW c.value<2^23):aP p_ 145 [.sl 2 (az l)] (.sl 2 (az (mX l))):=by
 refine (XB _).gives (by simp[dp]) (by rw[Aw.Pure];exact dp _) ?_;unfold QN;refine KQ (α:=Ty) (Tx l) Qu Ur (fun y=>wE l y.op) ?_ ?_
 ·refine su (by kernel_rfl) rfl (yk (by omega) inj (fun c hc=>by have:=hz c hc;omega)) fun r h1 ⟨id,er,hid⟩ hb1=>?_;subst er;have hlt:=(gE.1 hid).1;have md:=IT inj fun i=>b_ (jH l i);refine qa (n:=h1.length) (h':=h1++[.mp 0 []]) rfl rfl ?_;refine su (by kernel_rfl) rfl (yn (by omega) inj) fun r G ⟨er,eG⟩ _=>?_;obtain rfl:r=.mp (h1.length+1):=by rw[er];simp
  obtain rfl:G=h1++[.mp 0 [],.mp l.length (jv (u3 l) (dQ l) 0 l.length)]:=by rw[eG];simp
  have hid':∀t:aa,(h1++t)[id]?=some (.mp l.length (jv (fun i=>b_ (jH l i)) (dQ l) 0 l.length)):=fun t=>by rw[iD hlt];exact hid
  have m0:Mp l.length (jv (u3 l) (dQ l) 0 l.length) (kU (oW l fun _=>true)):=(IT inj (u3 l)).ext fun s=>by
   unfold kU oW;cases e:my l s with
   | none=>rfl
   | some i=>rfl
  refine GH (n:=h1.length+2) (h':=h1++[.mp 0 [],.mp l.length (jv (u3 l) (dQ l) 0 l.length),.it id l.length [] l.length]) rfl (hid' _) (by simp) (by simp) (aU (α:=List Nat×Nat×List (Nat×AV×AV)) (fun x=>Mp x.2.1 x.2.2 (kU (oW l fun i=>if sc i x.1 then !jH l i else true))) (fun _=>[]) (fun x=>h1++[.mp 0 [],.mp x.2.1 x.2.2,.it id l.length x.1 l.length]) (fun x=>(fq x.1 (jv (fun i=>b_ (jH l i)) (dQ l) 0 l.length)).length) ([],l.length,jv (u3 l) (dQ l) 0 l.length) (m0.ext fun s=>rfl) (Wk.refl _ _ _ (aS _)) ?_);rintro⟨sn,c2,ga⟩ m2;dsimp only at m2 ⊢;have gx:∀x:dh,(h1++[.mp 0 [],.mp c2 ga,x])[h1.length+2]?=some x:=fun x=>by rw[iF (by omega)];simp
  have sx:∀(x y z:dh),(h1++[.mp 0 [],x,y]).set (h1.length+2) z=h1++[.mp 0 [],x,z]:=fun x y z=>by rw[Lt _ _ (by omega)];simp
  refine GG (m:=id) rfl (gx _) (hid' _) (Ka _ _ (by omega)) (aS _) (fun e0=>?_) (fun p hp=>?_)
  ·rw[sx];refine zzB rfl (zzK rfl ?_);have m2':Mp c2 ga (kU (oW l fun i=>!jH l i)):=m2.ext fun s=>by
    unfold kU;rw[zj fun i hi=>?_];have hm:((i,AV.str (dQ l i),Aw.b_ (jH l i)):Nat×AV×AV)∈jv (fun i=>b_ (jH l i)) (dQ l) 0 l.length:=aas.2 ⟨i,List.mem_range'_1.2 ⟨acr _,by omega⟩,rfl⟩;cases q:sc i sn with
    | true=>rw[if_pos rfl]
    | false =>
      have:((i,AV.str (dQ l i),Aw.b_ (jH l i)):Nat×AV×AV)∈fq sn (jv (fun i=>b_ (jH l i)) (dQ l) 0 l.length):=by rw[kM];exact acC.2 ⟨hm,by rw[q];rfl⟩
      rw[e0]at this;cases this
   show Tz (.sl 2 (az l)) (.mp h1.length) (.mp (h1.length+1)) (h1++[.mp 0 [],.mp c2 ga,.dead]) (fun s' h' => ∃y,Tx l y∧Wk ([]:aa).length s' h' (Qu y) (Ur y)) (fg (.sl 2 (az (mX l))));refine LK (op:=fun i=>!jH l i) hl inj hz (by omega) (aa2 h1 [.dead] (.mp 0 []) (.mp c2 ga)) (Ta h1 [.dead] (.mp 0 []) (.mp c2 ga)) (fun e he=>?_) mp0 m2' ok0 (fun i c1' es1' c2' es2' t hf n1 n2=>?_) fun hf id G=>?_
   ·rw[show h1++[dh.mp 0 [],.mp c2 ga,.dead]=h1++[dh.mp 0 [],.mp c2 ga]++[.dead] by simp]at he;rcases IN.1 he with he|he
    ·exact YZ (f1:=fun _=>none) hb1 mp0 m2' (by simp) e he
    ·simp only[Up]at he;subst he;trivial
   ·rw[show h1++[dh.mp 0 [],.mp c2 ga,.dead]=h1++dh.mp 0 []:: dh.mp c2 ga:: [.dead] from rfl,Qv,TO _ [dh.dead] t];obtain⟨y,hy,hw,_⟩:=Jq (t:=[.dead]++t) (N:=l.length) hb1 ok0 rfl (acx (List.length_filter_le _ _) (by simp)) hf n1 n2;exact⟨y,hy,hw⟩
   ·have:uZ l=fun _=>none:=Lu hf _;rw[show kR (fun _=>none) l=mX l by unfold mX;rw[this]];exact wY (dp _)
  ·obtain⟨p1,p2,ep⟩:=Wi (rp hp);have e1:p.2.1=.str (dQ l p.1):=by rw[ep]
   have e2:p.2.2=Aw.b_ (jH l p.1):=by rw[ep]
   have pn:sc p.1 sn=false:=by
    rw[kM]at hp;have:=(acC.1 hp).2;simpa using this
   rw[sx,e1,e2];refine zzB rfl (zzL rfl (LQ (m:=id) (n:=p.1) rfl (gx _) (hid' _) rfl (uO _ _) (HH _ _ (acr _) (by omega)) (zzB rfl (zzB rfl ?_))));cases hc:jH l p.1 with
   | true =>
     obtain⟨es2',d2,m2'⟩:=m2.del (dQ l p.1);refine zzL rfl (TC (h':=h1++[.mp 0 [],.mp c2 es2',.it id l.length (jt p.1 sn) l.length]) rfl (Ta _ _ _ _) rfl d2 (by rw[Lt _ _ (by omega)];simp) (af ?_));refine⟨(jt p.1 sn,c2,es2'),m2'.ext fun s=>?_,Wk.refl _ _ _ (by simp),vT hp⟩;rw[Lh inj (by omega)];unfold kU;rw[zj fun i hi=>?_];unfold sF;dsimp only;rw[tS]
     by_cases e:i=p.1
     ·subst e;simp[hc]
     ·rw[if_neg e,vC e,Bool.or_false]
   | false =>
     refine zzK rfl (af ?_);refine⟨(jt p.1 sn,c2,ga),m2.ext fun s=>?_,Wk.refl _ _ _ (by simp),vT hp⟩;unfold kU;rw[zj fun i hi=>?_];dsimp only;rw[tS]
     by_cases e:i=p.1
     ·subst e;simp[hc,pn]
     ·rw[vC e,Bool.or_false]
 ·rintro⟨h1,N,op,sv,c1,jD,c2,ga⟩ ⟨hb1,m1,m2,ok,hr,hcn⟩;dsimp only at hb1 m1 m2 ok hr hcn;show Tz (.sl 2 (az l)) (.mp h1.length) (.mp (h1.length+1)) (h1++[.mp c1 jD,.mp c2 ga]) (fun s' h' => ∃y,Tx l y∧Wk ([]:aa).length s' h' (Qu y) (Ur y)∧wE l y.op<wE l op) (fg (.sl 2 (az (mX l))));refine LK (op:=op) hl inj hz (by omega) (aa2 h1 [] (.mp c1 jD) (.mp c2 ga)) (Ta h1 [] (.mp c1 jD) (.mp c2 ga)) (YZ hb1 m1 m2 (by simp)) m1 m2 ok (fun i c1' es1' c2' es2' t hf n1 n2=>?_) fun hf id G=>?_
  ·rw[Qv,aa1];exact Jq hb1 ok hr hcn hf n1 n2
  ·rw[Lu hf]at hr;rw[show kR sv l=mX l by unfold mX;rw[hr]];exact wY (dp _)
end
section
section
set_option maxHeartbeats 4000000
open Go Go.RowKit Go.Aw
theorem UR(p:Option Addr)(cap:Nat)(w:World):
 Calls p_ 226 #[.slice p 0 cap] w fun e w' => ∃q,e=.returned (.slice q 0 0)∧Below w.heap.size w w':=by
 have he:(Op.equal 44 (.slice p 0 cap) (.slice none 0 0)).run p_ w=.ok p.isNone w:=by
  have:∀d,(Op.equalIn (d+1) 44 (.slice p 0 cap) (.slice none 0 0)).run p_ w=.ok p.isNone w:=fun d=>by cases p<;>simp[Op.equalIn,run_underlying Tryz.underlying44]
  exact this 9999
 go_enter Tryz.func226,Tryz.ntmps226
 go_wp2
 have hr:(binOp .eql 44 (.slice p 0 cap) (.slice none 0 0)).run p_ w=.ok (.bool p.isNone) w:=by simp[binOp,he]
 rw[hr];simp only[Result.andThen];rw[Oper.upon_value];cases p with
 | none =>
   go_wp2
   go_ret
   exact⟨_,rfl,Below.refl _ _⟩
 | some a =>
   go_wp2
   go_ret
   exact⟨_,rfl,(Below.refl _ w).alloc (aS _) _⟩
variable [Laid]
theorem JC:aP p_ 226 [.sl 6 []] (.sl 6 []):=by
 refine⟨by simp[bf,Aw.Pure,du],by simp[Aw.Pure,du], ?_⟩;intro base ι S w vs h1 h2
 match vs,h1 with
 | [],h1=>simp at h1
 | _:: _:: _,h1=>simp at h1
 | [v],h1 =>
   simp only[dc,kF,and_true]at h1;rw[ax]at h1;obtain⟨p,cap,rfl,_⟩:=h1;refine (UR p cap w).mono ?_;rintro e w' ⟨q,rfl,hB⟩;have hE:cc ι.length w.heap.size ι S w ι S w':=⟨fun _ _=>iI.refl _,fun _ _ q=>q,fun _ _ q=>.inl q,fun b o q=>hB.cell (h2.iX b o q),fun b x hx=>by
    unfold World.shape? at hx ⊢;have hb:b<w.heap.size:=by
     rcases AT b w.heap.size with k|k
     ·exact k
     ·rw[acX k]at hx;cases hx
    rw[hB.block b hb];exact hx,hB⟩
   refine⟨_,ι,S,.sl 6 [],[],rfl,hE.mono (by rw[h2.len];exact aS _) h2.kG, ?_,h2.over hE (fun b o q=>UP (h2.iX b o q) hB.size),aS _,rfl⟩;rw[ax];exact⟨q,0,rfl,acr _,acr _,.inl rfl⟩
end
open Go Go.Aw Go.dz
theorem Ia{α:Type}{f:α→List AV}{n:Nat}(hf:∀a,(f a).length=n){j:Nat}(hj:j<n):∀{l:List α} {k:Nat} {a:α},l[k]?=some a→(l.map f).flatten[k*n+j]?=(f a)[j]?
 | b:: l,0,a,h=>by
   cases h;rw[IF,acQ,Nat.zero_mul,acu,iD (by rw[hf];exact hj)]
 | b:: l,k+1,a,h=>by
   rw[IF,acQ,iF (by rw[hf,Nat.succ_mul];omega),hf,show (k+1)*n+j-n=k*n+j by rw[Nat.succ_mul];omega];exact Ia hf hj (by simpa using h)
theorem FO(v:Vl):(cQ v).length=6:=by simp[cK]
theorem lP{α:Type}{f:α→List AV}{n:Nat}(hf:∀a,(f a).length=n):∀l:List α,(l.map f).flatten.length=l.length*n
 | []=>by simp
 | a:: l=>by rw[IF,acQ,DO,hf,lP hf l,aah,Nat.succ_mul];omega
abbrev QC(l:List Vl):dh:=.aC ⟨100,(ar l).flatten,true⟩
theorem LU(v:Vl)(l:List Vl)(hl:l.length<2^38):dY p_ 226 [.sl 6 (ar (v:: l))] [] fun r hh=>r=.own 0 0 (v:: l).length 6∧hh=[QC (v:: l)]:=by
 refine (aeE _).kb ?_;unfold Yy;show nB false (some false) _;rw[yT];refine zzK rfl (Wn rfl (Z8 (n:=0) (h':=[QC (v:: l)]) (k:=(v:: l).length) rfl fw (z6 _) (by simp[ar]) (by simp[aJ]) (by unfold dU maxLen;simp;omega) rfl rfl ?_));exact⟨_,_,Wk.refl _ _ _ (by simp),rfl,rfl⟩
theorem Pc{l:List Vl}:fg (.sl 6 (ar l)) (.own 0 0 l.length 6) [QC l]:=by
 have hlen:(ar l).flatten.length=l.length*6:=by rw[aJ];exact lP FO l
 refine fg.of ?_;rw[Tf (b:=⟨100,(ar l).flatten,true⟩) rfl rfl (by rw[hlen];exact aS _)];have e:chunks 6 l.length (ar l).flatten=ar l:=by
  have:=Ak (ar l) (z6 l);rw[show (ar l).length=l.length by simp[aJ]]at this;exact this
 rw[e,Gc _ (dd l)];exact Le.refl _
def QJ(n:Nat):Prop:=∀l:List Vl,aW l≤n→aP p_ 188 [.sl 6 (ar l)] (.sl 6 (ar l))
theorem Th{n:Nat}(hn:n<2^38)(hP:∀n',n'<n→QJ n'):QJ n:=by
 intro l hz;refine (aex _).gives (by simp[dd]) (by simp[Aw.Pure,dd]) ?_;unfold Yr;have hll:=fu l;cases l with
 | nil =>
   refine zzS (by kernel_rfl) JC ?_;refine zzk (n:=0) rfl fun _=>?_;refine aU (α:=Unit) (fun _=>True) (fun _=>[i_ 0]) (fun _=>[]) (fun _=>0) () trivial (Wk.refl _ _ _ (by simp)) ?_;intro _ _;refine zzC (zzK rfl ?_);exact .pure (by simp[Aw.Pure,du]) (by simp[ar])
 | cons v0 r =>
   refine rI (by kernel_rfl) rfl (LU v0 r (by simp at hll;omega)) ?_;rintro _ _ ⟨rfl,rfl⟩;obtain⟨l,hl⟩:∃l,l=v0:: r:=⟨_,rfl⟩;rw[←hl]at hz hll ⊢;rw[CM];intro _;refine aU (α:=Nat) (fun k=>k≤l.length) (fun k=>[i_ k]) (fun _=>[QC l]) (fun k=>l.length-k) 0 (acr _) (Wk.refl _ _ _ (by simp)) ?_;intro k hk;refine zzC ?_;rcases AT k l.length with q|q
   ·obtain⟨v,hx⟩:∃x,l[k]?=some x:=⟨l[k],dO q⟩;have hzv:=gX (gO hx);have hz2:=qB v;have hc:((ar l).flatten)[k*6+5]?=some (.sl 6 (ar v.list)):=by
     rw[aJ,Ia FO (by omega) hx];simp[cK,aJ]
    refine zzL (by simpa using q) (D8 rfl rfl q (zzA (zzU rfl (by rw[acu];exact hc) (zzS (by kernel_rfl) (hP (aW v.list) (by omega) v.list (aS _)) (D8 rfl rfl q (zzA ?_))))));refine cf (h':=[QC l]) (id:=0) (b:=⟨100,(ar l).flatten,true⟩) (cs:=[.sl 6 (ar v.list)]) rfl rfl rfl rfl (by have:=(gE.1 hc).1;simp only[aah,acR];omega) rfl rfl (by
     show [dh.aC ⟨100,(ar l).flatten.set (0+k*6+5) (.sl 6 (ar v.list)),true⟩]=_;rw[acu,ou hc]) ?_
    refine zzP (by unfold aN;omega) (af ?_);exact⟨k+1,q,Wk.refl _ _ _ (by simp),by omega⟩
   ·obtain rfl:k=l.length:=by omega
    refine zzK (by simp) ?_;exact Pc
theorem Re(l:List Vl)(hz:aW l<2^38):aP p_ 188 [.sl 6 (ar l)] (.sl 6 (ar l)):=by
 have:∀n,n<2^38→QJ n:=by
  intro n;induction n using Nat.strongRecOn with
  | _ n ih=>exact fun hn=>Th hn fun n' h=>ih n' h (by omega)
 exact this _ hz l (aS _)
end
section
open Go Go.Aw Go.dz
variable{l:List Vl}{v:Vl}
abbrev Ji(l:List Vl):dh:=.aC ⟨44,[.sl 6 (ar l)],true⟩
theorem H7{i:Nat}(hx:l[i]?=some v):Ex p_ 187 [i_ i,.op 0 0] [Ji l] (b_ (decide (v.kind=13))):=by
 refine (aew _ _).ex fun hb=>?_;unfold Yq;refine zzU rfl rfl (zzg (f:=cQ) (aJ l) rfl hx (nb (i:=0) (c:=u1 v.kind) (by simp[cK]) (zzG ?_)));exact lB hb (by simp[Bd]) (by simp)
theorem FL(h:v.kind≠13):dT (v:: l)=v:: l:=by rw[dT,if_neg h]
theorem Cv(h:v.kind=13):dT (v:: l)=dT l:=by rw[dT,if_pos h]
theorem UC{sz n:Nat}{x:AV}{rows:List (List AV)}{K:AV→Prop}(e:x=.sl sz rows)(hn:rows.length=n)(q:K (i_ n)):rT x K:=by
 subst e;subst hn;exact q
theorem QD[Laid]{P:Program}{f:FuncId}{xs ys args args':List AV}{h:aa}{r:AV}{K:AV→aa→Prop}(e:xs++args++ys=args')(c:Ex P f args' h r)(k:K r h):eJ P (.fn (.func f) xs ys) args h K:=by
 subst e;exact⟨c.1,c.2.mono fun v h' ⟨a,b⟩=>by subst a;subst b;exact k⟩
theorem Gu{α:Type}{l:List α}{f t:Nat}{v:α}(hx:l[t]?=some v)(hf:f≤t):(l.take (t+1)).drop f=(l.take t).drop f++[v]:=by
 rw[Gt,hx,Option.toList_some,List.drop_append_of_le_length (by have:=(gE.1 hx).1;simp;omega)]
theorem Q5(hz:aW l<2^38)(hc:dC l=0):aP p_ 146 [.sl 6 (ar l)] (.aF [.sl 6 (ar (jf l)),i_ 0]):=by
 refine (ad9 _).gives (by simp[dd]) (by simp[Aw.Pure,bf,dd]) ?_;unfold X3;have hll:=fu l;refine cI (n:=0) (h':=[Ji l]) rfl rfl rfl rfl (zzU rfl rfl (zzS (by kernel_rfl) (mO l (by omega)) ?_));rw[hc];refine zzH (zzK rfl (zzU rfl rfl (UC (n:=l.length) rfl (by simp[aJ]) (aU (α:=Nat) (fun k=>k≤l.length∧dT l=dT (l.drop k)) (fun k=>[i_ k]) (fun _=>[Ji l]) (fun k=>l.length-k) 0 ⟨acr _,rfl⟩ (Wk.refl _ _ _ (aS _)) ?_))));rintro k ⟨hk,hd⟩;refine zzC (ay ?_)
 -- behind the spaces
 have tail:dT l=l.drop k→bJ [i_ l.length] [Ji l] fun N20 s21 g22 =>
  ab .lss (i_ k) (nx s21 0) fun v23=>aB (fun J24=>au v23 true (ab .sub (nx s21 0) (i_ 1) fun v25=>eJ p_ (.fn (.func 187) [] [.op 0 0]) [v25] g22 fun v26 g27=>[.op 0 0,(.fn (.func 187) [] [.op 0 0]),(i_ k),(nx s21 0)]=[.op 0 0,(.fn (.func 187) [] [.op 0 0]),(i_ k),(nx s21 0)]∧J24 [tt,v26] g27) ([.op 0 0,(.fn (.func 187) [] [.op 0 0]),(i_ k),(nx s21 0)]=[.op 0 0,(.fn (.func 187) [] [.op 0 0]),(i_ k),(nx s21 0)]∧J24 [(aQ true v23),un] g22)) fun s28 g29=>aH (nx s28 0) (nx s28 1) ff fun v30=>ae v30 (ab .sub (nx s21 0) (i_ 1) fun v31=>[.op 0 0,(.fn (.func 187) [] [.op 0 0]),(i_ k)]=[.op 0 0,(.fn (.func 187) [] [.op 0 0]),(i_ k)]∧N20 [v31] g29)
   (ag false 1 (.op 0 0) g29 fun v32=>Ik 6 v32 (some (i_ k)) (nx s21 0) (nx s21 0) fun v33=>eJ p_ (.fn (.func 188) [] []) [v33] g29 fun v34 g35=>fg (.aF [.sl 6 (ar (jf l)),i_ 0]) (.aF [v34,i_ 0]) g35):=by
  intro hd;refine aU (α:=Nat) (fun t=>k≤t∧t≤l.length∧dT (dT l).reverse=dT ((l.take t).drop k).reverse) (fun t=>[i_ t]) (fun _=>[Ji l]) (fun t=>t) l.length ⟨hk,aS _,by rw[GO,hd]⟩ (Wk.refl _ _ _ (aS _)) ?_;rintro t ⟨hkt,htl,hr⟩;have fin:dT ((l.take t).drop k).reverse=((l.take t).drop k).reverse→ag false 1 (.op 0 0) [Ji l] fun v32=>Ik 6 v32 (some (i_ k)) (i_ t) (i_ t) fun v33=>eJ p_ (.fn (.func 188) [] []) [v33] [Ji l] fun v34 g35=>fg (.aF [.sl 6 (ar (jf l)),i_ 0]) (.aF [v34,i_ 0]) g35:=by
   intro hf;have e:jf l=(l.take t).drop k:=by unfold jf;rw[hr,hf,List.reverse_reverse]
   have hz2:aW (jf l)<2^38:=acy (xN l) hz;refine zzU rfl rfl ?_;refine⟨rfl,⟨by omega,by omega,by omega,by simp[aJ];omega⟩, ?_⟩;have e2:((ar l).take (t:Int).toNat).drop (k:Int).toNat=ar (jf l):=by rw[e];simp[aJ,List.map_take,List.map_drop]
   rw[e2];refine zzS (by kernel_rfl) (Re _ hz2) ?_;exact .pure (by simp[Aw.Pure,bf,dd]) rfl
  refine zzC (ay ?_);rcases AT k t with q|q
  ·obtain⟨v,hx⟩:∃x,l[t-1]?=some x:=⟨_,dO (by omega)⟩;have es:(l.take t).drop k=(l.take (t-1)).drop k++[v]:=by
    have:=Gu (f:=k) hx (by omega)
    rwa [show t-1+1=t by omega]at this
   refine zzN (tO (by omega)) (qb (n:=t) (by omega) (by omega) (QD rfl (H7 hx) (af (zzR ?_))));rw[es,List.reverse_append,List.reverse_singleton,List.singleton_append]at hr
   by_cases h13:v.kind=13
   ·refine zzL (tO h13) (qb (n:=t) (by omega) (by omega) (af ?_));exact⟨t-1,⟨by omega,by omega,by rw[hr,Cv h13]⟩,Wk.refl _ _ _ (aS _),by omega⟩
   ·refine zzK (oN h13) ?_;exact fin (by rw[es,List.reverse_append,List.reverse_singleton,List.singleton_append,FL h13])
  ·obtain rfl:t=k:=by omega
   refine zzM (oN (by omega)) (af (zzQ (zzK rfl (fin ?_))));rw[List.drop_eq_nil_of_le (by rw[aaW];omega)];rfl
 rcases AT k l.length with q|q
 ·obtain⟨v,hx⟩:∃x,l[k]?=some x:=⟨l[k],dO q⟩;have es:l.drop k=v:: l.drop (k+1):=by
   obtain⟨h1,h2⟩:=gE.1 hx;rw[acO h1,h2]
  refine zzN (tO (by omega)) (QD rfl (H7 hx) (af (zzR ?_)));rw[es]at hd
  by_cases h13:v.kind=13
  ·refine zzL (tO h13) (zzP (by unfold aN;omega) (af ?_));exact⟨k+1,⟨q,by rw[hd,Cv h13]⟩,Wk.refl _ _ _ (aS _),by omega⟩
  ·refine zzK (oN h13) ?_;exact tail (by rw[hd,FL h13,es])
 ·obtain rfl:k=l.length:=by omega
  refine zzM (oN (by omega)) (af (zzQ (zzK rfl (tail ?_))));rw[hd,List.drop_length];rfl
end
end Go.Proofs.YtldpambpnajgiaaGreatDoor
namespace Go.Aw
section
open Go Go.RowKit Go.MapKept Go.Maps
open Go.WideElems (Fit rd rg)
open Go.Proofs (encStr)
variable [Laid]
def F1:List UInt8→List UInt8→Bool
 | [],_=>true
 | _:: _,[]=>false
 | a:: as_,b:: bs=>match Nat.blt a.toNat b.toNat with|true=>true|false=>(match Nat.beq a.toNat b.toNat with|true=>F1 as_ bs|false=>false)
def Bb(x:List UInt8):List (List UInt8)→List (List UInt8)
 | []=>[x]
 | y:: r=>match F1 x y with|true=>x:: y:: r|false=>y:: Bb x r
def mq:List (List UInt8)→List (List UInt8)
 | []=>[]
 | x:: r=>Bb x (mq r)
omit [Laid] in
theorem IE:∀a b:List UInt8,F1 a b=leB a b
 | [],b=>by simp[F1,leB]
 | a:: as_,[]=>by simp[F1,leB]
 | a:: as_,b:: bs=>by
   have ih:=IE as_ bs;unfold F1;simp only[leB]at ih ⊢;cases h1:Nat.blt a.toNat b.toNat with
   | true =>
     have:a.toNat<b.toNat:=by simpa[Nat.blt_eq]using h1
     have hlt:a<b:=UInt8.lt_iff_toNat_lt.2 this;simp[List.cons_le_cons_iff,hlt]
   | false =>
     have hn:¬a.toNat<b.toNat:=by
      intro q;rw[←Nat.blt_eq]at q;rw[q]at h1;cases h1
     have hlt:¬a<b:=fun q=>hn (UInt8.lt_iff_toNat_lt.1 q);cases h2:Nat.beq a.toNat b.toNat with
     | true =>
       have e:a=b:=UInt8.toNat_inj.1 (nE h2);subst e;simp only[ih];simp[List.cons_le_cons_iff]
     | false =>
       have e:a≠b:=fun q=>by subst q;simp at h2
       simp[List.cons_le_cons_iff,hlt,e]
omit [Laid] in
theorem yW(x:List UInt8):∀l,(Bb x l).Perm (x:: l)
 | []=>.refl _
 | y:: r=>by
   unfold Bb;cases F1 x y with
   | true=>exact .refl _
   | false=>exact ((yW x r).cons y).trans (.swap x y r)
omit [Laid] in
theorem mY:∀l,(mq l).Perm l
 | []=>.refl _
 | x:: r=>(yW x (mq r)).trans ((mY r).cons x)
omit [Laid] in
theorem Po(a b c:List UInt8)(h1:leB a b=true)(h2:leB b c=true):leB a c=true:=by simp only[leB,OF]at *;exact List.le_trans h1 h2
omit [Laid] in
theorem Pn(a b:List UInt8):(leB a b||leB b a)=true:=by simp only[leB,acL,OF];exact List.le_total a b
omit [Laid] in
theorem KT(x:List UInt8):∀l,l.Pairwise (fun a b=>leB a b=true)→(Bb x l).Pairwise (fun a b=>leB a b=true)
 | [],_=>by simp[Bb]
 | y:: r,h=>by
   unfold Bb;cases q:F1 x y with
   | true =>
     rw[IE]at q;refine List.pairwise_cons.2 ⟨fun z hz=>?_,h⟩;rcases IS.1 hz with rfl|hz
     ·exact q
     ·exact Po _ _ _ q ((List.pairwise_cons.1 h).1 z hz)
   | false =>
     rw[IE]at q;have q':leB y x=true:=by have:=Pn x y;rw[q]at this;simpa using this
     refine List.pairwise_cons.2 ⟨fun z hz=>?_,KT x r (List.pairwise_cons.1 h).2⟩;rcases IS.1 ((yW x r).mem_iff.1 hz) with rfl|hz
     ·exact q'
     ·exact (List.pairwise_cons.1 h).1 z hz
omit [Laid] in
theorem BQ:∀l,(mq l).Pairwise (fun a b=>leB a b=true)
 | []=>by simp[mq]
 | x:: r=>KT x _ (BQ r)
omit [Laid] in
theorem S5{l l':List (List UInt8)}(h:l'.Perm l):l'.mergeSort leB=mq l:=by
 refine List.Perm.eq_of_pairwise (le:=fun a b=>leB a b=true) (fun a b _ _ h1 h2=>?_) (List.pairwise_mergeSort Po Pn l') (BQ l) (((List.mergeSort_perm l' leB).trans h).trans (mY l).symm);simp only[leB,OF]at h1 h2;exact List.le_antisymm h1 h2
def zM:List (Nat×AV×AV)→Option (List (List UInt8))
 | []=>some []
 | (_,.str s,_):: r=>(match zM r with|some l=>some (s:: l)|none=>none)
 | _=>none
def BG(x:List UInt8):List (List UInt8)→Bool
 | []=>false
 | y:: r=>match uH x y with|true=>true|false=>BG x r
def E0:List (List UInt8)→Bool
 | []=>true
 | x:: r=>match BG x r with|true=>false|false=>E0 r
def E1:List (Nat×AV×AV)→Bool
 | []=>true
 | (n,_,_):: r=>match (lr n r).isSome with|true=>false|false=>E1 r
def BS(c:Nat)(es:List (Nat×AV×AV)):Option AV:=
 match zM es,nP c es,E1 es,Nat.ble es.length 1000000 with
 | some l,true,true,true=>(match E0 l with|true=>(match mq l with|[]=>some (.v (.slice none 0 0))|s=>some (.sl 1 (s.map fun x=>[.str x])))|false=>none)
 | _,_,_,_=>none
omit [Laid] in
theorem BH(x:List UInt8):∀l,BG x l=true↔x∈l
 | []=>by simp[BG]
 | y:: r=>by
   unfold BG;rw[r8]
   by_cases e:x=y
   ·simp[e]
   ·simp[e,BH x r]
omit [Laid] in
theorem Lb:∀l,E0 l=true→l.Nodup
 | [],_=>List.nodup_nil
 | x:: r,h=>by
   unfold E0 at h;cases q:BG x r with
   | true=>rw[q]at h;cases h
   | false =>
     rw[q]at h;refine List.nodup_cons.2 ⟨fun k=>?_,Lb r h⟩;rw[(BH x r).2 k]at q;cases q
section
variable {ι:List Ix} {S:ba} {w:World}
omit [Laid]
theorem iP.keys:∀{es:List (Nat×AV×AV)} {l:List MapEntry} {ks:List (List UInt8)},iP ι S w es l→zM es=some ks→l.map (·.key)=ks.map encStr∧∀k∈ks,k.length≤maxLen
 | [],l,ks,h,e=>by rw[iP]at h;subst h;cases e;simp
 | (n,k,v):: es,l,ks,h,e=>by
  rw[iP]at h;obtain⟨x,l',rfl,_,h3,_,h5⟩:=h;unfold zM at e;split at e
  ·rename_i heq;cases heq
  ·rename_i heq;cases heq;split at e
   ·rename_i q;cases e;obtain⟨a,b⟩:=h5.keys q;simp only[gN]at h3;exact⟨by simp[a,h3.1],fun k hk=>(IS.1 hk).elim (fun q=>q▸h3.2) (b k)⟩
   ·cases e
  ·cases e
theorem iP.born:∀{es:List (Nat×AV×AV)} {l:List MapEntry},iP ι S w es l→l.map (·.born)=es.map (·.1)
 | [],l,h=>by rw[iP]at h;subst h;rfl
 | (n,k,v):: es,l,h=>by
  rw[iP]at h;obtain⟨x,l',rfl,h2,_,_,h5⟩:=h;simp[h2,h5.born]
theorem J8{c:Nat}:∀{es:List (Nat×AV×AV)},nP c es=true→∀n∈es.map (·.1),n<c
 | [],_=>by simp
 | (m,_,_):: r,h=>by
  unfold nP at h;split at h
  ·rename_i q;intro n hn;simp only[IF,IS]at hn;rcases hn with rfl|hn
   ·exact nO q
   ·exact J8 h n hn
  ·cases h
theorem FC{n:Nat}:∀{es:List (Nat×AV×AV)},(lr n es).isSome=true↔n∈es.map (·.1)
 | []=>by simp[lr]
 | (m,k,v):: r=>by
  unfold lr;cases q:Nat.beq m n with
  | true=>simp[nE q]
  | false =>
    have:n≠m:=fun e=>by subst e;simp at q
    simp[this,FC (n:=n) (es:=r)]
theorem Lc:∀{es:List (Nat×AV×AV)},E1 es=true→(es.map (·.1)).Nodup
 | [],_=>List.nodup_nil
 | (n,k,v):: r,h=>by
  unfold E1 at h;split at h
  ·cases h
  ·rename_i q;refine List.nodup_cons.2 ⟨fun e=>?_,Lc h⟩;rw[FC.2 e]at q;cases q
end
omit [Laid] in
theorem Fx{ι:List Ix}{S:ba}{w:World}{g:Nat}:∀(l:List (List UInt8)) (off:Nat),(∀i s,l[i]?=some s→w.cell? ⟨g,off+i,none⟩=some (encStr s)∧S g (off+i)∧s.length≤maxLen)→da ι S w 1 (l.map fun s=>[.str s]) g off
 | [],off,_=>by simp[da]
 | s:: l,off,h=>by
   obtain⟨a,b,c⟩:=h 0 s rfl;simp only[IF,da,bZ];refine⟨by simp,⟨⟨_,a,b, ?_⟩,trivial⟩,Fx l (off+1) fun i t e=>?_⟩
   ·rw[gN];exact⟨rfl,c⟩
   ·have:=h (i+1) t (by simpa using e)
    rwa [show off+(i+1)=off+1+i by omega]at this
def u9:Value→Option (DataW Unit×List MemPlace):=fun _=>some (.nil,[])
theorem S7{P:Program}{fS fK:FuncId}{kt et:TypeId}(hkt:P.underlying kt=some .string)
 (hC:∀(Bm b nn:Nat) (D0:DataW Unit) (w:World),Bm<w.heap.size→w.cell? ⟨Bm,0,none⟩=some (.map (some b))→w.ownsMap P kt u9 b nn D0→Maps.size D0≤maxLen→Maps.size D0*16≤140737488355328 →
  Calls P fS #[.func (.func fK) #[] #[.pointer (some ⟨Bm,0,none⟩)]] w fun e w' => ∃(v:Value) (ss:List (List UInt8)),e=.returned v∧ss.Perm (strKeys D0) ∧
   w'.ownsRow w.heap.size et 1 v ss.length ((ss.mergeSort leB).map encStr)∧(v=.slice none 0 0↔ss=[])∧Below w.heap.size w w')
 {h:aa} {id mid c:Nat} {x:nJ} {es:List (Nat×AV×AV)} {r:AV} (hid:h[id]?=some (.aC x)) (hx:x.cells[0]?=some (.mp mid)) (hmid:h[mid]?=some (.mp c es)) (hr:BS c es=some r) :
 dY P fS [.fn (.func fK) [] [.op id 0]] h fun r' hh=>r'=r∧hh=h:=by
 intro base ι S w vs h1 h2
 match vs,h1 with
 | [],h1=>simp at h1
 | _:: _:: _,h1=>simp at h1
 | [v1],h1 =>
 simp only[dc,kF,and_true]at h1;rw[ax]at h1;obtain⟨vs1,us,rfl,r1,r2⟩:=h1;simp only[kF]at r1;subst r1
 match us,r2 with
 | [],r2=>simp at r2
 | _:: _:: _,r2=>simp at r2
 | [u],r2 =>
 simp only[dc,kF,and_true]at r2;rw[ax]at r2;obtain⟨b,hb,rfl⟩:=r2;obtain⟨b',arr,fz,e1,e2,e3,_,_,hcell,_⟩:=h2.live id x hid;rw[hb]at e1;cases e1;obtain⟨v0,ev0,rv0⟩:=hcell 0 _ hx;rw[ax]at rv0;obtain⟨bm,hbm,rfl⟩:=rv0;obtain⟨bm',marr,f1,f2,f3,f4,f5⟩:=h2.qp mid _ hmid;rw[hbm]at f1;cases f1;unfold BS at hr;split at hr;rotate_left
 ·cases hr
 rename_i ks hks hbel hnn hln;split at hr;rotate_left
 ·cases hr
 rename_i hnd;obtain⟨hkeys,hkl⟩:=f5.keys hks;have hborn:=f5.born;have hlen:marr.size=ks.length:=by have:=congrArg List.length hkeys;simpa using this
 have hel:es.length=ks.length:=by have:=congrArg List.length hborn;simp at this;omega
 have hln:=nO hln;have hbig:(1000000:Nat)≤maxLen:=by unfold maxLen;omega
 have hrd:∀y∈marr.toList,∃s:List UInt8,y.key=encStr s∧s∈ks∧rd P kt u9 y=some (.string s,.nil):=fun y hy=>by
  have:y.key∈marr.toList.map (·.key):=aas.2 ⟨y,hy,rfl⟩;rw[hkeys]at this;obtain⟨s,hs,e⟩:=aas.1 this;refine⟨s,e.symm,hs, ?_⟩;have hl:=hkl s hs;have hk:keyOf P kt y.key=some (.string s):=by
   rw[←e];simp[keyOf,hkt,mapKey,encStr];exact hl
  cases y;exact Go.WideElems.rd_mk hk (yv:=(.nil,[])) rfl
 have Ft:Fit P kt u9 marr c:=by
  refine⟨by omega,⟨fun y hy=>?_, ?_, ?_⟩,fun y hy=>?_⟩
  ·refine J8 hbel y.born ?_;rw[←hborn];exact aas.2 ⟨y,hy,rfl⟩
  ·rw[hborn];exact Lc hnn
  ·rw[hkeys];exact List.pairwise_map.2 ((Lb ks hnd).imp fun hne e=>hne (encStr_inj e))
  ·obtain⟨s,_,_,e⟩:=hrd y hy;exact⟨_,e⟩
 have hkeysP:∀l:List MapEntry,(∀y∈l,∃s:List UInt8,y.key=encStr s∧s∈ks∧rd P kt u9 y=some (.string s,.nil))→∀q:List (List UInt8),l.map (·.key)=q.map encStr→(l.map (rg P kt u9)).map (fun p=>strOf p.1)=q:=by
  intro l;induction l with
  | nil=>intro _ q e;cases q<;>simp at e ⊢
  | cons y l ih =>
    intro hy q e;cases q with
    | nil=>simp at e
    | cons s q =>
      simp only[IF,List.cons.injEq]at e;obtain⟨s',e1,_,e2⟩:=hy y (acN ..);have:s'=s:=encStr_inj (e1.symm.trans e.1);subst this;simp only[IF,List.cons.injEq];exact⟨by rw[Go.WideElems.rg_of e2];rfl,ih (fun z hz=>hy z (MK _ hz)) q e.2⟩
 have hperm:(strKeys (.map ((marr.toList.map (rg P kt u9)).foldr DataW.insert []):DataW Unit)).Perm ks:=by
  show (((marr.toList.map (rg P kt u9)).foldr DataW.insert []).map fun p=>strOf p.1).Perm ks;refine ((Go.WideShapes.sorted_perm _).map _).trans ?_;rw[hkeysP marr.toList hrd ks hkeys]
 have hsz:Maps.size (.map ((marr.toList.map (rg P kt u9)).foldr DataW.insert []):DataW Unit)=marr.size:=by
  show ((marr.toList.map (rg P kt u9)).foldr DataW.insert []).length=_;rw[length_sorted];simp
 have hbl:b<w.heap.size:=(BY.1 e3).1;refine (hC b bm marr.size _ w hbl ?_ ⟨marr,c,f3,Ft,aS _,rfl⟩ (by rw[hsz];omega) (by rw[hsz];omega)).mono ?_
 ·simp[World.cell?,e3,ev0]
 rintro e w' ⟨v,ss,rfl,hp,hrow,hnil,hB⟩;have hsort:ss.mergeSort leB=mq ks:=S5 (hp.trans hperm);have hssl:ss.length=ks.length:=(hp.trans hperm).length_eq;rw[hsort]at hrow;have hshp:∀b x,w.shape? b=some x→w'.shape? b=some x:=fun b x hx=>by
  unfold World.shape? at hx ⊢;have hb:b<w.heap.size:=by
   rcases AT b w.heap.size with k|k
   ·exact k
   ·rw[acX k]at hx;cases hx
  rw[hB.block b hb];exact hx
 have hsl:(mq ks).length=ks.length:=(mY ks).length_eq;cases hsk:mq ks with
 | nil =>
   rw[hsk]at hr;cases hr;have hz:ss=[]:=List.eq_nil_of_length_eq_zero (by rw[hssl,←hsl,hsk];rfl);have hv:=hnil.2 hz;subst hv;have hE:cc ι.length w.heap.size ι S w ι S w':=⟨fun _ _=>iI.refl _,fun _ _ q=>q,fun _ _ q=>.inl q,fun b o q=>hB.cell (h2.iX b o q),hshp,hB⟩;exact⟨_,ι,S,_,h,rfl,hE.mono (by rw[h2.len];exact aS _) h2.kG,by simp,h2.over hE (fun b o q=>UP (h2.iX b o q) hB.size),aS _,rfl,rfl⟩
 | cons s0 s1 =>
   have hr':r=.sl 1 ((mq ks).map fun x=>[.str x]):=by rw[hsk]at hr ⊢;cases hr;rfl
   rcases hrow.2 with⟨_,hz⟩|⟨g,cap,cur,rfl,hg,hgb,k1,k2,k3,k4⟩
   ·rw[hssl,←hsl,hsk]at hz;simp at hz
   let S':ba:=fun b o=>S b o∨(b=g∧o<ss.length)
   have hgl:g<w'.heap.size:=(BY.1 hgb).1;have hE:cc ι.length w.heap.size ι S w ι S' w':=⟨fun _ _=>iI.refl _,fun _ _ q=>.inl q,fun b o q=>q.elim .inl fun q=>.inr (q.1▸hg),fun b o q=>hB.cell (h2.iX b o q),hshp,hB⟩;refine⟨_,ι,S',r,h,rfl,hE.mono (by rw[h2.len];exact aS _) h2.kG, ?_,h2.over hE (fun b o q=>q.elim (fun q=>UP (h2.iX b o q) hB.size) fun q=>q.1▸hgl),aS _,rfl,rfl⟩;rw[hr',ax];refine⟨some ⟨g,0,none⟩,cap,by rw[aai,hsl,hssl],by rw[aai,hsl,←hssl];exact k1,k2,.inr ⟨g,0,rfl,Fx _ _ fun i t e=>?_⟩⟩;have hi:i<ss.length:=by rw[hssl,←hsl];exact (gE.1 e).1
   refine⟨?_,.inr ⟨rfl,by omega⟩,hkl t ((mY ks).mem_iff.1 (gO e))⟩;have q:(cur.toList.take (ss.length*1))[i]?=some (encStr t):=by rw[k4];simp[e]
   rw[To]at q;split at q
   ·simp only[World.cell?,hgb,acu];simpa using q
   ·cases q
end
end Go.Aw
namespace Go.Proofs.YtldpambpnajgiaaGreatDoor
section
open Go Go.Aw Go.dz
variable{l cs:List Cu}{c:Cu}
theorem TI:∀{a b:aD},Op.bytesLess a b=true→a<b
 | _,[],h=>by simp[Op.bytesLess]at h
 | [],b:: bs,_=>List.nil_lt_cons b bs
 | a:: u,b:: bs,h=>by
   rw[Op.bytesLess,acL,On,OF,beq_iff_eq]at h;rw[List.cons_lt_cons_iff];exact h.imp id fun⟨e,q⟩=>⟨e,TI q⟩
theorem xn{l:List Cu}(hn:fY l=true):∀j,j<l.length→∀i,i<j→dQ l i<dQ l j
 | 0,_,i,h=>by omega
 | j+1,hj,i,hi=>by
   unfold fY at hn;have:=By.1 hn (j+1) (ID.2 hj);unfold Dy at this;rw[On]at this;have h1:dQ l j<dQ l (j+1):=TI (by
    have h2:=this.2;unfold sZ at h2;rw[if_neg (by omega),Nat.add_sub_cancel]at h2;exact h2)
   rcases AT i j with q|q
   ·exact List.lt_trans (xn hn j (by omega) i q) h1
   ·obtain rfl:i=j:=by omega
    exact h1
theorem uT(hn:fY l=true):ny l:=fun x y hx hy e=>by
 rcases Nat.lt_trichotomy x y with q|q|q
 ·have:=xn hn y hy x q;rw[e]at this;exact absurd this (List.lt_irrefl _)
 ·exact q
 ·have:=xn hn x hx y q;rw[e]at this;exact absurd this (List.lt_irrefl _)
theorem xm(hn:fY l=true)(hc:c∈l):db c.name=true:=by
 obtain⟨i,hi⟩:=List.getElem?_of_mem hc;unfold fY at hn;have:=By.1 hn i (ID.2 (gE.1 hi).1);rw[IW hi,On]at this;exact this.1
theorem SB(l:List Cu):(List.range' 0 l.length).map (dQ l)=l.map Cu.name:=by
 refine List.ext_getElem (by simp) fun i h1 h2=>?_;have hi:i<l.length:=by simpa using h1
 simp[dQ,dO hi]
theorem SC(hn:fY l=true):(l.map Cu.name).Pairwise fun a b=>a<b:=by
 rw[←SB,List.pairwise_map];refine List.pairwise_iff_getElem.2 fun i j hi hj h=>?_;simp only[List.getElem_range',acu,Nat.one_mul];exact xn hn j (by simpa using hj) i h
theorem La:∀{l:List aD},l.Nodup→E0 l=true
 | [],_=>rfl
 | x:: r,h=>by
   rw[List.nodup_cons]at h;rw[E0];cases q:BG x r with
   | true=>exact absurd ((BH x r).1 q) h.1
   | false=>exact La h.2
section
variable [Laid]
theorem UK{P:Program}{f:FuncId}{args:List AV}{h:aa}{a b:AV}(c:dY P f args h fun v h' => v=a∧h'=h)(q:tn a b):dY P f args h fun v h' => v=b∧h'=h:=by
 intro base ι S w vs h1 h2;refine (c base ι S w vs h1 h2).mono ?_;rintro e w' ⟨v,ι',S',r,h',a1,a2,a3,a4,a5,rfl,rfl⟩;exact⟨v,ι',S',b,_,a1,a2,q _ _ _ _ a3,a4,a5,rfl,rfl⟩
end
abbrev pB(vR:List (List AV))(cus:List Cu):dh:=.aC ⟨75,[.sl 7 vR,.sl 2 (az cus)],true⟩
abbrev sB(s:aD):dh:=.aC ⟨9,[.str s],true⟩
theorem OY{h:aa}{b:Nat}{s:aD}(hb:h[b]?=some (sB s))(c:Cu):Ex p_ 144 [.agg (eT c),.op b 0] h (b_ (decide (c.name=s))):=by
 refine (ad8 _ _).ex fun hbd=>?_;unfold X2;have hlt:=(gE.1 hb).1;refine cI (cs:=eT c) (n:=h.length) (h':=h++[cB c]) rfl rfl rfl rfl (zzA (oz (c:=c) (by simp) ?_));refine zzU (b:=⟨9,[.str s],true⟩) (by rw[iD hlt];exact hb) rfl ?_;refine zzI ?_;exact lB hbd (by simp[Bd]) (by simp)
theorem RT{h:aa}{b:Nat}{k:Nat}(hl:l.length≤64)(inj:ny l)(hx:l[k]?=some c)(hb:h[b]?=some (sB c.name)):
 Ex p_ 143 [.sl 2 (az l),.fn (.func 144) [] [.op b 0]] h (i_ k):=by
 refine (XA _ _).ex fun hbd=>?_;unfold QM;have hkl:=(gE.1 hx).1;refine zzk (n:=l.length) (by simp[az]) fun _=>?_;refine aU (α:=Nat) (fun i=>i≤k) (fun i=>[i_ i]) (fun _=>h) (fun i=>l.length-i) 0 (acr _) (Wk.refl _ _ _ (aS _)) ?_;intro i hi;refine zzC (zzL (by first|(simp;done)|(simp;omega)) ?_);obtain⟨d,hd⟩:∃x,l[i]?=some x:=⟨l[i],dO (by omega)⟩;refine qk hd (Ux rfl (OY hb d) ?_);rcases AT i k with q|q
 ·refine zzK (oN fun e=>?_) ?_
  ·have:=inj i k (by omega) hkl (by rw[nk hd,nk hx];exact e);omega
  refine zzP (by unfold aN;omega) (af ?_);exact⟨i+1,q,Wk.refl _ _ _ (aS _),by omega⟩
 ·obtain rfl:i=k:=by omega
  rw[hx]at hd;cases hd;refine zzL (tO rfl) ?_;exact lB hbd (by simp[Bd]) (by simp)
theorem Mg{vR:List (List AV)}(pv:du vR){k:Nat}(hl:l.length≤64)(inj:ny l)(hx:l[k]?=some c):
 aP p_ 97 [.agg [.sl 7 vR,.sl 2 (az l)],.str c.name] (.aF [.sl 6 (ar c.value),tt]):=by
 refine (V97 _ _).gives (by simp[bf,Aw.Pure,pv,dp]) (by simp[Aw.Pure,bf,dd]) ?_;unfold YG;refine cI (n:=0) (h':=[pB vR l]) rfl rfl rfl rfl (cI (n:=1) (h':=[pB vR l,sB c.name]) rfl rfl rfl rfl (zzA (zzA (zzU rfl rfl (zzd (RT hl inj hx rfl) (zzC (zzK (by first|(simp;done)|(simp;omega)) (zzA (zzA (zzU rfl rfl (zzg (f:=eT) rfl rfl hx (zzX (zzW ?_)))))))))))));exact .pure (by simp[Aw.Pure,bf,dd]) rfl
theorem Ar(hl:l.length≤64)(hn:fY l=true)(hz:∀c∈l,aW c.value<2^23)(hk:∀c∈l,dC c.value=0):aP p_ 98 [.sl 2 (az l)] (.aF [.sl 2 (az (mX l)),i_ 0]):=by
 refine (V98 _).gives (by simp[dp]) (by simp[Aw.Pure,bf,dp]) ?_;unfold YH;refine zzk (n:=l.length) (by simp[az]) fun _=>?_;refine zzE (zzK (oN (by omega)) ?_);have hN:=yC l (by omega);rw[hn]at hN;refine zzS (by kernel_rfl) hN (zzO (zzK rfl ?_));refine zzk (n:=l.length) (by simp[az]) fun _=>?_;refine aU (α:=Nat) (fun k=>k≤l.length) (fun k=>[i_ k]) (fun _=>[]) (fun k=>l.length-k) 0 (acr _) (Wk.refl _ _ _ (aS _)) ?_;intro k hk';refine zzC ?_;rcases AT k l.length with q|q
 ·obtain⟨c,hx⟩:∃x,l[k]?=some x:=⟨l[k],dO q⟩;have hc:=gO hx;refine zzL (by simpa using q) (qk hx (tX (n:=0) (h':=[cB c]) rfl rfl (zzA (B3 (c:=c) rfl (zzS (by kernel_rfl) (mO _ (by have:=hz c hc;omega)) ?_)))));rw[hk c hc];refine zzH (zzK rfl (zzP (by unfold aN;omega) (af ?_)));exact⟨k+1,q,Wk.back (M:=0) (aS _) (acr _) rfl rfl (by simp) (by simp[Bd]),by omega⟩
 ·obtain rfl:k=l.length:=by omega
  refine zzK (by simp) (zzS (by kernel_rfl) (JL (by omega) (uT hn) hz) ?_);exact .pure (by simp[Aw.Pure,bf,dp]) rfl
/-! ### Valid -/
theorem T3:∀{a b:aD},a<b→Op.bytesLess a b=true
 | a,[],h=>absurd h (List.not_lt_nil a)
 | [],b:: bs,_=>by simp[Op.bytesLess]
 | a:: u,b:: bs,h=>by
   rw[List.cons_lt_cons_iff]at h;rw[Op.bytesLess,acL,On,OF,beq_iff_eq];exact h.imp id fun⟨e,q⟩=>⟨e,T3 q⟩
theorem zf(h1:∀c∈l,db c.name=true)(h2:(l.map Cu.name).Pairwise fun a b=>a<b):fY l=true:=by
 refine zg fun i hi=>?_;obtain⟨c,hx⟩:∃x,l[i]?=some x:=⟨l[i],dO hi⟩;have hm:∀j (d:Cu),l[j]?=some d→(l.map Cu.name).getD j []=d.name:=fun j d h=>by rw[oF,lE,h];rfl
 unfold Dy;rw[hm i c hx,h1 c (gO hx),Bool.true_and];unfold sZ
 by_cases h0:i=0
 ·rw[if_pos h0];have:=h1 c (gO hx);cases hc:c.name with
  | nil=>rw[hc]at this;cases this
  | cons a r=>simp[Op.bytesLess]
 ·rw[if_neg h0];obtain⟨d,hd⟩:∃x,l[i-1]?=some x:=⟨_,dO (by omega)⟩;rw[hm _ d hd];refine T3 ?_;have:=List.pairwise_iff_getElem.1 h2 (i-1) i (by simp;omega) (by simpa using hi) (by omega);simp only[List.getElem_map]at this;obtain⟨_,e1⟩:=gE.1 hd;obtain⟨_,e2⟩:=gE.1 hx
  rwa [e1,e2]at this
theorem I4{sv:dJ}(h:c∈kR sv l):∃d∈l,d.name=c.name∧sv c.name=some c.value:=by
 unfold kR at h;obtain⟨d,hd,e⟩:=acE.1 h;obtain⟨v,hv,rfl⟩:=aar.1 e;exact⟨d,hd,rfl,hv⟩
theorem xt(sv:dJ):∀l:List Cu,((kR sv l).map Cu.name).Sublist (l.map Cu.name)
 | []=>List.Sublist.refl _
 | c:: l=>by
   unfold kR;rw[acv];cases h:sv c.name with
   | none=>exact (xt sv l).cons _
   | some v=>exact (xt sv l).cons_cons _
def Hl(c:dJ):Prop:=∀s x,c s=some x→dC x=0
theorem SN{sv:dJ}(ok:oX sv)(h:Hl sv)(l:List Cu)(i:Nat):Hl (nY sv l i):=by
 unfold nY;split
 ·rename_i q;intro s x e;dsimp only at e;split at e
  ·cases e;exact (Jc ok q.1).2
  ·exact h s x e
 ·exact h
theorem Lv{l:List Cu}:∀N op sv,oX sv→Hl sv→oX (pI l N op sv)∧Hl (pI l N op sv)
 | 0,_,_,a,b=>⟨a,b⟩
 | N+1,op,sv,a,b=>by
   rw[pI];split
   ·exact⟨a,b⟩
   ·exact Lv N _ _ (Lm a _ _) (SN a b _ _)
theorem S4(l:List Cu):oX (uZ l)∧Hl (uZ l):=Lv _ _ _ ok0 fun _ _ h=>(by cases h)
theorem rG(hl:l.length≤64)(hn:fY l=true):fO (mX l)=0:=by
 obtain⟨o1,o2⟩:=S4 l;unfold fO;refine if_pos ⟨acx (I3 _ _) hl,zf (fun c hc=>?_) ((SC hn).sublist (xt _ _)), ?_⟩
 ·obtain⟨d,hd,e,_⟩:=I4 hc;rw[←e];exact xm hn hd
 ·rw[By];intro c hc;obtain⟨_,_,_,e⟩:=I4 hc;unfold pD;rw[o2 _ _ e,o1.no _ _ e,tO (o1.le _ _ e)];rfl
/-! ### Replacing -/
def dv(cs:List Cu):dJ:=fun s=>(my cs s).map (pX cs)
theorem Ct(h:fO cs=0):cs.length≤64∧fY cs=true∧∀c∈cs,dC c.value=0∧ct c.value=false∧aW c.value≤2000:=by
 unfold fO at h;split at h
 ·rename_i q;refine⟨q.1,q.2.1,fun c hc=>?_⟩;have:=By.1 q.2.2 c hc;unfold pD at this;simp only[On,OF,acM]at this;exact⟨this.1.1,this.1.2,this.2⟩
 ·cases h
theorem Ad(h:fO cs=0):oX (dv cs):=by
 obtain⟨_,_,h3⟩:=Ct h;have key:∀s x,dv cs s=some x→∃c∈cs,c.value=x:=by
  intro s x e;unfold dv at e;obtain⟨i,hi,rfl⟩:=aar.1 e;obtain⟨h1,_⟩:=nU hi;exact⟨cs[i],acA h1,(uk (dO h1)).symm⟩
 refine⟨fun s x e=>?_,fun s x e=>?_⟩<;>obtain⟨c,hc,rfl⟩:=key s x e
 ·exact (h3 c hc).2.1
 ·exact (h3 c hc).2.2
theorem Ao{l:List Vl}(hz:aW l<2^24)(hc:dC l=0)(hcs:fO cs=0):aP p_ 15 [.sl 6 (ar l),.sl 2 (az cs)] (mn (dv cs) l):=by
 refine (V15 _ _).gives (by simp[bf,Aw.Pure,dd,dp]) (xw _ _) ?_;unfold W15;obtain⟨c1,c2,c3⟩:=Ct hcs;have inj:=uT c2;refine zzS (by kernel_rfl) (mO l (by omega)) ?_;rw[hc];refine zzH (zzK rfl ?_);have hC:=Cn cs (by omega) (fun c hc=>by have:=(c3 c hc).2.2;omega);rw[hcs]at hC;refine zzS (by kernel_rfl) hC (zzH (zzK rfl (rI (by kernel_rfl) rfl (yn (by omega) inj) ?_)));rintro r h' ⟨rfl,rfl⟩;refine zzd (KD hz ⟨Ad hcs,cs.length,_,rfl,(IT inj (u3 cs)).ext fun s=>?_⟩) ?_
 ·unfold kU dv;cases my cs s<;>rfl
 ·unfold mn;refine zzB rfl (zzB rfl ?_);exact .pure (xw _ _) rfl
end
section
open Go Go.RowKit Go.Maps Go.Sort Go.Shelf Go.Aw
def L.keysA_ren:Go.Shelf.Ren:=⟨fun|7=>96|10=>142|n=>n,fun|23=>175|26=>9|3=>4|28=>178|0=>0|27=>177|33=>51|4=>4|n=>n,fun|n=>n⟩
theorem L.keysA:Go.Proofs.SlLaysZ.n7 p_ L.keysA_ren:={
 mixed:=by kernel_rfl
 f7:=⟨Tryz.f96.name,by decide,Tryz.func96.trans (congrArg some (by kernel_rfl))⟩
 f10:=⟨Tryz.f142.name,by decide,Tryz.func142.trans (congrArg some (by kernel_rfl))⟩
 t0:=Tryz.underlying0
 a0:=Tryz.isAgg0
 z0:=Tryz.sizeOf0
 v0:=Tryz.zeroValue0
 t4:=Tryz.underlying4
 a4:=Tryz.isAgg4
 z4:=Tryz.sizeOf4
 v4:=Tryz.zeroValue4
 t23:=Tryz.underlying175
 a23:=Tryz.isAgg175
 z23:=Tryz.sizeOf175
 v23:=Tryz.zeroValue175
 t26:=Tryz.underlying9
 a26:=Tryz.isAgg9
 z26:=Tryz.sizeOf9
 v26:=Tryz.zeroValue9
 t27:=Tryz.underlying177
 a27:=Tryz.isAgg177
 z27:=Tryz.sizeOf177
 v27:=Tryz.zeroValue177
 t28:=Tryz.underlying178
 a28:=Tryz.isAgg178
 z28:=Tryz.sizeOf178
 v28:=Tryz.zeroValue178
 t33:=Tryz.underlying51
 a33:=Tryz.isAgg51
 z33:=Tryz.sizeOf51
 v33:=Tryz.zeroValue51 }
def L.sortedA_ren:Go.Shelf.Ren:=⟨fun|6=>95|8=>140|9=>141|11=>182|13=>184|12=>183|23=>223|24=>224|14=>214|15=>215|16=>216|17=>217|18=>218|19=>219|20=>220|21=>221|22=>222|25=>258|26=>259|27=>260|28=>261|29=>262|30=>263|31=>284|n=>n,fun|26=>9|28=>178|24=>38|0=>0|3=>3|37=>258|48=>292|50=>245|4=>4|40=>333|39=>332|45=>337|5=>5|9=>9|51=>355|55=>359|57=>371|58=>287|33=>51|n=>n,fun|n=>n⟩
theorem L.sortedA:Go.Proofs.SlLaysZ.n6 p_ L.sortedA_ren:={
 mixed:=by kernel_rfl
 f6:=⟨Tryz.f95.name,by decide,Tryz.func95.trans (congrArg some (by kernel_rfl))⟩
 f8:=⟨Tryz.f140.name,by decide,Tryz.func140.trans (congrArg some (by kernel_rfl))⟩
 f11:=⟨Tryz.f182.name,by decide,Tryz.func182.trans (congrArg some (by kernel_rfl))⟩
 t0:=Tryz.underlying0
 a0:=Tryz.isAgg0
 z0:=Tryz.sizeOf0
 v0:=Tryz.zeroValue0
 t24:=Tryz.underlying38
 a24:=Tryz.isAgg38
 z24:=Tryz.sizeOf38
 v24:=Tryz.zeroValue38
 t26:=Tryz.underlying9
 a26:=Tryz.isAgg9
 z26:=Tryz.sizeOf9
 v26:=Tryz.zeroValue9
 t28:=Tryz.underlying178
 a28:=Tryz.isAgg178
 z28:=Tryz.sizeOf178
 v28:=Tryz.zeroValue178
 i26:=by kernel_rfl }
def L.sortA_ren:Go.Shelf.Ren:=⟨fun|6=>141|8=>184|9=>183|19=>223|20=>224|21=>214|22=>215|23=>216|24=>217|25=>218|26=>219|27=>220|28=>221|29=>222|36=>258|31=>259|32=>260|37=>261|38=>262|39=>263|41=>284|n=>n,fun|27=>38|29=>9|3=>3|32=>258|26=>38|0=>0|44=>292|46=>245|4=>4|36=>333|35=>332|41=>337|5=>5|9=>9|53=>355|57=>359|63=>371|64=>287|n=>n,fun|n=>n⟩
theorem L.sortA:Go.Proofs.SlLaysM.n6 p_ L.sortA_ren:={
 mixed:=by kernel_rfl
 f6:=⟨Tryz.f141.name,by decide,Tryz.func141.trans (congrArg some (by kernel_rfl))⟩
 f8:=Tryz.func184.trans (congrArg some (by kernel_rfl))
 f9:=⟨Tryz.f183.name,by decide,Tryz.func183.trans (congrArg some (by kernel_rfl))⟩
 f19:=Tryz.func223.trans (congrArg some (by kernel_rfl))
 f20:=Tryz.func224.trans (congrArg some (by kernel_rfl))
 f21:=⟨Tryz.f214.name,by decide,Tryz.func214.trans (congrArg some (by kernel_rfl))⟩
 f22:=⟨Tryz.f215.name,by decide,Tryz.func215.trans (congrArg some (by kernel_rfl))⟩
 f23:=⟨Tryz.f216.name,by decide,Tryz.func216.trans (congrArg some (by kernel_rfl))⟩
 f24:=⟨Tryz.f217.name,by decide,Tryz.func217.trans (congrArg some (by kernel_rfl))⟩
 f25:=⟨Tryz.f218.name,by decide,Tryz.func218.trans (congrArg some (by kernel_rfl))⟩
 f26:=⟨Tryz.f219.name,by decide,Tryz.func219.trans (congrArg some (by kernel_rfl))⟩
 f27:=⟨Tryz.f220.name,by decide,Tryz.func220.trans (congrArg some (by kernel_rfl))⟩
 f28:=⟨Tryz.f221.name,by decide,Tryz.func221.trans (congrArg some (by kernel_rfl))⟩
 f29:=⟨Tryz.f222.name,by decide,Tryz.func222.trans (congrArg some (by kernel_rfl))⟩
 f31:=Tryz.func259.trans (congrArg some (by kernel_rfl))
 f32:=Tryz.func260.trans (congrArg some (by kernel_rfl))
 f36:=⟨Tryz.f258.name,by decide,Tryz.func258.trans (congrArg some (by kernel_rfl))⟩
 f37:=⟨Tryz.f261.name,by decide,Tryz.func261.trans (congrArg some (by kernel_rfl))⟩
 f38:=⟨Tryz.f262.name,by decide,Tryz.func262.trans (congrArg some (by kernel_rfl))⟩
 f39:=⟨Tryz.f263.name,by decide,Tryz.func263.trans (congrArg some (by kernel_rfl))⟩
 f41:=⟨Tryz.f284.name,by decide,Tryz.func284.trans (congrArg some (by kernel_rfl))⟩
 t0:=Tryz.underlying0
 a0:=Tryz.isAgg0
 z0:=Tryz.sizeOf0
 v0:=Tryz.zeroValue0
 t3:=Tryz.underlying3
 a3:=Tryz.isAgg3
 z3:=Tryz.sizeOf3
 v3:=Tryz.zeroValue3
 t4:=Tryz.underlying4
 a4:=Tryz.isAgg4
 z4:=Tryz.sizeOf4
 v4:=Tryz.zeroValue4
 t5:=Tryz.underlying5
 a5:=Tryz.isAgg5
 z5:=Tryz.sizeOf5
 v5:=Tryz.zeroValue5
 t9:=Tryz.underlying9
 a9:=Tryz.isAgg9
 z9:=Tryz.sizeOf9
 v9:=Tryz.zeroValue9
 t26:=Tryz.underlying38
 a26:=Tryz.isAgg38
 z26:=Tryz.sizeOf38
 v26:=Tryz.zeroValue38
 t27:=Tryz.underlying38
 a27:=Tryz.isAgg38
 z27:=Tryz.sizeOf38
 v27:=Tryz.zeroValue38
 t29:=Tryz.underlying9
 a29:=Tryz.isAgg9
 z29:=Tryz.sizeOf9
 v29:=Tryz.zeroValue9
 t32:=Tryz.underlying258
 a32:=Tryz.isAgg258
 z32:=Tryz.sizeOf258
 v32:=Tryz.zeroValue258
 t35:=Tryz.underlying332
 a35:=Tryz.isAgg332
 z35:=Tryz.sizeOf332
 v35:=Tryz.zeroValue332
 t36:=Tryz.underlying333
 a36:=Tryz.isAgg333
 z36:=Tryz.sizeOf333
 v36:=Tryz.zeroValue333
 t41:=Tryz.underlying337
 a41:=Tryz.isAgg337
 z41:=Tryz.sizeOf337
 v41:=Tryz.zeroValue337
 t44:=Tryz.underlying292
 a44:=Tryz.isAgg292
 z44:=Tryz.sizeOf292
 v44:=Tryz.zeroValue292
 t46:=Tryz.underlying245
 a46:=Tryz.isAgg245
 z46:=Tryz.sizeOf245
 v46:=Tryz.zeroValue245
 t53:=Tryz.underlying355
 a53:=Tryz.isAgg355
 z53:=Tryz.sizeOf355
 v53:=Tryz.zeroValue355
 t57:=Tryz.underlying359
 a57:=Tryz.isAgg359
 z57:=Tryz.sizeOf359
 v57:=Tryz.zeroValue359
 t63:=Tryz.underlying371
 a63:=Tryz.isAgg371
 z63:=Tryz.sizeOf371
 v63:=Tryz.zeroValue371
 t64:=Tryz.underlying287
 a64:=Tryz.isAgg287
 z64:=Tryz.sizeOf287
 v64:=Tryz.zeroValue287 }
theorem aaY(m:Nat):AnyZ.SortsIn p_ L.sortedA_ren Fence.wide m:=
 ⟨fun aC off cap ss W hH hblk hsz=>callsIn_wide.2 (AnyM.slices_Sort_string L.sortA aC off cap ss W hH hblk hsz),
  fun p cap W=>callsIn_wide.2 (AnyM.slices_Sort_string_none L.sortA p cap W)⟩
theorem afe(Bm b nn:Nat)(D0:DataW Unit)(w:World)(h1:Bm<w.heap.size)(h2:w.cell? ⟨Bm,0,none⟩=some (.map (some b)))(h3:w.ownsMap p_ 9 u9 b nn D0)(hmax:Maps.size D0≤maxLen)(hbytes:Maps.size D0*16≤140737488355328):
 Calls p_ 95 #[.func (.func 142) #[] #[.pointer (some ⟨Bm,0,none⟩)]] w fun e w' => ∃(v:Value) (ss:List (List UInt8)),e=.returned v∧ss.Perm (strKeys D0) ∧
  w'.ownsRow w.heap.size 9 1 v ss.length ((ss.mergeSort leB).map encStr)∧(v=.slice none 0 0↔ss=[])∧Below w.heap.size w w':=by
 have hseq:SeqGives Fence.wide 2 p_ 142 #[.pointer (some ⟨Bm,0,none⟩)] encStr (fun ss=>ss.Perm (strKeys D0)) (Maps.size D0) w:=
  AnyZ.keys_gives (ρ:=L.keysA_ren) { L.keysA with } Fence.wide _ trivial rfl (by omega) Bm b nn D0 w h1 h2 h3
 have cS:=AnyZ.sorted_in L.sortedA Fence.wide 5 trivial trivial trivial trivial rfl (by omega) (aaY _) (enters_of Tryz.func141 (by kernel_rfl) rfl) 142 #[.pointer (some ⟨Bm,0,none⟩)] trivial (enters_of Tryz.func142 (by kernel_rfl) rfl) _ _ hmax hbytes _ hseq;exact (callsIn_wide (n:=5)).1 cS
theorem J6{id mid c:Nat}{h:aa}{x:nJ}{es:List (Nat×AV×AV)}{r:AV}(hid:h[id]?=some (.aC x))(hx:x.cells[0]?=some (.mp mid))(hmid:h[mid]?=some (.mp c es))(hr:BS c es=some r):
 dY p_ 95 [.fn (.func 142) [] [.op id 0]] h fun r' hh=>r'=r∧hh=h:=
 S7 Tryz.underlying9 afe hid hx hmid hr
end
section
open Go Go.RowKit Go.Shelf
attribute [local go_sem] Oper.semAt_some
def dn(n k:Nat):List Nat:=(List.range k).map fun j=>n-1-j
theorem Kp(n k:Nat):dn n (k+1)=dn n k++[n-1-k]:=by simp[dn,List.range_succ]
theorem OI(n k:Nat):(dn n k).length=k:=by simp[dn]
theorem Zh{l:List Value}(h:l.length=11):∃v0 v1 v2 v3 v4 v5 v6 v7 v8 v9 v10,l=[v0,v1,v2,v3,v4,v5,v6,v7,v8,v9,v10]:=by
 match l,h with
 | [v0,v1,v2,v3,v4,v5,v6,v7,v8,v9,v10],_=>exact⟨v0,v1,v2,v3,v4,v5,v6,v7,v8,v9,v10,rfl⟩
set_option maxRecDepth 100000 in
theorem UO(F:Fence)(n:Nat)(h8:F.fn 115)(hro:F.round=none)(hn:1≤n)(l Bs n₀ b off len cap:Nat)(a:Option Addr)(ha:len=0∨a=some ⟨b,off,none⟩)(vs:Nat→List Value)(hvs:∀x,(vs x).length=11)(hreach:len≤4294967296)(hb:len=0∨b<n₀)(hBn:Bs<n₀)(J Jx:List Nat→World→Prop)
 (hY:∀(pre:List Nat) (x:Nat) W,J pre W→pre.length<len→YieldAt F (n-1) p_ l #[.int .i64 (x:Int),.agg (vs x).toArray] W fun e W' =>
  (e=.returned (.bool true)∧J (pre++[x]) W'∧Below n₀ W W')∨(e=.returned (.bool false)∧Jx (pre++[x]) W'))
 (W:World) (hBs:W.cell? ⟨Bs,0,none⟩=some (.slice a len cap)) (hc:∀i j v,i<len→(vs i)[j]?=some v→W.cell? ⟨b,off+i*11+j,none⟩=some v) (h0:J [] W) :
 CallsIn F n p_ 115 #[.func (.yield l) #[] #[],.pointer (some ⟨Bs,0,none⟩)] W fun e W' => (∃v,e=.returned v) ∧
  ((∃ys,ys=dn len len∧J ys W')∨(∃pre,(∃k,k≤len∧pre=dn len k)∧Jx pre W')):=by
 refine callsIn_of_wp Tryz.func115 rfl h8 ?_ hro;simp only[Tryz.ntmps115,List.size_toArray,List.length_cons,List.length_nil,Nat.reduceAdd,Nat.reduceSub,Array.replicate_succ,Array.replicate_zero,List.push_toArray,List.append_toArray,List.nil_append,List.cons_append]
 gi_wp2
 gi_loopw [3] (fun i wr=>∃k:Nat,k≤len∧((k<len∧i=.int .i64 ((len-1-k:Nat):Int))∨(k=len∧i=.int .i64 (-1)))∧J (dn len k) wr∧Below n₀ W wr)
  (fun i _=>(intOf i+1).toNat)
 case atStart =>
  refine⟨0,Nat.zero_le _, ?_,h0,Below.refl _ _⟩;rcases Nat.eq_zero_or_pos len with rfl|hp
  ·exact .inr ⟨rfl,by simp⟩
  ·exact .inl ⟨hp,by congr 1;omega⟩
 case round =>
  obtain⟨k,hk,hi,hJs,hnx⟩:=hrel;have hBx:wr.cell? ⟨Bs,0,none⟩=some (.slice a len cap):=(hnx.cell (p:=⟨Bs,0,none⟩) hBn).trans hBs;rcases hi with⟨hlt,rfl⟩|⟨rfl,rfl⟩
  ·obtain⟨fn,tmps,assign,body,hy,hR⟩:=hY _ (len-1-k) wr hJs (by rw[OI];exact hlt);obtain rfl:a=some ⟨b,off,none⟩:=ha.resolve_left (by omega);have hb:b<n₀:=hb.resolve_left (by omega);have hcx:∀j v,(vs (len-1-k))[j]?=some v→wr.cell? ⟨b,off+(len-1-k)*11+j,none⟩=some v:=fun j v e=>(hnx.cell (p:=⟨b,off+(len-1-k)*11+j,none⟩) hb).trans (hc _ j v (by omega) e);obtain⟨v0,v1,v2,v3,v4,v5,v6,v7,v8,v9,v10,hv⟩:=Zh (hvs (len-1-k));rw[hv]at hy hcx;have c0:=hcx 0 v0 rfl;have c1:=hcx 1 v1 rfl;have c2:=hcx 2 v2 rfl;have c3:=hcx 3 v3 rfl;have c4:=hcx 4 v4 rfl;have c5:=hcx 5 v5 rfl;have c6:=hcx 6 v6 rfl;have c7:=hcx 7 v7 rfl;have c8:=hcx 8 v8 rfl;have c9:=hcx 9 v9 rfl;have c10:=hcx 10 v10 rfl;rw[Nat.add_zero]at c0
   gi_wp2
   refine hR.mono ?_;rintro e W3 (⟨rfl,hJ3,hk3⟩|⟨rfl,hJx3⟩)
   ·gi_wp2
    go_roundw
    case rel =>
     refine⟨k+1,by omega, ?_,by rw[Kp];exact hJ3,hnx.trans hk3⟩;rcases Nat.lt_or_ge (k+1) len with q|q
     ·exact .inl ⟨q,by congr 1;omega⟩
     ·exact .inr ⟨by omega,by congr 1;omega⟩
    case measure=>first|(simp[intOf];done)|(simp[intOf];omega)
   ·gi_wp2
    refine bodyPost_ret (results_none rfl _ _ _) rfl ?_;exact⟨⟨_,rfl⟩,.inr ⟨_,⟨k+1,by omega,(Kp _ _).symm⟩,hJx3⟩⟩
  ·gi_wp2
   go_end0
   exact⟨⟨_,rfl⟩,.inl ⟨_,rfl,hJs⟩⟩
theorem Y0(F:Fence)(n:Nat)(h5:F.fn 75)(hro:F.round=none)(a:Option Addr)(len cap:Nat)(w:World):
 CallsIn F n p_ 75 #[.slice a len cap] w fun e w' => e=.returned (.func (.func 115) #[] #[.pointer (some ⟨w.heap.size,0,none⟩)])∧w'=w.alloc (.cells #[.slice a len cap] 22):=by
 refine callsIn_of_wp Tryz.func75 rfl h5 ?_ hro;simp only[Tryz.ntmps75,List.size_toArray,List.length_cons,List.length_nil,Nat.reduceAdd,Nat.reduceSub,Array.replicate_succ,Array.replicate_zero,List.push_toArray,List.append_toArray,List.nil_append,List.cons_append]
 gi_wp2
 go_ret
 exact⟨rfl,rfl⟩
def wu(n₀:Nat)(W:World)(sv:Value)(len:Nat)(vs:Nat→List Value):Prop:=
 ∃a cap b off,sv=.slice a len cap∧(len=0∨a=some ⟨b,off,none⟩)∧(∀x,(vs x).length=11)∧(len=0∨b<n₀)∧∀i j v,i<len→(vs i)[j]?=some v→W.cell? ⟨b,off+i*11+j,none⟩=some v
theorem wu.below{n₀:Nat}{A B:World}(h:Below n₀ A B){sv:Value}{len:Nat}{vs:Nat→List Value}:wu n₀ A sv len vs→wu n₀ B sv len vs
 | ⟨a,cap,b,off,e,ha,hv,hb,hc⟩=>⟨a,cap,b,off,e,ha,hv,hb,fun i j v hi e=>(h.cell (p:=⟨b,off+i*11+j,none⟩) (hb.resolve_left (by omega))).trans (hc i j v hi e)⟩
theorem N9(F:Fence)(n:Nat)(h8:F.fn 115)(hro:F.round=none)(hn:1≤n)(Bs n₀:Nat)(sv:Value)(len:Nat)(vs:Nat→List Value)(hreach:len≤4294967296)(w:World)(hBs:Bs<n₀)(hn₀:n₀≤w.heap.size)
 (hc:w.cell? ⟨Bs,0,none⟩=some sv) (hI:wu n₀ w sv len vs) :
 SeqStopsK F n p_ 115 #[.pointer (some ⟨Bs,0,none⟩)] (fun x:Nat=>#[Value.int .i64 (x:Int),.agg (vs x).toArray]) (Below n₀) (fun ys=>ys=dn len len)
  (fun pre=>∃k,k≤len∧pre=dn len k) len w:=fun l J Jx W hW _ _ hY h0=>by
 have hc':=(hW.cell (p:=⟨Bs,0,none⟩) (by show Bs<_;omega)).trans hc;obtain⟨a,cap,b,off,rfl,ha,hv,hb,hcs⟩:=hI.below (hW.mono hn₀);exact UO F n h8 hro hn l Bs n₀ b off len cap a ha vs hv hreach hb hBs J Jx hY W hc' hcs h0
end
section
open Go Go.RowKit Go.Shelf
attribute [local go_sem] Oper.semAt_some
abbrev iv(l:List UInt8):Value:=.string ⟨l.toArray⟩
theorem Below.M5{w W:World}{n:Nat}(h:Below W.heap.size W w):KeepsFrom n W w:=⟨h.size,fun k o _ hk _=>(h.block k (Array.getElem?_eq_some_iff.1 hk).1).trans hk⟩
theorem Boxed.gS{W W':World}{B:Nat}{t:TypeId}{v:Value}(h:Boxed W B t v)(hb:Below W.heap.size W W'):Boxed W' B t v:=(hb.block B h.lt).trans h
theorem SU(B:Nat)(arr:Array Value)(t:TypeId)(fz:Nat×Nat):Own (fun (_:Unit) W=>W.heap[B]?=some (.cells arr t fz)):=by
 rintro s X Y row hv hg hrow;refine (hg.block B (Array.getElem?_eq_some_iff.1 hv).1 fun e' => ?_).trans hv;obtain⟨o,ho,hc⟩:=hrow B e'.symm;rw[hv]at ho;cases ho;cases hc
theorem OJ{len k x:Nat}(hk:k≤len):x∈dn len k↔len-k≤x∧x<len:=by
 unfold dn;simp only[List.mem_map,List.mem_range];constructor
 ·rintro⟨j,hj,rfl⟩;omega
 ·rintro⟨h1,h2⟩;exact⟨len-1-x,by omega,by omega⟩
def p8(nm:Nat→List UInt8)(og:Nat→Int)(name:List UInt8)(below:Int)(x:Nat):Prop:=nm x=name∧og x<below
theorem Boxed.newAt{W:World}{B:Nat}(h:B=W.heap.size)(t:TypeId)(v:Value):Boxed (W.alloc (.cells #[v] t)) B t v:=by subst h;exact Boxed.new W t v
set_option maxRecDepth 100000 in
theorem Zb(n:Nat)(hn:6≤n)(w:World)(sv:Value)(len:Nat)(vs:Nat→List Value)(below:Int)(name:List UInt8)(nm wh:Nat→List UInt8)(og:Nat→Int)(out:Nat→Value×Value)(u:List UInt8)
 (hlen:len≤4294967296) (hone:∀x,∀v∈vs x,v.oneCell'=true) (hI:wu w.heap.size w sv len vs)
 (hv:∀i,(vs i)[0]?=some (iv (nm i))∧(vs i)[2]?=some (iv (wh i))∧(vs i)[4]?=some (.int .u8 (og i)))
 (hend:∀W,Below w.heap.size w W→Calls p_ 78 #[iv name] W fun e W' => e=.returned (iv u)∧Below W.heap.size W W')
 (hhit:∀x,p8 nm og name below x →
  (wh x≠[]∧out x=(.int .i64 (x:Int),iv [])) ∨
  (wh x=[]∧∃wd,(∀W v1,Below w.heap.size w W→(vs x)[1]?=some v1→Calls p_ 76 #[v1] W fun e W' => e=.returned (iv wd)∧Below W.heap.size W W') ∧
   ((wd=[]∧out x=(.int .i64 (x:Int),iv [])) ∨
    (wd≠[]∧(∃m t,out x=(.int .i64 m,iv t))∧∀W,Below w.heap.size w W→Calls p_ 77 #[sv,.int .i64 (x:Int),iv wd] W fun e W' => e=.returned (.tuple #[(out x).1,(out x).2])∧Below W.heap.size W W')))) :
 CallsIn Fence.wide n p_ 39 #[sv,.int .u8 below,iv name] w fun e W' =>
  (∃r:Value×Value,e=.returned (.tuple #[r.1,r.2])∧(((∀i,i<len→¬p8 nm og name below i)∧r=(.int .i64 (-1),iv u))∨∃x,x<len∧p8 nm og name below x∧(∀i,x<i→i<len→¬p8 nm og name below i)∧r=out x))∧Below w.heap.size w W':=by
 have h1:1≤n:=by omega
 refine callsIn_of_wp_marks Tryz.func39 rfl trivial ?_ rfl;simp only[Tryz.ntmps39,List.size_toArray,List.length_cons,List.length_nil,Nat.reduceAdd,Nat.reduceSub,Array.replicate_succ,Array.replicate_zero,List.push_toArray,List.append_toArray,List.nil_append,List.cons_append];have hI0:=hI;obtain⟨a,cap,b,off,rfl,ha,hvl,hb,hcs⟩:=hI
 gi_wp2_with (refine⟨trivial, ?_⟩;gi_at_call 75;refine (Y0 Fence.wide (n-1) trivial rfl _ _ _ _).mono ?_;rintro e w' ⟨rfl,rfl⟩)
 obtain⟨w6,hw6⟩:∃w6,((((((w.alloc (Obj.cells #[Value.slice a len cap] 22)).alloc (Obj.cells #[Value.int IntKind.u8 below] 5)).alloc (Obj.cells #[iv name] 9)).alloc (Obj.cells #[Value.int IntKind.i64 0] 3)).alloc (Obj.cells #[Value.string { data:=#[] }] 9)).alloc (Obj.cells #[Value.slice a len cap] 22))=w6:=⟨_,rfl⟩;rw[hw6];have hsz:w6.heap.size=w.heap.size+6:=by rw[←hw6];simp[World.size_alloc]
 have hB6:Below w.heap.size w w6:=by
  rw[←hw6];exact ((((((Below.refl _ w).alloc (Nat.le_refl _) _).alloc (by simp) _).alloc (by simp;omega) _).alloc (by simp;omega) _).alloc (by simp;omega) _).alloc (by simp;omega) _
 have bx0:Boxed w6 w.heap.size 22 (.slice a len cap):=by rw[←hw6];exact (((((Boxed.newAt (by simp) _ _).alloc _).alloc _).alloc _).alloc _).alloc _
 have bx1:Boxed w6 (w.heap.size+1) 5 (.int .u8 below):=by rw[←hw6];exact ((((Boxed.newAt (by simp) _ _).alloc _).alloc _).alloc _).alloc _
 have bx2:Boxed w6 (w.heap.size+1+1) 9 (iv name):=by rw[←hw6];exact (((Boxed.newAt (by simp) _ _).alloc _).alloc _).alloc _
 have bx3:Boxed w6 (w.heap.size+1+1+1) 3 (.int .i64 0):=by rw[←hw6];exact ((Boxed.newAt (by simp) _ _).alloc _).alloc _
 have bx4:Boxed w6 (w.heap.size+1+1+1+1) 9 (iv []):=by rw[←hw6];exact (Boxed.newAt (by simp) _ _).alloc _
 have bx5:Boxed w6 (w.heap.size+1+1+1+1+1) 22 (.slice a len cap):=by rw[←hw6];exact Boxed.newAt (by simp) _ _
 have hI6:wu w6.heap.size w6 (.slice a len cap) len vs:=by
  obtain⟨a',cap',b',off',e1,e2,e3,e4,e5⟩:=hI0.below hB6;exact⟨a',cap',b',off',e1,e2,e3,e4.imp id fun q=>by omega,e5⟩
 clear hw6;refine wpIn_rangeFunc_ownH (F:=Fence.wide) rfl h1 (gf:=115) (lb:=#[.pointer (some ⟨w.heap.size+1+1+1+1+1,0,none⟩)]) rfl trivial (enters_of Tryz.func115 (by kernel_rfl) rfl)
  (N9 Fence.wide (n-1) trivial rfl (by omega) (w.heap.size+1+1+1+1+1) w6.heap.size (.slice a len cap) len vs hlen w6 (by omega) (Nat.le_refl _) bx5.cell hI6) belowK_t (belowK_b (Nat.le_refl _)) (Below.refl _ _) (fun _=>rfl)
  (fun pre W=>(∀y∈pre,¬p8 nm og name below y)∧Below w6.heap.size w6 W)
  (fun c pre W=>(c=.ret∧∃pre' x,pre=pre'++[x]∧(∀y∈pre',¬p8 nm og name below y)∧p8 nm og name below x)∧(Boxed W (w.heap.size+1+1+1) 3 (out (pre.getLast?.getD 0)).1∧Boxed W (w.heap.size+1+1+1+1) 9 (out (pre.getLast?.getD 0)).2)∧Below w.heap.size w W)
  ((ownFrom_pure _ _).and (ownFrom_below (Nat.le_refl _) (Nat.le_refl _)))
  (fun c=>(ownFrom_pure _ (fun pre=>c=.ret∧∃pre' x,pre=pre'++[x]∧(∀y∈pre',¬p8 nm og name below y)∧p8 nm og name below x)).and ((((boxed_own _ _ (fun pre:List Nat=>(out (pre.getLast?.getD 0)).1)).from _).and ((boxed_own _ _ (fun pre:List Nat=>(out (pre.getLast?.getD 0)).2)).from _)).and (ownFrom_below (Nat.le_refl _) (by omega))))
  ⟨by simp,Below.refl _ _⟩
  (fun x a' W=>∃Bx,w6.heap.size≤Bx∧W.heap[Bx]?=some (.cells (vs x).toArray 50 (0,0))∧a'={
   tmps:=#[Value.slice a len cap,Value.int IntKind.u8 below,iv name,
    Value.pointer (some { block:=w.heap.size,off:=0 }),
    Value.pointer (some { block:=w.heap.size+1,off:=0 }),
    Value.pointer (some { block:=w.heap.size+1+1,off:=0 }),
    Value.pointer (some { block:=w.heap.size+1+1+1,off:=0 }),
    Value.pointer (some { block:=w.heap.size+1+1+1+1,off:=0 }),.int .i64 (x:Int),Value.pointer (some ⟨Bx,0,none⟩),undef,
    Value.slice a len cap,
    Value.func (Fn.func 115) #[] #[Value.pointer (some { block:=w.heap.size+1+1+1+1+1,off:=0 })],
    .int .i64 (x:Int),.agg (vs x).toArray,undef,undef,undef,undef,undef,undef,undef,undef,undef,undef,undef,undef,undef,undef,
    undef,undef,undef,undef,undef,undef,undef,undef,undef,undef,undef,undef,undef,undef,undef,
    undef],
   defers:=[] })
  (fun x a' s W W' row ⟨Bx,k1,k2,k3⟩ hg hr=>⟨Bx,k1,(SU Bx _ _ _).from w6.heap.size () W W' row k2 hg hr,k3⟩)
  ?assign ?body ?done ?stop
 case assign =>
  rintro l pre x W K ⟨hno,hBw⟩ hK;have hst:(storeCells ⟨W.heap.size,0,none⟩ (vs x) 0).run p_ (W.alloc (Obj.cells #[Value.string { data:=#[] },Value.slice none 0 0,Value.string { data:=#[] },Value.bool false,Value.int IntKind.u8 0,Value.bool false,Value.int IntKind.i64 0,Value.int IntKind.i64 0,Value.int IntKind.i64 0,Value.int IntKind.i64 0,Value.int IntKind.i64 0] 50))=.ok () (W.alloc (Obj.cells (vs x).toArray 50)):=by
   have h11:(vs x).toArray.size=11:=by simp[hvl x]
   simpa using run_storeCells_new (P:=p_) W 50 #[Value.string { data:=#[] },Value.slice none 0 0,Value.string { data:=#[] },Value.bool false,Value.int IntKind.u8 0,Value.bool false,Value.int IntKind.i64 0,Value.int IntKind.i64 0,Value.int IntKind.i64 0,Value.int IntKind.i64 0,Value.int IntKind.i64 0] (vs x).toArray (by rw[h11];kernel_rfl) (by rw[h11];rfl) (by simpa using hone x)
  gi_wp2
  exact hK _ _ ((KeepsOthers.alloc _ _).from _) ((Below.refl _ W).alloc hBw.size _) ⟨hno,hBw.alloc hBw.size _⟩ ⟨W.heap.size,hBw.size,World.alloc_heap_new W _,rfl⟩
 case body =>
  rintro l pre x a' W hl ⟨r,hr⟩ ⟨hno,hBw⟩ ⟨Bx,hBx,k2,rfl⟩ hlt;have q0:=(Boxed.gS bx0 hBw).cell;have q1:=(Boxed.gS bx1 hBw).cell;have q2:=(Boxed.gS bx2 hBw).cell;have y3:=Boxed.gS bx3 hBw;have y4:=Boxed.gS bx4 hBw;have c0:W.cell? ⟨Bx,0,none⟩=some (iv (nm x)):=by simp[World.cell?,k2,(hv x).1]
  have c2:W.cell? ⟨Bx,2,none⟩=some (iv (wh x)):=by simp[World.cell?,k2,(hv x).2.1]
  have c4:W.cell? ⟨Bx,4,none⟩=some (.int .u8 (og x)):=by simp[World.cell?,k2,(hv x).2.2]
  have go:¬p8 nm og name below x→∀y∈pre++[x],¬p8 nm og name below y:=fun h y hy=>by
   rcases List.mem_append.1 hy with q|q
   ·exact hno y q
   ·rw[List.mem_singleton.1 q];exact h
  clear hsz
  by_cases hnm:nm x=name
  ·by_cases hog:og x<below
   ·have hH:p8 nm og name below x:=⟨hnm,hog⟩;have hlg:(pre++[x]).getLast?.getD 0=x:=by simp
    have hlo:¬below≤og x:=by omega
    have hBx0:Below w.heap.size w W:=hB6.trans (hBw.mono hB6.size);obtain⟨v1,hv1⟩:∃v1,(vs x)[1]?=some v1:=⟨_,List.getElem?_eq_getElem (by rw[hvl x];omega)⟩;have c1:W.cell? ⟨Bx,1,none⟩=some v1:=by simp[World.cell?,k2,hv1]
    have fin:∀(W1:World) (r1 r2:Value),KeepsFrom w6.heap.size W W1→Below w.heap.size w W1→Boxed W1 (w.heap.size+1+1+1) 3 (.int .i64 0)→Boxed W1 (w.heap.size+1+1+1+1) 9 (iv [])→out x=(r1,r2)→∀a',
     ownPostG w6.heap.size (Below w6.heap.size) (fun pre W=>(∀y∈pre,¬p8 nm og name below y)∧Below w6.heap.size w6 W)
      (fun c pre W=>(c=.ret∧∃pre' x,pre=pre'++[x]∧(∀y∈pre',¬p8 nm og name below y)∧p8 nm og name below x)∧(Boxed W (w.heap.size+1+1+1) 3 (out (pre.getLast?.getD 0)).1∧Boxed W (w.heap.size+1+1+1+1) 9 (out (pre.getLast?.getD 0)).2)∧Below w.heap.size w W)
      (pre++[x]) W .ret a' ((W1.setCell ⟨w.heap.size+1+1+1,0,none⟩ r1).setCell ⟨w.heap.size+1+1+1+1,0,none⟩ r2):=by
     intro W1 r1 r2 hkf hbl b3 b4 ho a';refine⟨hkf.trans (((KeepsOthers.setCell _ _ _).trans (KeepsOthers.setCell _ _ _)).from _),⟨rfl,pre,x,rfl,hno,hH⟩,⟨?_, ?_⟩,(hbl.setCell (p:=⟨w.heap.size+1+1+1,0,none⟩) (by show w.heap.size≤w.heap.size+1+1+1;omega) _).setCell (p:=⟨w.heap.size+1+1+1+1,0,none⟩) (by show w.heap.size≤w.heap.size+1+1+1+1;omega) _⟩
     ·rw[hlg,ho];exact (b3.set r1).other (by omega) r2
     ·rw[hlg,ho];exact (b4.other (by omega) r1).set r2
    rcases hhit x hH with⟨hw1,ho⟩|⟨hw1,wd,hwide,⟨hw2,ho⟩|⟨hw2,⟨m,t,ho⟩,hmean⟩⟩
    ·have hwb:(wh x == [])=false:=by simpa using hw1
     have z3:=y3.cell;have f3:=y3.frozen;have z4:=y4.cell;have f4:=y4.frozen
     gi_wp2
     exact fin W _ _ (KeepsFrom.refl _ _) hBx0 y3 y4 ho _
    ·subst hw2;have cw:=hwide W v1 hBx0 hv1
     gi_wp2_with (refine⟨trivial,fun _=>by omega, ?_⟩;gi_at_call 76;refine (CallsIn.inRound l (callsIn_wide.2 cw)).mono ?_;rintro e w' ⟨rfl,hbw⟩;have y3':=Boxed.gS y3 hbw;have y4':=Boxed.gS y4 hbw;have z3:=y3'.cell;have f3:=y3'.frozen;have z4:=y4'.cell;have f4:=y4'.frozen)
     exact fin w' _ _ (Below.M5 hbw) (hBx0.trans (hbw.mono hBx0.size)) y3' y4' ho _
    ·have hwb:(wd == [])=false:=by simpa using hw2
     have cw:=hwide W v1 hBx0 hv1;have y0:=Boxed.gS bx0 hBw;rw[ho]at hmean
     gi_wp2_with (first
      | (refine⟨trivial,fun _=>by omega, ?_⟩;gi_at_call 76;refine (CallsIn.inRound l (callsIn_wide.2 cw)).mono ?_;rintro e w' ⟨rfl,hbw⟩;have y3':=Boxed.gS y3 hbw;have y4':=Boxed.gS y4 hbw;have z0:=(Boxed.gS y0 hbw).cell;have hBw':=hBx0.trans (hbw.mono hBx0.size);have cm:=hmean w' hBw')
      | (refine⟨trivial,fun _=>by omega, ?_⟩;gi_at_call 77;refine (CallsIn.inRound l (callsIn_wide.2 cm)).mono ?_;rintro e w'' ⟨rfl,hbm⟩;have y3'':=Boxed.gS y3' hbm;have y4'':=Boxed.gS y4' hbm;have z3:=y3''.cell;have f3:=y3''.frozen;have z4:=y4''.cell;have f4:=y4''.frozen))
     exact fin w'' _ _ ((Below.M5 hbw).trans (Below.M5 hbm)) (hBw'.trans (hbm.mono hBw'.size)) y3'' y4'' ho _
   ·have hge:below≤og x:=by omega
    gi_wp2
    exact⟨KeepsFrom.refl _ _,Below.refl _ _,go (fun h=>absurd h.2 (by omega)),hBw⟩
  ·have hnb:(nm x == name)=false:=by simpa using hnm
   gi_wp2
   exact⟨KeepsFrom.refl _ _,Below.refl _ _,go (fun h=>hnm h.1),hBw⟩
 case done =>
  rintro D xs W hD rfl ⟨hno,hBw⟩ hK;have q2:=(Boxed.gS bx2 hBw).cell;have y3:=Boxed.gS bx3 hBw;have y4:=Boxed.gS bx4 hBw;have hBx0:Below w.heap.size w W:=hB6.trans (hBw.mono hB6.size);have cu:=hend W hBx0;have hDK:=hD;have l5:=bx5.lt;have hK2:∀w',Below W.heap.size W w'→(((w'.setCell ⟨w.heap.size+1+1+1,0,none⟩ (.int .i64 (-1))).setCell ⟨w.heap.size+1+1+1+1,0,none⟩ (iv u))).heap[D]?=some (.deferred (some [])):=fun w' hb =>
   (KeepsOthers.setCell _ _ _).same D _ ((KeepsOthers.setCell _ _ _).same D _ ((hb.block D (Array.getElem?_eq_some_iff.1 hK).1).trans hK) rfl) rfl
  clear hsz hD
  gi_wp2_with (refine⟨trivial, ?_⟩;gi_at_call 78;refine (callsIn_wide.2 cu).mono ?_;rintro e w' ⟨rfl,hbw⟩;have y3':=Boxed.gS y3 hbw;have y4':=Boxed.gS y4 hbw;have z3:=y3'.cell;have f3:=y3'.frozen;have z4:=y4'.cell;have f4:=y4'.frozen)
  refine⟨by simp,.inl ⟨_,_,rfl,run_takeDeferred (hK2 w' hbw), ?_⟩⟩;have d3:=((y3'.set (.int .i64 (-1))).other (B':=w.heap.size+1+1+1+1) (by omega) (iv u)).kept (grownBy_putObj' _ D (.deferred none)) (fun e=>by cases e;omega);have d4:=((y4'.other (B':=w.heap.size+1+1+1) (by omega) (.int .i64 (-1))).set (iv u)).kept (grownBy_putObj' _ D (.deferred none)) (fun e=>by cases e;omega);have e3:=d3.cell;have e4:=d4.cell;have hbl:Below w.heap.size w ((w'.setCell ⟨w.heap.size+1+1+1,0,none⟩ (.int .i64 (-1))).setCell ⟨w.heap.size+1+1+1+1,0,none⟩ (iv u)):=
   ((hBx0.trans (hbw.mono hBx0.size)).setCell (p:=⟨w.heap.size+1+1+1,0,none⟩) (by show w.heap.size≤w.heap.size+1+1+1;omega) _).setCell (p:=⟨w.heap.size+1+1+1+1,0,none⟩) (by show w.heap.size≤w.heap.size+1+1+1+1;omega) _
  refine⟨.tuple #[.int .i64 (-1),iv u], ?_,⟨(.int .i64 (-1),iv u),rfl,.inl ⟨fun i hi=>hno i ((OJ (Nat.le_refl _)).2 ⟨by omega,hi⟩),rfl⟩⟩,hbl.trans (belowK_b (w:=w) (Nat.le_refl _) _ D _ _ (by omega) (hK2 w' hbw) rfl rfl)⟩;simp[results,Tryz.f39,go_sem,e3,e4]
 case stop =>
  rintro D c pre W hD ⟨k,hk,rfl⟩ ⟨⟨rfl,pre',x,hp,hno,hH⟩,⟨y3,y4⟩,hBw⟩ hK;have l5:=bx5.lt;have hDK:=hD;clear hsz;have hx:x=len-k∧0<k:=by
   cases k with
   | zero=>simp[dn]at hp
   | succ k =>
     refine⟨?_,Nat.succ_pos _⟩;unfold dn at hp;rw[List.range_succ,List.map_append]at hp;have:=List.append_inj_right' hp (by simp);simp at this;omega
  have hlg:(dn len k).getLast?.getD 0=x:=by rw[hp];simp
  rw[hlg]at y3 y4;have hab:∀i,x<i→i<len→¬p8 nm og name below i:=by
   intro i h1 h2;have hi:i∈dn len k:=(OJ hk).2 ⟨by omega,h2⟩;rw[hp]at hi;rcases List.mem_append.1 hi with q|q
   ·exact hno i q
   ·rw[List.mem_singleton.1 q]at h1;omega
  gi_wp2
  refine⟨by simp,.inl ⟨_,_,rfl,run_takeDeferred hK, ?_⟩⟩;have e3:=(y3.kept (grownBy_putObj' _ D (.deferred none)) (fun e=>by cases e;omega)).cell;have e4:=(y4.kept (grownBy_putObj' _ D (.deferred none)) (fun e=>by cases e;omega)).cell;refine⟨.tuple #[(out x).1,(out x).2], ?_,⟨out x,rfl,.inr ⟨x,by omega,hH,hab,rfl⟩⟩,hBw.trans (belowK_b (w:=w) (Nat.le_refl _) _ D _ _ (by omega) hK rfl rfl)⟩;simp[results,Tryz.f39,go_sem,e3,e4]
end
section
open Go Go.Aw Go.RowKit
variable{args:List AV}{call:aZ}
def Jd(r:List AV):Option (List UInt8×AV×List UInt8×Int):=match r with
 | [.str n,v,.str w,_,.v (.int .u8 o),_,_,_,_,_,_]=>some (n,v,w,o)
 | _=>none
def rowAt(rows:List (List AV))(k:Nat):Option (List UInt8×AV×List UInt8×Int):=match rows[k]? with|some r=>Jd r|none=>none
def rowsOf(l:AV):Option (List (List AV)):=match l with|.sl 11 rows=>some rows|.v (.slice none 0 0)=>some []|_=>none
def yP(call:aZ)(l:AV)(k:Nat)(v:AV)(wh:List UInt8):Option AV:=match wh with
 | []=>(match call 76 [v] [] with
   | some (.str wd,none)=>(match wd with
     | []=>some (.aF [i_ k,.str []])
     | _:: _=>(match Nat.ble wd.length 1000,call 77 [l,i_ k,.str wd] [] with|true,some (.aF [.v (.int .i64 i),.str s],none)=>some (.aF [i_ i,.str s])|_,_=>none))
   | _=>none)
 | _:: _=>some (.aF [i_ k,.str []])
def vJ(call:aZ)(rows:List (List AV))(l:AV)(name:List UInt8)(below:Int):Nat→Option AV
 | 0=>(match call 78 [.str name] [] with|some (.str u,none)=>some (.aF [i_ (-1),.str u])|_=>none)
 | k+1=>(match rowAt rows k with
   | some (n,v,wh,o)=>(match uH n name,tW o below with
     | true,true=>(match yP call l k v wh,vJ call rows l name below k with|some r,some _=>some r|_,_=>none)
     | _,_=>vJ call rows l name below k)
   | none=>none)
def DJ(rows:List (List AV)):Bool:=qc (fun r=>match Jd r,qc dH r with|some _,true=>true|_,_=>false) rows
def HU(call:aZ)(args:List AV):Option AV:=match args with
 | [l,.v (.int .u8 b),.str name]=>(match rowsOf l with
   | some rows=>(match DJ rows,jJ args,Nat.ble rows.length 100000 with|true,true,true=>(match vJ call rows l name b rows.length with|some (.aF [.v (.int .i64 i),.str s])=>(match Nat.ble s.length 100000 with|true=>some (.aF [i_ i,.str s])|false=>none)|_=>none)|_,_,_=>none)
   | none=>none)
 | _=>none
def nmD(rows:List (List AV))(i:Nat):List UInt8:=match rowAt rows i with|some p=>p.1|none=>[]
def whD(rows:List (List AV))(i:Nat):List UInt8:=match rowAt rows i with|some p=>p.2.2.1|none=>[]
def ogD(rows:List (List AV))(i:Nat):Int:=match rowAt rows i with|some p=>p.2.2.2|none=>0
theorem A8{call:aZ}{rows:List (List AV)}{l:AV}{name:List UInt8}{below:Int}:∀m {r:AV},vJ call rows l name below m=some r→∃r0,vJ call rows l name below 0=some r0
 | 0,r,e=>⟨r,e⟩
 | m+1,r,e=>by
   rw[vJ]at e;split at e
   ·split at e
    ·split at e
     ·rename_i _ _ _ h;exact A8 m h
     ·cases e
    ·exact A8 m e
   ·cases e
theorem EA{call:aZ}{rows:List (List AV)}{l:AV}{name:List UInt8}{below:Int}:∀m {r:AV},vJ call rows l name below m=some r →
 (∀i,i<m→∃p,rowAt rows i=some p∧(p.1=name→p.2.2.2<below→∃ri,yP call l i p.2.1 p.2.2.1=some ri)) ∧
 (((∀i,i<m→∀p,rowAt rows i=some p→¬(p.1=name∧p.2.2.2<below))∧vJ call rows l name below 0=some r) ∨
  ∃x p,x<m∧rowAt rows x=some p∧(p.1=name∧p.2.2.2<below)∧(∀i,x<i→i<m→∀q,rowAt rows i=some q→¬(q.1=name∧q.2.2.2<below))∧yP call l x p.2.1 p.2.2.1=some r)
 | 0,r,e=>⟨fun i hi=>by omega,.inl ⟨fun i hi=>by omega,e⟩⟩
 | m+1,r,e=>by
   rw[vJ]at e;split at e;rotate_left
   ·cases e
   rename_i n v wh o hr;split at e
   ·rename_i h1 h2;rw[r8]at h1;rw[o8]at h2;have h1:=uP h1;have h2:=uP h2;split at e;rotate_left
    ·cases e
    rename_i r1 r2 hh hg;cases e;obtain⟨A,_⟩:=EA m hg;refine⟨fun i hi=>?_,.inr ⟨m,_,Nat.lt_succ_self m,hr,⟨h1,h2⟩,fun i h h' => by omega,hh⟩⟩;rcases AT i m with q|q
    ·exact A i q
    ·obtain rfl:i=m:=by omega
     exact⟨_,hr,fun _ _=>⟨_,hh⟩⟩
   ·rename_i hno;have hno':¬(n=name∧o<below):=fun⟨a1,a2⟩=>hno (by rw[r8];exact tO a1) (by rw[o8];exact tO a2);obtain⟨A,B⟩:=EA m e;refine⟨fun i hi=>?_, ?_⟩
    ·rcases AT i m with q|q
     ·exact A i q
     ·obtain rfl:i=m:=by omega
      exact⟨_,hr,fun a1 a2=>absurd ⟨a1,a2⟩ hno'⟩
    ·have ex:∀i,m≤i→i<m+1→∀q,rowAt rows i=some q→¬(q.1=name∧q.2.2.2<below):=fun i h1 h2 q hq=>by
      obtain rfl:i=m:=by omega
      rw[hr]at hq;cases hq;exact hno'
     rcases B with⟨B1,B2⟩|⟨x,p,b1,b2,b3,b4,b5⟩
     ·refine .inl ⟨fun i hi q hq=>?_,B2⟩;rcases AT i m with z|z
      ·exact B1 i z q hq
      ·exact ex i z hi q hq
     ·refine .inr ⟨x,p,by omega,b2,b3,fun i h1 h2 q hq=>?_,b5⟩;rcases AT i m with z|z
      ·exact b4 i h1 z q hq
      ·exact ex i z h2 q hq
theorem zy{f:FuncId}{r:AV}(hc:dZ p_ call)(hb:cd p_ f=true)(e:call f args []=some (r,none)){S:ba}{w:World}{vs:List Value}(h1:aI [] S w args vs)(hS:∀b o,S b o→b<w.heap.size)(hg:Fv S w):
 ∀W,Below w.heap.size w W→Calls p_ f vs.toArray W fun e W' => ∃v ι' S',e=.returned v∧Below W.heap.size W W'∧ax ι' S' W' r v:=by
 intro W hB;have hE:cc 0 w.heap.size [] S w [] S W:=⟨fun _ _=>iI.refl _,fun _ _ q=>q,fun _ _ q=>.inl q,fun b o q=>hB.cell (hS b o q),fun b x hx=>by
  unfold World.shape? at hx ⊢;have hb:b<w.heap.size:=by
   rcases AT b w.heap.size with k|k
   ·exact k
   ·rw[acX k]at hx;cases hx
  rw[hB.block b hb];exact hx,hB⟩
 rcases hc f args [] r none e with⟨_,hA⟩|hA
 ·refine (hA W.heap.size [] S W vs (h1.gW hE (aS _)) (dN.nil S W (fun b o q=>UP (hS b o q) hB.size) (hg.gW hE))).mono ?_;rintro e W' ⟨v,ι',S',r',h',e1,e2,e3,_,_,rfl,_⟩;exact⟨v,ι',S',e1,e2.oT,e3⟩
 ·rw[hA.1]at hb;cases hb
theorem bZ.at'{ι:List Ix}{S:ba}{w:World}:∀{cs:List AV} {b off:Nat},bZ ι S w cs b off→∀j c,cs[j]?=some c→∃u,w.cell? ⟨b,off+j,none⟩=some u∧S b (off+j)∧ax ι S w c u
 | [],b,off,_,j,c,e=>by simp at e
 | x:: cs,b,off,h,0,c,e=>by simp at e;subst e;rw[bZ]at h;exact h.1
 | x:: cs,b,off,h,j+1,c,e=>by
   rw[bZ]at h;obtain⟨u,a1,a2,a3⟩:=bZ.at' h.2 j c (by simpa using e);exact⟨u,by rwa [show off+(j+1)=off+1+j by omega],by rwa [show off+(j+1)=off+1+j by omega],a3⟩
theorem da.at'{ι:List Ix}{S:ba}{w:World}{sz:Nat}:∀{rows:List (List AV)} {b off:Nat},da ι S w sz rows b off→∀i r,rows[i]?=some r→r.length=sz∧bZ ι S w r b (off+i*sz)
 | [],b,off,_,i,r,e=>by simp at e
 | x:: rows,b,off,h,0,r,e=>by simp at e;subst e;rw[da]at h;simpa using⟨h.1,h.2.1⟩
 | x:: rows,b,off,h,i+1,r,e=>by
   rw[da]at h;obtain⟨a1,a2⟩:=da.at' h.2.2 i r (by simpa using e);exact⟨a1,by rwa [show off+(i+1)*sz=off+sz+i*sz by rw[Nat.succ_mul];omega]⟩
def Nx(call:aZ)(rows:List (List AV))(l:AV)(x:Nat):Value×Value:=match rowAt rows x with
 | some p=>(match yP call l x p.2.1 p.2.2.1 with|some (.aF [.v (.int .i64 i),.str s])=>(.int .i64 i,iv s)|_=>(undef,undef))
 | none=>(undef,undef)
theorem Ki(hc:dZ p_ call){r:AV}(e:HU call args=some r):cd p_ 39=true∧∀h,dY p_ 39 args h fun r' hh=>r'=r∧hh=h:=by
 refine⟨by kernel_rfl,fun h=>?_⟩;unfold HU at e;split at e;rotate_left
 ·cases e
 rename_i l below name;split at e;rotate_left
 ·cases e
 rename_i rows hrows;split at e;rotate_left
 ·cases e
 rename_i hwf hpu hln;split at e;rotate_left
 ·cases e
 rename_i ri rs hgo;split at e;rotate_left
 ·cases e
 rename_i hsl;cases e;have hln:=nO hln;have hsl:=nO hsl;have pure:bf [l,.v (.int .u8 below),.str name]:=by
  unfold jJ at hpu;rw[iU]at hpu;have:∀a∈[l,.v (.int .u8 below),.str name],Bd 0 a:=fun a ha=>by
   have:=By.1 hpu a ha;split at this
   ·rename_i z;exact se 0 a (by omega)
   ·cases this
  have h2:Aw.Pure (.agg [l,.v (.int .u8 below),.str name]):=tz _ (by rw[Bd];exact (nr 0 _).2 this);rw[Aw.Pure]at h2;exact h2
 obtain⟨hA,hB⟩:=EA _ hgo;obtain⟨r0,hz⟩:=A8 _ hgo;have hun:∃u,call 78 [.str name] []=some (.str u,none)∧r0=.aF [i_ (-1),.str u]:=by
  rw[vJ]at hz;split at hz
  ·rename_i u hu;cases hz;exact⟨u,hu,rfl⟩
  ·cases hz
 obtain⟨u,hu,rfl⟩:=hun;have C:aP p_ 39 [l,.v (.int .u8 below),.str name] (.aF [i_ ri,.str rs]):=by
  refine⟨pure,by simp, ?_⟩;intro base ι S w vs h1 h2;have hι:ι=[]:=List.eq_nil_of_length_eq_zero h2.len;subst hι
  match vs,h1 with
  | [],h1=>simp at h1
  | [_],h1=>simp at h1
  | [_,_],h1=>simp at h1
  | _:: _:: _:: _:: _,h1=>simp at h1
  | [lv,bv,nv],h1 =>
  simp only[dc,kF,dx,gN,and_true]at h1;obtain⟨rl,rfl,rfl,hnl⟩:=h1
  -- the rows' values
  have hrow:∃a cap b off,lv=.slice a rows.length cap∧(rows.length=0∨(a=some ⟨b,off,none⟩∧da [] S w 11 rows b off)):=by
   unfold rowsOf at hrows;split at hrows
   ·cases hrows;rw[ax]at rl;obtain⟨a,cap,e1,_,_,e4⟩:=rl;rcases e4 with rfl|⟨b,off,e5,e6⟩
    ·exact⟨a,cap,0,0,e1,.inl rfl⟩
    ·exact⟨a,cap,b,off,e1,.inr ⟨e5,e6⟩⟩
   ·cases hrows;rw[dx]at rl;exact⟨none,0,0,0,rl,.inl rfl⟩
   ·cases hrows
  obtain⟨a,cap,b,off,rfl,hab⟩:=hrow
  let z:Value:=.bool false
  let vs:Nat→List Value:=fun i=>if i<rows.length then (List.range 11).map fun j=>(w.cell? ⟨b,off+i*11+j,none⟩).getD undef else [iv (name++[0]),z,iv [],z,.int .u8 0,z,z,z,z,z,z]
  let nm:Nat→List UInt8:=fun i=>if i<rows.length then nmD rows i else name++[0]
  let wh:Nat→List UInt8:=fun i=>if i<rows.length then whD rows i else []
  let og:Nat→Int:=fun i=>if i<rows.length then ogD rows i else 0
  have hcell:∀i rw',rows[i]?=some rw'→∀j c,rw'[j]?=some c→∃u,w.cell? ⟨b,off+i*11+j,none⟩=some u∧S b (off+i*11+j)∧ax [] S w c u:=by
   intro i rw' hi j c hj;rcases hab with q|⟨_,q⟩
   ·have:rows=[]:=List.eq_nil_of_length_eq_zero q;rw[this]at hi;simp at hi
   ·exact bZ.at' (da.at' q i rw' hi).2 j c hj
  have hwf':∀i,i<rows.length→∃rw' n v wh x3 o x5 x6 x7 x8 x9 xa,rows[i]?=some rw'∧rw'=[.str n,v,.str wh,x3,.v (.int .u8 o),x5,x6,x7,x8,x9,xa]∧rowAt rows i=some (n,v,wh,o):=by
   intro i hi;have hr:rows[i]?=some rows[i]:=dO hi;unfold DJ at hwf;rw[iU]at hwf;have:=By.1 hwf rows[i] (acA hi);have hd:∃p,Jd rows[i]=some p:=by
    split at this
    ·rename_i p hp _;exact⟨p,hp⟩
    ·cases this
   obtain⟨p,hp⟩:=hd;have hp0:=hp;unfold Jd at hp;split at hp
   ·rename_i n v wh x3 o x5 x6 x7 x8 x9 xa heq;cases hp;refine⟨_,n,v,wh,x3,o,x5,x6,x7,x8,x9,xa,hr,heq, ?_⟩;unfold rowAt;rw[hr];exact hp0
   ·cases hp
  have hvs:∀i j u,i<rows.length→j<11→w.cell? ⟨b,off+i*11+j,none⟩=some u→(vs i)[j]?=some u:=by
   intro i j u hi hj hu;simp only[vs];rw[if_pos hi,lE,aau hj];simp[hu]
  have hI:wu w.heap.size w (.slice a rows.length cap) rows.length vs:=by
   refine⟨a,cap,b,off,rfl,hab.imp id (·.1),fun x=>by simp only[vs];split<;>simp, ?_,fun i j v hi hj=>?_⟩
   ·rcases Nat.eq_zero_or_pos rows.length with q|q
    ·exact .inl q
    ·obtain⟨rw',n,v,wh,x3,o,x5,x6,x7,x8,x9,xa,g1,g2,_⟩:=hwf' 0 q;obtain⟨u,_,hs,_⟩:=hcell 0 rw' g1 0 (.str n) (by rw[g2];rfl);exact .inr (h2.iX _ _ hs)
   ·have hj11:j<11:=by
     have:=(gE.1 hj).1;simpa[vs,hi]using this
    obtain⟨rw',n,v',wh,x3,o,x5,x6,x7,x8,x9,xa,g1,g2,_⟩:=hwf' i hi;have hlen:rw'.length=11:=by rw[g2];rfl
    obtain⟨u,hu,_,_⟩:=hcell i rw' g1 j rw'[j] (dO (by omega));rw[hvs i j u hi hj11 hu]at hj;cases hj;exact hu
  have hS:=h2.iX;have hg:=h2.gl;have hnm:∀i p,rowAt rows i=some p→nmD rows i=p.1∧whD rows i=p.2.2.1∧ogD rows i=p.2.2.2:=by
   intro i p hp;simp[nmD,whD,ogD,hp]
  have hlt:∀i,p8 nm og name below i→i<rows.length:=fun i ⟨q,_⟩=>by
   rcases AT i rows.length with z|z
   ·exact z
   ·simp only[nm]at q;rw[if_neg (by omega)]at q;have:=congrArg List.length q;simp at this
  have hhit:∀i p,i<rows.length→rowAt rows i=some p→(p8 nm og name below i↔(p.1=name∧p.2.2.2<below)):=fun i p hi hp=>by
   obtain⟨k1,k2,k3⟩:=hnm i p hp;unfold p8;simp only[nm,og];rw[if_pos hi,if_pos hi,k1,k3]
  have D:=Zb (n:=6) (aS _) w (.slice a rows.length cap) rows.length vs below name nm wh og (Nx call rows l) u (by omega)
   (fun x v hv=>by
    rcases AT x rows.length with hi|hi
    ·obtain⟨j,hj,rfl⟩:=List.getElem_of_mem hv;have hj11:j<11:=by simpa[vs,hi]using hj
     obtain⟨rw',n,v',wh,x3,o,x5,x6,x7,x8,x9,xa,g1,g2,_⟩:=hwf' x hi;have hlen:rw'.length=11:=by rw[g2];rfl
     obtain⟨u,hu,_,hr⟩:=hcell x rw' g1 j rw'[j] (dO (by omega));have e1:=hvs x j u hi hj11 hu;rw[dO hj]at e1;cases e1;have hmem:rw'∈rows:=gO g1;unfold DJ at hwf;rw[iU]at hwf;have h5:=By.1 hwf rw' hmem;split at h5
     ·rename_i _ _ _ hsc;rw[iU]at hsc;exact xE (By.1 hsc _ (acA _)) hr
     ·cases h5
    ·have hi':¬x<rows.length:=by omega
     simp only[vs]at hv;rw[if_neg hi']at hv;simp[z,iv]at hv;rcases hv with rfl|rfl|rfl|rfl|rfl|rfl<;>rfl)
   hI
   (fun i=>by
    rcases AT i rows.length with hi|hi
    ·obtain⟨rw',n,v',wh',x3,o,x5,x6,x7,x8,x9,xa,g1,g2,g3⟩:=hwf' i hi;obtain⟨k1,k2,k3⟩:=hnm i _ g3;obtain⟨u0,c0,_,p0⟩:=hcell i rw' g1 0 (.str n) (by rw[g2];rfl);obtain⟨u2,c2,_,p2⟩:=hcell i rw' g1 2 (.str wh') (by rw[g2];rfl);obtain⟨u4,c4,_,p4⟩:=hcell i rw' g1 4 (.v (.int .u8 o)) (by rw[g2];rfl);rw[gN]at p0 p2;rw[dx]at p4;simp only[nm,wh,og];rw[if_pos hi,if_pos hi,if_pos hi];refine⟨?_, ?_, ?_⟩
     ·rw[hvs i 0 u0 hi (by omega) c0,p0.1,k1]
     ·rw[hvs i 2 u2 hi (by omega) c2,p2.1,k2]
     ·rw[hvs i 4 u4 hi (by omega) c4,p4,k3]
    ·have hi':¬i<rows.length:=by omega
     simp only[nm,wh,og,vs];rw[if_neg hi',if_neg hi',if_neg hi',if_neg hi'];exact⟨rfl,rfl,rfl⟩)
   (fun W hB=>by
    refine (zy hc (by kernel_rfl) hu (S:=S) (w:=w) (vs:=[iv name]) (by rw[dc,gN];exact⟨⟨rfl,hnl⟩,by simp⟩) hS hg W hB).mono ?_;rintro e W' ⟨v,ι',S',rfl,hb,hr⟩;rw[gN]at hr;exact⟨by rw[hr.1],hb⟩)
   (fun x hx=>by
    have hxl:=hlt x hx;obtain⟨rw',n,v',wh',x3,o,x5,x6,x7,x8,x9,xa,g1,g2,g3⟩:=hwf' x hxl;obtain⟨k1,k2,k3⟩:=hnm x _ g3;obtain⟨p,hp,hq⟩:=hA x hxl;rw[g3]at hp;cases hp;obtain⟨hx1,hx2⟩:=(hhit x _ hxl g3).1 hx;obtain⟨ro,e0⟩:=hq hx1 hx2;have ewh:wh x=wh':=by simp only[wh];rw[if_pos hxl,k2]
    rw[ewh];have eout:Nx call rows l x=(match (some ro:Option AV) with|some (.aF [.v (.int .i64 i),.str s])=>(.int .i64 i,iv s)|_=>(undef,undef)):=by
     unfold Nx;rw[g3];simp only[e0]
    rw[eout];cases wh' with
    | nil =>
      unfold yP at e0;dsimp only at e0;split at e0;rotate_left
      ·cases e0
      rename_i wd hwd;refine .inr ⟨rfl,wd,fun W v1 hB hv1=>?_, ?_⟩
      ·obtain⟨u1,c1,_,p1⟩:=hcell x rw' g1 1 v' (by rw[g2];rfl);rw[hvs x 1 u1 hxl (by omega) c1]at hv1;cases hv1;refine (zy hc (by kernel_rfl) hwd (S:=S) (w:=w) (vs:=[v1]) (by rw[dc];exact⟨p1,by simp⟩) hS hg W hB).mono ?_;rintro e W' ⟨v,ι',S',rfl,hb,hr⟩;rw[gN]at hr;exact⟨by rw[hr.1],hb⟩
      ·split at e0
       ·cases e0;exact .inl ⟨rfl,rfl⟩
       ·split at e0;rotate_left
        ·cases e0
        rename_i i s hwl hm;cases e0;refine .inr ⟨by simp,⟨_,_,rfl⟩,fun W hB=>?_⟩;have hwl:=nO hwl;refine (zy hc (by kernel_rfl) hm (S:=S) (w:=w) (vs:=[.slice a rows.length cap,.int .i64 (x:Int),iv _]) ?_ hS hg W hB).mono ?_
        ·rw[dc,dc,dc,dx,gN];exact⟨rl,rfl,⟨rfl,acx hwl (by unfold maxLen;omega)⟩,by simp⟩
        ·rintro e W' ⟨v,ι',S',rfl,hb,hr⟩;rw[ax]at hr;obtain⟨us,rfl,hus⟩:=hr
         match us,hus with
         | [],hus=>simp at hus
         | [_],hus=>simp at hus
         | _:: _:: _:: _,hus=>simp at hus
         | [u1,u2],hus =>
           simp only[dc,kF,dx,gN,and_true]at hus;obtain⟨rfl,rfl,_⟩:=hus;exact⟨rfl,hb⟩
    | cons c0 wt =>
      unfold yP at e0;dsimp only at e0;cases e0;exact .inl ⟨by simp,rfl⟩)
  refine ((callsIn_wide (n:=6)).1 D).mono ?_;rintro e W' ⟨⟨rv,rfl,hr⟩,hBw⟩;have hrv:rv=(.int .i64 ri,iv rs):=by
   rcases hr with⟨n1,rfl⟩|⟨x,hxl,hx,habove,rfl⟩
   ·rcases hB with⟨_,b2⟩|⟨x,p,b1,b2,b3,_,_⟩
    ·rw[hz]at b2;cases b2;rfl
    ·exact absurd ((hhit x p b1 b2).2 b3) (n1 x b1)
   ·rcases hB with⟨b1,_⟩|⟨y,p,b1,b2,b3,b4,b5⟩
    ·obtain⟨_,_,_,_,_,_,_,_,_,_,_,_,_,_,g3⟩:=hwf' x hxl;exact absurd ((hhit x _ hxl g3).1 hx) (b1 x hxl _ g3)
    ·have hxy:x=y:=by
      rcases Nat.lt_trichotomy x y with z|z|z
      ·exact absurd ((hhit y p b1 b2).2 b3) (habove y z b1)
      ·exact z
      ·obtain⟨_,_,_,_,_,_,_,_,_,_,_,_,_,_,g3⟩:=hwf' x hxl;exact absurd ((hhit x _ hxl g3).1 hx) (b4 x z hxl _ g3)
     subst hxy;unfold Nx;rw[b2];simp only[b5]
  subst hrv;have hE:cc 0 w.heap.size [] S w [] S W':=⟨fun _ _=>iI.refl _,fun _ _ q=>q,fun _ _ q=>.inl q,fun b o q=>hBw.cell (hS b o q),fun b x hx=>by
   unfold World.shape? at hx ⊢;have hb:b<w.heap.size:=by
    rcases AT b w.heap.size with k|k
    ·exact k
    ·rw[acX k]at hx;cases hx
   rw[hBw.block b hb];exact hx,hBw⟩
  refine⟨_,[],S,.aF [i_ ri,.str rs],[],rfl,hE.mono (aS _) h2.kG, ?_,h2.over hE (fun b o q=>UP (hS b o q) hBw.size),aS _,rfl⟩;rw[ax];refine⟨[.int .i64 ri,iv rs],rfl, ?_⟩;rw[dc,dc,dx,gN];exact⟨rfl,⟨rfl,acx hsl (by unfold maxLen;omega)⟩,by simp⟩
 exact C.call ⟨rfl,rfl⟩
def Fp(b:Bool):List UInt8:=if b then [105,110,104,101,114,105,116] else [105,110,105,116,105,97,108]
theorem My{s:aD}{b:Bool}{e:Int}(hs:lR s=.aF [b_ b,i_ e]):aP p_ 78 [.str s] (.str (Fp b)):=by
 refine (V78 _).gives (by simp) (by simp) ?_;unfold W78;have h:=po s;rw[hs]at h;refine zzS (by kernel_rfl) h (zzB rfl (zzB rfl ?_));cases b with
 | true=>exact zzL rfl (.pure (by simp) rfl)
 | false=>exact zzK rfl (.pure (by simp) rfl)
end
section
open Go Go.Aw Go.dz
variable{K:AV→Prop}{ns:List Int}{xs ys args args':List AV}{l:List Vl}{h H:aa}{es:List (Nat×AV×AV)}{rows:List (List AV)}{sh:aD}{P:Program}{x y:AV}{id k:Nat}{v:Vv}{KS:aa→Prop}{n:Int}{f:FuncId}
abbrev bw:AV:=.v (.slice none 0 0)
theorem Hq(q:K (i_ 0)):bu bw K:=q
theorem iT{id o:Nat}(q:K (.op id o)):gq P (.op id o) K:=q
theorem YP{a b:Nat}(ex:x=i_ a)(ey:y=i_ b)(h:a≤b)(q:K (i_ a)):mg x y K:=by
 subst ex;subst ey;refine⟨rfl, ?_⟩;rw[if_neg (by omega)];exact q
abbrev kB(id:Nat):dh:=.aC ⟨175,[.mp id],true⟩
theorem QQ:dY p_ 96 [.mp id] h fun v h' => v=.fn (.func 142) [] [.op h.length 0]∧h'=h++[kB id]:=by
 refine (V96 _).kb ?_;unfold W96;refine cI (cs:=[.mp id]) (n:=h.length) (h':=h++[kB id]) rfl rfl rfl rfl ?_;exact⟨_,_,Wk.refl _ _ _ (by simp),rfl,rfl⟩
theorem O0{id mid c:Nat}{r r':AV}(h1:h[id]?=some (kB mid))(h2:h[mid]?=some (.mp c es))(h3:BS c es=some r)(h4:tn r r'):
 Ex p_ 95 [.fn (.func 142) [] [.op id 0]] h r':=
 ⟨by kernel_rfl,UK (J6 h1 rfl h2 h3) h4⟩
def oZ(p:Rw):Vv:=⟨p.k,p.w,p.n,p.r,p.g,p.b,p.a⟩
def Jg:List Rw→Nat→Bool
 | [],_=>true
 | p:: l,i=>!db p.name&&decide (jN p.name=some i)&&((nm.getD i ([],false)).2 == p.FX)&&Jg l (i+1)
theorem aay:Jg jl 0=true:=by decide +kernel
theorem Lx:∀{l:List Rw} {i k:Nat} {p:Rw},Jg l i=true→l[k]?=some p→db p.name=false∧jN p.name=some (i+k)∧(nm.getD (i+k) ([],false)).2=p.FX
 | [],_,_,_,_,h=>by simp at h
 | q:: l,i,0,p,h,hp=>by
   simp only[List.getElem?_cons_zero,ON]at hp;subst hp;simp only[Jg,On,acM,OF,beq_iff_eq]at h;exact⟨h.1.1.1,h.1.1.2,h.1.2⟩
 | q:: l,i,k+1,p,h,hp=>by
   simp only[Jg,On]at h;have:=Lx (k:=k) h.2 (by simpa using hp)
   rwa [show i+1+k=i+(k+1) by omega]at this
theorem Ph{p:Rw}(hp:jl[k]?=some p):lR p.name=.aF [b_ p.FX,i_ 0]:=by
 obtain⟨h1,h2,h3⟩:=Lx aay hp;rw[acu]at h2 h3;unfold lR;rw[h1,h2];rw[←h3];rfl
abbrev wB(v:Vv):dh:=.aC ⟨37,bL v,true⟩
abbrev NQ:AV:=.agg [(u8 0),(.str []),(i_ 0),(u8 0),(u8 0),(u8 0),(u8 0)]
theorem iV(hb:h[id]?=some (wB v))(q:K (.agg (bL v))):ag true 7 (.op id 0) h K:=cY rfl hb (aS 7) q
theorem iz{h h':aa}{v w:Vv}(hb:h[id]?=some (wB v))(hh:h.set id (wB w)=h')(q:KS h'):aE 7 (.op id 0) (.agg (bL w)) h KS:=
 cf (cs:=bL w) rfl hb rfl rfl (by simp[bL]) rfl rfl (by rw[←hh];rfl) q
theorem oA{id i:Nat}{c:AV}(hb:h[id]?=some (wB v))(hc:(bL v)[i]?=some c)(q:K c):ag false 1 (.op id (0+i)) h K:=
 zzU hb (by rw[acu];exact hc) q
theorem sL(q:K (.sl 7 [bL v])):bH 1 7 NQ [(0,7,.agg (bL v))] K:=cN (cs:=bL v) rfl q
theorem zC[Laid]{r:AV}(e:xs++args++ys=args')(c:Ex P f args' h r)(k:K r):mI P (.fn (.func f) xs ys) args h K:=by
 subst e;exact⟨r,⟨c.1,c.2⟩,k⟩
theorem Uw[Laid]{r:AV}(e:xs++args++ys=args')(c:∀ext,Ex P f args' (h++ext) r)(k:K r):jO P (.fn (.func f) xs ys) args h K:=by
 subst e;exact⟨r,(c []).1,fun ext=>(c ext).2,k⟩
theorem Y5{em rem:Int}(h3:v.kind≠3)(h4:v.kind≠4):aP p_ 59 [.agg (bL v),i_ em,i_ rem] (.agg (bL v)):=by
 refine (XC _ _ _).gives (by simp[bf,Aw.Pure,eI]) (by rw[Aw.Pure];exact eI v) ?_;unfold TB;refine cI (n:=0) (h':=[wB v]) rfl rfl rfl rfl (cI (n:=1) (h':=[wB v,wB v0]) rfl rfl rfl rfl (ay (zzA (zzU rfl rfl (zzG (zzK (oN h3) (zzG (zzK (oN h4) (iV (v:=v) rfl (iz (v:=v0) (h':=[wB v,wB v]) rfl rfl (iV (v:=v) rfl ?_)))))))))));exact .pure (by rw[Aw.Pure];exact eI v) rfl
theorem ze{h':aa}{n:Nat}{e sz bytes k:Nat}{K:AV→aa→Prop}(ex:x=.v (.slice none 0 0))(hs:jo h sz y=some rows)(hr:rows.all (gh sz)=true)(hk:rows.length=k)(hm:dU bytes k)(hn:h.length=n)(hh:h++[.tok e sz k]=h')(q:K (.sb n sz rows) h'):eE false e sz bytes x y h K:=by
 subst ex;subst hn;subst hh;subst hk;unfold eE iJ;rw[hs];exact⟨hr,hm,q⟩
structure Vok(aq:List Vv):Prop where
 len:aq.length=18
 kd:∀v∈aq,v.kind≠3∧v.kind≠4
 HJ:∀v,aq[0]?=some v→v.kind=7
 opa:∀v,aq[15]?=some v→0≤v.num∧v.num≤1000
theorem vX{i:Nat}(hi:i<18):∃p,jl[i]?=some p:=⟨_,dO (by rw[mE];exact hi)⟩
section
variable {aq:List Vv} (o:Vok aq)
include o
end
abbrev dR(a b:AV):dh:=.aC ⟨26,[a,b],true⟩
theorem sQ(s:aD):aP p_ 83 [.str s] (.str (bO s)):=(V83 _).gives (by simp) (by simp) (Lz s)
abbrev xO:AV:=.agg [(u8 0),(u8 0),(u8 0),(u8 0)]
def fy(r g b a:Int):List AV:=[u1 r,u1 g,u1 b,u1 a]
abbrev fB(r g b a:Int):dh:=.aC ⟨35,fy r g b a,true⟩
theorem mP(r g b:Int):aP p_ 160 [u1 r,u1 g,u1 b] (.agg (fy r g b 255)):=by
 refine (aen _ _ _).gives (by simp) (by simp[Aw.Pure,bf,fy]) ?_;unfold Yh;refine cI (n:=0) (h':=[fB 0 0 0 0]) rfl rfl rfl rfl (bt (cs:=fy r g b 255) rfl (cf (id:=0) (cs:=fy r g b 255) (h':=[fB r g b 255]) rfl rfl rfl rfl (aS 4) rfl rfl rfl (zzV rfl (aS 4) ?_)));exact .pure (by simp[Aw.Pure,bf,fy]) rfl
theorem uS{e0:dh}{c:Nat}{f:aD→Option AV}{s:aD}{v:AV}(m:Mp c es f)(q:∀c' es',Mp c' es' (fun t=>if t=s then some v else f t)→KS [e0,.mp c' es']):jh .string (.mp 1) (.str s) v [e0,.mp c es] KS:=by
 obtain⟨c',es',u,m',_⟩:=m.Jw s v;exact zze rfl rfl u rfl (q c' es' m')
def vh:aD→Option (Int×Int×Int×Int):=fun t =>
 if t=[116,114,97,110,115,112,97,114,101,110,116] then some (0,0,0,0) else if t=[103,114,97,121] then some (128,128,128,255) else if t=[121,101,108,108,111,119] then some (255,255,0,255)
 else if t=[98,108,117,101] then some (0,0,255,255) else if t=[108,105,109,101] then some (0,255,0,255) else if t=[114,101,100] then some (255,0,0,255) else if t=[119,104,105,116,101] then some (255,255,255,255) else if t=[98,108,97,99,107] then some (0,0,0,255) else none
def kH(c:Int×Int×Int×Int):List AV:=fy c.1 c.2.1 c.2.2.1 c.2.2.2
theorem Oh(s:aD):aP p_ 119 [.str s] (.aF (match vh (bO s) with|some c=>[.agg (kH c),i_ 0]|none=>[xO,i_ 6])):=by
 refine (ad1 _).gives (by simp) (by split<;>simp[Aw.Pure,bf,kH,fy]) ?_;unfold XV;refine cI (n:=0) (h':=[fB 0 0 0 0]) rfl rfl rfl rfl (qa (n:=1) (h':=[fB 0 0 0 0,.mp 0 []]) rfl rfl ?_);have m0:=Mp.new;refine zzS (by kernel_rfl) (mP 0 0 0) (uS m0 fun c1 e1 m1=>?_);refine zzS (by kernel_rfl) (mP 255 255 255) (uS m1 fun c2 e2 m2=>?_);refine zzS (by kernel_rfl) (mP 255 0 0) (uS m2 fun c3 e3 m3=>?_);refine zzS (by kernel_rfl) (mP 0 255 0) (uS m3 fun c4 e4 m4=>?_);refine zzS (by kernel_rfl) (mP 0 0 255) (uS m4 fun c5 e5 m5=>?_);refine zzS (by kernel_rfl) (mP 255 255 0) (uS m5 fun c6 e6 m6=>?_);refine zzS (by kernel_rfl) (mP 128 128 128) (uS m6 fun c7 e7 m7=>?_);refine bt (cs:=fy 0 0 0 0) rfl (uS m7 fun c8 e8 m8=>?_);refine zzS (by kernel_rfl) (sQ s) ?_;have hf:=m8.look (bO s);have e:(fun t=>if t=[116,114,97,110,115,112,97,114,101,110,116] then some (AV.agg (fy 0 0 0 0)) else if t=[103,114,97,121] then some (AV.agg (fy 128 128 128 255)) else if t=[121,101,108,108,111,119] then some (AV.agg (fy 255 255 0 255)) else if t=[98,108,117,101] then some (AV.agg (fy 0 0 255 255)) else if t=[108,105,109,101] then some (AV.agg (fy 0 255 0 255)) else if t=[114,101,100] then some (AV.agg (fy 255 0 0 255)) else if t=[119,104,105,116,101] then some (AV.agg (fy 255 255 255 255)) else if t=[98,108,97,99,107] then some (AV.agg (fy 0 0 0 255)) else none:aD→Option AV) (bO s)=(vh (bO s)).map fun c=>.agg (kH c):=by
  unfold vh;dsimp only;repeat' split
  all_goals rfl
 have hf':mi (.str (bO s)) e8=some ((vh (bO s)).map fun c=>.agg (kH c)):=by rw[←e];exact hf
 refine rN (q0:=(vh (bO s)).map fun c=>.agg (kH c)) rfl rfl rfl hf' rfl ?_;have tail:∀(v:List AV) (b:Bool) (R:AV),v.length=4→v.all dH=true→bf v→R=(if b then .aF [.agg v,i_ 0] else .aF [xO,i_ 6])→br 35 xO [fB 0 0 0 0,.mp c8 e8] fun v33 g34=>aE 4 v33 (.agg v) g34 fun g35=>fe (b_ b) fun v36=>ae v36 (aY xO [] fun v37=>aE 4 (.op 0 0) v37 g35 fun g38=>ag true 4 (.op 0 0) g38 fun r39=>fg R (.aF [r39,i_ 6]) g38) (ag true 4 v33 g35 fun v40=>aE 4 (.op 0 0) v40 g35 fun g41=>ag true 4 (.op 0 0) g41 fun r42=>fg R (.aF [r42,i_ 0]) g41):=by
  intro v b R h4 hs hp eR
  match v,h4 with
  | [p,q,r,s],_ =>
    refine cI (n:=2) (h':=[fB 0 0 0 0,.mp c8 e8,fB 0 0 0 0]) rfl rfl rfl rfl (cf (id:=2) (cs:=[p,q,r,s]) (h':=[fB 0 0 0 0,.mp c8 e8,.aC ⟨35,[p,q,r,s],true⟩]) rfl rfl rfl rfl (aS 4) rfl hs rfl (zzO ?_));cases b with
    | true =>
      refine zzK rfl (zzV (id:=2) (b:=⟨35,[p,q,r,s],true⟩) rfl (aS 4) (cf (id:=0) (cs:=[p,q,r,s]) (h':=[.aC ⟨35,[p,q,r,s],true⟩,.mp c8 e8,.aC ⟨35,[p,q,r,s],true⟩]) rfl rfl rfl rfl (aS 4) rfl hs rfl (zzV (id:=0) (b:=⟨35,[p,q,r,s],true⟩) rfl (aS 4) ?_)));subst eR;exact .pure (by simpa[Aw.Pure,bf]using hp) rfl
    | false =>
      refine zzL rfl (bt (cs:=fy 0 0 0 0) rfl (cf (id:=0) (cs:=fy 0 0 0 0) (h':=[fB 0 0 0 0,.mp c8 e8,.aC ⟨35,[p,q,r,s],true⟩]) rfl rfl rfl rfl (aS 4) rfl rfl rfl (zzV (id:=0) (b:=⟨35,fy 0 0 0 0,true⟩) rfl (aS 4) ?_)));subst eR;exact .pure (by simp[Aw.Pure,bf,fy]) rfl
 cases hn:vh (bO s) with
 | some c =>
   refine zzB rfl (zzB rfl ?_);exact tail (kH c) true _ rfl rfl (by simp[bf,Aw.Pure,kH,fy]) rfl
 | none =>
   refine zzB rfl (zzB rfl ?_);exact tail (fy 0 0 0 0) false _ rfl rfl (by simp[bf,Aw.Pure,fy]) rfl
def uY(v:Vl):aD:=if v.kind=13 then [] else if v.kind=10 then [110] else if v.kind=18 then [44] else if v.kind=9∧v.text=[47] then [47] else [120]
def zi(v:Vl):List Int:=if v.kind=10 then [v.num] else []
def nH(l:List Vl):aD:=l.flatMap uY
def pU(l:List Vl):List Int:=l.flatMap zi
abbrev zw(s:aD):dh:=.aC ⟨9,[.str s],true⟩
abbrev yQ(x:AV):dh:=.aC ⟨259,[x],true⟩
def encI(l:List Int):List (List AV):=l.map fun n=>[i_ n]
structure pO(sh:aD)(ns:List Int)(H:aa):Prop where
 c:H[0]?=some (fB 0 0 0 0)
 s:H[1]?=some (zw sh)
 n:∃x,H[2]?=some (yQ x)∧((ns=[]∧x=.v (.slice none 0 0))∨(ns≠[]∧∃id,2<id∧x=.sb id 1 (encI ns)∧H[id]?=some (.tok 2 1 ns.length)))
theorem pO.len(r:pO sh ns H):3≤H.length:=by
 obtain⟨x,h,_⟩:=r.n;exact (gE.1 h).1
theorem pO.app(r:pO sh ns H)(t:aa):pO sh ns (H++t):=by
 have ap:∀{i:Nat} {e:dh},H[i]?=some e→(H++t)[i]?=some e:=fun h=>by rw[iD (gE.1 h).1];exact h
 obtain⟨x,h,q⟩:=r.n;refine⟨ap r.c,ap r.s,x,ap h, ?_⟩;rcases q with q|⟨q1,id,q2,q3,q4⟩
 ·exact .inl q
 ·exact .inr ⟨q1,id,q2,q3,ap q4⟩
theorem pO.str{sh sh':aD}(r:pO sh ns H):pO sh' ns (H.set 1 (zw sh')):=by
 have h3:=r.len;have ne:∀{i:Nat} {e:dh},i≠1→H[i]?=some e→(H.set 1 (zw sh'))[i]?=some e:=fun h1 h=>by rw[iS (Ne.symm h1)];exact h
 obtain⟨x,h,q⟩:=r.n;refine⟨ne (by omega) r.c,iN (by omega),x,ne (by omega) h, ?_⟩;rcases q with q|⟨q1,id,q2,q3,q4⟩
 ·exact .inl q
 ·exact .inr ⟨q1,id,q2,q3,ne (by omega) q4⟩
theorem pO.put(r:pO sh ns H)(hl:ns.length<2^30)(n:Int):∃x,H[2]?=some (yQ x)∧∀{KS:aa→Prop},(∀H',pO sh (ns++[n]) H'→H.length≤H'.length→KS H') →
 eE false 2 1 8 x (.sl 1 [[i_ n]]) H fun v32 g33=>aE 1 (.op 2 0) v32 g33 KS:=by
 have h3:=r.len;obtain⟨x,h,q0⟩:=r.n;refine⟨x,h,fun {KS} q=>?_⟩;rcases q0 with⟨rfl,rfl⟩|⟨q1,id,q2,rfl,q4⟩
 ·refine ze (n:=H.length) (k:=1) (rows:=[[i_ n]]) (h':=H++[dh.tok 2 1 1]) rfl fw rfl rfl (by unfold dU maxLen;omega) rfl rfl ?_;refine cf (id:=2) (cs:=[.sb H.length 1 [[i_ n]]]) (b:=⟨259,[.v (.slice none 0 0)],true⟩) (h':=(H++[dh.tok 2 1 1]).set 2 (yQ (.sb H.length 1 [[i_ n]]))) rfl (by rw[iD (by omega)];exact h) rfl rfl (aS 1) rfl rfl rfl ?_;have ne:∀{i:Nat} {e:dh},i≠2→i<H.length→H[i]?=some e→((H++[dh.tok 2 1 1]).set 2 (yQ (.sb H.length 1 [[i_ n]])))[i]?=some e:=fun h1 h2 h=>by rw[iS (Ne.symm h1),iD h2];exact h
  refine q _ ⟨ne (by omega) (by omega) r.c,ne (by omega) (by omega) r.s,_,iN (by simp;omega),.inr ⟨by simp,H.length,by omega,rfl, ?_⟩⟩ (by simp);rw[iS (by omega)];simp
 ·have hid:=(gE.1 q4).1;refine kP (id:=id) (k:=ns.length) (base:=encI ns) (rows:=[[i_ n]]) (h':=H.set id (dh.tok 2 1 (ns.length+1))) rfl q4 (by simp[encI]) fw rfl (by unfold dU maxLen;simp;omega) rfl ?_;refine cf (id:=2) (cs:=[.sb id 1 (encI ns++[[i_ n]])]) (b:=⟨259,[.sb id 1 (encI ns)],true⟩) (h':=(H.set id (dh.tok 2 1 (ns.length+1))).set 2 (yQ (.sb id 1 (encI ns++[[i_ n]])))) rfl (by rw[iS (by omega)];exact h) rfl rfl (aS 1) rfl rfl rfl ?_;have ne:∀{i:Nat} {e:dh},i≠2→i≠id→H[i]?=some e→((H.set id (dh.tok 2 1 (ns.length+1))).set 2 (yQ (.sb id 1 (encI ns++[[i_ n]]))))[i]?=some e:=fun h1 h2 h=>by rw[iS (Ne.symm h1),iS (Ne.symm h2)];exact h
  refine q _ ⟨ne (by omega) (by omega) r.c,ne (by omega) (by omega) r.s,_,iN (by simp;omega),.inr ⟨by simp,id,q2,by simp[encI], ?_⟩⟩ (by simp);rw[iS (by omega),iN hid];simp
abbrev sK(v:Vl):dh:=.aC ⟨98,pE v,true⟩
theorem QR(r:pO sh ns H)(hs:sh.length<2^40)(hl:ns.length<2^30)(v:Vl):
 dY p_ 162 [.agg (pE v),.op 1 0,.op 2 0] H fun x h' => x=.aF []∧pO (sh++uY v) (ns++zi v) h'∧H.length≤h'.length:=by
 refine (aep _ _ _).kb ?_;unfold Yj;refine cI (cs:=pE v) (n:=H.length) (h':=H++[sK v]) rfl (by simp[pE,dH]) rfl rfl ?_;have hr:=r.app [sK v];have tk:∀(i:Nat) (c:AV) {K:AV→Prop},(pE v)[i]?=some c→K c→ag false 1 (.op H.length (0+i)) (H++[sK v]) K:=fun i c K h1 q=>aR rfl (b:=⟨98,pE v,true⟩) (by simp) (by rw[acu];exact h1) q;have add:∀(c:UInt8) {K:aa→Prop},(∀H',pO (sh++[c]) ns H'→H.length≤H'.length→H'[H.length]?=some (sK v)→K H')→ag false 1 (.op 1 0) (H++[sK v]) fun v9=>ab .add v9 (.str [c]) fun v10=>aE 1 (.op 1 0) v10 (H++[sK v]) K:=fun c K q=>by
  refine zzU hr.s rfl (zzc (by unfold maxLen;simp;omega) (cf (id:=1) (cs:=[.str (sh++[c])]) (b:=⟨9,[.str sh],true⟩) (h':=(H++[sK v]).set 1 (zw (sh++[c]))) rfl hr.s rfl rfl (aS 1) rfl rfl rfl ?_));exact q _ hr.str (by simp) (by rw[iS (by have:=r.len;omega)];simp)
 have fin:∀{sh':aD} {ns':List Int} {H':aa},sh'=sh++uY v→ns'=ns++zi v→pO sh' ns' H'→H.length≤H'.length→∃r' h'',Wk H.length [.aF []] H' [r'] h''∧r'=.aF []∧pO (sh++uY v) (ns++zi v) h''∧H.length≤h''.length:=fun e1 e2 hR hL=>by
  subst e1;subst e2;exact⟨_,_,Wk.refl _ _ _ hL,rfl,hR,hL⟩
 refine zzA (tk 0 (u1 v.kind) rfl (zzG ?_))
 by_cases h13:v.kind=13
 ·refine zzL (tO h13) ?_;exact fin (by unfold uY;rw[if_pos h13,aa1]) (by unfold zi;rw[if_neg (by omega),aa1]) hr (by simp)
 refine zzK (oN h13) (zzA (tk 0 (u1 v.kind) rfl (zzG ?_)))
 by_cases h10:v.kind=10
 ·refine zzL (tO h10) ?_;refine add 110 fun H1 r1 l1 b1=>?_;obtain⟨x,hx,q⟩:=r1.put hl v.num;refine zzU hx rfl (zzA (zzU (c:=i_ v.num) b1 (by simp[pE]) (cN (cs:=[i_ v.num]) rfl ?_)));refine q fun H2 r2 l2=>?_;exact fin (by unfold uY;rw[if_neg h13,if_pos h10]) (by unfold zi;rw[if_pos h10]) r2 (by omega)
 refine zzK (oN h10) ?_;have en:ns=ns++zi v:=by unfold zi;rw[if_neg h10,aa1]
 refine zzA (tk 0 (u1 v.kind) rfl (zzG ?_))
 by_cases h18:v.kind=18
 ·refine zzL (tO h18) ?_;refine add 44 fun H1 r1 l1 _=>?_;exact fin (by unfold uY;rw[if_neg h13,if_neg h10,if_pos h18]) en r1 l1
 refine zzK (oN h18) (zzA (tk 0 (u1 v.kind) rfl (zzG (ay ?_))))
 by_cases h9:v.kind=9
 ·refine zzN (tO h9) (zzA (tk 1 (.str v.text) rfl (zzI (af (zzR ?_)))))
  by_cases ht:v.text=[47]
  ·refine zzL (tO ht) ?_;refine add 47 fun H1 r1 l1 _=>?_;exact fin (by unfold uY;rw[if_neg h13,if_neg h10,if_neg h18,if_pos ⟨h9,ht⟩]) en r1 l1
  ·refine zzK (oN ht) ?_;refine add 120 fun H1 r1 l1 _=>?_;exact fin (by unfold uY;rw[if_neg h13,if_neg h10,if_neg h18,if_neg fun h=>ht h.2]) en r1 l1
 ·refine zzM (oN h9) (af (zzQ (zzK rfl ?_)));refine add 120 fun H1 r1 l1 _=>?_;exact fin (by unfold uY;rw[if_neg h13,if_neg h10,if_neg h18,if_neg fun h=>h9 h.1]) en r1 l1
theorem NY{α:Type}{m id:Nat}{x i:AV}{l:List α}{f:α→List AV}{n:Nat}{a:α}(e:x=.sb id m rows)(hr:rows=l.map f)(ei:i=i_ n)(ha:l[n]?=some a)(q:K (.ip (f a))):aG m x i K:=by
 subst e;exact dm (x:=.sl m rows) rfl hr ei ha q
def jL(n:Int):Int:=max 0 (min 255 (n.tdiv 1000))
def tv(n:Int):Int:=(max 0 (min 1000 n)*255).tdiv 1000
theorem Fk(h:aN n):aN (n.tdiv 1000):=by
 unfold aN at *;rcases Int.le_total 0 n with p|p
 ·rw[Int.tdiv_eq_ediv_of_nonneg p];omega
 ·obtain⟨m,rfl⟩:∃m,n=-m:=⟨-n,by omega⟩;rw[Int.neg_tdiv,Int.tdiv_eq_ediv_of_nonneg (by omega)];omega
theorem Jy{a b c:Int}(ex:x=i_ a)(ey:y=i_ b)(hc:a*b=c)(i:aN c)(q:K (i_ c)):ab .mul x y K:=by subst ex;subst ey;subst hc;simpa using⟨i,q⟩
theorem D7{k':IntKind}{x:AV}(e:x=.v (.int k' n))(h0:0≤n)(h1:n≤255)(q:K (u1 n)):gZ .u8 x K:=by
 refine⟨k',n,e, ?_⟩;rw[show IntKind.u8.wrap n=n by simp[IntKind.wrap,IntKind.bits,IntKind.signed];omega];exact q
theorem Es(r:pO sh ns H){i:Nat}(hx:ns[i]?=some n)(hn:aN n):Ex p_ 163 [i_ i,.op 2 0] H (u1 (jL n)):=by
 refine (aeq _ _).ex fun hb=>?_;unfold Yk;obtain⟨x,h,q0⟩:=r.n;rcases q0 with⟨rfl,_⟩|⟨q1,id,q2,rfl,q4⟩
 ·simp at hx
 refine zzU h rfl (NY (f:=fun n=>[i_ n]) (l:=ns) rfl rfl rfl hx (zzW (B7 rfl rfl (by omega) (IntWalk.i64_in _ (Fk hn)) (zzi (zzh (D7 (n:=jL n) rfl (by unfold jL;omega) (by unfold jL;omega) ?_))))));exact lB hb (by simp[Bd]) (by simp)
theorem aaV{v:Vl}(h:l[k]?=some v):nH (l.take (k+1))=nH (l.take k)++uY v:=by
 unfold nH;rw[Gt,h];simp
theorem aaf{v:Vl}(h:l[k]?=some v):pU (l.take (k+1))=pU (l.take k)++zi v:=by
 unfold pU;rw[Gt,h];simp
theorem E2:∀l:List Vl,(pU l).length=(nH l).count 110
 | []=>rfl
 | v:: l=>by
   have ih:=E2 l;unfold pU nH at ih ⊢;rw[List.flatMap_cons,List.flatMap_cons,DO,List.count_append,ih]
   congr 1
   unfold zi uY
   by_cases h13:v.kind=13
   ·rw[if_pos h13,if_neg (by omega)];rfl
   ·by_cases h10:v.kind=10
    ·rw[if_pos h10,if_neg h13,if_pos h10];rfl
    ·rw[if_neg h10,if_neg h13,if_neg h10];split
     ·rfl
     ·split<;>rfl
theorem Ff:∀l:List Vl,(nH l).length≤l.length
 | []=>aS _
 | v:: l=>by
   have ih:=Ff l;unfold nH at ih ⊢;rw[List.flatMap_cons,DO,aah];have:(uY v).length≤1:=by unfold uY;split<;>(try split)<;>(try split)<;>(try split)<;>simp
   omega
theorem Wr(l:List Vl):(pU l).length≤l.length:=by
 have h1:=Ff l;have h2:(nH l).count 110≤(nH l).length:=List.count_le_length;rw[E2];omega
def sG(l:List Vl):Option (Int×Int×Int×Int):=
 if nH l=[110,110,110]∨nH l=[110,44,110,44,110] then some (jL ((pU l).getD 0 0),jL ((pU l).getD 1 0),jL ((pU l).getD 2 0),tv 1000)
 else if nH l=[110,110,110,47,110]∨nH l=[110,44,110,44,110,44,110] then some (jL ((pU l).getD 0 0),jL ((pU l).getD 1 0),jL ((pU l).getD 2 0),tv ((pU l).getD 3 0))
 else none
def rB(c:Option (Int×Int×Int×Int)):AV:=.aF (match c with|some c=>[.agg (kH c),tt]|none=>[xO,ff])
theorem oq(c:Option (Int×Int×Int×Int)):Aw.Pure (rB c):=by unfold rB;cases c<;>simp[Aw.Pure,bf,kH,fy]
theorem ZV(h:∀v∈l,aN v.num):∀n∈pU l,aN n:=by
 intro n hn;unfold pU at hn;obtain⟨v,hv,hm⟩:=List.mem_flatMap.1 hn;unfold zi at hm;split at hm
 ·rw[Up.1 hm];exact h v hv
 ·cases hm
theorem UY(hl:l.length<2^30)(hn:∀v∈l,aN v.num):aP p_ 121 [.sl 6 (ar l)] (rB (sG l)):=by
 refine (ad3 _).gives (by simp[dd]) (oq _) ?_;unfold XX;refine cI (n:=0) (h':=[fB 0 0 0 0]) rfl rfl rfl rfl (cI (n:=1) (h':=[fB 0 0 0 0,zw []]) rfl rfl rfl rfl (cf (id:=1) (cs:=[.str []]) (h':=[fB 0 0 0 0,zw []]) rfl rfl rfl rfl (aS 1) rfl rfl rfl (cI (n:=2) (h':=[fB 0 0 0 0,zw [],yQ (.v (.slice none 0 0))]) rfl rfl rfl rfl ?_)));refine zzk (n:=l.length) (by simp[aJ]) fun _=>?_;refine aU (α:=Nat×aa) (fun x=>x.1≤l.length∧pO (nH (l.take x.1)) (pU (l.take x.1)) x.2) (fun x=>[i_ x.1]) (fun x=>x.2) (fun x=>l.length-x.1) (0,[fB 0 0 0 0,zw [],yQ (.v (.slice none 0 0))]) ⟨acr _,⟨rfl,rfl,_,rfl,.inl ⟨rfl,rfl⟩⟩⟩ (Wk.refl _ _ _ (aS _)) ?_;rintro⟨k,G⟩ ⟨hk,r⟩;dsimp only at hk r ⊢;refine zzC ?_;rcases AT k l.length with q|q
 ·obtain⟨v,hx⟩:∃x,l[k]?=some x:=⟨l[k],dO q⟩;have b1:=Ff (l.take k);have b2:=Wr (l.take k);rw[aaW]at b1 b2;refine zzL (by simpa using q) (zzg (f:=cQ) (aJ l) rfl hx (zzY (by simp[cK]) (vz (zzA (B8 (rI (by kernel_rfl) rfl (QR (r.app [vB v]) (by omega) (by omega) v) ?_))))));rintro x G' ⟨rfl,r',_⟩;refine zzP (by unfold aN;omega) (af ?_);exact⟨(k+1,G'),⟨q,by rw[aaV hx,aaf hx];exact r'⟩,Wk.refl _ _ _ r'.len,by dsimp only;omega⟩
 ·obtain rfl:k=l.length:=by omega
  rw[GO]at r;refine zzK (by simp) ?_;have hin:=ZV hn;have hcnt:=E2 l;have last:∀{sh:aD} {a b c d:Int} {G:aa},pO sh [a,b,c,d] G→aN a→aN b→aN c→aN d→sG l=some (jL a,jL b,jL c,tv d)→mI p_ (.fn (.func 163) [] [.op 2 0]) [i_ 0] G fun v45=>mI p_ (.fn (.func 163) [] [.op 2 0]) [i_ 1] G fun v46=>mI p_ (.fn (.func 163) [] [.op 2 0]) [i_ 2] G fun v47=>ag false 1 (.op 2 0) G fun v48=>aG 1 v48 (i_ 3) fun v49=>ag false 1 v49 G fun v50=>mg (i_ 1000) v50 fun v51=>iY (i_ 0) v51 fun v52=>ab .mul v52 (i_ 255) fun v53=>ab .quo v53 (i_ 1000) fun v54=>gZ .u8 v54 fun v55=>aY xO [(0,1,v45),(1,1,v46),(2,1,v47),(3,1,v55)] fun v56=>aE 4 (.op 0 0) v56 G fun g57=>ag true 4 (.op 0 0) g57 fun r58=>fg (rB (sG l)) (.aF [r58,tt]) g57:=by
   intro sh a b c d G r ha hb hc hd e;obtain⟨x,h,q0⟩:=r.n;rcases q0 with⟨q0,_⟩|⟨_,id,q2,rfl,q4⟩
   ·cases q0
   refine zC rfl (Es r (i:=0) rfl ha) (zC rfl (Es r (i:=1) rfl hb) (zC rfl (Es r (i:=2) rfl hc) (zzU h rfl (NY (f:=fun n=>[i_ n]) (l:=[a,b,c,d]) (n:=3) rfl rfl rfl rfl (zzW (zzi (zzh (Jy (c:=max 0 (min 1000 d)*255) rfl rfl rfl (by unfold aN;omega) ?_))))))));have b0:0≤max 0 (min 1000 d)*255:=by omega
   have e1:(max 0 (min 1000 d)*255).tdiv 1000=max 0 (min 1000 d)*255/1000:=Int.tdiv_eq_ediv_of_nonneg b0;refine B7 (c:=tv d) rfl rfl (by omega) (by unfold tv;rw[e1];exact IntWalk.i64_in _ ⟨by omega,by omega⟩) (D7 (n:=tv d) rfl (by unfold tv;rw[e1];omega) (by unfold tv;rw[e1];omega) (bt (cs:=fy (jL a) (jL b) (jL c) (tv d)) rfl (cf (id:=0) (cs:=fy (jL a) (jL b) (jL c) (tv d)) rfl r.c rfl rfl (aS 4) rfl rfl rfl ?_)));refine zzV (id:=0) (b:=⟨35,fy (jL a) (jL b) (jL c) (tv d),true⟩) (iN (by have:=r.len;omega)) (aS 4) ?_;rw[e];exact .pure (oq (some (jL a,jL b,jL c,tv d))) rfl
  refine gF (fun s G=>s=[]∧∃sh a b c d,pO sh [a,b,c,d] G∧aN a∧aN b∧aN c∧aN d∧sG l=some (jL a,jL b,jL c,tv d)) ?_ fun F hF=>?_
  ·rintro _ G2 ⟨rfl,sh,a,b,c,d,r,ha,hb,hc,hd,e⟩;exact last r ha hb hc hd e
  refine zzU r.s rfl ?_
  by_cases s3:nH l=[110,110,110]∨nH l=[110,44,110,44,110]
  ·have h3:(pU l).length=3:=by rw[hcnt];rcases s3 with e|e<;>rw[e]<;>rfl
   match hns:pU l,h3 with
   | [a,b,c],_ =>
     rw[hns]at r hin;have e:sG l=some (jL a,jL b,jL c,tv 1000):=by unfold sG;rw[if_pos s3,hns];rfl
     refine jx [tt] G ?_ fun F2 hF2=>?_
     ·refine zzL rfl ?_;obtain⟨x,hx,q2⟩:=r.put (by simp) 1000;refine zzU hx rfl (cN (cs:=[i_ 1000]) rfl ?_);refine q2 fun H2 r2 l2=>?_;refine af ?_;exact hF _ _ ⟨rfl,_,a,b,c,1000,r2,hin a (by simp),hin b (by simp),hin c (by simp),by unfold aN;omega,e⟩
     ·refine zzI ?_
      by_cases e1:nH l=[110,110,110]
      ·refine zzL (tO e1) (af ?_);exact hF2
      ·refine zzK (oN e1) (zzI ?_);rw[tO (s3.resolve_left e1)];refine af ?_;exact hF2
  ·have n1:nH l≠[110,110,110]:=fun e=>s3 (.inl e);have n2:nH l≠[110,44,110,44,110]:=fun e=>s3 (.inr e);refine jx [ff] G ?_ fun F2 hF2=>?_;rotate_left
   ·refine zzI (zzK (oN n1) (zzI ?_));rw[oN n2];refine af ?_;exact hF2
   refine zzK rfl ?_
   by_cases s4:nH l=[110,110,110,47,110]∨nH l=[110,44,110,44,110,44,110]
   ·have h4:(pU l).length=4:=by rw[hcnt];rcases s4 with e|e<;>rw[e]<;>rfl
    match hns:pU l,h4 with
    | [a,b,c,d],_ =>
      rw[hns]at r hin;have e:sG l=some (jL a,jL b,jL c,tv d):=by unfold sG;rw[if_neg s3,if_pos s4,hns];rfl
      refine jx [tt] G ?_ fun F2 hF2=>?_
      ·refine zzL rfl (af ?_);exact hF _ _ ⟨rfl,_,a,b,c,d,r,hin a (by simp),hin b (by simp),hin c (by simp),hin d (by simp),e⟩
      ·refine zzI ?_
       by_cases e1:nH l=[110,110,110,47,110]
       ·refine zzL (tO e1) (af ?_);exact hF2
       ·refine zzK (oN e1) (zzI ?_);rw[tO (s4.resolve_left e1)];refine af ?_;exact hF2
   ·have n3:nH l≠[110,110,110,47,110]:=fun e=>s4 (.inl e);have n4:nH l≠[110,44,110,44,110,44,110]:=fun e=>s4 (.inr e);have e:sG l=none:=by unfold sG;rw[if_neg s3,if_neg s4]
    refine jx [ff] G ?_ fun F2 hF2=>?_;rotate_left
    ·refine zzI (zzK (oN n3) (zzI ?_));rw[oN n4];refine af ?_;exact hF2
    refine zzK rfl (bt (cs:=fy 0 0 0 0) rfl (cf (id:=0) (cs:=fy 0 0 0 0) rfl r.c rfl rfl (aS 4) rfl rfl rfl ?_));refine zzV (id:=0) (b:=⟨35,fy 0 0 0 0,true⟩) (iN (by have:=r.len;omega)) (aS 4) ?_;rw[e];exact .pure (oq none) rfl
end
end Go.Proofs.YtldpambpnajgiaaGreatDoor
end
