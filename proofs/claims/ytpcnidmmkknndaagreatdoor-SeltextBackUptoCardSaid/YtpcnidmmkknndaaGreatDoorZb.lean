/-
 'append' and what else makes or grows a slice: the model's operations meet their words.
 No conditions.
-/
import Derived.Deep.AppendSrc
import Derived.Deep.Upon
import Derived.Test.YtpcnidmmkknndaaGreatDoorZa
set_option linter.unusedVariables false
set_option linter.unusedSimpArgs false
set_option linter.unusedSectionVars false
set_option linter.defProp false
set_option autoImplicit true
set_option maxRecDepth 1000000
set_option maxHeartbeats 16000000
noncomputable section
namespace Go.Aw
section
open Go Go.RowKit
variable [Laid]
def cN.kill{base:Nat}(hh:cN base ι S w h)(id:Nat):cN base ι S w (h.set id .dead):=by
 have dead:∀{x},(h.set id .dead)[id]?=some x→x=.dead:=by
  intro x e
  by_cases hl:id<h.length
  ·rw[iD hl]at e;exact (DO e).symm
  ·rw[iS (by simpa using hl)]at e;cases e
 refine hh.wo (bU.refl _ _ _ _ _) (by simp[hh.len]) id (fun i hi _=>⟨iF (Ne.symm hi),rfl,fun _ _ _=>⟨rfl,fun _ q=>q⟩⟩) (fun x e=>?_) (fun e sz n q=>?_) (fun en q=>by rw[dead q];trivial) (fun j b _ aT _ _ _=>?_) hh.iY hh.kC
 ·cases dead e
 ·cases dead q
 ·cases e:(h.set id .dead)[id]? with
  | none=>rw[e]at aT;exact aT.elim
  | some x=>rw[e,dead e]at aT;exact aT.elim
omit [Laid] in
def bU.grow{base:Nat}(k:List Ix):bU ι.length base ι S w (ι++k) S w:=
 ⟨fun i hi=>fW.of_eq (gO hi),fun _ _ h=>h,fun _ _ h=>.inl h,fun _ _ _=>rfl,fun _ _ h=>h,Below.refl _ _⟩
def cN.drew{base:Nat}(hh:cN base ι S w h):bU ι.length base ι S w ι S w.drew∧cN base ι S w.drew h:=by
 have hE:bU ι.length base ι S w ι S w.drew:=⟨fun _ _=>fW.refl _,fun _ _ h=>h,fun _ _ h=>.inl h,fun _ _ _=>rfl,fun _ _ h=>h,(Below.refl base w).drew⟩;exact⟨hE,hh.wo hE hh.len h.length (fun i _ _=>⟨rfl,rfl,fun _ _ _=>⟨rfl,fun _ q=>q⟩⟩) (fun x e=>by simp at e) (fun _ _ _ e=>by simp at e) (fun _ e=>by simp at e) (fun j b _ aT=>by simp[alive]at aT) hh.iY hh.kC⟩
omit [Laid] in
def pD(h:sJ P e=true):∃i z,P.info? e=some i∧i.zero=some z∧z.cells.size=i.size∧P.cellsOf e=i.size∧jV P e=i.bytes:=by
 unfold sJ at h;split at h
 ·rename_i i hi;split at h
  ·rename_i z hz;exact⟨i,z,hi,hz,by simpa using h,by simp[Program.cellsOf,hi],by simp[jV,hi]⟩
  ·cases h
 ·cases h
omit [Laid] in
theorem cr.flat{sz:Nat}:∀{rows:List (List AV)} {b off:Nat},cr ι S w sz rows b off→rows.flatten.length=rows.length*sz∧bD ι S w rows.flatten b off
 | [],b,off,_=>by simp[bD]
 | r:: rs,b,off,h=>by
   rw[cr]at h;obtain⟨h1,h2,h3⟩:=h;obtain⟨k1,k2⟩:=cr.flat h3;refine⟨by simp[h1,k1,acr,Nat.add_comm],bD.mk fun i c e=>?_⟩;rw[aco]at e;rcases uP i r.length with q|q
   ·rw[gO q]at e;exact h2.get i c e
   ·rw[gT q]at e;have:=k2.get _ c e;rw[show off+sz+(i-r.length)=off+i by omega]at this;exact this
omit [Laid] in
theorem CZ:∀{cs:List AV} {vs:List Value},aE ι S w cs vs→cs.all bT=true→∀u∈vs,u.oneCell'=true
 | [],vs,h,_,u,hu=>by simp at h;subst h;cases hu
 | c:: cs,[],h,_,u,hu=>by simp at h
 | c:: cs,v:: vs,h,hs,u,hu=>by
   simp at h hs;simp only[ID]at hu;rcases hu with rfl|hu
   ·exact zz hs.1 h.1
   ·exact CZ h.2 (by simpa using hs.2) u hu
omit [Laid] in
def bD.FT{arr:Array Value}{fz:Nat×Nat}(h:w.heap[b]?=some (.cells arr t fz)){cs:List AV}{vs:List Value}(r:aE ι S w cs vs){off:Nat}
 (ha:∀i v,vs[i]?=some v→arr[off+i]?=some v) (hs:∀i,i<vs.length→S b (off+i)):bD ι S w cs b off:=
 bD.mk fun i c e=>by
  obtain⟨v,e1,e2⟩:=r.get i c e;exact⟨v,by rw[fZ h];exact ha i v e1,hs i (eQ.1 e1).1,e2⟩
def Gi{base:Nat}(hh:cN base ι S w h){t tx ty e:TypeId}(ht:P.underlying t=some (.slice e))(hz:sJ P e=true)
 {v:Value} {rows:List (List AV)} {news:List Value} (hs:Src P (P.cellsOf e) tx v rows.length news w) (hn:aE ι S w rows.flatten news) (hrl:∀r∈rows,r.length=P.cellsOf e)
 {a:Option Addr} {cap:Nat} {bse:List (List AV)} {olds:List Value} (hbl:∀r∈bse,r.length=P.cellsOf e) (hlt:cap<bse.length+rows.length) (ho:aE ι S w bse.flatten olds)
 (hrd:(Builtin.firstCells (P.cellsOf e) bse.length (.slice a bse.length cap)).run P w.drew=.ok olds.toArray w.drew) (hm:bse.length+rows.length≤maxLen) (hby:(bse.length+rows.length)*jV P e≤140737488355328) :
 ∃u' w' arr S',(Builtin.append_ #[t,tx] ty #[.slice a bse.length cap,v]).run P w=.ok u' w'∧w'.heap=w.heap.push (.cells arr e)∧bU ι.length base ι S w ι S' w' ∧
  (∃cap',u'=.slice (some ⟨w.heap.size,0,none⟩) (bse.length+rows.length) cap'∧bse.length+rows.length≤cap'∧cap'≤maxLen∧cap'*P.cellsOf e≤arr.size) ∧
  (∀b o,S' b o↔S b o∨(b=w.heap.size∧o<(bse.length+rows.length)*P.cellsOf e))∧cr ι S' w' (P.cellsOf e) (bse++rows) w.heap.size 0:=by
 obtain⟨i,z,hi,hzz,hzs,hce,hbe⟩:=pD hz;rw[hbe]at hby;rw[hce]at hs hrl hbl hrd ⊢;have hnl:=hs.newsLen;have hol:olds.length=bse.length*i.size:=by rw[←ho.length,kp hbl]
 have hrun:=run_append_grow_src (P:=P) w t tx ty e i z ht hi hzz a bse.length cap olds hrd v rows.length news hs hlt (by simp only[maxLen]at hm;omega) (growslice_fits hlt hby);have hge:=grownCap_ge w (bse.length+rows.length) cap e;have hcm:=grownCap_le_maxLen w (bse.length+rows.length) cap e hm;generalize hZ:Builtin.zeroCells z.cells (grownCap w (bse.length+rows.length) cap e-(bse.length+rows.length))=Z at hrun;have hZs:Z.size=(grownCap w (bse.length+rows.length) cap e-(bse.length+rows.length))*i.size:=by rw[←hZ,size_zeroCells,hzs]
 let S':aZ:=fun b o=>S b o∨(b=w.heap.size∧o<(bse.length+rows.length)*i.size)
 obtain⟨hE1,hH1⟩:=hh.drew;have hE2:bU ι.length base ι S w ι S' (w.drew.alloc (.cells ((olds++news).toArray++Z) e)):=
  ⟨fun _ _=>fW.refl _,fun _ _ q=>.inl q,fun b o q=>q.elim .inl fun q=>.inr (by rw[q.1];exact hh.kC),fun b o q=>World.cell?_of_block (w:=w) (Below.heap_alloc w.drew _ b (hh.iY b o q)),
   fun b x q=>yV (w:=w.drew) _ q,((Below.refl base w).drew).alloc hh.kC _⟩
 have hnew:(w.drew.alloc (.cells ((olds++news).toArray++Z) e)).heap[w.heap.size]?=some (.cells ((olds++news).toArray++Z) e):=by
  show (w.heap.push _)[w.heap.size]?=_;simp
 refine⟨_,_,(olds++news).toArray++Z,S',hrun,rfl,hE2,⟨_,rfl,hge,hcm, ?_⟩,fun _ _=>Iff.rfl, ?_⟩
 ·rw[Array.size_append,hZs,List.size_toArray,AT,hol,hnl,←acr,←acr];exact Nat.mul_le_mul_right _ (by omega)
 ·refine cr.of_flat (fun r hr=>?_) ?_
  ·rcases Is.1 hr with q|q
   ·exact hbl r q
   ·exact hrl r q
  ·rw[List.flatten_append];have r1:=(aE.fU hE2 (bY _) _ _ ho).append (aE.fU hE2 (bY _) _ _ hn);refine bD.FT hnew r1 (fun j v q=>?_) (fun j hj=>?_)
   ·rw[ab0,Array.getElem?_append_left (by simpa using (eQ.1 q).1)];simpa using q
   ·right;refine⟨rfl, ?_⟩;rw[AT,hol,hnl,←acr]at hj;omega
omit [Laid] in
theorem tp{P:Program}{sz:Nat}{rows:List (List AV)}{cap:Nat}(h:rows=[]∨∃b off,a=some ⟨b,off,none⟩∧cr ι S w sz rows b off):
 ∃olds,aE ι S w rows.flatten olds∧(Builtin.firstCells sz rows.length (.slice a rows.length cap)).run P w.drew=.ok olds.toArray w.drew:=by
 rcases h with rfl|⟨b,off,rfl,rr⟩
 ·refine⟨[],by simp, ?_⟩;cases a with
  | none=>exact run_firstCells_none w.drew sz 0 0 cap
  | some a=>exact run_firstCells_some w.drew sz 0 a 0 cap [] (by simp) (by simp)
 ·obtain⟨k1,k2⟩:=rr.flat;obtain⟨vs,rv,hc⟩:=k2.sH;refine⟨vs,rv,run_firstCells_some w.drew sz rows.length _ rows.length cap _ (by rw[←rv.length,k1]) fun j v q=>?_⟩;rw[addr_add];exact hc j v q
section
variable {P:Program} {o:Oper} {base:Nat} {ι:List Ix} {S:aZ} {a:Act} {w:World} {st:St} {K:AV→aa→Prop}
omit [Laid] in
def GF{w:World}{n cap b c:Nat}(h:CN (.slice (some ⟨c,0,none⟩) n cap) b):b=c:=by
 obtain⟨a,l,cap',e,h1,h2⟩:=h;cases e;exact h1.symm
omit [Laid] in
theorem lH:∀(vs:List Value) (w:World) (b o c:Nat),c≠b→(w.setCells b o vs).heap[c]?=w.heap[c]?
 | [],w,b,o,c,_=>rfl
 | v:: vs,w,b,o,c,h=>by
   rw[World.setCells,lH vs _ b (o+1) c h];exact Below.heap_setCell w ⟨b,o,none⟩ v c h
omit [Laid] in
theorem setCells_at:∀(vs:List Value) (w:World) (b o:Nat) {arr:Array Value} {t:TypeId} {fz:Nat×Nat},w.heap[b]?=some (.cells arr t fz)→o+vs.length≤arr.size →
 ∃arr',(w.setCells b o vs).heap[b]?=some (.cells arr' t fz)∧arr'.size=arr.size∧(∀i v,vs[i]?=some v→arr'[o+i]?=some v)∧∀i,(i<o∨o+vs.length≤i)→arr'[i]?=arr[i]?
 | [],w,b,o,arr,t,fz,h,_=>⟨arr,h,rfl,by simp,fun _ _=>rfl⟩
 | v:: vs,w,b,o,arr,t,fz,h,hl=>by
   simp only[abL]at hl;obtain⟨arr',k1,k2,k3,k4⟩:=setCells_at vs (w.setCell ⟨b,o,none⟩ v) b (o+1) (tz h o v) (by simp;omega);refine⟨arr',k1,by simpa using k2,fun i u e=>?_,fun i hi=>?_⟩
   ·cases i with
    | zero =>
      simp only[List.getElem?_cons_zero,On]at e;subst e;rw[Nat.add_zero,k4 o (.inl (by omega)),Array.getElem?_setIfInBounds];simp;omega
    | succ i =>
      have:=k3 i u (by simpa using e);rw[show o+(i+1)=o+1+i by omega];exact this
   ·simp only[abL]at hi;rw[k4 i (by omega),Array.getElem?_setIfInBounds_ne (by omega)]
omit [Laid] in
theorem pt{base:Nat}:∀(vs:List Value) (w:World) (b o:Nat),base≤b→Below base w (w.setCells b o vs)
 | [],w,b,o,_=>Below.refl _ _
 | v:: vs,w,b,o,h=>((Below.refl base w).setCell (p:=⟨b,o,none⟩) h v).trans (pt vs _ b (o+1) h)
omit [Laid] in
theorem pv:∀(vs:List Value) (w:World) (b o c:Nat),(w.setCells b o vs).shape? c=w.shape? c
 | [],w,b,o,c=>rfl
 | v:: vs,w,b,o,c=>by rw[World.setCells,pv vs _ b (o+1) c,wN]
omit [Laid] in
theorem setCells_size:∀(vs:List Value) (w:World) (b o:Nat),(w.setCells b o vs).heap.size=w.heap.size
 | [],w,b,o=>rfl
 | v:: vs,w,b,o=>by rw[World.setCells,setCells_size vs _ b (o+1)];simp[World.setCell]
def IL{t tx ty e:TypeId}(hh:cN base ι S w h)(ht:P.underlying t=some (.slice e))(hz:sJ P e=true){v u:Value}{rows bse:List (List AV)}{news:List Value}{id:Nat}
 (hs:Src P (P.cellsOf e) tx v rows.length news w) (hn:aE ι S w rows.flatten news) (hrl:∀r∈rows,r.length=P.cellsOf e)
 (hu:ar ι S w (.sb id (P.cellsOf e) bse) u) (hid:h[id]?=some (.tok e (P.cellsOf e) bse.length)) (hm:jK (jV P e) (bse.length+rows.length)) :
 ∃u' w' ι' S',(Builtin.append_ #[t,tx] ty #[u,v]).run P w=.ok u' w'∧bU ι.length base ι S w ι' S' w'∧ar ι' S' w' (.sb id (P.cellsOf e) (bse++rows)) u'∧cN base ι' S' w' (h.set id (.tok e (P.cellsOf e) (bse.length+rows.length))):=by
 have hlt:id<h.length:=(eQ.1 hid).1;have hlι:id<ι.length:=by rw[hh.len];exact hlt
 obtain⟨v0,hv0,a,cap,rfl,hcap,hcm,hblk⟩:=hh.tok id _ _ _ hid;rw[ar]at hu;obtain⟨⟨a',cap',eu,hc1,hc2,hrows⟩,n',v',t1,t2,t3⟩:=hu;rw[hv0]at t1;cases t1;have eu':=t3 rfl;rw[eu]at eu';cases eu';subst eu;have hbl:∀r∈bse,r.length=P.cellsOf e:=by
  rcases hrows with rfl|⟨b,off,_,rr⟩
  ·simp
  ·intro r hr;obtain⟨j,hj⟩:=List.getElem?_of_mem hr;exact (rr.get j r hj).1
 have hflat:=kp hrl;have hnl:news.length=rows.length*P.cellsOf e:=by rw[←hn.length,hflat]
 -- what becomes of the place
 have close:∀{u':Value} {w':World} {S':aZ},bU ι.length base ι S w ι S' w'→(∃a'' cap'',u'=.slice a'' (bse.length+rows.length) cap''∧bse.length+rows.length≤cap''∧cap''≤maxLen∧(bse++rows=[]∨∃b off,a''=some ⟨b,off,none⟩∧cr ι S' w' (P.cellsOf e) (bse++rows) b off)) →
  (rows.length=0→u'=.slice a bse.length cap)→u4 base S' w' e (P.cellsOf e) (bse.length+rows.length) u'→(∀b,b<w.heap.size→(∀c,CN (.slice a bse.length cap) c→b≠c)→base≤b→w'.heap[b]?=w.heap[b]?∧∀o,S' b o→S b o) →
  (∀b,CN u' b→CN (.slice a bse.length cap) b∨w.heap.size≤b)→(∀b o,S' b o→b<w'.heap.size) →
  ∃ι' S',bU ι.length base ι S w ι' S' w'∧ar ι' S' w' (.sb id (P.cellsOf e) (bse++rows)) u'∧cN base ι' S' w' (h.set id (.tok e (P.cellsOf e) (bse.length+rows.length))):=by
  intro u' w' S' hE hrep hsame htok hother hnew hstb;have hE':bU ι.length base ι S w (ι.set id (.tok (bse.length+rows.length) u')) S' w':=by
   refine⟨fun i hi=>?_,hE.sub,hE.new,hE.cell,hE.xz,hE.oh⟩
   by_cases q:i=id
   ·subst q;rw[iD hlι,hv0];refine⟨_,_,rfl, ?_⟩
    by_cases z:rows.length=0
    ·left;exact⟨by omega,by rw[hsame z]⟩
    ·right;omega
   ·rw[iF (Ne.symm q)];exact fW.refl _
  have hE2:bU ι.length base ι S' w' (ι.set id (.tok (bse.length+rows.length) u')) S' w':=⟨hE'.pre,fun _ _ q=>q,fun _ _ q=>.inl q,fun _ _ _=>rfl,fun _ _ q=>q,Below.refl _ _⟩;refine⟨_,S',hE', ?_,hh.wo hE' (by simp[hh.len]) id (fun i hi ha=>?_) (fun x q=>?_) (fun e' sz' n' q=>?_) (fun en q=>by rw[iD hlt]at q;cases q;trivial) (fun j b hj _ aj hb hb' => ?_) hstb (ab3 hh.kC hE.oh.size)⟩
  ·rw[ar];obtain⟨a'',cap'',e1,e2,e3,e4⟩:=hrep;refine⟨⟨a'',cap'',by rw[AT];exact e1,by rw[AT];exact e2,e3,e4.imp (fun q=>q) fun⟨b,off,q1,q2⟩=>⟨b,off,q1,cr.fU hE2 (bY _) _ _ b off q2⟩⟩,_,_,iD hlι,by simp,fun _=>rfl⟩
  ·rw[iF (Ne.symm hi)]at ha ⊢;refine⟨rfl,iF (Ne.symm hi),fun b hb hbl=>hother b hbl (fun c hc q=>?_) (hh.BS ha hb).1⟩;subst q;exact hi (hh.inj i id b ha (by rw[hid];exact trivial) hb (by rw[hv0];exact hc))
  ·rw[iD hlt]at q;cases q
  ·rw[iD hlt]at q;cases q;exact⟨_,iD hlι,htok⟩
  ·rw[iF (Ne.symm hj)]at aj;rw[iF (Ne.symm hj)]at hb';rw[iD hlι]at hb;rcases hnew b hb with q|q
   ·exact hj (hh.inj j id b aj (by rw[hid];exact trivial) hb' (by rw[hv0];exact q))
   ·have:=(hh.BS aj hb').2;omega
 by_cases hfit:bse.length+rows.length≤cap
 ·-- there is room
  by_cases hc0:cap=0
  ·have hr0:rows.length=0:=by omega
   have hb0:bse.length=0:=by omega
   obtain⟨i,z,hi,hzz,hzs,hce,hbe⟩:=pD hz;have hnews:news=[]:=List.eq_nil_of_length_eq_zero (by rw[hnl,hr0,Nat.zero_mul]);subst hnews;have hrows0:rows=[]:=List.eq_nil_of_length_eq_zero hr0;subst hrows0;have hrun:=run_append_nothing (P:=P) w t tx ty e i ht hi a bse.length cap (by omega) v (by rw[←hce];exact hs);obtain⟨ι',S',q1,q2,q3⟩:=close (u':=.slice a bse.length cap) (w':=w) (S':=S) (bU.refl _ _ _ _ _) ⟨a,cap,by simp,by simpa using hfit,hcm,by left;simp;exact List.eq_nil_of_length_eq_zero hb0⟩ (fun _=>rfl)
    ⟨a,cap,by simp,by simpa using hfit,hcm,.inl hc0⟩ (fun _ _ _ _=>⟨rfl,fun _ q=>q⟩) (fun _ q=>.inl q) hh.iY
   exact⟨_,_,ι',S',hrun,q1,q2,q3⟩
  ·rcases hblk with hblk|⟨b,arr,fz,rfl,k1,k2,k3,k4,k5⟩
   ·exact absurd hblk hc0
   ·obtain⟨i,z,hi,hzz,hzs,hce,hbe⟩:=pD hz;have hmul:(bse.length+rows.length)*P.cellsOf e≤cap*P.cellsOf e:=Nat.mul_le_mul_right _ hfit;rw[acr]at hmul;have hcells:∀j,j<news.length→(w.cell? ⟨b,0+bse.length*i.size+j,none⟩).isSome=true:=fun j hj=>by
     rw[fZ k2,UP (by rw[hnl]at hj;rw[←hce];omega)];rfl
    have hfroz:∀j,j<news.length→w.frozen? ⟨b,0+bse.length*i.size+j,none⟩=false:=fun j hj=>by
     rw[qa k2];have:=k3 (0+bse.length*i.size+j) (by rw[hnl]at hj;rw[←hce];omega);simpa using this
    have hrun:=run_append_room_src (P:=P) w t tx ty e i ht hi b 0 bse.length cap v rows.length news (by rw[←hce];exact hs) hfit hcells hfroz;rw[ab0,←hce]at hrun;obtain⟨arr',g1,g2,g3,g4⟩:=setCells_at news w b (bse.length*P.cellsOf e) k2 (by rw[hnl];omega)
    let S':aZ:=fun c o=>S c o∨(c=b∧bse.length*P.cellsOf e≤o∧o<(bse.length+rows.length)*P.cellsOf e)
    have hE:bU ι.length base ι S w ι S' (w.setCells b (bse.length*P.cellsOf e) news):=by
     refine⟨fun _ _=>fW.refl _,fun _ _ q=>.inl q,fun c o q=>q.elim .inl fun q=>.inr (by rw[q.1];exact k1),fun c o q=>?_,fun c x q=>by rw[pv];exact q,pt news w b _ k1⟩
     by_cases hcb:c=b
     ·subst hcb;rw[fZ g1,fZ k2];exact g4 o (.inl (k5 o q))
     ·exact World.cell?_of_block (w:=w) (lH news w b _ c hcb)
    have told:∀b' off,(⟨b,0,none⟩:Addr)=⟨b',off,none⟩→b'=b∧off=0:=fun b' off q=>by cases q;exact⟨rfl,rfl⟩
    have hR:bse++rows=[]∨∃b' off,some (⟨b,0,none⟩:Addr)=some ⟨b',off,none⟩∧cr ι S' (w.setCells b (bse.length*P.cellsOf e) news) (P.cellsOf e) (bse++rows) b' off:=by
     right;refine⟨b,0,rfl,cr.of_flat (fun r hr=>(Is.1 hr).elim (hbl r) (hrl r)) ?_⟩;rw[List.flatten_append];have hC1:bD ι S' (w.setCells b (bse.length*P.cellsOf e) news) bse.flatten b 0:=by
      rcases hrows with rfl|⟨b',off,q,rr⟩
      ·simp[bD]
      ·obtain⟨rfl,rfl⟩:=told b' off (DO q);exact bD.fU hE (bY _) _ _ _ rr.flat.2
     have hC2:bD ι S' (w.setCells b (bse.length*P.cellsOf e) news) rows.flatten b (bse.length*P.cellsOf e):=
      bD.FT g1 (aE.fU hE (bY _) _ _ hn) (fun i v q=>g3 i v q) (fun i hi=>.inr ⟨rfl,by omega,by rw[hnl]at hi;rw[acr];omega⟩)
     have hfl:=kp hbl;refine bD.mk fun i c q=>?_;rcases uP i bse.flatten.length with z|z
     ·rw[gO z]at q;exact hC1.get i c q
     ·rw[gT z]at q;have:=hC2.get _ c q;rw[show bse.length*P.cellsOf e+(i-bse.flatten.length)=0+i by omega]at this;exact this
    obtain⟨ι',S'',q1,q2,q3⟩:=close (u':=.slice (some ⟨b,0,none⟩) (bse.length+rows.length) cap) (w':=w.setCells b (bse.length*P.cellsOf e) news) (S':=S') hE ⟨_,cap,rfl,hfit,hcm,hR⟩ (fun z=>by rw[z,Nat.add_zero])
     ⟨_,cap,rfl,hfit,hcm,.inr ⟨b,arr',fz,rfl,k1,g1,by rw[g2];exact k3,by rw[g2];exact k4,fun o q=>by
      rcases q with q|q
      ·have:=k5 o q;rw[acr];omega
      ·exact q.2.2⟩⟩ (fun c hc hne _=>⟨lH news w b _ c (hne b ⟨_,_,_,rfl,rfl,hc0⟩),fun o q=>q.elim (fun q=>q) fun q=>absurd q.1 (hne b ⟨_,_,_,rfl,rfl,hc0⟩)⟩)
     (fun c q=>.inl ⟨_,_,_,rfl,(GF (w:=w) q).symm,hc0⟩) (fun c o q=>by
      rw[setCells_size];rcases q with q|q
      ·exact hh.iY c o q
      ·rw[q.1];exact yj k2)
    exact⟨_,_,ι',S'',hrun,q1,q2,q3⟩
 ·-- it grows
  obtain⟨olds,hold,hrd⟩:=tp (P:=P) (cap:=cap) hrows;obtain⟨u',w',arr,S',hrun,hheap,hE,⟨cap',rfl,g1,g2,g3⟩,hS',hR⟩:=Gi (ty:=ty) hh ht hz hs hn hrl hbl (by omega) hold hrd hm.1 hm.2;have hnw:w'.heap[w.heap.size]?=some (.cells arr e):=by rw[hheap];simp
  obtain⟨ι',S'',q1,q2,q3⟩:=close hE ⟨_,cap',rfl,g1,g2,.inr ⟨_,0,rfl,hR⟩⟩ (fun z=>by omega)
   ⟨_,cap',rfl,g1,g2,.inr ⟨w.heap.size,arr,(0,0),rfl,hh.kC,hnw,fun o _=>by simp,g3,fun o q=>by
    rcases (hS' _ o).1 q with q|q
    ·have:=hh.iY _ _ q;omega
    ·exact q.2⟩⟩ (fun b hb _ _=>⟨by rw[hheap,Array.getElem?_push];simp;omega,fun o q=>by
    rcases (hS' b o).1 q with q|q
    ·exact q
    ·omega⟩) (fun b q=>.inr (by rw[GF (w:=w) q];exact bY _)) (fun b o q=>by
    rw[hheap,Array.size_push];rcases (hS' b o).1 q with q|q
    ·have:=hh.iY b o q;omega
    ·omega)
  exact⟨_,_,ι',S'',hrun,q1,q2,q3⟩
def cN.begin{h:aa}(hh:cN base ι S w h){e sz:TypeId}{a:Option Addr}:cN base (ι++[.tok 0 (.slice a 0 0)]) S w (h++[.tok e sz 0]):=
 hh.push _ _ (bU.grow _) (fun _ _ _=>⟨rfl,fun _ q=>q⟩) (fun _ q=>by cases q) (fun e' sz' n' q=>by cases q;exact⟨_,rfl,a,0,rfl,bY _,abY _,.inl rfl⟩) trivial
  (fun _ b hb=>by obtain⟨_,_,_,q,_,h0⟩:=hb;cases q;exact absurd rfl h0) hh.iY
omit [Laid] in
def ar.begin(ι:List Ix)(S:aZ)(w:World)(sz:Nat)(a:Option Addr):ar (ι++[.tok 0 (.slice a 0 0)]) S w (.sb ι.length sz []) (.slice a 0 0):=by
 rw[ar];exact⟨⟨a,0,rfl,bY _,abY _,.inl rfl⟩,0,_,by simp,bY _,fun _=>rfl⟩
def DG(hh:cN base ι S w h)(hy:ar ι S w x y){sz:Nat}{rows:List (List AV)}(hs:jG h sz x=some rows):
 ∃ad cap vs,y=.slice ad rows.length cap∧rows.length≤maxLen∧aE ι S w rows.flatten vs∧rows.flatten.length=rows.length*sz ∧
  ((ad=none∧vs=[]∧rows=[])∨∃b,ad=some b∧∀j u,vs[j]?=some u→w.cell? (b.add j)=some u):=by
 have hy:=hy.nf;unfold jG at hs;split at hs
 ·rename_i e1;cases hs;rw[e1,ar]at hy;obtain⟨b,ev⟩:=hy;exact⟨b,0,[],ev,abY _,by simp,by simp,by cases b<;>simp⟩
 ·rename_i sz' rows' e1;split at hs
  ·rename_i hsz;subst hsz;cases hs;rw[e1,ar]at hy;obtain⟨b,cap,ev,c1,c2,c3⟩:=hy;rcases c3 with rfl|⟨bb,off,rfl,hrr⟩
   ·exact⟨b,cap,[],ev,abY _,by simp,by simp,by cases b<;>simp⟩
   ·obtain⟨k1,k2⟩:=hrr.flat;obtain⟨vs,rv,hcell⟩:=k2.sH;exact⟨_,cap,vs,ev,by omega,rv,k1,.inr ⟨_,rfl,fun j u q=>by rw[addr_add];exact hcell j u q⟩⟩
  ·cases hs
 ·rename_i id off len sz' e1;split at hs
  ·rename_i ah eb;split at hs
   ·rename_i hcond;obtain⟨rfl,hlen⟩:=hcond;cases hs;rw[e1,ar]at hy;obtain⟨b,b',cap,n,ty,c1,ev,c2,c3,c4,c5,c6⟩:=hy;obtain⟨b2,arr,fz,k1,k2,k3,k4,k5,k6,k7,k8,k9⟩:=hh.live id ah eb;rw[c1]at k1;cases k1;obtain⟨f1,f2⟩:=jl sz' len (ah.cells.drop off) (by simp;omega);have hcells:aE ι S w ((ah.cells.drop off).take (len*sz')) ((arr.toList.drop off).take (len*sz')):=by
     refine aE.mk (by simp;omega) fun j c v e1 e2=>?_;rw[ON]at e1 e2;split at e1
     ·rename_i hj;rw[if_pos hj]at e2;rw[abQ]at e1 e2;obtain⟨v',e3,r⟩:=k6 _ c e1;simp only[Array.getElem?_toList]at e2;rw[e3]at e2;cases e2;exact r
     ·cases e1
    refine⟨b',cap,_,by rw[jW];exact ev,by rw[jW];omega,by rw[f1];exact hcells,kp f2, ?_⟩;rcases c4 with rfl|rfl
    ·have:len=0:=by omega
     subst this;cases b'<;>simp[chunks]
    ·refine .inr ⟨_,rfl,fun j u q=>?_⟩;rw[addr_add,fZ k3];rw[ON]at q;split at q
     ·rw[abQ]at q;simpa using q
     ·cases q
   ·cases hs
  ·cases hs
 ·cases hs
omit [Laid] in
theorem qM:∀l:List UInt8,(l.map fun b=>[bg b]).flatten=l.map bg
 | []=>rfl
 | b:: l=>by rw[GO,aco,qM l];rfl
omit [Laid] in
def VA{sz:Nat}{rows:List (List AV)}(h:rows.all (dx sz)=true):(∀r∈rows,r.length=sz)∧rows.flatten.all bT=true:=by
 simp only[At,dx,NO,beq_iff_eq]at h;refine⟨fun r hr=>(h r hr).1, ?_⟩;simp only[At];intro c hc;obtain⟨r,hr,hcr⟩:=List.mem_flatten.1 hc;exact (h r hr).2 c hcr
theorem IM{own:Bool}{c:Call}{t tx e:TypeId}{x y:Operand}{src:Option (List (List AV))}(hr:cd base ι S a w st)(ho:o.op=.call c)(hc:c.callee=.builtin .append)(hat:c.argTypes.toList=[t,tx])(hax:c.args.toList=[x,y])
 (ht:P.underlying t=some (.slice e)) (hz:sJ P e=true) (hsrc:∀rows,src=some rows→(∀r∈rows,r.length=P.cellsOf e)→rows.flatten.all bT=true→∃news,Src P (P.cellsOf e) tx (a.eval y) rows.length news w∧aE ι S w rows.flatten news)
 (h:eM own e (P.cellsOf e) (jV P e) (aG st.fr x) src st.h K):cv P o base ι S a w st K:=by
 have hty:c.argTypes=#[t,tx]:=by apply Array.ext';simpa using hat
 have hag:c.args.map a.eval=#[a.eval x,a.eval y]:=by apply Array.ext';simp[hax]
 have done:∀{u' w'},(Builtin.append_ #[t,tx] o.type #[a.eval x,a.eval y]).run P w=.ok u' w'→(execOp a.eval o).run P w=.ok (.value u') w':=fun hrun =>
  xY (s:=Builtin.append_ c.argTypes o.type (c.args.map a.eval)) ho hc (fun cs=>rfl) (by rw[hty,hag];exact hrun)
 have hx:=(hr.eval x).xq;unfold eM at h;split at h
 ·exact h.elim
 ·rename_i rows;obtain⟨hro,h⟩:=h;obtain⟨hrl,hsc⟩:=VA hro;obtain⟨news,hs,hn⟩:=hsrc rows rfl hrl hsc
  -- a new block of the call's own
  have mine:∀{h':aa} {id0:Option Nat} {bse:List (List AV)} {olds:List Value} {ad:Option Addr} {cap:Nat},a.eval x=.slice ad bse.length cap→h'.length=st.h.length→cN base ι S w h'→(∀r∈bse,r.length=P.cellsOf e)→cap<bse.length+rows.length →
   aE ι S w bse.flatten olds→(Builtin.firstCells (P.cellsOf e) bse.length (.slice ad bse.length cap)).run P w.drew=.ok olds.toArray w.drew→jK (jV P e) (bse.length+rows.length) →
   K (.own st.h.length 0 (bse.length+rows.length) (P.cellsOf e)) (h'++[.ah ⟨e,bse.flatten++rows.flatten,true⟩])→cv P o base ι S a w st K:=by
   intro h' id0 bse olds ad cap ev hlen hh hbl hlt hold hrd hm k;obtain⟨i,z,hi,hzz,hzs,hce,hbe⟩:=pD hz;have hm2:=hm.2;rw[hbe]at hm2;rw[hce]at hs hbl hrl hrd k;have hnl:=hs.newsLen;have hol:olds.length=bse.length*i.size:=by rw[←hold.length,kp hbl]
   have hrun:=run_append_grow_src (P:=P) w t tx o.type e i z ht hi hzz ad bse.length cap olds hrd (a.eval y) rows.length news hs hlt (by have:=hm.1;simp only[maxLen]at this;omega) (growslice_fits hlt hm2);have hge:=grownCap_ge w (bse.length+rows.length) cap e;have hcm:=grownCap_le_maxLen w (bse.length+rows.length) cap e hm.1;obtain⟨hE1,hH1⟩:=hh.drew;have r1:aE ι S w.drew (bse.flatten++rows.flatten) (olds++news):=(aE.fU hE1 (bY _) _ _ hold).append (aE.fU hE1 (bY _) _ _ hn);have hA:=hH1.alloc e _ (olds++news) r1 (0,0) (Builtin.zeroCells z.cells (grownCap w (bse.length+rows.length) cap e-(bse.length+rows.length))).toList (fun o _=>by simp);have harr:((olds++news)++(Builtin.zeroCells z.cells (grownCap w (bse.length+rows.length) cap e-(bse.length+rows.length))).toList).toArray=(olds++news).toArray++Builtin.zeroCells z.cells (grownCap w (bse.length+rows.length) cap e-(bse.length+rows.length)):=by
    apply Array.ext';simp
   rw[harr]at hA;refine iH hr (done (by rw[ev];exact hrun)) (hE1.trans (bU.alloc hH1.kC (fun b o=>hH1.iY b o) _ [.ah w.heap.size])) ?_ hA (by simp[hlen]) k;rw[ar];have hsz:((olds++news).toArray++Builtin.zeroCells z.cells (grownCap w (bse.length+rows.length) cap e-(bse.length+rows.length))).size=grownCap w (bse.length+rows.length) cap e*i.size:=by
    rw[Array.size_append,List.size_toArray,AT,hol,hnl,size_zeroCells,hzs,←acr,←acr]
    congr 1
    omega
   refine⟨w.heap.size,_,_,_,e,by rw[←hr.hp.len];simp,rfl,hge,hcm,.inr rfl, ?_,by rw[ab0];exact Nat.le_of_eq hsz.symm⟩;have hnew:(w.drew.alloc (.cells ((olds++news).toArray++Builtin.zeroCells z.cells (grownCap w (bse.length+rows.length) cap e-(bse.length+rows.length))) e)).heap[w.heap.size]?=some (.cells ((olds++news).toArray++Builtin.zeroCells z.cells (grownCap w (bse.length+rows.length) cap e-(bse.length+rows.length))) e):=by
    show (w.heap.push _)[w.heap.size]?=_;simp
   unfold World.shape?;rw[hnew]
  split at h
  ·-- out of nothing
   rename_i e1;rw[e1,ar]at hx;obtain⟨ad,ev⟩:=hx;split at h
   ·obtain⟨hm,k⟩:=h;have hB:=hr.hp.begin (e:=e) (sz:=P.cellsOf e) (a:=ad);have hEb:bU ι.length base ι S w (ι++[.tok 0 (.slice ad 0 0)]) S w:=bU.grow _;have hsB:aE (ι++[.tok 0 (.slice ad 0 0)]) S w rows.flatten news:=aE.fU hEb (bY _) _ _ hn;have hRB:=ar.begin ι S w (P.cellsOf e) ad;rw[hr.hp.len]at hRB;obtain⟨u',w',ι',S',q1,q2,q3,q4⟩:=IL (ty:=o.type) (bse:=[]) (id:=st.h.length) hB ht hz hs hsB hrl hRB (by simp) (by simpa using hm);rw[ev]at done;refine iH hr (done q1) ((hEb).trans (q2.mono (by simp) (bY _))) q3 q4 (by simp) ?_;simp only[List.nil_append,acp,ab0];rw[IF _ _ (bY _)];simpa using k
   ·obtain⟨hne,hm,k⟩:=h;obtain⟨olds,hold,hrd⟩:=tp (P:=P) (ι:=ι) (S:=S) (w:=w) (sz:=P.cellsOf e) (rows:=[]) (a:=ad) (cap:=0) (.inl rfl);refine mine (bse:=[]) (id0:=none) (h':=st.h) (ad:=ad) (cap:=0) ev rfl hr.hp (by simp) ?_ hold hrd (by simpa using hm) (by simpa using k);have:=List.length_pos_iff.2 hne;simpa using this
  ·-- at its end
   rename_i id sz' bse e1;split at h
   ·rename_i e' sz'' k eh;obtain⟨⟨rfl,rfl,rfl,rfl⟩,hm,kk⟩:=h;rw[e1]at hx;obtain⟨u',w',ι',S',q1,q2,q3,q4⟩:=IL (ty:=o.type) hr.hp ht hz hs hn hrl hx eh hm;exact iH hr (done q1) q2 q3 q4 (by simp) kk
   ·exact h.elim
  ·-- the call's own
   rename_i id off len sz' e1;split at h
   ·rename_i ah eb;obtain⟨⟨rfl,rfl,hwr,rfl,hlc⟩,hpos,hm,k⟩:=h;rw[e1,ar]at hx;obtain⟨b,ad,cap,m,ty',c1,ev,c2,c3,c4,c5,c6⟩:=hx;obtain⟨b',arr,fz,k1,k2,k3,k4,k5,k6,k7,k8,k9⟩:=hr.hp.live id ah eb;rw[c1]at k1;cases k1;have hm':m=arr.size:=by
     unfold World.shape? at c5;rw[k3]at c5;simp only[On,abU]at c5;exact c5.2.symm
    subst hm';obtain⟨f1,f2⟩:=jl (P.cellsOf ah.ty) len ah.cells hlc;have hcl:=jW (P.cellsOf ah.ty) len ah.cells;have hcs:aE ι S w (ah.cells.take (len*P.cellsOf ah.ty)) (arr.toList.take (len*P.cellsOf ah.ty)):=by
     refine aE.mk (by simp;omega) fun j c v e1 e2=>?_;rw[ON]at e1 e2;split at e1
     ·rename_i hj;rw[if_pos hj]at e2;obtain⟨v',e3,r⟩:=k6 j c e1;simp only[Array.getElem?_toList]at e2;rw[e3]at e2;cases e2;exact r
     ·cases e1
    by_cases hfit:len+rows.length≤cap
    ·-- there is room
     obtain⟨i,z,hi,hzz,hzs,hce,hbe⟩:=pD hz;rcases c4 with c4|rfl
     ·omega
     have hnl:=hs.newsLen;have hmul:(len+rows.length)*P.cellsOf ah.ty≤cap*P.cellsOf ah.ty:=Nat.mul_le_mul_right _ hfit;rw[acr]at hmul;have hcells:∀j,j<news.length→(w.cell? ⟨b,0+len*i.size+j,none⟩).isSome=true:=fun j hj=>by
      rw[fZ k3,UP (by rw[hnl]at hj;rw[←hce];omega)];rfl
     have hfroz:∀j,j<news.length→w.frozen? ⟨b,0+len*i.size+j,none⟩=false:=fun j hj=>by
      rw[qa k3];have:=k4 (0+len*i.size+j) (by rw[hnl]at hj;rw[←hce];omega);simpa using this
     have hrun:=run_append_room_src (P:=P) w t tx o.type ah.ty i ht hi b 0 len cap (a.eval y) rows.length news (by rw[←hce];exact hs) hfit hcells hfroz;rw[ab0,←hce]at hrun;obtain⟨arr',g1,g2,g3,g4⟩:=setCells_at news w b (len*P.cellsOf ah.ty) k3 (by rw[hnl];omega);have hE:bU ι.length base ι S w (ι++[.ah b]) S (w.setCells b (len*P.cellsOf ah.ty) news):=
      ⟨fun i hi=>fW.of_eq (gO hi),fun _ _ q=>q,fun _ _ q=>.inl q,fun c o q=>World.cell?_of_block (w:=w) (lH news w b _ c fun z=>k7 hwr o (z▸q)),fun c x q=>by rw[pv];exact q,pt news w b _ k2⟩
     have hl:=hr.hp.len;have hid:id<st.h.length:=(eQ.1 eb).1;have alv:∀{i:Nat},i≠st.h.length→alive (st.h.set id .dead++[.ah ⟨ah.ty,ah.cells.take (len*P.cellsOf ah.ty)++rows.flatten,true⟩])[i]?→i≠id∧(st.h.set id .dead++[.ah ⟨ah.ty,ah.cells.take (len*P.cellsOf ah.ty)++rows.flatten,true⟩])[i]?=st.h[i]?:=by
      intro i hi ha;rw[nL (by simpa using hi)]at ha ⊢
      by_cases q:i=id
      ·subst q;rw[iD hid]at ha;exact ha.elim
      ·exact⟨q,iF (Ne.symm q)⟩
     have hH:cN base (ι++[.ah b]) S (w.setCells b (len*P.cellsOf ah.ty) news) (st.h.set id .dead++[.ah ⟨ah.ty,ah.cells.take (len*P.cellsOf ah.ty)++rows.flatten,true⟩]):=by
      have lst:(st.h.set id .dead++[aL.ah ⟨ah.ty,ah.cells.take (len*P.cellsOf ah.ty)++rows.flatten,true⟩])[st.h.length]?=some (.ah ⟨ah.ty,ah.cells.take (len*P.cellsOf ah.ty)++rows.flatten,true⟩):=by
       rw[gT (by simp)];simp
      refine hr.hp.wo hE (by simp[hl]) st.h.length (fun i hi ha=>?_) (fun x q=>?_) (fun _ _ _ q=>?_) (fun en q=>by rw[lst]at q;cases q;trivial) (fun j c hj _ aj hb hb' => ?_) (fun c o q=>by rw[setCells_size];exact hr.hp.iY c o q) (by rw[setCells_size];exact hr.hp.kC)
      ·obtain⟨hne,he⟩:=alv hi ha;refine⟨he,nL (by rw[hl];exact hi),fun c hc _=>⟨lH news w b _ c fun q=>?_,fun _ q=>q⟩⟩;subst q;rw[he]at ha;exact hne (hr.hp.inj i id c ha (by rw[eb];exact trivial) hc (by rw[c1];rfl))
      ·rw[lst]at q;cases q;have hnf:rows.flatten.length=rows.length*P.cellsOf ah.ty:=kp hrl;have hlt:(ah.cells.take (len*P.cellsOf ah.ty)).length=len*P.cellsOf ah.ty:=by simp;omega
       refine⟨b,arr',fz,by rw[←hl];exact kH,k2,g1,by rw[g2];exact k4, ?_,fun j c q=>?_,fun _=>k7 hwr,fun o q=>absurd q (k7 hwr o),fun q=>by cases q⟩
       ·rw[AT,hlt,hnf,g2];omega
       ·rcases uP j (len*P.cellsOf ah.ty) with z|z
        ·rw[gO (by omega),ON,if_pos z]at q;obtain⟨v,q1,q2⟩:=k6 j c q;exact⟨v,by rw[g4 j (.inl z)];exact q1,ar.fU hE (bY _) c v q2⟩
        ·rw[gT (by omega),hlt]at q;obtain⟨v,q1,q2⟩:=hn.get _ c q;have:=g3 _ v q1;rw[show len*P.cellsOf ah.ty+(j-len*P.cellsOf ah.ty)=j by omega]at this;exact⟨v,this,ar.fU hE (bY _) c v q2⟩
      ·rw[lst]at q;cases q
      ·obtain⟨hne,he⟩:=alv hj aj;rw[he]at aj;rw[nL (by rw[hl];exact hj)]at hb';rw[←hl,kH]at hb;have:b=c:=hb;subst this;exact hne (hr.hp.inj j id b aj (by rw[eb];exact trivial) hb' (by rw[c1];rfl))
     refine iH hr (done (by rw[ev];exact hrun)) hE ?_ hH (by simp) k;rw[ar];exact⟨b,_,cap,arr.size,ty',by rw[←hl];exact kH,rfl,hfit,c3,.inr rfl,hE.xz _ _ c5,c6⟩
    ·have hrd:(Builtin.firstCells (P.cellsOf ah.ty) len (.slice ad len cap)).run P w.drew=.ok (arr.toList.take (len*P.cellsOf ah.ty)).toArray w.drew:=by
      by_cases hl0:len=0
      ·subst hl0;simp only[Nat.zero_mul,List.take_zero];cases ad with
       | none=>exact run_firstCells_none w.drew _ 0 0 cap
       | some ad=>exact run_firstCells_some w.drew _ 0 ad 0 cap [] (by simp) (by simp)
      ·rcases c4 with c4|rfl
       ·omega
       ·refine run_firstCells_some w.drew _ len _ len cap _ (by simp;omega) fun j v q=>?_;rw[addr_add,ab0];rw[ON]at q;split at q
        ·show w.cell? ⟨b,j,none⟩=some v;rw[fZ k3];simpa using q
        ·cases q
     refine mine (bse:=chunks (P.cellsOf ah.ty) len ah.cells) (id0:=some id) (h':=st.h.set id .dead) (ad:=ad) (cap:=cap) (olds:=arr.toList.take (len*P.cellsOf ah.ty)) (by rw[hcl];exact ev) (by simp) (hr.hp.kill id) f2 (by rw[hcl];omega)
      (by rw[f1];exact hcs) (by rw[hcl];exact hrd) (by rw[hcl];exact hm) (by rw[hcl,f1];exact k)
   ·exact h.elim
  ·exact h.elim
def Xp{own:Bool}{t tx e e':TypeId}(hr:cd base ι S a w st)(ho:o.op=.call c)(hc:c.callee=.builtin .append)(hat:c.argTypes.toList=[t,tx])(hax:c.args.toList=[x,y])
 (ht:P.underlying t=some (.slice e)) (htx:P.underlying tx=some (.slice e')) (hz:sJ P e=true) (h:bR own e (P.cellsOf e) (jV P e) (aG st.fr x) (aG st.fr y) st.h K):cv P o base ι S a w st K:=by
 refine IM hr ho hc hat hax ht hz (fun rows hs hrl hsc=>?_) h;obtain⟨ad,cap,vs,ev,_,rv,hfl,hcell⟩:=DG hr.hp (hr.eval y) hs;refine⟨vs, ?_,rv⟩;rw[ev];have hvl:vs.length=rows.length*P.cellsOf e:=by rw[←rv.length];exact hfl
 rcases hcell with⟨rfl,rfl,rfl⟩|⟨b,rfl,hcell⟩
 ·exact Src.ofNil w htx cap
 ·exact Src.ofSlice w htx b rows.length cap vs hvl (fun j u q=>hcell j u q) (CZ rv hsc)
theorem VC{own:Bool}{t tx e:TypeId}(hr:cd base ι S a w st)(ho:o.op=.call c)(hc:c.callee=.builtin .append)(hat:c.argTypes.toList=[t,tx])(hax:c.args.toList=[x,y])
 (ht:P.underlying t=some (.slice e)) (htx:P.underlying tx=some .string) (hz:sJ P e=true) (h1:P.cellsOf e=1) (h:mM own e (jV P e) (aG st.fr x) (aG st.fr y) st.h K):cv P o base ι S a w st K:=by
 have h':eM own e (P.cellsOf e) (jV P e) (aG st.fr x) (CG (aG st.fr y)) st.h K:=by rw[h1];exact h
 refine IM hr ho hc hat hax ht hz (fun rows hs _ hsc=>?_) h';have hy:=hr.eval y;unfold CG at hs;split at hs
 ·rename_i l e1;cases hs;rw[e1,eK]at hy;obtain⟨ev,_⟩:=hy;have hfl:=qM l;refine⟨byteCells ⟨l.toArray⟩, ?_, ?_⟩
  ·rw[ev,h1];have:=Src.ofString (P:=P) w htx ⟨l.toArray⟩;simpa[ByteArray.size]using this
  ·rw[hfl];unfold byteCells;refine aE.mk (by simp) fun i c v q1 q2=>?_;simp only[iN]at q1 q2;cases hl:l[i]? with
   | none=>rw[hl]at q1;cases q1
   | some b =>
     rw[hl]at q1 q2;simp only[acu,On]at q1 q2;subst q1;subst q2;simp[bg]
 ·cases hs
end
omit [Laid] in
theorem nr(z:List AV):∀n,(ic n z).length=n*z.length
 | 0=>by simp[ic]
 | n+1=>by rw[ic,AT,nr z n,acr,Nat.one_mul,Nat.add_comm]
omit [Laid] in
theorem Gd(z:List AV):∀(n i:Nat),i<n*z.length→(ic n z)[i]?=z[i%z.length]?
 | 0,i,h=>by simp at h
 | n+1,i,h=>by
   rw[ic];rcases uP i z.length with q|q
   ·rw[gO q,Nat.mod_eq_of_lt q]
   ·rw[gT q,Gd z n (i-z.length) (by rw[acr,Nat.one_mul]at h;omega),←Nat.mod_eq_sub_mod q]
omit [Laid] in
def zn{cs:List AV}{vs:List Value}(h:aE ι S w cs vs)(n m:Nat)(hm:m=n*cs.length):aE ι S w (ic n cs) (madeCells vs.toArray m).toList:=by
 subst hm;have hl:=h.length;refine aE.mk (by rw[nr];simp[madeCells]) fun i c v e f=>?_;have hi:i<n*cs.length:=by rw[←nr];exact (eQ.1 e).1
 rw[Gd cs n i hi]at e;have hpos:0<cs.length:=by
  rcases Nat.eq_zero_or_pos cs.length with q|q
  ·rw[q]at hi;simp at hi
  ·exact q
 have hi2:i%cs.length<vs.length:=by rw[←hl];exact Nat.mod_lt _ hpos
 simp only[madeCells,Array.toList_map,iN,Array.toList_range,List.getElem?_range hi,acu,On]at f;obtain⟨u,hu,r⟩:=h.get _ c e;have:v=u:=by
  rw[←f];simp only[List.size_toArray];rw[←hl];rw[getElem!_pos vs.toArray (i%cs.length) (by simpa using hi2)];rw[dO hi2]at hu;simpa using hu
 rw[this];exact r
omit [Laid] in
def wE(hz:sJ P e=true)(h:jL P e=some z):∃i u vs,P.info? e=some i∧i.zero=some u∧z=kD u∧u.cells=(vs:List Value).toArray∧vs.length=i.size∧P.cellsOf e=i.size∧jV P e=i.bytes∧∀ι S w,aE ι S w (bh z) vs:=by
 obtain⟨i,u,hi,hu,hs,hc,hb⟩:=pD hz;unfold jL at h;rw[hi]at h;simp only[Option.bind_some,hu,acu,On]at h;obtain⟨vs,e1,r⟩:=uc u;exact⟨i,u,vs,hi,hu,h.symm,e1,by rw[e1]at hs;simpa using hs,hc,hb,by rw[←h];exact r⟩
section
variable {P:Program} {o:Oper} {base:Nat} {ι:List Ix} {S:aZ} {a:Act} {w:World} {st:St} {K:AV→aa→Prop}
def cN.other(hh:cN base ι S w h)(ob:Obj):bU ι.length base ι S w ι S (w.alloc ob)∧cN base ι S (w.alloc ob) h:=by
 have hE:bU ι.length base ι S w ι S (w.alloc ob):=by simpa using bU.alloc hh.kC (fun b o=>hh.iY b o) ob []
 exact⟨hE,hh.wo hE hh.len h.length (fun i _ _=>⟨rfl,rfl,fun b _ hb=>⟨Below.heap_alloc w _ b hb,fun _ q=>q⟩⟩) (fun x e=>by simp at e) (fun _ _ _ e=>by simp at e) (fun _ e=>by simp at e) (fun j b _ aT=>by simp[alive]at aT)
  (fun b o q=>by have:=hh.iY b o q;show b<(w.heap.push _).size;simp;omega) (by have:=hh.kC;show base≤(w.heap.push _).size;simp;omega)⟩
def xo{e:TypeId}{cells:Array Value}{cs:List AV}{more:List Value}{l c:Nat}{sz:Nat}{fz:Nat×Nat}(hr:cd base ι S a w st)(hw1:w1=w∨w1=w.drew)
 (hrun:(execOp a.eval o).run P w=.ok (.value (.slice (some ⟨w.heap.size,0,none⟩) l c)) (w1.alloc (.cells cells e fz))) {vs:List Value} (hcells:cells=(vs++more).toArray) (r:aE ι S w cs vs)
 (hf:∀o,o<vs.length+more.length→¬(fz.1≤o∧o<fz.2)) (hlc:l≤c) (hcm:c≤maxLen) (hcz:c*sz≤vs.length+more.length) (k:K (.own st.h.length 0 l sz) (st.h++[.ah ⟨e,cs,true⟩])):cv P o base ι S a w st K:=by
 have hd:bU ι.length base ι S w ι S w1∧cN base ι S w1 st.h∧w1.heap=w.heap:=by
  rcases hw1 with rfl|rfl
  ·exact⟨bU.refl _ _ _ _ _,hr.hp,rfl⟩
  ·exact⟨hr.hp.drew.1,hr.hp.drew.2,rfl⟩
 obtain⟨hE,hH,hh⟩:=hd;have hA:=hH.alloc e cs vs (aE.fU hE (bY _) _ _ r) fz more hf;rw[←hcells]at hA;rw[hh]at hA;refine iH hr hrun (hE.trans (bU.alloc hH.kC (fun b o=>hH.iY b o) _ [.ah w.heap.size])) ?_ hA (by simp) k;rw[ar];refine⟨w.heap.size,_,c,cells.size,e,by rw[←hr.hp.len];simp,rfl,hlc,hcm,.inr rfl, ?_,by rw[hcells];simpa using hcz⟩;have hnew:(w1.alloc (.cells cells e fz)).heap[w.heap.size]?=some (.cells cells e fz):=by
  show (w1.heap.push _)[w.heap.size]?=_;rw[←hh];simp
 unfold World.shape?;rw[hnew]
def JZ{e:TypeId}{cs:List AV}{sz len:Nat}{vs:List Value}(hr:cd base ι S a w st)
 (hrun:(execOp a.eval o).run P w=.ok (.value (.slice (some ⟨w.heap.size,0,none⟩) len len)) (w.alloc (.cells vs.toArray e))) (r:aE ι S w cs vs)
 (hlen:vs.length=len*sz) (hcm:len≤maxLen) (k:K (.sl sz (chunks sz len cs)) st.h):cv P o base ι S a w st K:=by
 have hh:=hr.hp
 let S':aZ:=fun b o=>S b o∨(b=w.heap.size∧o<vs.length)
 have hnew:(w.alloc (.cells vs.toArray e)).heap[w.heap.size]?=some (.cells vs.toArray e (0,0)):=by
  show (w.heap.push _)[w.heap.size]?=_;simp
 have hE0:bU ι.length w.heap.size ι S w ι S (w.alloc (.cells vs.toArray e)):=by simpa using bU.alloc (bY _) (fun b o=>hh.iY b o) (.cells vs.toArray e) []
 have hE:bU ι.length w.heap.size ι S w ι S' (w.alloc (.cells vs.toArray e)):=⟨hE0.pre,fun _ _ q=>.inl q,fun b o q=>q.elim .inl (fun q=>.inr (by rw[q.1];exact bY _)),hE0.cell,hE0.xz,hE0.oh⟩;have hH:cN base ι S' (w.alloc (.cells vs.toArray e)) st.h:=hh.over hE (fun b o q=>by
  show b<(w.heap.push _).size;rcases q with q|q
  ·have:=hh.iY b o q;simp;omega
  ·rw[q.1];simp)
 refine iH hr hrun (hE.mono (bY _) hh.kC) ?_ hH (bY _) k;have hcl:=r.length;obtain⟨f1,f2⟩:=jl sz len cs (by rw[hcl,hlen];exact bY _);have hcells:bD ι S' (w.alloc (.cells vs.toArray e)) (chunks sz len cs).flatten w.heap.size 0:=by
  rw[f1];refine bD.mk fun i c ec=>?_;have ec':cs[i]?=some c:=by
   rw[ON]at ec;split at ec
   ·exact ec
   ·cases ec
  obtain⟨v,ev,rv⟩:=r.get i c ec';have hi:=(eQ.1 ev).1;refine⟨v,by rw[ab0,fZ hnew];simpa using ev,.inr ⟨rfl,by omega⟩,ar.fU hE (bY _) c v rv⟩
 rw[ar];refine⟨_,len,by rw[jW],by rw[jW];exact bY _,hcm,.inr ⟨w.heap.size,0,rfl, ?_⟩⟩;exact cr.of_flat f2 hcells
theorem VQ{len:Nat}{parts:Array (Nat×Operand)}(hr:cd base ι S a w st)(ho:o.op=.buildSlice t len parts)(ht:P.underlying t=some (.slice e))(hz:jL P e=some z)
 (hk:(sJ P e&&fS P e&&decide (len*P.cellsOf e≤16777216)&&decide (len≤16777216))=true) (h:qP e len (P.cellsOf e) z (parts.toList.map fun p=>(p.1*P.cellsOf e,P.cellsOf e,aG st.fr p.2)) st.h K):cv P o base ι S a w st K:=by
 simp only[NO,Of]at hk;obtain⟨⟨⟨hk1,hk2⟩,hk3⟩,hk4⟩:=hk;obtain⟨i,u,vs,hi,hu,rfl,euc,hvl,hce,hbe,rz⟩:=wE hk1 hz;unfold qP at h;split at h
 ·rename_i cs e';have r0:=zn (rz ι S w) len (len*P.cellsOf e) (by rw[(rz ι S w).length,hvl,hce]);obtain⟨q1,q2⟩:=parts_eq hr (fun i=>some (i*P.cellsOf e,P.cellsOf e)) parts;obtain⟨vs',e1,r1⟩:=rU (ι:=ι) (S:=S) (w:=w) (fun i=>some (i*P.cellsOf e,P.cellsOf e)) (parts.toList.map fun p=>(p.1,aG st.fr p.2,a.eval p.2)) _ _ cs r0 (fun p hpm=>⟨q1 p hpm,rfl⟩) (by
   rw[←e',List.map_map];rfl)
  simp only[Array.toArray_toList]at e1;have hlen:vs'.length=len*P.cellsOf e:=by
   have hb:∀(ps:List (Nat×Nat×AV)) (c r:List AV),dS c ps=some r→r.length=c.length:=by
    intro ps;induction ps with
    | nil=>intro c r h;simp only[dS,On]at h;rw[h]
    | cons p ps ih =>
      intro c r h;obtain⟨o,n,x⟩:=p;simp only[dS]at h;split at h
      ·rw[ih _ _ h,qu]
      ·cases h
   rw[←r1.length,hb _ _ _ e',nr,(rz ι S w).length,hvl,hce]
  have hrun:(execOp a.eval o).run P w=.ok (.value (.slice (some ⟨w.heap.size,0,none⟩) len len)) (w.alloc (.cells vs'.toArray e)):=?_
  ·split at h
   ·obtain⟨hE,hH⟩:=hr.hp.other (.cells vs'.toArray e);exact iH hr hrun hE (by rw[ar];exact⟨_,rfl⟩) hH (bY _) h
   ·exact xo (more:=[]) (fz:=(0,0)) hr (.inl rfl) hrun (by simp) r1 (fun o _=>by simp) (bY _) (by unfold maxLen;omega) (by simp[hlen]) h
  simp only[execOp,ho];refine fG ?_;have hn:¬len*P.cellsOf e > 2^24:=by
   have:(2:Nat)^24=16777216:=by decide
   omega
  have hzero:(zeroValue e).run P w=.ok u w:=by simp[zeroValue,nD hi,hu]
  have hmade:madeCells vs.toArray (len*P.cellsOf e)=(Array.range (len*P.cellsOf e)).map (vs.toArray[· % vs.toArray.size]!):=rfl;simp only[Instr.buildSlice,acf,run_underlying ht,ace,dM hk2,hn,if_false,acg]
  by_cases h0:len*P.cellsOf e=0
  ·simp only[h0,if_true,acf,acg,ace];have:madeCells vs.toArray (len*P.cellsOf e)=(Array.range 0).map fun x=>(#[]:Array Value)[x%(#[]:Array Value).size]!:=by
    rw[h0];apply Array.ext';simp[madeCells]
   rw[this,←q2]at e1;have e2:Instr.fill (fun i=>some (i*P.cellsOf e,P.cellsOf e)) (Array.map (fun x=>(#[]:Array Value)[x%(#[]:Array Value).size]!) (Array.range 0)) (Array.map (fun x=>(x.fst,a.eval x.snd)) parts).toList=some vs'.toArray:=e1;rw[e2];simp[newRow]
  ·simp only[h0,if_false,acf,hzero,ace,acg];rw[hmade,←euc,←q2]at e1;rw[e1];simp[newRow]
 ·exact h.elim
theorem RX{len:Nat}{parts:Array (Nat×Operand)}(hr:cd base ι S a w st)(ho:o.op=.buildSlice t len parts)(ht:P.underlying t=some (.slice e))(hz:jL P e=some z)
 (hk:(sJ P e&&fS P e&&decide (len*P.cellsOf e≤16777216)&&decide (len≤16777216))=true) (h:bt len (P.cellsOf e) z (parts.toList.map fun p=>(p.1*P.cellsOf e,P.cellsOf e,aG st.fr p.2)) fun v=>K v st.h):cv P o base ι S a w st K:=by
 simp only[NO,Of]at hk;obtain⟨⟨⟨hk1,hk2⟩,hk3⟩,hk4⟩:=hk;obtain⟨i,u,vs,hi,hu,rfl,euc,hvl,hce,hbe,rz⟩:=wE hk1 hz;unfold bt at h;split at h
 ·rename_i cs e';have r0:=zn (rz ι S w) len (len*P.cellsOf e) (by rw[(rz ι S w).length,hvl,hce]);obtain⟨q1,q2⟩:=parts_eq hr (fun i=>some (i*P.cellsOf e,P.cellsOf e)) parts;obtain⟨vs',e1,r1⟩:=rU (ι:=ι) (S:=S) (w:=w) (fun i=>some (i*P.cellsOf e,P.cellsOf e)) (parts.toList.map fun p=>(p.1,aG st.fr p.2,a.eval p.2)) _ _ cs r0 (fun p hpm=>⟨q1 p hpm,rfl⟩) (by
   rw[←e',List.map_map];rfl)
  simp only[Array.toArray_toList]at e1;have hlen:vs'.length=len*P.cellsOf e:=by
   have hb:∀(ps:List (Nat×Nat×AV)) (c r:List AV),dS c ps=some r→r.length=c.length:=by
    intro ps;induction ps with
    | nil=>intro c r h;simp only[dS,On]at h;rw[h]
    | cons p ps ih =>
      intro c r h;obtain⟨o,n,x⟩:=p;simp only[dS]at h;split at h
      ·rw[ih _ _ h,qu]
      ·cases h
   rw[←r1.length,hb _ _ _ e',nr,(rz ι S w).length,hvl,hce]
  have hrun:(execOp a.eval o).run P w=.ok (.value (.slice (some ⟨w.heap.size,0,none⟩) len len)) (w.alloc (.cells vs'.toArray e)):=?_
  ·exact JZ hr hrun r1 hlen (by unfold maxLen;omega) h
  simp only[execOp,ho];refine fG ?_;have hn:¬len*P.cellsOf e > 2^24:=by
   have:(2:Nat)^24=16777216:=by decide
   omega
  have hzero:(zeroValue e).run P w=.ok u w:=by simp[zeroValue,nD hi,hu]
  have hmade:madeCells vs.toArray (len*P.cellsOf e)=(Array.range (len*P.cellsOf e)).map (vs.toArray[· % vs.toArray.size]!):=rfl;simp only[Instr.buildSlice,acf,run_underlying ht,ace,dM hk2,hn,if_false,acg]
  by_cases h0:len*P.cellsOf e=0
  ·simp only[h0,if_true,acf,acg,ace];have:madeCells vs.toArray (len*P.cellsOf e)=(Array.range 0).map fun x=>(#[]:Array Value)[x%(#[]:Array Value).size]!:=by
    rw[h0];apply Array.ext';simp[madeCells]
   rw[this,←q2]at e1;have e2:Instr.fill (fun i=>some (i*P.cellsOf e,P.cellsOf e)) (Array.map (fun x=>(#[]:Array Value)[x%(#[]:Array Value).size]!) (Array.range 0)) (Array.map (fun x=>(x.fst,a.eval x.snd)) parts).toList=some vs'.toArray:=e1;rw[e2];simp[newRow]
  ·simp only[h0,if_false,acf,hzero,ace,acg];rw[hmade,←euc,←q2]at e1;rw[e1];simp[newRow]
 ·exact h.elim
def VO(hr:cd base ι S a w st)(ho:o.op=.makeSlice t x y)(ht:P.underlying t=some (.slice e))(hz:jL P e=some z)(hk:(sJ P e&&decide (0<P.cellsOf e))=true)
 (h:qO e (P.cellsOf e) (jV P e) z (aG st.fr x) (aG st.fr y) st.h K):cv P o base ι S a w st K:=by
 simp only[NO,Of]at hk;obtain⟨i,u,vs,hi,hu,rfl,euc,hvl,hce,hbe,rz⟩:=wE hk.1 hz;have hx:=hr.eval x;have hy:=hr.eval y;unfold qO at h;split at h
 ·rename_i kl l kc c e1 e2;obtain⟨⟨g1,g2,g3,g4⟩,h⟩:=h;rw[e1,cD]at hx;rw[e2,cD]at hy;have r0:=zn (rz ι S w) c.toNat (c.toNat*P.cellsOf e) (by rw[(rz ι S w).length,hvl,hce]);have hrun:=run_make (P:=P) w t e i u ht hi hu kl kc l c g1 g2 (by rw[←hbe];exact g3) g4;refine xo (more:=[]) (fz:=(0,0)) hr (.inl rfl) (cells:=madeCells vs.toArray (c.toNat*P.cellsOf e)) (l:=l.toNat) (c:=c.toNat) ?_ (by simp) r0 (fun o _=>by simp) (by omega) (by unfold maxLen;omega) (by simp[madeCells]) h;simp only[execOp,ho,hx,hy];refine fG ?_;rw[hrun,euc,hce]
 ·exact h.elim
omit [Laid] in
def Dh(h:BR P e=true):P.underlying e=some (.int .u8):=by
 unfold BR at h;split at h
 ·assumption
 ·cases h
theorem Mt(hr:cd base ι S a w st)(ho:o.op=.convert s d x)(hs:P.underlying s=some .string)(hd:P.underlying d=some (.slice e))(he:BR P e=true)
 (h:jb e (aG st.fr x) st.h K):cv P o base ι S a w st K:=by
 have hx:=hr.eval x;unfold jb at h;split at h
 ·rename_i l e1;rw[e1,eK]at hx;obtain⟨ev,hl⟩:=hx;have hrun:=run_bytes_of_string (P:=P) w s d e ⟨l.toArray⟩ hs hd (Dh he);have hge:=grownCap_ge w l.length 0 e;have hcm:=grownCap_le_maxLen w l.length 0 e hl;have hsz:(⟨l.toArray⟩:ByteArray).size=l.length:=by simp[ByteArray.size]
  rw[hsz]at hrun;have hrow:bytesRow ⟨l.toArray⟩ (grownCap w l.length 0 e)=((l.map fun (b:UInt8)=>Value.int .u8 b.toNat)++List.replicate (grownCap w l.length 0 e-l.length) (Value.int .u8 0)).toArray:=by
   apply Array.ext';simp[bytesRow,hsz]
  refine xo (vs:=l.map fun (b:UInt8)=>Value.int .u8 b.toNat) (more:=List.replicate (grownCap w l.length 0 e-l.length) (Value.int .u8 0)) (fz:=((bytesRow ⟨l.toArray⟩ (grownCap w l.length 0 e)).size,(bytesRow ⟨l.toArray⟩ (grownCap w l.length 0 e)).size+1)) hr (.inr rfl) (l:=l.length) (c:=grownCap w l.length 0 e) ?_ hrow ?_ ?_ hge hcm ?_ h
  ·simp only[execOp,ho,ev];exact fG hrun
  ·refine aE.mk (by simp) fun i c v q1 q2=>?_;simp only[iN]at q1 q2;cases hl:l[i]? with
   | none=>rw[hl]at q1;cases q1
   | some b =>
     rw[hl]at q1 q2;simp only[acu,On]at q1 q2;subst q1;subst q2;simp[bg]
  ·intro o ho';rw[hrow];simp only[List.size_toArray,AT];omega
  ·simp;omega
 ·exact h.elim
omit [Laid] in
def Pm{cs:List AV}{vs:List Value}:∀{l:List UInt8},aE ι S w cs vs→wQ cs=some l→∃ns:List Int,vs=ns.map (Value.int .u8)∧l=ns.map fun n=>UInt8.ofNat n.toNat:=by
 induction cs generalizing vs with
 | nil=>intro l h e;simp at h;simp[wQ]at e;subst h;subst e;exact⟨[],rfl,rfl⟩
 | cons c cs ih =>
   intro l h e;cases vs with
   | nil=>simp at h
   | cons v vs =>
     simp only[bN]at h;unfold wQ at e;split at e
     ·rename_i q;cases q
     ·rename_i n r q;simp only[List.cons.injEq]at q;obtain⟨rfl,rfl⟩:=q;simp only[abO]at e;obtain⟨l',e',rfl⟩:=e;obtain⟨ns,rfl,rfl⟩:=ih h.2 e';have:=h.1;rw[cD]at this;subst this;exact⟨n:: ns,rfl,rfl⟩
     ·cases e
omit [Laid] in
theorem foldl_push:∀(ns:List Int) (r:ByteArray),ns.foldl (fun r n=>r.push (UInt8.ofNat n.toNat)) r=⟨r.data++(ns.map fun n=>UInt8.ofNat n.toNat).toArray⟩
 | [],r=>by simp
 | n:: ns,r=>by
   simp only[List.foldl_cons,GO];rw[foldl_push ns];simp[ByteArray.push]
def Ms(hr:cd base ι S a w st)(ho:o.op=.convert s d x)(hs:P.underlying s=some (.slice e))(hd:P.underlying d=some .string)(he:BR P e=true)
 (h:cR (aG st.fr x) st.h fun v=>K v st.h):cv P o base ι S a w st K:=by
 unfold cR at h;split at h
 ·rename_i l hl;simp only[Option.bind_eq_some_iff]at hl;obtain⟨rows,hsrc,hl⟩:=hl;obtain⟨ad,cap,vs,ev,hm,rv,hfl,hcell⟩:=DG hr.hp (hr.eval x) hsrc;rw[Nat.mul_one]at hfl;have hvl:vs.length=rows.length:=by rw[←rv.length,hfl]
  obtain⟨ns,rfl,hl'⟩:=Pm rv hl;have hll:l.length=rows.length:=by rw[hl',←hvl];simp
  refine bf hr (u:=.string ⟨l.toArray⟩) ?_ (by rw[eK];exact⟨rfl,by omega⟩) h;simp only[execOp,ho,ev];refine fG ?_;rw[run_convert_bytes_string w s d e ad rows.length cap hs (Dh he) hd];rcases hcell with⟨rfl,hv,_⟩|⟨b,rfl,hcell⟩
  ·have:ns=[]:=by simpa using hv
   subst this;simp only[List.map_nil]at hl';subst hl';rfl
  ·have hload:(loadCells b rows.length).run P w=.ok (ns.map (Value.int .u8)).toArray w:=by
    rw[←hvl];exact run_loadCells_list (P:=P) w b _ hcell
   rw[run_bytesToString w b rows.length cap ns hload,foldl_push,←hl',show ByteArray.empty.data=#[] from rfl,Array.empty_append]
 ·exact h.elim
end
section
variable {P:Program} {o:Oper} {base:Nat} {ι:List Ix} {S:aZ} {a:Act} {w:World} {st:St} {K:AV→aa→Prop}
def Xy(hr:cd base ι S a w st)(ho:o.op=.makeInterface t x)(hc:P.concrete t=true)(h:pb t (aG st.fr x) fun v=>K v st.h):cv P o base ι S a w st K:=by
 refine bf hr (u:=.iface t (a.eval x)) ?_ ?_ h
 ·simp only[execOp,ho];exact fG (run_makeInterface w t _ hc)
 ·rw[ar];exact⟨_,rfl,hr.eval x⟩
def Xq{xT asserted:TypeId}(hr:cd base ι S a w st)(ho:o.op=.typeAssert x xT asserted true)(h:zi (Fj P asserted) (aG st.fr x) fun v=>K v st.h):cv P o base ι S a w st K:=by
 have hx:=hr.eval x;unfold zi at h;split at h
 ·rename_i t v e;rw[e]at hx;have hx':=hx;rw[ar]at hx;obtain⟨u,ev,r⟩:=hx;obtain⟨hh,h⟩:=h;unfold Fj at hh;split at hh
  ·rename_i want i hu hi;refine bf hr (u:=.tuple #[.iface t u,.bool true]) ?_ ?_ h
   ·simp only[execOp,ho,ev];exact fG (run_typeAssert_has hu hi (List.isEmpty_iff.1 hh))
   ·rw[ar];refine⟨[.iface t u,.bool true],by simp, ?_⟩;rw[ev]at hx';simp[hx']
  ·cases hh
 ·exact h.elim
omit [Laid] in
def Gg{name:String}(v:Value)(h:pf P name t=some f):dv P f=true∧(method (P.types.size+Made.depth) t v name).run P w=.ok (f,v) w∧(nilAhead (P.types.size+Made.depth) t v name).run P w=.ok (some false) w:=by
 unfold pf at h;split at h
 ·rename_i i e hi hu;split at h
  ·rename_i m hm;split at h
   ·rename_i g hp hf;split at h
    ·rename_i hb;cases h;have hpath:m.path.toList=[]:=hp;obtain⟨d,hd⟩:∃d,P.types.size+Made.depth=d+1:=Nat.exists_eq_succ_of_ne_zero (by have:0<Made.depth:=(by decide);show P.types.size+Made.depth≠0;exact Nat.ne_of_gt (Up this (Nat.le_add_left _ _)));refine⟨hb, ?_, ?_⟩
     ·rw[hd];simp only[method,acf,nD hi,ace,hm,hpath,follow,acg,hf,receiverAt,run_underlying hu,Place.get]
     ·rw[hd];simp only[nilAhead,acf,nD hi,ace,hm,hpath,followBlind,acg,hf]
    ·cases h
   ·cases h
  ·cases h
 ·cases h
def VS(hr:cd base ι S a w st)(ho:o.op=.nilCheck x)(h:cg P (aG st.fr x) fun v=>K v st.h):cv P o base ι S a w st K:=by
 have hx:=hr.eval x;unfold cg at h;split at h
 ·rename_i name t v r ys e;rw[e]at hx;have hx':=hx;rw[ar]at hx;obtain⟨vs,us,ev,r1,r2⟩:=hx;obtain⟨hm,h⟩:=h;obtain⟨f,hf⟩:=Option.isSome_iff_exists.1 hm;cases vs with
  | nil=>simp at r1
  | cons y vs =>
    simp only[bN]at r1;have ry:=r1.1;rw[ar]at ry;obtain⟨u,rfl,_⟩:=ry;refine bf hr (u:=a.eval x) ?_ hx' h;obtain⟨_,_,hn⟩:=Gg (w:=w) u hf;simp only[execOp,ho,ev];simp only[List.getElem?_toArray,List.getElem?_cons_zero,acf,run_program,ace,hn];simp
 ·rename_i e _;exact XA hr ho h
def Xu{name:String}(hr:cd base ι S a w st)(ho:o.op=.call c)(hc:c.callee=.invoke x name)(h:xd P (pf P name) (aG st.fr x) (c.args.toList.map (aG st.fr)) st.h K):cv P o base ι S a w st K:=by
 have hv:=hr.eval x;unfold xd at h;split at h
 ·rename_i t y e;split at h
  ·rename_i f hf;rw[e,ar]at hv;obtain⟨v,ev,rv⟩:=hv;obtain⟨hb,hm,_⟩:=Gg (w:=w) v hf;obtain⟨fn,hfn,hb⟩:∃fn,P.funcs[f]?=some fn∧(fn.body.isSome&&fn.name != "runtime.NumGoroutine")=true:=by
    unfold dv at hb;cases hq:P.funcs[f]? with
    | none=>rw[hq]at hb;cases hb
    | some fn=>rw[hq]at hb;exact⟨fn,rfl,hb⟩
   simp only[NO,bne_iff_ne,ne_eq]at hb;have hargs:aE ι S w (y:: c.args.toList.map (aG st.fr)) (v:: c.args.toList.map a.eval):=by simpa using⟨rv,aE.JO hr _⟩
   have hrun:(execOp a.eval o).run P w=.ok (.enter f (v:: c.args.toList.map a.eval).toArray) w:=by
    have e2:#[v]++(#[Value.iface t v]++c.args.map a.eval).extract 1 (#[Value.iface t v]++c.args.map a.eval).size=(v:: c.args.toList.map a.eval).toArray:=by
     apply Array.ext';simp;rw[MK (by simp)]
    have e3:(#[Value.iface t v]++c.args.map a.eval)[0]?=some (.iface t v):=by
     rw[Array.getElem?_append_left (by simp)];rfl
    have hne:(fn.name == "runtime.NumGoroutine")=false:=by simpa using hb.2
    have hbn:fn.body.isNone=false:=by cases hbb:fn.body<;>simp_all
    simp only[execOp,ho,resolve,hc,acf,ev,acg,ace,invoke,e3,callMethod,run_program,hm,e2,callFunc,hfn,hne,hbn,abT,if_false]
   intro Q;unfold Oper.wp;rw[hrun,Oper.upon_enter];refine (h base ι S w _ hargs hr.hp).mono ?_;rintro e w' ⟨v,ι',S',r,h',rfl,hE,rv,hH,hl,k⟩;refine⟨ι',S',r,h', ?_, ?_,hl,k⟩
   ·rw[hr.hp.len];exact hE
   ·have:cd base ι' S' a w' ⟨st.n,st.fr,h'⟩:=⟨hr.df,hr.sz,dD.fU hE (by rw[hr.hp.len];exact bY _) hr.fr,hH⟩;exact this.put o.dst rv
  ·exact h.elim
 ·exact h.elim
def yA{neg b:Bool}{t yt:TypeId}(hr:cd base ι S a w st)(ho:o.op=.binOp (if neg then .neq else .eql) t x y yt)
 (hg:(eqGuard (if neg then .neq else .eql) t x y (a.eval x) (a.eval y)).run P w=.ok () w) (hb:(binOp (if neg then .neq else .eql) t (a.eval x) (a.eval y)).run P w=.ok (.bool (se neg b)) w) (k:K (b_ (se neg b)) st.h):cv P o base ι S a w st K:=by
 refine bf hr (u:=.bool (se neg b)) ?_ (by simp) k;simp only[execOp,ho];refine fG ?_;rw[acf,hg];simp only[ace];exact hb
omit [Laid] in
def Bp{neg b:Bool}(h:(Op.equal t x y).run P w=.ok b w)(hx:(∃p,x=.pointer p)∨∃p l c,x=.slice p l c):(binOp (if neg then .neq else .eql) t x y).run P w=.ok (.bool (se neg b)) w:=by
 rcases hx with⟨p,rfl⟩|⟨p,l,c,rfl⟩<;>cases neg<;>simp[binOp,h,se]
theorem Mq{neg:Bool}{t yt:TypeId}(hr:cd base ι S a w st)(ho:o.op=.binOp (if neg then .neq else .eql) t x y yt)(ht:P.underlying t=some d)
 (h:ye neg d y (aG st.fr x) fun v=>K v st.h):cv P o base ι S a w st K:=by
 have hx:=hr.eval x;unfold ye at h;split at h
 ·rename_i ms;have hm:P.underlying t=some (.interface (P.methodsAt t)):=by unfold Program.methodsAt;rw[ht]
  have hy:a.eval (.const .nilIface)=.nilIface:=rfl;unfold kJ at h;split at h
  ·rename_i b hb;unfold vK at hb;split at hb
   ·rename_i e;cases hb;rw[e,cD]at hx;refine yA (b:=true) hr ho ?_ ?_ h
    ·rw[hx,hy];cases neg<;>cases x<;>rfl
    ·rw[hx,hy];cases neg with
     | true=>exact run_neq_nil_nil w t hm
     | false=>exact run_eql_nil_nil w t hm
   ·rename_i u z e;cases hb;rw[e,ar]at hx;obtain⟨v,hx,_⟩:=hx;refine yA (b:=false) hr ho ?_ ?_ h
    ·rw[hx,hy];cases neg<;>rfl
    ·rw[hx,hy];cases neg with
     | true=>exact run_neq_held_nil w t u v hm
     | false=>exact run_eql_held_nil w t u v hm
   ·cases hb
  ·exact h.elim
 ·rename_i el;have hy:a.eval (.const (.pointer none))=.pointer none:=rfl;have fin:∀(p:Option Addr),a.eval x=.pointer p→K (b_ (se neg p.isNone)) st.h→cv P o base ι S a w st K:=by
   intro p hv k;have he:(Op.equal t (.pointer p) (.pointer none)).run P w=.ok p.isNone w:=by
    have:∀d,(Op.equalIn (d+1) t (.pointer p) (.pointer none)).run P w=.ok p.isNone w:=fun d=>by cases p<;>simp[Op.equalIn,run_underlying ht]
    exact this 9999
   refine yA (b:=p.isNone) hr ho ?_ ?_ k
   ·rw[hv,hy];exact kj rfl (by intro q;cases q)
   ·rw[hv,hy];exact Bp he (.inl ⟨_,rfl⟩)
  unfold kJ at h;split at h
  ·rename_i b hb;unfold tG at hb;split at hb
   ·rename_i e;cases hb;rw[e,cD]at hx;exact fin none hx h
   ·rename_i e;cases hb;rw[e,ar]at hx;obtain⟨b,_,hx⟩:=hx;exact fin (some _) hx h
   ·rename_i e;cases hb;rw[e,ar]at hx;obtain⟨b,off,hx,_⟩:=hx;exact fin (some _) hx h
   ·cases hb
  ·exact h.elim
 ·rename_i el l0 c0;have hy:a.eval (.const (.slice none l0 c0))=.slice none l0 c0:=rfl;have fin:∀(p:Option Addr) (l c:Nat),a.eval x=.slice p l c→K (b_ (se neg p.isNone)) st.h→cv P o base ι S a w st K:=by
   intro p l c hv k;have he:(Op.equal t (.slice p l c) (.slice none l0 c0)).run P w=.ok p.isNone w:=by
    have:∀d,(Op.equalIn (d+1) t (.slice p l c) (.slice none l0 c0)).run P w=.ok p.isNone w:=fun d=>by cases p<;>simp[Op.equalIn,run_underlying ht]
    exact this 9999
   refine yA (b:=p.isNone) hr ho ?_ ?_ k
   ·rw[hv,hy];exact kj rfl (by intro q;cases q)
   ·rw[hv,hy];exact Bp he (.inr ⟨_,_,_,rfl⟩)
  unfold kJ at h;split at h
  ·rename_i b hb;unfold vM at hb;split at hb
   ·rename_i e;cases hb;rw[e,cD]at hx;exact fin none _ _ hx h
   ·rename_i id off len sz e;split at hb
    ·cases hb
    ·cases hb;rw[e,ar]at hx;obtain⟨bb,p,cap,n,ty,_,ev,c2,_,c4,_⟩:=hx;rcases c4 with c4|c4
     ·omega
     ·subst c4;exact fin (some _) _ _ ev h
   ·rename_i sz rows e;split at hb
    ·cases hb
    ·cases hb;rw[e,ar]at hx;obtain⟨p,cap,ev,_,_,c3⟩:=hx;rcases c3 with c3|⟨bb,off,rfl,_⟩
     ·cases c3
     ·exact fin (some _) _ _ ev h
   ·rename_i id sz rows e;split at hb
    ·cases hb
    ·cases hb;rw[e,ar]at hx;obtain⟨⟨p,cap,ev,_,_,c3⟩,_⟩:=hx;rcases c3 with c3|⟨bb,off,rfl,_⟩
     ·cases c3
     ·exact fin (some _) _ _ ev h
   ·cases hb
  ·exact h.elim
 ·exact h.elim
end
section
variable {P:Program} {o:Oper} {base:Nat} {ι:List Ix} {S:aZ} {a:Act} {w:World} {st:St} {K:AV→aa→Prop}
theorem Qc{op:BinOp}{neg:Bool}{t yt:TypeId}{ks:List Nat}(hr:cd base ι S a w st)(ho:o.op=.binOp op t x y yt)(hop:op=(if neg then .neq else .eql))(hg:P.eqGuardType P.depth t=false)
 (hagg:fy P t=true) (hks:mJ P 8 t=some ks) (h:me neg ks (aG st.fr x) (aG st.fr y) fun v=>K v st.h):cv P o base ι S a w st K:=by
 have hx:=hr.eval x;have hy:=hr.eval y;unfold me at h;split at h
 ·rename_i xs ys e1 e2;rw[e1,ar]at hx;rw[e2,ar]at hy;obtain⟨vs,ex,rx⟩:=hx;obtain⟨us,ey,ry⟩:=hy;split at h
  ·rename_i b eb;have key:=Ll (P:=P) (w:=w) 8 t ks hks 10000 (by omega) xs ys vs us b rx ry eb;simp only[iu,hagg,if_true]at key;have hgu:(eqGuard op t x y (.agg vs.toArray) (.agg us.toArray)).run P w=.ok () w:=run_eqGuard_agg w op t x y _ _ hg;refine bf hr (u:=.bool (if neg then !b else b)) ?_ (by simp) h;simp only[execOp,ho,ex,ey];refine fG ?_;rw[acf,hgu];simp only[ace];cases neg with
   | true=>subst hop;simp only[if_true,run_neq_struct,key,ace]
   | false=>subst hop;simp only[abT,if_false,run_eql_struct,key,ace]
  ·exact h.elim
 ·exact h.elim
omit [Laid] in
def aY(h:cO b X):b=true∧X:=by
 cases b with
 | true=>exact⟨rfl,h⟩
 | false=>exact h.elim
def oI{own:Bool}(hr:cd base ι S a w st)(h:bE P own (aG st.fr) st.h o.op K):cv P o base ι S a w st K:=by
 generalize ho:o.op=op at h;unfold bE at h;split at h
 ·exact Mp hr (.inl ho) h
 ·exact Mp hr (.inr ho) h
 ·exact VT hr ho h
 ·rename_i bop t x y yt;split at h
  ·rename_i hagg;split at h
   ·obtain⟨hg,h⟩:=aY h;have hg:P.eqGuardType P.depth t=false:=by simpa using hg
    split at h
    ·rename_i ks hks;exact Qc (neg:=false) hr ho rfl hg hagg hks h
    ·exact h.elim
   ·obtain⟨hg,h⟩:=aY h;have hg:P.eqGuardType P.depth t=false:=by simpa using hg
    split at h
    ·rename_i ks hks;exact Qc (neg:=true) hr ho rfl hg hagg hks h
    ·exact h.elim
   ·exact h.elim
  ·split at h
   ·rename_i ht;exact VD hr ho ht h
   ·exact Qb hr ho h
   ·exact Qb hr ho h
   ·rename_i ht;split at h
    ·exact Mq (neg:=false) hr ho ht h
    ·exact Mq (neg:=true) hr ho ht h
    ·exact h.elim
   ·exact h.elim
 ·exact XB hr ho h
 ·exact Xz hr ho h
 ·split at h
  ·exact Xs hr ho h
  ·exact h.elim
 ·split at h
  ·rename_i hs hd;exact VF hr ho hs hd h
  ·rename_i hs hd;unfold AA at h;split at h
   ·rename_i e;exact RV hr ho hs hd ⟨_,e,h⟩
   ·exact h.elim
  ·rename_i hs hd;exact Mt hr ho hs hd (aY h).1 (aY h).2
  ·rename_i hs hd;exact Ms hr ho hs hd (aY h).1 (aY h).2
  ·exact h.elim
 ·exact VG hr ho h
 ·split at h
  ·rename_i ht;split at h
   ·rename_i hf;exact RW hr ho ht hf (aY h).1 (aY h).2
   ·exact h.elim
  ·exact h.elim
 ·split at h
  ·rename_i ht;exact VL hr ho ht h
  ·rename_i ht;exact VI hr ho ht (aY h).1 (aY h).2
  ·exact h.elim
 ·split at h
  ·rename_i ht;exact XD hr ho ht h
  ·rename_i ht;exact aa2 hr ho ht (aY h).1 (aY h).2
  ·rename_i ht;exact XC hr ho ht (aY h).1 (aY h).2
  ·exact h.elim
 ·split at h
  ·rename_i ht;exact VJ hr ho ht (aY h).1 (aY h).2
  ·rename_i ht;exact VK hr ho ht (aY h).1 (aY h).2
  ·exact h.elim
 ·split at h
  ·rename_i ht;split at h
   ·rename_i hf;obtain⟨hq,h⟩:=aY h;simp only[NO,bne_iff_ne,ne_eq]at hq;exact Xt hr ho ht hf hq.1 hq.2 h
   ·exact h.elim
  ·exact h.elim
 ·exact VS hr ho h
 ·exact Xy hr ho (aY h).1 (aY h).2
 ·exact Xq hr ho h
 ·exact VN hr ho (aY h).1 (aY h).2
 ·exact RY hr ho (aY h).1 (aY h).2
 ·split at h
  ·rename_i hz;exact RU hr ho hz h
  ·exact h.elim
 ·exact Xr hr ho h
 ·split at h
  ·rename_i ht hz;obtain⟨hq,h⟩:=aY h;simp only[NO]at hq;exact OZ hr ho ht hz hq.1 hq.2 h
  ·rename_i ht hz;exact OY hr ho ht hz (aY h).1 (aY h).2
  ·exact h.elim
 ·split at h
  ·rename_i ht;split at h
   ·rename_i hz;cases own with
    | true=>exact RX hr ho ht hz (aY h).1 (aY h).2
    | false=>exact VQ hr ho ht hz (aY h).1 (aY h).2
   ·exact h.elim
  ·exact h.elim
 ·split at h
  ·rename_i ht;split at h
   ·rename_i hz;exact VO hr ho ht hz (aY h).1 (aY h).2
   ·exact h.elim
  ·exact h.elim
 ·exact VH hr ho h
 ·rename_i c;split at h
  ·rename_i hc;split at h
   ·rename_i hat hax;split at h
    ·rename_i ht;exact VM hr ho hc hat hax ht h
    ·rename_i ht;exact Xv hr ho hc hat hax ht h
    ·exact h.elim
   ·exact h.elim
  ·rename_i hc;split at h
   ·rename_i hax;exact Xx hr ho hc hax h
   ·exact h.elim
  ·rename_i hc;split at h
   ·rename_i hax;exact Xw hr ho hc hax h
   ·rename_i hax;exact VP hr ho hc hax h
   ·exact h.elim
  ·rename_i hc;split at h
   ·rename_i hat hax;split at h
    ·rename_i ht htx;exact Xp hr ho hc hat hax ht htx (aY h).1 (aY h).2
    ·rename_i ht htx;obtain⟨hq,h⟩:=aY h;simp only[NO,beq_iff_eq]at hq;exact VC hr ho hc hat hax ht htx hq.1 hq.2 h
    ·exact h.elim
   ·exact h.elim
  ·rename_i hc;unfold bx at h;split at h
   ·rename_i hx;exact VE hr ho hc hx h.1 h.2
   ·exact h.elim
  ·rename_i hc;exact Xu hr ho hc h
  ·exact h.elim
 ·exact h.elim
end
/-! ### Operations in a row -/
omit [Laid] in
def fF{fr:Fr}(hd:∀e,d=some e→e≠t):bC (bL n fr d x) t=bC fr t:=by
 unfold bL;split
 ·rename_i e;split
  ·rw[fD,if_neg (hd e rfl)]
  ·rfl
 ·rfl
theorem oP{ops:Array Oper}{base:Nat}{st:St}(hr:cd base ι S a w st)(h1:eS ops j=some d):
 (∀b,bC st.fr d=.v (.bool b)→yielded ops a.tmps j=some b)∧(bC st.fr d=.v undef→yielded ops a.tmps j=none):=by
 have r:=hr.get d;unfold eS at h1;unfold yielded;rw[h1];simp only[Option.bind_some];constructor
 ·intro b e;rw[e,cD,Array.getD_eq_getD_getElem?]at r;cases hv:a.tmps[d]? with
  | none=>rw[hv]at r;cases r
  | some v=>rw[hv]at r;simp only[Option.getD_some]at r;subst r;rfl
 ·intro e;rw[e,cD,Array.getD_eq_getD_getElem?]at r;cases hv:a.tmps[d]? with
  | none=>rfl
  | some v=>rw[hv]at r;simp only[Option.getD_some]at r;subst r;rfl
omit [Laid] in
def nH{P:Program}{o:Oper}{a:Act}{w:World}{K K':Act→World→Prop}{Q Q':Exit→Act→World→Prop}(h1:∀a w,K a w→K' a w)(h2:∀e a w,Q e a w→Q' e a w)(h:o.wp P a w K Q):o.wp P a w K' Q':=by
 unfold Oper.wp at *;generalize (execOp a.eval o).run P w=r at *;unfold Oper.upon at *;split at h
 ·exact h1 _ _ h
 ·exact h1 _ _ h
 ·exact h1 _ _ h
 ·exact h.mono fun e w' k=>by
   cases e with
   | returned v=>exact h1 _ _ k
   | panicked ch=>exact h2 _ _ _ k
   | outgrown=>obtain⟨a0,w0,k⟩:=k;exact⟨a0,w0,h2 _ _ _ k⟩
 ·exact h.mono fun v w' k=>h1 _ _ k
 ·exact h2 _ _ _ h
 ·exact h.elim
omit [Laid] in
theorem qX{ops:Array Oper}{Q Q':Exit→Act→World→Prop}(hq:∀e a w,Q e a w→Q' e a w):∀(l:List Nat) (a:Act) (w:World),wpOps P ops Q l a w→wpOps P ops Q' l a w
 | [],a,w,h=>hq _ _ _ h
 | i:: l,a,w,h=>by
   simp only[wpOps]at *;cases ho:ops[i]? with
   | none=>rw[ho]at h;exact qX hq l a w h
   | some o =>
     rw[ho]at h;simp only at *;split
     ·rename_i hw;rw[if_pos hw]at h;rcases h with h|⟨h,a0,w0,k⟩
      ·exact .inl (nH (fun a w=>qX hq l a w) hq h)
      ·exact .inr ⟨h,a0,w0,hq _ _ _ k⟩
     ·rename_i hw;rw[if_neg hw]at h;exact qX hq l _ w h
def nx(s:List AV)(k:Nat):AV:=s.getD k .any
def eB(fr:Fr)(l:List Nat):List AV:=l.map (bC fr)
def mX(fr:Fr):List Nat→List AV→Nat→Fr
 | [],_,_=>fr
 | t:: ts,s,k=>mX (fg fr t (nx s k)) ts s (k+1)
def aH(k:(List AV→aa→Prop)→Prop)(f:List AV→aa→Prop):Prop:=k f
def jmp(cs ms:List Nat)(fr fr':Fr)(h':aa)(J:List AV→aa→Prop):Prop:=
 match cs with
 | []=>J (eB fr' ms) h'
 | c:: cs=>eB fr' (c:: cs)=eB fr (c:: cs)∧J (eB fr' ms) h'
omit [Laid] in
def rj{cs ms:List Nat}{fr fr':Fr}{J:List AV→aa→Prop}(h:jmp cs ms fr fr' h' J):eB fr' cs=eB fr cs∧J (eB fr' ms) h':=by
 cases cs with
 | nil=>exact⟨rfl,h⟩
 | cons c cs=>exact h
def join(cs ms:List Nat)(fr:Fr)(s:List AV):Fr:=mX (kb cs fr) ms s 0
inductive dh where
 | op (i:Nat) (own:Bool)
 | aB (j:Nat) (want:Bool) (l:List (Nat×Bool)) (cs ms:List Nat)
def dh.ix:dh→List Nat
 | .op i _=>[i]
 | .aB _ _ l _ _=>l.map (·.1)
section
variable (P:Program) (ops:Array Oper)
def Ed:List (Nat×Bool)→St→(St→Prop)→Prop
 | [],st,K=>K st
 | (i,own):: r,st,K=>match ops[i]? with
  | some o=>bE P own (aG st.fr) st.h o.op fun v h=>Ed r (xy st o.dst v h) K
  | none=>False
def Dv:List (Nat×Bool)→St→St
 | [],st=>st
 | (i,_):: r,st=>match ops[i]? with
  | some o=>Dv r (xy st o.dst (.v undef) st.h)
  | none=>Dv r st
def lg:List dh→St→(St→Prop)→Prop
 | [],st,K=>K st
 | .op i own:: r,st,K=>(match ops[i]? with
   | some o=>bE P own (aG st.fr) st.h o.op fun v h=>lg r (xy st o.dst v h) K
   | none=>False)
 | .aB j want l cs ms:: r,st,K=>(match eS ops j with
   | some d=>aH (fun J=>aI (bC st.fr d) want (Ed P ops l ⟨st.n,fg st.fr d (.v (.bool want)),st.h⟩ fun st' => jmp cs ms st.fr st'.fr st'.h J)
    (jmp cs ms st.fr (Dv ops l ⟨st.n,fg st.fr d (bI want (bC st.fr d)),st.h⟩).fr st.h J)) fun s h=>lg r ⟨st.n,join cs ms st.fr s,h⟩ K
   | none=>False)
def lV:dh→Bool
 | .op i _=>match ops[i]? with|some o=>o.guard.isNone|none=>false
 | .aB j want l _ _=>match eS ops j with
   | some d=>l.all (fun p=>match ops[p.1]? with|some o=>o.guard == some (j,want)|none=>false)&&(l.dropLast).all (fun p=>match ops[p.1]? with|some o=>o.dst != some d|none=>false)
   | none=>false
def Mu(l:List dh):Bool:=l.all (lV ops)&&(l.map dh.ix).flatten == List.range ops.size
end
omit [Laid] in
theorem D5(ops:Array Oper):∀(l:List (Nat×Bool)) (st:St),(Dv ops l st).h=st.h∧(Dv ops l st).n=st.n
 | [],st=>⟨rfl,rfl⟩
 | (i,own):: l,st=>by
  unfold Dv;split
  ·exact D5 ops l _
  ·exact D5 ops l _
omit [Laid] in
theorem dD.mX{tmps:Array Value}:∀(ms:List Nat) (fr:Fr) (s:List AV) (k:Nat),dD ι S w fr tmps→(∀i t,ms[i]?=some t→ar ι S w (nx s (k+i)) (tmps.getD t undef))→dD ι S w (Aw.mX fr ms s k) tmps
 | [],fr,s,k,h,_=>h
 | t:: ts,fr,s,k,h,hs=>by
   rw[Aw.mX];refine dD.mX ts _ s (k+1) (dD.Dz h (by simpa using hs 0 t rfl)) fun i u e=>?_;have:=hs (i+1) u (by simpa using e);rw[show k+1+i=k+(i+1) by omega];exact this
omit [Laid] in
theorem DM{fr fr':Fr}:∀{cs:List Nat},eB fr' cs=eB fr cs→∀t∈cs,bC fr' t=bC fr t
 | [],_,_,h=>by cases h
 | c:: cs,e,t,h=>by
   simp only[eB,GO,List.cons.injEq]at e;rcases ID.1 h with rfl|h
   ·exact e.1
   ·exact DM (cs:=cs) e.2 t h
omit [Laid] in
theorem ny:∀(fB:List Nat) (fr:Fr) (t:Nat),bC (kb fB fr) t=.any∨(t∈fB∧bC (kb fB fr) t=bC fr t)
 | [],fr,t=>.inl rfl
 | k:: r,fr,t=>by
   simp only[kb,GO,bC];split
   ·rename_i h;subst h;exact .inr ⟨ack ..,rfl⟩
   ·rcases ny r fr t with q|⟨q1,q2⟩
    ·exact .inl q
    ·exact .inr ⟨Lt _ q1,q2⟩
omit [Laid] in
def dD.fB{tmps:Array Value}{fr fr':Fr}{cs:List Nat}(h:dD ι S w fr' tmps)(e:eB fr' cs=eB fr cs):dD ι S w (kb cs fr) tmps:=by
 intro t;rcases ny cs fr t with q|⟨q1,q2⟩
 ·rw[q];simp
 ·rw[q2,←DM e t q1];exact h t
omit [Laid] in
def RG(fr:Fr)(ms:List Nat)(i t:Nat)(e:ms[i]?=some t):nx (eB fr ms) i=bC fr t:=by
 unfold nx eB;rw[nE,iN,e];rfl
omit [Laid] in
def dD.join{tmps:Array Value}{fr fr':Fr}{cs ms:List Nat}(h:dD ι S w fr' tmps)(e:eB fr' cs=eB fr cs):dD ι S w (Aw.join cs ms fr (eB fr' ms)) tmps:=
 dD.mX ms _ _ 0 (h.fB e) fun i t q=>by rw[ab0,RG fr' ms i t q];exact h t
section
variable {P:Program} {ops:Array Oper} {m:Nat} {Q:Exit→St→Prop}
def DN{own:Bool}{l:List Nat}{K:St→Prop}(ho:ops[i]?=some o){base:Nat}{st:St}(hm:m≤st.h.length)(hr:cd base ι S a w st)
 (hw:Region.wanted o (yielded ops a.tmps)=true) {K':AV→aa→Prop} (h:bE P own (aG st.fr) st.h o.op K')
 (next:∀v h' ι' S' a' w',K' v h'→m≤h'.length→cd base ι' S' a' w' (xy st o.dst v h')→wpOps P ops (dy m base ι' S' w' (iZ K Q)) l a' w') :
 wpOps P ops (dy m base ι S w (iZ K Q)) (i:: l) a w:=by
 simp only[wpOps,ho];rw[if_pos hw];left;have:=oI (P:=P) (o:=o) (a:=a) hr h (dy m base ι S w (iZ K Q));refine nH (fun a' w' k=>?_) (fun _ _ _ k=>k) this;obtain⟨ι',S',v,h2,hE,hR,hl,hk⟩:=k;refine qX (fun e a w k=>?_) l a' w' (next v h2 ι' S' a' w' hk (by omega) hR);exact dy.trans (hE.mono (by rw[hr.hp.len];exact hm) (bY _)) k
def Pq{l:List Nat}{K:St→Prop}(ho:ops[i]?=some o){base:Nat}{st:St}(hr:cd base ι S a w st)
 (hw:Region.wanted o (yielded ops a.tmps)=false) (next:cd base ι S (a.put o.dst undef) w (xy st o.dst (.v undef) st.h)→wpOps P ops (dy m base ι S w (iZ K Q)) l (a.put o.dst undef) w) :
 wpOps P ops (dy m base ι S w (iZ K Q)) (i:: l) a w:=by
 simp only[wpOps,ho];rw[hw];simp only[abT,if_false];exact next (hr.put (x:=.v undef) (v:=undef) o.dst (by simp))
omit [Laid] in
def yY{want:Bool}{tmps:Array Value}(hg:o.guard=some (j,want)):Region.wanted o (yielded ops tmps)=(yielded ops tmps j == some want):=by simp[Region.wanted,hg]
omit [Laid] in
def De{st:St}(hd:d≠some t):bC (xy st d x h).fr t=bC st.fr t:=by
 unfold xy;exact fF fun e he q=>hd (by rw[he,q])
theorem IU{want:Bool}(hd:eS ops j=some d){K:St→Prop}{rest:List Nat}:∀(l:List (Nat×Bool)) (base:Nat) (ι:List Ix) (S:aZ) (a:Act) (w:World) (st:St) (K':St→Prop),
 l.all (fun p=>match ops[p.1]? with|some o=>o.guard == some (j,want)|none=>false)=true→(l.dropLast).all (fun p=>match ops[p.1]? with|some o=>o.dst != some d|none=>false)=true →
 m≤st.h.length→cd base ι S a w st→(l≠[]→bC st.fr d=.v (.bool want))→Ed P ops l st K' →
 (∀st' ι' S' a' w',K' st'→m≤st'.h.length→st'.n=st.n→cd base ι' S' a' w' st'→wpOps P ops (dy m base ι' S' w' (iZ K Q)) rest a' w') →
 wpOps P ops (dy m base ι S w (iZ K Q)) (l.map (·.1)++rest) a w
 | [],base,ι,S,a,w,st,K',_,_,hm,hr,_,h,next=>next st ι S a w h hm rfl hr
 | (i,own):: l,base,ι,S,a,w,st,K',hgs,hds,hm,hr,hc,h,next=>by
  simp only[acd,NO]at hgs;obtain⟨hg,hgs⟩:=hgs;simp only[Ed]at h;cases ho:ops[i]? with
  | none=>rw[ho]at h;exact h.elim
  | some o =>
    simp only[ho,beq_iff_eq]at hg h;simp only[GO,acs];have hy:=(oP hr hd).1 want (hc (by simp));refine DN ho hm hr (by rw[yY hg,hy];simp) h fun v h' ι' S' a' w' k hm' hr' => ?_;refine IU hd l base ι' S' a' w' _ K' hgs ?_ hm' hr' (fun hne=>?_) k (fun st' ι2 S2 a2 w2 k2 m2 n2 r2=>next st' ι2 S2 a2 w2 k2 m2 (by rw[n2];rfl) r2)
    ·cases l with
     | nil=>rfl
     | cons p l=>simp only[List.dropLast_cons_cons,acd,NO]at hds;exact hds.2
    ·cases l with
     | nil=>exact absurd rfl hne
     | cons p l =>
       simp only[List.dropLast_cons_cons,acd,NO,ho,bne_iff_ne,ne_eq]at hds;rw[De hds.1];exact hc (by simp)
theorem xC{want:Bool}(hd:eS ops j=some d){K:St→Prop}{rest:List Nat}:∀(l:List (Nat×Bool)) (base:Nat) (ι:List Ix) (S:aZ) (a:Act) (w:World) (st:St),
 l.all (fun p=>match ops[p.1]? with|some o=>o.guard == some (j,want)|none=>false)=true→(l.dropLast).all (fun p=>match ops[p.1]? with|some o=>o.dst != some d|none=>false)=true →
 cd base ι S a w st→(l≠[]→bC st.fr d=.v (.bool (!want))∨bC st.fr d=.v undef) →
 (∀a',cd base ι S a' w (Dv ops l st)→wpOps P ops (dy m base ι S w (iZ K Q)) rest a' w) →
 wpOps P ops (dy m base ι S w (iZ K Q)) (l.map (·.1)++rest) a w
 | [],base,ι,S,a,w,st,_,_,hr,_,next=>next a hr
 | (i,own):: l,base,ι,S,a,w,st,hgs,hds,hr,hc,next=>by
  simp only[acd,NO]at hgs;obtain⟨hg,hgs⟩:=hgs;simp only[Dv]at next
  cases ho:ops[i]? with
  | none=>simp only[ho]at hg;cases hg
  | some o =>
    simp only[ho,beq_iff_eq]at hg next
    simp only[GO,acs];have hw:Region.wanted o (yielded ops a.tmps)=false:=by
     rw[yY hg];rcases hc (by simp) with q|q
     ·rw[(oP hr hd).1 _ q];cases want<;>rfl
     ·rw[(oP hr hd).2 q];rfl
    refine Pq ho hr hw fun hr' => ?_;refine xC hd l base ι S _ w _ hgs ?_ hr' (fun hne=>?_) next
    ·cases l with
     | nil=>rfl
     | cons p l=>simp only[List.dropLast_cons_cons,acd,NO]at hds;exact hds.2
    ·cases l with
     | nil=>exact absurd rfl hne
     | cons p l =>
       simp only[List.dropLast_cons_cons,acd,NO,ho,bne_iff_ne,ne_eq]at hds;rw[De hds.1];exact hc (by simp)
theorem oH{K:St→Prop}:∀(l:List dh) (base:Nat) (ι:List Ix) (S:aZ) (a:Act) (w:World) (st:St),l.all (lV ops)=true→m≤st.h.length→cd base ι S a w st→lg P ops l st K →
 wpOps P ops (dy m base ι S w (iZ K Q)) (l.map dh.ix).flatten a w
 | [],base,ι,S,a,w,st,_,hm,hr,h=>⟨ι,S,st,bU.refl _ _ _ _ _,hm,hr,h⟩
 | .op i own:: r,base,ι,S,a,w,st,hok,hm,hr,h=>by
   simp only[acd,NO]at hok;obtain⟨hg,hok⟩:=hok;simp only[lg]at h;simp only[GO,aco,dh.ix,List.singleton_append];cases ho:ops[i]? with
   | none=>rw[ho]at h;exact h.elim
   | some o =>
     simp only[ho]at h;simp only[lV,ho,Option.isNone_iff_eq_none]at hg;exact DN ho hm hr (by simp[Region.wanted,hg]) h fun v h' ι' S' a' w' k hm' hr' => oH r base ι' S' a' w' _ hok hm' hr' k
 | .aB j want l cs ms:: r,base,ι,S,a,w,st,hok,hm,hr,h=>by
   simp only[acd,NO]at hok;obtain⟨hg,hok⟩:=hok;simp only[lg]at h;simp only[GO,aco,dh.ix];cases hd:eS ops j with
   | none=>rw[hd]at h;exact h.elim
   | some d =>
     simp only[hd]at h;simp only[lV,hd,NO]at hg;unfold aH at h;have after:∀{st':St} {ι':List Ix} {S':aZ} {a':Act} {w':World},st'.n=st.n→jmp cs ms st.fr st'.fr st'.h (fun s h=>lg P ops r ⟨st.n,join cs ms st.fr s,h⟩ K)→m≤st'.h.length→cd base ι' S' a' w' st' →
      wpOps P ops (dy m base ι' S' w' (iZ K Q)) (r.map dh.ix).flatten a' w':=by
      intro st' ι' S' a' w' hn q hm' hr';obtain⟨e1,k⟩:=rj q;exact oH r base ι' S' a' w' ⟨st.n,join cs ms st.fr (eB st'.fr ms),st'.h⟩ hok hm' ⟨hr'.df,by rw[←hn];exact hr'.sz,hr'.fr.join e1,hr'.hp⟩ k
     have rv:=hr.get d;rcases h with⟨t,ht0,g1,g2⟩|⟨hu,g2⟩
     ·rw[ht0]at rv
      by_cases ht:t=want
      ·subst ht;have hr2:cd base ι S a w ⟨st.n,fg st.fr d (.v (.bool t)),st.h⟩:=⟨hr.df,hr.sz,dD.Dz hr.fr rv,hr.hp⟩;exact IU hd l base ι S a w ⟨st.n,fg st.fr d (.v (.bool t)),st.h⟩ _ hg.1 hg.2 hm hr2 (fun _=>by simp[fD]) (g1 rfl) fun st' ι' S' a' w' k hm' hn' hr' => after hn' k hm' hr'
      ·have ht':t=!want:=by cases t<;>cases want<;>simp_all
       subst ht';have hr2:cd base ι S a w ⟨st.n,fg st.fr d (bI want (bC st.fr d)),st.h⟩:=⟨hr.df,hr.sz,dD.Dz hr.fr (by rw[ht0];exact rv),hr.hp⟩;refine xC hd l base ι S a w _ hg.1 hg.2 hr2 (fun _=>.inl (by simp[fD,ht0,bI])) fun a' hr' => ?_;have hh:=D5 ops l ⟨st.n,fg st.fr d (bI want (bC st.fr d)),st.h⟩;exact after hh.2 (by rw[hh.1];exact g2 rfl) (by rw[hh.1];exact hm) hr'
     ·have hr2:cd base ι S a w ⟨st.n,fg st.fr d (bI want (bC st.fr d)),st.h⟩:=⟨hr.df,hr.sz,dD.Dz hr.fr (by rw[hu]at rv ⊢;exact rv),hr.hp⟩;refine xC hd l base ι S a w _ hg.1 hg.2 hr2 (fun _=>.inr (by simp only[fD,if_true,hu];rfl)) fun a' hr' => ?_;have hh:=D5 ops l ⟨st.n,fg st.fr d (bI want (bC st.fr d)),st.h⟩;exact after hh.2 (by rw[hh.1];exact g2) (by rw[hh.1];exact hm) hr'
end
/-! ### Loops -/
def Wk(n:Nat)(s:List AV)(h:aa)(s':List AV)(h':aa):Prop:=
 n≤h'.length∧s'.length=s.length∧∀base ι S w vs,aE ι S w s vs→cN base ι S w h→∃ι' S',bU n base ι S w ι' S' w∧aE ι' S' w s' vs∧cN base ι' S' w h'
def bJ(s:List AV)(h:aa)(body:(List AV→aa→Prop)→List AV→aa→Prop):Prop:=
 ∃(α:Type) (I:α→Prop) (f:α→List AV) (g:α→aa) (μ:α→Nat) (x₀:α),I x₀∧Wk h.length s h (f x₀) (g x₀) ∧
  ∀x,I x→body (fun s' h' => ∃y,I y∧Wk h.length s' h' (f y) (g y)∧μ y<μ x) (f x) (g x)
omit [Laid] in
theorem aE.sH{fr:Fr}{tmps:Array Value}(h:dD ι S w fr tmps):∀ms:List Nat,aE ι S w (eB fr ms) (ms.map fun t=>tmps.getD t undef)
 | []=>by simp[eB]
 | t:: ms=>(bN _ _ _ _).2 ⟨h t,aE.sH h ms⟩
omit [Laid] in
def aE.nx{vs:List Value}(h:aE ι S w s vs)(e:vs[i]?=some v):ar ι S w (Aw.nx s i) v:=by
 obtain⟨a,e1,r⟩:=h.get' i v e;unfold Aw.nx;rw[nE,e1];exact r
theorem Ek{P:Program}{Q:Exit→St→Prop}{c:Code}{st:St}{cs ms:List Nat}(hm:m≤st.h.length)(body:(List AV→aa→Prop)→List AV→aa→Prop)
 (hb:∀next s h,st.h.length≤h.length→body next s h→AW P st.h.length c (iZ (fun st' => cO (Nat.beq st'.n st.n) (jmp cs ms st.fr st'.fr st'.h next)) Q) ⟨st.n,join cs ms st.fr s,h⟩) (hl:bJ (eB st.fr ms) st.h body):AW P m (.loop c) Q st:=by
 obtain⟨α,I,f,g,μ,x₀,h₀,hw₀,round⟩:=hl;intro base ι S a w _ hr;have hfl:∀{s:List AV} {h':aa} {x:α} {n:Nat},Wk n s h' (f x) (g x)→n≤(g x).length:=fun k=>k.1
 -- what stands at each round's beginning
 let Inv:α→Act→World→Prop:=fun x a' w' => I x∧∃ι' S',bU st.h.length base ι S w ι' S' w'∧st.h.length≤(g x).length∧cd base ι' S' a' w' ⟨st.n,join cs ms st.fr (f x),g x⟩∧dD ι' S' w' (kb cs st.fr) a'.tmps
 have enter:∀{x:α} {a':Act} {w':World} {ι1:List Ix} {S1:aZ} {s:List AV} {h':aa},bU st.h.length base ι S w ι1 S1 w'→a'.defers=[]→a'.tmps.size=st.n→cN base ι1 S1 w' h'→dD ι1 S1 w' (kb cs st.fr) a'.tmps→aE ι1 S1 w' s (ms.map fun t=>a'.tmps.getD t undef) →
  I x→Wk st.h.length s h' (f x) (g x)→Inv x a' w':=by
  intro x a' w' ι1 S1 s h' hE hdf hsz hp hc hs hI hw;obtain⟨hw1,hw2,hw3⟩:=hw;obtain⟨ι2,S2,hE2,hs2,hp2⟩:=hw3 base ι1 S1 w' _ hs hp;have hc2:dD ι2 S2 w' (kb cs st.fr) a'.tmps:=by
   intro t;have hbd:Bd st.h.length (bC (kb cs st.fr) t):=by
    rcases ny cs st.fr t with q|⟨_,q⟩
    ·rw[q];simp[Bd]
    ·rw[q];exact ar.bd (by rw[hr.hp.len];exact bY _) _ _ (hr.fr t)
   exact ar.im hE2 _ _ hbd (hc t)
  exact⟨hI,ι2,S2,hE.trans hE2,hw1,⟨hdf,hsz,dD.mX ms _ _ 0 hc2 fun i t e=>by rw[ab0];exact hs2.nx (by rw[iN,e];rfl),hp2⟩,hc2⟩
 have entry:Inv x₀ a w:=enter (bU.refl _ _ _ _ _) hr.df hr.sz hr.hp (hr.fr.norm cs) (aE.sH hr.fr ms) h₀ hw₀;refine wp_loop_ghost Inv μ x₀ entry fun x a' w' ⟨hx,ι',S',hE,hm',hr',_⟩=>?_;refine wp_mono (hb _ _ _ hm' (round x hx) base ι' S' a' w' hm' hr') ?_;intro e a'' w'' k;obtain⟨ι'',S'',st'',h1,h2,h3,h4⟩:=k;have out:Q e st''→dy m base ι S w Q e a'' w'':=fun q=>⟨ι'',S'',st'',(hE.trans h1).mono hm (bY _),ab3 hm h2,h3,q⟩;cases e with
 | normal =>
   obtain⟨hn,q⟩:=aY h4;obtain⟨e1,y,hy,hw,hlt⟩:=rj q;have hn:st''.n=st.n:=lE hn;exact⟨y,enter (hE.trans h1) h3.df (by rw[←hn];exact h3.sz) h3.hp (h3.fr.fB e1) (aE.sH h3.fr ms) hy hw,hlt⟩
 | exit id=>exact out h4
 | goto l=>exact out h4
 | ret=>exact out h4
 | panic ch=>exact out h4
 | outgrown=>exact out h4
/-! ### Code -/
inductive Fk where
 | nil
 | one (i k:Nat) (own:Bool) (t:Fk)
 | two (a b:Fk)
inductive An where
 | nil
 | seq (a b:An)
 | join (cs ms:List Nat) (a b:An)
 | two (a b:An)
 | one (a:An)
 | loop (cs ms:List Nat) (a:An)
 | aQ (l:List dh)
 | draw (t:Nat) (l r q:List dh)
 | JM (t:Nat) (A:List Nat) (l:List (Nat×Bool)) (r q:List dh)
 | jX (l:List (Nat×Nat×Bool))
 | JN (t:Fk)
def An.l:An→An|.seq a _=>a|.join _ _ a _=>a|.two a _=>a|.one a=>a|.loop _ _ a=>a|_=>.nil
def An.r:An→An|.seq _ b=>b|.join _ _ _ b=>b|.two _ b=>b|_=>.nil
def An.s:An→List dh|.aQ l=>l|_=>[]
def An.j:An→Option (List Nat×List Nat)|.join c m _ _=>some (c,m)|.loop c m _=>some (c,m)|_=>none
def plain(n:Nat):List dh:=(List.range n).map fun i=>.op i false
def An.sg(t:An)(n:Nat):List dh:=match t with|.aQ l=>l|_=>plain n
def oJ{own:Bool}{ev ev':Operand→AV}{op:Op}{K:AV→aa→Prop}(he:∀x∈op.operands,ev x=ev' x)(k:bE P own ev h op K):bE P own ev' h op K:=by
 have lst:∀l:List Operand,(∀x∈l,ev x=ev' x)→l.map ev=l.map ev':=fun l hl=>List.map_congr_left hl;cases op<;>simp only[Op.operands]at he<;>simp only[bE]at k ⊢
 case move x=>rw[←he x (by simp)];exact k
 case assign x=>rw[←he x (by simp)];exact k
 case pick c a b=>rw[←he c (by simp),←he a (by simp),←he b (by simp)];exact k
 case alloc t=>exact k
 case box t x=>rw[←he x (by simp)];exact k
 case build t ps =>
  have e1:∀(f g:Nat→Nat),(ps.toList.map fun p=>(f p.1,g p.1,ev p.2))=ps.toList.map fun p=>(f p.1,g p.1,ev' p.2):=fun f g=>List.map_congr_left fun p hp=>by
   rw[he p.2 (by simp;exact⟨p.1,by simpa using hp⟩)]
  split at k
  ·rename_i fs z _ _;rw[←e1 (fun i=>((fs[i]?).map (·.offset)).getD 0) (fun i=>((fs[i]?).map (fun f=>P.cellsOf f.type)).getD 0)];exact k
  ·rename_i n e z _ _;rw[←e1 (fun i=>i*P.cellsOf e) (fun _=>P.cellsOf e)];exact k
  ·exact k
 case buildSlice t n ps =>
  have e1:∀(f g:Nat→Nat),(ps.toList.map fun p=>(f p.1,g p.1,ev p.2))=ps.toList.map fun p=>(f p.1,g p.1,ev' p.2):=fun f g=>List.map_congr_left fun p hp=>by
   rw[he p.2 (by simp;exact⟨p.1,by simpa using hp⟩)]
  split at k
  ·rename_i e _;split at k
   ·rw[←e1 (fun i=>i*P.cellsOf e) (fun _=>P.cellsOf e)];exact k
   ·exact k
  ·exact k
 case makeSlice t l c=>rw[←he l (by simp),←he c (by simp)];exact k
 case load t x=>rw[←he x (by simp)];exact k
 case store t x v=>rw[←he x (by simp),←he v (by simp)];exact k
 case nilCheck x=>rw[←he x (by simp)];exact k
 case binOp o t x y yt=>rw[←he x (by simp),←he y (by simp)];exact k
 case unOp o t x =>
  cases o<;>simp only[bE]at k ⊢
  case neg=>rw[←he x (by simp)];exact k
  case not=>rw[←he x (by simp)];exact k
  case xor=>rw[←he x (by simp)];exact k
 case convert s d x=>rw[←he x (by simp)];exact k
 case makeInterface t x=>rw[←he x (by simp)];exact k
 case typeAssert x xT a ok =>
  cases ok<;>simp only[bE]at k ⊢;rw[←he x (by simp)];exact k
 case makeFunc f xs ys =>
  rw[←lst xs.toList fun x hx=>he x (by simp at hx ⊢;exact .inl hx),←lst ys.toList fun x hx=>he x (by simp at hx ⊢;exact .inr hx)];exact k
 case slice t x lo hi mx =>
  have e0:=he x (by simp);have e1:lo.map ev=lo.map ev':=by cases lo<;>simp_all
  have e2:hi.map ev=hi.map ev':=by cases hi<;>simp_all
  cases mx<;>simp only[bE]at k ⊢;rw[←e0,←e1,←e2];exact k
 case fieldAddr t x i=>rw[←he x (by simp)];exact k
 case field t x i=>rw[←he x (by simp)];exact k
 case indexAddr t x i=>rw[←he x (by simp),←he i (by simp)];exact k
 case index t x i=>rw[←he x (by simp),←he i (by simp)];exact k
 case extract x i=>rw[←he x (by simp)];exact k
 case call c =>
  have ea:∀x∈c.args,ev x=ev' x:=fun x hx=>he x (by simp[Call.operands];exact .inr hx);have el:c.args.toList.map ev=c.args.toList.map ev':=lst _ fun x hx=>ea x (by simpa using hx);cases hc:c.callee with
  | value x =>
    rw[hc]at k;simp only at k ⊢;rw[←el,←he x (by simp[Call.operands,hc])];exact k
  | invoke r m =>
    rw[hc]at k;simp only at k ⊢;rw[←el,←he r (by simp[Call.operands,hc])];exact k
  | builtin b =>
    rw[hc]at k;cases b<;>simp only at k⊢<;> (try exact k)
    case len =>
     cases h0:c.argTypes[0]?<;>cases h1:c.args[0]?<;>rw[h0,h1]at k<;>simp only at k ⊢;rename_i t x;rw[←ea x (Array.mem_of_getElem? h1)];exact k
    case min =>
     split at k
     ·rename_i x y hxy;have m:∀z∈c.args.toList,ev z=ev' z:=fun z hz=>ea z (by simpa using hz);rw[hxy]at m;rw[←m x (by simp),←m y (by simp)];exact k
     ·exact k
    case max =>
     split at k
     ·rename_i x y hxy;have m:∀z∈c.args.toList,ev z=ev' z:=fun z hz=>ea z (by simpa using hz);rw[hxy]at m;rw[←m x (by simp),←m y (by simp)];exact k
     ·rename_i x y z hxy;have m:∀z∈c.args.toList,ev z=ev' z:=fun z hz=>ea z (by simpa using hz);rw[hxy]at m;rw[←m x (by simp),←m y (by simp),←m z (by simp)];exact k
     ·exact k
    case append =>
     split at k
     ·rename_i t tx x y hat hxy;have m:∀z∈c.args.toList,ev z=ev' z:=fun z hz=>ea z (by simpa using hz);rw[hxy]at m;rw[←m x (by simp),←m y (by simp)];exact k
     ·exact k
/-! ### One order for all -/
section
variable (P:Program) (ops:Array Oper) (n:Nat) (h:aa)
def gM(o:Oper)(fr:Fr):Option Bool:=
 match o.guard with
 | none=>some true
 | some (j,w)=>match eS ops j with
   | some d=>match bC fr d with
     | .v (.bool b)=>some (b == w)
     | .v (.tuple x)=>if x=#[] then some false else none
     | _=>none
   | none=>none
def YA(o:Oper)(x:AV)(fr:Fr):Prop:=
 (gM ops o fr=some true∧∃own,bE P own (aG fr) h o.op fun v h' => v=x∧h'=h)∨(gM ops o fr=some false∧x=.v undef)
def qA(i:Nat)(K:Fr→Prop)(fr:Fr):Prop:=
 match ops[i]? with
 | none=>K fr
 | some o=>∃x,YA P ops h o x fr∧K (bL n fr o.dst x)
def full(t:Nat):Array Bool:=(Array.range ops.size).map fun i=>decide (i<t)
def Em(t:Nat)(Z:Fr→Prop):Nat→Array Bool→Fr→Prop
 | 0,listed,fr=>listed=full ops t∧Z fr
 | fuel+1,listed,fr=>Region.ready .any ops listed≠[]∧∀i∈Region.ready .any ops listed,i<t∧qA P ops n h i (Em t Z fuel (listed.setIfInBounds i true)) fr
def lY(Q:Fr→Prop):List Oper→Fr→Prop
 | [],fr=>Q fr
 | o:: r,fr=>∃x,YA P ops h o x fr∧lY Q r (bL n fr o.dst x)
end
section
variable {P:Program} {ops:Array Oper} {n:Nat} {h:aa}
def yw{K K':Fr→Prop}{fr:Fr}(hk:∀fr,K fr→K' fr)(q:qA P ops n h i K fr):qA P ops n h i K' fr:=by
 unfold qA at *;split
 ·rename_i e;rw[e]at q;exact hk _ q
 ·rename_i o e;rw[e]at q;obtain⟨x,h1,h2⟩:=q;exact⟨x,h1,hk _ h2⟩
omit [Laid] in
def wa{fr:Fr}(hd:∀t,d=some t→e≠some t):bL n (bL n fr d x) e y=bL n (bL n fr e y) d x:=by
 unfold bL;cases d with
 | none=>cases e<;>rfl
 | some t =>
   cases e with
   | none=>rfl
   | some u =>
     have:t≠u:=fun q=>hd t rfl (by rw[q]);simp only;split<;>split<;>first|rfl|exact Mc _ _ _ this
def YA.same{fr fr':Fr}(hs:∀t∈o.looksAt ops,bC fr' t=bC fr t)(hy:YA P ops h o x fr):YA P ops h o x fr':=by
 have hw:gM ops o fr'=gM ops o fr:=by
  unfold gM;cases hg:o.guard with
  | none=>rfl
  | some jw =>
    obtain⟨j,w⟩:=jw;simp only;cases hd:eS ops j with
    | none=>rfl
    | some d =>
      have:bC fr' d=bC fr d:=hs d (by
       unfold Oper.looksAt;refine List.mem_append_right _ ?_;simp only[hg];unfold eS at hd;rw[hd];simp)
      simp only[this]
 have he:∀y∈o.op.operands,aG fr y=aG fr' y:=by
  intro y hy;cases y with
  | tmp t =>
    have:bC fr' t=bC fr t:=hs t (by
     unfold Oper.looksAt;refine List.mem_append_left _ ?_;simp only[aca];exact⟨.tmp t,by simpa using hy,rfl⟩)
    simp[aG,this]
  | _=>rfl
 unfold YA at *;rw[hw];rcases hy with⟨h1,h2⟩|h1
 ·exact .inl ⟨h1,h2.imp fun _ k=>oJ he k⟩
 ·exact .inr h1
def YA.put{o oj:Oper}{fr:Fr}(hap:∀d,oj.dst=some d→d∉o.looksAt ops)(hy:YA P ops h o x fr):YA P ops h o x (bL n fr oj.dst y):=
 hy.same fun t ht=>fF fun e he q=>hap e he (q▸ht)
def YA.XX{o oj:Oper}{fr:Fr}(hap:∀d,oj.dst=some d→d∉o.looksAt ops)(hy:YA P ops h o x (bL n fr oj.dst y)):YA P ops h o x fr:=
 hy.same fun t ht=>(fF fun e he q=>hap e he (q▸ht)).symm
def Md{oi oj:Oper}{K:Fr→Prop}{fr:Fr}(hj:ops[j]?=some oj)(hap:oi.apart ops oj=true)(hy:YA P ops h oi x fr)(q:qA P ops n h j K (bL n fr oi.dst x)):
 qA P ops n h j (fun fr' => YA P ops h oi x fr'∧K (bL n fr' oi.dst x)) fr:=by
 obtain⟨h1,h2,h3⟩:=Oper.apart_spec hap;unfold qA at *;simp only[hj]at *;obtain⟨y,q1,q2⟩:=q;refine⟨y,q1.XX h1,hy.put h3, ?_⟩;rw[wa (fun t ht=>h2 t ht)]at q2;exact q2
def tL{base:Nat}{fr:Fr}(hr:cd base ι S a w ⟨n,fr,h⟩)(hw:gM ops o fr=some b):Region.wanted o (yielded ops a.tmps)=b:=by
 unfold gM at hw;unfold Region.wanted;cases hg:o.guard with
 | none=>rw[hg]at hw;simp only[On]at hw;exact hw
 | some jw =>
   obtain⟨j,w'⟩:=jw;rw[hg]at hw;simp only at hw ⊢;split at hw
   ·rename_i d hd;split at hw
    ·rename_i b' hb;rw[(oP hr hd).1 b' hb];simp only[On]at hw;rw[←hw];cases b'<;>cases w'<;>rfl
    ·rename_i x hx;split at hw
     ·rename_i e;subst e;rw[(oP hr hd).2 hx];simp only[On]at hw;rw[←hw];rfl
     ·cases hw
    ·cases hw
   ·cases hw
theorem zu{m i base:Nat}{fr:Fr}{K:Fr→Prop}{K':Act→World→Prop}{Q':Exit→Act→World→Prop}(hm:m≤ι.length)(hr:cd base ι S a w ⟨n,fr,h⟩)
 (hk:∀ι' S' a' w' fr',bU m base ι S w ι' S' w'→cd base ι' S' a' w' ⟨n,fr',h⟩→K fr'→K' a' w') (q:qA P ops n h i K fr):wpOp P ops Q' i K' a w:=by
 unfold qA at q;unfold wpOp;split
 ·rename_i e;rw[e]at q;exact hk ι S a w fr (bU.refl _ _ _ _ _) hr q
 ·rename_i o e;rw[e]at q;obtain⟨x,hy,q⟩:=q;rcases hy with⟨hw,own,hy⟩|⟨hw,rfl⟩
  ·rw[if_pos (tL hr hw)];left;refine nH (fun a' w' k=>?_) (fun _ _ _ k=>k) (oI (st:=⟨n,fr,h⟩) hr hy Q');obtain⟨ι',S',v,h',hE,hR,hl,rfl,rfl⟩:=k;exact hk ι' S' a' w' _ (hE.mono hm (bY _)) hR q
  ·rw[tL hr hw];simp only[abT,if_false];have p:=hr.put (x:=.v undef) (v:=undef) o.dst (by simp);refine hk ι S _ w (bL n fr o.dst (.v undef)) (bU.refl _ _ _ _ _) ?_ q;cases hd:o.dst with
   | none=>rw[hd]at p;exact p
   | some t=>rw[hd]at p;exact p
omit [Laid] in
def Ks{K K':Act→World→Prop}{Q Q':Exit→Act→World→Prop}(h1:∀a w,K a w→K' a w)(h2:∀e a w,Q e a w→Q' e a w)(q:wpOp P ops Q i K a w):wpOp P ops Q' i K' a w:=by
 unfold wpOp at *;split
 ·rename_i e;rw[e]at q;exact h1 _ _ q
 ·rename_i o e;rw[e]at q;simp only at q;split
  ·rename_i hw;rw[if_pos hw]at q;rcases q with q|⟨q,a0,w0,k⟩
   ·exact .inl (nH h1 h2 q)
   ·exact .inr ⟨q,a0,w0,h2 _ _ _ k⟩
  ·rename_i hw;rw[if_neg hw]at q;exact h1 _ _ q
omit [Laid] in
theorem dW{md:Region.Mode}{Q Q':Exit→Act→World→Prop}(hq:∀e a w,Q e a w→Q' e a w):∀(fuel:Nat) (listed:Array Bool) (a:Act) (w:World),wpAny P md ops Q fuel listed a w→wpAny P md ops Q' fuel listed a w
 | 0,_,_,_,q=>⟨q.1,hq _ _ _ q.2⟩
 | fuel+1,listed,a,w,q=>⟨fun e=>hq _ _ _ (q.1 e),fun i hi=>Ks (fun a w=>dW hq fuel _ a w) hq (q.2 i hi)⟩
def Down(ops:Array Oper)(listed:Array Bool):Prop:=
 ∀(i:Nat) (o:Oper),ops[i]?=some o→listed.getD i false=true→∀e∈o.after,Region.binds .any e=true→listed.getD e.on false=true
omit [Laid] in
def Down.set{listed:Array Bool}(hd:Down ops listed)(hr:i∈Region.ready .any ops listed):Down ops (listed.setIfInBounds i true):=by
 intro j o ho hl e he hb;obtain⟨h0,oi,hoi,hall⟩:=mem_ready.1 hr;have up:listed.getD e.on false=true→(listed.setIfInBounds i true).getD e.on false=true:=fun q=>by
  by_cases he:i=e.on
  ·have hlt:i<listed.size:=by
    rcases uP i listed.size with k|k
    ·exact k
    ·rw[←he]at q;simp[acw k]at q
   rw[←he];simp[Array.getD_eq_getD_getElem?,Array.getElem?_setIfInBounds,hlt]
  ·rw[getD_set_ne false he];exact q
 by_cases hj:j=i
 ·subst hj;rw[hoi]at ho;cases ho;exact up (hall e he hb)
 ·rw[getD_set_ne false (Ne.symm hj)]at hl;exact up (hd j o ho hl e he hb)
def eg(ops:Array Oper)(i:Nat):List Nat:=match ops[i]? with|some o=>(o.after.toList.filter (Region.binds .any)).map (·.on)|none=>[]
def KW(ops:Array Oper):Nat→List Nat→List Nat
 | 0,l=>l
 | k+1,l=>KW ops k (l++l.flatMap (eg ops)).eraseDups
omit [Laid] in
theorem qJ{listed:Array Bool}(hd:Down ops listed):∀(k:Nat) (l:List Nat),(∀i∈l,listed.getD i false=true)→∀i∈KW ops k l,listed.getD i false=true
 | 0,l,hl,i,hi=>hl i hi
 | k+1,l,hl,i,hi=>by
   refine qJ hd k _ (fun j hj=>?_) i hi;rw[List.mem_eraseDups]at hj;rcases Is.1 hj with hj|hj
   ·exact hl j hj
   ·obtain⟨q,hq,hj⟩:=List.mem_flatMap.1 hj;unfold eg at hj;split at hj
    ·rename_i o ho;simp only[abP,ab8]at hj;obtain⟨e,⟨he,hb⟩,rfl⟩:=hj;exact hd q o ho (hl q hq) e (by simpa using he) hb
    ·cases hj
def qN(ops:Array Oper)(t:Nat):Bool:=(List.range ops.size).all fun i=>decide (i<t)||(List.range t).all fun k=>(KW ops ops.size (eg ops i)).contains k
omit [Laid] in
def vz{listed:Array Bool}(hd:Down ops listed)(hb:qN ops t=true)(hi:t≤i)(hr:i∈Region.ready .any ops listed):∀k,k<t→listed.getD k false=true:=by
 intro k hk;obtain⟨h0,o,ho,hall⟩:=mem_ready.1 hr;have hlt:=(AS.1 ho).1;have:=At.1 hb i (by simpa using hlt);simp only[aci,Of]at this;rcases this with q|q
 ·omega
 ·have:=At.1 q k (by simpa using hk);rw[List.contains_iff_mem]at this;refine qJ hd ops.size _ (fun j hj=>?_) k this;unfold eg at hj;rw[ho]at hj;simp only[abP,ab8]at hj;obtain⟨e,⟨he,hb⟩,rfl⟩:=hj;exact hall e (by simpa using he) hb
omit [Laid] in
def pz{listed:Array Bool}(h0:listed.getD i true=false)(h1:listed.getD i false=true):False:=by
 rcases uP i listed.size with h' | h'
 ·simp[h']at h0 h1;rw[h0]at h1;cases h1
 ·simp[acw h']at h1
theorem Jn{Z:Fr→Prop}{oi:Oper}{x:AV}(hB:qN ops t=true)(hi:ops[i]?=some oi)(hT:i<t):∀(fuel:Nat) (listed:Array Bool) (fr:Fr),Down ops listed →
 (∀j oj,ops[j]?=some oj→j≠i→j<t→listed.getD j true=false→(∀e∈oj.after,Region.binds .any e=true→e.on≠i)→oi.apart ops oj=true) →
 i∈Region.ready .any ops listed→YA P ops h oi x fr→Em P ops n h t Z fuel (listed.setIfInBounds i true) (bL n fr oi.dst x)→Em P ops n h t Z (fuel+1) listed fr:=by
 have own:∀{K:Fr→Prop} {fr:Fr},YA P ops h oi x fr→K (bL n fr oi.dst x)→qA P ops n h i K fr:=fun hy hk=>by unfold qA;simp only[hi];exact⟨x,hy,hk⟩
 intro fuel;induction fuel with
 | zero =>
   intro listed fr hd hfree hr hy H;refine⟨fun q=>(by rw[q]at hr;cases hr),fun j hj=>?_⟩;have hj0:=(mem_ready.1 hj).1;have hjlt:j<t:=by
    rcases uP j t with q|q
    ·exact q
    ·exact (pz (mem_ready.1 hr).1 (vz hd hB q hj i hT)).elim
   refine⟨hjlt, ?_⟩
   by_cases hji:j=i
   ·subst hji;exact own hy H
   ·exfalso;have e:=congrArg (fun a=>a.getD j true) H.1;simp only[getD_set_ne true (Ne.symm hji)]at e;rw[hj0]at e;obtain⟨_,oj,hoj,_⟩:=mem_ready.1 hj;have hlt:=(AS.1 hoj).1;simp[full,hlt,hjlt]at e
 | succ fuel ih =>
   intro listed fr hd hfree hr hy H;refine⟨fun q=>(by rw[q]at hr;cases hr),fun j hj=>?_⟩;have hjlt:j<t:=by
    rcases uP j t with q|q
    ·exact q
    ·exact (pz (mem_ready.1 hr).1 (vz hd hB q hj i hT)).elim
   refine⟨hjlt, ?_⟩
   by_cases hji:j=i
   ·subst hji;exact own hy H
   ·obtain⟨_,h1⟩:=H.2 j (ready_mono hj hji);obtain⟨hjun,oj,hoj,hall⟩:=mem_ready.1 hj;have hnot:∀e∈oj.after,Region.binds .any e=true→e.on≠i:=fun e he hb heq=>by
     have h1:=hall e he hb;rw[heq]at h1;exact pz (mem_ready.1 hr).1 h1
    have h2:=Md hoj (hfree j oj hoj hji hjlt hjun hnot) hy h1;have hfree':∀k ok,ops[k]?=some ok→k≠i→k<t→(listed.setIfInBounds j true).getD k true=false →
     (∀e∈ok.after,Region.binds .any e=true→e.on≠i)→oi.apart ops ok=true:=fun k ok hk hki hkT hun hno=>by
     refine hfree k ok hk hki hkT ?_ hno
     by_cases hjk:j=k
     ·subst hjk;exact hjun
     ·rw[getD_set_ne true hjk]at hun;exact hun
    refine yw (fun fr' h3=>ih (listed.setIfInBounds j true) fr' (hd.set hj) hfree' (ready_mono hr (Ne.symm hji)) h3.1 ?_) h2;rw[Array.setIfInBounds_comm _ _ hji];exact h3.2
def Ax(ops:Array Oper)(listed:Array Bool)(t i:Nat):Bool:=
 match ops[i]? with
 | some oi=>(List.range t).all fun j=>j == i||listed.getD j true||(eg ops j).contains i||(match ops[j]? with|some oj=>oi.apart ops oj|none=>true)
 | none=>false
def sa(ops:Array Oper)(t:Nat):Nat→Nat→Array Bool→Bool
 | 0,_,listed=>listed == full ops t
 | fuel+1,k,listed=>(Region.ready .any ops listed).contains k&&decide (k<t)&&Ax ops listed t k&&sa ops t fuel (k+1) (listed.setIfInBounds k true)
omit [Laid] in
def vv{listed:Array Bool}{oi:Oper}(hi:ops[i]?=some oi)(hf:Ax ops listed t i=true):
 ∀j oj,ops[j]?=some oj→j≠i→j<t→listed.getD j true=false→(∀e∈oj.after,Region.binds .any e=true→e.on≠i)→oi.apart ops oj=true:=by
 intro j oj hj hji hjT hun hno;unfold Ax at hf;rw[hi]at hf;have:=At.1 hf j (by simpa using hjT);simp only[hj,aci,beq_iff_eq,hji,hun,false_or,abT]at this;rcases this with h1|h1
 ·exfalso;unfold eg at h1;rw[hj]at h1;simp only[List.contains_iff_mem,abP,ab8]at h1;obtain⟨e,⟨he,hb⟩,q⟩:=h1;exact hno e (by simpa using he) hb q
 ·exact h1
theorem Ey{Z:Fr→Prop}(hB:qN ops t=true):∀(l:List Oper) (k:Nat) (listed:Array Bool) (fr:Fr),(∀j,j<l.length→l[j]?=ops[k+j]?)→Down ops listed →
 sa ops t l.length k listed=true→lY P ops n h Z l fr→Em P ops n h t Z l.length listed fr
 | [],k,listed,fr,_,_,hL,q=>by
   simp only[acp,sa,beq_iff_eq]at hL;exact⟨hL,q⟩
 | o:: l,k,listed,fr,hl,hd,hL,q=>by
   have h0:ops[k]?=some o:=by simpa using (hl 0 (by simp)).symm
   simp only[abL,sa,NO,Of]at hL;obtain⟨⟨⟨hr,hkT⟩,hf⟩,hL'⟩:=hL;obtain⟨x,hy,hK⟩:=q;have hr':k∈Region.ready .any ops listed:=by simpa using hr
   exact Jn hB h0 hkT l.length listed fr hd (vv h0 hf) hr' hy
    (Ey hB l (k+1) _ _ (fun j hj=>by have:=hl (j+1) (by simp;omega);simpa[Nat.add_assoc,Nat.add_comm 1 j]using this) (hd.set hr') hL' hK)
theorem zW{m t more:Nat}{Z:Fr→Prop}{Q':Exit→St→Prop}(hZ:∀fr base ι S a w,cd base ι S a w ⟨n,fr,h⟩→Z fr→wpAny P .any ops (dy m base ι S w Q') more (full ops t) a w):∀(fuel:Nat) (listed:Array Bool) (base:Nat) (ι:List Ix) (S:aZ) (a:Act) (w:World) (fr:Fr),
 m≤h.length→cd base ι S a w ⟨n,fr,h⟩→Em P ops n h t Z fuel listed fr→wpAny P .any ops (dy m base ι S w Q') (fuel+more) listed a w
 | 0,listed,base,ι,S,a,w,fr,hm,hr,q=>by rw[ab0,q.1];exact hZ fr base ι S a w hr q.2
 | fuel+1,listed,base,ι,S,a,w,fr,hm,hr,q=>by
   rw[show fuel+1+more=(fuel+more)+1 by omega];refine⟨fun e=>absurd e q.1,fun i hi=>?_⟩;refine zu (m:=m) (by rw[hr.hp.len];exact hm) hr (fun ι' S' a' w' fr' hE hr' k=>?_) (q.2 i hi).2;have:=zW hZ fuel (listed.setIfInBounds i true) base ι' S' a' w' fr' hm hr' k;exact dW (fun e a w z=>dy.trans hE z) _ _ _ _ this
def oo(ops:Array Oper):List Nat→Array Bool→Option (Array Bool)
 | [],listed=>some listed
 | i:: l,listed=>match Region.ready .any ops listed == [i] with
   | true=>oo ops l (listed.setIfInBounds i true)
   | false=>none
omit [Laid] in
theorem tS:∀(l:List Nat) (listed listed':Array Bool),Down ops listed→oo ops l listed=some listed'→Down ops listed'
 | [],listed,listed',hd,hc=>by simp only[oo,On]at hc;exact hc▸hd
 | i:: l,listed,listed',hd,hc=>by
   simp only[oo]at hc;split at hc
   ·rename_i e;simp only[beq_iff_eq]at e;exact tS l _ _ (hd.set (by rw[e];simp)) hc
   ·cases hc
omit [Laid] in
def Pr{o:Oper}{a:Act}{w:World}{K K':Act→World→Prop}{Q Q':Exit→Act→World→Prop}(h1:∀a w,K a w→K' a w)(h2:∀e a w,e≠.normal→Q e a w→Q' e a w)(h:o.wp P a w K Q):o.wp P a w K' Q':=by
 unfold Oper.wp at *;generalize (execOp a.eval o).run P w=r at *;unfold Oper.upon at *;split at h
 ·exact h1 _ _ h
 ·exact h1 _ _ h
 ·exact h1 _ _ h
 ·exact h.mono fun e w' k=>by
   cases e with
   | returned v=>exact h1 _ _ k
   | panicked ch=>exact h2 _ _ _ (by simp) k
   | outgrown=>obtain⟨a0,w0,k⟩:=k;exact⟨a0,w0,h2 _ _ _ (by simp) k⟩
 ·exact h.mono fun v w' k=>h1 _ _ k
 ·exact h2 _ _ _ (by simp) h
 ·exact h.elim
omit [Laid] in
theorem u9{Q Q2:Exit→Act→World→Prop}{more:Nat}{listed':Array Bool}(hq:∀e a w,e≠.normal→Q2 e a w→Q e a w)(hn:∀a w,Q2 .normal a w→wpAny P .any ops Q more listed' a w):
 ∀(l:List Nat) (listed:Array Bool) (a:Act) (w:World),oo ops l listed=some listed'→wpOps P ops Q2 l a w→wpAny P .any ops Q (l.length+more) listed a w
 | [],listed,a,w,hc,h=>by
   simp only[oo,On]at hc;subst hc;simp only[acp,ab0];exact hn a w h
 | i:: l,listed,a,w,hc,h=>by
   simp only[oo]at hc;split at hc
   ·rename_i e;simp only[beq_iff_eq]at e;rw[abL,show l.length+1+more=(l.length+more)+1 by omega];refine⟨fun q=>(by rw[e]at q;cases q),fun j hj=>?_⟩;rw[e]at hj;simp only[TO]at hj;subst hj;have up:=fun a' w' => u9 hq hn l (listed.setIfInBounds j true) a' w' hc;unfold wpOp;simp only[wpOps]at h;cases ho:ops[j]? with
    | none =>
      rw[ho]at h;exact up a w h
    | some o =>
      rw[ho]at h;simp only at h ⊢;split
      ·rename_i hw;rw[if_pos hw]at h;rcases h with h|⟨h,a0,w0,k⟩
       ·exact .inl (Pr up hq h)
       ·exact .inr ⟨h,a0,w0,hq _ _ _ (by simp) k⟩
      ·rename_i hw;rw[if_neg hw]at h;exact up _ w h
   ·cases hc
end
/-! ### The condition on abstract values -/
def BQ(S:(AV→aa→Prop)→Prop)(h:aa)(K:AV→Prop):Prop:=∃x,S (fun v h' => v=x∧h'=h)∧K x
def gR(W:(AV→Prop)→Prop):Prop:=∀K:AV→Prop,W K→∃x,W (fun v=>v=x∧True)∧K x
section
omit [Laid] in
def Lh(k:IntKind)(n:Int):gR (qC k n):=by
 intro K;unfold qC;split<;>intro q<;>first|exact⟨_,⟨rfl,trivial⟩,q⟩|exact⟨_,⟨q.1,rfl,trivial⟩,q.2⟩
omit [Laid] in
def QP(op:BinOp)(k:IntKind)(a b:Int):gR (qo op k a b):=by
 intro K;unfold qo;split<;>intro q<;>first|exact Lh _ _ K q|exact⟨_,⟨rfl,trivial⟩,q⟩|exact⟨_,⟨q.1,rfl,trivial⟩,q.2⟩|exact q.elim
omit [Laid] in
def QY(op:BinOp)(a b:List UInt8):gR (zk op a b):=by
 intro K;unfold zk;split<;>intro q<;>first|exact⟨_,⟨rfl,trivial⟩,q⟩|exact⟨_,⟨q.1,rfl,trivial⟩,q.2⟩|exact q.elim
omit [Laid] in
def Lg(op:BinOp)(k:IntKind)(a b:Int):gR (xf op k a b):=by
 intro K;unfold xf;split<;>intro q<;>first|exact⟨_,⟨q.1,rfl,trivial⟩,q.2⟩|exact q.2.elim
omit [Laid] in
def Hy(op:BinOp)(x y:AV):gR (ag op x y):=by
 intro K;unfold ag;split
 ·split
  ·exact Lg _ _ _ _ K
  ·intro q;obtain⟨x,q1,q2⟩:=QP _ _ _ _ K q.2;exact⟨x,⟨q.1,q1⟩,q2⟩
 ·exact QY _ _ _ K
 ·exact fun q=>q.elim
omit [Laid] in
def N6(op:BinOp)(x y:AV):gR (oy op x y):=by
 intro K;unfold oy;split
 ·split<;>intro q<;>first|exact⟨_,⟨rfl,trivial⟩,q⟩|exact q.elim
 ·exact fun q=>q.elim
omit [Laid] in
def QM(neg:Bool)(ks:List Nat)(x y:AV):gR (me neg ks x y):=by
 intro K;unfold me;split
 ·split<;>intro q<;>first|exact⟨_,⟨rfl,trivial⟩,q⟩|exact q.elim
 ·exact fun q=>q.elim
omit [Laid] in
def Oi(c a b:AV):gR (bA c a b):=by
 rintro K ⟨t,rfl,h1,h2⟩;cases t with
 | true=>exact⟨a,⟨true,rfl,fun _=>⟨rfl,trivial⟩,fun q=>by cases q⟩,h1 rfl⟩
 | false=>exact⟨b,⟨false,rfl,(fun q=>by cases q),fun _=>⟨rfl,trivial⟩⟩,h2 rfl⟩
omit [Laid] in
def QV(x:AV):gR (cq x):=by rintro K ⟨t,rfl,q⟩;exact⟨_,⟨t,rfl,rfl,trivial⟩,q⟩
omit [Laid] in
def QT(x:AV):gR (pd x):=by
 rintro K ⟨k,n,rfl,q⟩;obtain⟨y,q1,q2⟩:=Lh _ _ K q;exact⟨y,⟨k,n,rfl,q1⟩,q2⟩
omit [Laid] in
def N7(k:IntKind)(x:AV):gR (cy k x):=by rintro K ⟨k',n,rfl,q⟩;exact⟨_,⟨k',n,rfl,rfl,trivial⟩,q⟩
omit [Laid] in
def Oj(x:AV):gR (AA x):=by
 intro K;unfold AA;split<;>intro q<;>first|exact⟨_,⟨rfl,trivial⟩,q⟩|exact q.elim
omit [Laid] in
def N8(i:Nat)(x:AV):gR (aU i x):=by
 intro K;unfold aU;split
 ·split<;>intro q<;>first|exact⟨_,⟨rfl,trivial⟩,q⟩|exact q.elim
 ·exact fun q=>q.elim
omit [Laid] in
def xV(g:Bool)(sz:Nat)(cs:List AV):gR (lR g sz cs):=by
 intro K;unfold lR;split
 ·exact fun q=>⟨_,⟨q.1,rfl,trivial⟩,q.2⟩
 ·split<;>intro q<;>first|exact⟨_,⟨rfl,trivial⟩,q⟩|exact q.elim
omit [Laid] in
def QO(g:Bool)(o n:Nat)(x:AV):gR (rX g o n x):=by
 intro K;unfold rX;split
 ·exact xV _ _ _ K
 ·exact fun q=>q.elim
omit [Laid] in
def Od(x i:AV):gR (eJ x i):=by
 intro K;unfold eJ;split<;>intro q<;>first|exact⟨_,⟨q.1,rfl,trivial⟩,q.2⟩|exact q.elim
omit [Laid] in
def N9(g:Bool)(sz len:Nat)(x i:AV):gR (mN g sz len x i):=by
 intro K;unfold mN;split
 ·intro q;obtain⟨y,q1,q2⟩:=xV _ _ _ K q.2;exact⟨y,⟨q.1,q1⟩,q2⟩
 ·exact fun q=>q.elim
omit [Laid] in
def QX(x:AV)(lo hi:Option AV):gR (eW x lo hi):=by
 intro K;unfold eW;split
 ·split<;>intro q<;>first|exact⟨_,⟨q.1,rfl,trivial⟩,q.2⟩|exact q.elim
 ·exact fun q=>q.elim
omit [Laid] in
def Uk(n:Nat)(x:AV)(lo hi:Option AV):gR (lD n x lo hi):=by
 intro K;unfold lD;split
 ·split<;>intro q<;>first|exact⟨_,⟨q.1,q.2.1,rfl,trivial⟩,q.2.2⟩|exact q.elim
 ·split<;>intro q<;>first|exact⟨_,⟨q.1,q.2.1,rfl,trivial⟩,q.2.2⟩|exact q.elim
 ·split<;>intro q<;>first|exact⟨_,⟨q.1,rfl,trivial⟩,q.2⟩|exact q.elim
 ·exact fun q=>q.elim
omit [Laid] in
def QW(n sz:Nat)(x:AV)(lo hi:Option AV)(h:aa):gR (qp n sz x lo hi h):=by
 intro K;unfold qp;split
 ·split<;>intro q<;>first|exact⟨_,⟨q.1,rfl,trivial⟩,q.2⟩|exact q.elim
 ·split<;>intro q<;>first|exact⟨_,⟨q.1,rfl,trivial⟩,q.2⟩|exact q.elim
 ·exact fun q=>q.elim
omit [Laid] in
def Oa(m:Nat)(x i:AV):gR (aO m x i):=by
 intro K;unfold aO;split<;>intro q<;>first|exact⟨_,⟨q.1,q.2.1,rfl,trivial⟩,q.2.2⟩|exact q.elim
omit [Laid] in
def Oc(len sz:Nat)(x i:AV):gR (eV len sz x i):=by
 intro K;unfold eV;split<;>intro q<;>first|exact⟨_,⟨q.1,rfl,trivial⟩,q.2⟩|exact q.elim
omit [Laid] in
def QN(o:Nat)(x:AV):gR (bo o x):=by
 intro K;unfold bo;split<;>intro q<;>first|exact⟨_,⟨rfl,trivial⟩,q⟩|exact q.elim
omit [Laid] in
def QU(x:AV):gR (xe x):=by
 intro K;unfold xe;split<;>intro q<;>first|exact⟨_,⟨rfl,trivial⟩,q⟩|exact q.elim
omit [Laid] in
def zf(g:Bool)(sz:Nat)(x:AV)(h:aa):gR (ak g sz x h):=by
 intro K;unfold ak;split
 ·exact xV _ _ _ K
 ·split
  ·exact xV _ _ _ K
  ·exact fun q=>q.elim
 ·exact fun q=>q.elim
omit [Laid] in
def Da(z:AV)(ps:List (Nat×Nat×AV)):gR (aX z ps):=by
 intro K;unfold aX;split<;>intro q<;>first|exact⟨_,⟨rfl,trivial⟩,q⟩|exact q.elim
omit [Laid] in
def Lf(len sz:Nat)(z:AV)(ps:List (Nat×Nat×AV)):gR (bt len sz z ps):=by
 intro K;unfold bt;split<;>intro q<;>first|exact⟨_,⟨rfl,trivial⟩,q⟩|exact q.elim
omit [Laid] in
def G0(x:AV)(h:aa):gR (cR x h):=by
 intro K;unfold cR;split<;>intro q<;>first|exact⟨_,⟨rfl,trivial⟩,q⟩|exact q.elim
omit [Laid] in
def QR(x y:AV):gR (nU x y):=by
 intro K;unfold nU;split<;>intro q<;>first|exact⟨_,⟨q.1,rfl,trivial⟩,q.2⟩|exact q.elim
omit [Laid] in
def BG(x y:AV):gR (kA x y):=by
 intro K;unfold kA;split<;>intro q<;>first|exact⟨_,⟨q.1,rfl,trivial⟩,q.2⟩|exact q.elim
omit [Laid] in
def Oe(x y z:AV):gR (fun K=>kA x y fun u=>kA u z K):=by
 intro K q;obtain⟨r,h1,h2⟩:=BG x y _ q;obtain⟨s,h3,h4⟩:=BG r z K h2;refine⟨s, ?_,h4⟩;unfold kA at h1 ⊢;split at h1
 ·obtain⟨e,f⟩:=h1;refine⟨e, ?_⟩;rw[f.1];exact h3
 ·exact h1.elim
omit [Laid] in
def iX(b:Bool){W:(AV→Prop)→Prop}(hW:gR W):gR (fun K=>cO b (W K)):=by
 intro K q;obtain⟨hb,q⟩:=aY q;subst hb;exact hW K q
end
omit [Laid] in
def Oh(P:Program)(x:AV):gR (cg P x):=by
 intro K;unfold cg;split<;>intro q
 ·exact⟨_,⟨q.1,rfl,trivial⟩,q.2⟩
 ·exact QU _ K q
omit [Laid] in
def QL(has:TypeId→Bool)(x:AV):gR (zi has x):=by
 intro K;unfold zi;split<;>intro q<;>first|exact⟨_,⟨q.1,rfl,trivial⟩,q.2⟩|exact q.elim
omit [Laid] in
def QS(t:TypeId)(x:AV):gR (pb t x):=by
 intro K;unfold pb;intro q;exact⟨_,⟨rfl,trivial⟩,q⟩
omit [Laid] in
def QQ(neg:Bool)(r:Option Bool):gR (kJ neg r):=by
 intro K;unfold kJ;split<;>intro q<;>first|exact⟨_,⟨rfl,trivial⟩,q⟩|exact q.elim
omit [Laid] in
def Og(neg:Bool)(d:TypeDesc)(y:Operand)(x:AV):gR (ye neg d y x):=by
 intro K;unfold ye;split<;>intro q<;>first|exact QQ _ _ K q|exact q.elim
def sq(P:Program)(own:Bool):Op→Bool
 | .buildSlice .. => own
 | .makeInterface .. | .typeAssert .. | .move _|.assign _|.pick .. | .binOp .. | .extract .. | .field .. | .index .. | .slice .. | .indexAddr .. | .fieldAddr .. | .nilCheck _|.load .. | .build .. | .makeFunc .. | .unOp .. => true
 | .convert s d _=>(match P.underlying s,P.underlying d with|some .string,some (.slice _)=>false|_,_=>true)
 | .call c=>(match c.callee with|.builtin .min|.builtin .max=>true|_=>false)
 | _=>false
def wK(P:Program)(x:AV)(args:List AV)(h:aa)(K:AV→Prop):Prop:=∃r,bx P x args h (fun v h' => v=r∧h'=h)∧K r
def lC(x:AV)(K:AV→Prop):Prop:=match x with|.str l=>K (i_ l.length)|_=>False
def jj(x:AV)(K:AV→Prop):Prop:=
 match nf x with
 | .sl _ rows=>K (i_ rows.length)
 | .own _ _ len _=>K (i_ len)
 | .emp=>K (i_ 0)
 | _=>False
def EU(P:Program)(own:Bool)(ev:Operand→AV)(h:aa)(op:Op)(K:AV→Prop):Prop:=
 match op with
 | .call c=>(match c.callee with
   | .value x=>wK P (ev x) (c.args.toList.map ev) h K
   | .builtin .len=>(match c.argTypes[0]?,c.args[0]? with
     | some t,some x=>(match P.underlying t with
       | some .string=>lC (ev x) K
       | some (.slice _)=>jj (ev x) K
       | _=>False)
     | _,_=>False)
   | _=>cO (sq P own (.call c)) (bE P own ev h (.call c) fun v _=>K v))
 | op=>cO (sq P own op) (bE P own ev h op fun v _=>K v)
def vm{own:Bool}{ev:Operand→AV}{op:Op}{K:AV→Prop}(hq:sq P own op=true)(q:bE P own ev h op fun v _=>K v):BQ (bE P own ev h op) h K:=by
 unfold BQ;cases op<;>simp only[sq,abT]at hq<;>simp only[bE]at q ⊢
 case move x=>exact⟨_,⟨rfl,trivial⟩,q⟩
 case assign x=>exact⟨_,⟨rfl,trivial⟩,q⟩
 case pick=>exact Oi _ _ _ K q
 case build t ps =>
  split at q
  ·exact iX _ (Da _ _) K q
  ·exact iX _ (Da _ _) K q
  ·exact q.elim
 case load=>exact iX _ (zf _ _ _ _) K q
 case buildSlice t n ps =>
  subst hq;simp only at q ⊢;cases ht:P.underlying t with
  | none=>rw[ht]at q;exact q.elim
  | some d =>
    rw[ht]at q;cases d<;>simp only at q⊢<;> first|exact q.elim|skip
    rename_i e;cases hz:jL P e with
    | none=>rw[hz]at q;exact q.elim
    | some z=>rw[hz]at q;exact iX _ (Lf _ _ _ _) K q
 case nilCheck=>exact Oh _ _ K q
 case makeInterface=>exact iX _ (QS _ _) K q
 case typeAssert x xT a ok=>cases ok<;>first|exact q.elim|exact QL _ _ K q
 case binOp o t x y yt =>
  split at q
  ·rename_i hagg;simp only[hagg,if_true];cases o<;>simp only at q⊢<;> first|exact q.elim|skip
   all_goals
    cases hks:mJ P 8 t with
    | none=>rw[hks]at q;exact (aY q).2.elim
    | some ks=>rw[hks]at q;exact iX _ (QM _ _ _ _) K q
  ·rename_i hagg;simp only[hagg,if_false,abT];cases hu:P.underlying t with
   | none=>rw[hu]at q;exact q.elim
   | some d =>
     rw[hu]at q;cases d<;>simp only at q⊢<;> first|exact N6 _ _ _ K q|exact Hy _ _ _ K q|(cases o<;>first|exact q.elim|exact Og _ _ _ _ K q)
 case unOp o t x=>cases o<;>simp only at q⊢<;> first|exact q.elim|exact QV _ K q|exact QT _ K q|(cases hu:P.underlying t with|none=>rw[hu]at q;exact q.elim|some d=>rw[hu]at q;cases d<;>simp only at q⊢<;> first|exact q.elim|exact Hy _ _ _ K q)
 case convert s d x =>
  cases hs:P.underlying s with
  | none=>rw[hs]at q;exact q.elim
  | some a =>
    cases hd:P.underlying d with
    | none=>rw[hs,hd]at q;cases a<;>exact q.elim
    | some b =>
      rw[hs,hd]at q hq;cases a<;>cases b<;>simp only[abT]at q hq⊢<;> first|exact q.elim|exact N7 _ _ K q|exact Oj _ K q|exact iX _ (G0 _ _) K q
 case makeFunc=>exact⟨_,⟨rfl,trivial⟩,q⟩
 case slice t x lo hi mx =>
  cases mx with
  | some m=>exact q.elim
  | none =>
    simp only at q ⊢;cases ht:P.underlying t with
    | none=>rw[ht]at q;exact q.elim
    | some d =>
      rw[ht]at q;cases d<;>simp only at q⊢<;> first|exact q.elim|exact QX _ _ _ K q|exact iX _ (Uk _ _ _ _) K q|exact iX _ (QW _ _ _ _ _ _) K q
 case fieldAddr t x i =>
  split at q
  ·split at q
   ·exact iX _ (QN _ _) K q
   ·exact q.elim
  ·exact q.elim
 case field t x i =>
  split at q
  ·split at q
   ·exact iX _ (QO _ _ _ _) K q
   ·exact q.elim
  ·exact q.elim
 case indexAddr t x i =>
  split at q
  ·exact iX _ (Oa _ _ _) K q
  ·exact iX _ (Oc _ _ _ _) K q
  ·exact q.elim
 case index t x i =>
  split at q
  ·exact Od _ _ K q
  ·exact iX _ (N9 _ _ _ _ _) K q
  ·exact q.elim
 case extract=>exact N8 _ _ K q
 case call c =>
  cases hc:c.callee<;>rw[hc]at q hq<;>first|exact q.elim|(simp only[abT]at hq;done)|skip
  rename_i b;cases b<;>first|(simp only[abT]at hq;done)|exact q.elim|skip
  all_goals simp only at q ⊢
  ·split at q
   ·exact BG _ _ K q
   ·exact Oe _ _ _ K q
   ·exact q.elim
  ·split at q
   ·exact QR _ _ K q
   ·exact q.elim
omit [Laid] in
def Dm{K:AV→Prop}(q:lC x K):∃y,de x (fun v=>v=y∧True)∧K y:=by
 unfold lC at q;split at q
 ·exact⟨_,fun _=>⟨rfl,trivial⟩,q⟩
 ·exact q.elim
omit [Laid] in
def Fz{K:AV→Prop}(q:jj x K):∃y,br x (fun v=>v=y∧True)∧K y:=by
 unfold jj at q;unfold br
 revert q
 cases nf x<;>intro q<;>first|exact⟨_,fun _=>⟨rfl,trivial⟩,q⟩|exact⟨_,⟨rfl,trivial⟩,q⟩|exact q.elim
def rh{own:Bool}{ev:Operand→AV}{op:Op}{K:AV→Prop}(q:EU P own ev h op K):BQ (bE P own ev h op) h K:=by
 unfold EU at q;split at q
 ·rename_i c;split at q
  ·rename_i x hc;obtain⟨r,q1,q2⟩:=q;exact⟨r,by simp only[bE,hc];exact q1,q2⟩
  ·rename_i hc;unfold BQ;simp only[bE,hc];cases h1:c.argTypes[0]? with
   | none=>rw[h1]at q;exact q.elim
   | some t =>
     cases h2:c.args[0]? with
     | none=>rw[h1,h2]at q;exact q.elim
     | some x =>
       rw[h1,h2]at q;simp only at q ⊢;cases ht:P.underlying t with
       | none=>rw[ht]at q;exact q.elim
       | some d =>
         rw[ht]at q;cases d<;>first|exact q.elim|exact Dm q|exact Fz q
  ·exact vm (aY q).1 (aY q).2
 ·exact vm (aY q).1 (aY q).2
section
variable (P:Program) (ops:Array Oper) (n:Nat) (h:aa)
def dL:List (Nat×Bool)→Fr→(Fr→Prop)→Prop
 | [],fr,K=>K fr
 | (i,own):: r,fr,K=>match ops[i]? with
  | some o=>BQ (bE P own (aG fr) h o.op) h fun v=>dL r (bL n fr o.dst v) K
  | none=>False
def C9:List (Nat×Bool)→Fr→Fr
 | [],fr=>fr
 | (i,_):: r,fr=>match ops[i]? with
  | some o=>C9 r (bL n fr o.dst (.v undef))
  | none=>C9 r fr
def kU:List dh→Fr→(Fr→Prop)→Prop
 | [],fr,K=>K fr
 | .op i own:: r,fr,K=>(match ops[i]? with
   | some o=>BQ (bE P own (aG fr) h o.op) h fun v=>kU r (bL n fr o.dst v) K
   | none=>False)
 | .aB j want l _ ms:: r,fr,K=>(match eS ops j with
   | some d=>aH (fun J=>aI (bC fr d) want (dL P ops n h l fr fun fr' => J (eB fr' ms) h) (J (eB (C9 ops n l fr) ms) h)) fun s _=>kU r (mX fr ms s 0) K
   | none=>False)
def vL:List (Nat×Bool)→Fr→(Fr→Prop)→Prop
 | [],fr,K=>K fr
 | (i,own):: r,fr,K=>match ops[i]? with
  | some o=>EU P own (aG fr) h o.op fun v=>vL r (bL n fr o.dst v) K
  | none=>False
def pP:List dh→Fr→(Fr→Prop)→Prop
 | [],fr,K=>K fr
 | .op i own:: r,fr,K=>(match ops[i]? with
   | some o=>EU P own (aG fr) h o.op fun v=>pP r (bL n fr o.dst v) K
   | none=>False)
 | .aB j want l _ ms:: r,fr,K=>(match eS ops j with
   | some d=>aH (fun J=>aI (bC fr d) want (vL P ops n h l fr fun fr' => J (eB fr' ms) h) (J (eB (C9 ops n l fr) ms) h)) fun s _=>pP r (mX fr ms s 0) K
   | none=>False)
def vo:List (Nat×Bool)→List Nat
 | []=>[]
 | (i,_):: r=>match ops[i]? with
  | some o=>(match o.dst with|some t=>t:: vo r|none=>vo r)
  | none=>vo r
def rS:dh→Bool
 | .op .. => true
 | .aB _ _ l _ ms=>(vo ops l).all (ms.contains ·)&&ms.all fun t=>decide (t<n)
end
theorem Wn{ops:Array Oper}:∀(l:List (Nat×Bool)) (fr:Fr) (K K':Fr→Prop),(∀f,K f→K' f)→vL P ops n h l fr K→dL P ops n h l fr K'
 | [],fr,K,K',hk,q=>hk _ q
 | (i,_):: r,fr,K,K',hk,q=>by
  simp only[vL]at q;simp only[dL];cases ho:ops[i]? with
  | none=>rw[ho]at q;exact q.elim
  | some o =>
    rw[ho]at q;obtain⟨x,q1,q2⟩:=rh q;exact⟨x,q1,Wn r _ K K' hk q2⟩
theorem rq{ops:Array Oper}:∀(l:List dh) (fr:Fr) (K:Fr→Prop),pP P ops n h l fr K→kU P ops n h l fr K
 | [],fr,K,q=>q
 | .op i _:: r,fr,K,q=>by
   simp only[pP]at q;simp only[kU];cases ho:ops[i]? with
   | none=>rw[ho]at q;exact q.elim
   | some o =>
     rw[ho]at q;obtain⟨x,q1,q2⟩:=rh q;exact⟨x,q1,rq r _ K q2⟩
 | .aB j want l _ ms:: r,fr,K,q=>by
   simp only[pP,aH]at q;simp only[kU,aH];cases hd:eS ops j with
   | none=>rw[hd]at q;exact q.elim
   | some d =>
     rw[hd]at q;rcases q with⟨t,ht,g1,g2⟩|⟨hu,g2⟩
     ·exact .inl ⟨t,ht,fun z=>Wn l fr _ _ (fun f hf=>rq r _ K hf) (g1 z),fun z=>rq r _ K (g2 z)⟩
     ·exact .inr ⟨hu,rq r _ K g2⟩
/-! ### What it comes to -/
def nY(fr fr':Fr):Prop:=∀t,bC fr t=bC fr' t
omit [Laid] in
def nY.set{fr fr':Fr}(e:nY fr fr')(n:Nat)(d:Option Tmp)(x:AV):nY (bL n fr d x) (bL n fr' d x):=by
 intro t;unfold bL;cases d with
 | none=>exact e t
 | some u =>
   simp only;split
   ·rw[fD,fD];split
    ·rfl
    ·exact e t
   ·exact e t
section
variable {P:Program} {ops:Array Oper} {n:Nat} {h:aa} {Z:Fr→Prop}
theorem lY.eq:∀(l:List Oper) {fr fr':Fr},(∀f f',nY f f'→Z f→Z f')→nY fr fr'→lY P ops n h Z l fr→lY P ops n h Z l fr'
 | [],fr,fr',hZ,e,q=>hZ _ _ e q
 | o:: l,fr,fr',hZ,e,⟨x,hy,q⟩=>⟨x,hy.same fun t _=>(e t).symm,lY.eq l hZ (e.set n o.dst x) q⟩
theorem FB:∀(l1 l2:List Oper) {fr:Fr},lY P ops n h (lY P ops n h Z l2) l1 fr→lY P ops n h Z (l1++l2) fr
 | [],_,_,q=>q
 | _:: l1,l2,_,⟨x,hy,q⟩=>⟨x,hy,FB l1 l2 q⟩
theorem Dp{Z':Fr→Prop}:∀(l:List Oper) {fr:Fr},(∀f,Z f→Z' f)→lY P ops n h Z l fr→lY P ops n h Z' l fr
 | [],_,hz,q=>hz _ q
 | _:: l,_,hz,⟨x,hy,q⟩=>⟨x,hy,Dp l hz q⟩
def ke(ops:Array Oper)(l:List Nat):List Oper:=l.filterMap (ops[·]?)
omit [Laid] in
theorem F7:∀(ms:List Nat) (fr:Fr) (s:List AV) (k t:Nat),(∀i u,ms[i]?=some u→∃x,s[k+i]?=some x) →
 (t∉ms∧bC (mX fr ms s k) t=bC fr t)∨∃i x,ms[i]?=some t∧s[k+i]?=some x∧bC (mX fr ms s k) t=x
 | [],fr,s,k,t,_=>.inl ⟨by simp,rfl⟩
 | m:: ms,fr,s,k,t,hs=>by
   rw[mX];rcases F7 ms (fg fr m (nx s k)) s (k+1) t (fun i u e=>by
    obtain⟨x,hx⟩:=hs (i+1) u (by simpa using e);exact⟨x,by rw[show k+1+i=k+(i+1) by omega];exact hx⟩) with⟨h1,h2⟩|⟨i,x,h1,h2,h3⟩
   ·rw[fD]at h2
    by_cases e:m=t
    ·right;obtain⟨x,hx⟩:=hs 0 m rfl;rw[if_pos e]at h2;refine⟨0,x,by simp[e],hx, ?_⟩;rw[h2];unfold nx;rw[nE,show k=k+0 from rfl,hx];rfl
    ·left;rw[if_neg e]at h2;exact⟨by simp[Ne.symm e,h1],h2⟩
   ·exact .inr ⟨i+1,x,by simpa using h1,by rw[show k+(i+1)=k+1+i by omega];exact h2,h3⟩
omit [Laid] in
def Ln{fr fr':Fr}{ms:List Nat}(hk:∀t,t∉ms→bC fr' t=bC fr t):nY (mX fr ms (eB fr' ms) 0) fr':=by
 intro t;rcases F7 ms fr (eB fr' ms) 0 t (fun i u e=>⟨bC fr' u,by rw[ab0,eB,iN,e];rfl⟩) with⟨h1,h2⟩|⟨i,x,h1,h2,h3⟩
 ·rw[h2,hk t h1]
 ·rw[h3];rw[ab0,eB,iN,h1]at h2;simpa using h2.symm
theorem Hw:∀(l:List (Nat×Bool)) (fr:Fr) (K:Fr→Prop),dL P ops n h l fr K→dL P ops n h l fr fun fr' => K fr'∧∀t,t∉vo ops l→bC fr' t=bC fr t
 | [],fr,K,q=>⟨q,fun _ _=>rfl⟩
 | (i,own):: l,fr,K,q=>by
  simp only[dL]at q ⊢;cases ho:ops[i]? with
  | none=>rw[ho]at q;exact q.elim
  | some o =>
    simp only[ho]at q ⊢;obtain⟨x,q1,q2⟩:=q;refine⟨x,q1, ?_⟩;have:=Hw l _ _ q2;have mono:∀(l:List (Nat×Bool)) (fr:Fr) (A B:Fr→Prop),(∀f,A f→B f)→dL P ops n h l fr A→dL P ops n h l fr B:=by
     intro l;induction l with
     | nil=>intro fr A B hab q;exact hab _ q
     | cons p l ih =>
       intro fr A B hab q;simp only[dL]at q ⊢;cases ho:ops[p.1]? with
       | none=>rw[ho]at q;exact q.elim
       | some o =>
         simp only[ho]at q ⊢;obtain⟨x,q1,q2⟩:=q;exact⟨x,q1,ih _ _ _ hab q2⟩
    refine mono l _ _ _ (fun f hf=>⟨hf.1,fun t ht=>?_⟩) this;simp only[vo,ho]at ht;cases hd:o.dst with
    | none=>simp only[hd]at ht;rw[hf.2 t ht,hd];rfl
    | some u =>
      simp only[hd,ID,not_or]at ht;rw[hf.2 t ht.2,hd];exact fF fun e he=>by cases he;exact Ne.symm ht.1
omit [Laid] in
theorem rQ:∀(l:List (Nat×Bool)) (fr:Fr) (t:Nat),t∉vo ops l→bC (C9 ops n l fr) t=bC fr t
 | [],fr,t,_=>rfl
 | (i,own):: l,fr,t,ht=>by
  simp only[C9];simp only[vo]at ht;cases ho:ops[i]? with
  | none=>simp only[ho]at ht ⊢;exact rQ l fr t ht
  | some o =>
    simp only[ho]at ht ⊢;cases hd:o.dst with
    | none=>simp only[hd]at ht ⊢;exact rQ l _ t ht
    | some u =>
      simp only[hd,ID,not_or]at ht ⊢;rw[rQ l _ t ht.2];exact fF fun e he=>by cases he;exact Ne.symm ht.1
omit [Laid] in
def oC(h:ops[i]?=some o):ke ops (i:: l)=o:: ke ops l:=by simp[ke,h]
theorem LG{want:Bool}(hd:eS ops j=some d){K:Fr→Prop}:∀(l:List (Nat×Bool)) (fr:Fr),
 l.all (fun p=>match ops[p.1]? with|some o=>o.guard == some (j,want)|none=>false)=true→(l.dropLast).all (fun p=>match ops[p.1]? with|some o=>o.dst != some d|none=>false)=true →
 (l≠[]→bC fr d=.v (.bool want))→dL P ops n h l fr K→lY P ops n h K (ke ops (l.map (·.1))) fr
 | [],fr,_,_,_,q=>q
 | (i,own):: l,fr,hgs,hds,hc,q=>by
  simp only[acd,NO]at hgs;obtain⟨hg,hgs⟩:=hgs;simp only[dL]at q;cases ho:ops[i]? with
  | none=>rw[ho]at q;exact q.elim
  | some o =>
    simp only[ho,beq_iff_eq]at hg q;obtain⟨x,q1,q2⟩:=q;rw[GO,oC ho];refine⟨x,.inl ⟨by simp[gM,hg,hd,hc (by simp)],_,q1⟩,LG hd l _ hgs ?_ (fun hne=>?_) q2⟩
    ·cases l with
     | nil=>rfl
     | cons p l=>simp only[List.dropLast_cons_cons,acd,NO]at hds;exact hds.2
    ·cases l with
     | nil=>exact absurd rfl hne
     | cons p l =>
       simp only[List.dropLast_cons_cons,acd,NO,ho,bne_iff_ne,ne_eq]at hds;rw[fF fun e he q=>hds.1 (by rw[he,q])];exact hc (by simp)
theorem B8{want:Bool}(hd:eS ops j=some d){K:Fr→Prop}:∀(l:List (Nat×Bool)) (fr:Fr),
 l.all (fun p=>match ops[p.1]? with|some o=>o.guard == some (j,want)|none=>false)=true→(l.dropLast).all (fun p=>match ops[p.1]? with|some o=>o.dst != some d|none=>false)=true →
 (l≠[]→bC fr d=.v (.bool (!want))∨bC fr d=.v undef)→K (C9 ops n l fr)→lY P ops n h K (ke ops (l.map (·.1))) fr
 | [],fr,_,_,_,q=>q
 | (i,own):: l,fr,hgs,hds,hc,q=>by
  simp only[acd,NO]at hgs;obtain⟨hg,hgs⟩:=hgs;simp only[C9]at q;cases ho:ops[i]? with
  | none=>simp only[ho]at hg;cases hg
  | some o =>
    simp only[ho,beq_iff_eq]at hg q;rw[GO,oC ho];have hw:gM ops o fr=some false:=by
     unfold gM;simp only[hg,hd];rcases hc (by simp) with z|z
     ·rw[z];cases want<;>rfl
     ·rw[z];rfl
    refine⟨.v undef,.inr ⟨hw,rfl⟩,B8 hd l _ hgs ?_ (fun hne=>?_) q⟩
    ·cases l with
     | nil=>rfl
     | cons p l=>simp only[List.dropLast_cons_cons,acd,NO]at hds;exact hds.2
    ·cases l with
     | nil=>exact absurd rfl hne
     | cons p l =>
       simp only[List.dropLast_cons_cons,acd,NO,ho,bne_iff_ne,ne_eq]at hds;rw[fF fun e he q=>hds.1 (by rw[he,q])];exact hc (by simp)
theorem tE(hZ:∀f f',nY f f'→Z f→Z f'):∀(l:List dh) (fr:Fr),l.all (lV ops)=true→l.all (rS ops n)=true→kU P ops n h l fr Z→lY P ops n h Z (ke ops (l.map dh.ix).flatten) fr
 | [],fr,_,_,q=>q
 | .op i own:: r,fr,hok,hdk,q=>by
   simp only[acd,NO]at hok hdk;simp only[kU]at q;cases ho:ops[i]? with
   | none=>rw[ho]at q;exact q.elim
   | some o =>
     simp only[ho]at q;obtain⟨x,q1,q2⟩:=q;have hg:=hok.1;simp only[lV,ho,Option.isNone_iff_eq_none]at hg;simp only[GO,aco,dh.ix,List.singleton_append];rw[oC ho];exact⟨x,.inl ⟨by simp[gM,hg],_,q1⟩,tE hZ r _ hok.2 hdk.2 q2⟩
 | .aB j want l cs ms:: r,fr,hok,hdk,q=>by
   simp only[acd,NO]at hok hdk;obtain⟨hg,hok⟩:=hok;obtain⟨hdg,hdk⟩:=hdk;simp only[kU]at q;cases hd:eS ops j with
   | none=>rw[hd]at q;exact q.elim
   | some d =>
     simp only[hd]at q;simp only[lV,hd,NO]at hg;simp only[rS,NO]at hdg;have hsub:∀t,t∉ms→t∉vo ops l:=fun t ht ht' => ht (by simpa using At.1 hdg.1 t ht');unfold aH at q;simp only[GO,aco,dh.ix];have split:ke ops (l.map (·.1)++(r.map dh.ix).flatten)=ke ops (l.map (·.1))++ke ops (r.map dh.ix).flatten:=by simp[ke,List.filterMap_append]
     rw[split];refine FB _ _ ?_;have after:∀{fr':Fr},(∀t,t∉ms→bC fr' t=bC fr t)→kU P ops n h r (mX fr ms (eB fr' ms) 0) Z→lY P ops n h Z (ke ops (r.map dh.ix).flatten) fr':=fun hk k =>
      lY.eq _ hZ (Ln hk) (tE hZ r _ hok hdk k)
     rcases q with⟨t,ht0,g1,g2⟩|⟨hu,g2⟩
     ·by_cases ht:t=want
      ·subst ht;exact Dp _ (fun f hf=>after (fun u hu=>hf.2 u (hsub u hu)) hf.1) (LG hd l fr hg.1 hg.2 (fun _=>ht0) (Hw l fr _ (g1 rfl)))
      ·have ht':t=!want:=by cases t<;>cases want<;>simp_all
       subst ht';exact B8 hd l fr hg.1 hg.2 (fun _=>.inl ht0) (after (fun u hu=>rQ l fr u (hsub u hu)) (g2 rfl))
     ·exact B8 hd l fr hg.1 hg.2 (fun _=>.inr hu) (after (fun u hu' => rQ l fr u (hsub u hu')) g2)
end
def Li(P:Program)(ops:Array Oper)(n t:Nat)(l r q:List dh):Bool:=
 P.follows .mixedOrders&&qN ops t&&sa ops t t 0 (Array.replicate ops.size false)&&l.all (lV ops)&&l.all (rS ops n)&&(l.map dh.ix).flatten == List.range' 0 t &&
  (match oo ops (r.map dh.ix).flatten (full ops t) with
  | some listed=>sa ops ops.size (q.map dh.ix).flatten.length (t+(r.map dh.ix).flatten.length) listed
  | none=>false)&&r.all (lV ops)&&q.all (lV ops)&&q.all (rS ops n)&&(q.map dh.ix).flatten == List.range' (t+(r.map dh.ix).flatten.length) (q.map dh.ix).flatten.length &&
  decide (t+(r.map dh.ix).flatten.length+(q.map dh.ix).flatten.length=ops.size)
def Lj(P:Program)(ops:Array Oper)(t:Nat)(l r q:List dh)(Q:Exit→St→Prop)(st:St):Prop:=
 cO (Li P ops st.n t l r q) (pP P ops st.n st.h l st.fr fun fr=>lg P ops r ⟨st.n,fr,st.h⟩ fun st' => cO (Nat.beq st'.n st.n) (pP P ops st.n st'.h q st'.fr fun fr' => Q .normal ⟨st.n,fr',st'.h⟩))
omit [Laid] in
def Ki(Q:Exit→St→Prop):iZ (Q .normal) Q=Q:=by
 funext e st;cases e<;>rfl
def cd.drew{base:Nat}{st:St}(hr:cd base ι S a w st):bU ι.length base ι S w ι S { w with drawn:=w.drawn+1 }∧cd base ι S a { w with drawn:=w.drawn+1 } st:=by
 have hE:bU ι.length base ι S w ι S { w with drawn:=w.drawn+1 }:=⟨fun _ _=>fW.refl _,fun _ _ h=>h,fun _ _ h=>.inl h,fun _ _ _=>rfl,fun _ _ h=>h,(Below.refl base w).drew⟩;exact⟨hE,hr.df,hr.sz,dD.fU hE (bY _) hr.fr,hr.hp.wo hE hr.hp.len st.h.length (fun i _ _=>⟨rfl,rfl,fun _ _ _=>⟨rfl,fun _ q=>q⟩⟩) (fun x e=>by simp at e) (fun _ _ _ e=>by simp at e) (fun _ e=>by simp at e) (fun j b _ aT=>by simp[alive]at aT) hr.hp.iY hr.hp.kC⟩
def QK{ops:Array Oper}:∀(l:List (Nat×Bool)) (fr:Fr) (A B:Fr→Prop),(∀f,A f→B f)→dL P ops n h l fr A→dL P ops n h l fr B:=by
 intro l;induction l with
 | nil=>intro fr A B hab q;exact hab _ q
 | cons p l ih =>
   intro fr A B hab q;simp only[dL]at q ⊢;cases ho:ops[p.1]? with
   | none=>rw[ho]at q;exact q.elim
   | some o =>
     simp only[ho]at q ⊢;obtain⟨x,q1,q2⟩:=q;exact⟨x,q1,ih _ _ _ hab q2⟩
def Al{ops:Array Oper}:∀(l:List dh) (fr:Fr) (A B:Fr→Prop),(∀f,A f→B f)→kU P ops n h l fr A→kU P ops n h l fr B:=by
 intro l;induction l with
 | nil=>intro fr A B hab q;exact hab _ q
 | cons p l ih =>
   intro fr A B hab q;cases p with
   | op i own =>
     simp only[kU]at q ⊢;cases ho:ops[i]? with
     | none=>rw[ho]at q;exact q.elim
     | some o =>
       simp only[ho]at q ⊢;obtain⟨x,q1,q2⟩:=q;exact⟨x,q1,ih _ _ _ hab q2⟩
   | aB j want ll cs ms =>
     simp only[kU,aH]at q ⊢;cases hd:eS ops j with
     | none=>rw[hd]at q;exact q.elim
     | some d =>
       simp only[hd]at q ⊢;rcases q with⟨t,ht,g1,g2⟩|⟨hu,g2⟩
       ·exact .inl ⟨t,ht,fun z=>QK _ _ _ _ (fun f hf=>ih _ _ _ hab hf) (g1 z),fun z=>ih _ _ _ hab (g2 z)⟩
       ·exact .inr ⟨hu,ih _ _ _ hab g2⟩
omit [Laid] in
theorem yT{ops:Array Oper}:∀(L k:Nat),k+L≤ops.size→(ke ops (List.range' k L)).length=L∧∀j,j<L→(ke ops (List.range' k L))[j]?=ops[k+j]?
 | 0,k,_=>⟨rfl,fun j hj=>by omega⟩
 | L+1,k,hk=>by
   obtain⟨i1,i2⟩:=yT (ops:=ops) L (k+1) (by omega);have hlt:k<ops.size:=by omega
   have e:ke ops (List.range' k (L+1))=ops[k]:: ke ops (List.range' (k+1) L):=by
    rw[List.range'_succ];exact oC (UP hlt)
   rw[e];refine⟨by simp[i1],fun j hj=>?_⟩;cases j with
   | zero=>simp[hlt]
   | succ j=>rw[List.getElem?_cons_succ,i2 j (by omega)];rw[show k+1+j=k+(j+1) by omega]
def xv{P:Program}{ops:Array Oper}{h:aa}{m t k L more:Nat}{Q:Exit→St→Prop}{Z:Fr→Prop}{listed:Array Bool}(k2:qN ops t=true)(k5:l.all (lV ops)=true)(k6:l.all (rS ops n)=true)
 (k8:(l.map dh.ix).flatten=List.range' k L) (hL:k+L≤ops.size) (down:Down ops listed) (k3:sa ops t L k listed=true) (hm:m≤h.length)
 (hZ:∀fr base ι S a w,cd base ι S a w ⟨n,fr,h⟩→Z fr→wpAny P .any ops (dy m base ι S w Q) more (full ops t) a w)
 {base:Nat} {ι:List Ix} {S:aZ} {a:Act} {w:World} {fr:Fr} (hr:cd base ι S a w ⟨n,fr,h⟩) (q:pP P ops n h l fr Z):wpAny P .any ops (dy m base ι S w Q) (L+more) listed a w:=by
 let Z':Fr→Prop:=fun fr=>∀base ι S a w,cd base ι S a w ⟨n,fr,h⟩→wpAny P .any ops (dy m base ι S w Q) more (full ops t) a w
 have hZeq:∀f f',nY f f'→Z' f→Z' f':=fun f f' e z base ι S a w hr=>z base ι S a w ⟨hr.df,hr.sz,fun u=>by rw[e u];exact hr.fr u,hr.hp⟩;have q2:kU P ops n h l fr Z':=Al l fr _ Z' (fun fr hfr base ι S a w hr=>hZ fr base ι S a w hr hfr) (rq _ _ _ q);have q3:=tE hZeq l fr k5 k6 q2;rw[k8]at q3;obtain⟨l1,l2⟩:=yT (ops:=ops) L k hL;have q4:=Ey k2 (ke ops (List.range' k L)) k listed fr (fun j hj=>l2 j (by rw[l1]at hj;exact hj)) down (by rw[l1];exact k3) q3;rw[l1]at q4;exact zW (m:=m) (Q':=Q) (more:=more) (Z:=Z') (fun fr base ι S a w hr z=>z base ι S a w hr) L _ base ι S a _ fr hm hr q4
omit [Laid] in
def tq{ops:Array Oper}:Region.ready .any ops (full ops ops.size)=[]:=by
 refine List.eq_nil_iff_forall_not_mem.2 fun i hi=>?_;obtain⟨h0,o,ho,_⟩:=mem_ready.1 hi;have hlt:=(AS.1 ho).1;simp[full,hlt]at h0
omit [Laid] in
def E9{ops:Array Oper}:qN ops ops.size=true:=by
 unfold qN;exact At.2 fun i hi=>by simp at hi;simp[hi]
omit [Laid] in
theorem Dq{ops:Array Oper}:∀(L k:Nat) (listed:Array Bool),Down ops listed→sa ops t L k listed=true→Down ops (full ops t)
 | 0,k,listed,hd,hl=>by simp only[sa,beq_iff_eq]at hl;exact hl▸hd
 | L+1,k,listed,hd,hl=>by
   simp only[sa,NO,Of]at hl;exact Dq L (k+1) _ (hd.set (by simpa using hl.1.1.1)) hl.2
def Kc{m id t:Nat}{ops:Array Oper}{Q:Exit→St→Prop}{st:St}(hm:m≤st.h.length)(hq:Lj P ops t l r q Q st):AW P m (.region id ops true) Q st:=by
 intro base ι S a w _ hr;obtain⟨hok,hq⟩:=aY hq;simp only[Li,NO,beq_iff_eq,Of]at hok;obtain⟨⟨⟨⟨⟨⟨⟨⟨⟨⟨⟨k1,k2⟩,k3⟩,k5⟩,k6⟩,k8⟩,k4⟩,k7⟩,q5⟩,q6⟩,q8⟩,k9⟩:=hok;split at k4
 ·rename_i listed' hch;obtain⟨hE,hr'⟩:=hr.drew;have fin:wpAny P .any ops (dy m base ι S { w with drawn:=w.drawn+1 } Q) ops.size (Array.replicate ops.size false) a { w with drawn:=w.drawn+1 }→(Code.region id ops true).wp P (dy m base ι S w Q) a w:=fun h1 =>
   wp_region_any k1 (dW (fun e a w z=>dy.trans (hE.mono (by rw[hr.hp.len];exact hm) (bY _)) z) _ _ _ _ h1)
  have down0:Down ops (Array.replicate ops.size false):=fun i o ho hl=>by
   have hlt:=(AS.1 ho).1;simp[hlt]at hl
  refine fin ?_;have down1:=Dq _ _ _ down0 k3;have down2:=tS _ _ _ down1 hch;have key:=xv (Q:=Q) (more:=(r.map dh.ix).flatten.length+(q.map dh.ix).flatten.length) k2 k5 k6 k8 (by omega) down0 k3 hm (fun fr base ι S a w hr hfr=>?_) hr' hq
  ·rwa [show t+((r.map dh.ix).flatten.length+(q.map dh.ix).flatten.length)=ops.size by omega]at key
  ·have hs:=oH (m:=m) (Q:=Q) r base ι S a w ⟨st.n,fr,st.h⟩ k7 hm hr hfr;refine u9 (fun e a w hne z=>?_) (fun a w z=>?_) _ _ _ _ hch hs
   ·obtain⟨ι',S',st',z1,z2,z3,z4⟩:=z;refine⟨ι',S',st',z1,z2,z3, ?_⟩;cases e<;>first|exact absurd rfl hne|exact z4
   ·obtain⟨ι',S',st',z1,z2,z3,z4⟩:=z;obtain⟨n',fr',h'⟩:=st';obtain⟨en,z4⟩:=aY z4;have en:n'=st.n:=lE en;subst en;have:=xv (m:=m) (more:=0) (Q:=Q) E9 q5 q6 q8 (by omega) down2 k4 z2 (fun fr base ι S a w hr hfr=>⟨tq,ι,S,⟨st.n,fr,h'⟩,bU.refl _ _ _ _ _,z2,hr,hfr⟩) z3 z4;exact dW (fun e a w z=>dy.trans z1 z) _ _ _ _ this
 ·cases k4
section
variable {P:Program} {ops:Array Oper} {n:Nat}
end
/-! ### What is listed -/
section
variable (ops:Array Oper) (n:Nat) (V:Nat→AV) (lo:Nat→Bool)
def fJ(fr0:Fr)(L:Nat→Bool):Nat→Fr
 | 0=>fr0
 | k+1=>match L k with|true=>bL n (fJ fr0 L k) (eS ops k) (V k)|false=>fJ fr0 L k
def mb(L:Nat→Bool):Nat→Nat
 | 0=>0
 | k+1=>match L k&&lo k with|true=>mb L k+1|false=>mb L k
end
section
variable {ops:Array Oper} {n:Nat} {V:Nat→AV} {lo:Nat→Bool} {fr0:Fr}
omit [Laid] in
theorem pZ{l1 l2:Nat→Bool}:∀k,(∀j,j<k→eS ops j=some t→l1 j=l2 j)→bC (fJ ops n V fr0 l1 k) t=bC (fJ ops n V fr0 l2 k) t
 | 0,_=>rfl
 | k+1,h=>by
   have ih:=pZ k fun j hj=>h j (by omega)
   by_cases hd:eS ops k=some t
   ·have e:=h k (by omega) hd;unfold fJ;rw[e];cases l2 k with
    | false=>exact ih
    | true =>
      simp only;rw[hd];unfold bL;simp only;split
      ·rw[fD,fD,if_pos rfl,if_pos rfl]
      ·exact ih
   ·have off:∀l:Nat→Bool,bC (fJ ops n V fr0 l (k+1)) t=bC (fJ ops n V fr0 l k) t:=by
     intro l;rw[fJ];cases l k with
     | false=>rfl
     | true=>exact fF fun e he q=>hd (by rw[he,q])
    rw[off,off];exact ih
omit [Laid] in
theorem vt{L:Nat→Bool}:∀m,k≤m→(∀j,k≤j→j<m→eS ops j=some t→L j=false)→bC (fJ ops n V fr0 L m) t=bC (fJ ops n V fr0 L k) t
 | 0,hk,_=>by rw[show k=0 by omega]
 | m+1,hk,h=>by
   by_cases e:k=m+1
   ·rw[e]
   ·have ih:=vt m (by omega) fun j h1 h2=>h j h1 (by omega);rw[←ih,fJ];cases hl:L m with
    | false=>rfl
    | true =>
      refine fF fun e he q=>?_;have:=h m (by omega) (by omega) (by rw[he,q]);rw[hl]at this;cases this
omit [Laid] in
theorem EK{l1 l2:Nat→Bool}(hi:l1 i=false)(h2:∀j,l2 j=(l1 j||j == i)):∀k,mb lo l2 k=mb lo l1 k+(if i<k∧lo i=true then 1 else 0)
 | 0=>by simp[mb]
 | k+1=>by
   rw[mb,mb,EK hi h2 k,h2 k]
   by_cases e:k=i
   ·subst e;simp only[hi,beq_self_eq_true,Bool.or_true,Bool.true_and,Bool.false_and];cases hk:lo k<;>simp
   ·have:(k == i)=false:=by simpa using e
    rw[this,Bool.or_false];have h3:(i<k+1∧lo i=true)↔(i<k∧lo i=true):=⟨fun⟨a,b⟩=>⟨by omega,b⟩,fun⟨a,b⟩=>⟨by omega,b⟩⟩;simp only[h3];split<;>(split<;>omega)
end
section
variable {lo:Nat→Bool}
omit [Laid] in
theorem Ho{L:Nat→Bool}:∀N,(∀i,i<N→L i=true)→mb (fun _=>true) L N=N
 | 0,_=>rfl
 | N+1,h=>by
   rw[mb,h N (by omega),Ho N fun i hi=>h i (by omega)];rfl
omit [Laid] in
theorem EL{L:Nat→Bool}:∀N,mb (fun _=>true) L N=N→∀i,i<N→L i=true
 | 0,_,i,hi=>by omega
 | N+1,h,i,hi=>by
   have h2:∀N,mb (fun _=>true) L N≤N:=by
    intro N;induction N with
    | zero=>exact bY _
    | succ N ih=>rw[mb];split<;>omega
   have:=h2 N;rw[mb]at h;cases q:L N with
   | false=>rw[q]at h;simp only[Bool.false_and]at h;omega
   | true =>
     rw[q]at h;simp only[Bool.and_self]at h
     by_cases e:i=N
     ·rw[e];exact q
     ·exact EL N (by omega) i (by omega)
end
structure sL(ops:Array Oper)(lo:Nat→Bool)(an:Nat→Nat→Bool):Prop where
 back:∀i,i<ops.size→∀e∈eg ops i,e<i
 anc:∀i j,an i j=true→∃e∈eg ops i,e=j∨an e j=true
 apart:∀i j,i<ops.size→j<i→∀oi oj,ops[i]?=some oi→ops[j]?=some oj→(∃t,(eS ops j=some t∧(t∈oi.looksAt ops∨eS ops i=some t))∨(eS ops i=some t∧t∈oj.looksAt ops))→an i j=true
 chain:∀i j,i<ops.size→j<i→lo i=true→lo j=true→an i j=true
section
variable {P:Program} {ops:Array Oper} {n:Nat} {V:Nat→AV} {lo:Nat→Bool} {fr0:Fr} {an:Nat→Nat→Bool} {Hs:Nat→aa}
omit [Laid] in
def sL.listed(hE:sL ops lo an)(hd:Down ops L):∀(i:Nat),i<ops.size→(∀e∈eg ops i,L.getD e false=true)→∀j,an i j=true→L.getD j false=true:=by
 intro i;induction i using Nat.strongRecOn with
 | _ i ih =>
   intro hi ha j hj;obtain⟨e,he,q⟩:=hE.anc i j hj;rcases q with rfl|q
   ·exact ha _ he
   ·have hlt:=hE.back i hi e he;refine ih e hlt (by omega) (fun d hd' => ?_) j q;have hle:=ha e he;obtain⟨o,ho⟩:∃o,ops[e]?=some o:=⟨ops[e],UP (by omega)⟩;unfold eg at hd';rw[ho]at hd';simp only[abP,ab8]at hd';obtain⟨x,⟨hx,hb⟩,rfl⟩:=hd';exact hd e o ho hle x (by simpa using hx) hb
omit [Laid] in
def sL.Dw(hE:sL ops lo an)(hd:Down ops L)(hi:i<ops.size)(hl:L.getD i false=true)(hj:an i j=true):L.getD j false=true:=by
 refine hE.listed hd i hi (fun e he=>?_) j hj;obtain⟨o,ho⟩:∃o,ops[i]?=some o:=⟨ops[i],UP hi⟩;unfold eg at he;rw[ho]at he;simp only[abP,ab8]at he;obtain⟨x,⟨hx,hb⟩,rfl⟩:=he;exact hd i o ho hl x (by simpa using hx) hb
omit [Laid] in
def sL.FU(hE:sL ops lo an)(hd:Down ops L)(hi:i<ops.size)(hr:i∈Region.ready .any ops L)(hj:an i j=true):L.getD j false=true:=by
 refine hE.listed hd i hi (fun e he=>?_) j hj;obtain⟨_,o,ho,hall⟩:=mem_ready.1 hr;unfold eg at he;rw[ho]at he;simp only[abP,ab8]at he;obtain⟨x,⟨hx,hb⟩,rfl⟩:=he;exact hall x (by simpa using hx) hb
end
/-! ### What waits for what -/
def Xc(acc:List Nat)(l:List Nat):Nat:=l.foldr (fun e s=>s ||| (1 <<< e) ||| acc.getD e 0) 0
def JY(ops:Array Oper):Nat→List Nat
 | 0=>[]
 | k+1=>JY ops k++[Xc (JY ops k) (eg ops k)]
def zT(ms:List Nat)(i j:Nat):Bool:=(ms.getD i 0).testBit j
def FD(ops:Array Oper)(i:Nat):List Tmp:=match ops[i]? with|some o=>o.looksAt ops|none=>[]
def Ov(d:Option Tmp)(l:List Tmp):Bool:=match d with|some t=>l.contains t|none=>false
def Jr(ops:Array Oper)(i j:Nat):Bool:=
 Ov (eS ops j) (FD ops i)||Ov (eS ops i) (FD ops j)||(match eS ops i,eS ops j with|some a,some b=>Nat.beq a b|_,_=>false)
def EW(ops:Array Oper)(lo:Nat→Bool)(ms:List Nat)(N:Nat):Bool:=
 decide (ms.length≤N)&&ms.all (fun x=>Nat.ble (x+1) (2^N))&&(List.range N).all fun i =>
  (eg ops i).all (fun e=>Nat.ble (e+1) i)&&(List.range N).all (fun j=>!zT ms i j||(eg ops i).any fun e=>Nat.beq e j||zT ms e j)&&(List.range i).all fun j=>zT ms i j||!(Jr ops i j||(lo i&&lo j))
section
omit [Laid]
def EX{ops:Array Oper}{lo:Nat→Bool}{ms:List Nat}(h:EW ops lo ms ops.size=true):sL ops lo (zT ms):=by
 unfold EW at h;simp only[NO,Of]at h;obtain⟨⟨h1,h2⟩,h3⟩:=h;have at':∀i,i<ops.size→((∀e∈eg ops i,e<i)∧(∀j,j<ops.size→zT ms i j=true→∃e∈eg ops i,e=j∨zT ms e j=true)∧∀j,j<i→Jr ops i j=true∨(lo i=true∧lo j=true)→zT ms i j=true):=by
  intro i hi;have:=At.1 h3 i (by simpa using hi);simp only[NO]at this;obtain⟨⟨a,b⟩,c⟩:=this;refine⟨fun e he=>?_,fun j hj ha=>?_,fun j hj hc=>?_⟩
  ·have:=At.1 a e he;rw[Nat.ble_eq]at this;omega
  ·have:=At.1 b j (by simpa using hj);rw[ha]at this;simp only[Bool.not_true,Bool.false_or,List.any_eq_true,aci]at this;obtain⟨e,he,q⟩:=this;exact⟨e,he,q.imp lE id⟩
  ·have:=At.1 c j (by simpa using hj);simp only[aci,acj,acv,Bool.and_eq_false_iff]at this;rcases this with q|⟨q1,q2⟩
   ·exact q
   ·rcases hc with r|⟨r1,r2⟩
    ·rw[q1]at r;cases r
    ·rcases q2 with q2|q2
     ·rw[q2]at r1;cases r1
     ·rw[q2]at r2;cases r2
 have anlt:∀i j,zT ms i j=true→i<ops.size∧j<ops.size:=by
  intro i j h;unfold zT at h
  by_cases hi:i<ms.length
  ·refine⟨by omega, ?_⟩;have hm:=At.1 h2 ms[i] (ab6 hi);rw[Nat.ble_eq]at hm;rw[nE,dO hi]at h;simp only[Option.getD_some]at h;rcases uP j ops.size with q|q
   ·exact q
   ·have:ms[i].testBit j=false:=Nat.testBit_lt_two_pow (Up (show ms[i]<2^ops.size by omega) (Nat.pow_le_pow_right (by omega) q));rw[this]at h;cases h
  ·rw[nE,iS (by omega)]at h;simp at h
 refine⟨fun i hi=>(at' i hi).1,fun i j h=>(at' i (anlt i j h).1).2.1 j (anlt i j h).2 h,fun i j hi hj oi oj hoi hoj hc=>(at' i hi).2.2 j hj (.inl ?_),fun i j hi hj h1 h2=>(at' i hi).2.2 j hj (.inr ⟨h1,h2⟩)⟩;unfold Jr FD Ov;rw[hoi,hoj];obtain⟨t,⟨hd,hl⟩|⟨hd,hl⟩⟩:=hc
 ·rcases hl with hl|hl
  ·simp only[hd];simp only[aci];exact .inl (.inl (by simpa using hl))
  ·simp only[hd,hl];simp
 ·simp only[hd];simp only[aci];exact .inl (.inr (by simpa using hl))
end
end
end Go.Aw
end
