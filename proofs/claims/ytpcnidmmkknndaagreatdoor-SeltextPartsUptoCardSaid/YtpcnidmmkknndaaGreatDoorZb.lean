/-
 'append' and what else makes or grows a slice: the model's operations meet their words.
 No conditions.
-/
import Derived.Deep.AppendSrc
import Derived.Deep.Upon
import Derived.Test.YtpcnidmmkknndaaGreatDoorZa
set_option linter.unusedVariables false
set_option linter.unusedSimpArgs false
set_option linter.unusedSectionVars false
set_option linter.defProp false
set_option autoImplicit true
set_option maxRecDepth 1000000
set_option maxHeartbeats 16000000
noncomputable section
namespace Go.Aw
section
open Go Go.RowKit
variable [Laid]
def cK.kill{base:Nat}(hh:cK base ι S w h)(id:Nat):cK base ι S w (h.set id .dead):=by
 have dead:∀{x},(h.set id .dead)[id]?=some x→x=.dead:=by
  intro x e
  by_cases hl:id<h.length
  ·rw[iD hl]at e;exact (DO e).symm
  ·rw[iS (by simpa using hl)]at e;cases e
 refine hh.vZ (bS.refl _ _ _ _ _) (by simp[hh.len]) id (fun i hi _=>⟨iF (Ne.symm hi),rfl,fun _ _ _=>⟨rfl,fun _ q=>q⟩⟩) (fun x e=>?_) (fun e sz n q=>?_) (fun en q=>by rw[dead q];trivial) (fun j b _ aT _ _ _=>?_) hh.iK hh.kC
 ·cases dead e
 ·cases dead q
 ·cases e:(h.set id .dead)[id]? with
  | none=>rw[e]at aT;exact aT.elim
  | some x=>rw[e,dead e]at aT;exact aT.elim
omit [Laid] in
def bS.grow{base:Nat}(k:List Ix):bS ι.length base ι S w (ι++k) S w:=
 ⟨fun i hi=>fX.of_eq (gO hi),fun _ _ h=>h,fun _ _ h=>.inl h,fun _ _ _=>rfl,fun _ _ h=>h,Below.refl _ _⟩
def cK.drew{base:Nat}(hh:cK base ι S w h):bS ι.length base ι S w ι S w.drew∧cK base ι S w.drew h:=by
 have hE:bS ι.length base ι S w ι S w.drew:=⟨fun _ _=>fX.refl _,fun _ _ h=>h,fun _ _ h=>.inl h,fun _ _ _=>rfl,fun _ _ h=>h,(Below.refl base w).drew⟩;exact⟨hE,hh.vZ hE hh.len h.length (fun i _ _=>⟨rfl,rfl,fun _ _ _=>⟨rfl,fun _ q=>q⟩⟩) (fun x e=>by simp at e) (fun _ _ _ e=>by simp at e) (fun _ e=>by simp at e) (fun j b _ aT=>by simp[alive]at aT) hh.iK hh.kC⟩
omit [Laid] in
def pB(h:sK P e=true):∃i z,P.info? e=some i∧i.zero=some z∧z.cells.size=i.size∧P.cellsOf e=i.size∧jU P e=i.bytes:=by
 unfold sK at h;split at h
 ·rename_i i hi;split at h
  ·rename_i z hz;exact⟨i,z,hi,hz,by simpa using h,by simp[Program.cellsOf,hi],by simp[jU,hi]⟩
  ·cases h
 ·cases h
omit [Laid] in
theorem cn.flat{sz:Nat}:∀{rows:List (List AV)} {b off:Nat},cn ι S w sz rows b off→rows.flatten.length=rows.length*sz∧bE ι S w rows.flatten b off
 | [],b,off,_=>by simp[bE]
 | r:: rs,b,off,h=>by
   rw[cn]at h;obtain⟨h1,h2,h3⟩:=h;obtain⟨k1,k2⟩:=cn.flat h3;refine⟨by simp[h1,k1,abu,Nat.add_comm],bE.mk fun i c e=>?_⟩;rw[abq]at e;rcases uP i r.length with q|q
   ·rw[gO q]at e;exact h2.get i c e
   ·rw[gT q]at e;have:=k2.get _ c e;rw[show off+sz+(i-r.length)=off+i by omega]at this;exact this
omit [Laid] in
theorem CF:∀{cs:List AV} {vs:List Value},aB ι S w cs vs→cs.all bG=true→∀u∈vs,u.oneCell'=true
 | [],vs,h,_,u,hu=>by simp at h;subst h;cases hu
 | c:: cs,[],h,_,u,hu=>by simp at h
 | c:: cs,v:: vs,h,hs,u,hu=>by
   simp at h hs;simp only[ID]at hu;rcases hu with rfl|hu
   ·exact zF hs.1 h.1
   ·exact CF h.2 (by simpa using hs.2) u hu
omit [Laid] in
def bE.Fl{arr:Array Value}{fz:Nat×Nat}(h:w.heap[b]?=some (.cells arr t fz)){cs:List AV}{vs:List Value}(r:aB ι S w cs vs){off:Nat}
 (ha:∀i v,vs[i]?=some v→arr[off+i]?=some v) (hs:∀i,i<vs.length→S b (off+i)):bE ι S w cs b off:=
 bE.mk fun i c e=>by
  obtain⟨v,e1,e2⟩:=r.get i c e;exact⟨v,by rw[gb h];exact ha i v e1,hs i (eQ.1 e1).1,e2⟩
def FI{base:Nat}(hh:cK base ι S w h){t tx ty e:TypeId}(ht:P.underlying t=some (.slice e))(hz:sK P e=true)
 {v:Value} {rows:List (List AV)} {news:List Value} (hs:Src P (P.cellsOf e) tx v rows.length news w) (hn:aB ι S w rows.flatten news) (hrl:∀r∈rows,r.length=P.cellsOf e)
 {a:Option Addr} {cap:Nat} {bse:List (List AV)} {olds:List Value} (hbl:∀r∈bse,r.length=P.cellsOf e) (hlt:cap<bse.length+rows.length) (ho:aB ι S w bse.flatten olds)
 (hrd:(Builtin.firstCells (P.cellsOf e) bse.length (.slice a bse.length cap)).run P w.drew=.ok olds.toArray w.drew) (hm:bse.length+rows.length≤maxLen) (hby:(bse.length+rows.length)*jU P e≤140737488355328) :
 ∃u' w' arr S',(Builtin.append_ #[t,tx] ty #[.slice a bse.length cap,v]).run P w=.ok u' w'∧w'.heap=w.heap.push (.cells arr e)∧bS ι.length base ι S w ι S' w' ∧
  (∃cap',u'=.slice (some ⟨w.heap.size,0,none⟩) (bse.length+rows.length) cap'∧bse.length+rows.length≤cap'∧cap'≤maxLen∧cap'*P.cellsOf e≤arr.size) ∧
  (∀b o,S' b o↔S b o∨(b=w.heap.size∧o<(bse.length+rows.length)*P.cellsOf e))∧cn ι S' w' (P.cellsOf e) (bse++rows) w.heap.size 0:=by
 obtain⟨i,z,hi,hzz,hzs,hce,hbe⟩:=pB hz;rw[hbe]at hby;rw[hce]at hs hrl hbl hrd ⊢;have hnl:=hs.newsLen;have hol:olds.length=bse.length*i.size:=by rw[←ho.length,kp hbl]
 have hrun:=run_append_grow_src (P:=P) w t tx ty e i z ht hi hzz a bse.length cap olds hrd v rows.length news hs hlt (by simp only[maxLen]at hm;omega) (growslice_fits hlt hby);have hge:=grownCap_ge w (bse.length+rows.length) cap e;have hcm:=grownCap_le_maxLen w (bse.length+rows.length) cap e hm;generalize hZ:Builtin.zeroCells z.cells (grownCap w (bse.length+rows.length) cap e-(bse.length+rows.length))=Z at hrun;have hZs:Z.size=(grownCap w (bse.length+rows.length) cap e-(bse.length+rows.length))*i.size:=by rw[←hZ,size_zeroCells,hzs]
 let S':aY:=fun b o=>S b o∨(b=w.heap.size∧o<(bse.length+rows.length)*i.size)
 obtain⟨hE1,hH1⟩:=hh.drew;have hE2:bS ι.length base ι S w ι S' (w.drew.alloc (.cells ((olds++news).toArray++Z) e)):=
  ⟨fun _ _=>fX.refl _,fun _ _ q=>.inl q,fun b o q=>q.elim .inl fun q=>.inr (by rw[q.1];exact hh.kC),fun b o q=>World.cell?_of_block (w:=w) (Below.heap_alloc w.drew _ b (hh.iK b o q)),
   fun b x q=>yG (w:=w.drew) _ q,((Below.refl base w).drew).alloc hh.kC _⟩
 have hnew:(w.drew.alloc (.cells ((olds++news).toArray++Z) e)).heap[w.heap.size]?=some (.cells ((olds++news).toArray++Z) e):=by
  show (w.heap.push _)[w.heap.size]?=_;simp
 refine⟨_,_,(olds++news).toArray++Z,S',hrun,rfl,hE2,⟨_,rfl,hge,hcm, ?_⟩,fun _ _=>Iff.rfl, ?_⟩
 ·rw[Array.size_append,hZs,List.size_toArray,AT,hol,hnl,←abu,←abu];exact Nat.mul_le_mul_right _ (by omega)
 ·refine cn.of_flat (fun r hr=>?_) ?_
  ·rcases Is.1 hr with q|q
   ·exact hbl r q
   ·exact hrl r q
  ·rw[List.flatten_append];have r1:=(aB.fW hE2 (bY _) _ _ ho).append (aB.fW hE2 (bY _) _ _ hn);refine bE.Fl hnew r1 (fun j v q=>?_) (fun j hj=>?_)
   ·rw[aa4,Array.getElem?_append_left (by simpa using (eQ.1 q).1)];simpa using q
   ·right;refine⟨rfl, ?_⟩;rw[AT,hol,hnl,←abu]at hj;omega
omit [Laid] in
theorem td{P:Program}{sz:Nat}{rows:List (List AV)}{cap:Nat}(h:rows=[]∨∃b off,a=some ⟨b,off,none⟩∧cn ι S w sz rows b off):
 ∃olds,aB ι S w rows.flatten olds∧(Builtin.firstCells sz rows.length (.slice a rows.length cap)).run P w.drew=.ok olds.toArray w.drew:=by
 rcases h with rfl|⟨b,off,rfl,rr⟩
 ·refine⟨[],by simp, ?_⟩;cases a with
  | none=>exact run_firstCells_none w.drew sz 0 0 cap
  | some a=>exact run_firstCells_some w.drew sz 0 a 0 cap [] (by simp) (by simp)
 ·obtain⟨k1,k2⟩:=rr.flat;obtain⟨vs,rv,hc⟩:=k2.sI;refine⟨vs,rv,run_firstCells_some w.drew sz rows.length _ rows.length cap _ (by rw[←rv.length,k1]) fun j v q=>?_⟩;rw[addr_add];exact hc j v q
section
variable {P:Program} {o:Oper} {base:Nat} {ι:List Ix} {S:aY} {a:Act} {w:World} {st:St} {K:AV→aa→Prop}
omit [Laid] in
def F6{w:World}{n cap b c:Nat}(h:Cs (.slice (some ⟨c,0,none⟩) n cap) b):b=c:=by
 obtain⟨a,l,cap',e,h1,h2⟩:=h;cases e;exact h1.symm
omit [Laid] in
theorem lC:∀(vs:List Value) (w:World) (b o c:Nat),c≠b→(w.setCells b o vs).heap[c]?=w.heap[c]?
 | [],w,b,o,c,_=>rfl
 | v:: vs,w,b,o,c,h=>by
   rw[World.setCells,lC vs _ b (o+1) c h];exact Below.heap_setCell w ⟨b,o,none⟩ v c h
omit [Laid] in
theorem setCells_at:∀(vs:List Value) (w:World) (b o:Nat) {arr:Array Value} {t:TypeId} {fz:Nat×Nat},w.heap[b]?=some (.cells arr t fz)→o+vs.length≤arr.size →
 ∃arr',(w.setCells b o vs).heap[b]?=some (.cells arr' t fz)∧arr'.size=arr.size∧(∀i v,vs[i]?=some v→arr'[o+i]?=some v)∧∀i,(i<o∨o+vs.length≤i)→arr'[i]?=arr[i]?
 | [],w,b,o,arr,t,fz,h,_=>⟨arr,h,rfl,by simp,fun _ _=>rfl⟩
 | v:: vs,w,b,o,arr,t,fz,h,hl=>by
   simp only[aaP]at hl;obtain⟨arr',k1,k2,k3,k4⟩:=setCells_at vs (w.setCell ⟨b,o,none⟩ v) b (o+1) (tq h o v) (by simp;omega);refine⟨arr',k1,by simpa using k2,fun i u e=>?_,fun i hi=>?_⟩
   ·cases i with
    | zero =>
      simp only[List.getElem?_cons_zero,On]at e;subst e;rw[Nat.add_zero,k4 o (.inl (by omega)),Array.getElem?_setIfInBounds];simp;omega
    | succ i =>
      have:=k3 i u (by simpa using e);rw[show o+(i+1)=o+1+i by omega];exact this
   ·simp only[aaP]at hi;rw[k4 i (by omega),Array.getElem?_setIfInBounds_ne (by omega)]
omit [Laid] in
theorem ph{base:Nat}:∀(vs:List Value) (w:World) (b o:Nat),base≤b→Below base w (w.setCells b o vs)
 | [],w,b,o,_=>Below.refl _ _
 | v:: vs,w,b,o,h=>((Below.refl base w).setCell (p:=⟨b,o,none⟩) h v).trans (ph vs _ b (o+1) h)
omit [Laid] in
theorem pn:∀(vs:List Value) (w:World) (b o c:Nat),(w.setCells b o vs).shape? c=w.shape? c
 | [],w,b,o,c=>rfl
 | v:: vs,w,b,o,c=>by rw[World.setCells,pn vs _ b (o+1) c,wC]
omit [Laid] in
theorem setCells_size:∀(vs:List Value) (w:World) (b o:Nat),(w.setCells b o vs).heap.size=w.heap.size
 | [],w,b,o=>rfl
 | v:: vs,w,b,o=>by rw[World.setCells,setCells_size vs _ b (o+1)];simp[World.setCell]
def Ie{t tx ty e:TypeId}(hh:cK base ι S w h)(ht:P.underlying t=some (.slice e))(hz:sK P e=true){v u:Value}{rows bse:List (List AV)}{news:List Value}{id:Nat}
 (hs:Src P (P.cellsOf e) tx v rows.length news w) (hn:aB ι S w rows.flatten news) (hrl:∀r∈rows,r.length=P.cellsOf e)
 (hu:ar ι S w (.sb id (P.cellsOf e) bse) u) (hid:h[id]?=some (.tok e (P.cellsOf e) bse.length)) (hm:jG (jU P e) (bse.length+rows.length)) :
 ∃u' w' ι' S',(Builtin.append_ #[t,tx] ty #[u,v]).run P w=.ok u' w'∧bS ι.length base ι S w ι' S' w'∧ar ι' S' w' (.sb id (P.cellsOf e) (bse++rows)) u'∧cK base ι' S' w' (h.set id (.tok e (P.cellsOf e) (bse.length+rows.length))):=by
 have hlt:id<h.length:=(eQ.1 hid).1;have hlι:id<ι.length:=by rw[hh.len];exact hlt
 obtain⟨v0,hv0,a,cap,rfl,hcap,hcm,hblk⟩:=hh.tok id _ _ _ hid;rw[ar]at hu;obtain⟨⟨a',cap',eu,hc1,hc2,hrows⟩,n',v',t1,t2,t3⟩:=hu;rw[hv0]at t1;cases t1;have eu':=t3 rfl;rw[eu]at eu';cases eu';subst eu;have hbl:∀r∈bse,r.length=P.cellsOf e:=by
  rcases hrows with rfl|⟨b,off,_,rr⟩
  ·simp
  ·intro r hr;obtain⟨j,hj⟩:=List.getElem?_of_mem hr;exact (rr.get j r hj).1
 have hflat:=kp hrl;have hnl:news.length=rows.length*P.cellsOf e:=by rw[←hn.length,hflat]
 -- what becomes of the place
 have close:∀{u':Value} {w':World} {S':aY},bS ι.length base ι S w ι S' w'→(∃a'' cap'',u'=.slice a'' (bse.length+rows.length) cap''∧bse.length+rows.length≤cap''∧cap''≤maxLen∧(bse++rows=[]∨∃b off,a''=some ⟨b,off,none⟩∧cn ι S' w' (P.cellsOf e) (bse++rows) b off)) →
  (rows.length=0→u'=.slice a bse.length cap)→uQ base S' w' e (P.cellsOf e) (bse.length+rows.length) u'→(∀b,b<w.heap.size→(∀c,Cs (.slice a bse.length cap) c→b≠c)→base≤b→w'.heap[b]?=w.heap[b]?∧∀o,S' b o→S b o) →
  (∀b,Cs u' b→Cs (.slice a bse.length cap) b∨w.heap.size≤b)→(∀b o,S' b o→b<w'.heap.size) →
  ∃ι' S',bS ι.length base ι S w ι' S' w'∧ar ι' S' w' (.sb id (P.cellsOf e) (bse++rows)) u'∧cK base ι' S' w' (h.set id (.tok e (P.cellsOf e) (bse.length+rows.length))):=by
  intro u' w' S' hE hrep hsame htok hother hnew hstb;have hE':bS ι.length base ι S w (ι.set id (.tok (bse.length+rows.length) u')) S' w':=by
   refine⟨fun i hi=>?_,hE.sub,hE.new,hE.cell,hE.xg,hE.mR⟩
   by_cases q:i=id
   ·subst q;rw[iD hlι,hv0];refine⟨_,_,rfl, ?_⟩
    by_cases z:rows.length=0
    ·left;exact⟨by omega,by rw[hsame z]⟩
    ·right;omega
   ·rw[iF (Ne.symm q)];exact fX.refl _
  have hE2:bS ι.length base ι S' w' (ι.set id (.tok (bse.length+rows.length) u')) S' w':=⟨hE'.pre,fun _ _ q=>q,fun _ _ q=>.inl q,fun _ _ _=>rfl,fun _ _ q=>q,Below.refl _ _⟩;refine⟨_,S',hE', ?_,hh.vZ hE' (by simp[hh.len]) id (fun i hi ha=>?_) (fun x q=>?_) (fun e' sz' n' q=>?_) (fun en q=>by rw[iD hlt]at q;cases q;trivial) (fun j b hj _ aj hb hb' => ?_) hstb (aa7 hh.kC hE.mR.size)⟩
  ·rw[ar];obtain⟨a'',cap'',e1,e2,e3,e4⟩:=hrep;refine⟨⟨a'',cap'',by rw[AT];exact e1,by rw[AT];exact e2,e3,e4.imp (fun q=>q) fun⟨b,off,q1,q2⟩=>⟨b,off,q1,cn.fW hE2 (bY _) _ _ b off q2⟩⟩,_,_,iD hlι,by simp,fun _=>rfl⟩
  ·rw[iF (Ne.symm hi)]at ha ⊢;refine⟨rfl,iF (Ne.symm hi),fun b hb hbl=>hother b hbl (fun c hc q=>?_) (hh.BS ha hb).1⟩;subst q;exact hi (hh.inj i id b ha (by rw[hid];exact trivial) hb (by rw[hv0];exact hc))
  ·rw[iD hlt]at q;cases q
  ·rw[iD hlt]at q;cases q;exact⟨_,iD hlι,htok⟩
  ·rw[iF (Ne.symm hj)]at aj;rw[iF (Ne.symm hj)]at hb';rw[iD hlι]at hb;rcases hnew b hb with q|q
   ·exact hj (hh.inj j id b aj (by rw[hid];exact trivial) hb' (by rw[hv0];exact q))
   ·have:=(hh.BS aj hb').2;omega
 by_cases hfit:bse.length+rows.length≤cap
 ·-- there is room
  by_cases hc0:cap=0
  ·have hr0:rows.length=0:=by omega
   have hb0:bse.length=0:=by omega
   obtain⟨i,z,hi,hzz,hzs,hce,hbe⟩:=pB hz;have hnews:news=[]:=List.eq_nil_of_length_eq_zero (by rw[hnl,hr0,Nat.zero_mul]);subst hnews;have hrows0:rows=[]:=List.eq_nil_of_length_eq_zero hr0;subst hrows0;have hrun:=run_append_nothing (P:=P) w t tx ty e i ht hi a bse.length cap (by omega) v (by rw[←hce];exact hs);obtain⟨ι',S',q1,q2,q3⟩:=close (u':=.slice a bse.length cap) (w':=w) (S':=S) (bS.refl _ _ _ _ _) ⟨a,cap,by simp,by simpa using hfit,hcm,by left;simp;exact List.eq_nil_of_length_eq_zero hb0⟩ (fun _=>rfl)
    ⟨a,cap,by simp,by simpa using hfit,hcm,.inl hc0⟩ (fun _ _ _ _=>⟨rfl,fun _ q=>q⟩) (fun _ q=>.inl q) hh.iK
   exact⟨_,_,ι',S',hrun,q1,q2,q3⟩
  ·rcases hblk with hblk|⟨b,arr,fz,rfl,k1,k2,k3,k4,k5⟩
   ·exact absurd hblk hc0
   ·obtain⟨i,z,hi,hzz,hzs,hce,hbe⟩:=pB hz;have hmul:(bse.length+rows.length)*P.cellsOf e≤cap*P.cellsOf e:=Nat.mul_le_mul_right _ hfit;rw[abu]at hmul;have hcells:∀j,j<news.length→(w.cell? ⟨b,0+bse.length*i.size+j,none⟩).isSome=true:=fun j hj=>by
     rw[gb k2,UP (by rw[hnl]at hj;rw[←hce];omega)];rfl
    have hfroz:∀j,j<news.length→w.frozen? ⟨b,0+bse.length*i.size+j,none⟩=false:=fun j hj=>by
     rw[pW k2];have:=k3 (0+bse.length*i.size+j) (by rw[hnl]at hj;rw[←hce];omega);simpa using this
    have hrun:=run_append_room_src (P:=P) w t tx ty e i ht hi b 0 bse.length cap v rows.length news (by rw[←hce];exact hs) hfit hcells hfroz;rw[aa4,←hce]at hrun;obtain⟨arr',g1,g2,g3,g4⟩:=setCells_at news w b (bse.length*P.cellsOf e) k2 (by rw[hnl];omega)
    let S':aY:=fun c o=>S c o∨(c=b∧bse.length*P.cellsOf e≤o∧o<(bse.length+rows.length)*P.cellsOf e)
    have hE:bS ι.length base ι S w ι S' (w.setCells b (bse.length*P.cellsOf e) news):=by
     refine⟨fun _ _=>fX.refl _,fun _ _ q=>.inl q,fun c o q=>q.elim .inl fun q=>.inr (by rw[q.1];exact k1),fun c o q=>?_,fun c x q=>by rw[pn];exact q,ph news w b _ k1⟩
     by_cases hcb:c=b
     ·subst hcb;rw[gb g1,gb k2];exact g4 o (.inl (k5 o q))
     ·exact World.cell?_of_block (w:=w) (lC news w b _ c hcb)
    have told:∀b' off,(⟨b,0,none⟩:Addr)=⟨b',off,none⟩→b'=b∧off=0:=fun b' off q=>by cases q;exact⟨rfl,rfl⟩
    have hR:bse++rows=[]∨∃b' off,some (⟨b,0,none⟩:Addr)=some ⟨b',off,none⟩∧cn ι S' (w.setCells b (bse.length*P.cellsOf e) news) (P.cellsOf e) (bse++rows) b' off:=by
     right;refine⟨b,0,rfl,cn.of_flat (fun r hr=>(Is.1 hr).elim (hbl r) (hrl r)) ?_⟩;rw[List.flatten_append];have hC1:bE ι S' (w.setCells b (bse.length*P.cellsOf e) news) bse.flatten b 0:=by
      rcases hrows with rfl|⟨b',off,q,rr⟩
      ·simp[bE]
      ·obtain⟨rfl,rfl⟩:=told b' off (DO q);exact bE.fW hE (bY _) _ _ _ rr.flat.2
     have hC2:bE ι S' (w.setCells b (bse.length*P.cellsOf e) news) rows.flatten b (bse.length*P.cellsOf e):=
      bE.Fl g1 (aB.fW hE (bY _) _ _ hn) (fun i v q=>g3 i v q) (fun i hi=>.inr ⟨rfl,by omega,by rw[hnl]at hi;rw[abu];omega⟩)
     have hfl:=kp hbl;refine bE.mk fun i c q=>?_;rcases uP i bse.flatten.length with z|z
     ·rw[gO z]at q;exact hC1.get i c q
     ·rw[gT z]at q;have:=hC2.get _ c q;rw[show bse.length*P.cellsOf e+(i-bse.flatten.length)=0+i by omega]at this;exact this
    obtain⟨ι',S'',q1,q2,q3⟩:=close (u':=.slice (some ⟨b,0,none⟩) (bse.length+rows.length) cap) (w':=w.setCells b (bse.length*P.cellsOf e) news) (S':=S') hE ⟨_,cap,rfl,hfit,hcm,hR⟩ (fun z=>by rw[z,Nat.add_zero])
     ⟨_,cap,rfl,hfit,hcm,.inr ⟨b,arr',fz,rfl,k1,g1,by rw[g2];exact k3,by rw[g2];exact k4,fun o q=>by
      rcases q with q|q
      ·have:=k5 o q;rw[abu];omega
      ·exact q.2.2⟩⟩ (fun c hc hne _=>⟨lC news w b _ c (hne b ⟨_,_,_,rfl,rfl,hc0⟩),fun o q=>q.elim (fun q=>q) fun q=>absurd q.1 (hne b ⟨_,_,_,rfl,rfl,hc0⟩)⟩)
     (fun c q=>.inl ⟨_,_,_,rfl,(F6 (w:=w) q).symm,hc0⟩) (fun c o q=>by
      rw[setCells_size];rcases q with q|q
      ·exact hh.iK c o q
      ·rw[q.1];exact xO k2)
    exact⟨_,_,ι',S'',hrun,q1,q2,q3⟩
 ·-- it grows
  obtain⟨olds,hold,hrd⟩:=td (P:=P) (cap:=cap) hrows;obtain⟨u',w',arr,S',hrun,hheap,hE,⟨cap',rfl,g1,g2,g3⟩,hS',hR⟩:=FI (ty:=ty) hh ht hz hs hn hrl hbl (by omega) hold hrd hm.1 hm.2;have hnw:w'.heap[w.heap.size]?=some (.cells arr e):=by rw[hheap];simp
  obtain⟨ι',S'',q1,q2,q3⟩:=close hE ⟨_,cap',rfl,g1,g2,.inr ⟨_,0,rfl,hR⟩⟩ (fun z=>by omega)
   ⟨_,cap',rfl,g1,g2,.inr ⟨w.heap.size,arr,(0,0),rfl,hh.kC,hnw,fun o _=>by simp,g3,fun o q=>by
    rcases (hS' _ o).1 q with q|q
    ·have:=hh.iK _ _ q;omega
    ·exact q.2⟩⟩ (fun b hb _ _=>⟨by rw[hheap,Array.getElem?_push];simp;omega,fun o q=>by
    rcases (hS' b o).1 q with q|q
    ·exact q
    ·omega⟩) (fun b q=>.inr (by rw[F6 (w:=w) q];exact bY _)) (fun b o q=>by
    rw[hheap,Array.size_push];rcases (hS' b o).1 q with q|q
    ·have:=hh.iK b o q;omega
    ·omega)
  exact⟨_,_,ι',S'',hrun,q1,q2,q3⟩
def cK.begin{h:aa}(hh:cK base ι S w h){e sz:TypeId}{a:Option Addr}:cK base (ι++[.tok 0 (.slice a 0 0)]) S w (h++[.tok e sz 0]):=
 hh.push _ _ (bS.grow _) (fun _ _ _=>⟨rfl,fun _ q=>q⟩) (fun _ q=>by cases q) (fun e' sz' n' q=>by cases q;exact⟨_,rfl,a,0,rfl,bY _,aa2 _,.inl rfl⟩) trivial
  (fun _ b hb=>by obtain⟨_,_,_,q,_,h0⟩:=hb;cases q;exact absurd rfl h0) hh.iK
omit [Laid] in
def ar.begin(ι:List Ix)(S:aY)(w:World)(sz:Nat)(a:Option Addr):ar (ι++[.tok 0 (.slice a 0 0)]) S w (.sb ι.length sz []) (.slice a 0 0):=by
 rw[ar];exact⟨⟨a,0,rfl,bY _,aa2 _,.inl rfl⟩,0,_,by simp,bY _,fun _=>rfl⟩
def Dk(hh:cK base ι S w h)(hy:ar ι S w x y){sz:Nat}{rows:List (List AV)}(hs:jA h sz x=some rows):
 ∃ad cap vs,y=.slice ad rows.length cap∧rows.length≤maxLen∧aB ι S w rows.flatten vs∧rows.flatten.length=rows.length*sz ∧
  ((ad=none∧vs=[]∧rows=[])∨∃b,ad=some b∧∀j u,vs[j]?=some u→w.cell? (b.add j)=some u):=by
 have hy:=hy.ni;unfold jA at hs;split at hs
 ·rename_i e1;cases hs;rw[e1,ar]at hy;obtain⟨b,ev⟩:=hy;exact⟨b,0,[],ev,aa2 _,by simp,by simp,by cases b<;>simp⟩
 ·rename_i sz' rows' e1;split at hs
  ·rename_i hsz;subst hsz;cases hs;rw[e1,ar]at hy;obtain⟨b,cap,ev,c1,c2,c3⟩:=hy;rcases c3 with rfl|⟨bb,off,rfl,hrr⟩
   ·exact⟨b,cap,[],ev,aa2 _,by simp,by simp,by cases b<;>simp⟩
   ·obtain⟨k1,k2⟩:=hrr.flat;obtain⟨vs,rv,hcell⟩:=k2.sI;exact⟨_,cap,vs,ev,by omega,rv,k1,.inr ⟨_,rfl,fun j u q=>by rw[addr_add];exact hcell j u q⟩⟩
  ·cases hs
 ·rename_i id off len sz' e1;split at hs
  ·rename_i ak eb;split at hs
   ·rename_i hcond;obtain⟨rfl,hlen⟩:=hcond;cases hs;rw[e1,ar]at hy;obtain⟨b,b',cap,n,ty,c1,ev,c2,c3,c4,c5,c6⟩:=hy;obtain⟨b2,arr,fz,k1,k2,k3,k4,k5,k6,k7,k8,k9⟩:=hh.live id ak eb;rw[c1]at k1;cases k1;obtain⟨f1,f2⟩:=jf sz' len (ak.cells.drop off) (by simp;omega);have hcells:aB ι S w ((ak.cells.drop off).take (len*sz')) ((arr.toList.drop off).take (len*sz')):=by
     refine aB.mk (by simp;omega) fun j c v e1 e2=>?_;rw[ON]at e1 e2;split at e1
     ·rename_i hj;rw[if_pos hj]at e2;rw[aaU]at e1 e2;obtain⟨v',e3,r⟩:=k6 _ c e1;simp only[Array.getElem?_toList]at e2;rw[e3]at e2;cases e2;exact r
     ·cases e1
    refine⟨b',cap,_,by rw[jV];exact ev,by rw[jV];omega,by rw[f1];exact hcells,kp f2, ?_⟩;rcases c4 with rfl|rfl
    ·have:len=0:=by omega
     subst this;cases b'<;>simp[chunks]
    ·refine .inr ⟨_,rfl,fun j u q=>?_⟩;rw[addr_add,gb k3];rw[ON]at q;split at q
     ·rw[aaU]at q;simpa using q
     ·cases q
   ·cases hs
  ·cases hs
 ·cases hs
omit [Laid] in
theorem qH:∀l:List UInt8,(l.map fun b=>[bf b]).flatten=l.map bf
 | []=>rfl
 | b:: l=>by rw[GO,abq,qH l];rfl
omit [Laid] in
def UL{sz:Nat}{rows:List (List AV)}(h:rows.all (dy sz)=true):(∀r∈rows,r.length=sz)∧rows.flatten.all bG=true:=by
 simp only[At,dy,NO,beq_iff_eq]at h;refine⟨fun r hr=>(h r hr).1, ?_⟩;simp only[At];intro c hc;obtain⟨r,hr,hcr⟩:=List.mem_flatten.1 hc;exact (h r hr).2 c hcr
theorem Ig{own:Bool}{c:Call}{t tx e:TypeId}{x y:Operand}{src:Option (List (List AV))}(hr:bZ base ι S a w st)(ho:o.op=.call c)(hc:c.callee=.builtin .append)(hat:c.argTypes.toList=[t,tx])(hax:c.args.toList=[x,y])
 (ht:P.underlying t=some (.slice e)) (hz:sK P e=true) (hsrc:∀rows,src=some rows→(∀r∈rows,r.length=P.cellsOf e)→rows.flatten.all bG=true→∃news,Src P (P.cellsOf e) tx (a.eval y) rows.length news w∧aB ι S w rows.flatten news)
 (h:eI own e (P.cellsOf e) (jU P e) (aE st.fr x) src st.h K):ct P o base ι S a w st K:=by
 have hty:c.argTypes=#[t,tx]:=by apply Array.ext';simpa using hat
 have hag:c.args.map a.eval=#[a.eval x,a.eval y]:=by apply Array.ext';simp[hax]
 have done:∀{u' w'},(Builtin.append_ #[t,tx] o.type #[a.eval x,a.eval y]).run P w=.ok u' w'→(execOp a.eval o).run P w=.ok (.value u') w':=fun hrun =>
  xF (s:=Builtin.append_ c.argTypes o.type (c.args.map a.eval)) ho hc (fun cs=>rfl) (by rw[hty,hag];exact hrun)
 have hx:=(hr.eval x).w9;unfold eI at h;split at h
 ·exact h.elim
 ·rename_i rows;obtain⟨hro,h⟩:=h;obtain⟨hrl,hsc⟩:=UL hro;obtain⟨news,hs,hn⟩:=hsrc rows rfl hrl hsc
  -- a new block of the call's own
  have mine:∀{h':aa} {id0:Option Nat} {bse:List (List AV)} {olds:List Value} {ad:Option Addr} {cap:Nat},a.eval x=.slice ad bse.length cap→h'.length=st.h.length→cK base ι S w h'→(∀r∈bse,r.length=P.cellsOf e)→cap<bse.length+rows.length →
   aB ι S w bse.flatten olds→(Builtin.firstCells (P.cellsOf e) bse.length (.slice ad bse.length cap)).run P w.drew=.ok olds.toArray w.drew→jG (jU P e) (bse.length+rows.length) →
   K (.own st.h.length 0 (bse.length+rows.length) (P.cellsOf e)) (h'++[.ak ⟨e,bse.flatten++rows.flatten,true⟩])→ct P o base ι S a w st K:=by
   intro h' id0 bse olds ad cap ev hlen hh hbl hlt hold hrd hm k;obtain⟨i,z,hi,hzz,hzs,hce,hbe⟩:=pB hz;have hm2:=hm.2;rw[hbe]at hm2;rw[hce]at hs hbl hrl hrd k;have hnl:=hs.newsLen;have hol:olds.length=bse.length*i.size:=by rw[←hold.length,kp hbl]
   have hrun:=run_append_grow_src (P:=P) w t tx o.type e i z ht hi hzz ad bse.length cap olds hrd (a.eval y) rows.length news hs hlt (by have:=hm.1;simp only[maxLen]at this;omega) (growslice_fits hlt hm2);have hge:=grownCap_ge w (bse.length+rows.length) cap e;have hcm:=grownCap_le_maxLen w (bse.length+rows.length) cap e hm.1;obtain⟨hE1,hH1⟩:=hh.drew;have r1:aB ι S w.drew (bse.flatten++rows.flatten) (olds++news):=(aB.fW hE1 (bY _) _ _ hold).append (aB.fW hE1 (bY _) _ _ hn);have hA:=hH1.alloc e _ (olds++news) r1 (0,0) (Builtin.zeroCells z.cells (grownCap w (bse.length+rows.length) cap e-(bse.length+rows.length))).toList (fun o _=>by simp);have harr:((olds++news)++(Builtin.zeroCells z.cells (grownCap w (bse.length+rows.length) cap e-(bse.length+rows.length))).toList).toArray=(olds++news).toArray++Builtin.zeroCells z.cells (grownCap w (bse.length+rows.length) cap e-(bse.length+rows.length)):=by
    apply Array.ext';simp
   rw[harr]at hA;refine ir hr (done (by rw[ev];exact hrun)) (hE1.trans (bS.alloc hH1.kC (fun b o=>hH1.iK b o) _ [.ak w.heap.size])) ?_ hA (by simp[hlen]) k;rw[ar];have hsz:((olds++news).toArray++Builtin.zeroCells z.cells (grownCap w (bse.length+rows.length) cap e-(bse.length+rows.length))).size=grownCap w (bse.length+rows.length) cap e*i.size:=by
    rw[Array.size_append,List.size_toArray,AT,hol,hnl,size_zeroCells,hzs,←abu,←abu]
    congr 1
    omega
   refine⟨w.heap.size,_,_,_,e,by rw[←hr.hp.len];simp,rfl,hge,hcm,.inr rfl, ?_,by rw[aa4];exact Nat.le_of_eq hsz.symm⟩;have hnew:(w.drew.alloc (.cells ((olds++news).toArray++Builtin.zeroCells z.cells (grownCap w (bse.length+rows.length) cap e-(bse.length+rows.length))) e)).heap[w.heap.size]?=some (.cells ((olds++news).toArray++Builtin.zeroCells z.cells (grownCap w (bse.length+rows.length) cap e-(bse.length+rows.length))) e):=by
    show (w.heap.push _)[w.heap.size]?=_;simp
   unfold World.shape?;rw[hnew]
  split at h
  ·-- out of nothing
   rename_i e1;rw[e1,ar]at hx;obtain⟨ad,ev⟩:=hx;split at h
   ·obtain⟨hm,k⟩:=h;have hB:=hr.hp.begin (e:=e) (sz:=P.cellsOf e) (a:=ad);have hEb:bS ι.length base ι S w (ι++[.tok 0 (.slice ad 0 0)]) S w:=bS.grow _;have hsB:aB (ι++[.tok 0 (.slice ad 0 0)]) S w rows.flatten news:=aB.fW hEb (bY _) _ _ hn;have hRB:=ar.begin ι S w (P.cellsOf e) ad;rw[hr.hp.len]at hRB;obtain⟨u',w',ι',S',q1,q2,q3,q4⟩:=Ie (ty:=o.type) (bse:=[]) (id:=st.h.length) hB ht hz hs hsB hrl hRB (by simp) (by simpa using hm);rw[ev]at done;refine ir hr (done q1) ((hEb).trans (q2.mono (by simp) (bY _))) q3 q4 (by simp) ?_;simp only[List.nil_append,abr,aa4];rw[IF _ _ (bY _)];simpa using k
   ·obtain⟨hne,hm,k⟩:=h;obtain⟨olds,hold,hrd⟩:=td (P:=P) (ι:=ι) (S:=S) (w:=w) (sz:=P.cellsOf e) (rows:=[]) (a:=ad) (cap:=0) (.inl rfl);refine mine (bse:=[]) (id0:=none) (h':=st.h) (ad:=ad) (cap:=0) ev rfl hr.hp (by simp) ?_ hold hrd (by simpa using hm) (by simpa using k);have:=List.length_pos_iff.2 hne;simpa using this
  ·-- at its end
   rename_i id sz' bse e1;split at h
   ·rename_i e' sz'' k eh;obtain⟨⟨rfl,rfl,rfl,rfl⟩,hm,kk⟩:=h;rw[e1]at hx;obtain⟨u',w',ι',S',q1,q2,q3,q4⟩:=Ie (ty:=o.type) hr.hp ht hz hs hn hrl hx eh hm;exact ir hr (done q1) q2 q3 q4 (by simp) kk
   ·exact h.elim
  ·-- the call's own
   rename_i id off len sz' e1;split at h
   ·rename_i ak eb;obtain⟨⟨rfl,rfl,hwr,rfl,hlc⟩,hpos,hm,k⟩:=h;rw[e1,ar]at hx;obtain⟨b,ad,cap,m,ty',c1,ev,c2,c3,c4,c5,c6⟩:=hx;obtain⟨b',arr,fz,k1,k2,k3,k4,k5,k6,k7,k8,k9⟩:=hr.hp.live id ak eb;rw[c1]at k1;cases k1;have hm':m=arr.size:=by
     unfold World.shape? at c5;rw[k3]at c5;simp only[On,aaY]at c5;exact c5.2.symm
    subst hm';obtain⟨f1,f2⟩:=jf (P.cellsOf ak.ty) len ak.cells hlc;have hcl:=jV (P.cellsOf ak.ty) len ak.cells;have hcs:aB ι S w (ak.cells.take (len*P.cellsOf ak.ty)) (arr.toList.take (len*P.cellsOf ak.ty)):=by
     refine aB.mk (by simp;omega) fun j c v e1 e2=>?_;rw[ON]at e1 e2;split at e1
     ·rename_i hj;rw[if_pos hj]at e2;obtain⟨v',e3,r⟩:=k6 j c e1;simp only[Array.getElem?_toList]at e2;rw[e3]at e2;cases e2;exact r
     ·cases e1
    by_cases hfit:len+rows.length≤cap
    ·-- there is room
     obtain⟨i,z,hi,hzz,hzs,hce,hbe⟩:=pB hz;rcases c4 with c4|rfl
     ·omega
     have hnl:=hs.newsLen;have hmul:(len+rows.length)*P.cellsOf ak.ty≤cap*P.cellsOf ak.ty:=Nat.mul_le_mul_right _ hfit;rw[abu]at hmul;have hcells:∀j,j<news.length→(w.cell? ⟨b,0+len*i.size+j,none⟩).isSome=true:=fun j hj=>by
      rw[gb k3,UP (by rw[hnl]at hj;rw[←hce];omega)];rfl
     have hfroz:∀j,j<news.length→w.frozen? ⟨b,0+len*i.size+j,none⟩=false:=fun j hj=>by
      rw[pW k3];have:=k4 (0+len*i.size+j) (by rw[hnl]at hj;rw[←hce];omega);simpa using this
     have hrun:=run_append_room_src (P:=P) w t tx o.type ak.ty i ht hi b 0 len cap (a.eval y) rows.length news (by rw[←hce];exact hs) hfit hcells hfroz;rw[aa4,←hce]at hrun;obtain⟨arr',g1,g2,g3,g4⟩:=setCells_at news w b (len*P.cellsOf ak.ty) k3 (by rw[hnl];omega);have hE:bS ι.length base ι S w (ι++[.ak b]) S (w.setCells b (len*P.cellsOf ak.ty) news):=
      ⟨fun i hi=>fX.of_eq (gO hi),fun _ _ q=>q,fun _ _ q=>.inl q,fun c o q=>World.cell?_of_block (w:=w) (lC news w b _ c fun z=>k7 hwr o (z▸q)),fun c x q=>by rw[pn];exact q,ph news w b _ k2⟩
     have hl:=hr.hp.len;have hid:id<st.h.length:=(eQ.1 eb).1;have alv:∀{i:Nat},i≠st.h.length→alive (st.h.set id .dead++[.ak ⟨ak.ty,ak.cells.take (len*P.cellsOf ak.ty)++rows.flatten,true⟩])[i]?→i≠id∧(st.h.set id .dead++[.ak ⟨ak.ty,ak.cells.take (len*P.cellsOf ak.ty)++rows.flatten,true⟩])[i]?=st.h[i]?:=by
      intro i hi ha;rw[nQ (by simpa using hi)]at ha ⊢
      by_cases q:i=id
      ·subst q;rw[iD hid]at ha;exact ha.elim
      ·exact⟨q,iF (Ne.symm q)⟩
     have hH:cK base (ι++[.ak b]) S (w.setCells b (len*P.cellsOf ak.ty) news) (st.h.set id .dead++[.ak ⟨ak.ty,ak.cells.take (len*P.cellsOf ak.ty)++rows.flatten,true⟩]):=by
      have lst:(st.h.set id .dead++[aK.ak ⟨ak.ty,ak.cells.take (len*P.cellsOf ak.ty)++rows.flatten,true⟩])[st.h.length]?=some (.ak ⟨ak.ty,ak.cells.take (len*P.cellsOf ak.ty)++rows.flatten,true⟩):=by
       rw[gT (by simp)];simp
      refine hr.hp.vZ hE (by simp[hl]) st.h.length (fun i hi ha=>?_) (fun x q=>?_) (fun _ _ _ q=>?_) (fun en q=>by rw[lst]at q;cases q;trivial) (fun j c hj _ aj hb hb' => ?_) (fun c o q=>by rw[setCells_size];exact hr.hp.iK c o q) (by rw[setCells_size];exact hr.hp.kC)
      ·obtain⟨hne,he⟩:=alv hi ha;refine⟨he,nQ (by rw[hl];exact hi),fun c hc _=>⟨lC news w b _ c fun q=>?_,fun _ q=>q⟩⟩;subst q;rw[he]at ha;exact hne (hr.hp.inj i id c ha (by rw[eb];exact trivial) hc (by rw[c1];rfl))
      ·rw[lst]at q;cases q;have hnf:rows.flatten.length=rows.length*P.cellsOf ak.ty:=kp hrl;have hlt:(ak.cells.take (len*P.cellsOf ak.ty)).length=len*P.cellsOf ak.ty:=by simp;omega
       refine⟨b,arr',fz,by rw[←hl];exact kG,k2,g1,by rw[g2];exact k4, ?_,fun j c q=>?_,fun _=>k7 hwr,fun o q=>absurd q (k7 hwr o),fun q=>by cases q⟩
       ·rw[AT,hlt,hnf,g2];omega
       ·rcases uP j (len*P.cellsOf ak.ty) with z|z
        ·rw[gO (by omega),ON,if_pos z]at q;obtain⟨v,q1,q2⟩:=k6 j c q;exact⟨v,by rw[g4 j (.inl z)];exact q1,ar.fW hE (bY _) c v q2⟩
        ·rw[gT (by omega),hlt]at q;obtain⟨v,q1,q2⟩:=hn.get _ c q;have:=g3 _ v q1;rw[show len*P.cellsOf ak.ty+(j-len*P.cellsOf ak.ty)=j by omega]at this;exact⟨v,this,ar.fW hE (bY _) c v q2⟩
      ·rw[lst]at q;cases q
      ·obtain⟨hne,he⟩:=alv hj aj;rw[he]at aj;rw[nQ (by rw[hl];exact hj)]at hb';rw[←hl,kG]at hb;have:b=c:=hb;subst this;exact hne (hr.hp.inj j id b aj (by rw[eb];exact trivial) hb' (by rw[c1];rfl))
     refine ir hr (done (by rw[ev];exact hrun)) hE ?_ hH (by simp) k;rw[ar];exact⟨b,_,cap,arr.size,ty',by rw[←hl];exact kG,rfl,hfit,c3,.inr rfl,hE.xg _ _ c5,c6⟩
    ·have hrd:(Builtin.firstCells (P.cellsOf ak.ty) len (.slice ad len cap)).run P w.drew=.ok (arr.toList.take (len*P.cellsOf ak.ty)).toArray w.drew:=by
      by_cases hl0:len=0
      ·subst hl0;simp only[Nat.zero_mul,List.take_zero];cases ad with
       | none=>exact run_firstCells_none w.drew _ 0 0 cap
       | some ad=>exact run_firstCells_some w.drew _ 0 ad 0 cap [] (by simp) (by simp)
      ·rcases c4 with c4|rfl
       ·omega
       ·refine run_firstCells_some w.drew _ len _ len cap _ (by simp;omega) fun j v q=>?_;rw[addr_add,aa4];rw[ON]at q;split at q
        ·show w.cell? ⟨b,j,none⟩=some v;rw[gb k3];simpa using q
        ·cases q
     refine mine (bse:=chunks (P.cellsOf ak.ty) len ak.cells) (id0:=some id) (h':=st.h.set id .dead) (ad:=ad) (cap:=cap) (olds:=arr.toList.take (len*P.cellsOf ak.ty)) (by rw[hcl];exact ev) (by simp) (hr.hp.kill id) f2 (by rw[hcl];omega)
      (by rw[f1];exact hcs) (by rw[hcl];exact hrd) (by rw[hcl];exact hm) (by rw[hcl,f1];exact k)
   ·exact h.elim
  ·exact h.elim
def Wo{own:Bool}{t tx e e':TypeId}(hr:bZ base ι S a w st)(ho:o.op=.call c)(hc:c.callee=.builtin .append)(hat:c.argTypes.toList=[t,tx])(hax:c.args.toList=[x,y])
 (ht:P.underlying t=some (.slice e)) (htx:P.underlying tx=some (.slice e')) (hz:sK P e=true) (h:bR own e (P.cellsOf e) (jU P e) (aE st.fr x) (aE st.fr y) st.h K):ct P o base ι S a w st K:=by
 refine Ig hr ho hc hat hax ht hz (fun rows hs hrl hsc=>?_) h;obtain⟨ad,cap,vs,ev,_,rv,hfl,hcell⟩:=Dk hr.hp (hr.eval y) hs;refine⟨vs, ?_,rv⟩;rw[ev];have hvl:vs.length=rows.length*P.cellsOf e:=by rw[←rv.length];exact hfl
 rcases hcell with⟨rfl,rfl,rfl⟩|⟨b,rfl,hcell⟩
 ·exact Src.ofNil w htx cap
 ·exact Src.ofSlice w htx b rows.length cap vs hvl (fun j u q=>hcell j u q) (CF rv hsc)
theorem UN{own:Bool}{t tx e:TypeId}(hr:bZ base ι S a w st)(ho:o.op=.call c)(hc:c.callee=.builtin .append)(hat:c.argTypes.toList=[t,tx])(hax:c.args.toList=[x,y])
 (ht:P.underlying t=some (.slice e)) (htx:P.underlying tx=some .string) (hz:sK P e=true) (h1:P.cellsOf e=1) (h:mL own e (jU P e) (aE st.fr x) (aE st.fr y) st.h K):ct P o base ι S a w st K:=by
 have h':eI own e (P.cellsOf e) (jU P e) (aE st.fr x) (Cl (aE st.fr y)) st.h K:=by rw[h1];exact h
 refine Ig hr ho hc hat hax ht hz (fun rows hs _ hsc=>?_) h';have hy:=hr.eval y;unfold Cl at hs;split at hs
 ·rename_i l e1;cases hs;rw[e1,eF]at hy;obtain⟨ev,_⟩:=hy;have hfl:=qH l;refine⟨byteCells ⟨l.toArray⟩, ?_, ?_⟩
  ·rw[ev,h1];have:=Src.ofString (P:=P) w htx ⟨l.toArray⟩;simpa[ByteArray.size]using this
  ·rw[hfl];unfold byteCells;refine aB.mk (by simp) fun i c v q1 q2=>?_;simp only[iN]at q1 q2;cases hl:l[i]? with
   | none=>rw[hl]at q1;cases q1
   | some b =>
     rw[hl]at q1 q2;simp only[abw,On]at q1 q2;subst q1;subst q2;simp[bf]
 ·cases hs
end
omit [Laid] in
theorem ny(z:List AV):∀n,(gI n z).length=n*z.length
 | 0=>by simp[gI]
 | n+1=>by rw[gI,AT,ny z n,abu,Nat.one_mul,Nat.add_comm]
omit [Laid] in
theorem FE(z:List AV):∀(n i:Nat),i<n*z.length→(gI n z)[i]?=z[i%z.length]?
 | 0,i,h=>by simp at h
 | n+1,i,h=>by
   rw[gI];rcases uP i z.length with q|q
   ·rw[gO q,Nat.mod_eq_of_lt q]
   ·rw[gT q,FE z n (i-z.length) (by rw[abu,Nat.one_mul]at h;omega),←Nat.mod_eq_sub_mod q]
omit [Laid] in
def zt{cs:List AV}{vs:List Value}(h:aB ι S w cs vs)(n m:Nat)(hm:m=n*cs.length):aB ι S w (gI n cs) (madeCells vs.toArray m).toList:=by
 subst hm;have hl:=h.length;refine aB.mk (by rw[ny];simp[madeCells]) fun i c v e f=>?_;have hi:i<n*cs.length:=by rw[←ny];exact (eQ.1 e).1
 rw[FE cs n i hi]at e;have hpos:0<cs.length:=by
  rcases Nat.eq_zero_or_pos cs.length with q|q
  ·rw[q]at hi;simp at hi
  ·exact q
 have hi2:i%cs.length<vs.length:=by rw[←hl];exact Nat.mod_lt _ hpos
 simp only[madeCells,Array.toList_map,iN,Array.toList_range,List.getElem?_range hi,abw,On]at f;obtain⟨u,hu,r⟩:=h.get _ c e;have:v=u:=by
  rw[←f];simp only[List.size_toArray];rw[←hl];rw[getElem!_pos vs.toArray (i%cs.length) (by simpa using hi2)];rw[dO hi2]at hu;simpa using hu
 rw[this];exact r
omit [Laid] in
def wi(hz:sK P e=true)(h:jI P e=some z):∃i u vs,P.info? e=some i∧i.zero=some u∧z=kD u∧u.cells=(vs:List Value).toArray∧vs.length=i.size∧P.cellsOf e=i.size∧jU P e=i.bytes∧∀ι S w,aB ι S w (bh z) vs:=by
 obtain⟨i,u,hi,hu,hs,hc,hb⟩:=pB hz;unfold jI at h;rw[hi]at h;simp only[Option.bind_some,hu,abw,On]at h;obtain⟨vs,e1,r⟩:=tY u;exact⟨i,u,vs,hi,hu,h.symm,e1,by rw[e1]at hs;simpa using hs,hc,hb,by rw[←h];exact r⟩
section
variable {P:Program} {o:Oper} {base:Nat} {ι:List Ix} {S:aY} {a:Act} {w:World} {st:St} {K:AV→aa→Prop}
def cK.other(hh:cK base ι S w h)(ob:Obj):bS ι.length base ι S w ι S (w.alloc ob)∧cK base ι S (w.alloc ob) h:=by
 have hE:bS ι.length base ι S w ι S (w.alloc ob):=by simpa using bS.alloc hh.kC (fun b o=>hh.iK b o) ob []
 exact⟨hE,hh.vZ hE hh.len h.length (fun i _ _=>⟨rfl,rfl,fun b _ hb=>⟨Below.heap_alloc w _ b hb,fun _ q=>q⟩⟩) (fun x e=>by simp at e) (fun _ _ _ e=>by simp at e) (fun _ e=>by simp at e) (fun j b _ aT=>by simp[alive]at aT)
  (fun b o q=>by have:=hh.iK b o q;show b<(w.heap.push _).size;simp;omega) (by have:=hh.kC;show base≤(w.heap.push _).size;simp;omega)⟩
def w8{e:TypeId}{cells:Array Value}{cs:List AV}{more:List Value}{l c:Nat}{sz:Nat}{fz:Nat×Nat}(hr:bZ base ι S a w st)(hw1:w1=w∨w1=w.drew)
 (hrun:(execOp a.eval o).run P w=.ok (.value (.slice (some ⟨w.heap.size,0,none⟩) l c)) (w1.alloc (.cells cells e fz))) {vs:List Value} (hcells:cells=(vs++more).toArray) (r:aB ι S w cs vs)
 (hf:∀o,o<vs.length+more.length→¬(fz.1≤o∧o<fz.2)) (hlc:l≤c) (hcm:c≤maxLen) (hcz:c*sz≤vs.length+more.length) (k:K (.own st.h.length 0 l sz) (st.h++[.ak ⟨e,cs,true⟩])):ct P o base ι S a w st K:=by
 have hd:bS ι.length base ι S w ι S w1∧cK base ι S w1 st.h∧w1.heap=w.heap:=by
  rcases hw1 with rfl|rfl
  ·exact⟨bS.refl _ _ _ _ _,hr.hp,rfl⟩
  ·exact⟨hr.hp.drew.1,hr.hp.drew.2,rfl⟩
 obtain⟨hE,hH,hh⟩:=hd;have hA:=hH.alloc e cs vs (aB.fW hE (bY _) _ _ r) fz more hf;rw[←hcells]at hA;rw[hh]at hA;refine ir hr hrun (hE.trans (bS.alloc hH.kC (fun b o=>hH.iK b o) _ [.ak w.heap.size])) ?_ hA (by simp) k;rw[ar];refine⟨w.heap.size,_,c,cells.size,e,by rw[←hr.hp.len];simp,rfl,hlc,hcm,.inr rfl, ?_,by rw[hcells];simpa using hcz⟩;have hnew:(w1.alloc (.cells cells e fz)).heap[w.heap.size]?=some (.cells cells e fz):=by
  show (w1.heap.push _)[w.heap.size]?=_;rw[←hh];simp
 unfold World.shape?;rw[hnew]
def Jt{e:TypeId}{cs:List AV}{sz len:Nat}{vs:List Value}(hr:bZ base ι S a w st)
 (hrun:(execOp a.eval o).run P w=.ok (.value (.slice (some ⟨w.heap.size,0,none⟩) len len)) (w.alloc (.cells vs.toArray e))) (r:aB ι S w cs vs)
 (hlen:vs.length=len*sz) (hcm:len≤maxLen) (k:K (.sl sz (chunks sz len cs)) st.h):ct P o base ι S a w st K:=by
 have hh:=hr.hp
 let S':aY:=fun b o=>S b o∨(b=w.heap.size∧o<vs.length)
 have hnew:(w.alloc (.cells vs.toArray e)).heap[w.heap.size]?=some (.cells vs.toArray e (0,0)):=by
  show (w.heap.push _)[w.heap.size]?=_;simp
 have hE0:bS ι.length w.heap.size ι S w ι S (w.alloc (.cells vs.toArray e)):=by simpa using bS.alloc (bY _) (fun b o=>hh.iK b o) (.cells vs.toArray e) []
 have hE:bS ι.length w.heap.size ι S w ι S' (w.alloc (.cells vs.toArray e)):=⟨hE0.pre,fun _ _ q=>.inl q,fun b o q=>q.elim .inl (fun q=>.inr (by rw[q.1];exact bY _)),hE0.cell,hE0.xg,hE0.mR⟩;have hH:cK base ι S' (w.alloc (.cells vs.toArray e)) st.h:=hh.over hE (fun b o q=>by
  show b<(w.heap.push _).size;rcases q with q|q
  ·have:=hh.iK b o q;simp;omega
  ·rw[q.1];simp)
 refine ir hr hrun (hE.mono (bY _) hh.kC) ?_ hH (bY _) k;have hcl:=r.length;obtain⟨f1,f2⟩:=jf sz len cs (by rw[hcl,hlen];exact bY _);have hcells:bE ι S' (w.alloc (.cells vs.toArray e)) (chunks sz len cs).flatten w.heap.size 0:=by
  rw[f1];refine bE.mk fun i c ec=>?_;have ec':cs[i]?=some c:=by
   rw[ON]at ec;split at ec
   ·exact ec
   ·cases ec
  obtain⟨v,ev,rv⟩:=r.get i c ec';have hi:=(eQ.1 ev).1;refine⟨v,by rw[aa4,gb hnew];simpa using ev,.inr ⟨rfl,by omega⟩,ar.fW hE (bY _) c v rv⟩
 rw[ar];refine⟨_,len,by rw[jV],by rw[jV];exact bY _,hcm,.inr ⟨w.heap.size,0,rfl, ?_⟩⟩;exact cn.of_flat f2 hcells
theorem U3{len:Nat}{parts:Array (Nat×Operand)}(hr:bZ base ι S a w st)(ho:o.op=.buildSlice t len parts)(ht:P.underlying t=some (.slice e))(hz:jI P e=some z)
 (hk:(sK P e&&fU P e&&decide (len*P.cellsOf e≤16777216)&&decide (len≤16777216))=true) (h:qM e len (P.cellsOf e) z (parts.toList.map fun p=>(p.1*P.cellsOf e,P.cellsOf e,aE st.fr p.2)) st.h K):ct P o base ι S a w st K:=by
 simp only[NO,Of]at hk;obtain⟨⟨⟨hk1,hk2⟩,hk3⟩,hk4⟩:=hk;obtain⟨i,u,vs,hi,hu,rfl,euc,hvl,hce,hbe,rz⟩:=wi hk1 hz;unfold qM at h;split at h
 ·rename_i cs e';have r0:=zt (rz ι S w) len (len*P.cellsOf e) (by rw[(rz ι S w).length,hvl,hce]);obtain⟨q1,q2⟩:=parts_eq hr (fun i=>some (i*P.cellsOf e,P.cellsOf e)) parts;obtain⟨vs',e1,r1⟩:=rR (ι:=ι) (S:=S) (w:=w) (fun i=>some (i*P.cellsOf e,P.cellsOf e)) (parts.toList.map fun p=>(p.1,aE st.fr p.2,a.eval p.2)) _ _ cs r0 (fun p hpm=>⟨q1 p hpm,rfl⟩) (by
   rw[←e',List.map_map];rfl)
  simp only[Array.toArray_toList]at e1;have hlen:vs'.length=len*P.cellsOf e:=by
   have hb:∀(ps:List (Nat×Nat×AV)) (c r:List AV),dP c ps=some r→r.length=c.length:=by
    intro ps;induction ps with
    | nil=>intro c r h;simp only[dP,On]at h;rw[h]
    | cons p ps ih =>
      intro c r h;obtain⟨o,n,x⟩:=p;simp only[dP]at h;split at h
      ·rw[ih _ _ h,qp]
      ·cases h
   rw[←r1.length,hb _ _ _ e',ny,(rz ι S w).length,hvl,hce]
  have hrun:(execOp a.eval o).run P w=.ok (.value (.slice (some ⟨w.heap.size,0,none⟩) len len)) (w.alloc (.cells vs'.toArray e)):=?_
  ·split at h
   ·obtain⟨hE,hH⟩:=hr.hp.other (.cells vs'.toArray e);exact ir hr hrun hE (by rw[ar];exact⟨_,rfl⟩) hH (bY _) h
   ·exact w8 (more:=[]) (fz:=(0,0)) hr (.inl rfl) hrun (by simp) r1 (fun o _=>by simp) (bY _) (by unfold maxLen;omega) (by simp[hlen]) h
  simp only[execOp,ho];refine fO ?_;have hn:¬len*P.cellsOf e > 2^24:=by
   have:(2:Nat)^24=16777216:=by decide
   omega
  have hzero:(zeroValue e).run P w=.ok u w:=by simp[zeroValue,nK hi,hu]
  have hmade:madeCells vs.toArray (len*P.cellsOf e)=(Array.range (len*P.cellsOf e)).map (vs.toArray[· % vs.toArray.size]!):=rfl;simp only[Instr.buildSlice,abi,run_underlying ht,abh,dM hk2,hn,if_false,abj]
  by_cases h0:len*P.cellsOf e=0
  ·simp only[h0,if_true,abi,abj,abh];have:madeCells vs.toArray (len*P.cellsOf e)=(Array.range 0).map fun x=>(#[]:Array Value)[x%(#[]:Array Value).size]!:=by
    rw[h0];apply Array.ext';simp[madeCells]
   rw[this,←q2]at e1;have e2:Instr.fill (fun i=>some (i*P.cellsOf e,P.cellsOf e)) (Array.map (fun x=>(#[]:Array Value)[x%(#[]:Array Value).size]!) (Array.range 0)) (Array.map (fun x=>(x.fst,a.eval x.snd)) parts).toList=some vs'.toArray:=e1;rw[e2];simp[newRow]
  ·simp only[h0,if_false,abi,hzero,abh,abj];rw[hmade,←euc,←q2]at e1;rw[e1];simp[newRow]
 ·exact h.elim
theorem Ri{len:Nat}{parts:Array (Nat×Operand)}(hr:bZ base ι S a w st)(ho:o.op=.buildSlice t len parts)(ht:P.underlying t=some (.slice e))(hz:jI P e=some z)
 (hk:(sK P e&&fU P e&&decide (len*P.cellsOf e≤16777216)&&decide (len≤16777216))=true) (h:bt len (P.cellsOf e) z (parts.toList.map fun p=>(p.1*P.cellsOf e,P.cellsOf e,aE st.fr p.2)) fun v=>K v st.h):ct P o base ι S a w st K:=by
 simp only[NO,Of]at hk;obtain⟨⟨⟨hk1,hk2⟩,hk3⟩,hk4⟩:=hk;obtain⟨i,u,vs,hi,hu,rfl,euc,hvl,hce,hbe,rz⟩:=wi hk1 hz;unfold bt at h;split at h
 ·rename_i cs e';have r0:=zt (rz ι S w) len (len*P.cellsOf e) (by rw[(rz ι S w).length,hvl,hce]);obtain⟨q1,q2⟩:=parts_eq hr (fun i=>some (i*P.cellsOf e,P.cellsOf e)) parts;obtain⟨vs',e1,r1⟩:=rR (ι:=ι) (S:=S) (w:=w) (fun i=>some (i*P.cellsOf e,P.cellsOf e)) (parts.toList.map fun p=>(p.1,aE st.fr p.2,a.eval p.2)) _ _ cs r0 (fun p hpm=>⟨q1 p hpm,rfl⟩) (by
   rw[←e',List.map_map];rfl)
  simp only[Array.toArray_toList]at e1;have hlen:vs'.length=len*P.cellsOf e:=by
   have hb:∀(ps:List (Nat×Nat×AV)) (c r:List AV),dP c ps=some r→r.length=c.length:=by
    intro ps;induction ps with
    | nil=>intro c r h;simp only[dP,On]at h;rw[h]
    | cons p ps ih =>
      intro c r h;obtain⟨o,n,x⟩:=p;simp only[dP]at h;split at h
      ·rw[ih _ _ h,qp]
      ·cases h
   rw[←r1.length,hb _ _ _ e',ny,(rz ι S w).length,hvl,hce]
  have hrun:(execOp a.eval o).run P w=.ok (.value (.slice (some ⟨w.heap.size,0,none⟩) len len)) (w.alloc (.cells vs'.toArray e)):=?_
  ·exact Jt hr hrun r1 hlen (by unfold maxLen;omega) h
  simp only[execOp,ho];refine fO ?_;have hn:¬len*P.cellsOf e > 2^24:=by
   have:(2:Nat)^24=16777216:=by decide
   omega
  have hzero:(zeroValue e).run P w=.ok u w:=by simp[zeroValue,nK hi,hu]
  have hmade:madeCells vs.toArray (len*P.cellsOf e)=(Array.range (len*P.cellsOf e)).map (vs.toArray[· % vs.toArray.size]!):=rfl;simp only[Instr.buildSlice,abi,run_underlying ht,abh,dM hk2,hn,if_false,abj]
  by_cases h0:len*P.cellsOf e=0
  ·simp only[h0,if_true,abi,abj,abh];have:madeCells vs.toArray (len*P.cellsOf e)=(Array.range 0).map fun x=>(#[]:Array Value)[x%(#[]:Array Value).size]!:=by
    rw[h0];apply Array.ext';simp[madeCells]
   rw[this,←q2]at e1;have e2:Instr.fill (fun i=>some (i*P.cellsOf e,P.cellsOf e)) (Array.map (fun x=>(#[]:Array Value)[x%(#[]:Array Value).size]!) (Array.range 0)) (Array.map (fun x=>(x.fst,a.eval x.snd)) parts).toList=some vs'.toArray:=e1;rw[e2];simp[newRow]
  ·simp only[h0,if_false,abi,hzero,abh,abj];rw[hmade,←euc,←q2]at e1;rw[e1];simp[newRow]
 ·exact h.elim
def U1(hr:bZ base ι S a w st)(ho:o.op=.makeSlice t x y)(ht:P.underlying t=some (.slice e))(hz:jI P e=some z)(hk:(sK P e&&decide (0<P.cellsOf e))=true)
 (h:qK e (P.cellsOf e) (jU P e) z (aE st.fr x) (aE st.fr y) st.h K):ct P o base ι S a w st K:=by
 simp only[NO,Of]at hk;obtain⟨i,u,vs,hi,hu,rfl,euc,hvl,hce,hbe,rz⟩:=wi hk.1 hz;have hx:=hr.eval x;have hy:=hr.eval y;unfold qK at h;split at h
 ·rename_i kl l kc c e1 e2;obtain⟨⟨g1,g2,g3,g4⟩,h⟩:=h;rw[e1,cz]at hx;rw[e2,cz]at hy;have r0:=zt (rz ι S w) c.toNat (c.toNat*P.cellsOf e) (by rw[(rz ι S w).length,hvl,hce]);have hrun:=run_make (P:=P) w t e i u ht hi hu kl kc l c g1 g2 (by rw[←hbe];exact g3) g4;refine w8 (more:=[]) (fz:=(0,0)) hr (.inl rfl) (cells:=madeCells vs.toArray (c.toNat*P.cellsOf e)) (l:=l.toNat) (c:=c.toNat) ?_ (by simp) r0 (fun o _=>by simp) (by omega) (by unfold maxLen;omega) (by simp[madeCells]) h;simp only[execOp,ho,hx,hy];refine fO ?_;rw[hrun,euc,hce]
 ·exact h.elim
omit [Laid] in
def CV(h:BR P e=true):P.underlying e=some (.int .u8):=by
 unfold BR at h;split at h
 ·assumption
 ·cases h
theorem LR(hr:bZ base ι S a w st)(ho:o.op=.convert s d x)(hs:P.underlying s=some .string)(hd:P.underlying d=some (.slice e))(he:BR P e=true)
 (h:iO e (aE st.fr x) st.h K):ct P o base ι S a w st K:=by
 have hx:=hr.eval x;unfold iO at h;split at h
 ·rename_i l e1;rw[e1,eF]at hx;obtain⟨ev,hl⟩:=hx;have hrun:=run_bytes_of_string (P:=P) w s d e ⟨l.toArray⟩ hs hd (CV he);have hge:=grownCap_ge w l.length 0 e;have hcm:=grownCap_le_maxLen w l.length 0 e hl;have hsz:(⟨l.toArray⟩:ByteArray).size=l.length:=by simp[ByteArray.size]
  rw[hsz]at hrun;have hrow:bytesRow ⟨l.toArray⟩ (grownCap w l.length 0 e)=((l.map fun (b:UInt8)=>Value.int .u8 b.toNat)++List.replicate (grownCap w l.length 0 e-l.length) (Value.int .u8 0)).toArray:=by
   apply Array.ext';simp[bytesRow,hsz]
  refine w8 (vs:=l.map fun (b:UInt8)=>Value.int .u8 b.toNat) (more:=List.replicate (grownCap w l.length 0 e-l.length) (Value.int .u8 0)) (fz:=((bytesRow ⟨l.toArray⟩ (grownCap w l.length 0 e)).size,(bytesRow ⟨l.toArray⟩ (grownCap w l.length 0 e)).size+1)) hr (.inr rfl) (l:=l.length) (c:=grownCap w l.length 0 e) ?_ hrow ?_ ?_ hge hcm ?_ h
  ·simp only[execOp,ho,ev];exact fO hrun
  ·refine aB.mk (by simp) fun i c v q1 q2=>?_;simp only[iN]at q1 q2;cases hl:l[i]? with
   | none=>rw[hl]at q1;cases q1
   | some b =>
     rw[hl]at q1 q2;simp only[abw,On]at q1 q2;subst q1;subst q2;simp[bf]
  ·intro o ho';rw[hrow];simp only[List.size_toArray,AT];omega
  ·simp;omega
 ·exact h.elim
omit [Laid] in
def OM{cs:List AV}{vs:List Value}:∀{l:List UInt8},aB ι S w cs vs→wF cs=some l→∃ns:List Int,vs=ns.map (Value.int .u8)∧l=ns.map fun n=>UInt8.ofNat n.toNat:=by
 induction cs generalizing vs with
 | nil=>intro l h e;simp at h;simp[wF]at e;subst h;subst e;exact⟨[],rfl,rfl⟩
 | cons c cs ih =>
   intro l h e;cases vs with
   | nil=>simp at h
   | cons v vs =>
     simp only[bP]at h;unfold wF at e;split at e
     ·rename_i q;cases q
     ·rename_i n r q;simp only[List.cons.injEq]at q;obtain⟨rfl,rfl⟩:=q;simp only[aaS]at e;obtain⟨l',e',rfl⟩:=e;obtain⟨ns,rfl,rfl⟩:=ih h.2 e';have:=h.1;rw[cz]at this;subst this;exact⟨n:: ns,rfl,rfl⟩
     ·cases e
omit [Laid] in
theorem foldl_push:∀(ns:List Int) (r:ByteArray),ns.foldl (fun r n=>r.push (UInt8.ofNat n.toNat)) r=⟨r.data++(ns.map fun n=>UInt8.ofNat n.toNat).toArray⟩
 | [],r=>by simp
 | n:: ns,r=>by
   simp only[List.foldl_cons,GO];rw[foldl_push ns];simp[ByteArray.push]
def LQ(hr:bZ base ι S a w st)(ho:o.op=.convert s d x)(hs:P.underlying s=some (.slice e))(hd:P.underlying d=some .string)(he:BR P e=true)
 (h:cP (aE st.fr x) st.h fun v=>K v st.h):ct P o base ι S a w st K:=by
 unfold cP at h;split at h
 ·rename_i l hl;simp only[Option.bind_eq_some_iff]at hl;obtain⟨rows,hsrc,hl⟩:=hl;obtain⟨ad,cap,vs,ev,hm,rv,hfl,hcell⟩:=Dk hr.hp (hr.eval x) hsrc;rw[Nat.mul_one]at hfl;have hvl:vs.length=rows.length:=by rw[←rv.length,hfl]
  obtain⟨ns,rfl,hl'⟩:=OM rv hl;have hll:l.length=rows.length:=by rw[hl',←hvl];simp
  refine bc hr (u:=.string ⟨l.toArray⟩) ?_ (by rw[eF];exact⟨rfl,by omega⟩) h;simp only[execOp,ho,ev];refine fO ?_;rw[run_convert_bytes_string w s d e ad rows.length cap hs (CV he) hd];rcases hcell with⟨rfl,hv,_⟩|⟨b,rfl,hcell⟩
  ·have:ns=[]:=by simpa using hv
   subst this;simp only[List.map_nil]at hl';subst hl';rfl
  ·have hload:(loadCells b rows.length).run P w=.ok (ns.map (Value.int .u8)).toArray w:=by
    rw[←hvl];exact run_loadCells_list (P:=P) w b _ hcell
   rw[run_bytesToString w b rows.length cap ns hload,foldl_push,←hl',show ByteArray.empty.data=#[] from rfl,Array.empty_append]
 ·exact h.elim
end
section
variable {P:Program} {o:Oper} {base:Nat} {ι:List Ix} {S:aY} {a:Act} {w:World} {st:St} {K:AV→aa→Prop}
def Wy(hr:bZ base ι S a w st)(ho:o.op=.makeInterface t x)(hc:P.concrete t=true)(h:oW t (aE st.fr x) fun v=>K v st.h):ct P o base ι S a w st K:=by
 refine bc hr (u:=.iface t (a.eval x)) ?_ ?_ h
 ·simp only[execOp,ho];exact fO (run_makeInterface w t _ hc)
 ·rw[ar];exact⟨_,rfl,hr.eval x⟩
def Wp{xT asserted:TypeId}(hr:bZ base ι S a w st)(ho:o.op=.typeAssert x xT asserted true)(h:yT (EM P asserted) (aE st.fr x) fun v=>K v st.h):ct P o base ι S a w st K:=by
 have hx:=hr.eval x;unfold yT at h;split at h
 ·rename_i t v e;rw[e]at hx;have hx':=hx;rw[ar]at hx;obtain⟨u,ev,r⟩:=hx;obtain⟨hh,h⟩:=h;unfold EM at hh;split at hh
  ·rename_i want i hu hi;refine bc hr (u:=.tuple #[.iface t u,.bool true]) ?_ ?_ h
   ·simp only[execOp,ho,ev];exact fO (run_typeAssert_has hu hi (List.isEmpty_iff.1 hh))
   ·rw[ar];refine⟨[.iface t u,.bool true],by simp, ?_⟩;rw[ev]at hx';simp[hx']
  ·cases hh
 ·exact h.elim
omit [Laid] in
def FG{name:String}(v:Value)(h:oY P name t=some f):dw P f=true∧(method (P.types.size+Made.depth) t v name).run P w=.ok (f,v) w∧(nilAhead (P.types.size+Made.depth) t v name).run P w=.ok (some false) w:=by
 unfold oY at h;split at h
 ·rename_i i e hi hu;split at h
  ·rename_i m hm;split at h
   ·rename_i g hp hf;split at h
    ·rename_i hb;cases h;have hpath:m.path.toList=[]:=hp;obtain⟨d,hd⟩:∃d,P.types.size+Made.depth=d+1:=Nat.exists_eq_succ_of_ne_zero (by have:0<Made.depth:=(by decide);show P.types.size+Made.depth≠0;exact Nat.ne_of_gt (Up this (Nat.le_add_left _ _)));refine⟨hb, ?_, ?_⟩
     ·rw[hd];simp only[method,abi,nK hi,abh,hm,hpath,follow,abj,hf,receiverAt,run_underlying hu,Place.get]
     ·rw[hd];simp only[nilAhead,abi,nK hi,abh,hm,hpath,followBlind,abj,hf]
    ·cases h
   ·cases h
  ·cases h
 ·cases h
def U4(hr:bZ base ι S a w st)(ho:o.op=.nilCheck x)(h:ca P (aE st.fr x) fun v=>K v st.h):ct P o base ι S a w st K:=by
 have hx:=hr.eval x;unfold ca at h;split at h
 ·rename_i name t v r ys e;rw[e]at hx;have hx':=hx;rw[ar]at hx;obtain⟨vs,us,ev,r1,r2⟩:=hx;obtain⟨hm,h⟩:=h;obtain⟨f,hf⟩:=Option.isSome_iff_exists.1 hm;cases vs with
  | nil=>simp at r1
  | cons y vs =>
    simp only[bP]at r1;have ry:=r1.1;rw[ar]at ry;obtain⟨u,rfl,_⟩:=ry;refine bc hr (u:=a.eval x) ?_ hx' h;obtain⟨_,_,hn⟩:=FG (w:=w) u hf;simp only[execOp,ho,ev];simp only[List.getElem?_toArray,List.getElem?_cons_zero,abi,run_program,abh,hn];simp
 ·rename_i e _;exact WA hr ho h
def Wu{name:String}(hr:bZ base ι S a w st)(ho:o.op=.call c)(hc:c.callee=.invoke x name)(h:wV P (oY P name) (aE st.fr x) (c.args.toList.map (aE st.fr)) st.h K):ct P o base ι S a w st K:=by
 have hv:=hr.eval x;unfold wV at h;split at h
 ·rename_i t y e;split at h
  ·rename_i f hf;rw[e,ar]at hv;obtain⟨v,ev,rv⟩:=hv;obtain⟨hb,hm,_⟩:=FG (w:=w) v hf;obtain⟨fn,hfn,hb⟩:∃fn,P.funcs[f]?=some fn∧(fn.body.isSome&&fn.name != "runtime.NumGoroutine")=true:=by
    unfold dw at hb;cases hq:P.funcs[f]? with
    | none=>rw[hq]at hb;cases hb
    | some fn=>rw[hq]at hb;exact⟨fn,rfl,hb⟩
   simp only[NO,bne_iff_ne,ne_eq]at hb;have hargs:aB ι S w (y:: c.args.toList.map (aE st.fr)) (v:: c.args.toList.map a.eval):=by simpa using⟨rv,aB.Jj hr _⟩
   have hrun:(execOp a.eval o).run P w=.ok (.enter f (v:: c.args.toList.map a.eval).toArray) w:=by
    have e2:#[v]++(#[Value.iface t v]++c.args.map a.eval).extract 1 (#[Value.iface t v]++c.args.map a.eval).size=(v:: c.args.toList.map a.eval).toArray:=by
     apply Array.ext';simp;rw[MK (by simp)]
    have e3:(#[Value.iface t v]++c.args.map a.eval)[0]?=some (.iface t v):=by
     rw[Array.getElem?_append_left (by simp)];rfl
    have hne:(fn.name == "runtime.NumGoroutine")=false:=by simpa using hb.2
    have hbn:fn.body.isNone=false:=by cases hbb:fn.body<;>simp_all
    simp only[execOp,ho,resolve,hc,abi,ev,abj,abh,invoke,e3,callMethod,run_program,hm,e2,callFunc,hfn,hne,hbn,aaX,if_false]
   intro Q;unfold Oper.wp;rw[hrun,Oper.upon_enter];refine (h base ι S w _ hargs hr.hp).mono ?_;rintro e w' ⟨v,ι',S',r,h',rfl,hE,rv,hH,hl,k⟩;refine⟨ι',S',r,h', ?_, ?_,hl,k⟩
   ·rw[hr.hp.len];exact hE
   ·have:bZ base ι' S' a w' ⟨st.n,st.fr,h'⟩:=⟨hr.df,hr.sz,dH.fW hE (by rw[hr.hp.len];exact bY _) hr.fr,hH⟩;exact this.put o.dst rv
  ·exact h.elim
 ·exact h.elim
def yf{neg b:Bool}{t yt:TypeId}(hr:bZ base ι S a w st)(ho:o.op=.binOp (if neg then .neq else .eql) t x y yt)
 (hg:(eqGuard (if neg then .neq else .eql) t x y (a.eval x) (a.eval y)).run P w=.ok () w) (hb:(binOp (if neg then .neq else .eql) t (a.eval x) (a.eval y)).run P w=.ok (.bool (rZ neg b)) w) (k:K (b_ (rZ neg b)) st.h):ct P o base ι S a w st K:=by
 refine bc hr (u:=.bool (rZ neg b)) ?_ (by simp) k;simp only[execOp,ho];refine fO ?_;rw[abi,hg];simp only[abh];exact hb
omit [Laid] in
def Bp{neg b:Bool}(h:(Op.equal t x y).run P w=.ok b w)(hx:(∃p,x=.pointer p)∨∃p l c,x=.slice p l c):(binOp (if neg then .neq else .eql) t x y).run P w=.ok (.bool (rZ neg b)) w:=by
 rcases hx with⟨p,rfl⟩|⟨p,l,c,rfl⟩<;>cases neg<;>simp[binOp,h,rZ]
theorem LP{neg:Bool}{t yt:TypeId}(hr:bZ base ι S a w st)(ho:o.op=.binOp (if neg then .neq else .eql) t x y yt)(ht:P.underlying t=some d)
 (h:xK neg d y (aE st.fr x) fun v=>K v st.h):ct P o base ι S a w st K:=by
 have hx:=hr.eval x;unfold xK at h;split at h
 ·rename_i ms;have hm:P.underlying t=some (.interface (P.methodsAt t)):=by unfold Program.methodsAt;rw[ht]
  have hy:a.eval (.const .nilIface)=.nilIface:=rfl;unfold kI at h;split at h
  ·rename_i b hb;unfold vv at hb;split at hb
   ·rename_i e;cases hb;rw[e,cz]at hx;refine yf (b:=true) hr ho ?_ ?_ h
    ·rw[hx,hy];cases neg<;>cases x<;>rfl
    ·rw[hx,hy];cases neg with
     | true=>exact run_neq_nil_nil w t hm
     | false=>exact run_eql_nil_nil w t hm
   ·rename_i u z e;cases hb;rw[e,ar]at hx;obtain⟨v,hx,_⟩:=hx;refine yf (b:=false) hr ho ?_ ?_ h
    ·rw[hx,hy];cases neg<;>rfl
    ·rw[hx,hy];cases neg with
     | true=>exact run_neq_held_nil w t u v hm
     | false=>exact run_eql_held_nil w t u v hm
   ·cases hb
  ·exact h.elim
 ·rename_i el;have hy:a.eval (.const (.pointer none))=.pointer none:=rfl;have fin:∀(p:Option Addr),a.eval x=.pointer p→K (b_ (rZ neg p.isNone)) st.h→ct P o base ι S a w st K:=by
   intro p hv k;have he:(Op.equal t (.pointer p) (.pointer none)).run P w=.ok p.isNone w:=by
    have:∀d,(Op.equalIn (d+1) t (.pointer p) (.pointer none)).run P w=.ok p.isNone w:=fun d=>by cases p<;>simp[Op.equalIn,run_underlying ht]
    exact this 9999
   refine yf (b:=p.isNone) hr ho ?_ ?_ k
   ·rw[hv,hy];exact ki rfl (by intro q;cases q)
   ·rw[hv,hy];exact Bp he (.inl ⟨_,rfl⟩)
  unfold kI at h;split at h
  ·rename_i b hb;unfold tD at hb;split at hb
   ·rename_i e;cases hb;rw[e,cz]at hx;exact fin none hx h
   ·rename_i e;cases hb;rw[e,ar]at hx;obtain⟨b,_,hx⟩:=hx;exact fin (some _) hx h
   ·rename_i e;cases hb;rw[e,ar]at hx;obtain⟨b,off,hx,_⟩:=hx;exact fin (some _) hx h
   ·cases hb
  ·exact h.elim
 ·rename_i el l0 c0;have hy:a.eval (.const (.slice none l0 c0))=.slice none l0 c0:=rfl;have fin:∀(p:Option Addr) (l c:Nat),a.eval x=.slice p l c→K (b_ (rZ neg p.isNone)) st.h→ct P o base ι S a w st K:=by
   intro p l c hv k;have he:(Op.equal t (.slice p l c) (.slice none l0 c0)).run P w=.ok p.isNone w:=by
    have:∀d,(Op.equalIn (d+1) t (.slice p l c) (.slice none l0 c0)).run P w=.ok p.isNone w:=fun d=>by cases p<;>simp[Op.equalIn,run_underlying ht]
    exact this 9999
   refine yf (b:=p.isNone) hr ho ?_ ?_ k
   ·rw[hv,hy];exact ki rfl (by intro q;cases q)
   ·rw[hv,hy];exact Bp he (.inr ⟨_,_,_,rfl⟩)
  unfold kI at h;split at h
  ·rename_i b hb;unfold vw at hb;split at hb
   ·rename_i e;cases hb;rw[e,cz]at hx;exact fin none _ _ hx h
   ·rename_i id off len sz e;split at hb
    ·cases hb
    ·cases hb;rw[e,ar]at hx;obtain⟨bb,p,cap,n,ty,_,ev,c2,_,c4,_⟩:=hx;rcases c4 with c4|c4
     ·omega
     ·subst c4;exact fin (some _) _ _ ev h
   ·rename_i sz rows e;split at hb
    ·cases hb
    ·cases hb;rw[e,ar]at hx;obtain⟨p,cap,ev,_,_,c3⟩:=hx;rcases c3 with c3|⟨bb,off,rfl,_⟩
     ·cases c3
     ·exact fin (some _) _ _ ev h
   ·rename_i id sz rows e;split at hb
    ·cases hb
    ·cases hb;rw[e,ar]at hx;obtain⟨⟨p,cap,ev,_,_,c3⟩,_⟩:=hx;rcases c3 with c3|⟨bb,off,rfl,_⟩
     ·cases c3
     ·exact fin (some _) _ _ ev h
   ·cases hb
  ·exact h.elim
 ·exact h.elim
end
section
variable {P:Program} {o:Oper} {base:Nat} {ι:List Ix} {S:aY} {a:Act} {w:World} {st:St} {K:AV→aa→Prop}
theorem Pw{op:BinOp}{neg:Bool}{t yt:TypeId}{ks:List Nat}(hr:bZ base ι S a w st)(ho:o.op=.binOp op t x y yt)(hop:op=(if neg then .neq else .eql))(hg:P.eqGuardType P.depth t=false)
 (hagg:fA P t=true) (hks:mI P 8 t=some ks) (h:mc neg ks (aE st.fr x) (aE st.fr y) fun v=>K v st.h):ct P o base ι S a w st K:=by
 have hx:=hr.eval x;have hy:=hr.eval y;unfold mc at h;split at h
 ·rename_i xs ys e1 e2;rw[e1,ar]at hx;rw[e2,ar]at hy;obtain⟨vs,ex,rx⟩:=hx;obtain⟨us,ey,ry⟩:=hy;split at h
  ·rename_i b eb;have key:=KF (P:=P) (w:=w) 8 t ks hks 10000 (by omega) xs ys vs us b rx ry eb;simp only[ik,hagg,if_true]at key;have hgu:(eqGuard op t x y (.agg vs.toArray) (.agg us.toArray)).run P w=.ok () w:=run_eqGuard_agg w op t x y _ _ hg;refine bc hr (u:=.bool (if neg then !b else b)) ?_ (by simp) h;simp only[execOp,ho,ex,ey];refine fO ?_;rw[abi,hgu];simp only[abh];cases neg with
   | true=>subst hop;simp only[if_true,run_neq_struct,key,abh]
   | false=>subst hop;simp only[aaX,if_false,run_eql_struct,key,abh]
  ·exact h.elim
 ·exact h.elim
omit [Laid] in
def aX(h:cF b X):b=true∧X:=by
 cases b with
 | true=>exact⟨rfl,h⟩
 | false=>exact h.elim
def oE{own:Bool}(hr:bZ base ι S a w st)(h:bF P own (aE st.fr) st.h o.op K):ct P o base ι S a w st K:=by
 generalize ho:o.op=op at h;unfold bF at h;split at h
 ·exact LO hr (.inl ho) h
 ·exact LO hr (.inr ho) h
 ·exact U5 hr ho h
 ·rename_i bop t x y yt;split at h
  ·rename_i hagg;split at h
   ·obtain⟨hg,h⟩:=aX h;have hg:P.eqGuardType P.depth t=false:=by simpa using hg
    split at h
    ·rename_i ks hks;exact Pw (neg:=false) hr ho rfl hg hagg hks h
    ·exact h.elim
   ·obtain⟨hg,h⟩:=aX h;have hg:P.eqGuardType P.depth t=false:=by simpa using hg
    split at h
    ·rename_i ks hks;exact Pw (neg:=true) hr ho rfl hg hagg hks h
    ·exact h.elim
   ·exact h.elim
  ·split at h
   ·rename_i ht;exact UO hr ho ht h
   ·exact Pv hr ho h
   ·exact Pv hr ho h
   ·rename_i ht;split at h
    ·exact LP (neg:=false) hr ho ht h
    ·exact LP (neg:=true) hr ho ht h
    ·exact h.elim
   ·exact h.elim
 ·exact WC hr ho h
 ·exact Wz hr ho h
 ·split at h
  ·exact Ws hr ho h
  ·exact h.elim
 ·split at h
  ·rename_i hs hd;exact UR hr ho hs hd h
  ·rename_i hs hd;unfold AI at h;split at h
   ·rename_i e;exact Rg hr ho hs hd ⟨_,e,h⟩
   ·exact h.elim
  ·rename_i hs hd;exact LR hr ho hs hd (aX h).1 (aX h).2
  ·rename_i hs hd;exact LQ hr ho hs hd (aX h).1 (aX h).2
  ·exact h.elim
 ·exact US hr ho h
 ·split at h
  ·rename_i ht;split at h
   ·rename_i hf;exact Rh hr ho ht hf (aX h).1 (aX h).2
   ·exact h.elim
  ·exact h.elim
 ·split at h
  ·rename_i ht;exact UY hr ho ht h
  ·rename_i ht;exact UU hr ho ht (aX h).1 (aX h).2
  ·exact h.elim
 ·split at h
  ·rename_i ht;exact WE hr ho ht h
  ·rename_i ht;exact Z9 hr ho ht (aX h).1 (aX h).2
  ·rename_i ht;exact WD hr ho ht (aX h).1 (aX h).2
  ·exact h.elim
 ·split at h
  ·rename_i ht;exact UW hr ho ht (aX h).1 (aX h).2
  ·rename_i ht;exact UX hr ho ht (aX h).1 (aX h).2
  ·exact h.elim
 ·split at h
  ·rename_i ht;split at h
   ·rename_i hf;obtain⟨hq,h⟩:=aX h;simp only[NO,bne_iff_ne,ne_eq]at hq;exact Wt hr ho ht hf hq.1 hq.2 h
   ·exact h.elim
  ·exact h.elim
 ·exact U4 hr ho h
 ·exact Wy hr ho (aX h).1 (aX h).2
 ·exact Wp hr ho h
 ·exact U0 hr ho (aX h).1 (aX h).2
 ·exact Rj hr ho (aX h).1 (aX h).2
 ·split at h
  ·rename_i hz;exact Rf hr ho hz h
  ·exact h.elim
 ·exact Wq hr ho h
 ·split at h
  ·rename_i ht hz;obtain⟨hq,h⟩:=aX h;simp only[NO]at hq;exact Oq hr ho ht hz hq.1 hq.2 h
  ·rename_i ht hz;exact Oo hr ho ht hz (aX h).1 (aX h).2
  ·exact h.elim
 ·split at h
  ·rename_i ht;split at h
   ·rename_i hz;cases own with
    | true=>exact Ri hr ho ht hz (aX h).1 (aX h).2
    | false=>exact U3 hr ho ht hz (aX h).1 (aX h).2
   ·exact h.elim
  ·exact h.elim
 ·split at h
  ·rename_i ht;split at h
   ·rename_i hz;exact U1 hr ho ht hz (aX h).1 (aX h).2
   ·exact h.elim
  ·exact h.elim
 ·exact UT hr ho h
 ·rename_i c;split at h
  ·rename_i hc;split at h
   ·rename_i hat hax;split at h
    ·rename_i ht;exact UZ hr ho hc hat hax ht h
    ·rename_i ht;exact Wv hr ho hc hat hax ht h
    ·exact h.elim
   ·exact h.elim
  ·rename_i hc;split at h
   ·rename_i hax;exact Wx hr ho hc hax h
   ·exact h.elim
  ·rename_i hc;split at h
   ·rename_i hax;exact Ww hr ho hc hax h
   ·rename_i hax;exact U2 hr ho hc hax h
   ·exact h.elim
  ·rename_i hc;split at h
   ·rename_i hat hax;split at h
    ·rename_i ht htx;exact Wo hr ho hc hat hax ht htx (aX h).1 (aX h).2
    ·rename_i ht htx;obtain⟨hq,h⟩:=aX h;simp only[NO,beq_iff_eq]at hq;exact UN hr ho hc hat hax ht htx hq.1 hq.2 h
    ·exact h.elim
   ·exact h.elim
  ·rename_i hc;unfold bx at h;split at h
   ·rename_i hx;exact UQ hr ho hc hx h.1 h.2
   ·exact h.elim
  ·rename_i hc;exact Wu hr ho hc h
  ·exact h.elim
 ·exact h.elim
end
/-! ### Operations in a row -/
omit [Laid] in
def fN{fr:Fr}(hd:∀e,d=some e→e≠t):bB (bO n fr d x) t=bB fr t:=by
 unfold bO;split
 ·rename_i e;split
  ·rw[fL,if_neg (hd e rfl)]
  ·rfl
 ·rfl
theorem oK{ops:Array Oper}{base:Nat}{st:St}(hr:bZ base ι S a w st)(h1:eN ops j=some d):
 (∀b,bB st.fr d=.v (.bool b)→yielded ops a.tmps j=some b)∧(bB st.fr d=.v undef→yielded ops a.tmps j=none):=by
 have r:=hr.get d;unfold eN at h1;unfold yielded;rw[h1];simp only[Option.bind_some];constructor
 ·intro b e;rw[e,cz,Array.getD_eq_getD_getElem?]at r;cases hv:a.tmps[d]? with
  | none=>rw[hv]at r;cases r
  | some v=>rw[hv]at r;simp only[Option.getD_some]at r;subst r;rfl
 ·intro e;rw[e,cz,Array.getD_eq_getD_getElem?]at r;cases hv:a.tmps[d]? with
  | none=>rfl
  | some v=>rw[hv]at r;simp only[Option.getD_some]at r;subst r;rfl
omit [Laid] in
def nM{P:Program}{o:Oper}{a:Act}{w:World}{K K':Act→World→Prop}{Q Q':Exit→Act→World→Prop}(h1:∀a w,K a w→K' a w)(h2:∀e a w,Q e a w→Q' e a w)(h:o.wp P a w K Q):o.wp P a w K' Q':=by
 unfold Oper.wp at *;generalize (execOp a.eval o).run P w=r at *;unfold Oper.upon at *;split at h
 ·exact h1 _ _ h
 ·exact h1 _ _ h
 ·exact h1 _ _ h
 ·exact h.mono fun e w' k=>by
   cases e with
   | returned v=>exact h1 _ _ k
   | panicked ch=>exact h2 _ _ _ k
   | outgrown=>obtain⟨a0,w0,k⟩:=k;exact⟨a0,w0,h2 _ _ _ k⟩
 ·exact h.mono fun v w' k=>h1 _ _ k
 ·exact h2 _ _ _ h
 ·exact h.elim
omit [Laid] in
theorem qW{ops:Array Oper}{Q Q':Exit→Act→World→Prop}(hq:∀e a w,Q e a w→Q' e a w):∀(l:List Nat) (a:Act) (w:World),wpOps P ops Q l a w→wpOps P ops Q' l a w
 | [],a,w,h=>hq _ _ _ h
 | i:: l,a,w,h=>by
   simp only[wpOps]at *;cases ho:ops[i]? with
   | none=>rw[ho]at h;exact qW hq l a w h
   | some o =>
     rw[ho]at h;simp only at *;split
     ·rename_i hw;rw[if_pos hw]at h;rcases h with h|⟨h,a0,w0,k⟩
      ·exact .inl (nM (fun a w=>qW hq l a w) hq h)
      ·exact .inr ⟨h,a0,w0,hq _ _ _ k⟩
     ·rename_i hw;rw[if_neg hw]at h;exact qW hq l _ w h
def nx(s:List AV)(k:Nat):AV:=s.getD k .any
def ek(fr:Fr)(l:List Nat):List AV:=l.map (bB fr)
def mZ(fr:Fr):List Nat→List AV→Nat→Fr
 | [],_,_=>fr
 | t:: ts,s,k=>mZ (eY fr t (nx s k)) ts s (k+1)
def aG(k:(List AV→aa→Prop)→Prop)(f:List AV→aa→Prop):Prop:=k f
def jmp(cs ms:List Nat)(fr fr':Fr)(h':aa)(J:List AV→aa→Prop):Prop:=
 match cs with
 | []=>J (ek fr' ms) h'
 | c:: cs=>ek fr' (c:: cs)=ek fr (c:: cs)∧J (ek fr' ms) h'
omit [Laid] in
def rj{cs ms:List Nat}{fr fr':Fr}{J:List AV→aa→Prop}(h:jmp cs ms fr fr' h' J):ek fr' cs=ek fr cs∧J (ek fr' ms) h':=by
 cases cs with
 | nil=>exact⟨rfl,h⟩
 | cons c cs=>exact h
def join(cs ms:List Nat)(fr:Fr)(s:List AV):Fr:=mZ (kb cs fr) ms s 0
inductive dc where
 | op (i:Nat) (own:Bool)
 | aA (j:Nat) (want:Bool) (l:List (Nat×Bool)) (cs ms:List Nat)
def dc.ix:dc→List Nat
 | .op i _=>[i]
 | .aA _ _ l _ _=>l.map (·.1)
section
variable (P:Program) (ops:Array Oper)
def DQ:List (Nat×Bool)→St→(St→Prop)→Prop
 | [],st,K=>K st
 | (i,own):: r,st,K=>match ops[i]? with
  | some o=>bF P own (aE st.fr) st.h o.op fun v h=>DQ r (xf st o.dst v h) K
  | none=>False
def C9:List (Nat×Bool)→St→St
 | [],st=>st
 | (i,_):: r,st=>match ops[i]? with
  | some o=>C9 r (xf st o.dst (.v undef) st.h)
  | none=>C9 r st
def kZ:List dc→St→(St→Prop)→Prop
 | [],st,K=>K st
 | .op i own:: r,st,K=>(match ops[i]? with
   | some o=>bF P own (aE st.fr) st.h o.op fun v h=>kZ r (xf st o.dst v h) K
   | none=>False)
 | .aA j want l cs ms:: r,st,K=>(match eN ops j with
   | some d=>aG (fun J=>aM (bB st.fr d) want (DQ P ops l ⟨st.n,eY st.fr d (.v (.bool want)),st.h⟩ fun st' => jmp cs ms st.fr st'.fr st'.h J)
    (jmp cs ms st.fr (C9 ops l ⟨st.n,eY st.fr d (cd want (bB st.fr d)),st.h⟩).fr st.h J)) fun s h=>kZ r ⟨st.n,join cs ms st.fr s,h⟩ K
   | none=>False)
def lS:dc→Bool
 | .op i _=>match ops[i]? with|some o=>o.guard.isNone|none=>false
 | .aA j want l _ _=>match eN ops j with
   | some d=>l.all (fun p=>match ops[p.1]? with|some o=>o.guard == some (j,want)|none=>false)&&(l.dropLast).all (fun p=>match ops[p.1]? with|some o=>o.dst != some d|none=>false)
   | none=>false
def LS(l:List dc):Bool:=l.all (lS ops)&&(l.map dc.ix).flatten == List.range ops.size
end
omit [Laid] in
theorem DI(ops:Array Oper):∀(l:List (Nat×Bool)) (st:St),(C9 ops l st).h=st.h∧(C9 ops l st).n=st.n
 | [],st=>⟨rfl,rfl⟩
 | (i,own):: l,st=>by
  unfold C9;split
  ·exact DI ops l _
  ·exact DI ops l _
omit [Laid] in
theorem dH.mZ{tmps:Array Value}:∀(ms:List Nat) (fr:Fr) (s:List AV) (k:Nat),dH ι S w fr tmps→(∀i t,ms[i]?=some t→ar ι S w (nx s (k+i)) (tmps.getD t undef))→dH ι S w (Aw.mZ fr ms s k) tmps
 | [],fr,s,k,h,_=>h
 | t:: ts,fr,s,k,h,hs=>by
   rw[Aw.mZ];refine dH.mZ ts _ s (k+1) (dH.Dd h (by simpa using hs 0 t rfl)) fun i u e=>?_;have:=hs (i+1) u (by simpa using e);rw[show k+1+i=k+(i+1) by omega];exact this
omit [Laid] in
theorem Dr{fr fr':Fr}:∀{cs:List Nat},ek fr' cs=ek fr cs→∀t∈cs,bB fr' t=bB fr t
 | [],_,_,h=>by cases h
 | c:: cs,e,t,h=>by
   simp only[ek,GO,List.cons.injEq]at e;rcases ID.1 h with rfl|h
   ·exact e.1
   ·exact Dr (cs:=cs) e.2 t h
omit [Laid] in
theorem nG:∀(fF:List Nat) (fr:Fr) (t:Nat),bB (kb fF fr) t=.any∨(t∈fF∧bB (kb fF fr) t=bB fr t)
 | [],fr,t=>.inl rfl
 | k:: r,fr,t=>by
   simp only[kb,GO,bB];split
   ·rename_i h;subst h;exact .inr ⟨abn ..,rfl⟩
   ·rcases nG r fr t with q|⟨q1,q2⟩
    ·exact .inl q
    ·exact .inr ⟨Lt _ q1,q2⟩
omit [Laid] in
def dH.fF{tmps:Array Value}{fr fr':Fr}{cs:List Nat}(h:dH ι S w fr' tmps)(e:ek fr' cs=ek fr cs):dH ι S w (kb cs fr) tmps:=by
 intro t;rcases nG cs fr t with q|⟨q1,q2⟩
 ·rw[q];simp
 ·rw[q2,←Dr e t q1];exact h t
omit [Laid] in
def QY(fr:Fr)(ms:List Nat)(i t:Nat)(e:ms[i]?=some t):nx (ek fr ms) i=bB fr t:=by
 unfold nx ek;rw[nE,iN,e];rfl
omit [Laid] in
def dH.join{tmps:Array Value}{fr fr':Fr}{cs ms:List Nat}(h:dH ι S w fr' tmps)(e:ek fr' cs=ek fr cs):dH ι S w (Aw.join cs ms fr (ek fr' ms)) tmps:=
 dH.mZ ms _ _ 0 (h.fF e) fun i t q=>by rw[aa4,QY fr' ms i t q];exact h t
section
variable {P:Program} {ops:Array Oper} {m:Nat} {Q:Exit→St→Prop}
def Ds{own:Bool}{l:List Nat}{K:St→Prop}(ho:ops[i]?=some o){base:Nat}{st:St}(hm:m≤st.h.length)(hr:bZ base ι S a w st)
 (hw:Region.wanted o (yielded ops a.tmps)=true) {K':AV→aa→Prop} (h:bF P own (aE st.fr) st.h o.op K')
 (next:∀v h' ι' S' a' w',K' v h'→m≤h'.length→bZ base ι' S' a' w' (xf st o.dst v h')→wpOps P ops (dz m base ι' S' w' (iL K Q)) l a' w') :
 wpOps P ops (dz m base ι S w (iL K Q)) (i:: l) a w:=by
 simp only[wpOps,ho];rw[if_pos hw];left;have:=oE (P:=P) (o:=o) (a:=a) hr h (dz m base ι S w (iL K Q));refine nM (fun a' w' k=>?_) (fun _ _ _ k=>k) this;obtain⟨ι',S',v,h2,hE,hR,hl,hk⟩:=k;refine qW (fun e a w k=>?_) l a' w' (next v h2 ι' S' a' w' hk (by omega) hR);exact dz.trans (hE.mono (by rw[hr.hp.len];exact hm) (bY _)) k
def OQ{l:List Nat}{K:St→Prop}(ho:ops[i]?=some o){base:Nat}{st:St}(hr:bZ base ι S a w st)
 (hw:Region.wanted o (yielded ops a.tmps)=false) (next:bZ base ι S (a.put o.dst undef) w (xf st o.dst (.v undef) st.h)→wpOps P ops (dz m base ι S w (iL K Q)) l (a.put o.dst undef) w) :
 wpOps P ops (dz m base ι S w (iL K Q)) (i:: l) a w:=by
 simp only[wpOps,ho];rw[hw];simp only[aaX,if_false];exact next (hr.put (x:=.v undef) (v:=undef) o.dst (by simp))
omit [Laid] in
def yJ{want:Bool}{tmps:Array Value}(hg:o.guard=some (j,want)):Region.wanted o (yielded ops tmps)=(yielded ops tmps j == some want):=by simp[Region.wanted,hg]
omit [Laid] in
def CS{st:St}(hd:d≠some t):bB (xf st d x h).fr t=bB st.fr t:=by
 unfold xf;exact fN fun e he q=>hd (by rw[he,q])
theorem Ik{want:Bool}(hd:eN ops j=some d){K:St→Prop}{rest:List Nat}:∀(l:List (Nat×Bool)) (base:Nat) (ι:List Ix) (S:aY) (a:Act) (w:World) (st:St) (K':St→Prop),
 l.all (fun p=>match ops[p.1]? with|some o=>o.guard == some (j,want)|none=>false)=true→(l.dropLast).all (fun p=>match ops[p.1]? with|some o=>o.dst != some d|none=>false)=true →
 m≤st.h.length→bZ base ι S a w st→(l≠[]→bB st.fr d=.v (.bool want))→DQ P ops l st K' →
 (∀st' ι' S' a' w',K' st'→m≤st'.h.length→st'.n=st.n→bZ base ι' S' a' w' st'→wpOps P ops (dz m base ι' S' w' (iL K Q)) rest a' w') →
 wpOps P ops (dz m base ι S w (iL K Q)) (l.map (·.1)++rest) a w
 | [],base,ι,S,a,w,st,K',_,_,hm,hr,_,h,next=>next st ι S a w h hm rfl hr
 | (i,own):: l,base,ι,S,a,w,st,K',hgs,hds,hm,hr,hc,h,next=>by
  simp only[abg,NO]at hgs;obtain⟨hg,hgs⟩:=hgs;simp only[DQ]at h;cases ho:ops[i]? with
  | none=>rw[ho]at h;exact h.elim
  | some o =>
    simp only[ho,beq_iff_eq]at hg h;simp only[GO,abv];have hy:=(oK hr hd).1 want (hc (by simp));refine Ds ho hm hr (by rw[yJ hg,hy];simp) h fun v h' ι' S' a' w' k hm' hr' => ?_;refine Ik hd l base ι' S' a' w' _ K' hgs ?_ hm' hr' (fun hne=>?_) k (fun st' ι2 S2 a2 w2 k2 m2 n2 r2=>next st' ι2 S2 a2 w2 k2 m2 (by rw[n2];rfl) r2)
    ·cases l with
     | nil=>rfl
     | cons p l=>simp only[List.dropLast_cons_cons,abg,NO]at hds;exact hds.2
    ·cases l with
     | nil=>exact absurd rfl hne
     | cons p l =>
       simp only[List.dropLast_cons_cons,abg,NO,ho,bne_iff_ne,ne_eq]at hds;rw[CS hds.1];exact hc (by simp)
theorem xj{want:Bool}(hd:eN ops j=some d){K:St→Prop}{rest:List Nat}:∀(l:List (Nat×Bool)) (base:Nat) (ι:List Ix) (S:aY) (a:Act) (w:World) (st:St),
 l.all (fun p=>match ops[p.1]? with|some o=>o.guard == some (j,want)|none=>false)=true→(l.dropLast).all (fun p=>match ops[p.1]? with|some o=>o.dst != some d|none=>false)=true →
 bZ base ι S a w st→(l≠[]→bB st.fr d=.v (.bool (!want))∨bB st.fr d=.v undef) →
 (∀a',bZ base ι S a' w (C9 ops l st)→wpOps P ops (dz m base ι S w (iL K Q)) rest a' w) →
 wpOps P ops (dz m base ι S w (iL K Q)) (l.map (·.1)++rest) a w
 | [],base,ι,S,a,w,st,_,_,hr,_,next=>next a hr
 | (i,own):: l,base,ι,S,a,w,st,hgs,hds,hr,hc,next=>by
  simp only[abg,NO]at hgs;obtain⟨hg,hgs⟩:=hgs;simp only[C9]at next
  cases ho:ops[i]? with
  | none=>simp only[ho]at hg;cases hg
  | some o =>
    simp only[ho,beq_iff_eq]at hg next
    simp only[GO,abv];have hw:Region.wanted o (yielded ops a.tmps)=false:=by
     rw[yJ hg];rcases hc (by simp) with q|q
     ·rw[(oK hr hd).1 _ q];cases want<;>rfl
     ·rw[(oK hr hd).2 q];rfl
    refine OQ ho hr hw fun hr' => ?_;refine xj hd l base ι S _ w _ hgs ?_ hr' (fun hne=>?_) next
    ·cases l with
     | nil=>rfl
     | cons p l=>simp only[List.dropLast_cons_cons,abg,NO]at hds;exact hds.2
    ·cases l with
     | nil=>exact absurd rfl hne
     | cons p l =>
       simp only[List.dropLast_cons_cons,abg,NO,ho,bne_iff_ne,ne_eq]at hds;rw[CS hds.1];exact hc (by simp)
theorem oD{K:St→Prop}:∀(l:List dc) (base:Nat) (ι:List Ix) (S:aY) (a:Act) (w:World) (st:St),l.all (lS ops)=true→m≤st.h.length→bZ base ι S a w st→kZ P ops l st K →
 wpOps P ops (dz m base ι S w (iL K Q)) (l.map dc.ix).flatten a w
 | [],base,ι,S,a,w,st,_,hm,hr,h=>⟨ι,S,st,bS.refl _ _ _ _ _,hm,hr,h⟩
 | .op i own:: r,base,ι,S,a,w,st,hok,hm,hr,h=>by
   simp only[abg,NO]at hok;obtain⟨hg,hok⟩:=hok;simp only[kZ]at h;simp only[GO,abq,dc.ix,List.singleton_append];cases ho:ops[i]? with
   | none=>rw[ho]at h;exact h.elim
   | some o =>
     simp only[ho]at h;simp only[lS,ho,Option.isNone_iff_eq_none]at hg;exact Ds ho hm hr (by simp[Region.wanted,hg]) h fun v h' ι' S' a' w' k hm' hr' => oD r base ι' S' a' w' _ hok hm' hr' k
 | .aA j want l cs ms:: r,base,ι,S,a,w,st,hok,hm,hr,h=>by
   simp only[abg,NO]at hok;obtain⟨hg,hok⟩:=hok;simp only[kZ]at h;simp only[GO,abq,dc.ix];cases hd:eN ops j with
   | none=>rw[hd]at h;exact h.elim
   | some d =>
     simp only[hd]at h;simp only[lS,hd,NO]at hg;unfold aG at h;have after:∀{st':St} {ι':List Ix} {S':aY} {a':Act} {w':World},st'.n=st.n→jmp cs ms st.fr st'.fr st'.h (fun s h=>kZ P ops r ⟨st.n,join cs ms st.fr s,h⟩ K)→m≤st'.h.length→bZ base ι' S' a' w' st' →
      wpOps P ops (dz m base ι' S' w' (iL K Q)) (r.map dc.ix).flatten a' w':=by
      intro st' ι' S' a' w' hn q hm' hr';obtain⟨e1,k⟩:=rj q;exact oD r base ι' S' a' w' ⟨st.n,join cs ms st.fr (ek st'.fr ms),st'.h⟩ hok hm' ⟨hr'.df,by rw[←hn];exact hr'.sz,hr'.fr.join e1,hr'.hp⟩ k
     have rv:=hr.get d;rcases h with⟨t,ht0,g1,g2⟩|⟨hu,g2⟩
     ·rw[ht0]at rv
      by_cases ht:t=want
      ·subst ht;have hr2:bZ base ι S a w ⟨st.n,eY st.fr d (.v (.bool t)),st.h⟩:=⟨hr.df,hr.sz,dH.Dd hr.fr rv,hr.hp⟩;exact Ik hd l base ι S a w ⟨st.n,eY st.fr d (.v (.bool t)),st.h⟩ _ hg.1 hg.2 hm hr2 (fun _=>by simp[fL]) (g1 rfl) fun st' ι' S' a' w' k hm' hn' hr' => after hn' k hm' hr'
      ·have ht':t=!want:=by cases t<;>cases want<;>simp_all
       subst ht';have hr2:bZ base ι S a w ⟨st.n,eY st.fr d (cd want (bB st.fr d)),st.h⟩:=⟨hr.df,hr.sz,dH.Dd hr.fr (by rw[ht0];exact rv),hr.hp⟩;refine xj hd l base ι S a w _ hg.1 hg.2 hr2 (fun _=>.inl (by simp[fL,ht0,cd])) fun a' hr' => ?_;have hh:=DI ops l ⟨st.n,eY st.fr d (cd want (bB st.fr d)),st.h⟩;exact after hh.2 (by rw[hh.1];exact g2 rfl) (by rw[hh.1];exact hm) hr'
     ·have hr2:bZ base ι S a w ⟨st.n,eY st.fr d (cd want (bB st.fr d)),st.h⟩:=⟨hr.df,hr.sz,dH.Dd hr.fr (by rw[hu]at rv ⊢;exact rv),hr.hp⟩;refine xj hd l base ι S a w _ hg.1 hg.2 hr2 (fun _=>.inr (by simp only[fL,if_true,hu];rfl)) fun a' hr' => ?_;have hh:=DI ops l ⟨st.n,eY st.fr d (cd want (bB st.fr d)),st.h⟩;exact after hh.2 (by rw[hh.1];exact g2) (by rw[hh.1];exact hm) hr'
end
/-! ### Loops -/
def Wk(n:Nat)(s:List AV)(h:aa)(s':List AV)(h':aa):Prop:=
 n≤h'.length∧s'.length=s.length∧∀base ι S w vs,aB ι S w s vs→cK base ι S w h→∃ι' S',bS n base ι S w ι' S' w∧aB ι' S' w s' vs∧cK base ι' S' w h'
def bN(s:List AV)(h:aa)(body:(List AV→aa→Prop)→List AV→aa→Prop):Prop:=
 ∃(α:Type) (I:α→Prop) (f:α→List AV) (g:α→aa) (μ:α→Nat) (x₀:α),I x₀∧Wk h.length s h (f x₀) (g x₀) ∧
  ∀x,I x→body (fun s' h' => ∃y,I y∧Wk h.length s' h' (f y) (g y)∧μ y<μ x) (f x) (g x)
omit [Laid] in
theorem aB.sI{fr:Fr}{tmps:Array Value}(h:dH ι S w fr tmps):∀ms:List Nat,aB ι S w (ek fr ms) (ms.map fun t=>tmps.getD t undef)
 | []=>by simp[ek]
 | t:: ms=>(bP _ _ _ _).2 ⟨h t,aB.sI h ms⟩
omit [Laid] in
def aB.nx{vs:List Value}(h:aB ι S w s vs)(e:vs[i]?=some v):ar ι S w (Aw.nx s i) v:=by
 obtain⟨a,e1,r⟩:=h.get' i v e;unfold Aw.nx;rw[nE,e1];exact r
theorem DX{P:Program}{Q:Exit→St→Prop}{c:Code}{st:St}{cs ms:List Nat}(hm:m≤st.h.length)(body:(List AV→aa→Prop)→List AV→aa→Prop)
 (hb:∀next s h,st.h.length≤h.length→body next s h→AW P st.h.length c (iL (fun st' => cF (Nat.beq st'.n st.n) (jmp cs ms st.fr st'.fr st'.h next)) Q) ⟨st.n,join cs ms st.fr s,h⟩) (hl:bN (ek st.fr ms) st.h body):AW P m (.loop c) Q st:=by
 obtain⟨α,I,f,g,μ,x₀,h₀,hw₀,round⟩:=hl;intro base ι S a w _ hr;have hfl:∀{s:List AV} {h':aa} {x:α} {n:Nat},Wk n s h' (f x) (g x)→n≤(g x).length:=fun k=>k.1
 -- what stands at each round's beginning
 let Inv:α→Act→World→Prop:=fun x a' w' => I x∧∃ι' S',bS st.h.length base ι S w ι' S' w'∧st.h.length≤(g x).length∧bZ base ι' S' a' w' ⟨st.n,join cs ms st.fr (f x),g x⟩∧dH ι' S' w' (kb cs st.fr) a'.tmps
 have enter:∀{x:α} {a':Act} {w':World} {ι1:List Ix} {S1:aY} {s:List AV} {h':aa},bS st.h.length base ι S w ι1 S1 w'→a'.defers=[]→a'.tmps.size=st.n→cK base ι1 S1 w' h'→dH ι1 S1 w' (kb cs st.fr) a'.tmps→aB ι1 S1 w' s (ms.map fun t=>a'.tmps.getD t undef) →
  I x→Wk st.h.length s h' (f x) (g x)→Inv x a' w':=by
  intro x a' w' ι1 S1 s h' hE hdf hsz hp hc hs hI hw;obtain⟨hw1,hw2,hw3⟩:=hw;obtain⟨ι2,S2,hE2,hs2,hp2⟩:=hw3 base ι1 S1 w' _ hs hp;have hc2:dH ι2 S2 w' (kb cs st.fr) a'.tmps:=by
   intro t;have hbd:Bd st.h.length (bB (kb cs st.fr) t):=by
    rcases nG cs st.fr t with q|⟨_,q⟩
    ·rw[q];simp[Bd]
    ·rw[q];exact ar.bd (by rw[hr.hp.len];exact bY _) _ _ (hr.fr t)
   exact ar.ie hE2 _ _ hbd (hc t)
  exact⟨hI,ι2,S2,hE.trans hE2,hw1,⟨hdf,hsz,dH.mZ ms _ _ 0 hc2 fun i t e=>by rw[aa4];exact hs2.nx (by rw[iN,e];rfl),hp2⟩,hc2⟩
 have entry:Inv x₀ a w:=enter (bS.refl _ _ _ _ _) hr.df hr.sz hr.hp (hr.fr.norm cs) (aB.sI hr.fr ms) h₀ hw₀;refine wp_loop_ghost Inv μ x₀ entry fun x a' w' ⟨hx,ι',S',hE,hm',hr',_⟩=>?_;refine wp_mono (hb _ _ _ hm' (round x hx) base ι' S' a' w' hm' hr') ?_;intro e a'' w'' k;obtain⟨ι'',S'',st'',h1,h2,h3,h4⟩:=k;have out:Q e st''→dz m base ι S w Q e a'' w'':=fun q=>⟨ι'',S'',st'',(hE.trans h1).mono hm (bY _),aa7 hm h2,h3,q⟩;cases e with
 | normal =>
   obtain⟨hn,q⟩:=aX h4;obtain⟨e1,y,hy,hw,hlt⟩:=rj q;have hn:st''.n=st.n:=lE hn;exact⟨y,enter (hE.trans h1) h3.df (by rw[←hn];exact h3.sz) h3.hp (h3.fr.fF e1) (aB.sI h3.fr ms) hy hw,hlt⟩
 | exit id=>exact out h4
 | goto l=>exact out h4
 | ret=>exact out h4
 | panic ch=>exact out h4
 | outgrown=>exact out h4
/-! ### Code -/
inductive Fk where
 | nil
 | one (i k:Nat) (own:Bool) (t:Fk)
 | two (a b:Fk)
inductive An where
 | nil
 | seq (a b:An)
 | join (cs ms:List Nat) (a b:An)
 | two (a b:An)
 | one (a:An)
 | loop (cs ms:List Nat) (a:An)
 | aN (l:List dc)
 | draw (t:Nat) (l r q:List dc)
 | Ji (t:Nat) (A:List Nat) (l:List (Nat×Bool)) (r q:List dc)
 | jX (l:List (Nat×Nat×Bool))
 | DB (t:Fk)
def An.l:An→An|.seq a _=>a|.join _ _ a _=>a|.two a _=>a|.one a=>a|.loop _ _ a=>a|_=>.nil
def An.r:An→An|.seq _ b=>b|.join _ _ _ b=>b|.two _ b=>b|_=>.nil
def An.s:An→List dc|.aN l=>l|_=>[]
def An.j:An→Option (List Nat×List Nat)|.join c m _ _=>some (c,m)|.loop c m _=>some (c,m)|_=>none
def plain(n:Nat):List dc:=(List.range n).map fun i=>.op i false
def An.sg(t:An)(n:Nat):List dc:=match t with|.aN l=>l|_=>plain n
def oG{own:Bool}{ev ev':Operand→AV}{op:Op}{K:AV→aa→Prop}(he:∀x∈op.operands,ev x=ev' x)(k:bF P own ev h op K):bF P own ev' h op K:=by
 have lst:∀l:List Operand,(∀x∈l,ev x=ev' x)→l.map ev=l.map ev':=fun l hl=>List.map_congr_left hl;cases op<;>simp only[Op.operands]at he<;>simp only[bF]at k ⊢
 case move x=>rw[←he x (by simp)];exact k
 case assign x=>rw[←he x (by simp)];exact k
 case pick c a b=>rw[←he c (by simp),←he a (by simp),←he b (by simp)];exact k
 case alloc t=>exact k
 case box t x=>rw[←he x (by simp)];exact k
 case build t ps =>
  have e1:∀(f g:Nat→Nat),(ps.toList.map fun p=>(f p.1,g p.1,ev p.2))=ps.toList.map fun p=>(f p.1,g p.1,ev' p.2):=fun f g=>List.map_congr_left fun p hp=>by
   rw[he p.2 (by simp;exact⟨p.1,by simpa using hp⟩)]
  split at k
  ·rename_i fs z _ _;rw[←e1 (fun i=>((fs[i]?).map (·.offset)).getD 0) (fun i=>((fs[i]?).map (fun f=>P.cellsOf f.type)).getD 0)];exact k
  ·rename_i n e z _ _;rw[←e1 (fun i=>i*P.cellsOf e) (fun _=>P.cellsOf e)];exact k
  ·exact k
 case buildSlice t n ps =>
  have e1:∀(f g:Nat→Nat),(ps.toList.map fun p=>(f p.1,g p.1,ev p.2))=ps.toList.map fun p=>(f p.1,g p.1,ev' p.2):=fun f g=>List.map_congr_left fun p hp=>by
   rw[he p.2 (by simp;exact⟨p.1,by simpa using hp⟩)]
  split at k
  ·rename_i e _;split at k
   ·rw[←e1 (fun i=>i*P.cellsOf e) (fun _=>P.cellsOf e)];exact k
   ·exact k
  ·exact k
 case makeSlice t l c=>rw[←he l (by simp),←he c (by simp)];exact k
 case load t x=>rw[←he x (by simp)];exact k
 case store t x v=>rw[←he x (by simp),←he v (by simp)];exact k
 case nilCheck x=>rw[←he x (by simp)];exact k
 case binOp o t x y yt=>rw[←he x (by simp),←he y (by simp)];exact k
 case unOp o t x =>
  cases o<;>simp only[bF]at k ⊢
  case neg=>rw[←he x (by simp)];exact k
  case not=>rw[←he x (by simp)];exact k
  case xor=>rw[←he x (by simp)];exact k
 case convert s d x=>rw[←he x (by simp)];exact k
 case makeInterface t x=>rw[←he x (by simp)];exact k
 case typeAssert x xT a ok =>
  cases ok<;>simp only[bF]at k ⊢;rw[←he x (by simp)];exact k
 case makeFunc f xs ys =>
  rw[←lst xs.toList fun x hx=>he x (by simp at hx ⊢;exact .inl hx),←lst ys.toList fun x hx=>he x (by simp at hx ⊢;exact .inr hx)];exact k
 case slice t x lo hi mx =>
  have e0:=he x (by simp);have e1:lo.map ev=lo.map ev':=by cases lo<;>simp_all
  have e2:hi.map ev=hi.map ev':=by cases hi<;>simp_all
  cases mx<;>simp only[bF]at k ⊢;rw[←e0,←e1,←e2];exact k
 case fieldAddr t x i=>rw[←he x (by simp)];exact k
 case field t x i=>rw[←he x (by simp)];exact k
 case indexAddr t x i=>rw[←he x (by simp),←he i (by simp)];exact k
 case index t x i=>rw[←he x (by simp),←he i (by simp)];exact k
 case extract x i=>rw[←he x (by simp)];exact k
 case call c =>
  have ea:∀x∈c.args,ev x=ev' x:=fun x hx=>he x (by simp[Call.operands];exact .inr hx);have el:c.args.toList.map ev=c.args.toList.map ev':=lst _ fun x hx=>ea x (by simpa using hx);cases hc:c.callee with
  | value x =>
    rw[hc]at k;simp only at k ⊢;rw[←el,←he x (by simp[Call.operands,hc])];exact k
  | invoke r m =>
    rw[hc]at k;simp only at k ⊢;rw[←el,←he r (by simp[Call.operands,hc])];exact k
  | builtin b =>
    rw[hc]at k;cases b<;>simp only at k⊢<;> (try exact k)
    case len =>
     cases h0:c.argTypes[0]?<;>cases h1:c.args[0]?<;>rw[h0,h1]at k<;>simp only at k ⊢;rename_i t x;rw[←ea x (Array.mem_of_getElem? h1)];exact k
    case min =>
     split at k
     ·rename_i x y hxy;have m:∀z∈c.args.toList,ev z=ev' z:=fun z hz=>ea z (by simpa using hz);rw[hxy]at m;rw[←m x (by simp),←m y (by simp)];exact k
     ·exact k
    case max =>
     split at k
     ·rename_i x y hxy;have m:∀z∈c.args.toList,ev z=ev' z:=fun z hz=>ea z (by simpa using hz);rw[hxy]at m;rw[←m x (by simp),←m y (by simp)];exact k
     ·rename_i x y z hxy;have m:∀z∈c.args.toList,ev z=ev' z:=fun z hz=>ea z (by simpa using hz);rw[hxy]at m;rw[←m x (by simp),←m y (by simp),←m z (by simp)];exact k
     ·exact k
    case append =>
     split at k
     ·rename_i t tx x y hat hxy;have m:∀z∈c.args.toList,ev z=ev' z:=fun z hz=>ea z (by simpa using hz);rw[hxy]at m;rw[←m x (by simp),←m y (by simp)];exact k
     ·exact k
/-! ### One order for all -/
section
variable (P:Program) (ops:Array Oper) (n:Nat) (h:aa)
def gK(o:Oper)(fr:Fr):Option Bool:=
 match o.guard with
 | none=>some true
 | some (j,w)=>match eN ops j with
   | some d=>match bB fr d with
     | .v (.bool b)=>some (b == w)
     | .v (.tuple x)=>if x=#[] then some false else none
     | _=>none
   | none=>none
def YA(o:Oper)(x:AV)(fr:Fr):Prop:=
 (gK ops o fr=some true∧∃own,bF P own (aE fr) h o.op fun v h' => v=x∧h'=h)∨(gK ops o fr=some false∧x=.v undef)
def qA(i:Nat)(K:Fr→Prop)(fr:Fr):Prop:=
 match ops[i]? with
 | none=>K fr
 | some o=>∃x,YA P ops h o x fr∧K (bO n fr o.dst x)
def full(t:Nat):Array Bool:=(Array.range ops.size).map fun i=>decide (i<t)
def DZ(t:Nat)(Z:Fr→Prop):Nat→Array Bool→Fr→Prop
 | 0,listed,fr=>listed=full ops t∧Z fr
 | fuel+1,listed,fr=>Region.ready .any ops listed≠[]∧∀i∈Region.ready .any ops listed,i<t∧qA P ops n h i (DZ t Z fuel (listed.setIfInBounds i true)) fr
def lW(Q:Fr→Prop):List Oper→Fr→Prop
 | [],fr=>Q fr
 | o:: r,fr=>∃x,YA P ops h o x fr∧lW Q r (bO n fr o.dst x)
end
section
variable {P:Program} {ops:Array Oper} {n:Nat} {h:aa}
def x7{K K':Fr→Prop}{fr:Fr}(hk:∀fr,K fr→K' fr)(q:qA P ops n h i K fr):qA P ops n h i K' fr:=by
 unfold qA at *;split
 ·rename_i e;rw[e]at q;exact hk _ q
 ·rename_i o e;rw[e]at q;obtain⟨x,h1,h2⟩:=q;exact⟨x,h1,hk _ h2⟩
omit [Laid] in
def vM{fr:Fr}(hd:∀t,d=some t→e≠some t):bO n (bO n fr d x) e y=bO n (bO n fr e y) d x:=by
 unfold bO;cases d with
 | none=>cases e<;>rfl
 | some t =>
   cases e with
   | none=>rfl
   | some u =>
     have:t≠u:=fun q=>hd t rfl (by rw[q]);simp only;split<;>split<;>first|rfl|exact LF _ _ _ this
def YA.same{fr fr':Fr}(hs:∀t∈o.looksAt ops,bB fr' t=bB fr t)(hy:YA P ops h o x fr):YA P ops h o x fr':=by
 have hw:gK ops o fr'=gK ops o fr:=by
  unfold gK;cases hg:o.guard with
  | none=>rfl
  | some jw =>
    obtain⟨j,w⟩:=jw;simp only;cases hd:eN ops j with
    | none=>rfl
    | some d =>
      have:bB fr' d=bB fr d:=hs d (by
       unfold Oper.looksAt;refine List.mem_append_right _ ?_;simp only[hg];unfold eN at hd;rw[hd];simp)
      simp only[this]
 have he:∀y∈o.op.operands,aE fr y=aE fr' y:=by
  intro y hy;cases y with
  | tmp t =>
    have:bB fr' t=bB fr t:=hs t (by
     unfold Oper.looksAt;refine List.mem_append_left _ ?_;simp only[abe];exact⟨.tmp t,by simpa using hy,rfl⟩)
    simp[aE,this]
  | _=>rfl
 unfold YA at *;rw[hw];rcases hy with⟨h1,h2⟩|h1
 ·exact .inl ⟨h1,h2.imp fun _ k=>oG he k⟩
 ·exact .inr h1
def YA.put{o oj:Oper}{fr:Fr}(hap:∀d,oj.dst=some d→d∉o.looksAt ops)(hy:YA P ops h o x fr):YA P ops h o x (bO n fr oj.dst y):=
 hy.same fun t ht=>fN fun e he q=>hap e he (q▸ht)
def YA.Xa{o oj:Oper}{fr:Fr}(hap:∀d,oj.dst=some d→d∉o.looksAt ops)(hy:YA P ops h o x (bO n fr oj.dst y)):YA P ops h o x fr:=
 hy.same fun t ht=>(fN fun e he q=>hap e he (q▸ht)).symm
def LG{oi oj:Oper}{K:Fr→Prop}{fr:Fr}(hj:ops[j]?=some oj)(hap:oi.apart ops oj=true)(hy:YA P ops h oi x fr)(q:qA P ops n h j K (bO n fr oi.dst x)):
 qA P ops n h j (fun fr' => YA P ops h oi x fr'∧K (bO n fr' oi.dst x)) fr:=by
 obtain⟨h1,h2,h3⟩:=Oper.apart_spec hap;unfold qA at *;simp only[hj]at *;obtain⟨y,q1,q2⟩:=q;refine⟨y,q1.Xa h1,hy.put h3, ?_⟩;rw[vM (fun t ht=>h2 t ht)]at q2;exact q2
def tJ{base:Nat}{fr:Fr}(hr:bZ base ι S a w ⟨n,fr,h⟩)(hw:gK ops o fr=some b):Region.wanted o (yielded ops a.tmps)=b:=by
 unfold gK at hw;unfold Region.wanted;cases hg:o.guard with
 | none=>rw[hg]at hw;simp only[On]at hw;exact hw
 | some jw =>
   obtain⟨j,w'⟩:=jw;rw[hg]at hw;simp only at hw ⊢;split at hw
   ·rename_i d hd;split at hw
    ·rename_i b' hb;rw[(oK hr hd).1 b' hb];simp only[On]at hw;rw[←hw];cases b'<;>cases w'<;>rfl
    ·rename_i x hx;split at hw
     ·rename_i e;subst e;rw[(oK hr hd).2 hx];simp only[On]at hw;rw[←hw];rfl
     ·cases hw
    ·cases hw
   ·cases hw
theorem zC{m i base:Nat}{fr:Fr}{K:Fr→Prop}{K':Act→World→Prop}{Q':Exit→Act→World→Prop}(hm:m≤ι.length)(hr:bZ base ι S a w ⟨n,fr,h⟩)
 (hk:∀ι' S' a' w' fr',bS m base ι S w ι' S' w'→bZ base ι' S' a' w' ⟨n,fr',h⟩→K fr'→K' a' w') (q:qA P ops n h i K fr):wpOp P ops Q' i K' a w:=by
 unfold qA at q;unfold wpOp;split
 ·rename_i e;rw[e]at q;exact hk ι S a w fr (bS.refl _ _ _ _ _) hr q
 ·rename_i o e;rw[e]at q;obtain⟨x,hy,q⟩:=q;rcases hy with⟨hw,own,hy⟩|⟨hw,rfl⟩
  ·rw[if_pos (tJ hr hw)];left;refine nM (fun a' w' k=>?_) (fun _ _ _ k=>k) (oE (st:=⟨n,fr,h⟩) hr hy Q');obtain⟨ι',S',v,h',hE,hR,hl,rfl,rfl⟩:=k;exact hk ι' S' a' w' _ (hE.mono hm (bY _)) hR q
  ·rw[tJ hr hw];simp only[aaX,if_false];have p:=hr.put (x:=.v undef) (v:=undef) o.dst (by simp);refine hk ι S _ w (bO n fr o.dst (.v undef)) (bS.refl _ _ _ _ _) ?_ q;cases hd:o.dst with
   | none=>rw[hd]at p;exact p
   | some t=>rw[hd]at p;exact p
omit [Laid] in
def JV{K K':Act→World→Prop}{Q Q':Exit→Act→World→Prop}(h1:∀a w,K a w→K' a w)(h2:∀e a w,Q e a w→Q' e a w)(q:wpOp P ops Q i K a w):wpOp P ops Q' i K' a w:=by
 unfold wpOp at *;split
 ·rename_i e;rw[e]at q;exact h1 _ _ q
 ·rename_i o e;rw[e]at q;simp only at q;split
  ·rename_i hw;rw[if_pos hw]at q;rcases q with q|⟨q,a0,w0,k⟩
   ·exact .inl (nM h1 h2 q)
   ·exact .inr ⟨q,a0,w0,h2 _ _ _ k⟩
  ·rename_i hw;rw[if_neg hw]at q;exact h1 _ _ q
omit [Laid] in
theorem dV{md:Region.Mode}{Q Q':Exit→Act→World→Prop}(hq:∀e a w,Q e a w→Q' e a w):∀(fuel:Nat) (listed:Array Bool) (a:Act) (w:World),wpAny P md ops Q fuel listed a w→wpAny P md ops Q' fuel listed a w
 | 0,_,_,_,q=>⟨q.1,hq _ _ _ q.2⟩
 | fuel+1,listed,a,w,q=>⟨fun e=>hq _ _ _ (q.1 e),fun i hi=>JV (fun a w=>dV hq fuel _ a w) hq (q.2 i hi)⟩
def Down(ops:Array Oper)(listed:Array Bool):Prop:=
 ∀(i:Nat) (o:Oper),ops[i]?=some o→listed.getD i false=true→∀e∈o.after,Region.binds .any e=true→listed.getD e.on false=true
omit [Laid] in
def Down.set{listed:Array Bool}(hd:Down ops listed)(hr:i∈Region.ready .any ops listed):Down ops (listed.setIfInBounds i true):=by
 intro j o ho hl e he hb;obtain⟨h0,oi,hoi,hall⟩:=mem_ready.1 hr;have up:listed.getD e.on false=true→(listed.setIfInBounds i true).getD e.on false=true:=fun q=>by
  by_cases he:i=e.on
  ·have hlt:i<listed.size:=by
    rcases uP i listed.size with k|k
    ·exact k
    ·rw[←he]at q;simp[aby k]at q
   rw[←he];simp[Array.getD_eq_getD_getElem?,Array.getElem?_setIfInBounds,hlt]
  ·rw[getD_set_ne false he];exact q
 by_cases hj:j=i
 ·subst hj;rw[hoi]at ho;cases ho;exact up (hall e he hb)
 ·rw[getD_set_ne false (Ne.symm hj)]at hl;exact up (hd j o ho hl e he hb)
def dZ(ops:Array Oper)(i:Nat):List Nat:=match ops[i]? with|some o=>(o.after.toList.filter (Region.binds .any)).map (·.on)|none=>[]
def Kj(ops:Array Oper):Nat→List Nat→List Nat
 | 0,l=>l
 | k+1,l=>Kj ops k (l++l.flatMap (dZ ops)).eraseDups
omit [Laid] in
theorem qE{listed:Array Bool}(hd:Down ops listed):∀(k:Nat) (l:List Nat),(∀i∈l,listed.getD i false=true)→∀i∈Kj ops k l,listed.getD i false=true
 | 0,l,hl,i,hi=>hl i hi
 | k+1,l,hl,i,hi=>by
   refine qE hd k _ (fun j hj=>?_) i hi;rw[List.mem_eraseDups]at hj;rcases Is.1 hj with hj|hj
   ·exact hl j hj
   ·obtain⟨q,hq,hj⟩:=List.mem_flatMap.1 hj;unfold dZ at hj;split at hj
    ·rename_i o ho;simp only[aaT,abc]at hj;obtain⟨e,⟨he,hb⟩,rfl⟩:=hj;exact hd q o ho (hl q hq) e (by simpa using he) hb
    ·cases hj
def qI(ops:Array Oper)(t:Nat):Bool:=(List.range ops.size).all fun i=>decide (i<t)||(List.range t).all fun k=>(Kj ops ops.size (dZ ops i)).contains k
omit [Laid] in
def vj{listed:Array Bool}(hd:Down ops listed)(hb:qI ops t=true)(hi:t≤i)(hr:i∈Region.ready .any ops listed):∀k,k<t→listed.getD k false=true:=by
 intro k hk;obtain⟨h0,o,ho,hall⟩:=mem_ready.1 hr;have hlt:=(AS.1 ho).1;have:=At.1 hb i (by simpa using hlt);simp only[abl,Of]at this;rcases this with q|q
 ·omega
 ·have:=At.1 q k (by simpa using hk);rw[List.contains_iff_mem]at this;refine qE hd ops.size _ (fun j hj=>?_) k this;unfold dZ at hj;rw[ho]at hj;simp only[aaT,abc]at hj;obtain⟨e,⟨he,hb⟩,rfl⟩:=hj;exact hall e (by simpa using he) hb
omit [Laid] in
def pw{listed:Array Bool}(h0:listed.getD i true=false)(h1:listed.getD i false=true):False:=by
 rcases uP i listed.size with h' | h'
 ·simp[h']at h0 h1;rw[h0]at h1;cases h1
 ·simp[aby h']at h1
theorem IU{Z:Fr→Prop}{oi:Oper}{x:AV}(hB:qI ops t=true)(hi:ops[i]?=some oi)(hT:i<t):∀(fuel:Nat) (listed:Array Bool) (fr:Fr),Down ops listed →
 (∀j oj,ops[j]?=some oj→j≠i→j<t→listed.getD j true=false→(∀e∈oj.after,Region.binds .any e=true→e.on≠i)→oi.apart ops oj=true) →
 i∈Region.ready .any ops listed→YA P ops h oi x fr→DZ P ops n h t Z fuel (listed.setIfInBounds i true) (bO n fr oi.dst x)→DZ P ops n h t Z (fuel+1) listed fr:=by
 have own:∀{K:Fr→Prop} {fr:Fr},YA P ops h oi x fr→K (bO n fr oi.dst x)→qA P ops n h i K fr:=fun hy hk=>by unfold qA;simp only[hi];exact⟨x,hy,hk⟩
 intro fuel;induction fuel with
 | zero =>
   intro listed fr hd hfree hr hy H;refine⟨fun q=>(by rw[q]at hr;cases hr),fun j hj=>?_⟩;have hj0:=(mem_ready.1 hj).1;have hjlt:j<t:=by
    rcases uP j t with q|q
    ·exact q
    ·exact (pw (mem_ready.1 hr).1 (vj hd hB q hj i hT)).elim
   refine⟨hjlt, ?_⟩
   by_cases hji:j=i
   ·subst hji;exact own hy H
   ·exfalso;have e:=congrArg (fun a=>a.getD j true) H.1;simp only[getD_set_ne true (Ne.symm hji)]at e;rw[hj0]at e;obtain⟨_,oj,hoj,_⟩:=mem_ready.1 hj;have hlt:=(AS.1 hoj).1;simp[full,hlt,hjlt]at e
 | succ fuel ih =>
   intro listed fr hd hfree hr hy H;refine⟨fun q=>(by rw[q]at hr;cases hr),fun j hj=>?_⟩;have hjlt:j<t:=by
    rcases uP j t with q|q
    ·exact q
    ·exact (pw (mem_ready.1 hr).1 (vj hd hB q hj i hT)).elim
   refine⟨hjlt, ?_⟩
   by_cases hji:j=i
   ·subst hji;exact own hy H
   ·obtain⟨_,h1⟩:=H.2 j (ready_mono hj hji);obtain⟨hjun,oj,hoj,hall⟩:=mem_ready.1 hj;have hnot:∀e∈oj.after,Region.binds .any e=true→e.on≠i:=fun e he hb heq=>by
     have h1:=hall e he hb;rw[heq]at h1;exact pw (mem_ready.1 hr).1 h1
    have h2:=LG hoj (hfree j oj hoj hji hjlt hjun hnot) hy h1;have hfree':∀k ok,ops[k]?=some ok→k≠i→k<t→(listed.setIfInBounds j true).getD k true=false →
     (∀e∈ok.after,Region.binds .any e=true→e.on≠i)→oi.apart ops ok=true:=fun k ok hk hki hkT hun hno=>by
     refine hfree k ok hk hki hkT ?_ hno
     by_cases hjk:j=k
     ·subst hjk;exact hjun
     ·rw[getD_set_ne true hjk]at hun;exact hun
    refine x7 (fun fr' h3=>ih (listed.setIfInBounds j true) fr' (hd.set hj) hfree' (ready_mono hr (Ne.symm hji)) h3.1 ?_) h2;rw[Array.setIfInBounds_comm _ _ hji];exact h3.2
def AD(ops:Array Oper)(listed:Array Bool)(t i:Nat):Bool:=
 match ops[i]? with
 | some oi=>(List.range t).all fun j=>j == i||listed.getD j true||(dZ ops j).contains i||(match ops[j]? with|some oj=>oi.apart ops oj|none=>true)
 | none=>false
def rX(ops:Array Oper)(t:Nat):Nat→Nat→Array Bool→Bool
 | 0,_,listed=>listed == full ops t
 | fuel+1,k,listed=>(Region.ready .any ops listed).contains k&&decide (k<t)&&AD ops listed t k&&rX ops t fuel (k+1) (listed.setIfInBounds k true)
omit [Laid] in
def vg{listed:Array Bool}{oi:Oper}(hi:ops[i]?=some oi)(hf:AD ops listed t i=true):
 ∀j oj,ops[j]?=some oj→j≠i→j<t→listed.getD j true=false→(∀e∈oj.after,Region.binds .any e=true→e.on≠i)→oi.apart ops oj=true:=by
 intro j oj hj hji hjT hun hno;unfold AD at hf;rw[hi]at hf;have:=At.1 hf j (by simpa using hjT);simp only[hj,abl,beq_iff_eq,hji,hun,false_or,aaX]at this;rcases this with h1|h1
 ·exfalso;unfold dZ at h1;rw[hj]at h1;simp only[List.contains_iff_mem,aaT,abc]at h1;obtain⟨e,⟨he,hb⟩,q⟩:=h1;exact hno e (by simpa using he) hb q
 ·exact h1
theorem Eb{Z:Fr→Prop}(hB:qI ops t=true):∀(l:List Oper) (k:Nat) (listed:Array Bool) (fr:Fr),(∀j,j<l.length→l[j]?=ops[k+j]?)→Down ops listed →
 rX ops t l.length k listed=true→lW P ops n h Z l fr→DZ P ops n h t Z l.length listed fr
 | [],k,listed,fr,_,_,hL,q=>by
   simp only[abr,rX,beq_iff_eq]at hL;exact⟨hL,q⟩
 | o:: l,k,listed,fr,hl,hd,hL,q=>by
   have h0:ops[k]?=some o:=by simpa using (hl 0 (by simp)).symm
   simp only[aaP,rX,NO,Of]at hL;obtain⟨⟨⟨hr,hkT⟩,hf⟩,hL'⟩:=hL;obtain⟨x,hy,hK⟩:=q;have hr':k∈Region.ready .any ops listed:=by simpa using hr
   exact IU hB h0 hkT l.length listed fr hd (vg h0 hf) hr' hy
    (Eb hB l (k+1) _ _ (fun j hj=>by have:=hl (j+1) (by simp;omega);simpa[Nat.add_assoc,Nat.add_comm 1 j]using this) (hd.set hr') hL' hK)
theorem Ac{m t more:Nat}{Z:Fr→Prop}{Q':Exit→St→Prop}(hZ:∀fr base ι S a w,bZ base ι S a w ⟨n,fr,h⟩→Z fr→wpAny P .any ops (dz m base ι S w Q') more (full ops t) a w):∀(fuel:Nat) (listed:Array Bool) (base:Nat) (ι:List Ix) (S:aY) (a:Act) (w:World) (fr:Fr),
 m≤h.length→bZ base ι S a w ⟨n,fr,h⟩→DZ P ops n h t Z fuel listed fr→wpAny P .any ops (dz m base ι S w Q') (fuel+more) listed a w
 | 0,listed,base,ι,S,a,w,fr,hm,hr,q=>by rw[aa4,q.1];exact hZ fr base ι S a w hr q.2
 | fuel+1,listed,base,ι,S,a,w,fr,hm,hr,q=>by
   rw[show fuel+1+more=(fuel+more)+1 by omega];refine⟨fun e=>absurd e q.1,fun i hi=>?_⟩;refine zC (m:=m) (by rw[hr.hp.len];exact hm) hr (fun ι' S' a' w' fr' hE hr' k=>?_) (q.2 i hi).2;have:=Ac hZ fuel (listed.setIfInBounds i true) base ι' S' a' w' fr' hm hr' k;exact dV (fun e a w z=>dz.trans hE z) _ _ _ _ this
def oo(ops:Array Oper):List Nat→Array Bool→Option (Array Bool)
 | [],listed=>some listed
 | i:: l,listed=>match Region.ready .any ops listed == [i] with
   | true=>oo ops l (listed.setIfInBounds i true)
   | false=>none
omit [Laid] in
theorem tQ:∀(l:List Nat) (listed listed':Array Bool),Down ops listed→oo ops l listed=some listed'→Down ops listed'
 | [],listed,listed',hd,hc=>by simp only[oo,On]at hc;exact hc▸hd
 | i:: l,listed,listed',hd,hc=>by
   simp only[oo]at hc;split at hc
   ·rename_i e;simp only[beq_iff_eq]at e;exact tQ l _ _ (hd.set (by rw[e];simp)) hc
   ·cases hc
omit [Laid] in
def OR{o:Oper}{a:Act}{w:World}{K K':Act→World→Prop}{Q Q':Exit→Act→World→Prop}(h1:∀a w,K a w→K' a w)(h2:∀e a w,e≠.normal→Q e a w→Q' e a w)(h:o.wp P a w K Q):o.wp P a w K' Q':=by
 unfold Oper.wp at *;generalize (execOp a.eval o).run P w=r at *;unfold Oper.upon at *;split at h
 ·exact h1 _ _ h
 ·exact h1 _ _ h
 ·exact h1 _ _ h
 ·exact h.mono fun e w' k=>by
   cases e with
   | returned v=>exact h1 _ _ k
   | panicked ch=>exact h2 _ _ _ (by simp) k
   | outgrown=>obtain⟨a0,w0,k⟩:=k;exact⟨a0,w0,h2 _ _ _ (by simp) k⟩
 ·exact h.mono fun v w' k=>h1 _ _ k
 ·exact h2 _ _ _ (by simp) h
 ·exact h.elim
omit [Laid] in
theorem uU{Q Q2:Exit→Act→World→Prop}{more:Nat}{listed':Array Bool}(hq:∀e a w,e≠.normal→Q2 e a w→Q e a w)(hn:∀a w,Q2 .normal a w→wpAny P .any ops Q more listed' a w):
 ∀(l:List Nat) (listed:Array Bool) (a:Act) (w:World),oo ops l listed=some listed'→wpOps P ops Q2 l a w→wpAny P .any ops Q (l.length+more) listed a w
 | [],listed,a,w,hc,h=>by
   simp only[oo,On]at hc;subst hc;simp only[abr,aa4];exact hn a w h
 | i:: l,listed,a,w,hc,h=>by
   simp only[oo]at hc;split at hc
   ·rename_i e;simp only[beq_iff_eq]at e;rw[aaP,show l.length+1+more=(l.length+more)+1 by omega];refine⟨fun q=>(by rw[e]at q;cases q),fun j hj=>?_⟩;rw[e]at hj;simp only[TO]at hj;subst hj;have up:=fun a' w' => uU hq hn l (listed.setIfInBounds j true) a' w' hc;unfold wpOp;simp only[wpOps]at h;cases ho:ops[j]? with
    | none =>
      rw[ho]at h;exact up a w h
    | some o =>
      rw[ho]at h;simp only at h ⊢;split
      ·rename_i hw;rw[if_pos hw]at h;rcases h with h|⟨h,a0,w0,k⟩
       ·exact .inl (OR up hq h)
       ·exact .inr ⟨h,a0,w0,hq _ _ _ (by simp) k⟩
      ·rename_i hw;rw[if_neg hw]at h;exact up _ w h
   ·cases hc
end
/-! ### The condition on abstract values -/
def BQ(S:(AV→aa→Prop)→Prop)(h:aa)(K:AV→Prop):Prop:=∃x,S (fun v h' => v=x∧h'=h)∧K x
def gN(W:(AV→Prop)→Prop):Prop:=∀K:AV→Prop,W K→∃x,W (fun v=>v=x∧True)∧K x
section
omit [Laid] in
def KB(k:IntKind)(n:Int):gN (qz k n):=by
 intro K;unfold qz;split<;>intro q<;>first|exact⟨_,⟨rfl,trivial⟩,q⟩|exact⟨_,⟨q.1,rfl,trivial⟩,q.2⟩
omit [Laid] in
def Qe(op:BinOp)(k:IntKind)(a b:Int):gN (ql op k a b):=by
 intro K;unfold ql;split<;>intro q<;>first|exact KB _ _ K q|exact⟨_,⟨rfl,trivial⟩,q⟩|exact⟨_,⟨q.1,rfl,trivial⟩,q.2⟩|exact q.elim
omit [Laid] in
def Qn(op:BinOp)(a b:List UInt8):gN (yV op a b):=by
 intro K;unfold yV;split<;>intro q<;>first|exact⟨_,⟨rfl,trivial⟩,q⟩|exact⟨_,⟨q.1,rfl,trivial⟩,q.2⟩|exact q.elim
omit [Laid] in
def Kz(op:BinOp)(k:IntKind)(a b:Int):gN (wX op k a b):=by
 intro K;unfold wX;split<;>intro q<;>first|exact⟨_,⟨q.1,rfl,trivial⟩,q.2⟩|exact q.2.elim
omit [Laid] in
def G3(op:BinOp)(x y:AV):gN (ag op x y):=by
 intro K;unfold ag;split
 ·split
  ·exact Kz _ _ _ _ K
  ·intro q;obtain⟨x,q1,q2⟩:=Qe _ _ _ _ K q.2;exact⟨x,⟨q.1,q1⟩,q2⟩
 ·exact Qn _ _ _ K
 ·exact fun q=>q.elim
omit [Laid] in
def Nq(op:BinOp)(x y:AV):gN (qJ op x y):=by
 intro K;unfold qJ;split
 ·split<;>intro q<;>first|exact⟨_,⟨rfl,trivial⟩,q⟩|exact q.elim
 ·exact fun q=>q.elim
omit [Laid] in
def Qb(neg:Bool)(ks:List Nat)(x y:AV):gN (mc neg ks x y):=by
 intro K;unfold mc;split
 ·split<;>intro q<;>first|exact⟨_,⟨rfl,trivial⟩,q⟩|exact q.elim
 ·exact fun q=>q.elim
omit [Laid] in
def ND(c a b:AV):gN (bQ c a b):=by
 rintro K ⟨t,rfl,h1,h2⟩;cases t with
 | true=>exact⟨a,⟨true,rfl,fun _=>⟨rfl,trivial⟩,fun q=>by cases q⟩,h1 rfl⟩
 | false=>exact⟨b,⟨false,rfl,(fun q=>by cases q),fun _=>⟨rfl,trivial⟩⟩,h2 rfl⟩
omit [Laid] in
def Qk(x:AV):gN (cr x):=by rintro K ⟨t,rfl,q⟩;exact⟨_,⟨t,rfl,rfl,trivial⟩,q⟩
omit [Laid] in
def Qi(x:AV):gN (oX x):=by
 rintro K ⟨k,n,rfl,q⟩;obtain⟨y,q1,q2⟩:=KB _ _ K q;exact⟨y,⟨k,n,rfl,q1⟩,q2⟩
omit [Laid] in
def Nr(k:IntKind)(x:AV):gN (cy k x):=by rintro K ⟨k',n,rfl,q⟩;exact⟨_,⟨k',n,rfl,rfl,trivial⟩,q⟩
omit [Laid] in
def NF(x:AV):gN (AI x):=by
 intro K;unfold AI;split<;>intro q<;>first|exact⟨_,⟨rfl,trivial⟩,q⟩|exact q.elim
omit [Laid] in
def Nt(i:Nat)(x:AV):gN (aR i x):=by
 intro K;unfold aR;split
 ·split<;>intro q<;>first|exact⟨_,⟨rfl,trivial⟩,q⟩|exact q.elim
 ·exact fun q=>q.elim
omit [Laid] in
def xB(g:Bool)(sz:Nat)(cs:List AV):gN (lP g sz cs):=by
 intro K;unfold lP;split
 ·exact fun q=>⟨_,⟨q.1,rfl,trivial⟩,q.2⟩
 ·split<;>intro q<;>first|exact⟨_,⟨rfl,trivial⟩,q⟩|exact q.elim
omit [Laid] in
def Qd(g:Bool)(o n:Nat)(x:AV):gN (rU g o n x):=by
 intro K;unfold rU;split
 ·exact xB _ _ _ K
 ·exact fun q=>q.elim
omit [Laid] in
def Ny(x i:AV):gN (eD x i):=by
 intro K;unfold eD;split<;>intro q<;>first|exact⟨_,⟨q.1,rfl,trivial⟩,q.2⟩|exact q.elim
omit [Laid] in
def Nu(g:Bool)(sz len:Nat)(x i:AV):gN (mM g sz len x i):=by
 intro K;unfold mM;split
 ·intro q;obtain⟨y,q1,q2⟩:=xB _ _ _ K q.2;exact⟨y,⟨q.1,q1⟩,q2⟩
 ·exact fun q=>q.elim
omit [Laid] in
def Qm(x:AV)(lo hi:Option AV):gN (eV x lo hi):=by
 intro K;unfold eV;split
 ·split<;>intro q<;>first|exact⟨_,⟨q.1,rfl,trivial⟩,q.2⟩|exact q.elim
 ·exact fun q=>q.elim
omit [Laid] in
def Tw(n:Nat)(x:AV)(lo hi:Option AV):gN (lr n x lo hi):=by
 intro K;unfold lr;split
 ·split<;>intro q<;>first|exact⟨_,⟨q.1,q.2.1,rfl,trivial⟩,q.2.2⟩|exact q.elim
 ·split<;>intro q<;>first|exact⟨_,⟨q.1,q.2.1,rfl,trivial⟩,q.2.2⟩|exact q.elim
 ·split<;>intro q<;>first|exact⟨_,⟨q.1,rfl,trivial⟩,q.2⟩|exact q.elim
 ·exact fun q=>q.elim
omit [Laid] in
def Ql(n sz:Nat)(x:AV)(lo hi:Option AV)(h:aa):gN (qm n sz x lo hi h):=by
 intro K;unfold qm;split
 ·split<;>intro q<;>first|exact⟨_,⟨q.1,rfl,trivial⟩,q.2⟩|exact q.elim
 ·split<;>intro q<;>first|exact⟨_,⟨q.1,rfl,trivial⟩,q.2⟩|exact q.elim
 ·exact fun q=>q.elim
omit [Laid] in
def Nv(m:Nat)(x i:AV):gN (aI m x i):=by
 intro K;unfold aI;split<;>intro q<;>first|exact⟨_,⟨q.1,q.2.1,rfl,trivial⟩,q.2.2⟩|exact q.elim
omit [Laid] in
def Nw(len sz:Nat)(x i:AV):gN (eU len sz x i):=by
 intro K;unfold eU;split<;>intro q<;>first|exact⟨_,⟨q.1,rfl,trivial⟩,q.2⟩|exact q.elim
omit [Laid] in
def Qc(o:Nat)(x:AV):gN (bg o x):=by
 intro K;unfold bg;split<;>intro q<;>first|exact⟨_,⟨rfl,trivial⟩,q⟩|exact q.elim
omit [Laid] in
def Qj(x:AV):gN (wW x):=by
 intro K;unfold wW;split<;>intro q<;>first|exact⟨_,⟨rfl,trivial⟩,q⟩|exact q.elim
omit [Laid] in
def yQ(g:Bool)(sz:Nat)(x:AV)(h:aa):gN (ah g sz x h):=by
 intro K;unfold ah;split
 ·exact xB _ _ _ K
 ·split
  ·exact xB _ _ _ K
  ·exact fun q=>q.elim
 ·exact fun q=>q.elim
omit [Laid] in
def CN(z:AV)(ps:List (Nat×Nat×AV)):gN (aW z ps):=by
 intro K;unfold aW;split<;>intro q<;>first|exact⟨_,⟨rfl,trivial⟩,q⟩|exact q.elim
omit [Laid] in
def Ky(len sz:Nat)(z:AV)(ps:List (Nat×Nat×AV)):gN (bt len sz z ps):=by
 intro K;unfold bt;split<;>intro q<;>first|exact⟨_,⟨rfl,trivial⟩,q⟩|exact q.elim
omit [Laid] in
def Gs(x:AV)(h:aa):gN (cP x h):=by
 intro K;unfold cP;split<;>intro q<;>first|exact⟨_,⟨rfl,trivial⟩,q⟩|exact q.elim
omit [Laid] in
def Qg(x y:AV):gN (nZ x y):=by
 intro K;unfold nZ;split<;>intro q<;>first|exact⟨_,⟨q.1,rfl,trivial⟩,q.2⟩|exact q.elim
omit [Laid] in
def BE(x y:AV):gN (kA x y):=by
 intro K;unfold kA;split<;>intro q<;>first|exact⟨_,⟨q.1,rfl,trivial⟩,q.2⟩|exact q.elim
omit [Laid] in
def Nz(x y z:AV):gN (fun K=>kA x y fun u=>kA u z K):=by
 intro K q;obtain⟨r,h1,h2⟩:=BE x y _ q;obtain⟨s,h3,h4⟩:=BE r z K h2;refine⟨s, ?_,h4⟩;unfold kA at h1 ⊢;split at h1
 ·obtain⟨e,f⟩:=h1;refine⟨e, ?_⟩;rw[f.1];exact h3
 ·exact h1.elim
omit [Laid] in
def iJ(b:Bool){W:(AV→Prop)→Prop}(hW:gN W):gN (fun K=>cF b (W K)):=by
 intro K q;obtain⟨hb,q⟩:=aX q;subst hb;exact hW K q
end
omit [Laid] in
def NB(P:Program)(x:AV):gN (ca P x):=by
 intro K;unfold ca;split<;>intro q
 ·exact⟨_,⟨q.1,rfl,trivial⟩,q.2⟩
 ·exact Qj _ K q
omit [Laid] in
def Qa(has:TypeId→Bool)(x:AV):gN (yT has x):=by
 intro K;unfold yT;split<;>intro q<;>first|exact⟨_,⟨q.1,rfl,trivial⟩,q.2⟩|exact q.elim
omit [Laid] in
def Qh(t:TypeId)(x:AV):gN (oW t x):=by
 intro K;unfold oW;intro q;exact⟨_,⟨rfl,trivial⟩,q⟩
omit [Laid] in
def Qf(neg:Bool)(r:Option Bool):gN (kI neg r):=by
 intro K;unfold kI;split<;>intro q<;>first|exact⟨_,⟨rfl,trivial⟩,q⟩|exact q.elim
omit [Laid] in
def NA(neg:Bool)(d:TypeDesc)(y:Operand)(x:AV):gN (xK neg d y x):=by
 intro K;unfold xK;split<;>intro q<;>first|exact Qf _ _ K q|exact q.elim
def sj(P:Program)(own:Bool):Op→Bool
 | .buildSlice .. => own
 | .makeInterface .. | .typeAssert .. | .move _|.assign _|.pick .. | .binOp .. | .extract .. | .field .. | .index .. | .slice .. | .indexAddr .. | .fieldAddr .. | .nilCheck _|.load .. | .build .. | .makeFunc .. | .unOp .. => true
 | .convert s d _=>(match P.underlying s,P.underlying d with|some .string,some (.slice _)=>false|_,_=>true)
 | .call c=>(match c.callee with|.builtin .min|.builtin .max=>true|_=>false)
 | _=>false
def wv(P:Program)(x:AV)(args:List AV)(h:aa)(K:AV→Prop):Prop:=∃r,bx P x args h (fun v h' => v=r∧h'=h)∧K r
def lq(x:AV)(K:AV→Prop):Prop:=match x with|.str l=>K (i_ l.length)|_=>False
def iZ(x:AV)(K:AV→Prop):Prop:=
 match ni x with
 | .sl _ rows=>K (i_ rows.length)
 | .own _ _ len _=>K (i_ len)
 | .emp=>K (i_ 0)
 | _=>False
def Eu(P:Program)(own:Bool)(ev:Operand→AV)(h:aa)(op:Op)(K:AV→Prop):Prop:=
 match op with
 | .call c=>(match c.callee with
   | .value x=>wv P (ev x) (c.args.toList.map ev) h K
   | .builtin .len=>(match c.argTypes[0]?,c.args[0]? with
     | some t,some x=>(match P.underlying t with
       | some .string=>lq (ev x) K
       | some (.slice _)=>iZ (ev x) K
       | _=>False)
     | _,_=>False)
   | _=>cF (sj P own (.call c)) (bF P own ev h (.call c) fun v _=>K v))
 | op=>cF (sj P own op) (bF P own ev h op fun v _=>K v)
def u5{own:Bool}{ev:Operand→AV}{op:Op}{K:AV→Prop}(hq:sj P own op=true)(q:bF P own ev h op fun v _=>K v):BQ (bF P own ev h op) h K:=by
 unfold BQ;cases op<;>simp only[sj,aaX]at hq<;>simp only[bF]at q ⊢
 case move x=>exact⟨_,⟨rfl,trivial⟩,q⟩
 case assign x=>exact⟨_,⟨rfl,trivial⟩,q⟩
 case pick=>exact ND _ _ _ K q
 case build t ps =>
  split at q
  ·exact iJ _ (CN _ _) K q
  ·exact iJ _ (CN _ _) K q
  ·exact q.elim
 case load=>exact iJ _ (yQ _ _ _ _) K q
 case buildSlice t n ps =>
  subst hq;simp only at q ⊢;cases ht:P.underlying t with
  | none=>rw[ht]at q;exact q.elim
  | some d =>
    rw[ht]at q;cases d<;>simp only at q⊢<;> first|exact q.elim|skip
    rename_i e;cases hz:jI P e with
    | none=>rw[hz]at q;exact q.elim
    | some z=>rw[hz]at q;exact iJ _ (Ky _ _ _ _) K q
 case nilCheck=>exact NB _ _ K q
 case makeInterface=>exact iJ _ (Qh _ _) K q
 case typeAssert x xT a ok=>cases ok<;>first|exact q.elim|exact Qa _ _ K q
 case binOp o t x y yt =>
  split at q
  ·rename_i hagg;simp only[hagg,if_true];cases o<;>simp only at q⊢<;> first|exact q.elim|skip
   all_goals
    cases hks:mI P 8 t with
    | none=>rw[hks]at q;exact (aX q).2.elim
    | some ks=>rw[hks]at q;exact iJ _ (Qb _ _ _ _) K q
  ·rename_i hagg;simp only[hagg,if_false,aaX];cases hu:P.underlying t with
   | none=>rw[hu]at q;exact q.elim
   | some d =>
     rw[hu]at q;cases d<;>simp only at q⊢<;> first|exact Nq _ _ _ K q|exact G3 _ _ _ K q|(cases o<;>first|exact q.elim|exact NA _ _ _ _ K q)
 case unOp o t x=>cases o<;>simp only at q⊢<;> first|exact q.elim|exact Qk _ K q|exact Qi _ K q|(cases hu:P.underlying t with|none=>rw[hu]at q;exact q.elim|some d=>rw[hu]at q;cases d<;>simp only at q⊢<;> first|exact q.elim|exact G3 _ _ _ K q)
 case convert s d x =>
  cases hs:P.underlying s with
  | none=>rw[hs]at q;exact q.elim
  | some a =>
    cases hd:P.underlying d with
    | none=>rw[hs,hd]at q;cases a<;>exact q.elim
    | some b =>
      rw[hs,hd]at q hq;cases a<;>cases b<;>simp only[aaX]at q hq⊢<;> first|exact q.elim|exact Nr _ _ K q|exact NF _ K q|exact iJ _ (Gs _ _) K q
 case makeFunc=>exact⟨_,⟨rfl,trivial⟩,q⟩
 case slice t x lo hi mx =>
  cases mx with
  | some m=>exact q.elim
  | none =>
    simp only at q ⊢;cases ht:P.underlying t with
    | none=>rw[ht]at q;exact q.elim
    | some d =>
      rw[ht]at q;cases d<;>simp only at q⊢<;> first|exact q.elim|exact Qm _ _ _ K q|exact iJ _ (Tw _ _ _ _) K q|exact iJ _ (Ql _ _ _ _ _ _) K q
 case fieldAddr t x i =>
  split at q
  ·split at q
   ·exact iJ _ (Qc _ _) K q
   ·exact q.elim
  ·exact q.elim
 case field t x i =>
  split at q
  ·split at q
   ·exact iJ _ (Qd _ _ _ _) K q
   ·exact q.elim
  ·exact q.elim
 case indexAddr t x i =>
  split at q
  ·exact iJ _ (Nv _ _ _) K q
  ·exact iJ _ (Nw _ _ _ _) K q
  ·exact q.elim
 case index t x i =>
  split at q
  ·exact Ny _ _ K q
  ·exact iJ _ (Nu _ _ _ _ _) K q
  ·exact q.elim
 case extract=>exact Nt _ _ K q
 case call c =>
  cases hc:c.callee<;>rw[hc]at q hq<;>first|exact q.elim|(simp only[aaX]at hq;done)|skip
  rename_i b;cases b<;>first|(simp only[aaX]at hq;done)|exact q.elim|skip
  all_goals simp only at q ⊢
  ·split at q
   ·exact BE _ _ K q
   ·exact Nz _ _ _ K q
   ·exact q.elim
  ·split at q
   ·exact Qg _ _ K q
   ·exact q.elim
omit [Laid] in
def C0{K:AV→Prop}(q:lq x K):∃y,cZ x (fun v=>v=y∧True)∧K y:=by
 unfold lq at q;split at q
 ·exact⟨_,fun _=>⟨rfl,trivial⟩,q⟩
 ·exact q.elim
omit [Laid] in
def EZ{K:AV→Prop}(q:iZ x K):∃y,bq x (fun v=>v=y∧True)∧K y:=by
 unfold iZ at q;unfold bq
 revert q
 cases ni x<;>intro q<;>first|exact⟨_,fun _=>⟨rfl,trivial⟩,q⟩|exact⟨_,⟨rfl,trivial⟩,q⟩|exact q.elim
def rh{own:Bool}{ev:Operand→AV}{op:Op}{K:AV→Prop}(q:Eu P own ev h op K):BQ (bF P own ev h op) h K:=by
 unfold Eu at q;split at q
 ·rename_i c;split at q
  ·rename_i x hc;obtain⟨r,q1,q2⟩:=q;exact⟨r,by simp only[bF,hc];exact q1,q2⟩
  ·rename_i hc;unfold BQ;simp only[bF,hc];cases h1:c.argTypes[0]? with
   | none=>rw[h1]at q;exact q.elim
   | some t =>
     cases h2:c.args[0]? with
     | none=>rw[h1,h2]at q;exact q.elim
     | some x =>
       rw[h1,h2]at q;simp only at q ⊢;cases ht:P.underlying t with
       | none=>rw[ht]at q;exact q.elim
       | some d =>
         rw[ht]at q;cases d<;>first|exact q.elim|exact C0 q|exact EZ q
  ·exact u5 (aX q).1 (aX q).2
 ·exact u5 (aX q).1 (aX q).2
section
variable (P:Program) (ops:Array Oper) (n:Nat) (h:aa)
def dL:List (Nat×Bool)→Fr→(Fr→Prop)→Prop
 | [],fr,K=>K fr
 | (i,own):: r,fr,K=>match ops[i]? with
  | some o=>BQ (bF P own (aE fr) h o.op) h fun v=>dL r (bO n fr o.dst v) K
  | none=>False
def CM:List (Nat×Bool)→Fr→Fr
 | [],fr=>fr
 | (i,_):: r,fr=>match ops[i]? with
  | some o=>CM r (bO n fr o.dst (.v undef))
  | none=>CM r fr
def kS:List dc→Fr→(Fr→Prop)→Prop
 | [],fr,K=>K fr
 | .op i own:: r,fr,K=>(match ops[i]? with
   | some o=>BQ (bF P own (aE fr) h o.op) h fun v=>kS r (bO n fr o.dst v) K
   | none=>False)
 | .aA j want l _ ms:: r,fr,K=>(match eN ops j with
   | some d=>aG (fun J=>aM (bB fr d) want (dL P ops n h l fr fun fr' => J (ek fr' ms) h) (J (ek (CM ops n l fr) ms) h)) fun s _=>kS r (mZ fr ms s 0) K
   | none=>False)
def vL:List (Nat×Bool)→Fr→(Fr→Prop)→Prop
 | [],fr,K=>K fr
 | (i,own):: r,fr,K=>match ops[i]? with
  | some o=>Eu P own (aE fr) h o.op fun v=>vL r (bO n fr o.dst v) K
  | none=>False
def pK:List dc→Fr→(Fr→Prop)→Prop
 | [],fr,K=>K fr
 | .op i own:: r,fr,K=>(match ops[i]? with
   | some o=>Eu P own (aE fr) h o.op fun v=>pK r (bO n fr o.dst v) K
   | none=>False)
 | .aA j want l _ ms:: r,fr,K=>(match eN ops j with
   | some d=>aG (fun J=>aM (bB fr d) want (vL P ops n h l fr fun fr' => J (ek fr' ms) h) (J (ek (CM ops n l fr) ms) h)) fun s _=>pK r (mZ fr ms s 0) K
   | none=>False)
def u7:List (Nat×Bool)→List Nat
 | []=>[]
 | (i,_):: r=>match ops[i]? with
  | some o=>(match o.dst with|some t=>t:: u7 r|none=>u7 r)
  | none=>u7 r
def rP:dc→Bool
 | .op .. => true
 | .aA _ _ l _ ms=>(u7 ops l).all (ms.contains ·)&&ms.all fun t=>decide (t<n)
end
theorem Vv{ops:Array Oper}:∀(l:List (Nat×Bool)) (fr:Fr) (K K':Fr→Prop),(∀f,K f→K' f)→vL P ops n h l fr K→dL P ops n h l fr K'
 | [],fr,K,K',hk,q=>hk _ q
 | (i,_):: r,fr,K,K',hk,q=>by
  simp only[vL]at q;simp only[dL];cases ho:ops[i]? with
  | none=>rw[ho]at q;exact q.elim
  | some o =>
    rw[ho]at q;obtain⟨x,q1,q2⟩:=rh q;exact⟨x,q1,Vv r _ K K' hk q2⟩
theorem rB{ops:Array Oper}:∀(l:List dc) (fr:Fr) (K:Fr→Prop),pK P ops n h l fr K→kS P ops n h l fr K
 | [],fr,K,q=>q
 | .op i _:: r,fr,K,q=>by
   simp only[pK]at q;simp only[kS];cases ho:ops[i]? with
   | none=>rw[ho]at q;exact q.elim
   | some o =>
     rw[ho]at q;obtain⟨x,q1,q2⟩:=rh q;exact⟨x,q1,rB r _ K q2⟩
 | .aA j want l _ ms:: r,fr,K,q=>by
   simp only[pK,aG]at q;simp only[kS,aG];cases hd:eN ops j with
   | none=>rw[hd]at q;exact q.elim
   | some d =>
     rw[hd]at q;rcases q with⟨t,ht,g1,g2⟩|⟨hu,g2⟩
     ·exact .inl ⟨t,ht,fun z=>Vv l fr _ _ (fun f hf=>rB r _ K hf) (g1 z),fun z=>rB r _ K (g2 z)⟩
     ·exact .inr ⟨hu,rB r _ K g2⟩
/-! ### What it comes to -/
def od(fr fr':Fr):Prop:=∀t,bB fr t=bB fr' t
omit [Laid] in
def od.set{fr fr':Fr}(e:od fr fr')(n:Nat)(d:Option Tmp)(x:AV):od (bO n fr d x) (bO n fr' d x):=by
 intro t;unfold bO;cases d with
 | none=>exact e t
 | some u =>
   simp only;split
   ·rw[fL,fL];split
    ·rfl
    ·exact e t
   ·exact e t
section
variable {P:Program} {ops:Array Oper} {n:Nat} {h:aa} {Z:Fr→Prop}
theorem lW.eq:∀(l:List Oper) {fr fr':Fr},(∀f f',od f f'→Z f→Z f')→od fr fr'→lW P ops n h Z l fr→lW P ops n h Z l fr'
 | [],fr,fr',hZ,e,q=>hZ _ _ e q
 | o:: l,fr,fr',hZ,e,⟨x,hy,q⟩=>⟨x,hy.same fun t _=>(e t).symm,lW.eq l hZ (e.set n o.dst x) q⟩
theorem E2:∀(l1 l2:List Oper) {fr:Fr},lW P ops n h (lW P ops n h Z l2) l1 fr→lW P ops n h Z (l1++l2) fr
 | [],_,_,q=>q
 | _:: l1,l2,_,⟨x,hy,q⟩=>⟨x,hy,E2 l1 l2 q⟩
theorem C3{Z':Fr→Prop}:∀(l:List Oper) {fr:Fr},(∀f,Z f→Z' f)→lW P ops n h Z l fr→lW P ops n h Z' l fr
 | [],_,hz,q=>hz _ q
 | _:: l,_,hz,⟨x,hy,q⟩=>⟨x,hy,C3 l hz q⟩
def ke(ops:Array Oper)(l:List Nat):List Oper:=l.filterMap (ops[·]?)
omit [Laid] in
theorem Fy:∀(ms:List Nat) (fr:Fr) (s:List AV) (k t:Nat),(∀i u,ms[i]?=some u→∃x,s[k+i]?=some x) →
 (t∉ms∧bB (mZ fr ms s k) t=bB fr t)∨∃i x,ms[i]?=some t∧s[k+i]?=some x∧bB (mZ fr ms s k) t=x
 | [],fr,s,k,t,_=>.inl ⟨by simp,rfl⟩
 | m:: ms,fr,s,k,t,hs=>by
   rw[mZ];rcases Fy ms (eY fr m (nx s k)) s (k+1) t (fun i u e=>by
    obtain⟨x,hx⟩:=hs (i+1) u (by simpa using e);exact⟨x,by rw[show k+1+i=k+(i+1) by omega];exact hx⟩) with⟨h1,h2⟩|⟨i,x,h1,h2,h3⟩
   ·rw[fL]at h2
    by_cases e:m=t
    ·right;obtain⟨x,hx⟩:=hs 0 m rfl;rw[if_pos e]at h2;refine⟨0,x,by simp[e],hx, ?_⟩;rw[h2];unfold nx;rw[nE,show k=k+0 from rfl,hx];rfl
    ·left;rw[if_neg e]at h2;exact⟨by simp[Ne.symm e,h1],h2⟩
   ·exact .inr ⟨i+1,x,by simpa using h1,by rw[show k+(i+1)=k+1+i by omega];exact h2,h3⟩
omit [Laid] in
def KI{fr fr':Fr}{ms:List Nat}(hk:∀t,t∉ms→bB fr' t=bB fr t):od (mZ fr ms (ek fr' ms) 0) fr':=by
 intro t;rcases Fy ms fr (ek fr' ms) 0 t (fun i u e=>⟨bB fr' u,by rw[aa4,ek,iN,e];rfl⟩) with⟨h1,h2⟩|⟨i,x,h1,h2,h3⟩
 ·rw[h2,hk t h1]
 ·rw[h3];rw[aa4,ek,iN,h1]at h2;simpa using h2.symm
theorem G1:∀(l:List (Nat×Bool)) (fr:Fr) (K:Fr→Prop),dL P ops n h l fr K→dL P ops n h l fr fun fr' => K fr'∧∀t,t∉u7 ops l→bB fr' t=bB fr t
 | [],fr,K,q=>⟨q,fun _ _=>rfl⟩
 | (i,own):: l,fr,K,q=>by
  simp only[dL]at q ⊢;cases ho:ops[i]? with
  | none=>rw[ho]at q;exact q.elim
  | some o =>
    simp only[ho]at q ⊢;obtain⟨x,q1,q2⟩:=q;refine⟨x,q1, ?_⟩;have:=G1 l _ _ q2;have mono:∀(l:List (Nat×Bool)) (fr:Fr) (A B:Fr→Prop),(∀f,A f→B f)→dL P ops n h l fr A→dL P ops n h l fr B:=by
     intro l;induction l with
     | nil=>intro fr A B hab q;exact hab _ q
     | cons p l ih =>
       intro fr A B hab q;simp only[dL]at q ⊢;cases ho:ops[p.1]? with
       | none=>rw[ho]at q;exact q.elim
       | some o =>
         simp only[ho]at q ⊢;obtain⟨x,q1,q2⟩:=q;exact⟨x,q1,ih _ _ _ hab q2⟩
    refine mono l _ _ _ (fun f hf=>⟨hf.1,fun t ht=>?_⟩) this;simp only[u7,ho]at ht;cases hd:o.dst with
    | none=>simp only[hd]at ht;rw[hf.2 t ht,hd];rfl
    | some u =>
      simp only[hd,ID,not_or]at ht;rw[hf.2 t ht.2,hd];exact fN fun e he=>by cases he;exact Ne.symm ht.1
omit [Laid] in
theorem rN:∀(l:List (Nat×Bool)) (fr:Fr) (t:Nat),t∉u7 ops l→bB (CM ops n l fr) t=bB fr t
 | [],fr,t,_=>rfl
 | (i,own):: l,fr,t,ht=>by
  simp only[CM];simp only[u7]at ht;cases ho:ops[i]? with
  | none=>simp only[ho]at ht ⊢;exact rN l fr t ht
  | some o =>
    simp only[ho]at ht ⊢;cases hd:o.dst with
    | none=>simp only[hd]at ht ⊢;exact rN l _ t ht
    | some u =>
      simp only[hd,ID,not_or]at ht ⊢;rw[rN l _ t ht.2];exact fN fun e he=>by cases he;exact Ne.symm ht.1
omit [Laid] in
def oA(h:ops[i]?=some o):ke ops (i:: l)=o:: ke ops l:=by simp[ke,h]
theorem K3{want:Bool}(hd:eN ops j=some d){K:Fr→Prop}:∀(l:List (Nat×Bool)) (fr:Fr),
 l.all (fun p=>match ops[p.1]? with|some o=>o.guard == some (j,want)|none=>false)=true→(l.dropLast).all (fun p=>match ops[p.1]? with|some o=>o.dst != some d|none=>false)=true →
 (l≠[]→bB fr d=.v (.bool want))→dL P ops n h l fr K→lW P ops n h K (ke ops (l.map (·.1))) fr
 | [],fr,_,_,_,q=>q
 | (i,own):: l,fr,hgs,hds,hc,q=>by
  simp only[abg,NO]at hgs;obtain⟨hg,hgs⟩:=hgs;simp only[dL]at q;cases ho:ops[i]? with
  | none=>rw[ho]at q;exact q.elim
  | some o =>
    simp only[ho,beq_iff_eq]at hg q;obtain⟨x,q1,q2⟩:=q;rw[GO,oA ho];refine⟨x,.inl ⟨by simp[gK,hg,hd,hc (by simp)],_,q1⟩,K3 hd l _ hgs ?_ (fun hne=>?_) q2⟩
    ·cases l with
     | nil=>rfl
     | cons p l=>simp only[List.dropLast_cons_cons,abg,NO]at hds;exact hds.2
    ·cases l with
     | nil=>exact absurd rfl hne
     | cons p l =>
       simp only[List.dropLast_cons_cons,abg,NO,ho,bne_iff_ne,ne_eq]at hds;rw[fN fun e he q=>hds.1 (by rw[he,q])];exact hc (by simp)
theorem BW{want:Bool}(hd:eN ops j=some d){K:Fr→Prop}:∀(l:List (Nat×Bool)) (fr:Fr),
 l.all (fun p=>match ops[p.1]? with|some o=>o.guard == some (j,want)|none=>false)=true→(l.dropLast).all (fun p=>match ops[p.1]? with|some o=>o.dst != some d|none=>false)=true →
 (l≠[]→bB fr d=.v (.bool (!want))∨bB fr d=.v undef)→K (CM ops n l fr)→lW P ops n h K (ke ops (l.map (·.1))) fr
 | [],fr,_,_,_,q=>q
 | (i,own):: l,fr,hgs,hds,hc,q=>by
  simp only[abg,NO]at hgs;obtain⟨hg,hgs⟩:=hgs;simp only[CM]at q;cases ho:ops[i]? with
  | none=>simp only[ho]at hg;cases hg
  | some o =>
    simp only[ho,beq_iff_eq]at hg q;rw[GO,oA ho];have hw:gK ops o fr=some false:=by
     unfold gK;simp only[hg,hd];rcases hc (by simp) with z|z
     ·rw[z];cases want<;>rfl
     ·rw[z];rfl
    refine⟨.v undef,.inr ⟨hw,rfl⟩,BW hd l _ hgs ?_ (fun hne=>?_) q⟩
    ·cases l with
     | nil=>rfl
     | cons p l=>simp only[List.dropLast_cons_cons,abg,NO]at hds;exact hds.2
    ·cases l with
     | nil=>exact absurd rfl hne
     | cons p l =>
       simp only[List.dropLast_cons_cons,abg,NO,ho,bne_iff_ne,ne_eq]at hds;rw[fN fun e he q=>hds.1 (by rw[he,q])];exact hc (by simp)
theorem tB(hZ:∀f f',od f f'→Z f→Z f'):∀(l:List dc) (fr:Fr),l.all (lS ops)=true→l.all (rP ops n)=true→kS P ops n h l fr Z→lW P ops n h Z (ke ops (l.map dc.ix).flatten) fr
 | [],fr,_,_,q=>q
 | .op i own:: r,fr,hok,hdk,q=>by
   simp only[abg,NO]at hok hdk;simp only[kS]at q;cases ho:ops[i]? with
   | none=>rw[ho]at q;exact q.elim
   | some o =>
     simp only[ho]at q;obtain⟨x,q1,q2⟩:=q;have hg:=hok.1;simp only[lS,ho,Option.isNone_iff_eq_none]at hg;simp only[GO,abq,dc.ix,List.singleton_append];rw[oA ho];exact⟨x,.inl ⟨by simp[gK,hg],_,q1⟩,tB hZ r _ hok.2 hdk.2 q2⟩
 | .aA j want l cs ms:: r,fr,hok,hdk,q=>by
   simp only[abg,NO]at hok hdk;obtain⟨hg,hok⟩:=hok;obtain⟨hdg,hdk⟩:=hdk;simp only[kS]at q;cases hd:eN ops j with
   | none=>rw[hd]at q;exact q.elim
   | some d =>
     simp only[hd]at q;simp only[lS,hd,NO]at hg;simp only[rP,NO]at hdg;have hsub:∀t,t∉ms→t∉u7 ops l:=fun t ht ht' => ht (by simpa using At.1 hdg.1 t ht');unfold aG at q;simp only[GO,abq,dc.ix];have split:ke ops (l.map (·.1)++(r.map dc.ix).flatten)=ke ops (l.map (·.1))++ke ops (r.map dc.ix).flatten:=by simp[ke,List.filterMap_append]
     rw[split];refine E2 _ _ ?_;have after:∀{fr':Fr},(∀t,t∉ms→bB fr' t=bB fr t)→kS P ops n h r (mZ fr ms (ek fr' ms) 0) Z→lW P ops n h Z (ke ops (r.map dc.ix).flatten) fr':=fun hk k =>
      lW.eq _ hZ (KI hk) (tB hZ r _ hok hdk k)
     rcases q with⟨t,ht0,g1,g2⟩|⟨hu,g2⟩
     ·by_cases ht:t=want
      ·subst ht;exact C3 _ (fun f hf=>after (fun u hu=>hf.2 u (hsub u hu)) hf.1) (K3 hd l fr hg.1 hg.2 (fun _=>ht0) (G1 l fr _ (g1 rfl)))
      ·have ht':t=!want:=by cases t<;>cases want<;>simp_all
       subst ht';exact BW hd l fr hg.1 hg.2 (fun _=>.inl ht0) (after (fun u hu=>rN l fr u (hsub u hu)) (g2 rfl))
     ·exact BW hd l fr hg.1 hg.2 (fun _=>.inr hu) (after (fun u hu' => rN l fr u (hsub u hu')) g2)
end
def KC(P:Program)(ops:Array Oper)(n t:Nat)(l r q:List dc):Bool:=
 P.follows .mixedOrders&&qI ops t&&rX ops t t 0 (Array.replicate ops.size false)&&l.all (lS ops)&&l.all (rP ops n)&&(l.map dc.ix).flatten == List.range' 0 t &&
  (match oo ops (r.map dc.ix).flatten (full ops t) with
  | some listed=>rX ops ops.size (q.map dc.ix).flatten.length (t+(r.map dc.ix).flatten.length) listed
  | none=>false)&&r.all (lS ops)&&q.all (lS ops)&&q.all (rP ops n)&&(q.map dc.ix).flatten == List.range' (t+(r.map dc.ix).flatten.length) (q.map dc.ix).flatten.length &&
  decide (t+(r.map dc.ix).flatten.length+(q.map dc.ix).flatten.length=ops.size)
def KD(P:Program)(ops:Array Oper)(t:Nat)(l r q:List dc)(Q:Exit→St→Prop)(st:St):Prop:=
 cF (KC P ops st.n t l r q) (pK P ops st.n st.h l st.fr fun fr=>kZ P ops r ⟨st.n,fr,st.h⟩ fun st' => cF (Nat.beq st'.n st.n) (pK P ops st.n st'.h q st'.fr fun fr' => Q .normal ⟨st.n,fr',st'.h⟩))
omit [Laid] in
def JL(Q:Exit→St→Prop):iL (Q .normal) Q=Q:=by
 funext e st;cases e<;>rfl
def bZ.drew{base:Nat}{st:St}(hr:bZ base ι S a w st):bS ι.length base ι S w ι S { w with drawn:=w.drawn+1 }∧bZ base ι S a { w with drawn:=w.drawn+1 } st:=by
 have hE:bS ι.length base ι S w ι S { w with drawn:=w.drawn+1 }:=⟨fun _ _=>fX.refl _,fun _ _ h=>h,fun _ _ h=>.inl h,fun _ _ _=>rfl,fun _ _ h=>h,(Below.refl base w).drew⟩;exact⟨hE,hr.df,hr.sz,dH.fW hE (bY _) hr.fr,hr.hp.vZ hE hr.hp.len st.h.length (fun i _ _=>⟨rfl,rfl,fun _ _ _=>⟨rfl,fun _ q=>q⟩⟩) (fun x e=>by simp at e) (fun _ _ _ e=>by simp at e) (fun _ e=>by simp at e) (fun j b _ aT=>by simp[alive]at aT) hr.hp.iK hr.hp.kC⟩
def P9{ops:Array Oper}:∀(l:List (Nat×Bool)) (fr:Fr) (A B:Fr→Prop),(∀f,A f→B f)→dL P ops n h l fr A→dL P ops n h l fr B:=by
 intro l;induction l with
 | nil=>intro fr A B hab q;exact hab _ q
 | cons p l ih =>
   intro fr A B hab q;simp only[dL]at q ⊢;cases ho:ops[p.1]? with
   | none=>rw[ho]at q;exact q.elim
   | some o =>
     simp only[ho]at q ⊢;obtain⟨x,q1,q2⟩:=q;exact⟨x,q1,ih _ _ _ hab q2⟩
def Au{ops:Array Oper}:∀(l:List dc) (fr:Fr) (A B:Fr→Prop),(∀f,A f→B f)→kS P ops n h l fr A→kS P ops n h l fr B:=by
 intro l;induction l with
 | nil=>intro fr A B hab q;exact hab _ q
 | cons p l ih =>
   intro fr A B hab q;cases p with
   | op i own =>
     simp only[kS]at q ⊢;cases ho:ops[i]? with
     | none=>rw[ho]at q;exact q.elim
     | some o =>
       simp only[ho]at q ⊢;obtain⟨x,q1,q2⟩:=q;exact⟨x,q1,ih _ _ _ hab q2⟩
   | aA j want ll cs ms =>
     simp only[kS,aG]at q ⊢;cases hd:eN ops j with
     | none=>rw[hd]at q;exact q.elim
     | some d =>
       simp only[hd]at q ⊢;rcases q with⟨t,ht,g1,g2⟩|⟨hu,g2⟩
       ·exact .inl ⟨t,ht,fun z=>P9 _ _ _ _ (fun f hf=>ih _ _ _ hab hf) (g1 z),fun z=>ih _ _ _ hab (g2 z)⟩
       ·exact .inr ⟨hu,ih _ _ _ hab g2⟩
omit [Laid] in
theorem yE{ops:Array Oper}:∀(L k:Nat),k+L≤ops.size→(ke ops (List.range' k L)).length=L∧∀j,j<L→(ke ops (List.range' k L))[j]?=ops[k+j]?
 | 0,k,_=>⟨rfl,fun j hj=>by omega⟩
 | L+1,k,hk=>by
   obtain⟨i1,i2⟩:=yE (ops:=ops) L (k+1) (by omega);have hlt:k<ops.size:=by omega
   have e:ke ops (List.range' k (L+1))=ops[k]:: ke ops (List.range' (k+1) L):=by
    rw[List.range'_succ];exact oA (UP hlt)
   rw[e];refine⟨by simp[i1],fun j hj=>?_⟩;cases j with
   | zero=>simp[hlt]
   | succ j=>rw[List.getElem?_cons_succ,i2 j (by omega)];rw[show k+1+j=k+(j+1) by omega]
def xd{P:Program}{ops:Array Oper}{h:aa}{m t k L more:Nat}{Q:Exit→St→Prop}{Z:Fr→Prop}{listed:Array Bool}(k2:qI ops t=true)(k5:l.all (lS ops)=true)(k6:l.all (rP ops n)=true)
 (k8:(l.map dc.ix).flatten=List.range' k L) (hL:k+L≤ops.size) (down:Down ops listed) (k3:rX ops t L k listed=true) (hm:m≤h.length)
 (hZ:∀fr base ι S a w,bZ base ι S a w ⟨n,fr,h⟩→Z fr→wpAny P .any ops (dz m base ι S w Q) more (full ops t) a w)
 {base:Nat} {ι:List Ix} {S:aY} {a:Act} {w:World} {fr:Fr} (hr:bZ base ι S a w ⟨n,fr,h⟩) (q:pK P ops n h l fr Z):wpAny P .any ops (dz m base ι S w Q) (L+more) listed a w:=by
 let Z':Fr→Prop:=fun fr=>∀base ι S a w,bZ base ι S a w ⟨n,fr,h⟩→wpAny P .any ops (dz m base ι S w Q) more (full ops t) a w
 have hZeq:∀f f',od f f'→Z' f→Z' f':=fun f f' e z base ι S a w hr=>z base ι S a w ⟨hr.df,hr.sz,fun u=>by rw[e u];exact hr.fr u,hr.hp⟩;have q2:kS P ops n h l fr Z':=Au l fr _ Z' (fun fr hfr base ι S a w hr=>hZ fr base ι S a w hr hfr) (rB _ _ _ q);have q3:=tB hZeq l fr k5 k6 q2;rw[k8]at q3;obtain⟨l1,l2⟩:=yE (ops:=ops) L k hL;have q4:=Eb k2 (ke ops (List.range' k L)) k listed fr (fun j hj=>l2 j (by rw[l1]at hj;exact hj)) down (by rw[l1];exact k3) q3;rw[l1]at q4;exact Ac (m:=m) (Q':=Q) (more:=more) (Z:=Z') (fun fr base ι S a w hr z=>z base ι S a w hr) L _ base ι S a _ fr hm hr q4
omit [Laid] in
def ti{ops:Array Oper}:Region.ready .any ops (full ops ops.size)=[]:=by
 refine List.eq_nil_iff_forall_not_mem.2 fun i hi=>?_;obtain⟨h0,o,ho,_⟩:=mem_ready.1 hi;have hlt:=(AS.1 ho).1;simp[full,hlt]at h0
omit [Laid] in
def EG{ops:Array Oper}:qI ops ops.size=true:=by
 unfold qI;exact At.2 fun i hi=>by simp at hi;simp[hi]
omit [Laid] in
theorem C4{ops:Array Oper}:∀(L k:Nat) (listed:Array Bool),Down ops listed→rX ops t L k listed=true→Down ops (full ops t)
 | 0,k,listed,hd,hl=>by simp only[rX,beq_iff_eq]at hl;exact hl▸hd
 | L+1,k,listed,hd,hl=>by
   simp only[rX,NO,Of]at hl;exact C4 L (k+1) _ (hd.set (by simpa using hl.1.1.1)) hl.2
def JF{m id t:Nat}{ops:Array Oper}{Q:Exit→St→Prop}{st:St}(hm:m≤st.h.length)(hq:KD P ops t l r q Q st):AW P m (.region id ops true) Q st:=by
 intro base ι S a w _ hr;obtain⟨hok,hq⟩:=aX hq;simp only[KC,NO,beq_iff_eq,Of]at hok;obtain⟨⟨⟨⟨⟨⟨⟨⟨⟨⟨⟨k1,k2⟩,k3⟩,k5⟩,k6⟩,k8⟩,k4⟩,k7⟩,q5⟩,q6⟩,q8⟩,k9⟩:=hok;split at k4
 ·rename_i listed' hch;obtain⟨hE,hr'⟩:=hr.drew;have fin:wpAny P .any ops (dz m base ι S { w with drawn:=w.drawn+1 } Q) ops.size (Array.replicate ops.size false) a { w with drawn:=w.drawn+1 }→(Code.region id ops true).wp P (dz m base ι S w Q) a w:=fun h1 =>
   wp_region_any k1 (dV (fun e a w z=>dz.trans (hE.mono (by rw[hr.hp.len];exact hm) (bY _)) z) _ _ _ _ h1)
  have down0:Down ops (Array.replicate ops.size false):=fun i o ho hl=>by
   have hlt:=(AS.1 ho).1;simp[hlt]at hl
  refine fin ?_;have down1:=C4 _ _ _ down0 k3;have down2:=tQ _ _ _ down1 hch;have key:=xd (Q:=Q) (more:=(r.map dc.ix).flatten.length+(q.map dc.ix).flatten.length) k2 k5 k6 k8 (by omega) down0 k3 hm (fun fr base ι S a w hr hfr=>?_) hr' hq
  ·rwa [show t+((r.map dc.ix).flatten.length+(q.map dc.ix).flatten.length)=ops.size by omega]at key
  ·have hs:=oD (m:=m) (Q:=Q) r base ι S a w ⟨st.n,fr,st.h⟩ k7 hm hr hfr;refine uU (fun e a w hne z=>?_) (fun a w z=>?_) _ _ _ _ hch hs
   ·obtain⟨ι',S',st',z1,z2,z3,z4⟩:=z;refine⟨ι',S',st',z1,z2,z3, ?_⟩;cases e<;>first|exact absurd rfl hne|exact z4
   ·obtain⟨ι',S',st',z1,z2,z3,z4⟩:=z;obtain⟨n',fr',h'⟩:=st';obtain⟨en,z4⟩:=aX z4;have en:n'=st.n:=lE en;subst en;have:=xd (m:=m) (more:=0) (Q:=Q) EG q5 q6 q8 (by omega) down2 k4 z2 (fun fr base ι S a w hr hfr=>⟨ti,ι,S,⟨st.n,fr,h'⟩,bS.refl _ _ _ _ _,z2,hr,hfr⟩) z3 z4;exact dV (fun e a w z=>dz.trans z1 z) _ _ _ _ this
 ·cases k4
section
variable {P:Program} {ops:Array Oper} {n:Nat}
end
/-! ### What is listed -/
section
variable (ops:Array Oper) (n:Nat) (V:Nat→AV) (lo:Nat→Bool)
def fQ(fr0:Fr)(L:Nat→Bool):Nat→Fr
 | 0=>fr0
 | k+1=>match L k with|true=>bO n (fQ fr0 L k) (eN ops k) (V k)|false=>fQ fr0 L k
def ma(L:Nat→Bool):Nat→Nat
 | 0=>0
 | k+1=>match L k&&lo k with|true=>ma L k+1|false=>ma L k
end
section
variable {ops:Array Oper} {n:Nat} {V:Nat→AV} {lo:Nat→Bool} {fr0:Fr}
omit [Laid] in
theorem pV{l1 l2:Nat→Bool}:∀k,(∀j,j<k→eN ops j=some t→l1 j=l2 j)→bB (fQ ops n V fr0 l1 k) t=bB (fQ ops n V fr0 l2 k) t
 | 0,_=>rfl
 | k+1,h=>by
   have ih:=pV k fun j hj=>h j (by omega)
   by_cases hd:eN ops k=some t
   ·have e:=h k (by omega) hd;unfold fQ;rw[e];cases l2 k with
    | false=>exact ih
    | true =>
      simp only;rw[hd];unfold bO;simp only;split
      ·rw[fL,fL,if_pos rfl,if_pos rfl]
      ·exact ih
   ·have off:∀l:Nat→Bool,bB (fQ ops n V fr0 l (k+1)) t=bB (fQ ops n V fr0 l k) t:=by
     intro l;rw[fQ];cases l k with
     | false=>rfl
     | true=>exact fN fun e he q=>hd (by rw[he,q])
    rw[off,off];exact ih
omit [Laid] in
theorem ve{L:Nat→Bool}:∀m,k≤m→(∀j,k≤j→j<m→eN ops j=some t→L j=false)→bB (fQ ops n V fr0 L m) t=bB (fQ ops n V fr0 L k) t
 | 0,hk,_=>by rw[show k=0 by omega]
 | m+1,hk,h=>by
   by_cases e:k=m+1
   ·rw[e]
   ·have ih:=ve m (by omega) fun j h1 h2=>h j h1 (by omega);rw[←ih,fQ];cases hl:L m with
    | false=>rfl
    | true =>
      refine fN fun e he q=>?_;have:=h m (by omega) (by omega) (by rw[he,q]);rw[hl]at this;cases this
omit [Laid] in
theorem Ek{l1 l2:Nat→Bool}(hi:l1 i=false)(h2:∀j,l2 j=(l1 j||j == i)):∀k,ma lo l2 k=ma lo l1 k+(if i<k∧lo i=true then 1 else 0)
 | 0=>by simp[ma]
 | k+1=>by
   rw[ma,ma,Ek hi h2 k,h2 k]
   by_cases e:k=i
   ·subst e;simp only[hi,beq_self_eq_true,Bool.or_true,Bool.true_and,Bool.false_and];cases hk:lo k<;>simp
   ·have:(k == i)=false:=by simpa using e
    rw[this,Bool.or_false];have h3:(i<k+1∧lo i=true)↔(i<k∧lo i=true):=⟨fun⟨a,b⟩=>⟨by omega,b⟩,fun⟨a,b⟩=>⟨by omega,b⟩⟩;simp only[h3];split<;>(split<;>omega)
end
section
variable {lo:Nat→Bool}
omit [Laid] in
theorem GW{L:Nat→Bool}:∀N,(∀i,i<N→L i=true)→ma (fun _=>true) L N=N
 | 0,_=>rfl
 | N+1,h=>by
   rw[ma,h N (by omega),GW N fun i hi=>h i (by omega)];rfl
omit [Laid] in
theorem El{L:Nat→Bool}:∀N,ma (fun _=>true) L N=N→∀i,i<N→L i=true
 | 0,_,i,hi=>by omega
 | N+1,h,i,hi=>by
   have h2:∀N,ma (fun _=>true) L N≤N:=by
    intro N;induction N with
    | zero=>exact bY _
    | succ N ih=>rw[ma];split<;>omega
   have:=h2 N;rw[ma]at h;cases q:L N with
   | false=>rw[q]at h;simp only[Bool.false_and]at h;omega
   | true =>
     rw[q]at h;simp only[Bool.and_self]at h
     by_cases e:i=N
     ·rw[e];exact q
     ·exact El N (by omega) i (by omega)
end
structure sM(ops:Array Oper)(lo:Nat→Bool)(an:Nat→Nat→Bool):Prop where
 back:∀i,i<ops.size→∀e∈dZ ops i,e<i
 anc:∀i j,an i j=true→∃e∈dZ ops i,e=j∨an e j=true
 apart:∀i j,i<ops.size→j<i→∀oi oj,ops[i]?=some oi→ops[j]?=some oj→(∃t,(eN ops j=some t∧(t∈oi.looksAt ops∨eN ops i=some t))∨(eN ops i=some t∧t∈oj.looksAt ops))→an i j=true
 chain:∀i j,i<ops.size→j<i→lo i=true→lo j=true→an i j=true
section
variable {P:Program} {ops:Array Oper} {n:Nat} {V:Nat→AV} {lo:Nat→Bool} {fr0:Fr} {an:Nat→Nat→Bool} {Hs:Nat→aa}
omit [Laid] in
def sM.listed(hE:sM ops lo an)(hd:Down ops L):∀(i:Nat),i<ops.size→(∀e∈dZ ops i,L.getD e false=true)→∀j,an i j=true→L.getD j false=true:=by
 intro i;induction i using Nat.strongRecOn with
 | _ i ih =>
   intro hi ha j hj;obtain⟨e,he,q⟩:=hE.anc i j hj;rcases q with rfl|q
   ·exact ha _ he
   ·have hlt:=hE.back i hi e he;refine ih e hlt (by omega) (fun d hd' => ?_) j q;have hle:=ha e he;obtain⟨o,ho⟩:∃o,ops[e]?=some o:=⟨ops[e],UP (by omega)⟩;unfold dZ at hd';rw[ho]at hd';simp only[aaT,abc]at hd';obtain⟨x,⟨hx,hb⟩,rfl⟩:=hd';exact hd e o ho hle x (by simpa using hx) hb
omit [Laid] in
def sM.Da(hE:sM ops lo an)(hd:Down ops L)(hi:i<ops.size)(hl:L.getD i false=true)(hj:an i j=true):L.getD j false=true:=by
 refine hE.listed hd i hi (fun e he=>?_) j hj;obtain⟨o,ho⟩:∃o,ops[i]?=some o:=⟨ops[i],UP hi⟩;unfold dZ at he;rw[ho]at he;simp only[aaT,abc]at he;obtain⟨x,⟨hx,hb⟩,rfl⟩:=he;exact hd i o ho hl x (by simpa using hx) hb
omit [Laid] in
def sM.Fm(hE:sM ops lo an)(hd:Down ops L)(hi:i<ops.size)(hr:i∈Region.ready .any ops L)(hj:an i j=true):L.getD j false=true:=by
 refine hE.listed hd i hi (fun e he=>?_) j hj;obtain⟨_,o,ho,hall⟩:=mem_ready.1 hr;unfold dZ at he;rw[ho]at he;simp only[aaT,abc]at he;obtain⟨x,⟨hx,hb⟩,rfl⟩:=he;exact hall x (by simpa using hx) hb
end
/-! ### What waits for what -/
def Wd(acc:List Nat)(l:List Nat):Nat:=l.foldr (fun e s=>s ||| (1 <<< e) ||| acc.getD e 0) 0
def Js(ops:Array Oper):Nat→List Nat
 | 0=>[]
 | k+1=>Js ops k++[Wd (Js ops k) (dZ ops k)]
def Aa(ms:List Nat)(i j:Nat):Bool:=(ms.getD i 0).testBit j
def E3(ops:Array Oper)(i:Nat):List Tmp:=match ops[i]? with|some o=>o.looksAt ops|none=>[]
def NP(d:Option Tmp)(l:List Tmp):Bool:=match d with|some t=>l.contains t|none=>false
def IW(ops:Array Oper)(i j:Nat):Bool:=
 NP (eN ops j) (E3 ops i)||NP (eN ops i) (E3 ops j)||(match eN ops i,eN ops j with|some a,some b=>Nat.beq a b|_,_=>false)
def Ew(ops:Array Oper)(lo:Nat→Bool)(ms:List Nat)(N:Nat):Bool:=
 decide (ms.length≤N)&&ms.all (fun x=>Nat.ble (x+1) (2^N))&&(List.range N).all fun i =>
  (dZ ops i).all (fun e=>Nat.ble (e+1) i)&&(List.range N).all (fun j=>!Aa ms i j||(dZ ops i).any fun e=>Nat.beq e j||Aa ms e j)&&(List.range i).all fun j=>Aa ms i j||!(IW ops i j||(lo i&&lo j))
section
omit [Laid]
def Ex{ops:Array Oper}{lo:Nat→Bool}{ms:List Nat}(h:Ew ops lo ms ops.size=true):sM ops lo (Aa ms):=by
 unfold Ew at h;simp only[NO,Of]at h;obtain⟨⟨h1,h2⟩,h3⟩:=h;have at':∀i,i<ops.size→((∀e∈dZ ops i,e<i)∧(∀j,j<ops.size→Aa ms i j=true→∃e∈dZ ops i,e=j∨Aa ms e j=true)∧∀j,j<i→IW ops i j=true∨(lo i=true∧lo j=true)→Aa ms i j=true):=by
  intro i hi;have:=At.1 h3 i (by simpa using hi);simp only[NO]at this;obtain⟨⟨a,b⟩,c⟩:=this;refine⟨fun e he=>?_,fun j hj ha=>?_,fun j hj hc=>?_⟩
  ·have:=At.1 a e he;rw[Nat.ble_eq]at this;omega
  ·have:=At.1 b j (by simpa using hj);rw[ha]at this;simp only[Bool.not_true,Bool.false_or,List.any_eq_true,abl]at this;obtain⟨e,he,q⟩:=this;exact⟨e,he,q.imp lE id⟩
  ·have:=At.1 c j (by simpa using hj);simp only[abl,abm,abx,Bool.and_eq_false_iff]at this;rcases this with q|⟨q1,q2⟩
   ·exact q
   ·rcases hc with r|⟨r1,r2⟩
    ·rw[q1]at r;cases r
    ·rcases q2 with q2|q2
     ·rw[q2]at r1;cases r1
     ·rw[q2]at r2;cases r2
 have anlt:∀i j,Aa ms i j=true→i<ops.size∧j<ops.size:=by
  intro i j h;unfold Aa at h
  by_cases hi:i<ms.length
  ·refine⟨by omega, ?_⟩;have hm:=At.1 h2 ms[i] (aba hi);rw[Nat.ble_eq]at hm;rw[nE,dO hi]at h;simp only[Option.getD_some]at h;rcases uP j ops.size with q|q
   ·exact q
   ·have:ms[i].testBit j=false:=Nat.testBit_lt_two_pow (Up (show ms[i]<2^ops.size by omega) (Nat.pow_le_pow_right (by omega) q));rw[this]at h;cases h
  ·rw[nE,iS (by omega)]at h;simp at h
 refine⟨fun i hi=>(at' i hi).1,fun i j h=>(at' i (anlt i j h).1).2.1 j (anlt i j h).2 h,fun i j hi hj oi oj hoi hoj hc=>(at' i hi).2.2 j hj (.inl ?_),fun i j hi hj h1 h2=>(at' i hi).2.2 j hj (.inr ⟨h1,h2⟩)⟩;unfold IW E3 NP;rw[hoi,hoj];obtain⟨t,⟨hd,hl⟩|⟨hd,hl⟩⟩:=hc
 ·rcases hl with hl|hl
  ·simp only[hd];simp only[abl];exact .inl (.inl (by simpa using hl))
  ·simp only[hd,hl];simp
 ·simp only[hd];simp only[abl];exact .inl (.inr (by simpa using hl))
end
end
end Go.Aw
end
