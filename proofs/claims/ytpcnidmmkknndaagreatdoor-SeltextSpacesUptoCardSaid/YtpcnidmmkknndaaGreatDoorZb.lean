/-
 'append' and what else makes or grows a slice: the model's operations meet their words.
 No conditions.
-/
import Derived.Deep.AppendSrc
import Derived.Deep.Upon
import Derived.Test.YtpcnidmmkknndaaGreatDoorZa
set_option linter.unusedVariables false
set_option linter.unusedSimpArgs false
set_option maxRecDepth 1000000
set_option maxHeartbeats 16000000
noncomputable section
namespace Go.Aw
section
open Go Go.RowKit
variable [Laid]
variable{P:Program}{ops:Array Oper}{ι:List Ix}{w:World}{S:ba}{h:aa}{Q:Exit→St→Prop}{K:AV→Prop}{base n:Nat}{fr fr':Fr}{cs ms:List Nat}{vs:List Value}{own:Bool}{ev:Operand→AV}{st:St}{op:Op}{e:TypeId}{x:AV}
theorem cL.kill(hh:cL base ι S w h)(id:Nat):cL base ι S w (h.set id .dead):=by
 have dead:∀{x},(h.set id .dead)[id]?=some x→x=.dead:=by
  intro x e
  by_cases hl:id<h.length
  ·rw[iD hl]at e;exact (DO e).symm
  ·rw[iS (by simpa using hl)]at e;cases e
 refine hh.vY (bS.refl _ _ _ _ _) (by simp[hh.len]) id (fun i hi _=>⟨iF (Ne.symm hi),rfl,fun _ _ _=>⟨rfl,fun _ q=>q⟩⟩) (fun x e=>?_) (fun e sz n q=>?_) (fun en q=>by rw[dead q];trivial) (fun j b _ aT _ _ _=>?_) hh.iM hh.kx
 ·cases dead e
 ·cases dead q
 ·cases e:(h.set id .dead)[id]? with
  | none=>rw[e]at aT;exact aT.elim
  | some x=>rw[e,dead e]at aT;exact aT.elim
omit [Laid] in
theorem bS.grow(k:List Ix):bS ι.length base ι S w (ι++k) S w:=
 ⟨fun i hi=>fX.of_eq (gO hi),fun _ _ h=>h,fun _ _ h=>.inl h,fun _ _ _=>rfl,fun _ _ h=>h,Below.refl _ _⟩
theorem cL.drew{base:Nat}{ι:List Ix}{S:ba}{w:World}{h:aa}(hh:cL base ι S w h):bS ι.length base ι S w ι S w.drew∧cL base ι S w.drew h:=by
 have hE:bS ι.length base ι S w ι S w.drew:=⟨fun _ _=>fX.refl _,fun _ _ h=>h,fun _ _ h=>.inl h,fun _ _ _=>rfl,fun _ _ h=>h,(Below.refl base w).drew⟩;exact⟨hE,hh.vY hE hh.len h.length (fun i _ _=>⟨rfl,rfl,fun _ _ _=>⟨rfl,fun _ q=>q⟩⟩) (fun x e=>by simp at e) (fun _ _ _ e=>by simp at e) (fun _ e=>by simp at e) (fun j b _ aT=>by simp[alive]at aT) hh.iM hh.kx⟩
omit [Laid] in
theorem pF(h:sD P e=true):∃i z,P.info? e=some i∧i.zero=some z∧z.cells.size=i.size∧P.cellsOf e=i.size∧jO P e=i.bytes:=by
 unfold sD at h;split at h
 ·rename_i i hi;split at h
  ·rename_i z hz;exact⟨i,z,hi,hz,by simpa using h,by simp[Program.cellsOf,hi],by simp[jO,hi]⟩
  ·cases h
 ·cases h
omit [Laid] in
theorem cr.flat{ι:List Ix}{S:ba}{w:World}{sz:Nat}:∀{rows:List (List AV)} {b off:Nat},cr ι S w sz rows b off→rows.flatten.length=rows.length*sz∧bD ι S w rows.flatten b off
 | [],b,off,_=>by simp[bD]
 | r:: rs,b,off,h=>by
   rw[cr]at h;obtain⟨h1,h2,h3⟩:=h;obtain⟨k1,k2⟩:=cr.flat h3;refine⟨by simp[h1,k1,abf,Nat.add_comm],bD.mk fun i c e=>?_⟩;rw[abc]at e;rcases uP i r.length with q|q
   ·rw[gO q]at e;exact h2.get i c e
   ·rw[gT q]at e;have:=k2.get _ c e;rw[show off+sz+(i-r.length)=off+i by omega]at this;exact this
omit [Laid] in
theorem CM{ι:List Ix}{S:ba}{w:World}:∀{cs:List AV} {vs:List Value},aE ι S w cs vs→cs.all bQ=true→∀u∈vs,u.oneCell'=true
 | [],vs,h,_,u,hu=>by simp at h;subst h;cases hu
 | c:: cs,[],h,_,u,hu=>by simp at h
 | c:: cs,v:: vs,h,hs,u,hu=>by
   simp at h hs;simp only[ID]at hu;rcases hu with rfl|hu
   ·exact Af hs.1 h.1
   ·exact CM h.2 (by simpa using hs.2) u hu
omit [Laid] in
theorem bD.FB{b:Nat}{arr:Array Value}{t:TypeId}{fz:Nat×Nat}(h:w.heap[b]?=some (.cells arr t fz)){cs:List AV}(r:aE ι S w cs vs){off:Nat}
 (ha:∀i v,vs[i]?=some v→arr[off+i]?=some v) (hs:∀i,i<vs.length→S b (off+i)):bD ι S w cs b off:=
 bD.mk fun i c e=>by
  obtain⟨v,e1,e2⟩:=r.get i c e;exact⟨v,by rw[gb h];exact ha i v e1,hs i (eQ.1 e1).1,e2⟩
theorem FX(hh:cL base ι S w h){t tx ty e:TypeId}(ht:P.underlying t=some (.slice e))(hz:sD P e=true)
 {v:Value} {rows:List (List AV)} {news:List Value} (hs:Src P (P.cellsOf e) tx v rows.length news w) (hn:aE ι S w rows.flatten news) (hrl:∀r∈rows,r.length=P.cellsOf e)
 {a:Option Addr} {cap:Nat} {bse:List (List AV)} {olds:List Value} (hbl:∀r∈bse,r.length=P.cellsOf e) (hlt:cap<bse.length+rows.length) (ho:aE ι S w bse.flatten olds)
 (hrd:(Builtin.firstCells (P.cellsOf e) bse.length (.slice a bse.length cap)).run P w.drew=.ok olds.toArray w.drew) (hm:bse.length+rows.length≤maxLen) (hby:(bse.length+rows.length)*jO P e≤140737488355328) :
 ∃u' w' arr S',(Builtin.append_ #[t,tx] ty #[.slice a bse.length cap,v]).run P w=.ok u' w'∧w'.heap=w.heap.push (.cells arr e)∧bS ι.length base ι S w ι S' w' ∧
  (∃cap',u'=.slice (some ⟨w.heap.size,0,none⟩) (bse.length+rows.length) cap'∧bse.length+rows.length≤cap'∧cap'≤maxLen∧cap'*P.cellsOf e≤arr.size) ∧
  (∀b o,S' b o↔S b o∨(b=w.heap.size∧o<(bse.length+rows.length)*P.cellsOf e))∧cr ι S' w' (P.cellsOf e) (bse++rows) w.heap.size 0:=by
 obtain⟨i,z,hi,hzz,hzs,hce,hbe⟩:=pF hz;rw[hbe]at hby;rw[hce]at hs hrl hbl hrd ⊢;have hnl:=hs.newsLen;have hol:olds.length=bse.length*i.size:=by rw[←ho.length,ke hbl]
 have hrun:=run_append_grow_src (P:=P) w t tx ty e i z ht hi hzz a bse.length cap olds hrd v rows.length news hs hlt (by simp only[maxLen]at hm;omega) (growslice_fits hlt hby);have hge:=grownCap_ge w (bse.length+rows.length) cap e;have hcm:=grownCap_le_maxLen w (bse.length+rows.length) cap e hm;generalize hZ:Builtin.zeroCells z.cells (grownCap w (bse.length+rows.length) cap e-(bse.length+rows.length))=Z at hrun;have hZs:Z.size=(grownCap w (bse.length+rows.length) cap e-(bse.length+rows.length))*i.size:=by rw[←hZ,size_zeroCells,hzs]
 let S':ba:=fun b o=>S b o∨(b=w.heap.size∧o<(bse.length+rows.length)*i.size)
 obtain⟨hE1,hH1⟩:=hh.drew;have hE2:bS ι.length base ι S w ι S' (w.drew.alloc (.cells ((olds++news).toArray++Z) e)):=
  ⟨fun _ _=>fX.refl _,fun _ _ q=>.inl q,fun b o q=>q.elim .inl fun q=>.inr (by rw[q.1];exact hh.kx),fun b o q=>World.cell?_of_block (w:=w) (Below.heap_alloc w.drew _ b (hh.iM b o q)),
   fun b x q=>zj (w:=w.drew) _ q,((Below.refl base w).drew).alloc hh.kx _⟩
 have hnew:(w.drew.alloc (.cells ((olds++news).toArray++Z) e)).heap[w.heap.size]?=some (.cells ((olds++news).toArray++Z) e):=by
  show (w.heap.push _)[w.heap.size]?=_;simp
 refine⟨_,_,(olds++news).toArray++Z,S',hrun,rfl,hE2,⟨_,rfl,hge,hcm, ?_⟩,fun _ _=>Iff.rfl, ?_⟩
 ·rw[Array.size_append,hZs,List.size_toArray,AT,hol,hnl,←abf,←abf];exact Nat.mul_le_mul_right _ (by omega)
 ·refine cr.of_flat (fun r hr=>?_) ?_
  ·rcases Is.1 hr with q|q
   ·exact hbl r q
   ·exact hrl r q
  ·rw[List.flatten_append];have r1:=(aE.fV hE2 (bY _) _ _ ho).append (aE.fV hE2 (bY _) _ _ hn);refine bD.FB hnew r1 (fun j v q=>?_) (fun j hj=>?_)
   ·rw[aaQ,Array.getElem?_append_left (by simpa using (eQ.1 q).1)];simpa using q
   ·right;refine⟨rfl, ?_⟩;rw[AT,hol,hnl,←abf]at hj;omega
omit [Laid] in
theorem sV{sz:Nat}{rows:List (List AV)}{a:Option Addr}{cap:Nat}(h:rows=[]∨∃b off,a=some ⟨b,off,none⟩∧cr ι S w sz rows b off):
 ∃olds,aE ι S w rows.flatten olds∧(Builtin.firstCells sz rows.length (.slice a rows.length cap)).run P w.drew=.ok olds.toArray w.drew:=by
 rcases h with rfl|⟨b,off,rfl,rr⟩
 ·refine⟨[],by simp, ?_⟩;cases a with
  | none=>exact run_firstCells_none w.drew sz 0 0 cap
  | some a=>exact run_firstCells_some w.drew sz 0 a 0 cap [] (by simp) (by simp)
 ·obtain⟨k1,k2⟩:=rr.flat;obtain⟨vs,rv,hc⟩:=k2.sy;refine⟨vs,rv,run_firstCells_some w.drew sz rows.length _ rows.length cap _ (by rw[←rv.length,k1]) fun j v q=>?_⟩;rw[addr_add];exact hc j v q
section
variable {P:Program} {o:Oper} {base:Nat} {ι:List Ix} {S:ba} {a:Act} {w:World} {st:St} {K:AV→aa→Prop}
omit [Laid] in
theorem Gl{w:World}{n cap b c:Nat}(h:CB (.slice (some ⟨c,0,none⟩) n cap) b):b=c:=by
 obtain⟨a,l,cap',e,h1,h2⟩:=h;cases e;exact h1.symm
omit [Laid] in
theorem lk:∀(vs:List Value) (w:World) (b o c:Nat),c≠b→(w.setCells b o vs).heap[c]?=w.heap[c]?
 | [],w,b,o,c,_=>rfl
 | v:: vs,w,b,o,c,h=>by
   rw[World.setCells,lk vs _ b (o+1) c h];exact Below.heap_setCell w ⟨b,o,none⟩ v c h
omit [Laid] in
theorem setCells_at:∀(vs:List Value) (w:World) (b o:Nat) {arr:Array Value} {t:TypeId} {fz:Nat×Nat},w.heap[b]?=some (.cells arr t fz)→o+vs.length≤arr.size →
 ∃arr',(w.setCells b o vs).heap[b]?=some (.cells arr' t fz)∧arr'.size=arr.size∧(∀i v,vs[i]?=some v→arr'[o+i]?=some v)∧∀i,(i<o∨o+vs.length≤i)→arr'[i]?=arr[i]?
 | [],w,b,o,arr,t,fz,h,_=>⟨arr,h,rfl,by simp,fun _ _=>rfl⟩
 | v:: vs,w,b,o,arr,t,fz,h,hl=>by
   simp only[aaB]at hl;obtain⟨arr',k1,k2,k3,k4⟩:=setCells_at vs (w.setCell ⟨b,o,none⟩ v) b (o+1) (sY h o v) (by simp;omega);refine⟨arr',k1,by simpa using k2,fun i u e=>?_,fun i hi=>?_⟩
   ·cases i with
    | zero =>
      simp only[List.getElem?_cons_zero,On]at e;subst e;rw[Nat.add_zero,k4 o (.inl (by omega)),Array.getElem?_setIfInBounds];simp;omega
    | succ i =>
      have:=k3 i u (by simpa using e);rw[show o+(i+1)=o+1+i by omega];exact this
   ·simp only[aaB]at hi;rw[k4 i (by omega),Array.getElem?_setIfInBounds_ne (by omega)]
omit [Laid] in
theorem pt{base:Nat}:∀(vs:List Value) (w:World) (b o:Nat),base≤b→Below base w (w.setCells b o vs)
 | [],w,b,o,_=>Below.refl _ _
 | v:: vs,w,b,o,h=>((Below.refl base w).setCell (p:=⟨b,o,none⟩) h v).trans (pt vs _ b (o+1) h)
omit [Laid] in
theorem pv:∀(vs:List Value) (w:World) (b o c:Nat),(w.setCells b o vs).shape? c=w.shape? c
 | [],w,b,o,c=>rfl
 | v:: vs,w,b,o,c=>by rw[World.setCells,pv vs _ b (o+1) c,wD]
omit [Laid] in
theorem setCells_size:∀(vs:List Value) (w:World) (b o:Nat),(w.setCells b o vs).heap.size=w.heap.size
 | [],w,b,o=>rfl
 | v:: vs,w,b,o=>by rw[World.setCells,setCells_size vs _ b (o+1)];simp[World.setCell]
theorem Iu{t tx ty e:TypeId}{h:aa}(hh:cL base ι S w h)(ht:P.underlying t=some (.slice e))(hz:sD P e=true){v u:Value}{rows bse:List (List AV)}{news:List Value}{id:Nat}
 (hs:Src P (P.cellsOf e) tx v rows.length news w) (hn:aE ι S w rows.flatten news) (hrl:∀r∈rows,r.length=P.cellsOf e)
 (hu:au ι S w (.sb id (P.cellsOf e) bse) u) (hid:h[id]?=some (.tok e (P.cellsOf e) bse.length)) (hm:jF (jO P e) (bse.length+rows.length)) :
 ∃u' w' ι' S',(Builtin.append_ #[t,tx] ty #[u,v]).run P w=.ok u' w'∧bS ι.length base ι S w ι' S' w'∧au ι' S' w' (.sb id (P.cellsOf e) (bse++rows)) u'∧cL base ι' S' w' (h.set id (.tok e (P.cellsOf e) (bse.length+rows.length))):=by
 have hlt:id<h.length:=(eQ.1 hid).1;have hlι:id<ι.length:=by rw[hh.len];exact hlt
 obtain⟨v0,hv0,a,cap,rfl,hcap,hcm,hblk⟩:=hh.tok id _ _ _ hid;rw[au]at hu;obtain⟨⟨a',cap',eu,hc1,hc2,hrows⟩,n',v',t1,t2,t3⟩:=hu;rw[hv0]at t1;cases t1;have eu':=t3 rfl;rw[eu]at eu';cases eu';subst eu;have hbl:∀r∈bse,r.length=P.cellsOf e:=by
  rcases hrows with rfl|⟨b,off,_,rr⟩
  ·simp
  ·intro r hr;obtain⟨j,hj⟩:=List.getElem?_of_mem hr;exact (rr.get j r hj).1
 have hflat:=ke hrl;have hnl:news.length=rows.length*P.cellsOf e:=by rw[←hn.length,hflat]
 -- what becomes of the place
 have close:∀{u':Value} {w':World} {S':ba},bS ι.length base ι S w ι S' w'→(∃a'' cap'',u'=.slice a'' (bse.length+rows.length) cap''∧bse.length+rows.length≤cap''∧cap''≤maxLen∧(bse++rows=[]∨∃b off,a''=some ⟨b,off,none⟩∧cr ι S' w' (P.cellsOf e) (bse++rows) b off)) →
  (rows.length=0→u'=.slice a bse.length cap)→uL base S' w' e (P.cellsOf e) (bse.length+rows.length) u'→(∀b,b<w.heap.size→(∀c,CB (.slice a bse.length cap) c→b≠c)→base≤b→w'.heap[b]?=w.heap[b]?∧∀o,S' b o→S b o) →
  (∀b,CB u' b→CB (.slice a bse.length cap) b∨w.heap.size≤b)→(∀b o,S' b o→b<w'.heap.size) →
  ∃ι' S',bS ι.length base ι S w ι' S' w'∧au ι' S' w' (.sb id (P.cellsOf e) (bse++rows)) u'∧cL base ι' S' w' (h.set id (.tok e (P.cellsOf e) (bse.length+rows.length))):=by
  intro u' w' S' hE hrep hsame htok hother hnew hstb;have hE':bS ι.length base ι S w (ι.set id (.tok (bse.length+rows.length) u')) S' w':=by
   refine⟨fun i hi=>?_,hE.sub,hE.new,hE.cell,hE.xj,hE.oe⟩
   by_cases q:i=id
   ·subst q;rw[iD hlι,hv0];refine⟨_,_,rfl, ?_⟩
    by_cases z:rows.length=0
    ·left;exact⟨by omega,by rw[hsame z]⟩
    ·right;omega
   ·rw[iF (Ne.symm q)];exact fX.refl _
  have hE2:bS ι.length base ι S' w' (ι.set id (.tok (bse.length+rows.length) u')) S' w':=⟨hE'.pre,fun _ _ q=>q,fun _ _ q=>.inl q,fun _ _ _=>rfl,fun _ _ q=>q,Below.refl _ _⟩;refine⟨_,S',hE', ?_,hh.vY hE' (by simp[hh.len]) id (fun i hi ha=>?_) (fun x q=>?_) (fun e' sz' n' q=>?_) (fun en q=>by rw[iD hlt]at q;cases q;trivial) (fun j b hj _ aj hb hb' => ?_) hstb (aaT hh.kx hE.oe.size)⟩
  ·rw[au];obtain⟨a'',cap'',e1,e2,e3,e4⟩:=hrep;refine⟨⟨a'',cap'',by rw[AT];exact e1,by rw[AT];exact e2,e3,e4.imp (fun q=>q) fun⟨b,off,q1,q2⟩=>⟨b,off,q1,cr.fV hE2 (bY _) _ _ b off q2⟩⟩,_,_,iD hlι,by simp,fun _=>rfl⟩
  ·rw[iF (Ne.symm hi)]at ha ⊢;refine⟨rfl,iF (Ne.symm hi),fun b hb hbl=>hother b hbl (fun c hc q=>?_) (hh.B0 ha hb).1⟩;subst q;exact hi (hh.inj i id b ha (by rw[hid];exact trivial) hb (by rw[hv0];exact hc))
  ·rw[iD hlt]at q;cases q
  ·rw[iD hlt]at q;cases q;exact⟨_,iD hlι,htok⟩
  ·rw[iF (Ne.symm hj)]at aj;rw[iF (Ne.symm hj)]at hb';rw[iD hlι]at hb;rcases hnew b hb with q|q
   ·exact hj (hh.inj j id b aj (by rw[hid];exact trivial) hb' (by rw[hv0];exact q))
   ·have:=(hh.B0 aj hb').2;omega
 by_cases hfit:bse.length+rows.length≤cap
 ·-- there is room
  by_cases hc0:cap=0
  ·have hr0:rows.length=0:=by omega
   have hb0:bse.length=0:=by omega
   obtain⟨i,z,hi,hzz,hzs,hce,hbe⟩:=pF hz;have hnews:news=[]:=List.eq_nil_of_length_eq_zero (by rw[hnl,hr0,Nat.zero_mul]);subst hnews;have hrows0:rows=[]:=List.eq_nil_of_length_eq_zero hr0;subst hrows0;have hrun:=run_append_nothing (P:=P) w t tx ty e i ht hi a bse.length cap (by omega) v (by rw[←hce];exact hs);obtain⟨ι',S',q1,q2,q3⟩:=close (u':=.slice a bse.length cap) (w':=w) (S':=S) (bS.refl _ _ _ _ _) ⟨a,cap,by simp,by simpa using hfit,hcm,by left;simp;exact List.eq_nil_of_length_eq_zero hb0⟩ (fun _=>rfl)
    ⟨a,cap,by simp,by simpa using hfit,hcm,.inl hc0⟩ (fun _ _ _ _=>⟨rfl,fun _ q=>q⟩) (fun _ q=>.inl q) hh.iM
   exact⟨_,_,ι',S',hrun,q1,q2,q3⟩
  ·rcases hblk with hblk|⟨b,arr,fz,rfl,k1,k2,k3,k4,k5⟩
   ·exact absurd hblk hc0
   ·obtain⟨i,z,hi,hzz,hzs,hce,hbe⟩:=pF hz;have hmul:(bse.length+rows.length)*P.cellsOf e≤cap*P.cellsOf e:=Nat.mul_le_mul_right _ hfit;rw[abf]at hmul;have hcells:∀j,j<news.length→(w.cell? ⟨b,0+bse.length*i.size+j,none⟩).isSome=true:=fun j hj=>by
     rw[gb k2,UP (by rw[hnl]at hj;rw[←hce];omega)];rfl
    have hfroz:∀j,j<news.length→w.frozen? ⟨b,0+bse.length*i.size+j,none⟩=false:=fun j hj=>by
     rw[qc k2];have:=k3 (0+bse.length*i.size+j) (by rw[hnl]at hj;rw[←hce];omega);simpa using this
    have hrun:=run_append_room_src (P:=P) w t tx ty e i ht hi b 0 bse.length cap v rows.length news (by rw[←hce];exact hs) hfit hcells hfroz;rw[aaQ,←hce]at hrun;obtain⟨arr',g1,g2,g3,g4⟩:=setCells_at news w b (bse.length*P.cellsOf e) k2 (by rw[hnl];omega)
    let S':ba:=fun c o=>S c o∨(c=b∧bse.length*P.cellsOf e≤o∧o<(bse.length+rows.length)*P.cellsOf e)
    have hE:bS ι.length base ι S w ι S' (w.setCells b (bse.length*P.cellsOf e) news):=by
     refine⟨fun _ _=>fX.refl _,fun _ _ q=>.inl q,fun c o q=>q.elim .inl fun q=>.inr (by rw[q.1];exact k1),fun c o q=>?_,fun c x q=>by rw[pv];exact q,pt news w b _ k1⟩
     by_cases hcb:c=b
     ·subst hcb;rw[gb g1,gb k2];exact g4 o (.inl (k5 o q))
     ·exact World.cell?_of_block (w:=w) (lk news w b _ c hcb)
    have told:∀b' off,(⟨b,0,none⟩:Addr)=⟨b',off,none⟩→b'=b∧off=0:=fun b' off q=>by cases q;exact⟨rfl,rfl⟩
    have hR:bse++rows=[]∨∃b' off,some (⟨b,0,none⟩:Addr)=some ⟨b',off,none⟩∧cr ι S' (w.setCells b (bse.length*P.cellsOf e) news) (P.cellsOf e) (bse++rows) b' off:=by
     right;refine⟨b,0,rfl,cr.of_flat (fun r hr=>(Is.1 hr).elim (hbl r) (hrl r)) ?_⟩;rw[List.flatten_append];have hC1:bD ι S' (w.setCells b (bse.length*P.cellsOf e) news) bse.flatten b 0:=by
      rcases hrows with rfl|⟨b',off,q,rr⟩
      ·simp[bD]
      ·obtain⟨rfl,rfl⟩:=told b' off (DO q);exact bD.fV hE (bY _) _ _ _ rr.flat.2
     have hC2:bD ι S' (w.setCells b (bse.length*P.cellsOf e) news) rows.flatten b (bse.length*P.cellsOf e):=
      bD.FB g1 (aE.fV hE (bY _) _ _ hn) (fun i v q=>g3 i v q) (fun i hi=>.inr ⟨rfl,by omega,by rw[hnl]at hi;rw[abf];omega⟩)
     have hfl:=ke hbl;refine bD.mk fun i c q=>?_;rcases uP i bse.flatten.length with z|z
     ·rw[gO z]at q;exact hC1.get i c q
     ·rw[gT z]at q;have:=hC2.get _ c q;rw[show bse.length*P.cellsOf e+(i-bse.flatten.length)=0+i by omega]at this;exact this
    obtain⟨ι',S'',q1,q2,q3⟩:=close (u':=.slice (some ⟨b,0,none⟩) (bse.length+rows.length) cap) (w':=w.setCells b (bse.length*P.cellsOf e) news) (S':=S') hE ⟨_,cap,rfl,hfit,hcm,hR⟩ (fun z=>by rw[z,Nat.add_zero])
     ⟨_,cap,rfl,hfit,hcm,.inr ⟨b,arr',fz,rfl,k1,g1,by rw[g2];exact k3,by rw[g2];exact k4,fun o q=>by
      rcases q with q|q
      ·have:=k5 o q;rw[abf];omega
      ·exact q.2.2⟩⟩ (fun c hc hne _=>⟨lk news w b _ c (hne b ⟨_,_,_,rfl,rfl,hc0⟩),fun o q=>q.elim (fun q=>q) fun q=>absurd q.1 (hne b ⟨_,_,_,rfl,rfl,hc0⟩)⟩)
     (fun c q=>.inl ⟨_,_,_,rfl,(Gl (w:=w) q).symm,hc0⟩) (fun c o q=>by
      rw[setCells_size];rcases q with q|q
      ·exact hh.iM c o q
      ·rw[q.1];exact xS k2)
    exact⟨_,_,ι',S'',hrun,q1,q2,q3⟩
 ·-- it grows
  obtain⟨olds,hold,hrd⟩:=sV (P:=P) (cap:=cap) hrows;obtain⟨u',w',arr,S',hrun,hheap,hE,⟨cap',rfl,g1,g2,g3⟩,hS',hR⟩:=FX (ty:=ty) hh ht hz hs hn hrl hbl (by omega) hold hrd hm.1 hm.2;have hnw:w'.heap[w.heap.size]?=some (.cells arr e):=by rw[hheap];simp
  obtain⟨ι',S'',q1,q2,q3⟩:=close hE ⟨_,cap',rfl,g1,g2,.inr ⟨_,0,rfl,hR⟩⟩ (fun z=>by omega)
   ⟨_,cap',rfl,g1,g2,.inr ⟨w.heap.size,arr,(0,0),rfl,hh.kx,hnw,fun o _=>by simp,g3,fun o q=>by
    rcases (hS' _ o).1 q with q|q
    ·have:=hh.iM _ _ q;omega
    ·exact q.2⟩⟩ (fun b hb _ _=>⟨by rw[hheap,Array.getElem?_push];simp;omega,fun o q=>by
    rcases (hS' b o).1 q with q|q
    ·exact q
    ·omega⟩) (fun b q=>.inr (by rw[Gl (w:=w) q];exact bY _)) (fun b o q=>by
    rw[hheap,Array.size_push];rcases (hS' b o).1 q with q|q
    ·have:=hh.iM b o q;omega
    ·omega)
  exact⟨_,_,ι',S'',hrun,q1,q2,q3⟩
theorem cL.begin{h:aa}(hh:cL base ι S w h){e sz:TypeId}{a:Option Addr}:cL base (ι++[.tok 0 (.slice a 0 0)]) S w (h++[.tok e sz 0]):=
 hh.push _ _ (bS.grow _) (fun _ _ _=>⟨rfl,fun _ q=>q⟩) (fun _ q=>by cases q) (fun e' sz' n' q=>by cases q;exact⟨_,rfl,a,0,rfl,bY _,aaO _,.inl rfl⟩) trivial
  (fun _ b hb=>by obtain⟨_,_,_,q,_,h0⟩:=hb;cases q;exact absurd rfl h0) hh.iM
omit [Laid] in
theorem au.begin(ι:List Ix)(S:ba)(w:World)(sz:Nat)(a:Option Addr):au (ι++[.tok 0 (.slice a 0 0)]) S w (.sb ι.length sz []) (.slice a 0 0):=by
 rw[au];exact⟨⟨a,0,rfl,bY _,aaO _,.inl rfl⟩,0,_,by simp,bY _,fun _=>rfl⟩
theorem Du{h:aa}(hh:cL base ι S w h){x:AV}{y:Value}(hy:au ι S w x y){sz:Nat}{rows:List (List AV)}(hs:jB h sz x=some rows):
 ∃ad cap vs,y=.slice ad rows.length cap∧rows.length≤maxLen∧aE ι S w rows.flatten vs∧rows.flatten.length=rows.length*sz ∧
  ((ad=none∧vs=[]∧rows=[])∨∃b,ad=some b∧∀j u,vs[j]?=some u→w.cell? (b.add j)=some u):=by
 have hy:=hy.mZ;unfold jB at hs;split at hs
 ·rename_i e1;cases hs;rw[e1,au]at hy;obtain⟨b,ev⟩:=hy;exact⟨b,0,[],ev,aaO _,by simp,by simp,by cases b<;>simp⟩
 ·rename_i sz' rows' e1;split at hs
  ·rename_i hsz;subst hsz;cases hs;rw[e1,au]at hy;obtain⟨b,cap,ev,c1,c2,c3⟩:=hy;rcases c3 with rfl|⟨bb,off,rfl,hrr⟩
   ·exact⟨b,cap,[],ev,aaO _,by simp,by simp,by cases b<;>simp⟩
   ·obtain⟨k1,k2⟩:=hrr.flat;obtain⟨vs,rv,hcell⟩:=k2.sy;exact⟨_,cap,vs,ev,by omega,rv,k1,.inr ⟨_,rfl,fun j u q=>by rw[addr_add];exact hcell j u q⟩⟩
  ·cases hs
 ·rename_i id off len sz' e1;split at hs
  ·rename_i ah eb;split at hs
   ·rename_i hcond;obtain⟨rfl,hlen⟩:=hcond;cases hs;rw[e1,au]at hy;obtain⟨b,b',cap,n,ty,c1,ev,c2,c3,c4,c5,c6⟩:=hy;obtain⟨b2,arr,fz,k1,k2,k3,k4,k5,k6,k7,k8,k9⟩:=hh.live id ah eb;rw[c1]at k1;cases k1;obtain⟨f1,f2⟩:=je sz' len (ah.cells.drop off) (by simp;omega);have hcells:aE ι S w ((ah.cells.drop off).take (len*sz')) ((arr.toList.drop off).take (len*sz')):=by
     refine aE.mk (by simp;omega) fun j c v e1 e2=>?_;rw[ON]at e1 e2;split at e1
     ·rename_i hj;rw[if_pos hj]at e2;rw[aaG]at e1 e2;obtain⟨v',e3,r⟩:=k6 _ c e1;simp only[Array.getElem?_toList]at e2;rw[e3]at e2;cases e2;exact r
     ·cases e1
    refine⟨b',cap,_,by rw[jP];exact ev,by rw[jP];omega,by rw[f1];exact hcells,ke f2, ?_⟩;rcases c4 with rfl|rfl
    ·have:len=0:=by omega
     subst this;cases b'<;>simp[chunks]
    ·refine .inr ⟨_,rfl,fun j u q=>?_⟩;rw[addr_add,gb k3];rw[ON]at q;split at q
     ·rw[aaG]at q;simpa using q
     ·cases q
   ·cases hs
  ·cases hs
 ·cases hs
omit [Laid] in
theorem qK:∀l:List UInt8,(l.map fun b=>[bg b]).flatten=l.map bg
 | []=>rfl
 | b:: l=>by rw[GO,abc,qK l];rfl
omit [Laid] in
theorem UN{sz:Nat}{rows:List (List AV)}(h:rows.all (dk sz)=true):(∀r∈rows,r.length=sz)∧rows.flatten.all bQ=true:=by
 simp only[At,dk,NO,beq_iff_eq]at h;refine⟨fun r hr=>(h r hr).1, ?_⟩;simp only[At];intro c hc;obtain⟨r,hr,hcr⟩:=List.mem_flatten.1 hc;exact (h r hr).2 c hcr
theorem Iv{own:Bool}{c:Call}{t tx e:TypeId}{x y:Operand}{src:Option (List (List AV))}(hr:bX base ι S a w st)(ho:o.op=.call c)(hc:c.callee=.builtin .append)(hat:c.argTypes.toList=[t,tx])(hax:c.args.toList=[x,y])
 (ht:P.underlying t=some (.slice e)) (hz:sD P e=true) (hsrc:∀rows,src=some rows→(∀r∈rows,r.length=P.cellsOf e)→rows.flatten.all bQ=true→∃news,Src P (P.cellsOf e) tx (a.eval y) rows.length news w∧aE ι S w rows.flatten news)
 (h:eE own e (P.cellsOf e) (jO P e) (aG st.fr x) src st.h K):cu P o base ι S a w st K:=by
 have hty:c.argTypes=#[t,tx]:=by apply Array.ext';simpa using hat
 have hag:c.args.map a.eval=#[a.eval x,a.eval y]:=by apply Array.ext';simp[hax]
 have done:∀{u' w'},(Builtin.append_ #[t,tx] o.type #[a.eval x,a.eval y]).run P w=.ok u' w'→(execOp a.eval o).run P w=.ok (.value u') w':=fun hrun =>
  xI (s:=Builtin.append_ c.argTypes o.type (c.args.map a.eval)) ho hc (fun cs=>rfl) (by rw[hty,hag];exact hrun)
 have hx:=(hr.eval x).xb;unfold eE at h;split at h
 ·exact h.elim
 ·rename_i rows;obtain⟨hro,h⟩:=h;obtain⟨hrl,hsc⟩:=UN hro;obtain⟨news,hs,hn⟩:=hsrc rows rfl hrl hsc
  -- a new block of the call's own
  have mine:∀{h':aa} {id0:Option Nat} {bse:List (List AV)} {olds:List Value} {ad:Option Addr} {cap:Nat},a.eval x=.slice ad bse.length cap→h'.length=st.h.length→cL base ι S w h'→(∀r∈bse,r.length=P.cellsOf e)→cap<bse.length+rows.length →
   aE ι S w bse.flatten olds→(Builtin.firstCells (P.cellsOf e) bse.length (.slice ad bse.length cap)).run P w.drew=.ok olds.toArray w.drew→jF (jO P e) (bse.length+rows.length) →
   K (.own st.h.length 0 (bse.length+rows.length) (P.cellsOf e)) (h'++[.ah ⟨e,bse.flatten++rows.flatten,true⟩])→cu P o base ι S a w st K:=by
   intro h' id0 bse olds ad cap ev hlen hh hbl hlt hold hrd hm k;obtain⟨i,z,hi,hzz,hzs,hce,hbe⟩:=pF hz;have hm2:=hm.2;rw[hbe]at hm2;rw[hce]at hs hbl hrl hrd k;have hnl:=hs.newsLen;have hol:olds.length=bse.length*i.size:=by rw[←hold.length,ke hbl]
   have hrun:=run_append_grow_src (P:=P) w t tx o.type e i z ht hi hzz ad bse.length cap olds hrd (a.eval y) rows.length news hs hlt (by have:=hm.1;simp only[maxLen]at this;omega) (growslice_fits hlt hm2);have hge:=grownCap_ge w (bse.length+rows.length) cap e;have hcm:=grownCap_le_maxLen w (bse.length+rows.length) cap e hm.1;obtain⟨hE1,hH1⟩:=hh.drew;have r1:aE ι S w.drew (bse.flatten++rows.flatten) (olds++news):=(aE.fV hE1 (bY _) _ _ hold).append (aE.fV hE1 (bY _) _ _ hn);have hA:=hH1.alloc e _ (olds++news) r1 (0,0) (Builtin.zeroCells z.cells (grownCap w (bse.length+rows.length) cap e-(bse.length+rows.length))).toList (fun o _=>by simp);have harr:((olds++news)++(Builtin.zeroCells z.cells (grownCap w (bse.length+rows.length) cap e-(bse.length+rows.length))).toList).toArray=(olds++news).toArray++Builtin.zeroCells z.cells (grownCap w (bse.length+rows.length) cap e-(bse.length+rows.length)):=by
    apply Array.ext';simp
   rw[harr]at hA;refine im hr (done (by rw[ev];exact hrun)) (hE1.trans (bS.alloc hH1.kx (fun b o=>hH1.iM b o) _ [.ah w.heap.size])) ?_ hA (by simp[hlen]) k;rw[au];have hsz:((olds++news).toArray++Builtin.zeroCells z.cells (grownCap w (bse.length+rows.length) cap e-(bse.length+rows.length))).size=grownCap w (bse.length+rows.length) cap e*i.size:=by
    rw[Array.size_append,List.size_toArray,AT,hol,hnl,size_zeroCells,hzs,←abf,←abf]
    congr 1
    omega
   refine⟨w.heap.size,_,_,_,e,by rw[←hr.hp.len];simp,rfl,hge,hcm,.inr rfl, ?_,by rw[aaQ];exact Nat.le_of_eq hsz.symm⟩;have hnew:(w.drew.alloc (.cells ((olds++news).toArray++Builtin.zeroCells z.cells (grownCap w (bse.length+rows.length) cap e-(bse.length+rows.length))) e)).heap[w.heap.size]?=some (.cells ((olds++news).toArray++Builtin.zeroCells z.cells (grownCap w (bse.length+rows.length) cap e-(bse.length+rows.length))) e):=by
    show (w.heap.push _)[w.heap.size]?=_;simp
   unfold World.shape?;rw[hnew]
  split at h
  ·-- out of nothing
   rename_i e1;rw[e1,au]at hx;obtain⟨ad,ev⟩:=hx;split at h
   ·obtain⟨hm,k⟩:=h;have hB:=hr.hp.begin (e:=e) (sz:=P.cellsOf e) (a:=ad);have hEb:bS ι.length base ι S w (ι++[.tok 0 (.slice ad 0 0)]) S w:=bS.grow _;have hsB:aE (ι++[.tok 0 (.slice ad 0 0)]) S w rows.flatten news:=aE.fV hEb (bY _) _ _ hn;have hRB:=au.begin ι S w (P.cellsOf e) ad;rw[hr.hp.len]at hRB;obtain⟨u',w',ι',S',q1,q2,q3,q4⟩:=Iu (ty:=o.type) (bse:=[]) (id:=st.h.length) hB ht hz hs hsB hrl hRB (by simp) (by simpa using hm);rw[ev]at done;refine im hr (done q1) ((hEb).trans (q2.mono (by simp) (bY _))) q3 q4 (by simp) ?_;simp only[List.nil_append,abd,aaQ];rw[IF _ _ (bY _)];simpa using k
   ·obtain⟨hne,hm,k⟩:=h;obtain⟨olds,hold,hrd⟩:=sV (P:=P) (ι:=ι) (S:=S) (w:=w) (sz:=P.cellsOf e) (rows:=[]) (a:=ad) (cap:=0) (.inl rfl);refine mine (bse:=[]) (id0:=none) (h':=st.h) (ad:=ad) (cap:=0) ev rfl hr.hp (by simp) ?_ hold hrd (by simpa using hm) (by simpa using k);have:=List.length_pos_iff.2 hne;simpa using this
  ·-- at its end
   rename_i id sz' bse e1;split at h
   ·rename_i e' sz'' k eh;obtain⟨⟨rfl,rfl,rfl,rfl⟩,hm,kk⟩:=h;rw[e1]at hx;obtain⟨u',w',ι',S',q1,q2,q3,q4⟩:=Iu (ty:=o.type) hr.hp ht hz hs hn hrl hx eh hm;exact im hr (done q1) q2 q3 q4 (by simp) kk
   ·exact h.elim
  ·-- the call's own
   rename_i id off len sz' e1;split at h
   ·rename_i ah eb;obtain⟨⟨rfl,rfl,hwr,rfl,hlc⟩,hpos,hm,k⟩:=h;rw[e1,au]at hx;obtain⟨b,ad,cap,m,ty',c1,ev,c2,c3,c4,c5,c6⟩:=hx;obtain⟨b',arr,fz,k1,k2,k3,k4,k5,k6,k7,k8,k9⟩:=hr.hp.live id ah eb;rw[c1]at k1;cases k1;have hm':m=arr.size:=by
     unfold World.shape? at c5;rw[k3]at c5;simp only[On,aaK]at c5;exact c5.2.symm
    subst hm';obtain⟨f1,f2⟩:=je (P.cellsOf ah.ty) len ah.cells hlc;have hcl:=jP (P.cellsOf ah.ty) len ah.cells;have hcs:aE ι S w (ah.cells.take (len*P.cellsOf ah.ty)) (arr.toList.take (len*P.cellsOf ah.ty)):=by
     refine aE.mk (by simp;omega) fun j c v e1 e2=>?_;rw[ON]at e1 e2;split at e1
     ·rename_i hj;rw[if_pos hj]at e2;obtain⟨v',e3,r⟩:=k6 j c e1;simp only[Array.getElem?_toList]at e2;rw[e3]at e2;cases e2;exact r
     ·cases e1
    by_cases hfit:len+rows.length≤cap
    ·-- there is room
     obtain⟨i,z,hi,hzz,hzs,hce,hbe⟩:=pF hz;rcases c4 with c4|rfl
     ·omega
     have hnl:=hs.newsLen;have hmul:(len+rows.length)*P.cellsOf ah.ty≤cap*P.cellsOf ah.ty:=Nat.mul_le_mul_right _ hfit;rw[abf]at hmul;have hcells:∀j,j<news.length→(w.cell? ⟨b,0+len*i.size+j,none⟩).isSome=true:=fun j hj=>by
      rw[gb k3,UP (by rw[hnl]at hj;rw[←hce];omega)];rfl
     have hfroz:∀j,j<news.length→w.frozen? ⟨b,0+len*i.size+j,none⟩=false:=fun j hj=>by
      rw[qc k3];have:=k4 (0+len*i.size+j) (by rw[hnl]at hj;rw[←hce];omega);simpa using this
     have hrun:=run_append_room_src (P:=P) w t tx o.type ah.ty i ht hi b 0 len cap (a.eval y) rows.length news (by rw[←hce];exact hs) hfit hcells hfroz;rw[aaQ,←hce]at hrun;obtain⟨arr',g1,g2,g3,g4⟩:=setCells_at news w b (len*P.cellsOf ah.ty) k3 (by rw[hnl];omega);have hE:bS ι.length base ι S w (ι++[.ah b]) S (w.setCells b (len*P.cellsOf ah.ty) news):=
      ⟨fun i hi=>fX.of_eq (gO hi),fun _ _ q=>q,fun _ _ q=>.inl q,fun c o q=>World.cell?_of_block (w:=w) (lk news w b _ c fun z=>k7 hwr o (z▸q)),fun c x q=>by rw[pv];exact q,pt news w b _ k2⟩
     have hl:=hr.hp.len;have hid:id<st.h.length:=(eQ.1 eb).1;have alv:∀{i:Nat},i≠st.h.length→alive (st.h.set id .dead++[.ah ⟨ah.ty,ah.cells.take (len*P.cellsOf ah.ty)++rows.flatten,true⟩])[i]?→i≠id∧(st.h.set id .dead++[.ah ⟨ah.ty,ah.cells.take (len*P.cellsOf ah.ty)++rows.flatten,true⟩])[i]?=st.h[i]?:=by
      intro i hi ha;rw[nH (by simpa using hi)]at ha ⊢
      by_cases q:i=id
      ·subst q;rw[iD hid]at ha;exact ha.elim
      ·exact⟨q,iF (Ne.symm q)⟩
     have hH:cL base (ι++[.ah b]) S (w.setCells b (len*P.cellsOf ah.ty) news) (st.h.set id .dead++[.ah ⟨ah.ty,ah.cells.take (len*P.cellsOf ah.ty)++rows.flatten,true⟩]):=by
      have lst:(st.h.set id .dead++[aL.ah ⟨ah.ty,ah.cells.take (len*P.cellsOf ah.ty)++rows.flatten,true⟩])[st.h.length]?=some (.ah ⟨ah.ty,ah.cells.take (len*P.cellsOf ah.ty)++rows.flatten,true⟩):=by
       rw[gT (by simp)];simp
      refine hr.hp.vY hE (by simp[hl]) st.h.length (fun i hi ha=>?_) (fun x q=>?_) (fun _ _ _ q=>?_) (fun en q=>by rw[lst]at q;cases q;trivial) (fun j c hj _ aj hb hb' => ?_) (fun c o q=>by rw[setCells_size];exact hr.hp.iM c o q) (by rw[setCells_size];exact hr.hp.kx)
      ·obtain⟨hne,he⟩:=alv hi ha;refine⟨he,nH (by rw[hl];exact hi),fun c hc _=>⟨lk news w b _ c fun q=>?_,fun _ q=>q⟩⟩;subst q;rw[he]at ha;exact hne (hr.hp.inj i id c ha (by rw[eb];exact trivial) hc (by rw[c1];rfl))
      ·rw[lst]at q;cases q;have hnf:rows.flatten.length=rows.length*P.cellsOf ah.ty:=ke hrl;have hlt:(ah.cells.take (len*P.cellsOf ah.ty)).length=len*P.cellsOf ah.ty:=by simp;omega
       refine⟨b,arr',fz,by rw[←hl];exact kz,k2,g1,by rw[g2];exact k4, ?_,fun j c q=>?_,fun _=>k7 hwr,fun o q=>absurd q (k7 hwr o),fun q=>by cases q⟩
       ·rw[AT,hlt,hnf,g2];omega
       ·rcases uP j (len*P.cellsOf ah.ty) with z|z
        ·rw[gO (by omega),ON,if_pos z]at q;obtain⟨v,q1,q2⟩:=k6 j c q;exact⟨v,by rw[g4 j (.inl z)];exact q1,au.fV hE (bY _) c v q2⟩
        ·rw[gT (by omega),hlt]at q;obtain⟨v,q1,q2⟩:=hn.get _ c q;have:=g3 _ v q1;rw[show len*P.cellsOf ah.ty+(j-len*P.cellsOf ah.ty)=j by omega]at this;exact⟨v,this,au.fV hE (bY _) c v q2⟩
      ·rw[lst]at q;cases q
      ·obtain⟨hne,he⟩:=alv hj aj;rw[he]at aj;rw[nH (by rw[hl];exact hj)]at hb';rw[←hl,kz]at hb;have:b=c:=hb;subst this;exact hne (hr.hp.inj j id b aj (by rw[eb];exact trivial) hb' (by rw[c1];rfl))
     refine im hr (done (by rw[ev];exact hrun)) hE ?_ hH (by simp) k;rw[au];exact⟨b,_,cap,arr.size,ty',by rw[←hl];exact kz,rfl,hfit,c3,.inr rfl,hE.xj _ _ c5,c6⟩
    ·have hrd:(Builtin.firstCells (P.cellsOf ah.ty) len (.slice ad len cap)).run P w.drew=.ok (arr.toList.take (len*P.cellsOf ah.ty)).toArray w.drew:=by
      by_cases hl0:len=0
      ·subst hl0;simp only[Nat.zero_mul,List.take_zero];cases ad with
       | none=>exact run_firstCells_none w.drew _ 0 0 cap
       | some ad=>exact run_firstCells_some w.drew _ 0 ad 0 cap [] (by simp) (by simp)
      ·rcases c4 with c4|rfl
       ·omega
       ·refine run_firstCells_some w.drew _ len _ len cap _ (by simp;omega) fun j v q=>?_;rw[addr_add,aaQ];rw[ON]at q;split at q
        ·show w.cell? ⟨b,j,none⟩=some v;rw[gb k3];simpa using q
        ·cases q
     refine mine (bse:=chunks (P.cellsOf ah.ty) len ah.cells) (id0:=some id) (h':=st.h.set id .dead) (ad:=ad) (cap:=cap) (olds:=arr.toList.take (len*P.cellsOf ah.ty)) (by rw[hcl];exact ev) (by simp) (hr.hp.kill id) f2 (by rw[hcl];omega)
      (by rw[f1];exact hcs) (by rw[hcl];exact hrd) (by rw[hcl];exact hm) (by rw[hcl,f1];exact k)
   ·exact h.elim
  ·exact h.elim
theorem Wb{own:Bool}{c:Call}{t tx e e':TypeId}{x y:Operand}(hr:bX base ι S a w st)(ho:o.op=.call c)(hc:c.callee=.builtin .append)(hat:c.argTypes.toList=[t,tx])(hax:c.args.toList=[x,y])
 (ht:P.underlying t=some (.slice e)) (htx:P.underlying tx=some (.slice e')) (hz:sD P e=true) (h:bP own e (P.cellsOf e) (jO P e) (aG st.fr x) (aG st.fr y) st.h K):cu P o base ι S a w st K:=by
 refine Iv hr ho hc hat hax ht hz (fun rows hs hrl hsc=>?_) h;obtain⟨ad,cap,vs,ev,_,rv,hfl,hcell⟩:=Du hr.hp (hr.eval y) hs;refine⟨vs, ?_,rv⟩;rw[ev];have hvl:vs.length=rows.length*P.cellsOf e:=by rw[←rv.length];exact hfl
 rcases hcell with⟨rfl,rfl,rfl⟩|⟨b,rfl,hcell⟩
 ·exact Src.ofNil w htx cap
 ·exact Src.ofSlice w htx b rows.length cap vs hvl (fun j u q=>hcell j u q) (CM rv hsc)
theorem UQ{own:Bool}{c:Call}{t tx e:TypeId}{x y:Operand}(hr:bX base ι S a w st)(ho:o.op=.call c)(hc:c.callee=.builtin .append)(hat:c.argTypes.toList=[t,tx])(hax:c.args.toList=[x,y])
 (ht:P.underlying t=some (.slice e)) (htx:P.underlying tx=some .string) (hz:sD P e=true) (h1:P.cellsOf e=1) (h:mH own e (jO P e) (aG st.fr x) (aG st.fr y) st.h K):cu P o base ι S a w st K:=by
 have h':eE own e (P.cellsOf e) (jO P e) (aG st.fr x) (Ct (aG st.fr y)) st.h K:=by rw[h1];exact h
 refine Iv hr ho hc hat hax ht hz (fun rows hs _ hsc=>?_) h';have hy:=hr.eval y;unfold Ct at hs;split at hs
 ·rename_i l e1;cases hs;rw[e1,eA]at hy;obtain⟨ev,_⟩:=hy;have hfl:=qK l;refine⟨byteCells ⟨l.toArray⟩, ?_, ?_⟩
  ·rw[ev,h1];have:=Src.ofString (P:=P) w htx ⟨l.toArray⟩;simpa[ByteArray.size]using this
  ·rw[hfl];unfold byteCells;refine aE.mk (by simp) fun i c v q1 q2=>?_;simp only[iN]at q1 q2;cases hl:l[i]? with
   | none=>rw[hl]at q1;cases q1
   | some b =>
     rw[hl]at q1 q2;simp only[abh,On]at q1 q2;subst q1;subst q2;simp[bg]
 ·cases hs
end
omit [Laid] in
theorem ni(z:List AV):∀n,(gQ n z).length=n*z.length
 | 0=>by simp[gQ]
 | n+1=>by rw[gQ,AT,ni z n,abf,Nat.one_mul,Nat.add_comm]
omit [Laid] in
theorem FT(z:List AV):∀(n i:Nat),i<n*z.length→(gQ n z)[i]?=z[i%z.length]?
 | 0,i,h=>by simp at h
 | n+1,i,h=>by
   rw[gQ];rcases uP i z.length with q|q
   ·rw[gO q,Nat.mod_eq_of_lt q]
   ·rw[gT q,FT z n (i-z.length) (by rw[abf,Nat.one_mul]at h;omega),←Nat.mod_eq_sub_mod q]
omit [Laid] in
theorem zQ{cs:List AV}(h:aE ι S w cs vs)(n m:Nat)(hm:m=n*cs.length):aE ι S w (gQ n cs) (madeCells vs.toArray m).toList:=by
 subst hm;have hl:=h.length;refine aE.mk (by rw[ni];simp[madeCells]) fun i c v e f=>?_;have hi:i<n*cs.length:=by rw[←ni];exact (eQ.1 e).1
 rw[FT cs n i hi]at e;have hpos:0<cs.length:=by
  rcases Nat.eq_zero_or_pos cs.length with q|q
  ·rw[q]at hi;simp at hi
  ·exact q
 have hi2:i%cs.length<vs.length:=by rw[←hl];exact Nat.mod_lt _ hpos
 simp only[madeCells,Array.toList_map,iN,Array.toList_range,List.getElem?_range hi,abh,On]at f;obtain⟨u,hu,r⟩:=h.get _ c e;have:v=u:=by
  rw[←f];simp only[List.size_toArray];rw[←hl];rw[getElem!_pos vs.toArray (i%cs.length) (by simpa using hi2)];rw[dO hi2]at hu;simpa using hu
 rw[this];exact r
omit [Laid] in
theorem wj{z:AV}(hz:sD P e=true)(h:jG P e=some z):∃i u vs,P.info? e=some i∧i.zero=some u∧z=ky u∧u.cells=(vs:List Value).toArray∧vs.length=i.size∧P.cellsOf e=i.size∧jO P e=i.bytes∧∀ι S w,aE ι S w (bl z) vs:=by
 obtain⟨i,u,hi,hu,hs,hc,hb⟩:=pF hz;unfold jG at h;rw[hi]at h;simp only[Option.bind_some,hu,abh,On]at h;obtain⟨vs,e1,r⟩:=tR u;exact⟨i,u,vs,hi,hu,h.symm,e1,by rw[e1]at hs;simpa using hs,hc,hb,by rw[←h];exact r⟩
section
variable {P:Program} {o:Oper} {base:Nat} {ι:List Ix} {S:ba} {a:Act} {w:World} {st:St} {K:AV→aa→Prop}
theorem cL.other{h:aa}(hh:cL base ι S w h)(ob:Obj):bS ι.length base ι S w ι S (w.alloc ob)∧cL base ι S (w.alloc ob) h:=by
 have hE:bS ι.length base ι S w ι S (w.alloc ob):=by simpa using bS.alloc hh.kx (fun b o=>hh.iM b o) ob []
 exact⟨hE,hh.vY hE hh.len h.length (fun i _ _=>⟨rfl,rfl,fun b _ hb=>⟨Below.heap_alloc w _ b hb,fun _ q=>q⟩⟩) (fun x e=>by simp at e) (fun _ _ _ e=>by simp at e) (fun _ e=>by simp at e) (fun j b _ aT=>by simp[alive]at aT)
  (fun b o q=>by have:=hh.iM b o q;show b<(w.heap.push _).size;simp;omega) (by have:=hh.kx;show base≤(w.heap.push _).size;simp;omega)⟩
theorem w9{e:TypeId}{cells:Array Value}{cs:List AV}{more:List Value}{l c:Nat}{sz:Nat}{fz:Nat×Nat}{w1:World}(hr:bX base ι S a w st)(hw1:w1=w∨w1=w.drew)
 (hrun:(execOp a.eval o).run P w=.ok (.value (.slice (some ⟨w.heap.size,0,none⟩) l c)) (w1.alloc (.cells cells e fz))) {vs:List Value} (hcells:cells=(vs++more).toArray) (r:aE ι S w cs vs)
 (hf:∀o,o<vs.length+more.length→¬(fz.1≤o∧o<fz.2)) (hlc:l≤c) (hcm:c≤maxLen) (hcz:c*sz≤vs.length+more.length) (k:K (.own st.h.length 0 l sz) (st.h++[.ah ⟨e,cs,true⟩])):cu P o base ι S a w st K:=by
 have hd:bS ι.length base ι S w ι S w1∧cL base ι S w1 st.h∧w1.heap=w.heap:=by
  rcases hw1 with rfl|rfl
  ·exact⟨bS.refl _ _ _ _ _,hr.hp,rfl⟩
  ·exact⟨hr.hp.drew.1,hr.hp.drew.2,rfl⟩
 obtain⟨hE,hH,hh⟩:=hd;have hA:=hH.alloc e cs vs (aE.fV hE (bY _) _ _ r) fz more hf;rw[←hcells]at hA;rw[hh]at hA;refine im hr hrun (hE.trans (bS.alloc hH.kx (fun b o=>hH.iM b o) _ [.ah w.heap.size])) ?_ hA (by simp) k;rw[au];refine⟨w.heap.size,_,c,cells.size,e,by rw[←hr.hp.len];simp,rfl,hlc,hcm,.inr rfl, ?_,by rw[hcells];simpa using hcz⟩;have hnew:(w1.alloc (.cells cells e fz)).heap[w.heap.size]?=some (.cells cells e fz):=by
  show (w1.heap.push _)[w.heap.size]?=_;rw[←hh];simp
 unfold World.shape?;rw[hnew]
theorem JJ{e:TypeId}{cs:List AV}{sz len:Nat}{vs:List Value}(hr:bX base ι S a w st)
 (hrun:(execOp a.eval o).run P w=.ok (.value (.slice (some ⟨w.heap.size,0,none⟩) len len)) (w.alloc (.cells vs.toArray e))) (r:aE ι S w cs vs)
 (hlen:vs.length=len*sz) (hcm:len≤maxLen) (k:K (.sl sz (chunks sz len cs)) st.h):cu P o base ι S a w st K:=by
 have hh:=hr.hp
 let S':ba:=fun b o=>S b o∨(b=w.heap.size∧o<vs.length)
 have hnew:(w.alloc (.cells vs.toArray e)).heap[w.heap.size]?=some (.cells vs.toArray e (0,0)):=by
  show (w.heap.push _)[w.heap.size]?=_;simp
 have hE0:bS ι.length w.heap.size ι S w ι S (w.alloc (.cells vs.toArray e)):=by simpa using bS.alloc (bY _) (fun b o=>hh.iM b o) (.cells vs.toArray e) []
 have hE:bS ι.length w.heap.size ι S w ι S' (w.alloc (.cells vs.toArray e)):=⟨hE0.pre,fun _ _ q=>.inl q,fun b o q=>q.elim .inl (fun q=>.inr (by rw[q.1];exact bY _)),hE0.cell,hE0.xj,hE0.oe⟩;have hH:cL base ι S' (w.alloc (.cells vs.toArray e)) st.h:=hh.over hE (fun b o q=>by
  show b<(w.heap.push _).size;rcases q with q|q
  ·have:=hh.iM b o q;simp;omega
  ·rw[q.1];simp)
 refine im hr hrun (hE.mono (bY _) hh.kx) ?_ hH (bY _) k;have hcl:=r.length;obtain⟨f1,f2⟩:=je sz len cs (by rw[hcl,hlen];exact bY _);have hcells:bD ι S' (w.alloc (.cells vs.toArray e)) (chunks sz len cs).flatten w.heap.size 0:=by
  rw[f1];refine bD.mk fun i c ec=>?_;have ec':cs[i]?=some c:=by
   rw[ON]at ec;split at ec
   ·exact ec
   ·cases ec
  obtain⟨v,ev,rv⟩:=r.get i c ec';have hi:=(eQ.1 ev).1;refine⟨v,by rw[aaQ,gb hnew];simpa using ev,.inr ⟨rfl,by omega⟩,au.fV hE (bY _) c v rv⟩
 rw[au];refine⟨_,len,by rw[jP],by rw[jP];exact bY _,hcm,.inr ⟨w.heap.size,0,rfl, ?_⟩⟩;exact cr.of_flat f2 hcells
theorem U5{t e:TypeId}{len:Nat}{parts:Array (Nat×Operand)}{z:AV}(hr:bX base ι S a w st)(ho:o.op=.buildSlice t len parts)(ht:P.underlying t=some (.slice e))(hz:jG P e=some z)
 (hk:(sD P e&&fT P e&&decide (len*P.cellsOf e≤16777216)&&decide (len≤16777216))=true) (h:ou e len (P.cellsOf e) z (parts.toList.map fun p=>(p.1*P.cellsOf e,P.cellsOf e,aG st.fr p.2)) st.h K):cu P o base ι S a w st K:=by
 simp only[NO,Of]at hk;obtain⟨⟨⟨hk1,hk2⟩,hk3⟩,hk4⟩:=hk;obtain⟨i,u,vs,hi,hu,rfl,euc,hvl,hce,hbe,rz⟩:=wj hk1 hz;unfold ou at h;split at h
 ·rename_i cs e';have r0:=zQ (rz ι S w) len (len*P.cellsOf e) (by rw[(rz ι S w).length,hvl,hce]);obtain⟨q1,q2⟩:=parts_eq hr (fun i=>some (i*P.cellsOf e,P.cellsOf e)) parts;obtain⟨vs',e1,r1⟩:=rN (ι:=ι) (S:=S) (w:=w) (fun i=>some (i*P.cellsOf e,P.cellsOf e)) (parts.toList.map fun p=>(p.1,aG st.fr p.2,a.eval p.2)) _ _ cs r0 (fun p hpm=>⟨q1 p hpm,rfl⟩) (by
   rw[←e',List.map_map];rfl)
  simp only[Array.toArray_toList]at e1;have hlen:vs'.length=len*P.cellsOf e:=by
   have hb:∀(ps:List (Nat×Nat×AV)) (c r:List AV),dQ c ps=some r→r.length=c.length:=by
    intro ps;induction ps with
    | nil=>intro c r h;simp only[dQ,On]at h;rw[h]
    | cons p ps ih =>
      intro c r h;obtain⟨o,n,x⟩:=p;simp only[dQ]at h;split at h
      ·rw[ih _ _ h,qv]
      ·cases h
   rw[←r1.length,hb _ _ _ e',ni,(rz ι S w).length,hvl,hce]
  have hrun:(execOp a.eval o).run P w=.ok (.value (.slice (some ⟨w.heap.size,0,none⟩) len len)) (w.alloc (.cells vs'.toArray e)):=?_
  ·split at h
   ·obtain⟨hE,hH⟩:=hr.hp.other (.cells vs'.toArray e);exact im hr hrun hE (by rw[au];exact⟨_,rfl⟩) hH (bY _) h
   ·exact w9 (more:=[]) (fz:=(0,0)) hr (.inl rfl) hrun (by simp) r1 (fun o _=>by simp) (bY _) (by unfold maxLen;omega) (by simp[hlen]) h
  simp only[execOp,ho];refine fL ?_;have hn:¬len*P.cellsOf e > 2^24:=by
   have:(2:Nat)^24=16777216:=by decide
   omega
  have hzero:(zeroValue e).run P w=.ok u w:=by simp[zeroValue,nC hi,hu]
  have hmade:madeCells vs.toArray (len*P.cellsOf e)=(Array.range (len*P.cellsOf e)).map (vs.toArray[· % vs.toArray.size]!):=rfl;simp only[Instr.buildSlice,aa4,run_underlying ht,aa3,dJ hk2,hn,if_false,aa5]
  by_cases h0:len*P.cellsOf e=0
  ·simp only[h0,if_true,aa4,aa5,aa3];have:madeCells vs.toArray (len*P.cellsOf e)=(Array.range 0).map fun x=>(#[]:Array Value)[x%(#[]:Array Value).size]!:=by
    rw[h0];apply Array.ext';simp[madeCells]
   rw[this,←q2]at e1;have e2:Instr.fill (fun i=>some (i*P.cellsOf e,P.cellsOf e)) (Array.map (fun x=>(#[]:Array Value)[x%(#[]:Array Value).size]!) (Array.range 0)) (Array.map (fun x=>(x.fst,a.eval x.snd)) parts).toList=some vs'.toArray:=e1;rw[e2];simp[newRow]
  ·simp only[h0,if_false,aa4,hzero,aa3,aa5];rw[hmade,←euc,←q2]at e1;rw[e1];simp[newRow]
 ·exact h.elim
theorem Rn{t e:TypeId}{len:Nat}{parts:Array (Nat×Operand)}{z:AV}(hr:bX base ι S a w st)(ho:o.op=.buildSlice t len parts)(ht:P.underlying t=some (.slice e))(hz:jG P e=some z)
 (hk:(sD P e&&fT P e&&decide (len*P.cellsOf e≤16777216)&&decide (len≤16777216))=true) (h:br len (P.cellsOf e) z (parts.toList.map fun p=>(p.1*P.cellsOf e,P.cellsOf e,aG st.fr p.2)) fun v=>K v st.h):cu P o base ι S a w st K:=by
 simp only[NO,Of]at hk;obtain⟨⟨⟨hk1,hk2⟩,hk3⟩,hk4⟩:=hk;obtain⟨i,u,vs,hi,hu,rfl,euc,hvl,hce,hbe,rz⟩:=wj hk1 hz;unfold br at h;split at h
 ·rename_i cs e';have r0:=zQ (rz ι S w) len (len*P.cellsOf e) (by rw[(rz ι S w).length,hvl,hce]);obtain⟨q1,q2⟩:=parts_eq hr (fun i=>some (i*P.cellsOf e,P.cellsOf e)) parts;obtain⟨vs',e1,r1⟩:=rN (ι:=ι) (S:=S) (w:=w) (fun i=>some (i*P.cellsOf e,P.cellsOf e)) (parts.toList.map fun p=>(p.1,aG st.fr p.2,a.eval p.2)) _ _ cs r0 (fun p hpm=>⟨q1 p hpm,rfl⟩) (by
   rw[←e',List.map_map];rfl)
  simp only[Array.toArray_toList]at e1;have hlen:vs'.length=len*P.cellsOf e:=by
   have hb:∀(ps:List (Nat×Nat×AV)) (c r:List AV),dQ c ps=some r→r.length=c.length:=by
    intro ps;induction ps with
    | nil=>intro c r h;simp only[dQ,On]at h;rw[h]
    | cons p ps ih =>
      intro c r h;obtain⟨o,n,x⟩:=p;simp only[dQ]at h;split at h
      ·rw[ih _ _ h,qv]
      ·cases h
   rw[←r1.length,hb _ _ _ e',ni,(rz ι S w).length,hvl,hce]
  have hrun:(execOp a.eval o).run P w=.ok (.value (.slice (some ⟨w.heap.size,0,none⟩) len len)) (w.alloc (.cells vs'.toArray e)):=?_
  ·exact JJ hr hrun r1 hlen (by unfold maxLen;omega) h
  simp only[execOp,ho];refine fL ?_;have hn:¬len*P.cellsOf e > 2^24:=by
   have:(2:Nat)^24=16777216:=by decide
   omega
  have hzero:(zeroValue e).run P w=.ok u w:=by simp[zeroValue,nC hi,hu]
  have hmade:madeCells vs.toArray (len*P.cellsOf e)=(Array.range (len*P.cellsOf e)).map (vs.toArray[· % vs.toArray.size]!):=rfl;simp only[Instr.buildSlice,aa4,run_underlying ht,aa3,dJ hk2,hn,if_false,aa5]
  by_cases h0:len*P.cellsOf e=0
  ·simp only[h0,if_true,aa4,aa5,aa3];have:madeCells vs.toArray (len*P.cellsOf e)=(Array.range 0).map fun x=>(#[]:Array Value)[x%(#[]:Array Value).size]!:=by
    rw[h0];apply Array.ext';simp[madeCells]
   rw[this,←q2]at e1;have e2:Instr.fill (fun i=>some (i*P.cellsOf e,P.cellsOf e)) (Array.map (fun x=>(#[]:Array Value)[x%(#[]:Array Value).size]!) (Array.range 0)) (Array.map (fun x=>(x.fst,a.eval x.snd)) parts).toList=some vs'.toArray:=e1;rw[e2];simp[newRow]
  ·simp only[h0,if_false,aa4,hzero,aa3,aa5];rw[hmade,←euc,←q2]at e1;rw[e1];simp[newRow]
 ·exact h.elim
theorem U3{t e:TypeId}{x y:Operand}{z:AV}(hr:bX base ι S a w st)(ho:o.op=.makeSlice t x y)(ht:P.underlying t=some (.slice e))(hz:jG P e=some z)(hk:(sD P e&&decide (0<P.cellsOf e))=true)
 (h:qO e (P.cellsOf e) (jO P e) z (aG st.fr x) (aG st.fr y) st.h K):cu P o base ι S a w st K:=by
 simp only[NO,Of]at hk;obtain⟨i,u,vs,hi,hu,rfl,euc,hvl,hce,hbe,rz⟩:=wj hk.1 hz;have hx:=hr.eval x;have hy:=hr.eval y;unfold qO at h;split at h
 ·rename_i kl l kc c e1 e2;obtain⟨⟨g1,g2,g3,g4⟩,h⟩:=h;rw[e1,cz]at hx;rw[e2,cz]at hy;have r0:=zQ (rz ι S w) c.toNat (c.toNat*P.cellsOf e) (by rw[(rz ι S w).length,hvl,hce]);have hrun:=run_make (P:=P) w t e i u ht hi hu kl kc l c g1 g2 (by rw[←hbe];exact g3) g4;refine w9 (more:=[]) (fz:=(0,0)) hr (.inl rfl) (cells:=madeCells vs.toArray (c.toNat*P.cellsOf e)) (l:=l.toNat) (c:=c.toNat) ?_ (by simp) r0 (fun o _=>by simp) (by omega) (by unfold maxLen;omega) (by simp[madeCells]) h;simp only[execOp,ho,hx,hy];refine fL ?_;rw[hrun,euc,hce]
 ·exact h.elim
omit [Laid] in
theorem C5{e:TypeId}(h:BZ P e=true):P.underlying e=some (.int .u8):=by
 unfold BZ at h;split at h
 ·assumption
 ·cases h
theorem L6{s d e:TypeId}{x:Operand}(hr:bX base ι S a w st)(ho:o.op=.convert s d x)(hs:P.underlying s=some .string)(hd:P.underlying d=some (.slice e))(he:BZ P e=true)
 (h:iP e (aG st.fr x) st.h K):cu P o base ι S a w st K:=by
 have hx:=hr.eval x;unfold iP at h;split at h
 ·rename_i l e1;rw[e1,eA]at hx;obtain⟨ev,hl⟩:=hx;have hrun:=run_bytes_of_string (P:=P) w s d e ⟨l.toArray⟩ hs hd (C5 he);have hge:=grownCap_ge w l.length 0 e;have hcm:=grownCap_le_maxLen w l.length 0 e hl;have hsz:(⟨l.toArray⟩:ByteArray).size=l.length:=by simp[ByteArray.size]
  rw[hsz]at hrun;have hrow:bytesRow ⟨l.toArray⟩ (grownCap w l.length 0 e)=((l.map fun (b:UInt8)=>Value.int .u8 b.toNat)++List.replicate (grownCap w l.length 0 e-l.length) (Value.int .u8 0)).toArray:=by
   apply Array.ext';simp[bytesRow,hsz]
  refine w9 (vs:=l.map fun (b:UInt8)=>Value.int .u8 b.toNat) (more:=List.replicate (grownCap w l.length 0 e-l.length) (Value.int .u8 0)) (fz:=((bytesRow ⟨l.toArray⟩ (grownCap w l.length 0 e)).size,(bytesRow ⟨l.toArray⟩ (grownCap w l.length 0 e)).size+1)) hr (.inr rfl) (l:=l.length) (c:=grownCap w l.length 0 e) ?_ hrow ?_ ?_ hge hcm ?_ h
  ·simp only[execOp,ho,ev];exact fL hrun
  ·refine aE.mk (by simp) fun i c v q1 q2=>?_;simp only[iN]at q1 q2;cases hl:l[i]? with
   | none=>rw[hl]at q1;cases q1
   | some b =>
     rw[hl]at q1 q2;simp only[abh,On]at q1 q2;subst q1;subst q2;simp[bg]
  ·intro o ho';rw[hrow];simp only[List.size_toArray,AT];omega
  ·simp;omega
 ·exact h.elim
omit [Laid] in
theorem OT{cs:List AV}{vs:List Value}:∀{l:List UInt8},aE ι S w cs vs→wG cs=some l→∃ns:List Int,vs=ns.map (Value.int .u8)∧l=ns.map fun n=>UInt8.ofNat n.toNat:=by
 induction cs generalizing vs with
 | nil=>intro l h e;simp at h;simp[wG]at e;subst h;subst e;exact⟨[],rfl,rfl⟩
 | cons c cs ih =>
   intro l h e;cases vs with
   | nil=>simp at h
   | cons v vs =>
     simp only[bO]at h;unfold wG at e;split at e
     ·rename_i q;cases q
     ·rename_i n r q;simp only[List.cons.injEq]at q;obtain⟨rfl,rfl⟩:=q;simp only[aaE]at e;obtain⟨l',e',rfl⟩:=e;obtain⟨ns,rfl,rfl⟩:=ih h.2 e';have:=h.1;rw[cz]at this;subst this;exact⟨n:: ns,rfl,rfl⟩
     ·cases e
omit [Laid] in
theorem foldl_push:∀(ns:List Int) (r:ByteArray),ns.foldl (fun r n=>r.push (UInt8.ofNat n.toNat)) r=⟨r.data++(ns.map fun n=>UInt8.ofNat n.toNat).toArray⟩
 | [],r=>by simp
 | n:: ns,r=>by
   simp only[List.foldl_cons,GO];rw[foldl_push ns];simp[ByteArray.push]
theorem L5{s d e:TypeId}{x:Operand}(hr:bX base ι S a w st)(ho:o.op=.convert s d x)(hs:P.underlying s=some (.slice e))(hd:P.underlying d=some .string)(he:BZ P e=true)
 (h:cJ (aG st.fr x) st.h fun v=>K v st.h):cu P o base ι S a w st K:=by
 unfold cJ at h;split at h
 ·rename_i l hl;simp only[Option.bind_eq_some_iff]at hl;obtain⟨rows,hsrc,hl⟩:=hl;obtain⟨ad,cap,vs,ev,hm,rv,hfl,hcell⟩:=Du hr.hp (hr.eval x) hsrc;rw[Nat.mul_one]at hfl;have hvl:vs.length=rows.length:=by rw[←rv.length,hfl]
  obtain⟨ns,rfl,hl'⟩:=OT rv hl;have hll:l.length=rows.length:=by rw[hl',←hvl];simp
  refine bh hr (u:=.string ⟨l.toArray⟩) ?_ (by rw[eA];exact⟨rfl,by omega⟩) h;simp only[execOp,ho,ev];refine fL ?_;rw[run_convert_bytes_string w s d e ad rows.length cap hs (C5 he) hd];rcases hcell with⟨rfl,hv,_⟩|⟨b,rfl,hcell⟩
  ·have:ns=[]:=by simpa using hv
   subst this;simp only[List.map_nil]at hl';subst hl';rfl
  ·have hload:(loadCells b rows.length).run P w=.ok (ns.map (Value.int .u8)).toArray w:=by
    rw[←hvl];exact run_loadCells_list (P:=P) w b _ hcell
   rw[run_bytesToString w b rows.length cap ns hload,foldl_push,←hl',show ByteArray.empty.data=#[] from rfl,Array.empty_append]
 ·exact h.elim
end
section
variable {P:Program} {o:Oper} {base:Nat} {ι:List Ix} {S:ba} {a:Act} {w:World} {st:St} {K:AV→aa→Prop}
theorem Wl{t:TypeId}{x:Operand}(hr:bX base ι S a w st)(ho:o.op=.makeInterface t x)(hc:P.concrete t=true)(h:oZ t (aG st.fr x) fun v=>K v st.h):cu P o base ι S a w st K:=by
 refine bh hr (u:=.iface t (a.eval x)) ?_ ?_ h
 ·simp only[execOp,ho];exact fL (run_makeInterface w t _ hc)
 ·rw[au];exact⟨_,rfl,hr.eval x⟩
theorem Wc{xT asserted:TypeId}{x:Operand}(hr:bX base ι S a w st)(ho:o.op=.typeAssert x xT asserted true)(h:zC (EY P asserted) (aG st.fr x) fun v=>K v st.h):cu P o base ι S a w st K:=by
 have hx:=hr.eval x;unfold zC at h;split at h
 ·rename_i t v e;rw[e]at hx;have hx':=hx;rw[au]at hx;obtain⟨u,ev,r⟩:=hx;obtain⟨hh,h⟩:=h;unfold EY at hh;split at hh
  ·rename_i want i hu hi;refine bh hr (u:=.tuple #[.iface t u,.bool true]) ?_ ?_ h
   ·simp only[execOp,ho,ev];exact fL (run_typeAssert_has hu hi (List.isEmpty_iff.1 hh))
   ·rw[au];refine⟨[.iface t u,.bool true],by simp, ?_⟩;rw[ev]at hx';simp[hx']
  ·cases hh
 ·exact h.elim
omit [Laid] in
theorem FV{name:String}{t:TypeId}{f:FuncId}(v:Value)(h:pd P name t=some f):dr P f=true∧(method (P.types.size+Made.depth) t v name).run P w=.ok (f,v) w∧(nilAhead (P.types.size+Made.depth) t v name).run P w=.ok (some false) w:=by
 unfold pd at h;split at h
 ·rename_i i e hi hu;split at h
  ·rename_i m hm;split at h
   ·rename_i g hp hf;split at h
    ·rename_i hb;cases h;have hpath:m.path.toList=[]:=hp;obtain⟨d,hd⟩:∃d,P.types.size+Made.depth=d+1:=Nat.exists_eq_succ_of_ne_zero (by have:0<Made.depth:=(by decide);show P.types.size+Made.depth≠0;exact Nat.ne_of_gt (Up this (Nat.le_add_left _ _)));refine⟨hb, ?_, ?_⟩
     ·rw[hd];simp only[method,aa4,nC hi,aa3,hm,hpath,follow,aa5,hf,receiverAt,run_underlying hu,Place.get]
     ·rw[hd];simp only[nilAhead,aa4,nC hi,aa3,hm,hpath,followBlind,aa5,hf]
    ·cases h
   ·cases h
  ·cases h
 ·cases h
theorem U6{x:Operand}(hr:bX base ι S a w st)(ho:o.op=.nilCheck x)(h:ca P (aG st.fr x) fun v=>K v st.h):cu P o base ι S a w st K:=by
 have hx:=hr.eval x;unfold ca at h;split at h
 ·rename_i name t v r ys e;rw[e]at hx;have hx':=hx;rw[au]at hx;obtain⟨vs,us,ev,r1,r2⟩:=hx;obtain⟨hm,h⟩:=h;obtain⟨f,hf⟩:=Option.isSome_iff_exists.1 hm;cases vs with
  | nil=>simp at r1
  | cons y vs =>
    simp only[bO]at r1;have ry:=r1.1;rw[au]at ry;obtain⟨u,rfl,_⟩:=ry;refine bh hr (u:=a.eval x) ?_ hx' h;obtain⟨_,_,hn⟩:=FV (w:=w) u hf;simp only[execOp,ho,ev];simp only[List.getElem?_toArray,List.getElem?_cons_zero,aa4,run_program,aa3,hn];simp
 ·rename_i e _;exact Wn hr ho h
theorem Wg{c:Call}{x:Operand}{name:String}(hr:bX base ι S a w st)(ho:o.op=.call c)(hc:c.callee=.invoke x name)(h:wV P (pd P name) (aG st.fr x) (c.args.toList.map (aG st.fr)) st.h K):cu P o base ι S a w st K:=by
 have hv:=hr.eval x;unfold wV at h;split at h
 ·rename_i t y e;split at h
  ·rename_i f hf;rw[e,au]at hv;obtain⟨v,ev,rv⟩:=hv;obtain⟨hb,hm,_⟩:=FV (w:=w) v hf;obtain⟨fn,hfn,hb⟩:∃fn,P.funcs[f]?=some fn∧(fn.body.isSome&&fn.name != "runtime.NumGoroutine")=true:=by
    unfold dr at hb;cases hq:P.funcs[f]? with
    | none=>rw[hq]at hb;cases hb
    | some fn=>rw[hq]at hb;exact⟨fn,rfl,hb⟩
   simp only[NO,bne_iff_ne,ne_eq]at hb;have hargs:aE ι S w (y:: c.args.toList.map (aG st.fr)) (v:: c.args.toList.map a.eval):=by simpa using⟨rv,aE.JA hr _⟩
   have hrun:(execOp a.eval o).run P w=.ok (.enter f (v:: c.args.toList.map a.eval).toArray) w:=by
    have e2:#[v]++(#[Value.iface t v]++c.args.map a.eval).extract 1 (#[Value.iface t v]++c.args.map a.eval).size=(v:: c.args.toList.map a.eval).toArray:=by
     apply Array.ext';simp;rw[MK (by simp)]
    have e3:(#[Value.iface t v]++c.args.map a.eval)[0]?=some (.iface t v):=by
     rw[Array.getElem?_append_left (by simp)];rfl
    have hne:(fn.name == "runtime.NumGoroutine")=false:=by simpa using hb.2
    have hbn:fn.body.isNone=false:=by cases hbb:fn.body<;>simp_all
    simp only[execOp,ho,resolve,hc,aa4,ev,aa5,aa3,invoke,e3,callMethod,run_program,hm,e2,callFunc,hfn,hne,hbn,aaJ,if_false]
   intro Q;unfold Oper.wp;rw[hrun,Oper.upon_enter];refine (h base ι S w _ hargs hr.hp).mono ?_;rintro e w' ⟨v,ι',S',r,h',rfl,hE,rv,hH,hl,k⟩;refine⟨ι',S',r,h', ?_, ?_,hl,k⟩
   ·rw[hr.hp.len];exact hE
   ·have:bX base ι' S' a w' ⟨st.n,st.fr,h'⟩:=⟨hr.df,hr.sz,dC.fV hE (by rw[hr.hp.len];exact bY _) hr.fr,hH⟩;exact this.put o.dst rv
  ·exact h.elim
 ·exact h.elim
theorem yk{neg b:Bool}{t yt:TypeId}{x y:Operand}(hr:bX base ι S a w st)(ho:o.op=.binOp (if neg then .neq else .eql) t x y yt)
 (hg:(eqGuard (if neg then .neq else .eql) t x y (a.eval x) (a.eval y)).run P w=.ok () w) (hb:(binOp (if neg then .neq else .eql) t (a.eval x) (a.eval y)).run P w=.ok (.bool (rW neg b)) w) (k:K (b_ (rW neg b)) st.h):cu P o base ι S a w st K:=by
 refine bh hr (u:=.bool (rW neg b)) ?_ (by simp) k;simp only[execOp,ho];refine fL ?_;rw[aa4,hg];simp only[aa3];exact hb
omit [Laid] in
theorem Bu{neg b:Bool}{t:TypeId}{x y:Value}(h:(Op.equal t x y).run P w=.ok b w)(hx:(∃p,x=.pointer p)∨∃p l c,x=.slice p l c):(binOp (if neg then .neq else .eql) t x y).run P w=.ok (.bool (rW neg b)) w:=by
 rcases hx with⟨p,rfl⟩|⟨p,l,c,rfl⟩<;>cases neg<;>simp[binOp,h,rW]
theorem L4{neg:Bool}{t yt:TypeId}{x y:Operand}{d:TypeDesc}(hr:bX base ι S a w st)(ho:o.op=.binOp (if neg then .neq else .eql) t x y yt)(ht:P.underlying t=some d)
 (h:xN neg d y (aG st.fr x) fun v=>K v st.h):cu P o base ι S a w st K:=by
 have hx:=hr.eval x;unfold xN at h;split at h
 ·rename_i ms;have hm:P.underlying t=some (.interface (P.methodsAt t)):=by unfold Program.methodsAt;rw[ht]
  have hy:a.eval (.const .nilIface)=.nilIface:=rfl;unfold kB at h;split at h
  ·rename_i b hb;unfold vu at hb;split at hb
   ·rename_i e;cases hb;rw[e,cz]at hx;refine yk (b:=true) hr ho ?_ ?_ h
    ·rw[hx,hy];cases neg<;>cases x<;>rfl
    ·rw[hx,hy];cases neg with
     | true=>exact run_neq_nil_nil w t hm
     | false=>exact run_eql_nil_nil w t hm
   ·rename_i u z e;cases hb;rw[e,au]at hx;obtain⟨v,hx,_⟩:=hx;refine yk (b:=false) hr ho ?_ ?_ h
    ·rw[hx,hy];cases neg<;>rfl
    ·rw[hx,hy];cases neg with
     | true=>exact run_neq_held_nil w t u v hm
     | false=>exact run_eql_held_nil w t u v hm
   ·cases hb
  ·exact h.elim
 ·rename_i el;have hy:a.eval (.const (.pointer none))=.pointer none:=rfl;have fin:∀(p:Option Addr),a.eval x=.pointer p→K (b_ (rW neg p.isNone)) st.h→cu P o base ι S a w st K:=by
   intro p hv k;have he:(Op.equal t (.pointer p) (.pointer none)).run P w=.ok p.isNone w:=by
    have:∀d,(Op.equalIn (d+1) t (.pointer p) (.pointer none)).run P w=.ok p.isNone w:=fun d=>by cases p<;>simp[Op.equalIn,run_underlying ht]
    exact this 9999
   refine yk (b:=p.isNone) hr ho ?_ ?_ k
   ·rw[hv,hy];exact jV rfl (by intro q;cases q)
   ·rw[hv,hy];exact Bu he (.inl ⟨_,rfl⟩)
  unfold kB at h;split at h
  ·rename_i b hb;unfold tp at hb;split at hb
   ·rename_i e;cases hb;rw[e,cz]at hx;exact fin none hx h
   ·rename_i e;cases hb;rw[e,au]at hx;obtain⟨b,_,hx⟩:=hx;exact fin (some _) hx h
   ·rename_i e;cases hb;rw[e,au]at hx;obtain⟨b,off,hx,_⟩:=hx;exact fin (some _) hx h
   ·cases hb
  ·exact h.elim
 ·rename_i el l0 c0;have hy:a.eval (.const (.slice none l0 c0))=.slice none l0 c0:=rfl;have fin:∀(p:Option Addr) (l c:Nat),a.eval x=.slice p l c→K (b_ (rW neg p.isNone)) st.h→cu P o base ι S a w st K:=by
   intro p l c hv k;have he:(Op.equal t (.slice p l c) (.slice none l0 c0)).run P w=.ok p.isNone w:=by
    have:∀d,(Op.equalIn (d+1) t (.slice p l c) (.slice none l0 c0)).run P w=.ok p.isNone w:=fun d=>by cases p<;>simp[Op.equalIn,run_underlying ht]
    exact this 9999
   refine yk (b:=p.isNone) hr ho ?_ ?_ k
   ·rw[hv,hy];exact jV rfl (by intro q;cases q)
   ·rw[hv,hy];exact Bu he (.inr ⟨_,_,_,rfl⟩)
  unfold kB at h;split at h
  ·rename_i b hb;unfold vv at hb;split at hb
   ·rename_i e;cases hb;rw[e,cz]at hx;exact fin none _ _ hx h
   ·rename_i id off len sz e;split at hb
    ·cases hb
    ·cases hb;rw[e,au]at hx;obtain⟨bb,p,cap,n,ty,_,ev,c2,_,c4,_⟩:=hx;rcases c4 with c4|c4
     ·omega
     ·subst c4;exact fin (some _) _ _ ev h
   ·rename_i sz rows e;split at hb
    ·cases hb
    ·cases hb;rw[e,au]at hx;obtain⟨p,cap,ev,_,_,c3⟩:=hx;rcases c3 with c3|⟨bb,off,rfl,_⟩
     ·cases c3
     ·exact fin (some _) _ _ ev h
   ·rename_i id sz rows e;split at hb
    ·cases hb
    ·cases hb;rw[e,au]at hx;obtain⟨⟨p,cap,ev,_,_,c3⟩,_⟩:=hx;rcases c3 with c3|⟨bb,off,rfl,_⟩
     ·cases c3
     ·exact fin (some _) _ _ ev h
   ·cases hb
  ·exact h.elim
 ·exact h.elim
end
section
variable {P:Program} {o:Oper} {base:Nat} {ι:List Ix} {S:ba} {a:Act} {w:World} {st:St} {K:AV→aa→Prop}
theorem Pz{op:BinOp}{neg:Bool}{t yt:TypeId}{x y:Operand}{ks:List Nat}(hr:bX base ι S a w st)(ho:o.op=.binOp op t x y yt)(hop:op=(if neg then .neq else .eql))(hg:P.eqGuardType P.depth t=false)
 (hagg:fx P t=true) (hks:mF P 8 t=some ks) (h:lW neg ks (aG st.fr x) (aG st.fr y) fun v=>K v st.h):cu P o base ι S a w st K:=by
 have hx:=hr.eval x;have hy:=hr.eval y;unfold lW at h;split at h
 ·rename_i xs ys e1 e2;rw[e1,au]at hx;rw[e2,au]at hy;obtain⟨vs,ex,rx⟩:=hx;obtain⟨us,ey,ry⟩:=hy;split at h
  ·rename_i b eb;have key:=KW (P:=P) (w:=w) 8 t ks hks 10000 (by omega) xs ys vs us b rx ry eb;simp only[ia,hagg,if_true]at key;have hgu:(eqGuard op t x y (.agg vs.toArray) (.agg us.toArray)).run P w=.ok () w:=run_eqGuard_agg w op t x y _ _ hg;refine bh hr (u:=.bool (if neg then !b else b)) ?_ (by simp) h;simp only[execOp,ho,ex,ey];refine fL ?_;rw[aa4,hgu];simp only[aa3];cases neg with
   | true=>subst hop;simp only[if_true,run_neq_struct,key,aa3]
   | false=>subst hop;simp only[aaJ,if_false,run_eql_struct,key,aa3]
  ·exact h.elim
 ·exact h.elim
omit [Laid] in
theorem aZ{b:Bool}{X:Prop}(h:cM b X):b=true∧X:=by
 cases b with
 | true=>exact⟨rfl,h⟩
 | false=>exact h.elim
theorem oE{own:Bool}(hr:bX base ι S a w st)(h:bE P own (aG st.fr) st.h o.op K):cu P o base ι S a w st K:=by
 generalize ho:o.op=op at h;unfold bE at h;split at h
 ·exact L3 hr (.inl ho) h
 ·exact L3 hr (.inr ho) h
 ·exact U7 hr ho h
 ·rename_i bop t x y yt;split at h
  ·rename_i hagg;split at h
   ·obtain⟨hg,h⟩:=aZ h;have hg:P.eqGuardType P.depth t=false:=by simpa using hg
    split at h
    ·rename_i ks hks;exact Pz (neg:=false) hr ho rfl hg hagg hks h
    ·exact h.elim
   ·obtain⟨hg,h⟩:=aZ h;have hg:P.eqGuardType P.depth t=false:=by simpa using hg
    split at h
    ·rename_i ks hks;exact Pz (neg:=true) hr ho rfl hg hagg hks h
    ·exact h.elim
   ·exact h.elim
  ·split at h
   ·rename_i ht;exact UR hr ho ht h
   ·exact Py hr ho h
   ·exact Py hr ho h
   ·rename_i ht;split at h
    ·exact L4 (neg:=false) hr ho ht h
    ·exact L4 (neg:=true) hr ho ht h
    ·exact h.elim
   ·exact h.elim
 ·exact Wo hr ho h
 ·exact Wm hr ho h
 ·split at h
  ·exact We hr ho h
  ·exact h.elim
 ·split at h
  ·rename_i hs hd;exact UT hr ho hs hd h
  ·rename_i hs hd;unfold A6 at h;split at h
   ·rename_i e;exact Rl hr ho hs hd ⟨_,e,h⟩
   ·exact h.elim
  ·rename_i hs hd;exact L6 hr ho hs hd (aZ h).1 (aZ h).2
  ·rename_i hs hd;exact L5 hr ho hs hd (aZ h).1 (aZ h).2
  ·exact h.elim
 ·exact UU hr ho h
 ·split at h
  ·rename_i ht;split at h
   ·rename_i hf;exact Rm hr ho ht hf (aZ h).1 (aZ h).2
   ·exact h.elim
  ·exact h.elim
 ·split at h
  ·rename_i ht;exact U0 hr ho ht h
  ·rename_i ht;exact UX hr ho ht (aZ h).1 (aZ h).2
  ·exact h.elim
 ·split at h
  ·rename_i ht;exact Wq hr ho ht h
  ·rename_i ht;exact ZW hr ho ht (aZ h).1 (aZ h).2
  ·rename_i ht;exact Wp hr ho ht (aZ h).1 (aZ h).2
  ·exact h.elim
 ·split at h
  ·rename_i ht;exact UY hr ho ht (aZ h).1 (aZ h).2
  ·rename_i ht;exact UZ hr ho ht (aZ h).1 (aZ h).2
  ·exact h.elim
 ·split at h
  ·rename_i ht;split at h
   ·rename_i hf;obtain⟨hq,h⟩:=aZ h;simp only[NO,bne_iff_ne,ne_eq]at hq;exact Wf hr ho ht hf hq.1 hq.2 h
   ·exact h.elim
  ·exact h.elim
 ·exact U6 hr ho h
 ·exact Wl hr ho (aZ h).1 (aZ h).2
 ·exact Wc hr ho h
 ·exact U2 hr ho (aZ h).1 (aZ h).2
 ·exact Ro hr ho (aZ h).1 (aZ h).2
 ·split at h
  ·rename_i hz;exact Rj hr ho hz h
  ·exact h.elim
 ·exact Wd hr ho h
 ·split at h
  ·rename_i ht hz;obtain⟨hq,h⟩:=aZ h;simp only[NO]at hq;exact Oy hr ho ht hz hq.1 hq.2 h
  ·rename_i ht hz;exact Ox hr ho ht hz (aZ h).1 (aZ h).2
  ·exact h.elim
 ·split at h
  ·rename_i ht;split at h
   ·rename_i hz;cases own with
    | true=>exact Rn hr ho ht hz (aZ h).1 (aZ h).2
    | false=>exact U5 hr ho ht hz (aZ h).1 (aZ h).2
   ·exact h.elim
  ·exact h.elim
 ·split at h
  ·rename_i ht;split at h
   ·rename_i hz;exact U3 hr ho ht hz (aZ h).1 (aZ h).2
   ·exact h.elim
  ·exact h.elim
 ·exact UW hr ho h
 ·rename_i c;split at h
  ·rename_i hc;split at h
   ·rename_i hat hax;split at h
    ·rename_i ht;exact U1 hr ho hc hat hax ht h
    ·rename_i ht;exact Wh hr ho hc hat hax ht h
    ·exact h.elim
   ·exact h.elim
  ·rename_i hc;split at h
   ·rename_i hax;exact Wj hr ho hc hax h
   ·exact h.elim
  ·rename_i hc;split at h
   ·rename_i hax;exact Wi hr ho hc hax h
   ·rename_i hax;exact U4 hr ho hc hax h
   ·exact h.elim
  ·rename_i hc;split at h
   ·rename_i hat hax;split at h
    ·rename_i ht htx;exact Wb hr ho hc hat hax ht htx (aZ h).1 (aZ h).2
    ·rename_i ht htx;obtain⟨hq,h⟩:=aZ h;simp only[NO,beq_iff_eq]at hq;exact UQ hr ho hc hat hax ht htx hq.1 hq.2 h
    ·exact h.elim
   ·exact h.elim
  ·rename_i hc;unfold bz at h;split at h
   ·rename_i hx;exact US hr ho hc hx h.1 h.2
   ·exact h.elim
  ·rename_i hc;exact Wg hr ho hc h
  ·exact h.elim
 ·exact h.elim
end
/-! ### Operations in a row -/
omit [Laid] in
theorem fJ{fr:Fr}{d:Option Tmp}{t:Nat}(hd:∀e,d=some e→e≠t):bA (bN n fr d x) t=bA fr t:=by
 unfold bN;split
 ·rename_i e;split
  ·rw[fI,if_neg (hd e rfl)]
  ·rfl
 ·rfl
theorem oL{a:Act}(hr:bX base ι S a w st){j d:Nat}(h1:eJ ops j=some d):
 (∀b,bA st.fr d=.v (.bool b)→yielded ops a.tmps j=some b)∧(bA st.fr d=.v undef→yielded ops a.tmps j=none):=by
 have r:=hr.get d;unfold eJ at h1;unfold yielded;rw[h1];simp only[Option.bind_some];constructor
 ·intro b e;rw[e,cz,Array.getD_eq_getD_getElem?]at r;cases hv:a.tmps[d]? with
  | none=>rw[hv]at r;cases r
  | some v=>rw[hv]at r;simp only[Option.getD_some]at r;subst r;rfl
 ·intro e;rw[e,cz,Array.getD_eq_getD_getElem?]at r;cases hv:a.tmps[d]? with
  | none=>rfl
  | some v=>rw[hv]at r;simp only[Option.getD_some]at r;subst r;rfl
omit [Laid] in
theorem nF{o:Oper}{a:Act}{K K':Act→World→Prop}{Q Q':Exit→Act→World→Prop}(h1:∀a w,K a w→K' a w)(h2:∀e a w,Q e a w→Q' e a w)(h:o.wp P a w K Q):o.wp P a w K' Q':=by
 unfold Oper.wp at *;generalize (execOp a.eval o).run P w=r at *;unfold Oper.upon at *;split at h
 ·exact h1 _ _ h
 ·exact h1 _ _ h
 ·exact h1 _ _ h
 ·exact h.mono fun e w' k=>by
   cases e with
   | returned v=>exact h1 _ _ k
   | panicked ch=>exact h2 _ _ _ k
   | outgrown=>obtain⟨a0,w0,k⟩:=k;exact⟨a0,w0,h2 _ _ _ k⟩
 ·exact h.mono fun v w' k=>h1 _ _ k
 ·exact h2 _ _ _ h
 ·exact h.elim
omit [Laid] in
theorem qX{P:Program}{ops:Array Oper}{Q Q':Exit→Act→World→Prop}(hq:∀e a w,Q e a w→Q' e a w):∀(l:List Nat) (a:Act) (w:World),wpOps P ops Q l a w→wpOps P ops Q' l a w
 | [],a,w,h=>hq _ _ _ h
 | i:: l,a,w,h=>by
   simp only[wpOps]at *;cases ho:ops[i]? with
   | none=>rw[ho]at h;exact qX hq l a w h
   | some o =>
     rw[ho]at h;simp only at *;split
     ·rename_i hw;rw[if_pos hw]at h;rcases h with h|⟨h,a0,w0,k⟩
      ·exact .inl (nF (fun a w=>qX hq l a w) hq h)
      ·exact .inr ⟨h,a0,w0,hq _ _ _ k⟩
     ·rename_i hw;rw[if_neg hw]at h;exact qX hq l _ w h
def nx(s:List AV)(k:Nat):AV:=s.getD k .any
def dV(fr:Fr)(l:List Nat):List AV:=l.map (bA fr)
def mW(fr:Fr):List Nat→List AV→Nat→Fr
 | [],_,_=>fr
 | t:: ts,s,k=>mW (eU fr t (nx s k)) ts s (k+1)
def aw(k:(List AV→aa→Prop)→Prop)(f:List AV→aa→Prop):Prop:=k f
def jmp(cs ms:List Nat)(fr fr':Fr)(h':aa)(J:List AV→aa→Prop):Prop:=
 match cs with
 | []=>J (dV fr' ms) h'
 | c:: cs=>dV fr' (c:: cs)=dV fr (c:: cs)∧J (dV fr' ms) h'
omit [Laid] in
theorem rk{h':aa}{J:List AV→aa→Prop}(h:jmp cs ms fr fr' h' J):dV fr' cs=dV fr cs∧J (dV fr' ms) h':=by
 cases cs with
 | nil=>exact⟨rfl,h⟩
 | cons c cs=>exact h
def join(cs ms:List Nat)(fr:Fr)(s:List AV):Fr:=mW (jS cs fr) ms s 0
inductive cW where
 | op (i:Nat) (own:Bool)
 | aD (j:Nat) (want:Bool) (l:List (Nat×Bool)) (cs ms:List Nat)
def cW.ix:cW→List Nat
 | .op i _=>[i]
 | .aD _ _ l _ _=>l.map (·.1)
section
variable (P:Program) (ops:Array Oper)
def DZ:List (Nat×Bool)→St→(St→Prop)→Prop
 | [],st,K=>K st
 | (i,own):: r,st,K=>match ops[i]? with
  | some o=>bE P own (aG st.fr) st.h o.op fun v h=>DZ r (xi st o.dst v h) K
  | none=>False
def Dh:List (Nat×Bool)→St→St
 | [],st=>st
 | (i,_):: r,st=>match ops[i]? with
  | some o=>Dh r (xi st o.dst (.v undef) st.h)
  | none=>Dh r st
def kR:List cW→St→(St→Prop)→Prop
 | [],st,K=>K st
 | .op i own:: r,st,K=>(match ops[i]? with
   | some o=>bE P own (aG st.fr) st.h o.op fun v h=>kR r (xi st o.dst v h) K
   | none=>False)
 | .aD j want l cs ms:: r,st,K=>(match eJ ops j with
   | some d=>aw (fun J=>ar (bA st.fr d) want (DZ P ops l ⟨st.n,eU st.fr d (.v (.bool want)),st.h⟩ fun st' => jmp cs ms st.fr st'.fr st'.h J)
    (jmp cs ms st.fr (Dh ops l ⟨st.n,eU st.fr d (aN want (bA st.fr d)),st.h⟩).fr st.h J)) fun s h=>kR r ⟨st.n,join cs ms st.fr s,h⟩ K
   | none=>False)
def lI:cW→Bool
 | .op i _=>match ops[i]? with|some o=>o.guard.isNone|none=>false
 | .aD j want l _ _=>match eJ ops j with
   | some d=>l.all (fun p=>match ops[p.1]? with|some o=>o.guard == some (j,want)|none=>false)&&(l.dropLast).all (fun p=>match ops[p.1]? with|some o=>o.dst != some d|none=>false)
   | none=>false
def L7(l:List cW):Bool:=l.all (lI ops)&&(l.map cW.ix).flatten == List.range ops.size
end
omit [Laid] in
theorem DR(ops:Array Oper):∀(l:List (Nat×Bool)) (st:St),(Dh ops l st).h=st.h∧(Dh ops l st).n=st.n
 | [],st=>⟨rfl,rfl⟩
 | (i,own):: l,st=>by
  unfold Dh;split
  ·exact DR ops l _
  ·exact DR ops l _
omit [Laid] in
theorem dC.mW{ι:List Ix}{S:ba}{w:World}{tmps:Array Value}:∀(ms:List Nat) (fr:Fr) (s:List AV) (k:Nat),dC ι S w fr tmps→(∀i t,ms[i]?=some t→au ι S w (nx s (k+i)) (tmps.getD t undef))→dC ι S w (Aw.mW fr ms s k) tmps
 | [],fr,s,k,h,_=>h
 | t:: ts,fr,s,k,h,hs=>by
   rw[Aw.mW];refine dC.mW ts _ s (k+1) (dC.Dl h (by simpa using hs 0 t rfl)) fun i u e=>?_;have:=hs (i+1) u (by simpa using e);rw[show k+1+i=k+(i+1) by omega];exact this
omit [Laid] in
theorem DA{fr fr':Fr}:∀{cs:List Nat},dV fr' cs=dV fr cs→∀t∈cs,bA fr' t=bA fr t
 | [],_,_,h=>by cases h
 | c:: cs,e,t,h=>by
   simp only[dV,GO,List.cons.injEq]at e;rcases ID.1 h with rfl|h
   ·exact e.1
   ·exact DA (cs:=cs) e.2 t h
omit [Laid] in
theorem nr:∀(fB:List Nat) (fr:Fr) (t:Nat),bA (jS fB fr) t=.any∨(t∈fB∧bA (jS fB fr) t=bA fr t)
 | [],fr,t=>.inl rfl
 | k:: r,fr,t=>by
   simp only[jS,GO,bA];split
   ·rename_i h;subst h;exact .inr ⟨aa9 ..,rfl⟩
   ·rcases nr r fr t with q|⟨q1,q2⟩
    ·exact .inl q
    ·exact .inr ⟨Lt _ q1,q2⟩
omit [Laid] in
theorem dC.fB{tmps:Array Value}{cs:List Nat}(h:dC ι S w fr' tmps)(e:dV fr' cs=dV fr cs):dC ι S w (jS cs fr) tmps:=by
 intro t;rcases nr cs fr t with q|⟨q1,q2⟩
 ·rw[q];simp
 ·rw[q2,←DA e t q1];exact h t
omit [Laid] in
theorem Q4(fr:Fr)(ms:List Nat)(i t:Nat)(e:ms[i]?=some t):nx (dV fr ms) i=bA fr t:=by
 unfold nx dV;rw[nE,iN,e];rfl
omit [Laid] in
theorem dC.join{ι:List Ix}{S:ba}{w:World}{tmps:Array Value}{fr fr':Fr}{cs ms:List Nat}(h:dC ι S w fr' tmps)(e:dV fr' cs=dV fr cs):dC ι S w (Aw.join cs ms fr (dV fr' ms)) tmps:=
 dC.mW ms _ _ 0 (h.fB e) fun i t q=>by rw[aaQ,Q4 fr' ms i t q];exact h t
section
variable {P:Program} {ops:Array Oper} {m:Nat} {Q:Exit→St→Prop}
theorem DB{own:Bool}{i:Nat}{o:Oper}{l:List Nat}{K:St→Prop}(ho:ops[i]?=some o){base:Nat}{ι:List Ix}{S:ba}{a:Act}{w:World}{st:St}(hm:m≤st.h.length)(hr:bX base ι S a w st)
 (hw:Region.wanted o (yielded ops a.tmps)=true) {K':AV→aa→Prop} (h:bE P own (aG st.fr) st.h o.op K')
 (next:∀v h' ι' S' a' w',K' v h'→m≤h'.length→bX base ι' S' a' w' (xi st o.dst v h')→wpOps P ops (dv m base ι' S' w' (iO K Q)) l a' w') :
 wpOps P ops (dv m base ι S w (iO K Q)) (i:: l) a w:=by
 simp only[wpOps,ho];rw[if_pos hw];left;have:=oE (P:=P) (o:=o) (a:=a) hr h (dv m base ι S w (iO K Q));refine nF (fun a' w' k=>?_) (fun _ _ _ k=>k) this;obtain⟨ι',S',v,h2,hE,hR,hl,hk⟩:=k;refine qX (fun e a w k=>?_) l a' w' (next v h2 ι' S' a' w' hk (by omega) hR);exact dv.trans (hE.mono (by rw[hr.hp.len];exact hm) (bY _)) k
theorem OW{i:Nat}{o:Oper}{l:List Nat}{K:St→Prop}(ho:ops[i]?=some o){base:Nat}{ι:List Ix}{S:ba}{a:Act}{w:World}{st:St}(hr:bX base ι S a w st)
 (hw:Region.wanted o (yielded ops a.tmps)=false) (next:bX base ι S (a.put o.dst undef) w (xi st o.dst (.v undef) st.h)→wpOps P ops (dv m base ι S w (iO K Q)) l (a.put o.dst undef) w) :
 wpOps P ops (dv m base ι S w (iO K Q)) (i:: l) a w:=by
 simp only[wpOps,ho];rw[hw];simp only[aaJ,if_false];exact next (hr.put (x:=.v undef) (v:=undef) o.dst (by simp))
omit [Laid] in
theorem zo{o:Oper}{j:Nat}{want:Bool}{tmps:Array Value}(hg:o.guard=some (j,want)):Region.wanted o (yielded ops tmps)=(yielded ops tmps j == some want):=by simp[Region.wanted,hg]
omit [Laid] in
theorem C1{st:St}{d:Option Tmp}{x:AV}{h:aa}{t:Nat}(hd:d≠some t):bA (xi st d x h).fr t=bA st.fr t:=by
 unfold xi;exact fJ fun e he q=>hd (by rw[he,q])
theorem IA{j d:Nat}{want:Bool}(hd:eJ ops j=some d){K:St→Prop}{rest:List Nat}:∀(l:List (Nat×Bool)) (base:Nat) (ι:List Ix) (S:ba) (a:Act) (w:World) (st:St) (K':St→Prop),
 l.all (fun p=>match ops[p.1]? with|some o=>o.guard == some (j,want)|none=>false)=true→(l.dropLast).all (fun p=>match ops[p.1]? with|some o=>o.dst != some d|none=>false)=true →
 m≤st.h.length→bX base ι S a w st→(l≠[]→bA st.fr d=.v (.bool want))→DZ P ops l st K' →
 (∀st' ι' S' a' w',K' st'→m≤st'.h.length→st'.n=st.n→bX base ι' S' a' w' st'→wpOps P ops (dv m base ι' S' w' (iO K Q)) rest a' w') →
 wpOps P ops (dv m base ι S w (iO K Q)) (l.map (·.1)++rest) a w
 | [],base,ι,S,a,w,st,K',_,_,hm,hr,_,h,next=>next st ι S a w h hm rfl hr
 | (i,own):: l,base,ι,S,a,w,st,K',hgs,hds,hm,hr,hc,h,next=>by
  simp only[aa2,NO]at hgs;obtain⟨hg,hgs⟩:=hgs;simp only[DZ]at h;cases ho:ops[i]? with
  | none=>rw[ho]at h;exact h.elim
  | some o =>
    simp only[ho,beq_iff_eq]at hg h;simp only[GO,abg];have hy:=(oL hr hd).1 want (hc (by simp));refine DB ho hm hr (by rw[zo hg,hy];simp) h fun v h' ι' S' a' w' k hm' hr' => ?_;refine IA hd l base ι' S' a' w' _ K' hgs ?_ hm' hr' (fun hne=>?_) k (fun st' ι2 S2 a2 w2 k2 m2 n2 r2=>next st' ι2 S2 a2 w2 k2 m2 (by rw[n2];rfl) r2)
    ·cases l with
     | nil=>rfl
     | cons p l=>simp only[List.dropLast_cons_cons,aa2,NO]at hds;exact hds.2
    ·cases l with
     | nil=>exact absurd rfl hne
     | cons p l =>
       simp only[List.dropLast_cons_cons,aa2,NO,ho,bne_iff_ne,ne_eq]at hds;rw[C1 hds.1];exact hc (by simp)
theorem xm{j d:Nat}{want:Bool}(hd:eJ ops j=some d){K:St→Prop}{rest:List Nat}:∀(l:List (Nat×Bool)) (base:Nat) (ι:List Ix) (S:ba) (a:Act) (w:World) (st:St),
 l.all (fun p=>match ops[p.1]? with|some o=>o.guard == some (j,want)|none=>false)=true→(l.dropLast).all (fun p=>match ops[p.1]? with|some o=>o.dst != some d|none=>false)=true →
 bX base ι S a w st→(l≠[]→bA st.fr d=.v (.bool (!want))∨bA st.fr d=.v undef) →
 (∀a',bX base ι S a' w (Dh ops l st)→wpOps P ops (dv m base ι S w (iO K Q)) rest a' w) →
 wpOps P ops (dv m base ι S w (iO K Q)) (l.map (·.1)++rest) a w
 | [],base,ι,S,a,w,st,_,_,hr,_,next=>next a hr
 | (i,own):: l,base,ι,S,a,w,st,hgs,hds,hr,hc,next=>by
  simp only[aa2,NO]at hgs;obtain⟨hg,hgs⟩:=hgs;simp only[Dh]at next
  cases ho:ops[i]? with
  | none=>simp only[ho]at hg;cases hg
  | some o =>
    simp only[ho,beq_iff_eq]at hg next
    simp only[GO,abg];have hw:Region.wanted o (yielded ops a.tmps)=false:=by
     rw[zo hg];rcases hc (by simp) with q|q
     ·rw[(oL hr hd).1 _ q];cases want<;>rfl
     ·rw[(oL hr hd).2 q];rfl
    refine OW ho hr hw fun hr' => ?_;refine xm hd l base ι S _ w _ hgs ?_ hr' (fun hne=>?_) next
    ·cases l with
     | nil=>rfl
     | cons p l=>simp only[List.dropLast_cons_cons,aa2,NO]at hds;exact hds.2
    ·cases l with
     | nil=>exact absurd rfl hne
     | cons p l =>
       simp only[List.dropLast_cons_cons,aa2,NO,ho,bne_iff_ne,ne_eq]at hds;rw[C1 hds.1];exact hc (by simp)
theorem oD{K:St→Prop}:∀(l:List cW) (base:Nat) (ι:List Ix) (S:ba) (a:Act) (w:World) (st:St),l.all (lI ops)=true→m≤st.h.length→bX base ι S a w st→kR P ops l st K →
 wpOps P ops (dv m base ι S w (iO K Q)) (l.map cW.ix).flatten a w
 | [],base,ι,S,a,w,st,_,hm,hr,h=>⟨ι,S,st,bS.refl _ _ _ _ _,hm,hr,h⟩
 | .op i own:: r,base,ι,S,a,w,st,hok,hm,hr,h=>by
   simp only[aa2,NO]at hok;obtain⟨hg,hok⟩:=hok;simp only[kR]at h;simp only[GO,abc,cW.ix,List.singleton_append];cases ho:ops[i]? with
   | none=>rw[ho]at h;exact h.elim
   | some o =>
     simp only[ho]at h;simp only[lI,ho,Option.isNone_iff_eq_none]at hg;exact DB ho hm hr (by simp[Region.wanted,hg]) h fun v h' ι' S' a' w' k hm' hr' => oD r base ι' S' a' w' _ hok hm' hr' k
 | .aD j want l cs ms:: r,base,ι,S,a,w,st,hok,hm,hr,h=>by
   simp only[aa2,NO]at hok;obtain⟨hg,hok⟩:=hok;simp only[kR]at h;simp only[GO,abc,cW.ix];cases hd:eJ ops j with
   | none=>rw[hd]at h;exact h.elim
   | some d =>
     simp only[hd]at h;simp only[lI,hd,NO]at hg;unfold aw at h;have after:∀{st':St} {ι':List Ix} {S':ba} {a':Act} {w':World},st'.n=st.n→jmp cs ms st.fr st'.fr st'.h (fun s h=>kR P ops r ⟨st.n,join cs ms st.fr s,h⟩ K)→m≤st'.h.length→bX base ι' S' a' w' st' →
      wpOps P ops (dv m base ι' S' w' (iO K Q)) (r.map cW.ix).flatten a' w':=by
      intro st' ι' S' a' w' hn q hm' hr';obtain⟨e1,k⟩:=rk q;exact oD r base ι' S' a' w' ⟨st.n,join cs ms st.fr (dV st'.fr ms),st'.h⟩ hok hm' ⟨hr'.df,by rw[←hn];exact hr'.sz,hr'.fr.join e1,hr'.hp⟩ k
     have rv:=hr.get d;rcases h with⟨t,ht0,g1,g2⟩|⟨hu,g2⟩
     ·rw[ht0]at rv
      by_cases ht:t=want
      ·subst ht;have hr2:bX base ι S a w ⟨st.n,eU st.fr d (.v (.bool t)),st.h⟩:=⟨hr.df,hr.sz,dC.Dl hr.fr rv,hr.hp⟩;exact IA hd l base ι S a w ⟨st.n,eU st.fr d (.v (.bool t)),st.h⟩ _ hg.1 hg.2 hm hr2 (fun _=>by simp[fI]) (g1 rfl) fun st' ι' S' a' w' k hm' hn' hr' => after hn' k hm' hr'
      ·have ht':t=!want:=by cases t<;>cases want<;>simp_all
       subst ht';have hr2:bX base ι S a w ⟨st.n,eU st.fr d (aN want (bA st.fr d)),st.h⟩:=⟨hr.df,hr.sz,dC.Dl hr.fr (by rw[ht0];exact rv),hr.hp⟩;refine xm hd l base ι S a w _ hg.1 hg.2 hr2 (fun _=>.inl (by simp[fI,ht0,aN])) fun a' hr' => ?_;have hh:=DR ops l ⟨st.n,eU st.fr d (aN want (bA st.fr d)),st.h⟩;exact after hh.2 (by rw[hh.1];exact g2 rfl) (by rw[hh.1];exact hm) hr'
     ·have hr2:bX base ι S a w ⟨st.n,eU st.fr d (aN want (bA st.fr d)),st.h⟩:=⟨hr.df,hr.sz,dC.Dl hr.fr (by rw[hu]at rv ⊢;exact rv),hr.hp⟩;refine xm hd l base ι S a w _ hg.1 hg.2 hr2 (fun _=>.inr (by simp only[fI,if_true,hu];rfl)) fun a' hr' => ?_;have hh:=DR ops l ⟨st.n,eU st.fr d (aN want (bA st.fr d)),st.h⟩;exact after hh.2 (by rw[hh.1];exact g2) (by rw[hh.1];exact hm) hr'
end
/-! ### Loops -/
def Wk(n:Nat)(s:List AV)(h:aa)(s':List AV)(h':aa):Prop:=
 n≤h'.length∧s'.length=s.length∧∀base ι S w vs,aE ι S w s vs→cL base ι S w h→∃ι' S',bS n base ι S w ι' S' w∧aE ι' S' w s' vs∧cL base ι' S' w h'
def bL(s:List AV)(h:aa)(body:(List AV→aa→Prop)→List AV→aa→Prop):Prop:=
 ∃(α:Type) (I:α→Prop) (f:α→List AV) (g:α→aa) (μ:α→Nat) (x₀:α),I x₀∧Wk h.length s h (f x₀) (g x₀) ∧
  ∀x,I x→body (fun s' h' => ∃y,I y∧Wk h.length s' h' (f y) (g y)∧μ y<μ x) (f x) (g x)
omit [Laid] in
theorem aE.sy{ι:List Ix}{S:ba}{w:World}{fr:Fr}{tmps:Array Value}(h:dC ι S w fr tmps):∀ms:List Nat,aE ι S w (dV fr ms) (ms.map fun t=>tmps.getD t undef)
 | []=>by simp[dV]
 | t:: ms=>(bO _ _ _ _).2 ⟨h t,aE.sy h ms⟩
omit [Laid] in
theorem aE.nx{ι:List Ix}{S:ba}{w:World}{s:List AV}{vs:List Value}(h:aE ι S w s vs){i:Nat}{v:Value}(e:vs[i]?=some v):au ι S w (Aw.nx s i) v:=by
 obtain⟨a,e1,r⟩:=h.get' i v e;unfold Aw.nx;rw[nE,e1];exact r
theorem D7{m:Nat}{c:Code}(hm:m≤st.h.length)(body:(List AV→aa→Prop)→List AV→aa→Prop)
 (hb:∀next s h,st.h.length≤h.length→body next s h→AW P st.h.length c (iO (fun st' => cM (Nat.beq st'.n st.n) (jmp cs ms st.fr st'.fr st'.h next)) Q) ⟨st.n,join cs ms st.fr s,h⟩) (hl:bL (dV st.fr ms) st.h body):AW P m (.loop c) Q st:=by
 obtain⟨α,I,f,g,μ,x₀,h₀,hw₀,round⟩:=hl;intro base ι S a w _ hr;have hfl:∀{s:List AV} {h':aa} {x:α} {n:Nat},Wk n s h' (f x) (g x)→n≤(g x).length:=fun k=>k.1
 -- what stands at each round's beginning
 let Inv:α→Act→World→Prop:=fun x a' w' => I x∧∃ι' S',bS st.h.length base ι S w ι' S' w'∧st.h.length≤(g x).length∧bX base ι' S' a' w' ⟨st.n,join cs ms st.fr (f x),g x⟩∧dC ι' S' w' (jS cs st.fr) a'.tmps
 have enter:∀{x:α} {a':Act} {w':World} {ι1:List Ix} {S1:ba} {s:List AV} {h':aa},bS st.h.length base ι S w ι1 S1 w'→a'.defers=[]→a'.tmps.size=st.n→cL base ι1 S1 w' h'→dC ι1 S1 w' (jS cs st.fr) a'.tmps→aE ι1 S1 w' s (ms.map fun t=>a'.tmps.getD t undef) →
  I x→Wk st.h.length s h' (f x) (g x)→Inv x a' w':=by
  intro x a' w' ι1 S1 s h' hE hdf hsz hp hc hs hI hw;obtain⟨hw1,hw2,hw3⟩:=hw;obtain⟨ι2,S2,hE2,hs2,hp2⟩:=hw3 base ι1 S1 w' _ hs hp;have hc2:dC ι2 S2 w' (jS cs st.fr) a'.tmps:=by
   intro t;have hbd:Bd st.h.length (bA (jS cs st.fr) t):=by
    rcases nr cs st.fr t with q|⟨_,q⟩
    ·rw[q];simp[Bd]
    ·rw[q];exact au.bd (by rw[hr.hp.len];exact bY _) _ _ (hr.fr t)
   exact au.gW hE2 _ _ hbd (hc t)
  exact⟨hI,ι2,S2,hE.trans hE2,hw1,⟨hdf,hsz,dC.mW ms _ _ 0 hc2 fun i t e=>by rw[aaQ];exact hs2.nx (by rw[iN,e];rfl),hp2⟩,hc2⟩
 have entry:Inv x₀ a w:=enter (bS.refl _ _ _ _ _) hr.df hr.sz hr.hp (hr.fr.norm cs) (aE.sy hr.fr ms) h₀ hw₀;refine wp_loop_ghost Inv μ x₀ entry fun x a' w' ⟨hx,ι',S',hE,hm',hr',_⟩=>?_;refine wp_mono (hb _ _ _ hm' (round x hx) base ι' S' a' w' hm' hr') ?_;intro e a'' w'' k;obtain⟨ι'',S'',st'',h1,h2,h3,h4⟩:=k;have out:Q e st''→dv m base ι S w Q e a'' w'':=fun q=>⟨ι'',S'',st'',(hE.trans h1).mono hm (bY _),aaT hm h2,h3,q⟩;cases e with
 | normal =>
   obtain⟨hn,q⟩:=aZ h4;obtain⟨e1,y,hy,hw,hlt⟩:=rk q;have hn:st''.n=st.n:=lE hn;exact⟨y,enter (hE.trans h1) h3.df (by rw[←hn];exact h3.sz) h3.hp (h3.fr.fB e1) (aE.sy h3.fr ms) hy hw,hlt⟩
 | exit id=>exact out h4
 | goto l=>exact out h4
 | ret=>exact out h4
 | panic ch=>exact out h4
 | outgrown=>exact out h4
/-! ### Code -/
inductive Fk where
 | nil
 | one (i k:Nat) (own:Bool) (t:Fk)
 | two (a b:Fk)
inductive An where
 | nil
 | seq (a b:An)
 | join (cs ms:List Nat) (a b:An)
 | two (a b:An)
 | one (a:An)
 | loop (cs ms:List Nat) (a:An)
 | aR (l:List cW)
 | draw (t:Nat) (l r q:List cW)
 | Jy (t:Nat) (A:List Nat) (l:List (Nat×Bool)) (r q:List cW)
 | jQ (l:List (Nat×Nat×Bool))
 | Jz (t:Fk)
def An.l:An→An|.seq a _=>a|.join _ _ a _=>a|.two a _=>a|.one a=>a|.loop _ _ a=>a|_=>.nil
def An.r:An→An|.seq _ b=>b|.join _ _ _ b=>b|.two _ b=>b|_=>.nil
def An.s:An→List cW|.aR l=>l|_=>[]
def An.j:An→Option (List Nat×List Nat)|.join c m _ _=>some (c,m)|.loop c m _=>some (c,m)|_=>none
def plain(n:Nat):List cW:=(List.range n).map fun i=>.op i false
def An.sg(t:An)(n:Nat):List cW:=match t with|.aR l=>l|_=>plain n
theorem oG{ev ev':Operand→AV}{K:AV→aa→Prop}(he:∀x∈op.operands,ev x=ev' x)(k:bE P own ev h op K):bE P own ev' h op K:=by
 have lst:∀l:List Operand,(∀x∈l,ev x=ev' x)→l.map ev=l.map ev':=fun l hl=>List.map_congr_left hl;cases op<;>simp only[Op.operands]at he<;>simp only[bE]at k ⊢
 case move x=>rw[←he x (by simp)];exact k
 case assign x=>rw[←he x (by simp)];exact k
 case pick c a b=>rw[←he c (by simp),←he a (by simp),←he b (by simp)];exact k
 case alloc t=>exact k
 case box t x=>rw[←he x (by simp)];exact k
 case build t ps =>
  have e1:∀(f g:Nat→Nat),(ps.toList.map fun p=>(f p.1,g p.1,ev p.2))=ps.toList.map fun p=>(f p.1,g p.1,ev' p.2):=fun f g=>List.map_congr_left fun p hp=>by
   rw[he p.2 (by simp;exact⟨p.1,by simpa using hp⟩)]
  split at k
  ·rename_i fs z _ _;rw[←e1 (fun i=>((fs[i]?).map (·.offset)).getD 0) (fun i=>((fs[i]?).map (fun f=>P.cellsOf f.type)).getD 0)];exact k
  ·rename_i n e z _ _;rw[←e1 (fun i=>i*P.cellsOf e) (fun _=>P.cellsOf e)];exact k
  ·exact k
 case buildSlice t n ps =>
  have e1:∀(f g:Nat→Nat),(ps.toList.map fun p=>(f p.1,g p.1,ev p.2))=ps.toList.map fun p=>(f p.1,g p.1,ev' p.2):=fun f g=>List.map_congr_left fun p hp=>by
   rw[he p.2 (by simp;exact⟨p.1,by simpa using hp⟩)]
  split at k
  ·rename_i e _;split at k
   ·rw[←e1 (fun i=>i*P.cellsOf e) (fun _=>P.cellsOf e)];exact k
   ·exact k
  ·exact k
 case makeSlice t l c=>rw[←he l (by simp),←he c (by simp)];exact k
 case load t x=>rw[←he x (by simp)];exact k
 case store t x v=>rw[←he x (by simp),←he v (by simp)];exact k
 case nilCheck x=>rw[←he x (by simp)];exact k
 case binOp o t x y yt=>rw[←he x (by simp),←he y (by simp)];exact k
 case unOp o t x =>
  cases o<;>simp only[bE]at k ⊢
  case neg=>rw[←he x (by simp)];exact k
  case not=>rw[←he x (by simp)];exact k
  case xor=>rw[←he x (by simp)];exact k
 case convert s d x=>rw[←he x (by simp)];exact k
 case makeInterface t x=>rw[←he x (by simp)];exact k
 case typeAssert x xT a ok =>
  cases ok<;>simp only[bE]at k ⊢;rw[←he x (by simp)];exact k
 case makeFunc f xs ys =>
  rw[←lst xs.toList fun x hx=>he x (by simp at hx ⊢;exact .inl hx),←lst ys.toList fun x hx=>he x (by simp at hx ⊢;exact .inr hx)];exact k
 case slice t x lo hi mx =>
  have e0:=he x (by simp);have e1:lo.map ev=lo.map ev':=by cases lo<;>simp_all
  have e2:hi.map ev=hi.map ev':=by cases hi<;>simp_all
  cases mx<;>simp only[bE]at k ⊢;rw[←e0,←e1,←e2];exact k
 case fieldAddr t x i=>rw[←he x (by simp)];exact k
 case field t x i=>rw[←he x (by simp)];exact k
 case indexAddr t x i=>rw[←he x (by simp),←he i (by simp)];exact k
 case index t x i=>rw[←he x (by simp),←he i (by simp)];exact k
 case extract x i=>rw[←he x (by simp)];exact k
 case call c =>
  have ea:∀x∈c.args,ev x=ev' x:=fun x hx=>he x (by simp[Call.operands];exact .inr hx);have el:c.args.toList.map ev=c.args.toList.map ev':=lst _ fun x hx=>ea x (by simpa using hx);cases hc:c.callee with
  | value x =>
    rw[hc]at k;simp only at k ⊢;rw[←el,←he x (by simp[Call.operands,hc])];exact k
  | invoke r m =>
    rw[hc]at k;simp only at k ⊢;rw[←el,←he r (by simp[Call.operands,hc])];exact k
  | builtin b =>
    rw[hc]at k;cases b<;>simp only at k⊢<;> (try exact k)
    case len =>
     cases h0:c.argTypes[0]?<;>cases h1:c.args[0]?<;>rw[h0,h1]at k<;>simp only at k ⊢;rename_i t x;rw[←ea x (Array.mem_of_getElem? h1)];exact k
    case min =>
     split at k
     ·rename_i x y hxy;have m:∀z∈c.args.toList,ev z=ev' z:=fun z hz=>ea z (by simpa using hz);rw[hxy]at m;rw[←m x (by simp),←m y (by simp)];exact k
     ·exact k
    case max =>
     split at k
     ·rename_i x y hxy;have m:∀z∈c.args.toList,ev z=ev' z:=fun z hz=>ea z (by simpa using hz);rw[hxy]at m;rw[←m x (by simp),←m y (by simp)];exact k
     ·rename_i x y z hxy;have m:∀z∈c.args.toList,ev z=ev' z:=fun z hz=>ea z (by simpa using hz);rw[hxy]at m;rw[←m x (by simp),←m y (by simp),←m z (by simp)];exact k
     ·exact k
    case append =>
     split at k
     ·rename_i t tx x y hat hxy;have m:∀z∈c.args.toList,ev z=ev' z:=fun z hz=>ea z (by simpa using hz);rw[hxy]at m;rw[←m x (by simp),←m y (by simp)];exact k
     ·exact k
/-! ### One order for all -/
section
variable (P:Program) (ops:Array Oper) (n:Nat) (h:aa)
def gG(o:Oper)(fr:Fr):Option Bool:=
 match o.guard with
 | none=>some true
 | some (j,w)=>match eJ ops j with
   | some d=>match bA fr d with
     | .v (.bool b)=>some (b == w)
     | .v (.tuple x)=>if x=#[] then some false else none
     | _=>none
   | none=>none
def YA(o:Oper)(x:AV)(fr:Fr):Prop:=
 (gG ops o fr=some true∧∃own,bE P own (aG fr) h o.op fun v h' => v=x∧h'=h)∨(gG ops o fr=some false∧x=.v undef)
def qA(i:Nat)(K:Fr→Prop)(fr:Fr):Prop:=
 match ops[i]? with
 | none=>K fr
 | some o=>∃x,YA P ops h o x fr∧K (bN n fr o.dst x)
def full(t:Nat):Array Bool:=(Array.range ops.size).map fun i=>decide (i<t)
def D9(t:Nat)(Z:Fr→Prop):Nat→Array Bool→Fr→Prop
 | 0,listed,fr=>listed=full ops t∧Z fr
 | fuel+1,listed,fr=>Region.ready .any ops listed≠[]∧∀i∈Region.ready .any ops listed,i<t∧qA P ops n h i (D9 t Z fuel (listed.setIfInBounds i true)) fr
def lM(Q:Fr→Prop):List Oper→Fr→Prop
 | [],fr=>Q fr
 | o:: r,fr=>∃x,YA P ops h o x fr∧lM Q r (bN n fr o.dst x)
end
section
variable {P:Program} {ops:Array Oper} {n:Nat} {h:aa}
theorem yf{i:Nat}{K K':Fr→Prop}{fr:Fr}(hk:∀fr,K fr→K' fr)(q:qA P ops n h i K fr):qA P ops n h i K' fr:=by
 unfold qA at *;split
 ·rename_i e;rw[e]at q;exact hk _ q
 ·rename_i o e;rw[e]at q;obtain⟨x,h1,h2⟩:=q;exact⟨x,h1,hk _ h2⟩
omit [Laid] in
theorem vJ{fr:Fr}{d e:Option Tmp}{x y:AV}(hd:∀t,d=some t→e≠some t):bN n (bN n fr d x) e y=bN n (bN n fr e y) d x:=by
 unfold bN;cases d with
 | none=>cases e<;>rfl
 | some t =>
   cases e with
   | none=>rfl
   | some u =>
     have:t≠u:=fun q=>hd t rfl (by rw[q]);simp only;split<;>split<;>first|rfl|exact LS _ _ _ this
theorem YA.same{o:Oper}{x:AV}{fr fr':Fr}(hs:∀t∈o.looksAt ops,bA fr' t=bA fr t)(hy:YA P ops h o x fr):YA P ops h o x fr':=by
 have hw:gG ops o fr'=gG ops o fr:=by
  unfold gG;cases hg:o.guard with
  | none=>rfl
  | some jw =>
    obtain⟨j,w⟩:=jw;simp only;cases hd:eJ ops j with
    | none=>rfl
    | some d =>
      have:bA fr' d=bA fr d:=hs d (by
       unfold Oper.looksAt;refine List.mem_append_right _ ?_;simp only[hg];unfold eJ at hd;rw[hd];simp)
      simp only[this]
 have he:∀y∈o.op.operands,aG fr y=aG fr' y:=by
  intro y hy;cases y with
  | tmp t =>
    have:bA fr' t=bA fr t:=hs t (by
     unfold Oper.looksAt;refine List.mem_append_left _ ?_;simp only[aa0];exact⟨.tmp t,by simpa using hy,rfl⟩)
    simp[aG,this]
  | _=>rfl
 unfold YA at *;rw[hw];rcases hy with⟨h1,h2⟩|h1
 ·exact .inl ⟨h1,h2.imp fun _ k=>oG he k⟩
 ·exact .inr h1
theorem YA.put{o oj:Oper}{x y:AV}{fr:Fr}(hap:∀d,oj.dst=some d→d∉o.looksAt ops)(hy:YA P ops h o x fr):YA P ops h o x (bN n fr oj.dst y):=
 hy.same fun t ht=>fJ fun e he q=>hap e he (q▸ht)
theorem YA.WM{o oj:Oper}{x y:AV}{fr:Fr}(hap:∀d,oj.dst=some d→d∉o.looksAt ops)(hy:YA P ops h o x (bN n fr oj.dst y)):YA P ops h o x fr:=
 hy.same fun t ht=>(fJ fun e he q=>hap e he (q▸ht)).symm
theorem LU{j:Nat}{oi oj:Oper}{x:AV}{K:Fr→Prop}{fr:Fr}(hj:ops[j]?=some oj)(hap:oi.apart ops oj=true)(hy:YA P ops h oi x fr)(q:qA P ops n h j K (bN n fr oi.dst x)):
 qA P ops n h j (fun fr' => YA P ops h oi x fr'∧K (bN n fr' oi.dst x)) fr:=by
 obtain⟨h1,h2,h3⟩:=Oper.apart_spec hap;unfold qA at *;simp only[hj]at *;obtain⟨y,q1,q2⟩:=q;refine⟨y,q1.WM h1,hy.put h3, ?_⟩;rw[vJ (fun t ht=>h2 t ht)]at q2;exact q2
theorem tz{base:Nat}{ι:List Ix}{S:ba}{a:Act}{w:World}{fr:Fr}{o:Oper}{b:Bool}(hr:bX base ι S a w ⟨n,fr,h⟩)(hw:gG ops o fr=some b):Region.wanted o (yielded ops a.tmps)=b:=by
 unfold gG at hw;unfold Region.wanted;cases hg:o.guard with
 | none=>rw[hg]at hw;simp only[On]at hw;exact hw
 | some jw =>
   obtain⟨j,w'⟩:=jw;rw[hg]at hw;simp only at hw ⊢;split at hw
   ·rename_i d hd;split at hw
    ·rename_i b' hb;rw[(oL hr hd).1 b' hb];simp only[On]at hw;rw[←hw];cases b'<;>cases w'<;>rfl
    ·rename_i x hx;split at hw
     ·rename_i e;subst e;rw[(oL hr hd).2 hx];simp only[On]at hw;rw[←hw];rfl
     ·cases hw
    ·cases hw
   ·cases hw
theorem Ac{m i base:Nat}{ι:List Ix}{S:ba}{a:Act}{w:World}{fr:Fr}{K:Fr→Prop}{K':Act→World→Prop}{Q':Exit→Act→World→Prop}(hm:m≤ι.length)(hr:bX base ι S a w ⟨n,fr,h⟩)
 (hk:∀ι' S' a' w' fr',bS m base ι S w ι' S' w'→bX base ι' S' a' w' ⟨n,fr',h⟩→K fr'→K' a' w') (q:qA P ops n h i K fr):wpOp P ops Q' i K' a w:=by
 unfold qA at q;unfold wpOp;split
 ·rename_i e;rw[e]at q;exact hk ι S a w fr (bS.refl _ _ _ _ _) hr q
 ·rename_i o e;rw[e]at q;obtain⟨x,hy,q⟩:=q;rcases hy with⟨hw,own,hy⟩|⟨hw,rfl⟩
  ·rw[if_pos (tz hr hw)];left;refine nF (fun a' w' k=>?_) (fun _ _ _ k=>k) (oE (st:=⟨n,fr,h⟩) hr hy Q');obtain⟨ι',S',v,h',hE,hR,hl,rfl,rfl⟩:=k;exact hk ι' S' a' w' _ (hE.mono hm (bY _)) hR q
  ·rw[tz hr hw];simp only[aaJ,if_false];have p:=hr.put (x:=.v undef) (v:=undef) o.dst (by simp);refine hk ι S _ w (bN n fr o.dst (.v undef)) (bS.refl _ _ _ _ _) ?_ q;cases hd:o.dst with
   | none=>rw[hd]at p;exact p
   | some t=>rw[hd]at p;exact p
omit [Laid] in
theorem Kc{i:Nat}{a:Act}{w:World}{K K':Act→World→Prop}{Q Q':Exit→Act→World→Prop}(h1:∀a w,K a w→K' a w)(h2:∀e a w,Q e a w→Q' e a w)(q:wpOp P ops Q i K a w):wpOp P ops Q' i K' a w:=by
 unfold wpOp at *;split
 ·rename_i e;rw[e]at q;exact h1 _ _ q
 ·rename_i o e;rw[e]at q;simp only at q;split
  ·rename_i hw;rw[if_pos hw]at q;rcases q with q|⟨q,a0,w0,k⟩
   ·exact .inl (nF h1 h2 q)
   ·exact .inr ⟨q,a0,w0,h2 _ _ _ k⟩
  ·rename_i hw;rw[if_neg hw]at q;exact h1 _ _ q
omit [Laid] in
theorem dR{md:Region.Mode}{Q Q':Exit→Act→World→Prop}(hq:∀e a w,Q e a w→Q' e a w):∀(fuel:Nat) (listed:Array Bool) (a:Act) (w:World),wpAny P md ops Q fuel listed a w→wpAny P md ops Q' fuel listed a w
 | 0,_,_,_,q=>⟨q.1,hq _ _ _ q.2⟩
 | fuel+1,listed,a,w,q=>⟨fun e=>hq _ _ _ (q.1 e),fun i hi=>Kc (fun a w=>dR hq fuel _ a w) hq (q.2 i hi)⟩
def Down(ops:Array Oper)(listed:Array Bool):Prop:=
 ∀(i:Nat) (o:Oper),ops[i]?=some o→listed.getD i false=true→∀e∈o.after,Region.binds .any e=true→listed.getD e.on false=true
omit [Laid] in
theorem Down.set{listed:Array Bool}{i:Nat}(hd:Down ops listed)(hr:i∈Region.ready .any ops listed):Down ops (listed.setIfInBounds i true):=by
 intro j o ho hl e he hb;obtain⟨h0,oi,hoi,hall⟩:=mem_ready.1 hr;have up:listed.getD e.on false=true→(listed.setIfInBounds i true).getD e.on false=true:=fun q=>by
  by_cases he:i=e.on
  ·have hlt:i<listed.size:=by
    rcases uP i listed.size with k|k
    ·exact k
    ·rw[←he]at q;simp[abj k]at q
   rw[←he];simp[Array.getD_eq_getD_getElem?,Array.getElem?_setIfInBounds,hlt]
  ·rw[getD_set_ne false he];exact q
 by_cases hj:j=i
 ·subst hj;rw[hoi]at ho;cases ho;exact up (hall e he hb)
 ·rw[getD_set_ne false (Ne.symm hj)]at hl;exact up (hd j o ho hl e he hb)
def dS(ops:Array Oper)(i:Nat):List Nat:=match ops[i]? with|some o=>(o.after.toList.filter (Region.binds .any)).map (·.on)|none=>[]
def Kz(ops:Array Oper):Nat→List Nat→List Nat
 | 0,l=>l
 | k+1,l=>Kz ops k (l++l.flatMap (dS ops)).eraseDups
omit [Laid] in
theorem qG{listed:Array Bool}(hd:Down ops listed):∀(k:Nat) (l:List Nat),(∀i∈l,listed.getD i false=true)→∀i∈Kz ops k l,listed.getD i false=true
 | 0,l,hl,i,hi=>hl i hi
 | k+1,l,hl,i,hi=>by
   refine qG hd k _ (fun j hj=>?_) i hi;rw[List.mem_eraseDups]at hj;rcases Is.1 hj with hj|hj
   ·exact hl j hj
   ·obtain⟨q,hq,hj⟩:=List.mem_flatMap.1 hj;unfold dS at hj;split at hj
    ·rename_i o ho;simp only[aaF,aaY]at hj;obtain⟨e,⟨he,hb⟩,rfl⟩:=hj;exact hd q o ho (hl q hq) e (by simpa using he) hb
    ·cases hj
def qM(ops:Array Oper)(t:Nat):Bool:=(List.range ops.size).all fun i=>decide (i<t)||(List.range t).all fun k=>(Kz ops ops.size (dS ops i)).contains k
omit [Laid] in
theorem vf{listed:Array Bool}{t i:Nat}(hd:Down ops listed)(hb:qM ops t=true)(hi:t≤i)(hr:i∈Region.ready .any ops listed):∀k,k<t→listed.getD k false=true:=by
 intro k hk;obtain⟨h0,o,ho,hall⟩:=mem_ready.1 hr;have hlt:=(AS.1 ho).1;have:=At.1 hb i (by simpa using hlt);simp only[aa7,Of]at this;rcases this with q|q
 ·omega
 ·have:=At.1 q k (by simpa using hk);rw[List.contains_iff_mem]at this;refine qG hd ops.size _ (fun j hj=>?_) k this;unfold dS at hj;rw[ho]at hj;simp only[aaF,aaY]at hj;obtain⟨e,⟨he,hb⟩,rfl⟩:=hj;exact hall e (by simpa using he) hb
omit [Laid] in
theorem pz{listed:Array Bool}{i:Nat}(h0:listed.getD i true=false)(h1:listed.getD i false=true):False:=by
 rcases uP i listed.size with h' | h'
 ·simp[h']at h0 h1;rw[h0]at h1;cases h1
 ·simp[abj h']at h1
theorem I9{t:Nat}{Z:Fr→Prop}{i:Nat}{oi:Oper}{x:AV}(hB:qM ops t=true)(hi:ops[i]?=some oi)(hT:i<t):∀(fuel:Nat) (listed:Array Bool) (fr:Fr),Down ops listed →
 (∀j oj,ops[j]?=some oj→j≠i→j<t→listed.getD j true=false→(∀e∈oj.after,Region.binds .any e=true→e.on≠i)→oi.apart ops oj=true) →
 i∈Region.ready .any ops listed→YA P ops h oi x fr→D9 P ops n h t Z fuel (listed.setIfInBounds i true) (bN n fr oi.dst x)→D9 P ops n h t Z (fuel+1) listed fr:=by
 have own:∀{K:Fr→Prop} {fr:Fr},YA P ops h oi x fr→K (bN n fr oi.dst x)→qA P ops n h i K fr:=fun hy hk=>by unfold qA;simp only[hi];exact⟨x,hy,hk⟩
 intro fuel;induction fuel with
 | zero =>
   intro listed fr hd hfree hr hy H;refine⟨fun q=>(by rw[q]at hr;cases hr),fun j hj=>?_⟩;have hj0:=(mem_ready.1 hj).1;have hjlt:j<t:=by
    rcases uP j t with q|q
    ·exact q
    ·exact (pz (mem_ready.1 hr).1 (vf hd hB q hj i hT)).elim
   refine⟨hjlt, ?_⟩
   by_cases hji:j=i
   ·subst hji;exact own hy H
   ·exfalso;have e:=congrArg (fun a=>a.getD j true) H.1;simp only[getD_set_ne true (Ne.symm hji)]at e;rw[hj0]at e;obtain⟨_,oj,hoj,_⟩:=mem_ready.1 hj;have hlt:=(AS.1 hoj).1;simp[full,hlt,hjlt]at e
 | succ fuel ih =>
   intro listed fr hd hfree hr hy H;refine⟨fun q=>(by rw[q]at hr;cases hr),fun j hj=>?_⟩;have hjlt:j<t:=by
    rcases uP j t with q|q
    ·exact q
    ·exact (pz (mem_ready.1 hr).1 (vf hd hB q hj i hT)).elim
   refine⟨hjlt, ?_⟩
   by_cases hji:j=i
   ·subst hji;exact own hy H
   ·obtain⟨_,h1⟩:=H.2 j (ready_mono hj hji);obtain⟨hjun,oj,hoj,hall⟩:=mem_ready.1 hj;have hnot:∀e∈oj.after,Region.binds .any e=true→e.on≠i:=fun e he hb heq=>by
     have h1:=hall e he hb;rw[heq]at h1;exact pz (mem_ready.1 hr).1 h1
    have h2:=LU hoj (hfree j oj hoj hji hjlt hjun hnot) hy h1;have hfree':∀k ok,ops[k]?=some ok→k≠i→k<t→(listed.setIfInBounds j true).getD k true=false →
     (∀e∈ok.after,Region.binds .any e=true→e.on≠i)→oi.apart ops ok=true:=fun k ok hk hki hkT hun hno=>by
     refine hfree k ok hk hki hkT ?_ hno
     by_cases hjk:j=k
     ·subst hjk;exact hjun
     ·rw[getD_set_ne true hjk]at hun;exact hun
    refine yf (fun fr' h3=>ih (listed.setIfInBounds j true) fr' (hd.set hj) hfree' (ready_mono hr (Ne.symm hji)) h3.1 ?_) h2;rw[Array.setIfInBounds_comm _ _ hji];exact h3.2
def A3(ops:Array Oper)(listed:Array Bool)(t i:Nat):Bool:=
 match ops[i]? with
 | some oi=>(List.range t).all fun j=>j == i||listed.getD j true||(dS ops j).contains i||(match ops[j]? with|some oj=>oi.apart ops oj|none=>true)
 | none=>false
def rU(ops:Array Oper)(t:Nat):Nat→Nat→Array Bool→Bool
 | 0,_,listed=>listed == full ops t
 | fuel+1,k,listed=>(Region.ready .any ops listed).contains k&&decide (k<t)&&A3 ops listed t k&&rU ops t fuel (k+1) (listed.setIfInBounds k true)
omit [Laid] in
theorem vd{listed:Array Bool}{t i:Nat}{oi:Oper}(hi:ops[i]?=some oi)(hf:A3 ops listed t i=true):
 ∀j oj,ops[j]?=some oj→j≠i→j<t→listed.getD j true=false→(∀e∈oj.after,Region.binds .any e=true→e.on≠i)→oi.apart ops oj=true:=by
 intro j oj hj hji hjT hun hno;unfold A3 at hf;rw[hi]at hf;have:=At.1 hf j (by simpa using hjT);simp only[hj,aa7,beq_iff_eq,hji,hun,false_or,aaJ]at this;rcases this with h1|h1
 ·exfalso;unfold dS at h1;rw[hj]at h1;simp only[List.contains_iff_mem,aaF,aaY]at h1;obtain⟨e,⟨he,hb⟩,q⟩:=h1;exact hno e (by simpa using he) hb q
 ·exact h1
theorem Ek{t:Nat}{Z:Fr→Prop}(hB:qM ops t=true):∀(l:List Oper) (k:Nat) (listed:Array Bool) (fr:Fr),(∀j,j<l.length→l[j]?=ops[k+j]?)→Down ops listed →
 rU ops t l.length k listed=true→lM P ops n h Z l fr→D9 P ops n h t Z l.length listed fr
 | [],k,listed,fr,_,_,hL,q=>by
   simp only[abd,rU,beq_iff_eq]at hL;exact⟨hL,q⟩
 | o:: l,k,listed,fr,hl,hd,hL,q=>by
   have h0:ops[k]?=some o:=by simpa using (hl 0 (by simp)).symm
   simp only[aaB,rU,NO,Of]at hL;obtain⟨⟨⟨hr,hkT⟩,hf⟩,hL'⟩:=hL;obtain⟨x,hy,hK⟩:=q;have hr':k∈Region.ready .any ops listed:=by simpa using hr
   exact I9 hB h0 hkT l.length listed fr hd (vd h0 hf) hr' hy
    (Ek hB l (k+1) _ _ (fun j hj=>by have:=hl (j+1) (by simp;omega);simpa[Nat.add_assoc,Nat.add_comm 1 j]using this) (hd.set hr') hL' hK)
theorem AD{m t more:Nat}{Z:Fr→Prop}{Q':Exit→St→Prop}(hZ:∀fr base ι S a w,bX base ι S a w ⟨n,fr,h⟩→Z fr→wpAny P .any ops (dv m base ι S w Q') more (full ops t) a w):∀(fuel:Nat) (listed:Array Bool) (base:Nat) (ι:List Ix) (S:ba) (a:Act) (w:World) (fr:Fr),
 m≤h.length→bX base ι S a w ⟨n,fr,h⟩→D9 P ops n h t Z fuel listed fr→wpAny P .any ops (dv m base ι S w Q') (fuel+more) listed a w
 | 0,listed,base,ι,S,a,w,fr,hm,hr,q=>by rw[aaQ,q.1];exact hZ fr base ι S a w hr q.2
 | fuel+1,listed,base,ι,S,a,w,fr,hm,hr,q=>by
   rw[show fuel+1+more=(fuel+more)+1 by omega];refine⟨fun e=>absurd e q.1,fun i hi=>?_⟩;refine Ac (m:=m) (by rw[hr.hp.len];exact hm) hr (fun ι' S' a' w' fr' hE hr' k=>?_) (q.2 i hi).2;have:=AD hZ fuel (listed.setIfInBounds i true) base ι' S' a' w' fr' hm hr' k;exact dR (fun e a w z=>dv.trans hE z) _ _ _ _ this
def og(ops:Array Oper):List Nat→Array Bool→Option (Array Bool)
 | [],listed=>some listed
 | i:: l,listed=>match Region.ready .any ops listed == [i] with
   | true=>og ops l (listed.setIfInBounds i true)
   | false=>none
omit [Laid] in
theorem tF:∀(l:List Nat) (listed listed':Array Bool),Down ops listed→og ops l listed=some listed'→Down ops listed'
 | [],listed,listed',hd,hc=>by simp only[og,On]at hc;exact hc▸hd
 | i:: l,listed,listed',hd,hc=>by
   simp only[og]at hc;split at hc
   ·rename_i e;simp only[beq_iff_eq]at e;exact tF l _ _ (hd.set (by rw[e];simp)) hc
   ·cases hc
omit [Laid] in
theorem OX{o:Oper}{a:Act}{w:World}{K K':Act→World→Prop}{Q Q':Exit→Act→World→Prop}(h1:∀a w,K a w→K' a w)(h2:∀e a w,e≠.normal→Q e a w→Q' e a w)(h:o.wp P a w K Q):o.wp P a w K' Q':=by
 unfold Oper.wp at *;generalize (execOp a.eval o).run P w=r at *;unfold Oper.upon at *;split at h
 ·exact h1 _ _ h
 ·exact h1 _ _ h
 ·exact h1 _ _ h
 ·exact h.mono fun e w' k=>by
   cases e with
   | returned v=>exact h1 _ _ k
   | panicked ch=>exact h2 _ _ _ (by simp) k
   | outgrown=>obtain⟨a0,w0,k⟩:=k;exact⟨a0,w0,h2 _ _ _ (by simp) k⟩
 ·exact h.mono fun v w' k=>h1 _ _ k
 ·exact h2 _ _ _ (by simp) h
 ·exact h.elim
omit [Laid] in
theorem uQ{Q Q2:Exit→Act→World→Prop}{more:Nat}{listed':Array Bool}(hq:∀e a w,e≠.normal→Q2 e a w→Q e a w)(hn:∀a w,Q2 .normal a w→wpAny P .any ops Q more listed' a w):
 ∀(l:List Nat) (listed:Array Bool) (a:Act) (w:World),og ops l listed=some listed'→wpOps P ops Q2 l a w→wpAny P .any ops Q (l.length+more) listed a w
 | [],listed,a,w,hc,h=>by
   simp only[og,On]at hc;subst hc;simp only[abd,aaQ];exact hn a w h
 | i:: l,listed,a,w,hc,h=>by
   simp only[og]at hc;split at hc
   ·rename_i e;simp only[beq_iff_eq]at e;rw[aaB,show l.length+1+more=(l.length+more)+1 by omega];refine⟨fun q=>(by rw[e]at q;cases q),fun j hj=>?_⟩;rw[e]at hj;simp only[TO]at hj;subst hj;have up:=fun a' w' => uQ hq hn l (listed.setIfInBounds j true) a' w' hc;unfold wpOp;simp only[wpOps]at h;cases ho:ops[j]? with
    | none =>
      rw[ho]at h;exact up a w h
    | some o =>
      rw[ho]at h;simp only at h ⊢;split
      ·rename_i hw;rw[if_pos hw]at h;rcases h with h|⟨h,a0,w0,k⟩
       ·exact .inl (OX up hq h)
       ·exact .inr ⟨h,a0,w0,hq _ _ _ (by simp) k⟩
      ·rename_i hw;rw[if_neg hw]at h;exact up _ w h
   ·cases hc
end
/-! ### The condition on abstract values -/
def BX(S:(AV→aa→Prop)→Prop)(h:aa)(K:AV→Prop):Prop:=∃x,S (fun v h' => v=x∧h'=h)∧K x
def gJ(W:(AV→Prop)→Prop):Prop:=∀K:AV→Prop,W K→∃x,W (fun v=>v=x∧True)∧K x
section
omit [Laid] in
theorem KR(k:IntKind)(n:Int):gJ (qD k n):=by
 intro K;unfold qD;split<;>intro q<;>first|exact⟨_,⟨rfl,trivial⟩,q⟩|exact⟨_,⟨q.1,rfl,trivial⟩,q.2⟩
omit [Laid] in
theorem Qi(op:BinOp)(k:IntKind)(a b:Int):gJ (qo op k a b):=by
 intro K;unfold qo;split<;>intro q<;>first|exact KR _ _ K q|exact⟨_,⟨rfl,trivial⟩,q⟩|exact⟨_,⟨q.1,rfl,trivial⟩,q.2⟩|exact q.elim
omit [Laid] in
theorem Qr(op:BinOp)(a b:List UInt8):gJ (zE op a b):=by
 intro K;unfold zE;split<;>intro q<;>first|exact⟨_,⟨rfl,trivial⟩,q⟩|exact⟨_,⟨q.1,rfl,trivial⟩,q.2⟩|exact q.elim
omit [Laid] in
theorem KQ(op:BinOp)(k:IntKind)(a b:Int):gJ (wX op k a b):=by
 intro K;unfold wX;split<;>intro q<;>first|exact⟨_,⟨q.1,rfl,trivial⟩,q.2⟩|exact q.2.elim
omit [Laid] in
theorem Hj(op:BinOp)(x y:AV):gJ (ae op x y):=by
 intro K;unfold ae;split
 ·split
  ·exact KQ _ _ _ _ K
  ·intro q;obtain⟨x,q1,q2⟩:=Qi _ _ _ _ K q.2;exact⟨x,⟨q.1,q1⟩,q2⟩
 ·exact Qr _ _ _ K
 ·exact fun q=>q.elim
omit [Laid] in
theorem NB(op:BinOp)(x y:AV):gJ (qN op x y):=by
 intro K;unfold qN;split
 ·split<;>intro q<;>first|exact⟨_,⟨rfl,trivial⟩,q⟩|exact q.elim
 ·exact fun q=>q.elim
omit [Laid] in
theorem Qf(neg:Bool)(ks:List Nat)(x y:AV):gJ (lW neg ks x y):=by
 intro K;unfold lW;split
 ·split<;>intro q<;>first|exact⟨_,⟨rfl,trivial⟩,q⟩|exact q.elim
 ·exact fun q=>q.elim
omit [Laid] in
theorem NN(c a b:AV):gJ (aI c a b):=by
 rintro K ⟨t,rfl,h1,h2⟩;cases t with
 | true=>exact⟨a,⟨true,rfl,fun _=>⟨rfl,trivial⟩,fun q=>by cases q⟩,h1 rfl⟩
 | false=>exact⟨b,⟨false,rfl,(fun q=>by cases q),fun _=>⟨rfl,trivial⟩⟩,h2 rfl⟩
omit [Laid] in
theorem Qo(x:AV):gJ (cq x):=by rintro K ⟨t,rfl,q⟩;exact⟨_,⟨t,rfl,rfl,trivial⟩,q⟩
omit [Laid] in
theorem Qm(x:AV):gJ (pb x):=by
 rintro K ⟨k,n,rfl,q⟩;obtain⟨y,q1,q2⟩:=KR _ _ K q;exact⟨y,⟨k,n,rfl,q1⟩,q2⟩
omit [Laid] in
theorem ND(k:IntKind)(x:AV):gJ (cy k x):=by rintro K ⟨k',n,rfl,q⟩;exact⟨_,⟨k',n,rfl,rfl,trivial⟩,q⟩
omit [Laid] in
theorem NP(x:AV):gJ (A6 x):=by
 intro K;unfold A6;split<;>intro q<;>first|exact⟨_,⟨rfl,trivial⟩,q⟩|exact q.elim
omit [Laid] in
theorem NF(i:Nat)(x:AV):gJ (aU i x):=by
 intro K;unfold aU;split
 ·split<;>intro q<;>first|exact⟨_,⟨rfl,trivial⟩,q⟩|exact q.elim
 ·exact fun q=>q.elim
omit [Laid] in
theorem xE(g:Bool)(sz:Nat)(cs:List AV):gJ (lF g sz cs):=by
 intro K;unfold lF;split
 ·exact fun q=>⟨_,⟨q.1,rfl,trivial⟩,q.2⟩
 ·split<;>intro q<;>first|exact⟨_,⟨rfl,trivial⟩,q⟩|exact q.elim
omit [Laid] in
theorem Qh(g:Bool)(o n:Nat)(x:AV):gJ (rR g o n x):=by
 intro K;unfold rR;split
 ·exact xE _ _ _ K
 ·exact fun q=>q.elim
omit [Laid] in
theorem NJ(x i:AV):gJ (dH x i):=by
 intro K;unfold dH;split<;>intro q<;>first|exact⟨_,⟨q.1,rfl,trivial⟩,q.2⟩|exact q.elim
omit [Laid] in
theorem NG(g:Bool)(sz len:Nat)(x i:AV):gJ (mI g sz len x i):=by
 intro K;unfold mI;split
 ·intro q;obtain⟨y,q1,q2⟩:=xE _ _ _ K q.2;exact⟨y,⟨q.1,q1⟩,q2⟩
 ·exact fun q=>q.elim
omit [Laid] in
theorem Qq(x:AV)(lo hi:Option AV):gJ (eN x lo hi):=by
 intro K;unfold eN;split
 ·split<;>intro q<;>first|exact⟨_,⟨q.1,rfl,trivial⟩,q.2⟩|exact q.elim
 ·exact fun q=>q.elim
omit [Laid] in
theorem Tz(n:Nat)(x:AV)(lo hi:Option AV):gJ (lg n x lo hi):=by
 intro K;unfold lg;split
 ·split<;>intro q<;>first|exact⟨_,⟨q.1,q.2.1,rfl,trivial⟩,q.2.2⟩|exact q.elim
 ·split<;>intro q<;>first|exact⟨_,⟨q.1,q.2.1,rfl,trivial⟩,q.2.2⟩|exact q.elim
 ·split<;>intro q<;>first|exact⟨_,⟨q.1,rfl,trivial⟩,q.2⟩|exact q.elim
 ·exact fun q=>q.elim
omit [Laid] in
theorem Qp(n sz:Nat)(x:AV)(lo hi:Option AV)(h:aa):gJ (qp n sz x lo hi h):=by
 intro K;unfold qp;split
 ·split<;>intro q<;>first|exact⟨_,⟨q.1,rfl,trivial⟩,q.2⟩|exact q.elim
 ·split<;>intro q<;>first|exact⟨_,⟨q.1,rfl,trivial⟩,q.2⟩|exact q.elim
 ·exact fun q=>q.elim
omit [Laid] in
theorem NH(m:Nat)(x i:AV):gJ (aQ m x i):=by
 intro K;unfold aQ;split<;>intro q<;>first|exact⟨_,⟨q.1,q.2.1,rfl,trivial⟩,q.2.2⟩|exact q.elim
omit [Laid] in
theorem NI(len sz:Nat)(x i:AV):gJ (eR len sz x i):=by
 intro K;unfold eR;split<;>intro q<;>first|exact⟨_,⟨q.1,rfl,trivial⟩,q.2⟩|exact q.elim
omit [Laid] in
theorem Qg(o:Nat)(x:AV):gJ (bp o x):=by
 intro K;unfold bp;split<;>intro q<;>first|exact⟨_,⟨rfl,trivial⟩,q⟩|exact q.elim
omit [Laid] in
theorem Qn(x:AV):gJ (wW x):=by
 intro K;unfold wW;split<;>intro q<;>first|exact⟨_,⟨rfl,trivial⟩,q⟩|exact q.elim
omit [Laid] in
theorem zz(g:Bool)(sz:Nat)(x:AV)(h:aa):gJ (ak g sz x h):=by
 intro K;unfold ak;split
 ·exact xE _ _ _ K
 ·split
  ·exact xE _ _ _ K
  ·exact fun q=>q.elim
 ·exact fun q=>q.elim
omit [Laid] in
theorem CW(z:AV)(ps:List (Nat×Nat×AV)):gJ (aY z ps):=by
 intro K;unfold aY;split<;>intro q<;>first|exact⟨_,⟨rfl,trivial⟩,q⟩|exact q.elim
omit [Laid] in
theorem KP(len sz:Nat)(z:AV)(ps:List (Nat×Nat×AV)):gJ (br len sz z ps):=by
 intro K;unfold br;split<;>intro q<;>first|exact⟨_,⟨rfl,trivial⟩,q⟩|exact q.elim
omit [Laid] in
theorem GJ(x:AV)(h:aa):gJ (cJ x h):=by
 intro K;unfold cJ;split<;>intro q<;>first|exact⟨_,⟨rfl,trivial⟩,q⟩|exact q.elim
omit [Laid] in
theorem Qk(x y:AV):gJ (nT x y):=by
 intro K;unfold nT;split<;>intro q<;>first|exact⟨_,⟨q.1,rfl,trivial⟩,q.2⟩|exact q.elim
omit [Laid] in
theorem BL(x y:AV):gJ (kr x y):=by
 intro K;unfold kr;split<;>intro q<;>first|exact⟨_,⟨q.1,rfl,trivial⟩,q.2⟩|exact q.elim
omit [Laid] in
theorem NK(x y z:AV):gJ (fun K=>kr x y fun u=>kr u z K):=by
 intro K q;obtain⟨r,h1,h2⟩:=BL x y _ q;obtain⟨s,h3,h4⟩:=BL r z K h2;refine⟨s, ?_,h4⟩;unfold kr at h1 ⊢;split at h1
 ·obtain⟨e,f⟩:=h1;refine⟨e, ?_⟩;rw[f.1];exact h3
 ·exact h1.elim
omit [Laid] in
theorem iK(b:Bool){W:(AV→Prop)→Prop}(hW:gJ W):gJ (fun K=>cM b (W K)):=by
 intro K q;obtain⟨hb,q⟩:=aZ q;subst hb;exact hW K q
end
omit [Laid] in
theorem NM(P:Program)(x:AV):gJ (ca P x):=by
 intro K;unfold ca;split<;>intro q
 ·exact⟨_,⟨q.1,rfl,trivial⟩,q.2⟩
 ·exact Qn _ K q
omit [Laid] in
theorem Qe(has:TypeId→Bool)(x:AV):gJ (zC has x):=by
 intro K;unfold zC;split<;>intro q<;>first|exact⟨_,⟨q.1,rfl,trivial⟩,q.2⟩|exact q.elim
omit [Laid] in
theorem Ql(t:TypeId)(x:AV):gJ (oZ t x):=by
 intro K;unfold oZ;intro q;exact⟨_,⟨rfl,trivial⟩,q⟩
omit [Laid] in
theorem Qj(neg:Bool)(r:Option Bool):gJ (kB neg r):=by
 intro K;unfold kB;split<;>intro q<;>first|exact⟨_,⟨rfl,trivial⟩,q⟩|exact q.elim
omit [Laid] in
theorem NL(neg:Bool)(d:TypeDesc)(y:Operand)(x:AV):gJ (xN neg d y x):=by
 intro K;unfold xN;split<;>intro q<;>first|exact Qj _ _ K q|exact q.elim
def sa(P:Program)(own:Bool):Op→Bool
 | .buildSlice .. => own
 | .makeInterface .. | .typeAssert .. | .move _|.assign _|.pick .. | .binOp .. | .extract .. | .field .. | .index .. | .slice .. | .indexAddr .. | .fieldAddr .. | .nilCheck _|.load .. | .build .. | .makeFunc .. | .unOp .. => true
 | .convert s d _=>(match P.underlying s,P.underlying d with|some .string,some (.slice _)=>false|_,_=>true)
 | .call c=>(match c.callee with|.builtin .min|.builtin .max=>true|_=>false)
 | _=>false
def wA(P:Program)(x:AV)(args:List AV)(h:aa)(K:AV→Prop):Prop:=∃r,bz P x args h (fun v h' => v=r∧h'=h)∧K r
def kZ(x:AV)(K:AV→Prop):Prop:=match x with|.str l=>K (i_ l.length)|_=>False
def ja(x:AV)(K:AV→Prop):Prop:=
 match mZ x with
 | .sl _ rows=>K (i_ rows.length)
 | .own _ _ len _=>K (i_ len)
 | .emp=>K (i_ 0)
 | _=>False
def ED(P:Program)(own:Bool)(ev:Operand→AV)(h:aa)(op:Op)(K:AV→Prop):Prop:=
 match op with
 | .call c=>(match c.callee with
   | .value x=>wA P (ev x) (c.args.toList.map ev) h K
   | .builtin .len=>(match c.argTypes[0]?,c.args[0]? with
     | some t,some x=>(match P.underlying t with
       | some .string=>kZ (ev x) K
       | some (.slice _)=>ja (ev x) K
       | _=>False)
     | _,_=>False)
   | _=>cM (sa P own (.call c)) (bE P own ev h (.call c) fun v _=>K v))
 | op=>cM (sa P own op) (bE P own ev h op fun v _=>K v)
theorem u2(hq:sa P own op=true)(q:bE P own ev h op fun v _=>K v):BX (bE P own ev h op) h K:=by
 unfold BX;cases op<;>simp only[sa,aaJ]at hq<;>simp only[bE]at q ⊢
 case move x=>exact⟨_,⟨rfl,trivial⟩,q⟩
 case assign x=>exact⟨_,⟨rfl,trivial⟩,q⟩
 case pick=>exact NN _ _ _ K q
 case build t ps =>
  split at q
  ·exact iK _ (CW _ _) K q
  ·exact iK _ (CW _ _) K q
  ·exact q.elim
 case load=>exact iK _ (zz _ _ _ _) K q
 case buildSlice t n ps =>
  subst hq;simp only at q ⊢;cases ht:P.underlying t with
  | none=>rw[ht]at q;exact q.elim
  | some d =>
    rw[ht]at q;cases d<;>simp only at q⊢<;> first|exact q.elim|skip
    rename_i e;cases hz:jG P e with
    | none=>rw[hz]at q;exact q.elim
    | some z=>rw[hz]at q;exact iK _ (KP _ _ _ _) K q
 case nilCheck=>exact NM _ _ K q
 case makeInterface=>exact iK _ (Ql _ _) K q
 case typeAssert x xT a ok=>cases ok<;>first|exact q.elim|exact Qe _ _ K q
 case binOp o t x y yt =>
  split at q
  ·rename_i hagg;simp only[hagg,if_true];cases o<;>simp only at q⊢<;> first|exact q.elim|skip
   all_goals
    cases hks:mF P 8 t with
    | none=>rw[hks]at q;exact (aZ q).2.elim
    | some ks=>rw[hks]at q;exact iK _ (Qf _ _ _ _) K q
  ·rename_i hagg;simp only[hagg,if_false,aaJ];cases hu:P.underlying t with
   | none=>rw[hu]at q;exact q.elim
   | some d =>
     rw[hu]at q;cases d<;>simp only at q⊢<;> first|exact NB _ _ _ K q|exact Hj _ _ _ K q|(cases o<;>first|exact q.elim|exact NL _ _ _ _ K q)
 case unOp o t x=>cases o<;>simp only at q⊢<;> first|exact q.elim|exact Qo _ K q|exact Qm _ K q|(cases hu:P.underlying t with|none=>rw[hu]at q;exact q.elim|some d=>rw[hu]at q;cases d<;>simp only at q⊢<;> first|exact q.elim|exact Hj _ _ _ K q)
 case convert s d x =>
  cases hs:P.underlying s with
  | none=>rw[hs]at q;exact q.elim
  | some a =>
    cases hd:P.underlying d with
    | none=>rw[hs,hd]at q;cases a<;>exact q.elim
    | some b =>
      rw[hs,hd]at q hq;cases a<;>cases b<;>simp only[aaJ]at q hq⊢<;> first|exact q.elim|exact ND _ _ K q|exact NP _ K q|exact iK _ (GJ _ _) K q
 case makeFunc=>exact⟨_,⟨rfl,trivial⟩,q⟩
 case slice t x lo hi mx =>
  cases mx with
  | some m=>exact q.elim
  | none =>
    simp only at q ⊢;cases ht:P.underlying t with
    | none=>rw[ht]at q;exact q.elim
    | some d =>
      rw[ht]at q;cases d<;>simp only at q⊢<;> first|exact q.elim|exact Qq _ _ _ K q|exact iK _ (Tz _ _ _ _) K q|exact iK _ (Qp _ _ _ _ _ _) K q
 case fieldAddr t x i =>
  split at q
  ·split at q
   ·exact iK _ (Qg _ _) K q
   ·exact q.elim
  ·exact q.elim
 case field t x i =>
  split at q
  ·split at q
   ·exact iK _ (Qh _ _ _ _) K q
   ·exact q.elim
  ·exact q.elim
 case indexAddr t x i =>
  split at q
  ·exact iK _ (NH _ _ _) K q
  ·exact iK _ (NI _ _ _ _) K q
  ·exact q.elim
 case index t x i =>
  split at q
  ·exact NJ _ _ K q
  ·exact iK _ (NG _ _ _ _ _) K q
  ·exact q.elim
 case extract=>exact NF _ _ K q
 case call c =>
  cases hc:c.callee<;>rw[hc]at q hq<;>first|exact q.elim|(simp only[aaJ]at hq;done)|skip
  rename_i b;cases b<;>first|(simp only[aaJ]at hq;done)|exact q.elim|skip
  all_goals simp only at q ⊢
  ·split at q
   ·exact BL _ _ K q
   ·exact NK _ _ _ K q
   ·exact q.elim
  ·split at q
   ·exact Qk _ _ K q
   ·exact q.elim
omit [Laid] in
theorem Da(q:kZ x K):∃y,cR x (fun v=>v=y∧True)∧K y:=by
 unfold kZ at q;split at q
 ·exact⟨_,fun _=>⟨rfl,trivial⟩,q⟩
 ·exact q.elim
omit [Laid] in
theorem Fc(q:ja x K):∃y,bu x (fun v=>v=y∧True)∧K y:=by
 unfold ja at q;unfold bu
 revert q
 cases mZ x<;>intro q<;>first|exact⟨_,fun _=>⟨rfl,trivial⟩,q⟩|exact⟨_,⟨rfl,trivial⟩,q⟩|exact q.elim
theorem ri(q:ED P own ev h op K):BX (bE P own ev h op) h K:=by
 unfold ED at q;split at q
 ·rename_i c;split at q
  ·rename_i x hc;obtain⟨r,q1,q2⟩:=q;exact⟨r,by simp only[bE,hc];exact q1,q2⟩
  ·rename_i hc;unfold BX;simp only[bE,hc];cases h1:c.argTypes[0]? with
   | none=>rw[h1]at q;exact q.elim
   | some t =>
     cases h2:c.args[0]? with
     | none=>rw[h1,h2]at q;exact q.elim
     | some x =>
       rw[h1,h2]at q;simp only at q ⊢;cases ht:P.underlying t with
       | none=>rw[ht]at q;exact q.elim
       | some d =>
         rw[ht]at q;cases d<;>first|exact q.elim|exact Da q|exact Fc q
  ·exact u2 (aZ q).1 (aZ q).2
 ·exact u2 (aZ q).1 (aZ q).2
section
variable (P:Program) (ops:Array Oper) (n:Nat) (h:aa)
def dL:List (Nat×Bool)→Fr→(Fr→Prop)→Prop
 | [],fr,K=>K fr
 | (i,own):: r,fr,K=>match ops[i]? with
  | some o=>BX (bE P own (aG fr) h o.op) h fun v=>dL r (bN n fr o.dst v) K
  | none=>False
def CV:List (Nat×Bool)→Fr→Fr
 | [],fr=>fr
 | (i,_):: r,fr=>match ops[i]? with
  | some o=>CV r (bN n fr o.dst (.v undef))
  | none=>CV r fr
def kL:List cW→Fr→(Fr→Prop)→Prop
 | [],fr,K=>K fr
 | .op i own:: r,fr,K=>(match ops[i]? with
   | some o=>BX (bE P own (aG fr) h o.op) h fun v=>kL r (bN n fr o.dst v) K
   | none=>False)
 | .aD j want l _ ms:: r,fr,K=>(match eJ ops j with
   | some d=>aw (fun J=>ar (bA fr d) want (dL P ops n h l fr fun fr' => J (dV fr' ms) h) (J (dV (CV ops n l fr) ms) h)) fun s _=>kL r (mW fr ms s 0) K
   | none=>False)
def vL:List (Nat×Bool)→Fr→(Fr→Prop)→Prop
 | [],fr,K=>K fr
 | (i,own):: r,fr,K=>match ops[i]? with
  | some o=>ED P own (aG fr) h o.op fun v=>vL r (bN n fr o.dst v) K
  | none=>False
def pQ:List cW→Fr→(Fr→Prop)→Prop
 | [],fr,K=>K fr
 | .op i own:: r,fr,K=>(match ops[i]? with
   | some o=>ED P own (aG fr) h o.op fun v=>pQ r (bN n fr o.dst v) K
   | none=>False)
 | .aD j want l _ ms:: r,fr,K=>(match eJ ops j with
   | some d=>aw (fun J=>ar (bA fr d) want (vL P ops n h l fr fun fr' => J (dV fr' ms) h) (J (dV (CV ops n l fr) ms) h)) fun s _=>pQ r (mW fr ms s 0) K
   | none=>False)
def u4:List (Nat×Bool)→List Nat
 | []=>[]
 | (i,_):: r=>match ops[i]? with
  | some o=>(match o.dst with|some t=>t:: u4 r|none=>u4 r)
  | none=>u4 r
def rL:cW→Bool
 | .op .. => true
 | .aD _ _ l _ ms=>(u4 ops l).all (ms.contains ·)&&ms.all fun t=>decide (t<n)
end
theorem Vr{P:Program}{ops:Array Oper}{n:Nat}{h:aa}:∀(l:List (Nat×Bool)) (fr:Fr) (K K':Fr→Prop),(∀f,K f→K' f)→vL P ops n h l fr K→dL P ops n h l fr K'
 | [],fr,K,K',hk,q=>hk _ q
 | (i,_):: r,fr,K,K',hk,q=>by
  simp only[vL]at q;simp only[dL];cases ho:ops[i]? with
  | none=>rw[ho]at q;exact q.elim
  | some o =>
    rw[ho]at q;obtain⟨x,q1,q2⟩:=ri q;exact⟨x,q1,Vr r _ K K' hk q2⟩
theorem rq{P:Program}{ops:Array Oper}{n:Nat}{h:aa}:∀(l:List cW) (fr:Fr) (K:Fr→Prop),pQ P ops n h l fr K→kL P ops n h l fr K
 | [],fr,K,q=>q
 | .op i _:: r,fr,K,q=>by
   simp only[pQ]at q;simp only[kL];cases ho:ops[i]? with
   | none=>rw[ho]at q;exact q.elim
   | some o =>
     rw[ho]at q;obtain⟨x,q1,q2⟩:=ri q;exact⟨x,q1,rq r _ K q2⟩
 | .aD j want l _ ms:: r,fr,K,q=>by
   simp only[pQ,aw]at q;simp only[kL,aw];cases hd:eJ ops j with
   | none=>rw[hd]at q;exact q.elim
   | some d =>
     rw[hd]at q;rcases q with⟨t,ht,g1,g2⟩|⟨hu,g2⟩
     ·exact .inl ⟨t,ht,fun z=>Vr l fr _ _ (fun f hf=>rq r _ K hf) (g1 z),fun z=>rq r _ K (g2 z)⟩
     ·exact .inr ⟨hu,rq r _ K g2⟩
/-! ### What it comes to -/
def nW(fr fr':Fr):Prop:=∀t,bA fr t=bA fr' t
omit [Laid] in
theorem nW.set(e:nW fr fr')(n:Nat)(d:Option Tmp)(x:AV):nW (bN n fr d x) (bN n fr' d x):=by
 intro t;unfold bN;cases d with
 | none=>exact e t
 | some u =>
   simp only;split
   ·rw[fI,fI];split
    ·rfl
    ·exact e t
   ·exact e t
section
variable {P:Program} {ops:Array Oper} {n:Nat} {h:aa} {Z:Fr→Prop}
theorem lM.eq:∀(l:List Oper) {fr fr':Fr},(∀f f',nW f f'→Z f→Z f')→nW fr fr'→lM P ops n h Z l fr→lM P ops n h Z l fr'
 | [],fr,fr',hZ,e,q=>hZ _ _ e q
 | o:: l,fr,fr',hZ,e,⟨x,hy,q⟩=>⟨x,hy.same fun t _=>(e t).symm,lM.eq l hZ (e.set n o.dst x) q⟩
theorem Fg:∀(l1 l2:List Oper) {fr:Fr},lM P ops n h (lM P ops n h Z l2) l1 fr→lM P ops n h Z (l1++l2) fr
 | [],_,_,q=>q
 | _:: l1,l2,_,⟨x,hy,q⟩=>⟨x,hy,Fg l1 l2 q⟩
theorem Dc{Z':Fr→Prop}:∀(l:List Oper) {fr:Fr},(∀f,Z f→Z' f)→lM P ops n h Z l fr→lM P ops n h Z' l fr
 | [],_,hz,q=>hz _ q
 | _:: l,_,hz,⟨x,hy,q⟩=>⟨x,hy,Dc l hz q⟩
def jT(ops:Array Oper)(l:List Nat):List Oper:=l.filterMap (ops[·]?)
omit [Laid] in
theorem FN:∀(ms:List Nat) (fr:Fr) (s:List AV) (k t:Nat),(∀i u,ms[i]?=some u→∃x,s[k+i]?=some x) →
 (t∉ms∧bA (mW fr ms s k) t=bA fr t)∨∃i x,ms[i]?=some t∧s[k+i]?=some x∧bA (mW fr ms s k) t=x
 | [],fr,s,k,t,_=>.inl ⟨by simp,rfl⟩
 | m:: ms,fr,s,k,t,hs=>by
   rw[mW];rcases FN ms (eU fr m (nx s k)) s (k+1) t (fun i u e=>by
    obtain⟨x,hx⟩:=hs (i+1) u (by simpa using e);exact⟨x,by rw[show k+1+i=k+(i+1) by omega];exact hx⟩) with⟨h1,h2⟩|⟨i,x,h1,h2,h3⟩
   ·rw[fI]at h2
    by_cases e:m=t
    ·right;obtain⟨x,hx⟩:=hs 0 m rfl;rw[if_pos e]at h2;refine⟨0,x,by simp[e],hx, ?_⟩;rw[h2];unfold nx;rw[nE,show k=k+0 from rfl,hx];rfl
    ·left;rw[if_neg e]at h2;exact⟨by simp[Ne.symm e,h1],h2⟩
   ·exact .inr ⟨i+1,x,by simpa using h1,by rw[show k+(i+1)=k+1+i by omega];exact h2,h3⟩
omit [Laid] in
theorem KY{fr fr':Fr}{ms:List Nat}(hk:∀t,t∉ms→bA fr' t=bA fr t):nW (mW fr ms (dV fr' ms) 0) fr':=by
 intro t;rcases FN ms fr (dV fr' ms) 0 t (fun i u e=>⟨bA fr' u,by rw[aaQ,dV,iN,e];rfl⟩) with⟨h1,h2⟩|⟨i,x,h1,h2,h3⟩
 ·rw[h2,hk t h1]
 ·rw[h3];rw[aaQ,dV,iN,h1]at h2;simpa using h2.symm
theorem Hh:∀(l:List (Nat×Bool)) (fr:Fr) (K:Fr→Prop),dL P ops n h l fr K→dL P ops n h l fr fun fr' => K fr'∧∀t,t∉u4 ops l→bA fr' t=bA fr t
 | [],fr,K,q=>⟨q,fun _ _=>rfl⟩
 | (i,own):: l,fr,K,q=>by
  simp only[dL]at q ⊢;cases ho:ops[i]? with
  | none=>rw[ho]at q;exact q.elim
  | some o =>
    simp only[ho]at q ⊢;obtain⟨x,q1,q2⟩:=q;refine⟨x,q1, ?_⟩;have:=Hh l _ _ q2;have mono:∀(l:List (Nat×Bool)) (fr:Fr) (A B:Fr→Prop),(∀f,A f→B f)→dL P ops n h l fr A→dL P ops n h l fr B:=by
     intro l;induction l with
     | nil=>intro fr A B hab q;exact hab _ q
     | cons p l ih =>
       intro fr A B hab q;simp only[dL]at q ⊢;cases ho:ops[p.1]? with
       | none=>rw[ho]at q;exact q.elim
       | some o =>
         simp only[ho]at q ⊢;obtain⟨x,q1,q2⟩:=q;exact⟨x,q1,ih _ _ _ hab q2⟩
    refine mono l _ _ _ (fun f hf=>⟨hf.1,fun t ht=>?_⟩) this;simp only[u4,ho]at ht;cases hd:o.dst with
    | none=>simp only[hd]at ht;rw[hf.2 t ht,hd];rfl
    | some u =>
      simp only[hd,ID,not_or]at ht;rw[hf.2 t ht.2,hd];exact fJ fun e he=>by cases he;exact Ne.symm ht.1
omit [Laid] in
theorem rJ:∀(l:List (Nat×Bool)) (fr:Fr) (t:Nat),t∉u4 ops l→bA (CV ops n l fr) t=bA fr t
 | [],fr,t,_=>rfl
 | (i,own):: l,fr,t,ht=>by
  simp only[CV];simp only[u4]at ht;cases ho:ops[i]? with
  | none=>simp only[ho]at ht ⊢;exact rJ l fr t ht
  | some o =>
    simp only[ho]at ht ⊢;cases hd:o.dst with
    | none=>simp only[hd]at ht ⊢;exact rJ l _ t ht
    | some u =>
      simp only[hd,ID,not_or]at ht ⊢;rw[rJ l _ t ht.2];exact fJ fun e he=>by cases he;exact Ne.symm ht.1
omit [Laid] in
theorem oy{i:Nat}{o:Oper}{l:List Nat}(h:ops[i]?=some o):jT ops (i:: l)=o:: jT ops l:=by simp[jT,h]
theorem Li{j d:Nat}{want:Bool}(hd:eJ ops j=some d){K:Fr→Prop}:∀(l:List (Nat×Bool)) (fr:Fr),
 l.all (fun p=>match ops[p.1]? with|some o=>o.guard == some (j,want)|none=>false)=true→(l.dropLast).all (fun p=>match ops[p.1]? with|some o=>o.dst != some d|none=>false)=true →
 (l≠[]→bA fr d=.v (.bool want))→dL P ops n h l fr K→lM P ops n h K (jT ops (l.map (·.1))) fr
 | [],fr,_,_,_,q=>q
 | (i,own):: l,fr,hgs,hds,hc,q=>by
  simp only[aa2,NO]at hgs;obtain⟨hg,hgs⟩:=hgs;simp only[dL]at q;cases ho:ops[i]? with
  | none=>rw[ho]at q;exact q.elim
  | some o =>
    simp only[ho,beq_iff_eq]at hg q;obtain⟨x,q1,q2⟩:=q;rw[GO,oy ho];refine⟨x,.inl ⟨by simp[gG,hg,hd,hc (by simp)],_,q1⟩,Li hd l _ hgs ?_ (fun hne=>?_) q2⟩
    ·cases l with
     | nil=>rfl
     | cons p l=>simp only[List.dropLast_cons_cons,aa2,NO]at hds;exact hds.2
    ·cases l with
     | nil=>exact absurd rfl hne
     | cons p l =>
       simp only[List.dropLast_cons_cons,aa2,NO,ho,bne_iff_ne,ne_eq]at hds;rw[fJ fun e he q=>hds.1 (by rw[he,q])];exact hc (by simp)
theorem B5{j d:Nat}{want:Bool}(hd:eJ ops j=some d){K:Fr→Prop}:∀(l:List (Nat×Bool)) (fr:Fr),
 l.all (fun p=>match ops[p.1]? with|some o=>o.guard == some (j,want)|none=>false)=true→(l.dropLast).all (fun p=>match ops[p.1]? with|some o=>o.dst != some d|none=>false)=true →
 (l≠[]→bA fr d=.v (.bool (!want))∨bA fr d=.v undef)→K (CV ops n l fr)→lM P ops n h K (jT ops (l.map (·.1))) fr
 | [],fr,_,_,_,q=>q
 | (i,own):: l,fr,hgs,hds,hc,q=>by
  simp only[aa2,NO]at hgs;obtain⟨hg,hgs⟩:=hgs;simp only[CV]at q;cases ho:ops[i]? with
  | none=>simp only[ho]at hg;cases hg
  | some o =>
    simp only[ho,beq_iff_eq]at hg q;rw[GO,oy ho];have hw:gG ops o fr=some false:=by
     unfold gG;simp only[hg,hd];rcases hc (by simp) with z|z
     ·rw[z];cases want<;>rfl
     ·rw[z];rfl
    refine⟨.v undef,.inr ⟨hw,rfl⟩,B5 hd l _ hgs ?_ (fun hne=>?_) q⟩
    ·cases l with
     | nil=>rfl
     | cons p l=>simp only[List.dropLast_cons_cons,aa2,NO]at hds;exact hds.2
    ·cases l with
     | nil=>exact absurd rfl hne
     | cons p l =>
       simp only[List.dropLast_cons_cons,aa2,NO,ho,bne_iff_ne,ne_eq]at hds;rw[fJ fun e he q=>hds.1 (by rw[he,q])];exact hc (by simp)
theorem ti(hZ:∀f f',nW f f'→Z f→Z f'):∀(l:List cW) (fr:Fr),l.all (lI ops)=true→l.all (rL ops n)=true→kL P ops n h l fr Z→lM P ops n h Z (jT ops (l.map cW.ix).flatten) fr
 | [],fr,_,_,q=>q
 | .op i own:: r,fr,hok,hdk,q=>by
   simp only[aa2,NO]at hok hdk;simp only[kL]at q;cases ho:ops[i]? with
   | none=>rw[ho]at q;exact q.elim
   | some o =>
     simp only[ho]at q;obtain⟨x,q1,q2⟩:=q;have hg:=hok.1;simp only[lI,ho,Option.isNone_iff_eq_none]at hg;simp only[GO,abc,cW.ix,List.singleton_append];rw[oy ho];exact⟨x,.inl ⟨by simp[gG,hg],_,q1⟩,ti hZ r _ hok.2 hdk.2 q2⟩
 | .aD j want l cs ms:: r,fr,hok,hdk,q=>by
   simp only[aa2,NO]at hok hdk;obtain⟨hg,hok⟩:=hok;obtain⟨hdg,hdk⟩:=hdk;simp only[kL]at q;cases hd:eJ ops j with
   | none=>rw[hd]at q;exact q.elim
   | some d =>
     simp only[hd]at q;simp only[lI,hd,NO]at hg;simp only[rL,NO]at hdg;have hsub:∀t,t∉ms→t∉u4 ops l:=fun t ht ht' => ht (by simpa using At.1 hdg.1 t ht');unfold aw at q;simp only[GO,abc,cW.ix];have split:jT ops (l.map (·.1)++(r.map cW.ix).flatten)=jT ops (l.map (·.1))++jT ops (r.map cW.ix).flatten:=by simp[jT,List.filterMap_append]
     rw[split];refine Fg _ _ ?_;have after:∀{fr':Fr},(∀t,t∉ms→bA fr' t=bA fr t)→kL P ops n h r (mW fr ms (dV fr' ms) 0) Z→lM P ops n h Z (jT ops (r.map cW.ix).flatten) fr':=fun hk k =>
      lM.eq _ hZ (KY hk) (ti hZ r _ hok hdk k)
     rcases q with⟨t,ht0,g1,g2⟩|⟨hu,g2⟩
     ·by_cases ht:t=want
      ·subst ht;exact Dc _ (fun f hf=>after (fun u hu=>hf.2 u (hsub u hu)) hf.1) (Li hd l fr hg.1 hg.2 (fun _=>ht0) (Hh l fr _ (g1 rfl)))
      ·have ht':t=!want:=by cases t<;>cases want<;>simp_all
       subst ht';exact B5 hd l fr hg.1 hg.2 (fun _=>.inl ht0) (after (fun u hu=>rJ l fr u (hsub u hu)) (g2 rfl))
     ·exact B5 hd l fr hg.1 hg.2 (fun _=>.inr hu) (after (fun u hu' => rJ l fr u (hsub u hu')) g2)
end
def KT(P:Program)(ops:Array Oper)(n t:Nat)(l r q:List cW):Bool:=
 P.follows .mixedOrders&&qM ops t&&rU ops t t 0 (Array.replicate ops.size false)&&l.all (lI ops)&&l.all (rL ops n)&&(l.map cW.ix).flatten == List.range' 0 t &&
  (match og ops (r.map cW.ix).flatten (full ops t) with
  | some listed=>rU ops ops.size (q.map cW.ix).flatten.length (t+(r.map cW.ix).flatten.length) listed
  | none=>false)&&r.all (lI ops)&&q.all (lI ops)&&q.all (rL ops n)&&(q.map cW.ix).flatten == List.range' (t+(r.map cW.ix).flatten.length) (q.map cW.ix).flatten.length &&
  decide (t+(r.map cW.ix).flatten.length+(q.map cW.ix).flatten.length=ops.size)
def KU(P:Program)(ops:Array Oper)(t:Nat)(l r q:List cW)(Q:Exit→St→Prop)(st:St):Prop:=
 cM (KT P ops st.n t l r q) (pQ P ops st.n st.h l st.fr fun fr=>kR P ops r ⟨st.n,fr,st.h⟩ fun st' => cM (Nat.beq st'.n st.n) (pQ P ops st.n st'.h q st'.fr fun fr' => Q .normal ⟨st.n,fr',st'.h⟩))
omit [Laid] in
theorem J2(Q:Exit→St→Prop):iO (Q .normal) Q=Q:=by
 funext e st;cases e<;>rfl
theorem bX.drew{base:Nat}{ι:List Ix}{S:ba}{a:Act}{w:World}{st:St}(hr:bX base ι S a w st):bS ι.length base ι S w ι S { w with drawn:=w.drawn+1 }∧bX base ι S a { w with drawn:=w.drawn+1 } st:=by
 have hE:bS ι.length base ι S w ι S { w with drawn:=w.drawn+1 }:=⟨fun _ _=>fX.refl _,fun _ _ h=>h,fun _ _ h=>.inl h,fun _ _ _=>rfl,fun _ _ h=>h,(Below.refl base w).drew⟩;exact⟨hE,hr.df,hr.sz,dC.fV hE (bY _) hr.fr,hr.hp.vY hE hr.hp.len st.h.length (fun i _ _=>⟨rfl,rfl,fun _ _ _=>⟨rfl,fun _ q=>q⟩⟩) (fun x e=>by simp at e) (fun _ _ _ e=>by simp at e) (fun _ e=>by simp at e) (fun j b _ aT=>by simp[alive]at aT) hr.hp.iM hr.hp.kx⟩
theorem Qd:∀(l:List (Nat×Bool)) (fr:Fr) (A B:Fr→Prop),(∀f,A f→B f)→dL P ops n h l fr A→dL P ops n h l fr B:=by
 intro l;induction l with
 | nil=>intro fr A B hab q;exact hab _ q
 | cons p l ih =>
   intro fr A B hab q;simp only[dL]at q ⊢;cases ho:ops[p.1]? with
   | none=>rw[ho]at q;exact q.elim
   | some o =>
     simp only[ho]at q ⊢;obtain⟨x,q1,q2⟩:=q;exact⟨x,q1,ih _ _ _ hab q2⟩
theorem AU:∀(l:List cW) (fr:Fr) (A B:Fr→Prop),(∀f,A f→B f)→kL P ops n h l fr A→kL P ops n h l fr B:=by
 intro l;induction l with
 | nil=>intro fr A B hab q;exact hab _ q
 | cons p l ih =>
   intro fr A B hab q;cases p with
   | op i own =>
     simp only[kL]at q ⊢;cases ho:ops[i]? with
     | none=>rw[ho]at q;exact q.elim
     | some o =>
       simp only[ho]at q ⊢;obtain⟨x,q1,q2⟩:=q;exact⟨x,q1,ih _ _ _ hab q2⟩
   | aD j want ll cs ms =>
     simp only[kL,aw]at q ⊢;cases hd:eJ ops j with
     | none=>rw[hd]at q;exact q.elim
     | some d =>
       simp only[hd]at q ⊢;rcases q with⟨t,ht,g1,g2⟩|⟨hu,g2⟩
       ·exact .inl ⟨t,ht,fun z=>Qd _ _ _ _ (fun f hf=>ih _ _ _ hab hf) (g1 z),fun z=>ih _ _ _ hab (g2 z)⟩
       ·exact .inr ⟨hu,ih _ _ _ hab g2⟩
omit [Laid] in
theorem zh{ops:Array Oper}:∀(L k:Nat),k+L≤ops.size→(jT ops (List.range' k L)).length=L∧∀j,j<L→(jT ops (List.range' k L))[j]?=ops[k+j]?
 | 0,k,_=>⟨rfl,fun j hj=>by omega⟩
 | L+1,k,hk=>by
   obtain⟨i1,i2⟩:=zh (ops:=ops) L (k+1) (by omega);have hlt:k<ops.size:=by omega
   have e:jT ops (List.range' k (L+1))=ops[k]:: jT ops (List.range' (k+1) L):=by
    rw[List.range'_succ];exact oy (UP hlt)
   rw[e];refine⟨by simp[i1],fun j hj=>?_⟩;cases j with
   | zero=>simp[hlt]
   | succ j=>rw[List.getElem?_cons_succ,i2 j (by omega)];rw[show k+1+j=k+(j+1) by omega]
theorem xg{m t k L more:Nat}{l:List cW}{Z:Fr→Prop}{listed:Array Bool}(k2:qM ops t=true)(k5:l.all (lI ops)=true)(k6:l.all (rL ops n)=true)
 (k8:(l.map cW.ix).flatten=List.range' k L) (hL:k+L≤ops.size) (down:Down ops listed) (k3:rU ops t L k listed=true) (hm:m≤h.length)
 (hZ:∀fr base ι S a w,bX base ι S a w ⟨n,fr,h⟩→Z fr→wpAny P .any ops (dv m base ι S w Q) more (full ops t) a w)
 {base:Nat} {ι:List Ix} {S:ba} {a:Act} {w:World} {fr:Fr} (hr:bX base ι S a w ⟨n,fr,h⟩) (q:pQ P ops n h l fr Z):wpAny P .any ops (dv m base ι S w Q) (L+more) listed a w:=by
 let Z':Fr→Prop:=fun fr=>∀base ι S a w,bX base ι S a w ⟨n,fr,h⟩→wpAny P .any ops (dv m base ι S w Q) more (full ops t) a w
 have hZeq:∀f f',nW f f'→Z' f→Z' f':=fun f f' e z base ι S a w hr=>z base ι S a w ⟨hr.df,hr.sz,fun u=>by rw[e u];exact hr.fr u,hr.hp⟩;have q2:kL P ops n h l fr Z':=AU l fr _ Z' (fun fr hfr base ι S a w hr=>hZ fr base ι S a w hr hfr) (rq _ _ _ q);have q3:=ti hZeq l fr k5 k6 q2;rw[k8]at q3;obtain⟨l1,l2⟩:=zh (ops:=ops) L k hL;have q4:=Ek k2 (jT ops (List.range' k L)) k listed fr (fun j hj=>l2 j (by rw[l1]at hj;exact hj)) down (by rw[l1];exact k3) q3;rw[l1]at q4;exact AD (m:=m) (Q':=Q) (more:=more) (Z:=Z') (fun fr base ι S a w hr z=>z base ι S a w hr) L _ base ι S a _ fr hm hr q4
omit [Laid] in
theorem sW:Region.ready .any ops (full ops ops.size)=[]:=by
 refine List.eq_nil_iff_forall_not_mem.2 fun i hi=>?_;obtain⟨h0,o,ho,_⟩:=mem_ready.1 hi;have hlt:=(AS.1 ho).1;simp[full,hlt]at h0
omit [Laid] in
theorem EP:qM ops ops.size=true:=by
 unfold qM;exact At.2 fun i hi=>by simp at hi;simp[hi]
omit [Laid] in
theorem Dd{ops:Array Oper}{t:Nat}:∀(L k:Nat) (listed:Array Bool),Down ops listed→rU ops t L k listed=true→Down ops (full ops t)
 | 0,k,listed,hd,hl=>by simp only[rU,beq_iff_eq]at hl;exact hl▸hd
 | L+1,k,listed,hd,hl=>by
   simp only[rU,NO,Of]at hl;exact Dd L (k+1) _ (hd.set (by simpa using hl.1.1.1)) hl.2
theorem JW{m id t:Nat}{l r q:List cW}(hm:m≤st.h.length)(hq:KU P ops t l r q Q st):AW P m (.region id ops true) Q st:=by
 intro base ι S a w _ hr;obtain⟨hok,hq⟩:=aZ hq;simp only[KT,NO,beq_iff_eq,Of]at hok;obtain⟨⟨⟨⟨⟨⟨⟨⟨⟨⟨⟨k1,k2⟩,k3⟩,k5⟩,k6⟩,k8⟩,k4⟩,k7⟩,q5⟩,q6⟩,q8⟩,k9⟩:=hok;split at k4
 ·rename_i listed' hch;obtain⟨hE,hr'⟩:=hr.drew;have fin:wpAny P .any ops (dv m base ι S { w with drawn:=w.drawn+1 } Q) ops.size (Array.replicate ops.size false) a { w with drawn:=w.drawn+1 }→(Code.region id ops true).wp P (dv m base ι S w Q) a w:=fun h1 =>
   wp_region_any k1 (dR (fun e a w z=>dv.trans (hE.mono (by rw[hr.hp.len];exact hm) (bY _)) z) _ _ _ _ h1)
  have down0:Down ops (Array.replicate ops.size false):=fun i o ho hl=>by
   have hlt:=(AS.1 ho).1;simp[hlt]at hl
  refine fin ?_;have down1:=Dd _ _ _ down0 k3;have down2:=tF _ _ _ down1 hch;have key:=xg (Q:=Q) (more:=(r.map cW.ix).flatten.length+(q.map cW.ix).flatten.length) k2 k5 k6 k8 (by omega) down0 k3 hm (fun fr base ι S a w hr hfr=>?_) hr' hq
  ·rwa [show t+((r.map cW.ix).flatten.length+(q.map cW.ix).flatten.length)=ops.size by omega]at key
  ·have hs:=oD (m:=m) (Q:=Q) r base ι S a w ⟨st.n,fr,st.h⟩ k7 hm hr hfr;refine uQ (fun e a w hne z=>?_) (fun a w z=>?_) _ _ _ _ hch hs
   ·obtain⟨ι',S',st',z1,z2,z3,z4⟩:=z;refine⟨ι',S',st',z1,z2,z3, ?_⟩;cases e<;>first|exact absurd rfl hne|exact z4
   ·obtain⟨ι',S',st',z1,z2,z3,z4⟩:=z;obtain⟨n',fr',h'⟩:=st';obtain⟨en,z4⟩:=aZ z4;have en:n'=st.n:=lE en;subst en;have:=xg (m:=m) (more:=0) (Q:=Q) EP q5 q6 q8 (by omega) down2 k4 z2 (fun fr base ι S a w hr hfr=>⟨sW,ι,S,⟨st.n,fr,h'⟩,bS.refl _ _ _ _ _,z2,hr,hfr⟩) z3 z4;exact dR (fun e a w z=>dv.trans z1 z) _ _ _ _ this
 ·cases k4
section
variable {P:Program} {ops:Array Oper} {n:Nat}
end
/-! ### What is listed -/
section
variable (ops:Array Oper) (n:Nat) (V:Nat→AV) (lo:Nat→Bool)
def fO(fr0:Fr)(L:Nat→Bool):Nat→Fr
 | 0=>fr0
 | k+1=>match L k with|true=>bN n (fO fr0 L k) (eJ ops k) (V k)|false=>fO fr0 L k
def lR(L:Nat→Bool):Nat→Nat
 | 0=>0
 | k+1=>match L k&&lo k with|true=>lR L k+1|false=>lR L k
end
section
variable {ops:Array Oper} {n:Nat} {V:Nat→AV} {lo:Nat→Bool} {fr0:Fr}
omit [Laid] in
theorem qb{l1 l2:Nat→Bool}{t:Nat}:∀k,(∀j,j<k→eJ ops j=some t→l1 j=l2 j)→bA (fO ops n V fr0 l1 k) t=bA (fO ops n V fr0 l2 k) t
 | 0,_=>rfl
 | k+1,h=>by
   have ih:=qb k fun j hj=>h j (by omega)
   by_cases hd:eJ ops k=some t
   ·have e:=h k (by omega) hd;unfold fO;rw[e];cases l2 k with
    | false=>exact ih
    | true =>
      simp only;rw[hd];unfold bN;simp only;split
      ·rw[fI,fI,if_pos rfl,if_pos rfl]
      ·exact ih
   ·have off:∀l:Nat→Bool,bA (fO ops n V fr0 l (k+1)) t=bA (fO ops n V fr0 l k) t:=by
     intro l;rw[fO];cases l k with
     | false=>rfl
     | true=>exact fJ fun e he q=>hd (by rw[he,q])
    rw[off,off];exact ih
omit [Laid] in
theorem u9{L:Nat→Bool}{t:Nat}{k:Nat}:∀m,k≤m→(∀j,k≤j→j<m→eJ ops j=some t→L j=false)→bA (fO ops n V fr0 L m) t=bA (fO ops n V fr0 L k) t
 | 0,hk,_=>by rw[show k=0 by omega]
 | m+1,hk,h=>by
   by_cases e:k=m+1
   ·rw[e]
   ·have ih:=u9 m (by omega) fun j h1 h2=>h j h1 (by omega);rw[←ih,fO];cases hl:L m with
    | false=>rfl
    | true =>
      refine fJ fun e he q=>?_;have:=h m (by omega) (by omega) (by rw[he,q]);rw[hl]at this;cases this
omit [Laid] in
theorem Eu{l1 l2:Nat→Bool}{i:Nat}(hi:l1 i=false)(h2:∀j,l2 j=(l1 j||j == i)):∀k,lR lo l2 k=lR lo l1 k+(if i<k∧lo i=true then 1 else 0)
 | 0=>by simp[lR]
 | k+1=>by
   rw[lR,lR,Eu hi h2 k,h2 k]
   by_cases e:k=i
   ·subst e;simp only[hi,beq_self_eq_true,Bool.or_true,Bool.true_and,Bool.false_and];cases hk:lo k<;>simp
   ·have:(k == i)=false:=by simpa using e
    rw[this,Bool.or_false];have h3:(i<k+1∧lo i=true)↔(i<k∧lo i=true):=⟨fun⟨a,b⟩=>⟨by omega,b⟩,fun⟨a,b⟩=>⟨by omega,b⟩⟩;simp only[h3];split<;>(split<;>omega)
end
section
variable {lo:Nat→Bool}
omit [Laid] in
theorem G9{L:Nat→Bool}:∀N,(∀i,i<N→L i=true)→lR (fun _=>true) L N=N
 | 0,_=>rfl
 | N+1,h=>by
   rw[lR,h N (by omega),G9 N fun i hi=>h i (by omega)];rfl
omit [Laid] in
theorem Ev{L:Nat→Bool}:∀N,lR (fun _=>true) L N=N→∀i,i<N→L i=true
 | 0,_,i,hi=>by omega
 | N+1,h,i,hi=>by
   have h2:∀N,lR (fun _=>true) L N≤N:=by
    intro N;induction N with
    | zero=>exact bY _
    | succ N ih=>rw[lR];split<;>omega
   have:=h2 N;rw[lR]at h;cases q:L N with
   | false=>rw[q]at h;simp only[Bool.false_and]at h;omega
   | true =>
     rw[q]at h;simp only[Bool.and_self]at h
     by_cases e:i=N
     ·rw[e];exact q
     ·exact Ev N (by omega) i (by omega)
end
structure sF(ops:Array Oper)(lo:Nat→Bool)(an:Nat→Nat→Bool):Prop where
 back:∀i,i<ops.size→∀e∈dS ops i,e<i
 anc:∀i j,an i j=true→∃e∈dS ops i,e=j∨an e j=true
 apart:∀i j,i<ops.size→j<i→∀oi oj,ops[i]?=some oi→ops[j]?=some oj→(∃t,(eJ ops j=some t∧(t∈oi.looksAt ops∨eJ ops i=some t))∨(eJ ops i=some t∧t∈oj.looksAt ops))→an i j=true
 chain:∀i j,i<ops.size→j<i→lo i=true→lo j=true→an i j=true
section
variable {P:Program} {ops:Array Oper} {n:Nat} {V:Nat→AV} {lo:Nat→Bool} {fr0:Fr} {an:Nat→Nat→Bool} {Hs:Nat→aa}
omit [Laid] in
theorem sF.listed(hE:sF ops lo an){L:Array Bool}(hd:Down ops L):∀(i:Nat),i<ops.size→(∀e∈dS ops i,L.getD e false=true)→∀j,an i j=true→L.getD j false=true:=by
 intro i;induction i using Nat.strongRecOn with
 | _ i ih =>
   intro hi ha j hj;obtain⟨e,he,q⟩:=hE.anc i j hj;rcases q with rfl|q
   ·exact ha _ he
   ·have hlt:=hE.back i hi e he;refine ih e hlt (by omega) (fun d hd' => ?_) j q;have hle:=ha e he;obtain⟨o,ho⟩:∃o,ops[e]?=some o:=⟨ops[e],UP (by omega)⟩;unfold dS at hd';rw[ho]at hd';simp only[aaF,aaY]at hd';obtain⟨x,⟨hx,hb⟩,rfl⟩:=hd';exact hd e o ho hle x (by simpa using hx) hb
omit [Laid] in
theorem sF.Di(hE:sF ops lo an){L:Array Bool}(hd:Down ops L){i j:Nat}(hi:i<ops.size)(hl:L.getD i false=true)(hj:an i j=true):L.getD j false=true:=by
 refine hE.listed hd i hi (fun e he=>?_) j hj;obtain⟨o,ho⟩:∃o,ops[i]?=some o:=⟨ops[i],UP hi⟩;unfold dS at he;rw[ho]at he;simp only[aaF,aaY]at he;obtain⟨x,⟨hx,hb⟩,rfl⟩:=he;exact hd i o ho hl x (by simpa using hx) hb
omit [Laid] in
theorem sF.FC(hE:sF ops lo an){L:Array Bool}(hd:Down ops L){i j:Nat}(hi:i<ops.size)(hr:i∈Region.ready .any ops L)(hj:an i j=true):L.getD j false=true:=by
 refine hE.listed hd i hi (fun e he=>?_) j hj;obtain⟨_,o,ho,hall⟩:=mem_ready.1 hr;unfold dS at he;rw[ho]at he;simp only[aaF,aaY]at he;obtain⟨x,⟨hx,hb⟩,rfl⟩:=he;exact hall x (by simpa using hx) hb
end
/-! ### What waits for what -/
def VY(acc:List Nat)(l:List Nat):Nat:=l.foldr (fun e s=>s ||| (1 <<< e) ||| acc.getD e 0) 0
def JI(ops:Array Oper):Nat→List Nat
 | 0=>[]
 | k+1=>JI ops k++[VY (JI ops k) (dS ops k)]
def AA(ms:List Nat)(i j:Nat):Bool:=(ms.getD i 0).testBit j
def Fi(ops:Array Oper)(i:Nat):List Tmp:=match ops[i]? with|some o=>o.looksAt ops|none=>[]
def NY(d:Option Tmp)(l:List Tmp):Bool:=match d with|some t=>l.contains t|none=>false
def Jb(ops:Array Oper)(i j:Nat):Bool:=
 NY (eJ ops j) (Fi ops i)||NY (eJ ops i) (Fi ops j)||(match eJ ops i,eJ ops j with|some a,some b=>Nat.beq a b|_,_=>false)
def EF(ops:Array Oper)(lo:Nat→Bool)(ms:List Nat)(N:Nat):Bool:=
 decide (ms.length≤N)&&ms.all (fun x=>Nat.ble (x+1) (2^N))&&(List.range N).all fun i =>
  (dS ops i).all (fun e=>Nat.ble (e+1) i)&&(List.range N).all (fun j=>!AA ms i j||(dS ops i).any fun e=>Nat.beq e j||AA ms e j)&&(List.range i).all fun j=>AA ms i j||!(Jb ops i j||(lo i&&lo j))
section
omit [Laid]
theorem EG{ops:Array Oper}{lo:Nat→Bool}{ms:List Nat}(h:EF ops lo ms ops.size=true):sF ops lo (AA ms):=by
 unfold EF at h;simp only[NO,Of]at h;obtain⟨⟨h1,h2⟩,h3⟩:=h;have at':∀i,i<ops.size→((∀e∈dS ops i,e<i)∧(∀j,j<ops.size→AA ms i j=true→∃e∈dS ops i,e=j∨AA ms e j=true)∧∀j,j<i→Jb ops i j=true∨(lo i=true∧lo j=true)→AA ms i j=true):=by
  intro i hi;have:=At.1 h3 i (by simpa using hi);simp only[NO]at this;obtain⟨⟨a,b⟩,c⟩:=this;refine⟨fun e he=>?_,fun j hj ha=>?_,fun j hj hc=>?_⟩
  ·have:=At.1 a e he;rw[Nat.ble_eq]at this;omega
  ·have:=At.1 b j (by simpa using hj);rw[ha]at this;simp only[Bool.not_true,Bool.false_or,List.any_eq_true,aa7]at this;obtain⟨e,he,q⟩:=this;exact⟨e,he,q.imp lE id⟩
  ·have:=At.1 c j (by simpa using hj);simp only[aa7,aa8,abi,Bool.and_eq_false_iff]at this;rcases this with q|⟨q1,q2⟩
   ·exact q
   ·rcases hc with r|⟨r1,r2⟩
    ·rw[q1]at r;cases r
    ·rcases q2 with q2|q2
     ·rw[q2]at r1;cases r1
     ·rw[q2]at r2;cases r2
 have anlt:∀i j,AA ms i j=true→i<ops.size∧j<ops.size:=by
  intro i j h;unfold AA at h
  by_cases hi:i<ms.length
  ·refine⟨by omega, ?_⟩;have hm:=At.1 h2 ms[i] (aaW hi);rw[Nat.ble_eq]at hm;rw[nE,dO hi]at h;simp only[Option.getD_some]at h;rcases uP j ops.size with q|q
   ·exact q
   ·have:ms[i].testBit j=false:=Nat.testBit_lt_two_pow (Up (show ms[i]<2^ops.size by omega) (Nat.pow_le_pow_right (by omega) q));rw[this]at h;cases h
  ·rw[nE,iS (by omega)]at h;simp at h
 refine⟨fun i hi=>(at' i hi).1,fun i j h=>(at' i (anlt i j h).1).2.1 j (anlt i j h).2 h,fun i j hi hj oi oj hoi hoj hc=>(at' i hi).2.2 j hj (.inl ?_),fun i j hi hj h1 h2=>(at' i hi).2.2 j hj (.inr ⟨h1,h2⟩)⟩;unfold Jb Fi NY;rw[hoi,hoj];obtain⟨t,⟨hd,hl⟩|⟨hd,hl⟩⟩:=hc
 ·rcases hl with hl|hl
  ·simp only[hd];simp only[aa7];exact .inl (.inl (by simpa using hl))
  ·simp only[hd,hl];simp
 ·simp only[hd];simp only[aa7];exact .inl (.inr (by simpa using hl))
end
end
end Go.Aw
end
