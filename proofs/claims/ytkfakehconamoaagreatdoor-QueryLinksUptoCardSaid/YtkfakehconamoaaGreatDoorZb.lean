/-
 'append' and what else makes or grows a slice: the model's operations meet their words.
 No conditions.
-/
import Derived.Deep.AppendSrc
import Derived.Deep.Upon
import Derived.Test.YtkfakehconamoaaGreatDoorZa
set_option linter.unusedVariables false
set_option linter.unusedSimpArgs false
set_option linter.unusedSectionVars false
set_option linter.defProp false
set_option autoImplicit true
set_option maxRecDepth 1000000
set_option maxHeartbeats 16000000
noncomputable section
namespace Go.Aw
section
open Go Go.RowKit
variable [Laid]
def cy.kill{base:Nat}(hh:cy base ι S w h)(id:Nat):cy base ι S w (h.set id .dead):=by
 have dead:∀{x},(h.set id .dead)[id]?=some x→x=.dead:=by
  intro x e
  by_cases hl:id<h.length
  ·rw[iF hl]at e;exact (GO e).symm
  ·rw[lE (by simpa using hl)]at e;cases e
 refine hh.wu (bM.refl _ _ _ _ _) (by simp[hh.len]) id (fun i hi _=>⟨iN (Ne.symm hi),rfl,fun _ _ _=>⟨rfl,fun _ q=>q⟩⟩) (fun x e=>?_) (fun e sz n q=>?_) (fun en q=>by rw[dead q];trivial) (fun j b _ aT _ _ _=>?_) hh.fV hh.ji
 ·cases dead e
 ·cases dead q
 ·cases e:(h.set id .dead)[id]? with
  | none=>rw[e]at aT;exact aT.elim
  | some x=>rw[e,dead e]at aT;exact aT.elim
omit [Laid] in
def bM.grow{base:Nat}(k:List Ix):bM ι.length base ι S w (ι++k) S w:=
 ⟨fun i hi=>eW.of_eq (gE hi),fun _ _ h=>h,fun _ _ h=>.inl h,fun _ _ _=>rfl,fun _ _ h=>h,Below.refl _ _⟩
def cy.drew{base:Nat}(hh:cy base ι S w h):bM ι.length base ι S w ι S w.drew∧cy base ι S w.drew h:=by
 have hE:bM ι.length base ι S w ι S w.drew:=⟨fun _ _=>eW.refl _,fun _ _ h=>h,fun _ _ h=>.inl h,fun _ _ _=>rfl,fun _ _ h=>h,(Below.refl base w).drew⟩;exact⟨hE,hh.wu hE hh.len h.length (fun i _ _=>⟨rfl,rfl,fun _ _ _=>⟨rfl,fun _ q=>q⟩⟩) (fun x e=>by simp at e) (fun _ _ _ e=>by simp at e) (fun _ e=>by simp at e) (fun j b _ aT=>by simp[alive]at aT) hh.fV hh.ji⟩
omit [Laid] in
def oC(h:rG P e=true):∃i z,P.info? e=some i∧i.zero=some z∧z.cells.size=i.size∧P.cellsOf e=i.size∧iP P e=i.bytes:=by
 unfold rG at h;split at h
 ·rename_i i hi;split at h
  ·rename_i z hz;exact⟨i,z,hi,hz,by simpa using h,by simp[Program.cellsOf,hi],by simp[iP,hi]⟩
  ·cases h
 ·cases h
omit [Laid] in
theorem cg.flat{sz:Nat}:∀{rows:List (List AV)} {b off:Nat},cg ι S w sz rows b off→rows.flatten.length=rows.length*sz∧bI ι S w rows.flatten b off
 | [],b,off,_=>by simp[bI]
 | r:: rs,b,off,h=>by
   rw[cg]at h;obtain⟨h1,h2,h3⟩:=h;obtain⟨k1,k2⟩:=cg.flat h3;refine⟨by simp[h1,k1,aaP,Nat.add_comm],bI.mk fun i c e=>?_⟩;rw[aaM]at e;rcases AS i r.length with q|q
   ·rw[gE q]at e;exact h2.get i c e
   ·rw[iD q]at e;have:=k2.get _ c e;rw[show off+sz+(i-r.length)=off+i by omega]at this;exact this
omit [Laid] in
theorem BD:∀{cs:List AV} {vs:List Value},aD ι S w cs vs→cs.all bw=true→∀u∈vs,u.oneCell'=true
 | [],vs,h,_,u,hu=>by simp at h;subst h;cases hu
 | c:: cs,[],h,_,u,hu=>by simp at h
 | c:: cs,v:: vs,h,hs,u,hu=>by
   simp at h hs;simp only[IS]at hu;rcases hu with rfl|hu
   ·exact yr hs.1 h.1
   ·exact BD h.2 (by simpa using hs.2) u hu
omit [Laid] in
def bI.Em{arr:Array Value}{fz:Nat×Nat}(h:w.heap[b]?=some (.cells arr t fz)){cs:List AV}{vs:List Value}(r:aD ι S w cs vs){off:Nat}
 (ha:∀i v,vs[i]?=some v→arr[off+i]?=some v) (hs:∀i,i<vs.length→S b (off+i)):bI ι S w cs b off:=
 bI.mk fun i c e=>by
  obtain⟨v,e1,e2⟩:=r.get i c e;exact⟨v,by rw[hY h];exact ha i v e1,hs i (dO.1 e1).1,e2⟩
def EG{base:Nat}(hh:cy base ι S w h){t tx ty e:TypeId}(ht:P.underlying t=some (.slice e))(hz:rG P e=true)
 {v:Value} {rows:List (List AV)} {news:List Value} (hs:Src P (P.cellsOf e) tx v rows.length news w) (hn:aD ι S w rows.flatten news) (hrl:∀r∈rows,r.length=P.cellsOf e)
 {a:Option Addr} {cap:Nat} {bse:List (List AV)} {olds:List Value} (hbl:∀r∈bse,r.length=P.cellsOf e) (hlt:cap<bse.length+rows.length) (ho:aD ι S w bse.flatten olds)
 (hrd:(Builtin.firstCells (P.cellsOf e) bse.length (.slice a bse.length cap)).run P w.drew=.ok olds.toArray w.drew) (hm:bse.length+rows.length≤maxLen) (hby:(bse.length+rows.length)*iP P e≤140737488355328) :
 ∃u' w' arr S',(Builtin.append_ #[t,tx] ty #[.slice a bse.length cap,v]).run P w=.ok u' w'∧w'.heap=w.heap.push (.cells arr e)∧bM ι.length base ι S w ι S' w' ∧
  (∃cap',u'=.slice (some ⟨w.heap.size,0,none⟩) (bse.length+rows.length) cap'∧bse.length+rows.length≤cap'∧cap'≤maxLen∧cap'*P.cellsOf e≤arr.size) ∧
  (∀b o,S' b o↔S b o∨(b=w.heap.size∧o<(bse.length+rows.length)*P.cellsOf e))∧cg ι S' w' (P.cellsOf e) (bse++rows) w.heap.size 0:=by
 obtain⟨i,z,hi,hzz,hzs,hce,hbe⟩:=oC hz;rw[hbe]at hby;rw[hce]at hs hrl hbl hrd ⊢;have hnl:=hs.newsLen;have hol:olds.length=bse.length*i.size:=by rw[←ho.length,kO hbl]
 have hrun:=run_append_grow_src (P:=P) w t tx ty e i z ht hi hzz a bse.length cap olds hrd v rows.length news hs hlt (by simp only[maxLen]at hm;omega) (growslice_fits hlt hby);have hge:=grownCap_ge w (bse.length+rows.length) cap e;have hcm:=grownCap_le_maxLen w (bse.length+rows.length) cap e hm;generalize hZ:Builtin.zeroCells z.cells (grownCap w (bse.length+rows.length) cap e-(bse.length+rows.length))=Z at hrun;have hZs:Z.size=(grownCap w (bse.length+rows.length) cap e-(bse.length+rows.length))*i.size:=by rw[←hZ,size_zeroCells,hzs]
 let S':bj:=fun b o=>S b o∨(b=w.heap.size∧o<(bse.length+rows.length)*i.size)
 obtain⟨hE1,hH1⟩:=hh.drew;have hE2:bM ι.length base ι S w ι S' (w.drew.alloc (.cells ((olds++news).toArray++Z) e)):=
  ⟨fun _ _=>eW.refl _,fun _ _ q=>.inl q,fun b o q=>q.elim .inl fun q=>.inr (by rw[q.1];exact hh.ji),fun b o q=>World.cell?_of_block (w:=w) (Below.heap_alloc w.drew _ b (hh.fV b o q)),
   fun b x q=>xH (w:=w.drew) _ q,((Below.refl base w).drew).alloc hh.ji _⟩
 have hnew:(w.drew.alloc (.cells ((olds++news).toArray++Z) e)).heap[w.heap.size]?=some (.cells ((olds++news).toArray++Z) e):=by
  show (w.heap.push _)[w.heap.size]?=_;simp
 refine⟨_,_,(olds++news).toArray++Z,S',hrun,rfl,hE2,⟨_,rfl,hge,hcm, ?_⟩,fun _ _=>Iff.rfl, ?_⟩
 ·rw[Array.size_append,hZs,List.size_toArray,BY,hol,hnl,←aaP,←aaP];exact Nat.mul_le_mul_right _ (by omega)
 ·refine cg.of_flat (fun r hr=>?_) ?_
  ·rcases IN.1 hr with q|q
   ·exact hbl r q
   ·exact hrl r q
  ·rw[List.flatten_append];have r1:=(aD.fq hE2 (aS _) _ _ ho).append (aD.fq hE2 (aS _) _ _ hn);refine bI.Em hnew r1 (fun j v q=>?_) (fun j hj=>?_)
   ·rw[aaq,Array.getElem?_append_left (by simpa using (dO.1 q).1)];simpa using q
   ·right;refine⟨rfl, ?_⟩;rw[BY,hol,hnl,←aaP]at hj;omega
omit [Laid] in
theorem rV{P:Program}{sz:Nat}{rows:List (List AV)}{cap:Nat}(h:rows=[]∨∃b off,a=some ⟨b,off,none⟩∧cg ι S w sz rows b off):
 ∃olds,aD ι S w rows.flatten olds∧(Builtin.firstCells sz rows.length (.slice a rows.length cap)).run P w.drew=.ok olds.toArray w.drew:=by
 rcases h with rfl|⟨b,off,rfl,rr⟩
 ·refine⟨[],by simp, ?_⟩;cases a with
  | none=>exact run_firstCells_none w.drew sz 0 0 cap
  | some a=>exact run_firstCells_some w.drew sz 0 a 0 cap [] (by simp) (by simp)
 ·obtain⟨k1,k2⟩:=rr.flat;obtain⟨vs,rv,hc⟩:=k2.rF;refine⟨vs,rv,run_firstCells_some w.drew sz rows.length _ rows.length cap _ (by rw[←rv.length,k1]) fun j v q=>?_⟩;rw[addr_add];exact hc j v q
section
variable {P:Program} {o:Oper} {base:Nat} {ι:List Ix} {S:bj} {a:Act} {w:World} {st:St} {K:AV→aa→Prop}
omit [Laid] in
def EX{w:World}{n cap b c:Nat}(h:Bp (.slice (some ⟨c,0,none⟩) n cap) b):b=c:=by
 obtain⟨a,l,cap',e,h1,h2⟩:=h;cases e;exact h1.symm
omit [Laid] in
theorem kj:∀(vs:List Value) (w:World) (b o c:Nat),c≠b→(w.setCells b o vs).heap[c]?=w.heap[c]?
 | [],w,b,o,c,_=>rfl
 | v:: vs,w,b,o,c,h=>by
   rw[World.setCells,kj vs _ b (o+1) c h];exact Below.heap_setCell w ⟨b,o,none⟩ v c h
omit [Laid] in
theorem setCells_at:∀(vs:List Value) (w:World) (b o:Nat) {arr:Array Value} {t:TypeId} {fz:Nat×Nat},w.heap[b]?=some (.cells arr t fz)→o+vs.length≤arr.size →
 ∃arr',(w.setCells b o vs).heap[b]?=some (.cells arr' t fz)∧arr'.size=arr.size∧(∀i v,vs[i]?=some v→arr'[o+i]?=some v)∧∀i,(i<o∨o+vs.length≤i)→arr'[i]?=arr[i]?
 | [],w,b,o,arr,t,fz,h,_=>⟨arr,h,rfl,by simp,fun _ _=>rfl⟩
 | v:: vs,w,b,o,arr,t,fz,h,hl=>by
   simp only[aab]at hl;obtain⟨arr',k1,k2,k3,k4⟩:=setCells_at vs (w.setCell ⟨b,o,none⟩ v) b (o+1) (rZ h o v) (by simp;omega);refine⟨arr',k1,by simpa using k2,fun i u e=>?_,fun i hi=>?_⟩
   ·cases i with
    | zero =>
      simp only[List.getElem?_cons_zero,ON]at e;subst e;rw[Nat.add_zero,k4 o (.inl (by omega)),Array.getElem?_setIfInBounds];simp;omega
    | succ i =>
      have:=k3 i u (by simpa using e);rw[show o+(i+1)=o+1+i by omega];exact this
   ·simp only[aab]at hi;rw[k4 i (by omega),Array.getElem?_setIfInBounds_ne (by omega)]
omit [Laid] in
theorem ou{base:Nat}:∀(vs:List Value) (w:World) (b o:Nat),base≤b→Below base w (w.setCells b o vs)
 | [],w,b,o,_=>Below.refl _ _
 | v:: vs,w,b,o,h=>((Below.refl base w).setCell (p:=⟨b,o,none⟩) h v).trans (ou vs _ b (o+1) h)
omit [Laid] in
theorem ov:∀(vs:List Value) (w:World) (b o c:Nat),(w.setCells b o vs).shape? c=w.shape? c
 | [],w,b,o,c=>rfl
 | v:: vs,w,b,o,c=>by rw[World.setCells,ov vs _ b (o+1) c,vh]
omit [Laid] in
theorem setCells_size:∀(vs:List Value) (w:World) (b o:Nat),(w.setCells b o vs).heap.size=w.heap.size
 | [],w,b,o=>rfl
 | v:: vs,w,b,o=>by rw[World.setCells,setCells_size vs _ b (o+1)];simp[World.setCell]
def GU{t tx ty e:TypeId}(hh:cy base ι S w h)(ht:P.underlying t=some (.slice e))(hz:rG P e=true){v u:Value}{rows bse:List (List AV)}{news:List Value}{id:Nat}
 (hs:Src P (P.cellsOf e) tx v rows.length news w) (hn:aD ι S w rows.flatten news) (hrl:∀r∈rows,r.length=P.cellsOf e)
 (hu:ax ι S w (.sb id (P.cellsOf e) bse) u) (hid:h[id]?=some (.tok e (P.cellsOf e) bse.length)) (hm:gM (iP P e) (bse.length+rows.length)) :
 ∃u' w' ι' S',(Builtin.append_ #[t,tx] ty #[u,v]).run P w=.ok u' w'∧bM ι.length base ι S w ι' S' w'∧ax ι' S' w' (.sb id (P.cellsOf e) (bse++rows)) u'∧cy base ι' S' w' (h.set id (.tok e (P.cellsOf e) (bse.length+rows.length))):=by
 have hlt:id<h.length:=(dO.1 hid).1;have hlι:id<ι.length:=by rw[hh.len];exact hlt
 obtain⟨v0,hv0,a,cap,rfl,hcap,hcm,hblk⟩:=hh.tok id _ _ _ hid;rw[ax]at hu;obtain⟨⟨a',cap',eu,hc1,hc2,hrows⟩,n',v',t1,t2,t3⟩:=hu;rw[hv0]at t1;cases t1;have eu':=t3 rfl;rw[eu]at eu';cases eu';subst eu;have hbl:∀r∈bse,r.length=P.cellsOf e:=by
  rcases hrows with rfl|⟨b,off,_,rr⟩
  ·simp
  ·intro r hr;obtain⟨j,hj⟩:=List.getElem?_of_mem hr;exact (rr.get j r hj).1
 have hflat:=kO hrl;have hnl:news.length=rows.length*P.cellsOf e:=by rw[←hn.length,hflat]
 -- what becomes of the place
 have close:∀{u':Value} {w':World} {S':bj},bM ι.length base ι S w ι S' w'→(∃a'' cap'',u'=.slice a'' (bse.length+rows.length) cap''∧bse.length+rows.length≤cap''∧cap''≤maxLen∧(bse++rows=[]∨∃b off,a''=some ⟨b,off,none⟩∧cg ι S' w' (P.cellsOf e) (bse++rows) b off)) →
  (rows.length=0→u'=.slice a bse.length cap)→tV base S' w' e (P.cellsOf e) (bse.length+rows.length) u'→(∀b,b<w.heap.size→(∀c,Bp (.slice a bse.length cap) c→b≠c)→base≤b→w'.heap[b]?=w.heap[b]?∧∀o,S' b o→S b o) →
  (∀b,Bp u' b→Bp (.slice a bse.length cap) b∨w.heap.size≤b)→(∀b o,S' b o→b<w'.heap.size) →
  ∃ι' S',bM ι.length base ι S w ι' S' w'∧ax ι' S' w' (.sb id (P.cellsOf e) (bse++rows)) u'∧cy base ι' S' w' (h.set id (.tok e (P.cellsOf e) (bse.length+rows.length))):=by
  intro u' w' S' hE hrep hsame htok hother hnew hstb;have hE':bM ι.length base ι S w (ι.set id (.tok (bse.length+rows.length) u')) S' w':=by
   refine⟨fun i hi=>?_,hE.sub,hE.new,hE.cell,hE.vj,hE.mI⟩
   by_cases q:i=id
   ·subst q;rw[iF hlι,hv0];refine⟨_,_,rfl, ?_⟩
    by_cases z:rows.length=0
    ·left;exact⟨by omega,by rw[hsame z]⟩
    ·right;omega
   ·rw[iN (Ne.symm q)];exact eW.refl _
  have hE2:bM ι.length base ι S' w' (ι.set id (.tok (bse.length+rows.length) u')) S' w':=⟨hE'.pre,fun _ _ q=>q,fun _ _ q=>.inl q,fun _ _ _=>rfl,fun _ _ q=>q,Below.refl _ _⟩;refine⟨_,S',hE', ?_,hh.wu hE' (by simp[hh.len]) id (fun i hi ha=>?_) (fun x q=>?_) (fun e' sz' n' q=>?_) (fun en q=>by rw[iF hlt]at q;cases q;trivial) (fun j b hj _ aj hb hb' => ?_) hstb (aat hh.ji hE.mI.size)⟩
  ·rw[ax];obtain⟨a'',cap'',e1,e2,e3,e4⟩:=hrep;refine⟨⟨a'',cap'',by rw[BY];exact e1,by rw[BY];exact e2,e3,e4.imp (fun q=>q) fun⟨b,off,q1,q2⟩=>⟨b,off,q1,cg.fq hE2 (aS _) _ _ b off q2⟩⟩,_,_,iF hlι,by simp,fun _=>rfl⟩
  ·rw[iN (Ne.symm hi)]at ha ⊢;refine⟨rfl,iN (Ne.symm hi),fun b hb hbl=>hother b hbl (fun c hc q=>?_) (hh.Ax ha hb).1⟩;subst q;exact hi (hh.inj i id b ha (by rw[hid];exact trivial) hb (by rw[hv0];exact hc))
  ·rw[iF hlt]at q;cases q
  ·rw[iF hlt]at q;cases q;exact⟨_,iF hlι,htok⟩
  ·rw[iN (Ne.symm hj)]at aj;rw[iN (Ne.symm hj)]at hb';rw[iF hlι]at hb;rcases hnew b hb with q|q
   ·exact hj (hh.inj j id b aj (by rw[hid];exact trivial) hb' (by rw[hv0];exact q))
   ·have:=(hh.Ax aj hb').2;omega
 by_cases hfit:bse.length+rows.length≤cap
 ·-- there is room
  by_cases hc0:cap=0
  ·have hr0:rows.length=0:=by omega
   have hb0:bse.length=0:=by omega
   obtain⟨i,z,hi,hzz,hzs,hce,hbe⟩:=oC hz;have hnews:news=[]:=List.eq_nil_of_length_eq_zero (by rw[hnl,hr0,Nat.zero_mul]);subst hnews;have hrows0:rows=[]:=List.eq_nil_of_length_eq_zero hr0;subst hrows0;have hrun:=run_append_nothing (P:=P) w t tx ty e i ht hi a bse.length cap (by omega) v (by rw[←hce];exact hs);obtain⟨ι',S',q1,q2,q3⟩:=close (u':=.slice a bse.length cap) (w':=w) (S':=S) (bM.refl _ _ _ _ _) ⟨a,cap,by simp,by simpa using hfit,hcm,by left;simp;exact List.eq_nil_of_length_eq_zero hb0⟩ (fun _=>rfl)
    ⟨a,cap,by simp,by simpa using hfit,hcm,.inl hc0⟩ (fun _ _ _ _=>⟨rfl,fun _ q=>q⟩) (fun _ q=>.inl q) hh.fV
   exact⟨_,_,ι',S',hrun,q1,q2,q3⟩
  ·rcases hblk with hblk|⟨b,arr,fz,rfl,k1,k2,k3,k4,k5⟩
   ·exact absurd hblk hc0
   ·obtain⟨i,z,hi,hzz,hzs,hce,hbe⟩:=oC hz;have hmul:(bse.length+rows.length)*P.cellsOf e≤cap*P.cellsOf e:=Nat.mul_le_mul_right _ hfit;rw[aaP]at hmul;have hcells:∀j,j<news.length→(w.cell? ⟨b,0+bse.length*i.size+j,none⟩).isSome=true:=fun j hj=>by
     rw[hY k2,aaa (by rw[hnl]at hj;rw[←hce];omega)];rfl
    have hfroz:∀j,j<news.length→w.frozen? ⟨b,0+bse.length*i.size+j,none⟩=false:=fun j hj=>by
     rw[rW k2];have:=k3 (0+bse.length*i.size+j) (by rw[hnl]at hj;rw[←hce];omega);simpa using this
    have hrun:=run_append_room_src (P:=P) w t tx ty e i ht hi b 0 bse.length cap v rows.length news (by rw[←hce];exact hs) hfit hcells hfroz;rw[aaq,←hce]at hrun;obtain⟨arr',g1,g2,g3,g4⟩:=setCells_at news w b (bse.length*P.cellsOf e) k2 (by rw[hnl];omega)
    let S':bj:=fun c o=>S c o∨(c=b∧bse.length*P.cellsOf e≤o∧o<(bse.length+rows.length)*P.cellsOf e)
    have hE:bM ι.length base ι S w ι S' (w.setCells b (bse.length*P.cellsOf e) news):=by
     refine⟨fun _ _=>eW.refl _,fun _ _ q=>.inl q,fun c o q=>q.elim .inl fun q=>.inr (by rw[q.1];exact k1),fun c o q=>?_,fun c x q=>by rw[ov];exact q,ou news w b _ k1⟩
     by_cases hcb:c=b
     ·subst hcb;rw[hY g1,hY k2];exact g4 o (.inl (k5 o q))
     ·exact World.cell?_of_block (w:=w) (kj news w b _ c hcb)
    have told:∀b' off,(⟨b,0,none⟩:Addr)=⟨b',off,none⟩→b'=b∧off=0:=fun b' off q=>by cases q;exact⟨rfl,rfl⟩
    have hR:bse++rows=[]∨∃b' off,some (⟨b,0,none⟩:Addr)=some ⟨b',off,none⟩∧cg ι S' (w.setCells b (bse.length*P.cellsOf e) news) (P.cellsOf e) (bse++rows) b' off:=by
     right;refine⟨b,0,rfl,cg.of_flat (fun r hr=>(IN.1 hr).elim (hbl r) (hrl r)) ?_⟩;rw[List.flatten_append];have hC1:bI ι S' (w.setCells b (bse.length*P.cellsOf e) news) bse.flatten b 0:=by
      rcases hrows with rfl|⟨b',off,q,rr⟩
      ·simp[bI]
      ·obtain⟨rfl,rfl⟩:=told b' off (GO q);exact bI.fq hE (aS _) _ _ _ rr.flat.2
     have hC2:bI ι S' (w.setCells b (bse.length*P.cellsOf e) news) rows.flatten b (bse.length*P.cellsOf e):=
      bI.Em g1 (aD.fq hE (aS _) _ _ hn) (fun i v q=>g3 i v q) (fun i hi=>.inr ⟨rfl,by omega,by rw[hnl]at hi;rw[aaP];omega⟩)
     have hfl:=kO hbl;refine bI.mk fun i c q=>?_;rcases AS i bse.flatten.length with z|z
     ·rw[gE z]at q;exact hC1.get i c q
     ·rw[iD z]at q;have:=hC2.get _ c q;rw[show bse.length*P.cellsOf e+(i-bse.flatten.length)=0+i by omega]at this;exact this
    obtain⟨ι',S'',q1,q2,q3⟩:=close (u':=.slice (some ⟨b,0,none⟩) (bse.length+rows.length) cap) (w':=w.setCells b (bse.length*P.cellsOf e) news) (S':=S') hE ⟨_,cap,rfl,hfit,hcm,hR⟩ (fun z=>by rw[z,Nat.add_zero])
     ⟨_,cap,rfl,hfit,hcm,.inr ⟨b,arr',fz,rfl,k1,g1,by rw[g2];exact k3,by rw[g2];exact k4,fun o q=>by
      rcases q with q|q
      ·have:=k5 o q;rw[aaP];omega
      ·exact q.2.2⟩⟩ (fun c hc hne _=>⟨kj news w b _ c (hne b ⟨_,_,_,rfl,rfl,hc0⟩),fun o q=>q.elim (fun q=>q) fun q=>absurd q.1 (hne b ⟨_,_,_,rfl,rfl,hc0⟩)⟩)
     (fun c q=>.inl ⟨_,_,_,rfl,(EX (w:=w) q).symm,hc0⟩) (fun c o q=>by
      rw[setCells_size];rcases q with q|q
      ·exact hh.fV c o q
      ·rw[q.1];exact wY k2)
    exact⟨_,_,ι',S'',hrun,q1,q2,q3⟩
 ·-- it grows
  obtain⟨olds,hold,hrd⟩:=rV (P:=P) (cap:=cap) hrows;obtain⟨u',w',arr,S',hrun,hheap,hE,⟨cap',rfl,g1,g2,g3⟩,hS',hR⟩:=EG (ty:=ty) hh ht hz hs hn hrl hbl (by omega) hold hrd hm.1 hm.2;have hnw:w'.heap[w.heap.size]?=some (.cells arr e):=by rw[hheap];simp
  obtain⟨ι',S'',q1,q2,q3⟩:=close hE ⟨_,cap',rfl,g1,g2,.inr ⟨_,0,rfl,hR⟩⟩ (fun z=>by omega)
   ⟨_,cap',rfl,g1,g2,.inr ⟨w.heap.size,arr,(0,0),rfl,hh.ji,hnw,fun o _=>by simp,g3,fun o q=>by
    rcases (hS' _ o).1 q with q|q
    ·have:=hh.fV _ _ q;omega
    ·exact q.2⟩⟩ (fun b hb _ _=>⟨by rw[hheap,Array.getElem?_push];simp;omega,fun o q=>by
    rcases (hS' b o).1 q with q|q
    ·exact q
    ·omega⟩) (fun b q=>.inr (by rw[EX (w:=w) q];exact aS _)) (fun b o q=>by
    rw[hheap,Array.size_push];rcases (hS' b o).1 q with q|q
    ·have:=hh.fV b o q;omega
    ·omega)
  exact⟨_,_,ι',S'',hrun,q1,q2,q3⟩
def cy.begin{h:aa}(hh:cy base ι S w h){e sz:TypeId}{a:Option Addr}:cy base (ι++[.tok 0 (.slice a 0 0)]) S w (h++[.tok e sz 0]):=
 hh.push _ _ (bM.grow _) (fun _ _ _=>⟨rfl,fun _ q=>q⟩) (fun _ q=>by cases q) (fun e' sz' n' q=>by cases q;exact⟨_,rfl,a,0,rfl,aS _,aao _,.inl rfl⟩) trivial
  (fun _ b hb=>by obtain⟨_,_,_,q,_,h0⟩:=hb;cases q;exact absurd rfl h0) hh.fV
omit [Laid] in
def ax.begin(ι:List Ix)(S:bj)(w:World)(sz:Nat)(a:Option Addr):ax (ι++[.tok 0 (.slice a 0 0)]) S w (.sb ι.length sz []) (.slice a 0 0):=by
 rw[ax];exact⟨⟨a,0,rfl,aS _,aao _,.inl rfl⟩,0,_,by simp,aS _,fun _=>rfl⟩
def Ci(hh:cy base ι S w h)(hy:ax ι S w x y){sz:Nat}{rows:List (List AV)}(hs:iL h sz x=some rows):
 ∃ad cap vs,y=.slice ad rows.length cap∧rows.length≤maxLen∧aD ι S w rows.flatten vs∧rows.flatten.length=rows.length*sz ∧
  ((ad=none∧vs=[]∧rows=[])∨∃b,ad=some b∧∀j u,vs[j]?=some u→w.cell? (b.add j)=some u):=by
 have hy:=hy.lQ;unfold iL at hs;split at hs
 ·rename_i e1;cases hs;rw[e1,ax]at hy;obtain⟨b,ev⟩:=hy;exact⟨b,0,[],ev,aao _,by simp,by simp,by cases b<;>simp⟩
 ·rename_i sz' rows' e1;split at hs
  ·rename_i hsz;subst hsz;cases hs;rw[e1,ax]at hy;obtain⟨b,cap,ev,c1,c2,c3⟩:=hy;rcases c3 with rfl|⟨bb,off,rfl,hrr⟩
   ·exact⟨b,cap,[],ev,aao _,by simp,by simp,by cases b<;>simp⟩
   ·obtain⟨k1,k2⟩:=hrr.flat;obtain⟨vs,rv,hcell⟩:=k2.rF;exact⟨_,cap,vs,ev,by omega,rv,k1,.inr ⟨_,rfl,fun j u q=>by rw[addr_add];exact hcell j u q⟩⟩
  ·cases hs
 ·rename_i id off len sz' e1;split at hs
  ·rename_i ak eb;split at hs
   ·rename_i hcond;obtain⟨rfl,hlen⟩:=hcond;cases hs;rw[e1,ax]at hy;obtain⟨b,b',cap,n,ty,c1,ev,c2,c3,c4,c5,c6⟩:=hy;obtain⟨b2,arr,fz,k1,k2,k3,k4,k5,k6,k7,k8,k9⟩:=hh.live id ak eb;rw[c1]at k1;cases k1;obtain⟨f1,f2⟩:=gU sz' len (ak.cells.drop off) (by simp;omega);have hcells:aD ι S w ((ak.cells.drop off).take (len*sz')) ((arr.toList.drop off).take (len*sz')):=by
     refine aD.mk (by simp;omega) fun j c v e1 e2=>?_;rw[To]at e1 e2;split at e1
     ·rename_i hj;rw[if_pos hj]at e2;rw[aag]at e1 e2;obtain⟨v',e3,r⟩:=k6 _ c e1;simp only[Array.getElem?_toList]at e2;rw[e3]at e2;cases e2;exact r
     ·cases e1
    refine⟨b',cap,_,by rw[iR];exact ev,by rw[iR];omega,by rw[f1];exact hcells,kO f2, ?_⟩;rcases c4 with rfl|rfl
    ·have:len=0:=by omega
     subst this;cases b'<;>simp[chunks]
    ·refine .inr ⟨_,rfl,fun j u q=>?_⟩;rw[addr_add,hY k3];rw[To]at q;split at q
     ·rw[aag]at q;simpa using q
     ·cases q
   ·cases hs
  ·cases hs
 ·cases hs
omit [Laid] in
theorem pU:∀l:List UInt8,(l.map fun b=>[bS b]).flatten=l.map bS
 | []=>rfl
 | b:: l=>by rw[IF,aaM,pU l];rfl
omit [Laid] in
def Tu{sz:Nat}{rows:List (List AV)}(h:rows.all (da sz)=true):(∀r∈rows,r.length=sz)∧rows.flatten.all bw=true:=by
 simp only[AT,da,On,beq_iff_eq]at h;refine⟨fun r hr=>(h r hr).1, ?_⟩;simp only[AT];intro c hc;obtain⟨r,hr,hcr⟩:=List.mem_flatten.1 hc;exact (h r hr).2 c hcr
theorem GV{own:Bool}{c:Call}{t tx e:TypeId}{x y:Operand}{src:Option (List (List AV))}(hr:bW base ι S a w st)(ho:o.op=.call c)(hc:c.callee=.builtin .append)(hat:c.argTypes.toList=[t,tx])(hax:c.args.toList=[x,y])
 (ht:P.underlying t=some (.slice e)) (hz:rG P e=true) (hsrc:∀rows,src=some rows→(∀r∈rows,r.length=P.cellsOf e)→rows.flatten.all bw=true→∃news,Src P (P.cellsOf e) tx (a.eval y) rows.length news w∧aD ι S w rows.flatten news)
 (h:ep own e (P.cellsOf e) (iP P e) (aH st.fr x) src st.h K):cl P o base ι S a w st K:=by
 have hty:c.argTypes=#[t,tx]:=by apply Array.ext';simpa using hat
 have hag:c.args.map a.eval=#[a.eval x,a.eval y]:=by apply Array.ext';simp[hax]
 have done:∀{u' w'},(Builtin.append_ #[t,tx] o.type #[a.eval x,a.eval y]).run P w=.ok u' w'→(execOp a.eval o).run P w=.ok (.value u') w':=fun hrun =>
  wO (s:=Builtin.append_ c.argTypes o.type (c.args.map a.eval)) ho hc (fun cs=>rfl) (by rw[hty,hag];exact hrun)
 have hx:=(hr.eval x).xD;unfold ep at h;split at h
 ·exact h.elim
 ·rename_i rows;obtain⟨hro,h⟩:=h;obtain⟨hrl,hsc⟩:=Tu hro;obtain⟨news,hs,hn⟩:=hsrc rows rfl hrl hsc
  -- a new block of the call's own
  have mine:∀{h':aa} {id0:Option Nat} {bse:List (List AV)} {olds:List Value} {ad:Option Addr} {cap:Nat},a.eval x=.slice ad bse.length cap→h'.length=st.h.length→cy base ι S w h'→(∀r∈bse,r.length=P.cellsOf e)→cap<bse.length+rows.length →
   aD ι S w bse.flatten olds→(Builtin.firstCells (P.cellsOf e) bse.length (.slice ad bse.length cap)).run P w.drew=.ok olds.toArray w.drew→gM (iP P e) (bse.length+rows.length) →
   K (.own st.h.length 0 (bse.length+rows.length) (P.cellsOf e)) (h'++[.ak ⟨e,bse.flatten++rows.flatten,true⟩])→cl P o base ι S a w st K:=by
   intro h' id0 bse olds ad cap ev hlen hh hbl hlt hold hrd hm k;obtain⟨i,z,hi,hzz,hzs,hce,hbe⟩:=oC hz;have hm2:=hm.2;rw[hbe]at hm2;rw[hce]at hs hbl hrl hrd k;have hnl:=hs.newsLen;have hol:olds.length=bse.length*i.size:=by rw[←hold.length,kO hbl]
   have hrun:=run_append_grow_src (P:=P) w t tx o.type e i z ht hi hzz ad bse.length cap olds hrd (a.eval y) rows.length news hs hlt (by have:=hm.1;simp only[maxLen]at this;omega) (growslice_fits hlt hm2);have hge:=grownCap_ge w (bse.length+rows.length) cap e;have hcm:=grownCap_le_maxLen w (bse.length+rows.length) cap e hm.1;obtain⟨hE1,hH1⟩:=hh.drew;have r1:aD ι S w.drew (bse.flatten++rows.flatten) (olds++news):=(aD.fq hE1 (aS _) _ _ hold).append (aD.fq hE1 (aS _) _ _ hn);have hA:=hH1.alloc e _ (olds++news) r1 (0,0) (Builtin.zeroCells z.cells (grownCap w (bse.length+rows.length) cap e-(bse.length+rows.length))).toList (fun o _=>by simp);have harr:((olds++news)++(Builtin.zeroCells z.cells (grownCap w (bse.length+rows.length) cap e-(bse.length+rows.length))).toList).toArray=(olds++news).toArray++Builtin.zeroCells z.cells (grownCap w (bse.length+rows.length) cap e-(bse.length+rows.length)):=by
    apply Array.ext';simp
   rw[harr]at hA;refine fX hr (done (by rw[ev];exact hrun)) (hE1.trans (bM.alloc hH1.ji (fun b o=>hH1.fV b o) _ [.ak w.heap.size])) ?_ hA (by simp[hlen]) k;rw[ax];have hsz:((olds++news).toArray++Builtin.zeroCells z.cells (grownCap w (bse.length+rows.length) cap e-(bse.length+rows.length))).size=grownCap w (bse.length+rows.length) cap e*i.size:=by
    rw[Array.size_append,List.size_toArray,BY,hol,hnl,size_zeroCells,hzs,←aaP,←aaP]
    congr 1
    omega
   refine⟨w.heap.size,_,_,_,e,by rw[←hr.hp.len];simp,rfl,hge,hcm,.inr rfl, ?_,by rw[aaq];exact Nat.le_of_eq hsz.symm⟩;have hnew:(w.drew.alloc (.cells ((olds++news).toArray++Builtin.zeroCells z.cells (grownCap w (bse.length+rows.length) cap e-(bse.length+rows.length))) e)).heap[w.heap.size]?=some (.cells ((olds++news).toArray++Builtin.zeroCells z.cells (grownCap w (bse.length+rows.length) cap e-(bse.length+rows.length))) e):=by
    show (w.heap.push _)[w.heap.size]?=_;simp
   unfold World.shape?;rw[hnew]
  split at h
  ·-- out of nothing
   rename_i e1;rw[e1,ax]at hx;obtain⟨ad,ev⟩:=hx;split at h
   ·obtain⟨hm,k⟩:=h;have hB:=hr.hp.begin (e:=e) (sz:=P.cellsOf e) (a:=ad);have hEb:bM ι.length base ι S w (ι++[.tok 0 (.slice ad 0 0)]) S w:=bM.grow _;have hsB:aD (ι++[.tok 0 (.slice ad 0 0)]) S w rows.flatten news:=aD.fq hEb (aS _) _ _ hn;have hRB:=ax.begin ι S w (P.cellsOf e) ad;rw[hr.hp.len]at hRB;obtain⟨u',w',ι',S',q1,q2,q3,q4⟩:=GU (ty:=o.type) (bse:=[]) (id:=st.h.length) hB ht hz hs hsB hrl hRB (by simp) (by simpa using hm);rw[ev]at done;refine fX hr (done q1) ((hEb).trans (q2.mono (by simp) (aS _))) q3 q4 (by simp) ?_;simp only[List.nil_append,aaN,aaq];rw[Lt _ _ (aS _)];simpa using k
   ·obtain⟨hne,hm,k⟩:=h;obtain⟨olds,hold,hrd⟩:=rV (P:=P) (ι:=ι) (S:=S) (w:=w) (sz:=P.cellsOf e) (rows:=[]) (a:=ad) (cap:=0) (.inl rfl);refine mine (bse:=[]) (id0:=none) (h':=st.h) (ad:=ad) (cap:=0) ev rfl hr.hp (by simp) ?_ hold hrd (by simpa using hm) (by simpa using k);have:=List.length_pos_iff.2 hne;simpa using this
  ·-- at its end
   rename_i id sz' bse e1;split at h
   ·rename_i e' sz'' k eh;obtain⟨⟨rfl,rfl,rfl,rfl⟩,hm,kk⟩:=h;rw[e1]at hx;obtain⟨u',w',ι',S',q1,q2,q3,q4⟩:=GU (ty:=o.type) hr.hp ht hz hs hn hrl hx eh hm;exact fX hr (done q1) q2 q3 q4 (by simp) kk
   ·exact h.elim
  ·-- the call's own
   rename_i id off len sz' e1;split at h
   ·rename_i ak eb;obtain⟨⟨rfl,rfl,hwr,rfl,hlc⟩,hpos,hm,k⟩:=h;rw[e1,ax]at hx;obtain⟨b,ad,cap,m,ty',c1,ev,c2,c3,c4,c5,c6⟩:=hx;obtain⟨b',arr,fz,k1,k2,k3,k4,k5,k6,k7,k8,k9⟩:=hr.hp.live id ak eb;rw[c1]at k1;cases k1;have hm':m=arr.size:=by
     unfold World.shape? at c5;rw[k3]at c5;simp only[ON,aak]at c5;exact c5.2.symm
    subst hm';obtain⟨f1,f2⟩:=gU (P.cellsOf ak.ty) len ak.cells hlc;have hcl:=iR (P.cellsOf ak.ty) len ak.cells;have hcs:aD ι S w (ak.cells.take (len*P.cellsOf ak.ty)) (arr.toList.take (len*P.cellsOf ak.ty)):=by
     refine aD.mk (by simp;omega) fun j c v e1 e2=>?_;rw[To]at e1 e2;split at e1
     ·rename_i hj;rw[if_pos hj]at e2;obtain⟨v',e3,r⟩:=k6 j c e1;simp only[Array.getElem?_toList]at e2;rw[e3]at e2;cases e2;exact r
     ·cases e1
    by_cases hfit:len+rows.length≤cap
    ·-- there is room
     obtain⟨i,z,hi,hzz,hzs,hce,hbe⟩:=oC hz;rcases c4 with c4|rfl
     ·omega
     have hnl:=hs.newsLen;have hmul:(len+rows.length)*P.cellsOf ak.ty≤cap*P.cellsOf ak.ty:=Nat.mul_le_mul_right _ hfit;rw[aaP]at hmul;have hcells:∀j,j<news.length→(w.cell? ⟨b,0+len*i.size+j,none⟩).isSome=true:=fun j hj=>by
      rw[hY k3,aaa (by rw[hnl]at hj;rw[←hce];omega)];rfl
     have hfroz:∀j,j<news.length→w.frozen? ⟨b,0+len*i.size+j,none⟩=false:=fun j hj=>by
      rw[rW k3];have:=k4 (0+len*i.size+j) (by rw[hnl]at hj;rw[←hce];omega);simpa using this
     have hrun:=run_append_room_src (P:=P) w t tx o.type ak.ty i ht hi b 0 len cap (a.eval y) rows.length news (by rw[←hce];exact hs) hfit hcells hfroz;rw[aaq,←hce]at hrun;obtain⟨arr',g1,g2,g3,g4⟩:=setCells_at news w b (len*P.cellsOf ak.ty) k3 (by rw[hnl];omega);have hE:bM ι.length base ι S w (ι++[.ak b]) S (w.setCells b (len*P.cellsOf ak.ty) news):=
      ⟨fun i hi=>eW.of_eq (gE hi),fun _ _ q=>q,fun _ _ q=>.inl q,fun c o q=>World.cell?_of_block (w:=w) (kj news w b _ c fun z=>k7 hwr o (z▸q)),fun c x q=>by rw[ov];exact q,ou news w b _ k2⟩
     have hl:=hr.hp.len;have hid:id<st.h.length:=(dO.1 eb).1;have alv:∀{i:Nat},i≠st.h.length→alive (st.h.set id .dead++[.ak ⟨ak.ty,ak.cells.take (len*P.cellsOf ak.ty)++rows.flatten,true⟩])[i]?→i≠id∧(st.h.set id .dead++[.ak ⟨ak.ty,ak.cells.take (len*P.cellsOf ak.ty)++rows.flatten,true⟩])[i]?=st.h[i]?:=by
      intro i hi ha;rw[mO (by simpa using hi)]at ha ⊢
      by_cases q:i=id
      ·subst q;rw[iF hid]at ha;exact ha.elim
      ·exact⟨q,iN (Ne.symm q)⟩
     have hH:cy base (ι++[.ak b]) S (w.setCells b (len*P.cellsOf ak.ty) news) (st.h.set id .dead++[.ak ⟨ak.ty,ak.cells.take (len*P.cellsOf ak.ty)++rows.flatten,true⟩]):=by
      have lst:(st.h.set id .dead++[aY.ak ⟨ak.ty,ak.cells.take (len*P.cellsOf ak.ty)++rows.flatten,true⟩])[st.h.length]?=some (.ak ⟨ak.ty,ak.cells.take (len*P.cellsOf ak.ty)++rows.flatten,true⟩):=by
       rw[iD (by simp)];simp
      refine hr.hp.wu hE (by simp[hl]) st.h.length (fun i hi ha=>?_) (fun x q=>?_) (fun _ _ _ q=>?_) (fun en q=>by rw[lst]at q;cases q;trivial) (fun j c hj _ aj hb hb' => ?_) (fun c o q=>by rw[setCells_size];exact hr.hp.fV c o q) (by rw[setCells_size];exact hr.hp.ji)
      ·obtain⟨hne,he⟩:=alv hi ha;refine⟨he,mO (by rw[hl];exact hi),fun c hc _=>⟨kj news w b _ c fun q=>?_,fun _ q=>q⟩⟩;subst q;rw[he]at ha;exact hne (hr.hp.inj i id c ha (by rw[eb];exact trivial) hc (by rw[c1];rfl))
      ·rw[lst]at q;cases q;have hnf:rows.flatten.length=rows.length*P.cellsOf ak.ty:=kO hrl;have hlt:(ak.cells.take (len*P.cellsOf ak.ty)).length=len*P.cellsOf ak.ty:=by simp;omega
       refine⟨b,arr',fz,by rw[←hl];exact js,k2,g1,by rw[g2];exact k4, ?_,fun j c q=>?_,fun _=>k7 hwr,fun o q=>absurd q (k7 hwr o),fun q=>by cases q⟩
       ·rw[BY,hlt,hnf,g2];omega
       ·rcases AS j (len*P.cellsOf ak.ty) with z|z
        ·rw[gE (by omega),To,if_pos z]at q;obtain⟨v,q1,q2⟩:=k6 j c q;exact⟨v,by rw[g4 j (.inl z)];exact q1,ax.fq hE (aS _) c v q2⟩
        ·rw[iD (by omega),hlt]at q;obtain⟨v,q1,q2⟩:=hn.get _ c q;have:=g3 _ v q1;rw[show len*P.cellsOf ak.ty+(j-len*P.cellsOf ak.ty)=j by omega]at this;exact⟨v,this,ax.fq hE (aS _) c v q2⟩
      ·rw[lst]at q;cases q
      ·obtain⟨hne,he⟩:=alv hj aj;rw[he]at aj;rw[mO (by rw[hl];exact hj)]at hb';rw[←hl,js]at hb;have:b=c:=hb;subst this;exact hne (hr.hp.inj j id b aj (by rw[eb];exact trivial) hb' (by rw[c1];rfl))
     refine fX hr (done (by rw[ev];exact hrun)) hE ?_ hH (by simp) k;rw[ax];exact⟨b,_,cap,arr.size,ty',by rw[←hl];exact js,rfl,hfit,c3,.inr rfl,hE.vj _ _ c5,c6⟩
    ·have hrd:(Builtin.firstCells (P.cellsOf ak.ty) len (.slice ad len cap)).run P w.drew=.ok (arr.toList.take (len*P.cellsOf ak.ty)).toArray w.drew:=by
      by_cases hl0:len=0
      ·subst hl0;simp only[Nat.zero_mul,List.take_zero];cases ad with
       | none=>exact run_firstCells_none w.drew _ 0 0 cap
       | some ad=>exact run_firstCells_some w.drew _ 0 ad 0 cap [] (by simp) (by simp)
      ·rcases c4 with c4|rfl
       ·omega
       ·refine run_firstCells_some w.drew _ len _ len cap _ (by simp;omega) fun j v q=>?_;rw[addr_add,aaq];rw[To]at q;split at q
        ·show w.cell? ⟨b,j,none⟩=some v;rw[hY k3];simpa using q
        ·cases q
     refine mine (bse:=chunks (P.cellsOf ak.ty) len ak.cells) (id0:=some id) (h':=st.h.set id .dead) (ad:=ad) (cap:=cap) (olds:=arr.toList.take (len*P.cellsOf ak.ty)) (by rw[hcl];exact ev) (by simp) (hr.hp.kill id) f2 (by rw[hcl];omega)
      (by rw[f1];exact hcs) (by rw[hcl];exact hrd) (by rw[hcl];exact hm) (by rw[hcl,f1];exact k)
   ·exact h.elim
  ·exact h.elim
def UO{own:Bool}{t tx e e':TypeId}(hr:bW base ι S a w st)(ho:o.op=.call c)(hc:c.callee=.builtin .append)(hat:c.argTypes.toList=[t,tx])(hax:c.args.toList=[x,y])
 (ht:P.underlying t=some (.slice e)) (htx:P.underlying tx=some (.slice e')) (hz:rG P e=true) (h:bN own e (P.cellsOf e) (iP P e) (aH st.fr x) (aH st.fr y) st.h K):cl P o base ι S a w st K:=by
 refine GV hr ho hc hat hax ht hz (fun rows hs hrl hsc=>?_) h;obtain⟨ad,cap,vs,ev,_,rv,hfl,hcell⟩:=Ci hr.hp (hr.eval y) hs;refine⟨vs, ?_,rv⟩;rw[ev];have hvl:vs.length=rows.length*P.cellsOf e:=by rw[←rv.length];exact hfl
 rcases hcell with⟨rfl,rfl,rfl⟩|⟨b,rfl,hcell⟩
 ·exact Src.ofNil w htx cap
 ·exact Src.ofSlice w htx b rows.length cap vs hvl (fun j u q=>hcell j u q) (BD rv hsc)
theorem Tx{own:Bool}{t tx e:TypeId}(hr:bW base ι S a w st)(ho:o.op=.call c)(hc:c.callee=.builtin .append)(hat:c.argTypes.toList=[t,tx])(hax:c.args.toList=[x,y])
 (ht:P.underlying t=some (.slice e)) (htx:P.underlying tx=some .string) (hz:rG P e=true) (h1:P.cellsOf e=1) (h:CQ own e (iP P e) (aH st.fr x) (aH st.fr y) st.h K):cl P o base ι S a w st K:=by
 have h':ep own e (P.cellsOf e) (iP P e) (aH st.fr x) (Bk (aH st.fr y)) st.h K:=by rw[h1];exact h
 refine GV hr ho hc hat hax ht hz (fun rows hs _ hsc=>?_) h';have hy:=hr.eval y;unfold Bk at hs;split at hs
 ·rename_i l e1;cases hs;rw[e1,dG]at hy;obtain⟨ev,_⟩:=hy;have hfl:=pU l;refine⟨byteCells ⟨l.toArray⟩, ?_, ?_⟩
  ·rw[ev,h1];have:=Src.ofString (P:=P) w htx ⟨l.toArray⟩;simpa[ByteArray.size]using this
  ·rw[hfl];unfold byteCells;refine aD.mk (by simp) fun i c v q1 q2=>?_;simp only[iS]at q1 q2;cases hl:l[i]? with
   | none=>rw[hl]at q1;cases q1
   | some b =>
     rw[hl]at q1 q2;simp only[aaR,ON]at q1 q2;subst q1;subst q2;simp[bS]
 ·cases hs
end
omit [Laid] in
theorem lX(z:List AV):∀n,(eZ n z).length=n*z.length
 | 0=>by simp[eZ]
 | n+1=>by rw[eZ,BY,lX z n,aaP,Nat.one_mul,Nat.add_comm]
omit [Laid] in
theorem ED(z:List AV):∀(n i:Nat),i<n*z.length→(eZ n z)[i]?=z[i%z.length]?
 | 0,i,h=>by simp at h
 | n+1,i,h=>by
   rw[eZ];rcases AS i z.length with q|q
   ·rw[gE q,Nat.mod_eq_of_lt q]
   ·rw[iD q,ED z n (i-z.length) (by rw[aaP,Nat.one_mul]at h;omega),←Nat.mod_eq_sub_mod q]
omit [Laid] in
def x7{cs:List AV}{vs:List Value}(h:aD ι S w cs vs)(n m:Nat)(hm:m=n*cs.length):aD ι S w (eZ n cs) (madeCells vs.toArray m).toList:=by
 subst hm;have hl:=h.length;refine aD.mk (by rw[lX];simp[madeCells]) fun i c v e f=>?_;have hi:i<n*cs.length:=by rw[←lX];exact (dO.1 e).1
 rw[ED cs n i hi]at e;have hpos:0<cs.length:=by
  rcases Nat.eq_zero_or_pos cs.length with q|q
  ·rw[q]at hi;simp at hi
  ·exact q
 have hi2:i%cs.length<vs.length:=by rw[←hl];exact Nat.mod_lt _ hpos
 simp only[madeCells,Array.toList_map,iS,Array.toList_range,aah hi,aaR,ON]at f;obtain⟨u,hu,r⟩:=h.get _ c e;have:v=u:=by
  rw[←f];simp only[List.size_toArray];rw[←hl];rw[getElem!_pos vs.toArray (i%cs.length) (by simpa using hi2)];rw[bY hi2]at hu;simpa using hu
 rw[this];exact r
omit [Laid] in
def uX(hz:rG P e=true)(h:iw P e=some z):∃i u vs,P.info? e=some i∧i.zero=some u∧z=jq u∧u.cells=(vs:List Value).toArray∧vs.length=i.size∧P.cellsOf e=i.size∧iP P e=i.bytes∧∀ι S w,aD ι S w (bl z) vs:=by
 obtain⟨i,u,hi,hu,hs,hc,hb⟩:=oC hz;unfold iw at h;rw[hi]at h;simp only[Option.bind_some,hu,aaR,ON]at h;obtain⟨vs,e1,r⟩:=sV u;exact⟨i,u,vs,hi,hu,h.symm,e1,by rw[e1]at hs;simpa using hs,hc,hb,by rw[←h];exact r⟩
section
variable {P:Program} {o:Oper} {base:Nat} {ι:List Ix} {S:bj} {a:Act} {w:World} {st:St} {K:AV→aa→Prop}
def cy.other(hh:cy base ι S w h)(ob:Obj):bM ι.length base ι S w ι S (w.alloc ob)∧cy base ι S (w.alloc ob) h:=by
 have hE:bM ι.length base ι S w ι S (w.alloc ob):=by simpa using bM.alloc hh.ji (fun b o=>hh.fV b o) ob []
 exact⟨hE,hh.wu hE hh.len h.length (fun i _ _=>⟨rfl,rfl,fun b _ hb=>⟨Below.heap_alloc w _ b hb,fun _ q=>q⟩⟩) (fun x e=>by simp at e) (fun _ _ _ e=>by simp at e) (fun _ e=>by simp at e) (fun j b _ aT=>by simp[alive]at aT)
  (fun b o q=>by have:=hh.fV b o q;show b<(w.heap.push _).size;simp;omega) (by have:=hh.ji;show base≤(w.heap.push _).size;simp;omega)⟩
def vU{e:TypeId}{cells:Array Value}{cs:List AV}{more:List Value}{l c:Nat}{sz:Nat}{fz:Nat×Nat}(hr:bW base ι S a w st)(hw1:w1=w∨w1=w.drew)
 (hrun:(execOp a.eval o).run P w=.ok (.value (.slice (some ⟨w.heap.size,0,none⟩) l c)) (w1.alloc (.cells cells e fz))) {vs:List Value} (hcells:cells=(vs++more).toArray) (r:aD ι S w cs vs)
 (hf:∀o,o<vs.length+more.length→¬(fz.1≤o∧o<fz.2)) (hlc:l≤c) (hcm:c≤maxLen) (hcz:c*sz≤vs.length+more.length) (k:K (.own st.h.length 0 l sz) (st.h++[.ak ⟨e,cs,true⟩])):cl P o base ι S a w st K:=by
 have hd:bM ι.length base ι S w ι S w1∧cy base ι S w1 st.h∧w1.heap=w.heap:=by
  rcases hw1 with rfl|rfl
  ·exact⟨bM.refl _ _ _ _ _,hr.hp,rfl⟩
  ·exact⟨hr.hp.drew.1,hr.hp.drew.2,rfl⟩
 obtain⟨hE,hH,hh⟩:=hd;have hA:=hH.alloc e cs vs (aD.fq hE (aS _) _ _ r) fz more hf;rw[←hcells]at hA;rw[hh]at hA;refine fX hr hrun (hE.trans (bM.alloc hH.ji (fun b o=>hH.fV b o) _ [.ak w.heap.size])) ?_ hA (by simp) k;rw[ax];refine⟨w.heap.size,_,c,cells.size,e,by rw[←hr.hp.len];simp,rfl,hlc,hcm,.inr rfl, ?_,by rw[hcells];simpa using hcz⟩;have hnew:(w1.alloc (.cells cells e fz)).heap[w.heap.size]?=some (.cells cells e fz):=by
  show (w1.heap.push _)[w.heap.size]?=_;rw[←hh];simp
 unfold World.shape?;rw[hnew]
def HY{e:TypeId}{cs:List AV}{sz len:Nat}{vs:List Value}(hr:bW base ι S a w st)
 (hrun:(execOp a.eval o).run P w=.ok (.value (.slice (some ⟨w.heap.size,0,none⟩) len len)) (w.alloc (.cells vs.toArray e))) (r:aD ι S w cs vs)
 (hlen:vs.length=len*sz) (hcm:len≤maxLen) (k:K (.sl sz (chunks sz len cs)) st.h):cl P o base ι S a w st K:=by
 have hh:=hr.hp
 let S':bj:=fun b o=>S b o∨(b=w.heap.size∧o<vs.length)
 have hnew:(w.alloc (.cells vs.toArray e)).heap[w.heap.size]?=some (.cells vs.toArray e (0,0)):=by
  show (w.heap.push _)[w.heap.size]?=_;simp
 have hE0:bM ι.length w.heap.size ι S w ι S (w.alloc (.cells vs.toArray e)):=by simpa using bM.alloc (aS _) (fun b o=>hh.fV b o) (.cells vs.toArray e) []
 have hE:bM ι.length w.heap.size ι S w ι S' (w.alloc (.cells vs.toArray e)):=⟨hE0.pre,fun _ _ q=>.inl q,fun b o q=>q.elim .inl (fun q=>.inr (by rw[q.1];exact aS _)),hE0.cell,hE0.vj,hE0.mI⟩;have hH:cy base ι S' (w.alloc (.cells vs.toArray e)) st.h:=hh.over hE (fun b o q=>by
  show b<(w.heap.push _).size;rcases q with q|q
  ·have:=hh.fV b o q;simp;omega
  ·rw[q.1];simp)
 refine fX hr hrun (hE.mono (aS _) hh.ji) ?_ hH (aS _) k;have hcl:=r.length;obtain⟨f1,f2⟩:=gU sz len cs (by rw[hcl,hlen];exact aS _);have hcells:bI ι S' (w.alloc (.cells vs.toArray e)) (chunks sz len cs).flatten w.heap.size 0:=by
  rw[f1];refine bI.mk fun i c ec=>?_;have ec':cs[i]?=some c:=by
   rw[To]at ec;split at ec
   ·exact ec
   ·cases ec
  obtain⟨v,ev,rv⟩:=r.get i c ec';have hi:=(dO.1 ev).1;refine⟨v,by rw[aaq,hY hnew];simpa using ev,.inr ⟨rfl,by omega⟩,ax.fq hE (aS _) c v rv⟩
 rw[ax];refine⟨_,len,by rw[iR],by rw[iR];exact aS _,hcm,.inr ⟨w.heap.size,0,rfl, ?_⟩⟩;exact cg.of_flat f2 hcells
theorem TL{len:Nat}{parts:Array (Nat×Operand)}(hr:bW base ι S a w st)(ho:o.op=.buildSlice t len parts)(ht:P.underlying t=some (.slice e))(hz:iw P e=some z)
 (hk:(rG P e&&fo P e&&decide (len*P.cellsOf e≤16777216)&&decide (len≤16777216))=true) (h:dF e len (P.cellsOf e) z (parts.toList.map fun p=>(p.1*P.cellsOf e,P.cellsOf e,aH st.fr p.2)) st.h K):cl P o base ι S a w st K:=by
 simp only[On,OF]at hk;obtain⟨⟨⟨hk1,hk2⟩,hk3⟩,hk4⟩:=hk;obtain⟨i,u,vs,hi,hu,rfl,euc,hvl,hce,hbe,rz⟩:=uX hk1 hz;unfold dF at h;split at h
 ·rename_i cs e';have r0:=x7 (rz ι S w) len (len*P.cellsOf e) (by rw[(rz ι S w).length,hvl,hce]);obtain⟨q1,q2⟩:=parts_eq hr (fun i=>some (i*P.cellsOf e,P.cellsOf e)) parts;obtain⟨vs',e1,r1⟩:=qO (ι:=ι) (S:=S) (w:=w) (fun i=>some (i*P.cellsOf e,P.cellsOf e)) (parts.toList.map fun p=>(p.1,aH st.fr p.2,a.eval p.2)) _ _ cs r0 (fun p hpm=>⟨q1 p hpm,rfl⟩) (by
   rw[←e',List.map_map];rfl)
  simp only[Array.toArray_toList]at e1;have hlen:vs'.length=len*P.cellsOf e:=by
   have hb:∀(ps:List (Nat×Nat×AV)) (c r:List AV),dD c ps=some r→r.length=c.length:=by
    intro ps;induction ps with
    | nil=>intro c r h;simp only[dD,ON]at h;rw[h]
    | cons p ps ih =>
      intro c r h;obtain⟨o,n,x⟩:=p;simp only[dD]at h;split at h
      ·rw[ih _ _ h,pK]
      ·cases h
   rw[←r1.length,hb _ _ _ e',lX,(rz ι S w).length,hvl,hce]
  have hrun:(execOp a.eval o).run P w=.ok (.value (.slice (some ⟨w.heap.size,0,none⟩) len len)) (w.alloc (.cells vs'.toArray e)):=?_
  ·split at h
   ·obtain⟨hE,hH⟩:=hr.hp.other (.cells vs'.toArray e);exact fX hr hrun hE (by rw[ax];exact⟨_,rfl⟩) hH (aS _) h
   ·exact vU (more:=[]) (fz:=(0,0)) hr (.inl rfl) hrun (by simp) r1 (fun o _=>by simp) (aS _) (by unfold maxLen;omega) (by simp[hlen]) h
  simp only[execOp,ho];refine fa ?_;have hn:¬len*P.cellsOf e > 2^24:=by
   have:(2:Nat)^24=16777216:=by decide
   omega
  have hzero:(zeroValue e).run P w=.ok u w:=by simp[zeroValue,mB hi,hu]
  have hmade:madeCells vs.toArray (len*P.cellsOf e)=(Array.range (len*P.cellsOf e)).map (vs.toArray[· % vs.toArray.size]!):=rfl;simp only[Instr.buildSlice,aaE,run_underlying ht,aaD,dp hk2,hn,if_false,aaF]
  by_cases h0:len*P.cellsOf e=0
  ·simp only[h0,if_true,aaE,aaF,aaD];have:madeCells vs.toArray (len*P.cellsOf e)=(Array.range 0).map fun x=>(#[]:Array Value)[x%(#[]:Array Value).size]!:=by
    rw[h0];apply Array.ext';simp[madeCells]
   rw[this,←q2]at e1;have e2:Instr.fill (fun i=>some (i*P.cellsOf e,P.cellsOf e)) (Array.map (fun x=>(#[]:Array Value)[x%(#[]:Array Value).size]!) (Array.range 0)) (Array.map (fun x=>(x.fst,a.eval x.snd)) parts).toList=some vs'.toArray:=e1;rw[e2];simp[newRow]
  ·simp only[h0,if_false,aaE,hzero,aaD,aaF];rw[hmade,←euc,←q2]at e1;rw[e1];simp[newRow]
 ·exact h.elim
theorem PY{len:Nat}{parts:Array (Nat×Operand)}(hr:bW base ι S a w st)(ho:o.op=.buildSlice t len parts)(ht:P.underlying t=some (.slice e))(hz:iw P e=some z)
 (hk:(rG P e&&fo P e&&decide (len*P.cellsOf e≤16777216)&&decide (len≤16777216))=true) (h:bz len (P.cellsOf e) z (parts.toList.map fun p=>(p.1*P.cellsOf e,P.cellsOf e,aH st.fr p.2)) fun v=>K v st.h):cl P o base ι S a w st K:=by
 simp only[On,OF]at hk;obtain⟨⟨⟨hk1,hk2⟩,hk3⟩,hk4⟩:=hk;obtain⟨i,u,vs,hi,hu,rfl,euc,hvl,hce,hbe,rz⟩:=uX hk1 hz;unfold bz at h;split at h
 ·rename_i cs e';have r0:=x7 (rz ι S w) len (len*P.cellsOf e) (by rw[(rz ι S w).length,hvl,hce]);obtain⟨q1,q2⟩:=parts_eq hr (fun i=>some (i*P.cellsOf e,P.cellsOf e)) parts;obtain⟨vs',e1,r1⟩:=qO (ι:=ι) (S:=S) (w:=w) (fun i=>some (i*P.cellsOf e,P.cellsOf e)) (parts.toList.map fun p=>(p.1,aH st.fr p.2,a.eval p.2)) _ _ cs r0 (fun p hpm=>⟨q1 p hpm,rfl⟩) (by
   rw[←e',List.map_map];rfl)
  simp only[Array.toArray_toList]at e1;have hlen:vs'.length=len*P.cellsOf e:=by
   have hb:∀(ps:List (Nat×Nat×AV)) (c r:List AV),dD c ps=some r→r.length=c.length:=by
    intro ps;induction ps with
    | nil=>intro c r h;simp only[dD,ON]at h;rw[h]
    | cons p ps ih =>
      intro c r h;obtain⟨o,n,x⟩:=p;simp only[dD]at h;split at h
      ·rw[ih _ _ h,pK]
      ·cases h
   rw[←r1.length,hb _ _ _ e',lX,(rz ι S w).length,hvl,hce]
  have hrun:(execOp a.eval o).run P w=.ok (.value (.slice (some ⟨w.heap.size,0,none⟩) len len)) (w.alloc (.cells vs'.toArray e)):=?_
  ·exact HY hr hrun r1 hlen (by unfold maxLen;omega) h
  simp only[execOp,ho];refine fa ?_;have hn:¬len*P.cellsOf e > 2^24:=by
   have:(2:Nat)^24=16777216:=by decide
   omega
  have hzero:(zeroValue e).run P w=.ok u w:=by simp[zeroValue,mB hi,hu]
  have hmade:madeCells vs.toArray (len*P.cellsOf e)=(Array.range (len*P.cellsOf e)).map (vs.toArray[· % vs.toArray.size]!):=rfl;simp only[Instr.buildSlice,aaE,run_underlying ht,aaD,dp hk2,hn,if_false,aaF]
  by_cases h0:len*P.cellsOf e=0
  ·simp only[h0,if_true,aaE,aaF,aaD];have:madeCells vs.toArray (len*P.cellsOf e)=(Array.range 0).map fun x=>(#[]:Array Value)[x%(#[]:Array Value).size]!:=by
    rw[h0];apply Array.ext';simp[madeCells]
   rw[this,←q2]at e1;have e2:Instr.fill (fun i=>some (i*P.cellsOf e,P.cellsOf e)) (Array.map (fun x=>(#[]:Array Value)[x%(#[]:Array Value).size]!) (Array.range 0)) (Array.map (fun x=>(x.fst,a.eval x.snd)) parts).toList=some vs'.toArray:=e1;rw[e2];simp[newRow]
  ·simp only[h0,if_false,aaE,hzero,aaD,aaF];rw[hmade,←euc,←q2]at e1;rw[e1];simp[newRow]
 ·exact h.elim
def TJ(hr:bW base ι S a w st)(ho:o.op=.makeSlice t x y)(ht:P.underlying t=some (.slice e))(hz:iw P e=some z)(hk:(rG P e&&decide (0<P.cellsOf e))=true)
 (h:jO e (P.cellsOf e) (iP P e) z (aH st.fr x) (aH st.fr y) st.h K):cl P o base ι S a w st K:=by
 simp only[On,OF]at hk;obtain⟨i,u,vs,hi,hu,rfl,euc,hvl,hce,hbe,rz⟩:=uX hk.1 hz;have hx:=hr.eval x;have hy:=hr.eval y;unfold jO at h;split at h
 ·rename_i kl l kc c e1 e2;obtain⟨⟨g1,g2,g3,g4⟩,h⟩:=h;rw[e1,cE]at hx;rw[e2,cE]at hy;have r0:=x7 (rz ι S w) c.toNat (c.toNat*P.cellsOf e) (by rw[(rz ι S w).length,hvl,hce]);have hrun:=run_make (P:=P) w t e i u ht hi hu kl kc l c g1 g2 (by rw[←hbe];exact g3) g4;refine vU (more:=[]) (fz:=(0,0)) hr (.inl rfl) (cells:=madeCells vs.toArray (c.toNat*P.cellsOf e)) (l:=l.toNat) (c:=c.toNat) ?_ (by simp) r0 (fun o _=>by simp) (by omega) (by unfold maxLen;omega) (by simp[madeCells]) h;simp only[execOp,ho,hx,hy];refine fa ?_;rw[hrun,euc,hce]
 ·exact h.elim
omit [Laid] in
def BU(h:Av P e=true):P.underlying e=some (.int .u8):=by
 unfold Av at h;split at h
 ·assumption
 ·cases h
theorem Ko(hr:bW base ι S a w st)(ho:o.op=.convert s d x)(hs:P.underlying s=some .string)(hd:P.underlying d=some (.slice e))(he:Av P e=true)
 (h:jP e (aH st.fr x) st.h K):cl P o base ι S a w st K:=by
 have hx:=hr.eval x;unfold jP at h;split at h
 ·rename_i l e1;rw[e1,dG]at hx;obtain⟨ev,hl⟩:=hx;have hrun:=run_bytes_of_string (P:=P) w s d e ⟨l.toArray⟩ hs hd (BU he);have hge:=grownCap_ge w l.length 0 e;have hcm:=grownCap_le_maxLen w l.length 0 e hl;have hsz:(⟨l.toArray⟩:ByteArray).size=l.length:=by simp[ByteArray.size]
  rw[hsz]at hrun;have hrow:bytesRow ⟨l.toArray⟩ (grownCap w l.length 0 e)=((l.map fun (b:UInt8)=>Value.int .u8 b.toNat)++List.replicate (grownCap w l.length 0 e-l.length) (Value.int .u8 0)).toArray:=by
   apply Array.ext';simp[bytesRow,hsz]
  refine vU (vs:=l.map fun (b:UInt8)=>Value.int .u8 b.toNat) (more:=List.replicate (grownCap w l.length 0 e-l.length) (Value.int .u8 0)) (fz:=((bytesRow ⟨l.toArray⟩ (grownCap w l.length 0 e)).size,(bytesRow ⟨l.toArray⟩ (grownCap w l.length 0 e)).size+1)) hr (.inr rfl) (l:=l.length) (c:=grownCap w l.length 0 e) ?_ hrow ?_ ?_ hge hcm ?_ h
  ·simp only[execOp,ho,ev];exact fa hrun
  ·refine aD.mk (by simp) fun i c v q1 q2=>?_;simp only[iS]at q1 q2;cases hl:l[i]? with
   | none=>rw[hl]at q1;cases q1
   | some b =>
     rw[hl]at q1 q2;simp only[aaR,ON]at q1 q2;subst q1;subst q2;simp[bS]
  ·intro o ho';rw[hrow];simp only[List.size_toArray,BY];omega
  ·simp;omega
 ·exact h.elim
omit [Laid] in
def M4{cs:List AV}{vs:List Value}:∀{l:List UInt8},aD ι S w cs vs→zG cs=some l→∃ns:List Int,vs=ns.map (Value.int .u8)∧l=ns.map fun n=>UInt8.ofNat n.toNat:=by
 induction cs generalizing vs with
 | nil=>intro l h e;simp at h;simp[zG]at e;subst h;subst e;exact⟨[],rfl,rfl⟩
 | cons c cs ih =>
   intro l h e;cases vs with
   | nil=>simp at h
   | cons v vs =>
     simp only[bL]at h;unfold zG at e;split at e
     ·rename_i q;cases q
     ·rename_i n r q;simp only[List.cons.injEq]at q;obtain⟨rfl,rfl⟩:=q;simp only[aae]at e;obtain⟨l',e',rfl⟩:=e;obtain⟨ns,rfl,rfl⟩:=ih h.2 e';have:=h.1;rw[cE]at this;subst this;exact⟨n:: ns,rfl,rfl⟩
     ·cases e
omit [Laid] in
theorem foldl_push:∀(ns:List Int) (r:ByteArray),ns.foldl (fun r n=>r.push (UInt8.ofNat n.toNat)) r=⟨r.data++(ns.map fun n=>UInt8.ofNat n.toNat).toArray⟩
 | [],r=>by simp
 | n:: ns,r=>by
   simp only[List.foldl_cons,IF];rw[foldl_push ns];simp[ByteArray.push]
def Kn(hr:bW base ι S a w st)(ho:o.op=.convert s d x)(hs:P.underlying s=some (.slice e))(hd:P.underlying d=some .string)(he:Av P e=true)
 (h:dk (aH st.fr x) st.h fun v=>K v st.h):cl P o base ι S a w st K:=by
 unfold dk at h;split at h
 ·rename_i l hl;simp only[Option.bind_eq_some_iff]at hl;obtain⟨rows,hsrc,hl⟩:=hl;obtain⟨ad,cap,vs,ev,hm,rv,hfl,hcell⟩:=Ci hr.hp (hr.eval x) hsrc;rw[Nat.mul_one]at hfl;have hvl:vs.length=rows.length:=by rw[←rv.length,hfl]
  obtain⟨ns,rfl,hl'⟩:=M4 rv hl;have hll:l.length=rows.length:=by rw[hl',←hvl];simp
  refine bn hr (u:=.string ⟨l.toArray⟩) ?_ (by rw[dG];exact⟨rfl,by omega⟩) h;simp only[execOp,ho,ev];refine fa ?_;rw[run_convert_bytes_string w s d e ad rows.length cap hs (BU he) hd];rcases hcell with⟨rfl,hv,_⟩|⟨b,rfl,hcell⟩
  ·have:ns=[]:=by simpa using hv
   subst this;simp only[List.map_nil]at hl';subst hl';rfl
  ·have hload:(loadCells b rows.length).run P w=.ok (ns.map (Value.int .u8)).toArray w:=by
    rw[←hvl];exact run_loadCells_list (P:=P) w b _ hcell
   rw[run_bytesToString w b rows.length cap ns hload,foldl_push,←hl',show ByteArray.empty.data=#[] from rfl,Array.empty_append]
 ·exact h.elim
end
section
variable {P:Program} {o:Oper} {base:Nat} {ι:List Ix} {S:bj} {a:Act} {w:World} {st:St} {K:AV→aa→Prop}
def UZ(hr:bW base ι S a w st)(ho:o.op=.makeInterface t x)(hc:P.concrete t=true)(h:pE t (aH st.fr x) fun v=>K v st.h):cl P o base ι S a w st K:=by
 refine bn hr (u:=.iface t (a.eval x)) ?_ ?_ h
 ·simp only[execOp,ho];exact fa (run_makeInterface w t _ hc)
 ·rw[ax];exact⟨_,rfl,hr.eval x⟩
def UQ{xT asserted:TypeId}(hr:bW base ι S a w st)(ho:o.op=.typeAssert x xT asserted true)(h:xZ (DY P asserted) (aH st.fr x) fun v=>K v st.h):cl P o base ι S a w st K:=by
 have hx:=hr.eval x;unfold xZ at h;split at h
 ·rename_i t v e;rw[e]at hx;have hx':=hx;rw[ax]at hx;obtain⟨u,ev,r⟩:=hx;obtain⟨hh,h⟩:=h;unfold DY at hh;split at hh
  ·rename_i want i hu hi;refine bn hr (u:=.tuple #[.iface t u,.bool true]) ?_ ?_ h
   ·simp only[execOp,ho,ev];exact fa (run_typeAssert_has hu hi (List.isEmpty_iff.1 hh))
   ·rw[ax];refine⟨[.iface t u,.bool true],by simp, ?_⟩;rw[ev]at hx';simp[hx']
  ·cases hh
 ·exact h.elim
omit [Laid] in
def EE{name:String}(v:Value)(h:od P name t=some f):cJ P f=true∧(method (P.types.size+Made.depth) t v name).run P w=.ok (f,v) w∧(nilAhead (P.types.size+Made.depth) t v name).run P w=.ok (some false) w:=by
 unfold od at h;split at h
 ·rename_i i e hi hu;split at h
  ·rename_i m hm;split at h
   ·rename_i g hp hf;split at h
    ·rename_i hb;cases h;have hpath:m.path.toList=[]:=hp;obtain⟨d,hd⟩:∃d,P.types.size+Made.depth=d+1:=Nat.exists_eq_succ_of_ne_zero (by have:0<Made.depth:=(by decide);show P.types.size+Made.depth≠0;exact Nat.ne_of_gt (UP this (Nat.le_add_left _ _)));refine⟨hb, ?_, ?_⟩
     ·rw[hd];simp only[method,aaE,mB hi,aaD,hm,hpath,follow,aaF,hf,receiverAt,run_underlying hu,Place.get]
     ·rw[hd];simp only[nilAhead,aaE,mB hi,aaD,hm,hpath,followBlind,aaF,hf]
    ·cases h
   ·cases h
  ·cases h
 ·cases h
def TM(hr:bW base ι S a w st)(ho:o.op=.nilCheck x)(h:ca P (aH st.fr x) fun v=>K v st.h):cl P o base ι S a w st K:=by
 have hx:=hr.eval x;unfold ca at h;split at h
 ·rename_i name t v r ys e;rw[e]at hx;have hx':=hx;rw[ax]at hx;obtain⟨vs,us,ev,r1,r2⟩:=hx;obtain⟨hm,h⟩:=h;obtain⟨f,hf⟩:=Option.isSome_iff_exists.1 hm;cases vs with
  | nil=>simp at r1
  | cons y vs =>
    simp only[bL]at r1;have ry:=r1.1;rw[ax]at ry;obtain⟨u,rfl,_⟩:=ry;refine bn hr (u:=a.eval x) ?_ hx' h;obtain⟨_,_,hn⟩:=EE (w:=w) u hf;simp only[execOp,ho,ev];simp only[List.getElem?_toArray,List.getElem?_cons_zero,aaE,run_program,aaD,hn];simp
 ·rename_i e _;exact U1 hr ho h
def UU{name:String}(hr:bW base ι S a w st)(ho:o.op=.call c)(hc:c.callee=.invoke x name)(h:vK P (od P name) (aH st.fr x) (c.args.toList.map (aH st.fr)) st.h K):cl P o base ι S a w st K:=by
 have hv:=hr.eval x;unfold vK at h;split at h
 ·rename_i t y e;split at h
  ·rename_i f hf;rw[e,ax]at hv;obtain⟨v,ev,rv⟩:=hv;obtain⟨hb,hm,_⟩:=EE (w:=w) v hf;obtain⟨fn,hfn,hb⟩:∃fn,P.funcs[f]?=some fn∧(fn.body.isSome&&fn.name != "runtime.NumGoroutine")=true:=by
    unfold cJ at hb;cases hq:P.funcs[f]? with
    | none=>rw[hq]at hb;cases hb
    | some fn=>rw[hq]at hb;exact⟨fn,rfl,hb⟩
   simp only[On,bne_iff_ne,ne_eq]at hb;have hargs:aD ι S w (y:: c.args.toList.map (aH st.fr)) (v:: c.args.toList.map a.eval):=by simpa using⟨rv,aD.HI hr _⟩
   have hrun:(execOp a.eval o).run P w=.ok (.enter f (v:: c.args.toList.map a.eval).toArray) w:=by
    have e2:#[v]++(#[Value.iface t v]++c.args.map a.eval).extract 1 (#[Value.iface t v]++c.args.map a.eval).size=(v:: c.args.toList.map a.eval).toArray:=by
     apply Array.ext';simp;rw[Of (by simp)]
    have e3:(#[Value.iface t v]++c.args.map a.eval)[0]?=some (.iface t v):=by
     rw[Array.getElem?_append_left (by simp)];rfl
    have hne:(fn.name == "runtime.NumGoroutine")=false:=by simpa using hb.2
    have hbn:fn.body.isNone=false:=by cases hbb:fn.body<;>simp_all
    simp only[execOp,ho,resolve,hc,aaE,ev,aaF,aaD,invoke,e3,callMethod,run_program,hm,e2,callFunc,hfn,hne,hbn,aaj,if_false]
   intro Q;unfold Oper.wp;rw[hrun,Oper.upon_enter];refine (h base ι S w _ hargs hr.hp).mono ?_;rintro e w' ⟨v,ι',S',r,h',rfl,hE,rv,hH,hl,k⟩;refine⟨ι',S',r,h', ?_, ?_,hl,k⟩
   ·rw[hr.hp.len];exact hE
   ·have:bW base ι' S' a w' ⟨st.n,st.fr,h'⟩:=⟨hr.df,hr.sz,dd.fq hE (by rw[hr.hp.len];exact aS _) hr.fr,hH⟩;exact this.put o.dst rv
  ·exact h.elim
 ·exact h.elim
def xj{neg b:Bool}{t yt:TypeId}(hr:bW base ι S a w st)(ho:o.op=.binOp (if neg then .neq else .eql) t x y yt)
 (hg:(eqGuard (if neg then .neq else .eql) t x y (a.eval x) (a.eval y)).run P w=.ok () w) (hb:(binOp (if neg then .neq else .eql) t (a.eval x) (a.eval y)).run P w=.ok (.bool (q9 neg b)) w) (k:K (b_ (q9 neg b)) st.h):cl P o base ι S a w st K:=by
 refine bn hr (u:=.bool (q9 neg b)) ?_ (by simp) k;simp only[execOp,ho];refine fa ?_;rw[aaE,hg];simp only[aaD];exact hb
omit [Laid] in
def zE{neg b:Bool}(h:(Op.equal t x y).run P w=.ok b w)(hx:(∃p,x=.pointer p)∨∃p l c,x=.slice p l c):(binOp (if neg then .neq else .eql) t x y).run P w=.ok (.bool (q9 neg b)) w:=by
 rcases hx with⟨p,rfl⟩|⟨p,l,c,rfl⟩<;>cases neg<;>simp[binOp,h,q9]
theorem Km{neg:Bool}{t yt:TypeId}(hr:bW base ι S a w st)(ho:o.op=.binOp (if neg then .neq else .eql) t x y yt)(ht:P.underlying t=some d)
 (h:wT neg d y (aH st.fr x) fun v=>K v st.h):cl P o base ι S a w st K:=by
 have hx:=hr.eval x;unfold wT at h;split at h
 ·rename_i ms;have hm:P.underlying t=some (.interface (P.methodsAt t)):=by unfold Program.methodsAt;rw[ht]
  have hy:a.eval (.const .nilIface)=.nilIface:=rfl;unfold iH at h;split at h
  ·rename_i b hb;unfold uA at hb;split at hb
   ·rename_i e;cases hb;rw[e,cE]at hx;refine xj (b:=true) hr ho ?_ ?_ h
    ·rw[hx,hy];cases neg<;>cases x<;>rfl
    ·rw[hx,hy];cases neg with
     | true=>exact run_neq_nil_nil w t hm
     | false=>exact run_eql_nil_nil w t hm
   ·rename_i u z e;cases hb;rw[e,ax]at hx;obtain⟨v,hx,_⟩:=hx;refine xj (b:=false) hr ho ?_ ?_ h
    ·rw[hx,hy];cases neg<;>rfl
    ·rw[hx,hy];cases neg with
     | true=>exact run_neq_held_nil w t u v hm
     | false=>exact run_eql_held_nil w t u v hm
   ·cases hb
  ·exact h.elim
 ·rename_i el;have hy:a.eval (.const (.pointer none))=.pointer none:=rfl;have fin:∀(p:Option Addr),a.eval x=.pointer p→K (b_ (q9 neg p.isNone)) st.h→cl P o base ι S a w st K:=by
   intro p hv k;have he:(Op.equal t (.pointer p) (.pointer none)).run P w=.ok p.isNone w:=by
    have:∀d,(Op.equalIn (d+1) t (.pointer p) (.pointer none)).run P w=.ok p.isNone w:=fun d=>by cases p<;>simp[Op.equalIn,run_underlying ht]
    exact this 9999
   refine xj (b:=p.isNone) hr ho ?_ ?_ k
   ·rw[hv,hy];exact iY rfl (by intro q;cases q)
   ·rw[hv,hy];exact zE he (.inl ⟨_,rfl⟩)
  unfold iH at h;split at h
  ·rename_i b hb;unfold sj at hb;split at hb
   ·rename_i e;cases hb;rw[e,cE]at hx;exact fin none hx h
   ·rename_i e;cases hb;rw[e,ax]at hx;obtain⟨b,_,hx⟩:=hx;exact fin (some _) hx h
   ·rename_i e;cases hb;rw[e,ax]at hx;obtain⟨b,off,hx,_⟩:=hx;exact fin (some _) hx h
   ·cases hb
  ·exact h.elim
 ·rename_i el l0 c0;have hy:a.eval (.const (.slice none l0 c0))=.slice none l0 c0:=rfl;have fin:∀(p:Option Addr) (l c:Nat),a.eval x=.slice p l c→K (b_ (q9 neg p.isNone)) st.h→cl P o base ι S a w st K:=by
   intro p l c hv k;have he:(Op.equal t (.slice p l c) (.slice none l0 c0)).run P w=.ok p.isNone w:=by
    have:∀d,(Op.equalIn (d+1) t (.slice p l c) (.slice none l0 c0)).run P w=.ok p.isNone w:=fun d=>by cases p<;>simp[Op.equalIn,run_underlying ht]
    exact this 9999
   refine xj (b:=p.isNone) hr ho ?_ ?_ k
   ·rw[hv,hy];exact iY rfl (by intro q;cases q)
   ·rw[hv,hy];exact zE he (.inr ⟨_,_,_,rfl⟩)
  unfold iH at h;split at h
  ·rename_i b hb;unfold sk at hb;split at hb
   ·rename_i e;cases hb;rw[e,cE]at hx;exact fin none _ _ hx h
   ·rename_i id off len sz e;split at hb
    ·cases hb
    ·cases hb;rw[e,ax]at hx;obtain⟨bb,p,cap,n,ty,_,ev,c2,_,c4,_⟩:=hx;rcases c4 with c4|c4
     ·omega
     ·subst c4;exact fin (some _) _ _ ev h
   ·rename_i sz rows e;split at hb
    ·cases hb
    ·cases hb;rw[e,ax]at hx;obtain⟨p,cap,ev,_,_,c3⟩:=hx;rcases c3 with c3|⟨bb,off,rfl,_⟩
     ·cases c3
     ·exact fin (some _) _ _ ev h
   ·rename_i id sz rows e;split at hb
    ·cases hb
    ·cases hb;rw[e,ax]at hx;obtain⟨⟨p,cap,ev,_,_,c3⟩,_⟩:=hx;rcases c3 with c3|⟨bb,off,rfl,_⟩
     ·cases c3
     ·exact fin (some _) _ _ ev h
   ·cases hb
  ·exact h.elim
 ·exact h.elim
end
section
variable {P:Program} {o:Oper} {base:Nat} {ι:List Ix} {S:bj} {a:Act} {w:World} {st:St} {K:AV→aa→Prop}
theorem NM{op:BinOp}{neg:Bool}{t yt:TypeId}{ks:List Nat}(hr:bW base ι S a w st)(ho:o.op=.binOp op t x y yt)(hop:op=(if neg then .neq else .eql))(hg:P.eqGuardType P.depth t=false)
 (hagg:eK P t=true) (hks:kZ P 8 t=some ks) (h:sN neg ks (aH st.fr x) (aH st.fr y) fun v=>K v st.h):cl P o base ι S a w st K:=by
 have hx:=hr.eval x;have hy:=hr.eval y;unfold sN at h;split at h
 ·rename_i xs ys e1 e2;rw[e1,ax]at hx;rw[e2,ax]at hy;obtain⟨vs,ex,rx⟩:=hx;obtain⟨us,ey,ry⟩:=hy;split at h
  ·rename_i b eb;have key:=Jg (P:=P) (w:=w) 8 t ks hks 10000 (by omega) xs ys vs us b rx ry eb;simp only[fQ,hagg,if_true]at key;have hgu:(eqGuard op t x y (.agg vs.toArray) (.agg us.toArray)).run P w=.ok () w:=run_eqGuard_agg w op t x y _ _ hg;refine bn hr (u:=.bool (if neg then !b else b)) ?_ (by simp) h;simp only[execOp,ho,ex,ey];refine fa ?_;rw[aaE,hgu];simp only[aaD];cases neg with
   | true=>subst hop;simp only[if_true,run_neq_struct,key,aaD]
   | false=>subst hop;simp only[aaj,if_false,run_eql_struct,key,aaD]
  ·exact h.elim
 ·exact h.elim
omit [Laid] in
def bh(h:cG b X):b=true∧X:=by
 cases b with
 | true=>exact⟨rfl,h⟩
 | false=>exact h.elim
def nA{own:Bool}(hr:bW base ι S a w st)(h:bH P own (aH st.fr) st.h o.op K):cl P o base ι S a w st K:=by
 generalize ho:o.op=op at h;unfold bH at h;split at h
 ·exact Kl hr (.inl ho) h
 ·exact Kl hr (.inr ho) h
 ·exact TN hr ho h
 ·rename_i bop t x y yt;split at h
  ·rename_i hagg;split at h
   ·obtain⟨hg,h⟩:=bh h;have hg:P.eqGuardType P.depth t=false:=by simpa using hg
    split at h
    ·rename_i ks hks;exact NM (neg:=false) hr ho rfl hg hagg hks h
    ·exact h.elim
   ·obtain⟨hg,h⟩:=bh h;have hg:P.eqGuardType P.depth t=false:=by simpa using hg
    split at h
    ·rename_i ks hks;exact NM (neg:=true) hr ho rfl hg hagg hks h
    ·exact h.elim
   ·exact h.elim
  ·split at h
   ·rename_i ht;exact Ty hr ho ht h
   ·exact NL hr ho h
   ·exact NL hr ho h
   ·rename_i ht;split at h
    ·exact Km (neg:=false) hr ho ht h
    ·exact Km (neg:=true) hr ho ht h
    ·exact h.elim
   ·exact h.elim
 ·exact U2 hr ho h
 ·exact U0 hr ho h
 ·split at h
  ·exact US hr ho h
  ·exact h.elim
 ·split at h
  ·rename_i hs hd;exact TA hr ho hs hd h
  ·rename_i hs hd;unfold zb at h;split at h
   ·rename_i e;exact PV hr ho hs hd ⟨_,e,h⟩
   ·exact h.elim
  ·rename_i hs hd;exact Ko hr ho hs hd (bh h).1 (bh h).2
  ·rename_i hs hd;exact Kn hr ho hs hd (bh h).1 (bh h).2
  ·exact h.elim
 ·exact TB hr ho h
 ·split at h
  ·rename_i ht;split at h
   ·rename_i hf;exact PW hr ho ht hf (bh h).1 (bh h).2
   ·exact h.elim
  ·exact h.elim
 ·split at h
  ·rename_i ht;exact TG hr ho ht h
  ·rename_i ht;exact TD hr ho ht (bh h).1 (bh h).2
  ·exact h.elim
 ·split at h
  ·rename_i ht;exact U4 hr ho ht h
  ·rename_i ht;exact Y6 hr ho ht (bh h).1 (bh h).2
  ·rename_i ht;exact U3 hr ho ht (bh h).1 (bh h).2
  ·exact h.elim
 ·split at h
  ·rename_i ht;exact TE hr ho ht (bh h).1 (bh h).2
  ·rename_i ht;exact TF hr ho ht (bh h).1 (bh h).2
  ·exact h.elim
 ·split at h
  ·rename_i ht;split at h
   ·rename_i hf;obtain⟨hq,h⟩:=bh h;simp only[On,bne_iff_ne,ne_eq]at hq;exact UT hr ho ht hf hq.1 hq.2 h
   ·exact h.elim
  ·exact h.elim
 ·exact TM hr ho h
 ·exact UZ hr ho (bh h).1 (bh h).2
 ·exact UQ hr ho h
 ·exact TI hr ho (bh h).1 (bh h).2
 ·exact PZ hr ho (bh h).1 (bh h).2
 ·split at h
  ·rename_i hz;exact PU hr ho hz h
  ·exact h.elim
 ·exact UR hr ho h
 ·split at h
  ·rename_i ht hz;obtain⟨hq,h⟩:=bh h;simp only[On]at hq;exact MM hr ho ht hz hq.1 hq.2 h
  ·rename_i ht hz;exact ML hr ho ht hz (bh h).1 (bh h).2
  ·exact h.elim
 ·split at h
  ·rename_i ht;split at h
   ·rename_i hz;cases own with
    | true=>exact PY hr ho ht hz (bh h).1 (bh h).2
    | false=>exact TL hr ho ht hz (bh h).1 (bh h).2
   ·exact h.elim
  ·exact h.elim
 ·split at h
  ·rename_i ht;split at h
   ·rename_i hz;exact TJ hr ho ht hz (bh h).1 (bh h).2
   ·exact h.elim
  ·exact h.elim
 ·exact TC hr ho h
 ·rename_i c;split at h
  ·rename_i hc;split at h
   ·rename_i hat hax;split at h
    ·rename_i ht;exact TH hr ho hc hat hax ht h
    ·rename_i ht;exact UW hr ho hc hat hax ht h
    ·exact h.elim
   ·exact h.elim
  ·rename_i hc;split at h
   ·rename_i hax;exact UY hr ho hc hax h
   ·exact h.elim
  ·rename_i hc;split at h
   ·rename_i hax;exact UX hr ho hc hax h
   ·rename_i hax;exact TK hr ho hc hax h
   ·exact h.elim
  ·rename_i hc;split at h
   ·rename_i hat hax;split at h
    ·rename_i ht htx;exact UO hr ho hc hat hax ht htx (bh h).1 (bh h).2
    ·rename_i ht htx;obtain⟨hq,h⟩:=bh h;simp only[On,beq_iff_eq]at hq;exact Tx hr ho hc hat hax ht htx hq.1 hq.2 h
    ·exact h.elim
   ·exact h.elim
  ·rename_i hc;unfold bA at h;split at h
   ·rename_i hx;exact Tz hr ho hc hx h.1 h.2
   ·exact h.elim
  ·rename_i hc;exact UU hr ho hc h
  ·exact h.elim
 ·exact h.elim
end
/-! ### Operations in a row -/
omit [Laid] in
def eY{fr:Fr}(hd:∀e,d=some e→e≠t):bF (bJ n fr d x) t=bF fr t:=by
 unfold bJ;split
 ·rename_i e;split
  ·rw[eX,if_neg (hd e rfl)]
  ·rfl
 ·rfl
theorem nK{ops:Array Oper}{base:Nat}{st:St}(hr:bW base ι S a w st)(h1:dM ops j=some d):
 (∀b,bF st.fr d=.v (.bool b)→yielded ops a.tmps j=some b)∧(bF st.fr d=.v undef→yielded ops a.tmps j=none):=by
 have r:=hr.get d;unfold dM at h1;unfold yielded;rw[h1];simp only[Option.bind_some];constructor
 ·intro b e;rw[e,cE,Array.getD_eq_getD_getElem?]at r;cases hv:a.tmps[d]? with
  | none=>rw[hv]at r;cases r
  | some v=>rw[hv]at r;simp only[Option.getD_some]at r;subst r;rfl
 ·intro e;rw[e,cE,Array.getD_eq_getD_getElem?]at r;cases hv:a.tmps[d]? with
  | none=>rfl
  | some v=>rw[hv]at r;simp only[Option.getD_some]at r;subst r;rfl
omit [Laid] in
def mE{P:Program}{o:Oper}{a:Act}{w:World}{K K':Act→World→Prop}{Q Q':Exit→Act→World→Prop}(h1:∀a w,K a w→K' a w)(h2:∀e a w,Q e a w→Q' e a w)(h:o.wp P a w K Q):o.wp P a w K' Q':=by
 unfold Oper.wp at *;generalize (execOp a.eval o).run P w=r at *;unfold Oper.upon at *;split at h
 ·exact h1 _ _ h
 ·exact h1 _ _ h
 ·exact h1 _ _ h
 ·exact h.mono fun e w' k=>by
   cases e with
   | returned v=>exact h1 _ _ k
   | panicked ch=>exact h2 _ _ _ k
   | outgrown=>obtain⟨a0,w0,k⟩:=k;exact⟨a0,w0,h2 _ _ _ k⟩
 ·exact h.mono fun v w' k=>h1 _ _ k
 ·exact h2 _ _ _ h
 ·exact h.elim
omit [Laid] in
theorem qb{ops:Array Oper}{Q Q':Exit→Act→World→Prop}(hq:∀e a w,Q e a w→Q' e a w):∀(l:List Nat) (a:Act) (w:World),wpOps P ops Q l a w→wpOps P ops Q' l a w
 | [],a,w,h=>hq _ _ _ h
 | i:: l,a,w,h=>by
   simp only[wpOps]at *;cases ho:ops[i]? with
   | none=>rw[ho]at h;exact qb hq l a w h
   | some o =>
     rw[ho]at h;simp only at *;split
     ·rename_i hw;rw[if_pos hw]at h;rcases h with h|⟨h,a0,w0,k⟩
      ·exact .inl (mE (fun a w=>qb hq l a w) hq h)
      ·exact .inr ⟨h,a0,w0,hq _ _ _ k⟩
     ·rename_i hw;rw[if_neg hw]at h;exact qb hq l _ w h
def nx(s:List AV)(k:Nat):AV:=s.getD k .any
def dy(fr:Fr)(l:List Nat):List AV:=l.map (bF fr)
def lO(fr:Fr):List Nat→List AV→Nat→Fr
 | [],_,_=>fr
 | t:: ts,s,k=>lO (dQ fr t (nx s k)) ts s (k+1)
def aI(k:(List AV→aa→Prop)→Prop)(f:List AV→aa→Prop):Prop:=k f
def jmp(cs ms:List Nat)(fr fr':Fr)(h':aa)(J:List AV→aa→Prop):Prop:=
 match cs with
 | []=>J (dy fr' ms) h'
 | c:: cs=>dy fr' (c:: cs)=dy fr (c:: cs)∧J (dy fr' ms) h'
omit [Laid] in
def qn{cs ms:List Nat}{fr fr':Fr}{J:List AV→aa→Prop}(h:jmp cs ms fr fr' h' J):dy fr' cs=dy fr cs∧J (dy fr' ms) h':=by
 cases cs with
 | nil=>exact⟨rfl,h⟩
 | cons c cs=>exact h
def join(cs ms:List Nat)(fr:Fr)(s:List AV):Fr:=lO (iV cs fr) ms s 0
inductive cQ where
 | op (i:Nat) (own:Bool)
 | aA (j:Nat) (want:Bool) (l:List (Nat×Bool)) (cs ms:List Nat)
def cQ.ix:cQ→List Nat
 | .op i _=>[i]
 | .aA _ _ l _ _=>l.map (·.1)
section
variable (P:Program) (ops:Array Oper)
def C3:List (Nat×Bool)→St→(St→Prop)→Prop
 | [],st,K=>K st
 | (i,own):: r,st,K=>match ops[i]? with
  | some o=>bH P own (aH st.fr) st.h o.op fun v h=>C3 r (we st o.dst v h) K
  | none=>False
def B9:List (Nat×Bool)→St→St
 | [],st=>st
 | (i,_):: r,st=>match ops[i]? with
  | some o=>B9 r (we st o.dst (.v undef) st.h)
  | none=>B9 r st
def jW:List cQ→St→(St→Prop)→Prop
 | [],st,K=>K st
 | .op i own:: r,st,K=>(match ops[i]? with
   | some o=>bH P own (aH st.fr) st.h o.op fun v h=>jW r (we st o.dst v h) K
   | none=>False)
 | .aA j want l cs ms:: r,st,K=>(match dM ops j with
   | some d=>aI (fun J=>aL (bF st.fr d) want (C3 P ops l ⟨st.n,dQ st.fr d (.v (.bool want)),st.h⟩ fun st' => jmp cs ms st.fr st'.fr st'.h J)
    (jmp cs ms st.fr (B9 ops l ⟨st.n,dQ st.fr d (bO want (bF st.fr d)),st.h⟩).fr st.h J)) fun s h=>jW r ⟨st.n,join cs ms st.fr s,h⟩ K
   | none=>False)
def kC:cQ→Bool
 | .op i _=>match ops[i]? with|some o=>o.guard.isNone|none=>false
 | .aA j want l _ _=>match dM ops j with
   | some d=>l.all (fun p=>match ops[p.1]? with|some o=>o.guard == some (j,want)|none=>false)&&(l.dropLast).all (fun p=>match ops[p.1]? with|some o=>o.dst != some d|none=>false)
   | none=>false
def Kr(l:List cQ):Bool:=l.all (kC ops)&&(l.map cQ.ix).flatten == List.range ops.size
end
omit [Laid] in
theorem CX(ops:Array Oper):∀(l:List (Nat×Bool)) (st:St),(B9 ops l st).h=st.h∧(B9 ops l st).n=st.n
 | [],st=>⟨rfl,rfl⟩
 | (i,own):: l,st=>by
  unfold B9;split
  ·exact CX ops l _
  ·exact CX ops l _
omit [Laid] in
theorem dd.lO{tmps:Array Value}:∀(ms:List Nat) (fr:Fr) (s:List AV) (k:Nat),dd ι S w fr tmps→(∀i t,ms[i]?=some t→ax ι S w (nx s (k+i)) (tmps.getD t undef))→dd ι S w (Aw.lO fr ms s k) tmps
 | [],fr,s,k,h,_=>h
 | t:: ts,fr,s,k,h,hs=>by
   rw[Aw.lO];refine dd.lO ts _ s (k+1) (dd.Cf h (by simpa using hs 0 t rfl)) fun i u e=>?_;have:=hs (i+1) u (by simpa using e);rw[show k+1+i=k+(i+1) by omega];exact this
omit [Laid] in
theorem Ck{fr fr':Fr}:∀{cs:List Nat},dy fr' cs=dy fr cs→∀t∈cs,bF fr' t=bF fr t
 | [],_,_,h=>by cases h
 | c:: cs,e,t,h=>by
   simp only[dy,IF,List.cons.injEq]at e;rcases IS.1 h with rfl|h
   ·exact e.1
   ·exact Ck (cs:=cs) e.2 t h
omit [Laid] in
theorem mb:∀(eT:List Nat) (fr:Fr) (t:Nat),bF (iV eT fr) t=.any∨(t∈eT∧bF (iV eT fr) t=bF fr t)
 | [],fr,t=>.inl rfl
 | k:: r,fr,t=>by
   simp only[iV,IF,bF];split
   ·rename_i h;subst h;exact .inr ⟨aaJ ..,rfl⟩
   ·rcases mb r fr t with q|⟨q1,q2⟩
    ·exact .inl q
    ·exact .inr ⟨MK _ q1,q2⟩
omit [Laid] in
def dd.eT{tmps:Array Value}{fr fr':Fr}{cs:List Nat}(h:dd ι S w fr' tmps)(e:dy fr' cs=dy fr cs):dd ι S w (iV cs fr) tmps:=by
 intro t;rcases mb cs fr t with q|⟨q1,q2⟩
 ·rw[q];simp
 ·rw[q2,←Ck e t q1];exact h t
omit [Laid] in
def PI(fr:Fr)(ms:List Nat)(i t:Nat)(e:ms[i]?=some t):nx (dy fr ms) i=bF fr t:=by
 unfold nx dy;rw[nO,iS,e];rfl
omit [Laid] in
def dd.join{tmps:Array Value}{fr fr':Fr}{cs ms:List Nat}(h:dd ι S w fr' tmps)(e:dy fr' cs=dy fr cs):dd ι S w (Aw.join cs ms fr (dy fr' ms)) tmps:=
 dd.lO ms _ _ 0 (h.eT e) fun i t q=>by rw[aaq,PI fr' ms i t q];exact h t
section
variable {P:Program} {ops:Array Oper} {m:Nat} {Q:Exit→St→Prop}
def Cn{own:Bool}{l:List Nat}{K:St→Prop}(ho:ops[i]?=some o){base:Nat}{st:St}(hm:m≤st.h.length)(hr:bW base ι S a w st)
 (hw:Region.wanted o (yielded ops a.tmps)=true) {K':AV→aa→Prop} (h:bH P own (aH st.fr) st.h o.op K')
 (next:∀v h' ι' S' a' w',K' v h'→m≤h'.length→bW base ι' S' a' w' (we st o.dst v h')→wpOps P ops (cY m base ι' S' w' (gh K Q)) l a' w') :
 wpOps P ops (cY m base ι S w (gh K Q)) (i:: l) a w:=by
 simp only[wpOps,ho];rw[if_pos hw];left;have:=nA (P:=P) (o:=o) (a:=a) hr h (cY m base ι S w (gh K Q));refine mE (fun a' w' k=>?_) (fun _ _ _ k=>k) this;obtain⟨ι',S',v,h2,hE,hR,hl,hk⟩:=k;refine qb (fun e a w k=>?_) l a' w' (next v h2 ι' S' a' w' hk (by omega) hR);exact cY.trans (hE.mono (by rw[hr.hp.len];exact hm) (aS _)) k
def M9{l:List Nat}{K:St→Prop}(ho:ops[i]?=some o){base:Nat}{st:St}(hr:bW base ι S a w st)
 (hw:Region.wanted o (yielded ops a.tmps)=false) (next:bW base ι S (a.put o.dst undef) w (we st o.dst (.v undef) st.h)→wpOps P ops (cY m base ι S w (gh K Q)) l (a.put o.dst undef) w) :
 wpOps P ops (cY m base ι S w (gh K Q)) (i:: l) a w:=by
 simp only[wpOps,ho];rw[hw];simp only[aaj,if_false];exact next (hr.put (x:=.v undef) (v:=undef) o.dst (by simp))
omit [Laid] in
def xL{want:Bool}{tmps:Array Value}(hg:o.guard=some (j,want)):Region.wanted o (yielded ops tmps)=(yielded ops tmps j == some want):=by simp[Region.wanted,hg]
omit [Laid] in
def BS{st:St}(hd:d≠some t):bF (we st d x h).fr t=bF st.fr t:=by
 unfold we;exact eY fun e he q=>hd (by rw[he,q])
theorem GY{want:Bool}(hd:dM ops j=some d){K:St→Prop}{rest:List Nat}:∀(l:List (Nat×Bool)) (base:Nat) (ι:List Ix) (S:bj) (a:Act) (w:World) (st:St) (K':St→Prop),
 l.all (fun p=>match ops[p.1]? with|some o=>o.guard == some (j,want)|none=>false)=true→(l.dropLast).all (fun p=>match ops[p.1]? with|some o=>o.dst != some d|none=>false)=true →
 m≤st.h.length→bW base ι S a w st→(l≠[]→bF st.fr d=.v (.bool want))→C3 P ops l st K' →
 (∀st' ι' S' a' w',K' st'→m≤st'.h.length→st'.n=st.n→bW base ι' S' a' w' st'→wpOps P ops (cY m base ι' S' w' (gh K Q)) rest a' w') →
 wpOps P ops (cY m base ι S w (gh K Q)) (l.map (·.1)++rest) a w
 | [],base,ι,S,a,w,st,K',_,_,hm,hr,_,h,next=>next st ι S a w h hm rfl hr
 | (i,own):: l,base,ι,S,a,w,st,K',hgs,hds,hm,hr,hc,h,next=>by
  simp only[aaC,On]at hgs;obtain⟨hg,hgs⟩:=hgs;simp only[C3]at h;cases ho:ops[i]? with
  | none=>rw[ho]at h;exact h.elim
  | some o =>
    simp only[ho,beq_iff_eq]at hg h;simp only[IF,aaQ];have hy:=(nK hr hd).1 want (hc (by simp));refine Cn ho hm hr (by rw[xL hg,hy];simp) h fun v h' ι' S' a' w' k hm' hr' => ?_;refine GY hd l base ι' S' a' w' _ K' hgs ?_ hm' hr' (fun hne=>?_) k (fun st' ι2 S2 a2 w2 k2 m2 n2 r2=>next st' ι2 S2 a2 w2 k2 m2 (by rw[n2];rfl) r2)
    ·cases l with
     | nil=>rfl
     | cons p l=>simp only[List.dropLast_cons_cons,aaC,On]at hds;exact hds.2
    ·cases l with
     | nil=>exact absurd rfl hne
     | cons p l =>
       simp only[List.dropLast_cons_cons,aaC,On,ho,bne_iff_ne,ne_eq]at hds;rw[BS hds.1];exact hc (by simp)
theorem wh{want:Bool}(hd:dM ops j=some d){K:St→Prop}{rest:List Nat}:∀(l:List (Nat×Bool)) (base:Nat) (ι:List Ix) (S:bj) (a:Act) (w:World) (st:St),
 l.all (fun p=>match ops[p.1]? with|some o=>o.guard == some (j,want)|none=>false)=true→(l.dropLast).all (fun p=>match ops[p.1]? with|some o=>o.dst != some d|none=>false)=true →
 bW base ι S a w st→(l≠[]→bF st.fr d=.v (.bool (!want))∨bF st.fr d=.v undef) →
 (∀a',bW base ι S a' w (B9 ops l st)→wpOps P ops (cY m base ι S w (gh K Q)) rest a' w) →
 wpOps P ops (cY m base ι S w (gh K Q)) (l.map (·.1)++rest) a w
 | [],base,ι,S,a,w,st,_,_,hr,_,next=>next a hr
 | (i,own):: l,base,ι,S,a,w,st,hgs,hds,hr,hc,next=>by
  simp only[aaC,On]at hgs;obtain⟨hg,hgs⟩:=hgs;simp only[B9]at next
  cases ho:ops[i]? with
  | none=>simp only[ho]at hg;cases hg
  | some o =>
    simp only[ho,beq_iff_eq]at hg next
    simp only[IF,aaQ];have hw:Region.wanted o (yielded ops a.tmps)=false:=by
     rw[xL hg];rcases hc (by simp) with q|q
     ·rw[(nK hr hd).1 _ q];cases want<;>rfl
     ·rw[(nK hr hd).2 q];rfl
    refine M9 ho hr hw fun hr' => ?_;refine wh hd l base ι S _ w _ hgs ?_ hr' (fun hne=>?_) next
    ·cases l with
     | nil=>rfl
     | cons p l=>simp only[List.dropLast_cons_cons,aaC,On]at hds;exact hds.2
    ·cases l with
     | nil=>exact absurd rfl hne
     | cons p l =>
       simp only[List.dropLast_cons_cons,aaC,On,ho,bne_iff_ne,ne_eq]at hds;rw[BS hds.1];exact hc (by simp)
theorem ny{K:St→Prop}:∀(l:List cQ) (base:Nat) (ι:List Ix) (S:bj) (a:Act) (w:World) (st:St),l.all (kC ops)=true→m≤st.h.length→bW base ι S a w st→jW P ops l st K →
 wpOps P ops (cY m base ι S w (gh K Q)) (l.map cQ.ix).flatten a w
 | [],base,ι,S,a,w,st,_,hm,hr,h=>⟨ι,S,st,bM.refl _ _ _ _ _,hm,hr,h⟩
 | .op i own:: r,base,ι,S,a,w,st,ba,hm,hr,h=>by
   simp only[aaC,On]at ba;obtain⟨hg,ba⟩:=ba;simp only[jW]at h;simp only[IF,aaM,cQ.ix,List.singleton_append];cases ho:ops[i]? with
   | none=>rw[ho]at h;exact h.elim
   | some o =>
     simp only[ho]at h;simp only[kC,ho,Option.isNone_iff_eq_none]at hg;exact Cn ho hm hr (by simp[Region.wanted,hg]) h fun v h' ι' S' a' w' k hm' hr' => ny r base ι' S' a' w' _ ba hm' hr' k
 | .aA j want l cs ms:: r,base,ι,S,a,w,st,ba,hm,hr,h=>by
   simp only[aaC,On]at ba;obtain⟨hg,ba⟩:=ba;simp only[jW]at h;simp only[IF,aaM,cQ.ix];cases hd:dM ops j with
   | none=>rw[hd]at h;exact h.elim
   | some d =>
     simp only[hd]at h;simp only[kC,hd,On]at hg;unfold aI at h;have after:∀{st':St} {ι':List Ix} {S':bj} {a':Act} {w':World},st'.n=st.n→jmp cs ms st.fr st'.fr st'.h (fun s h=>jW P ops r ⟨st.n,join cs ms st.fr s,h⟩ K)→m≤st'.h.length→bW base ι' S' a' w' st' →
      wpOps P ops (cY m base ι' S' w' (gh K Q)) (r.map cQ.ix).flatten a' w':=by
      intro st' ι' S' a' w' hn q hm' hr';obtain⟨e1,k⟩:=qn q;exact ny r base ι' S' a' w' ⟨st.n,join cs ms st.fr (dy st'.fr ms),st'.h⟩ ba hm' ⟨hr'.df,by rw[←hn];exact hr'.sz,hr'.fr.join e1,hr'.hp⟩ k
     have rv:=hr.get d;rcases h with⟨t,ht0,g1,g2⟩|⟨hu,g2⟩
     ·rw[ht0]at rv
      by_cases ht:t=want
      ·subst ht;have hr2:bW base ι S a w ⟨st.n,dQ st.fr d (.v (.bool t)),st.h⟩:=⟨hr.df,hr.sz,dd.Cf hr.fr rv,hr.hp⟩;exact GY hd l base ι S a w ⟨st.n,dQ st.fr d (.v (.bool t)),st.h⟩ _ hg.1 hg.2 hm hr2 (fun _=>by simp[eX]) (g1 rfl) fun st' ι' S' a' w' k hm' hn' hr' => after hn' k hm' hr'
      ·have ht':t=!want:=by cases t<;>cases want<;>simp_all
       subst ht';have hr2:bW base ι S a w ⟨st.n,dQ st.fr d (bO want (bF st.fr d)),st.h⟩:=⟨hr.df,hr.sz,dd.Cf hr.fr (by rw[ht0];exact rv),hr.hp⟩;refine wh hd l base ι S a w _ hg.1 hg.2 hr2 (fun _=>.inl (by simp[eX,ht0,bO])) fun a' hr' => ?_;have hh:=CX ops l ⟨st.n,dQ st.fr d (bO want (bF st.fr d)),st.h⟩;exact after hh.2 (by rw[hh.1];exact g2 rfl) (by rw[hh.1];exact hm) hr'
     ·have hr2:bW base ι S a w ⟨st.n,dQ st.fr d (bO want (bF st.fr d)),st.h⟩:=⟨hr.df,hr.sz,dd.Cf hr.fr (by rw[hu]at rv ⊢;exact rv),hr.hp⟩;refine wh hd l base ι S a w _ hg.1 hg.2 hr2 (fun _=>.inr (by simp only[eX,if_true,hu];rfl)) fun a' hr' => ?_;have hh:=CX ops l ⟨st.n,dQ st.fr d (bO want (bF st.fr d)),st.h⟩;exact after hh.2 (by rw[hh.1];exact g2) (by rw[hh.1];exact hm) hr'
end
/-! ### Loops -/
def Wk(n:Nat)(s:List AV)(h:aa)(s':List AV)(h':aa):Prop:=
 n≤h'.length∧s'.length=s.length∧∀base ι S w vs,aD ι S w s vs→cy base ι S w h→∃ι' S',bM n base ι S w ι' S' w∧aD ι' S' w s' vs∧cy base ι' S' w h'
def bc(s:List AV)(h:aa)(body:(List AV→aa→Prop)→List AV→aa→Prop):Prop:=
 ∃(α:Type) (I:α→Prop) (f:α→List AV) (g:α→aa) (μ:α→Nat) (x₀:α),I x₀∧Wk h.length s h (f x₀) (g x₀) ∧
  ∀x,I x→body (fun s' h' => ∃y,I y∧Wk h.length s' h' (f y) (g y)∧μ y<μ x) (f x) (g x)
omit [Laid] in
theorem aD.rF{fr:Fr}{tmps:Array Value}(h:dd ι S w fr tmps):∀ms:List Nat,aD ι S w (dy fr ms) (ms.map fun t=>tmps.getD t undef)
 | []=>by simp[dy]
 | t:: ms=>(bL _ _ _ _).2 ⟨h t,aD.rF h ms⟩
omit [Laid] in
def aD.nx{vs:List Value}(h:aD ι S w s vs)(e:vs[i]?=some v):ax ι S w (Aw.nx s i) v:=by
 obtain⟨a,e1,r⟩:=h.get' i v e;unfold Aw.nx;rw[nO,e1];exact r
theorem Da{P:Program}{Q:Exit→St→Prop}{c:Code}{st:St}{cs ms:List Nat}(hm:m≤st.h.length)(body:(List AV→aa→Prop)→List AV→aa→Prop)
 (hb:∀next s h,st.h.length≤h.length→body next s h→AW P st.h.length c (gh (fun st' => cG (Nat.beq st'.n st.n) (jmp cs ms st.fr st'.fr st'.h next)) Q) ⟨st.n,join cs ms st.fr s,h⟩) (hl:bc (dy st.fr ms) st.h body):AW P m (.loop c) Q st:=by
 obtain⟨α,I,f,g,μ,x₀,h₀,hw₀,round⟩:=hl;intro base ι S a w _ hr;have hfl:∀{s:List AV} {h':aa} {x:α} {n:Nat},Wk n s h' (f x) (g x)→n≤(g x).length:=fun k=>k.1
 -- what stands at each round's beginning
 let Inv:α→Act→World→Prop:=fun x a' w' => I x∧∃ι' S',bM st.h.length base ι S w ι' S' w'∧st.h.length≤(g x).length∧bW base ι' S' a' w' ⟨st.n,join cs ms st.fr (f x),g x⟩∧dd ι' S' w' (iV cs st.fr) a'.tmps
 have enter:∀{x:α} {a':Act} {w':World} {ι1:List Ix} {S1:bj} {s:List AV} {h':aa},bM st.h.length base ι S w ι1 S1 w'→a'.defers=[]→a'.tmps.size=st.n→cy base ι1 S1 w' h'→dd ι1 S1 w' (iV cs st.fr) a'.tmps→aD ι1 S1 w' s (ms.map fun t=>a'.tmps.getD t undef) →
  I x→Wk st.h.length s h' (f x) (g x)→Inv x a' w':=by
  intro x a' w' ι1 S1 s h' hE hdf hsz hp hc hs hI hw;obtain⟨hw1,hw2,hw3⟩:=hw;obtain⟨ι2,S2,hE2,hs2,hp2⟩:=hw3 base ι1 S1 w' _ hs hp;have hc2:dd ι2 S2 w' (iV cs st.fr) a'.tmps:=by
   intro t;have hbd:Bd st.h.length (bF (iV cs st.fr) t):=by
    rcases mb cs st.fr t with q|⟨_,q⟩
    ·rw[q];simp[Bd]
    ·rw[q];exact ax.bd (by rw[hr.hp.len];exact aS _) _ _ (hr.fr t)
   exact ax.fM hE2 _ _ hbd (hc t)
  exact⟨hI,ι2,S2,hE.trans hE2,hw1,⟨hdf,hsz,dd.lO ms _ _ 0 hc2 fun i t e=>by rw[aaq];exact hs2.nx (by rw[iS,e];rfl),hp2⟩,hc2⟩
 have entry:Inv x₀ a w:=enter (bM.refl _ _ _ _ _) hr.df hr.sz hr.hp (hr.fr.norm cs) (aD.rF hr.fr ms) h₀ hw₀;refine wp_loop_ghost Inv μ x₀ entry fun x a' w' ⟨hx,ι',S',hE,hm',hr',_⟩=>?_;refine wp_mono (hb _ _ _ hm' (round x hx) base ι' S' a' w' hm' hr') ?_;intro e a'' w'' k;obtain⟨ι'',S'',st'',h1,h2,h3,h4⟩:=k;have out:Q e st''→cY m base ι S w Q e a'' w'':=fun q=>⟨ι'',S'',st'',(hE.trans h1).mono hm (aS _),aat hm h2,h3,q⟩;cases e with
 | normal =>
   obtain⟨hn,q⟩:=bh h4;obtain⟨e1,y,hy,hw,hlt⟩:=qn q;have hn:st''.n=st.n:=lT hn;exact⟨y,enter (hE.trans h1) h3.df (by rw[←hn];exact h3.sz) h3.hp (h3.fr.eT e1) (aD.rF h3.fr ms) hy hw,hlt⟩
 | exit id=>exact out h4
 | goto l=>exact out h4
 | ret=>exact out h4
 | panic ch=>exact out h4
 | outgrown=>exact out h4
/-! ### Code -/
inductive Fk where
 | nil
 | one (i k:Nat) (own:Bool) (t:Fk)
 | two (a b:Fk)
inductive An where
 | nil
 | seq (a b:An)
 | join (cs ms:List Nat) (a b:An)
 | two (a b:An)
 | one (a:An)
 | loop (cs ms:List Nat) (a:An)
 | aO (l:List cQ)
 | draw (t:Nat) (l r q:List cQ)
 | HH (t:Nat) (A:List Nat) (l:List (Nat×Bool)) (r q:List cQ)
 | fF (l:List (Nat×Nat×Bool))
 | CN (t:Fk)
def An.l:An→An|.seq a _=>a|.join _ _ a _=>a|.two a _=>a|.one a=>a|.loop _ _ a=>a|_=>.nil
def An.r:An→An|.seq _ b=>b|.join _ _ _ b=>b|.two _ b=>b|_=>.nil
def An.s:An→List cQ|.aO l=>l|_=>[]
def An.j:An→Option (List Nat×List Nat)|.join c m _ _=>some (c,m)|.loop c m _=>some (c,m)|_=>none
def plain(n:Nat):List cQ:=(List.range n).map fun i=>.op i false
def An.sg(t:An)(n:Nat):List cQ:=match t with|.aO l=>l|_=>plain n
def nB{own:Bool}{ev ev':Operand→AV}{op:Op}{K:AV→aa→Prop}(he:∀x∈op.operands,ev x=ev' x)(k:bH P own ev h op K):bH P own ev' h op K:=by
 have lst:∀l:List Operand,(∀x∈l,ev x=ev' x)→l.map ev=l.map ev':=fun l hl=>List.map_congr_left hl;cases op<;>simp only[Op.operands]at he<;>simp only[bH]at k ⊢
 case move x=>rw[←he x (by simp)];exact k
 case assign x=>rw[←he x (by simp)];exact k
 case pick c a b=>rw[←he c (by simp),←he a (by simp),←he b (by simp)];exact k
 case alloc t=>exact k
 case box t x=>rw[←he x (by simp)];exact k
 case build t ps =>
  have e1:∀(f g:Nat→Nat),(ps.toList.map fun p=>(f p.1,g p.1,ev p.2))=ps.toList.map fun p=>(f p.1,g p.1,ev' p.2):=fun f g=>List.map_congr_left fun p hp=>by
   rw[he p.2 (by simp;exact⟨p.1,by simpa using hp⟩)]
  split at k
  ·rename_i fs z _ _;rw[←e1 (fun i=>((fs[i]?).map (·.offset)).getD 0) (fun i=>((fs[i]?).map (fun f=>P.cellsOf f.type)).getD 0)];exact k
  ·rename_i n e z _ _;rw[←e1 (fun i=>i*P.cellsOf e) (fun _=>P.cellsOf e)];exact k
  ·exact k
 case buildSlice t n ps =>
  have e1:∀(f g:Nat→Nat),(ps.toList.map fun p=>(f p.1,g p.1,ev p.2))=ps.toList.map fun p=>(f p.1,g p.1,ev' p.2):=fun f g=>List.map_congr_left fun p hp=>by
   rw[he p.2 (by simp;exact⟨p.1,by simpa using hp⟩)]
  split at k
  ·rename_i e _;split at k
   ·rw[←e1 (fun i=>i*P.cellsOf e) (fun _=>P.cellsOf e)];exact k
   ·exact k
  ·exact k
 case makeSlice t l c=>rw[←he l (by simp),←he c (by simp)];exact k
 case load t x=>rw[←he x (by simp)];exact k
 case store t x v=>rw[←he x (by simp),←he v (by simp)];exact k
 case nilCheck x=>rw[←he x (by simp)];exact k
 case binOp o t x y yt=>rw[←he x (by simp),←he y (by simp)];exact k
 case unOp o t x =>
  cases o<;>simp only[bH]at k ⊢
  case neg=>rw[←he x (by simp)];exact k
  case not=>rw[←he x (by simp)];exact k
  case xor=>rw[←he x (by simp)];exact k
 case convert s d x=>rw[←he x (by simp)];exact k
 case makeInterface t x=>rw[←he x (by simp)];exact k
 case typeAssert x xT a ok =>
  cases ok<;>simp only[bH]at k ⊢;rw[←he x (by simp)];exact k
 case makeFunc f xs ys =>
  rw[←lst xs.toList fun x hx=>he x (by simp at hx ⊢;exact .inl hx),←lst ys.toList fun x hx=>he x (by simp at hx ⊢;exact .inr hx)];exact k
 case slice t x lo hi mx =>
  have e0:=he x (by simp);have e1:lo.map ev=lo.map ev':=by cases lo<;>simp_all
  have e2:hi.map ev=hi.map ev':=by cases hi<;>simp_all
  cases mx<;>simp only[bH]at k ⊢;rw[←e0,←e1,←e2];exact k
 case fieldAddr t x i=>rw[←he x (by simp)];exact k
 case field t x i=>rw[←he x (by simp)];exact k
 case indexAddr t x i=>rw[←he x (by simp),←he i (by simp)];exact k
 case index t x i=>rw[←he x (by simp),←he i (by simp)];exact k
 case extract x i=>rw[←he x (by simp)];exact k
 case call c =>
  have ea:∀x∈c.args,ev x=ev' x:=fun x hx=>he x (by simp[Call.operands];exact .inr hx);have el:c.args.toList.map ev=c.args.toList.map ev':=lst _ fun x hx=>ea x (by simpa using hx);cases hc:c.callee with
  | value x =>
    rw[hc]at k;simp only at k ⊢;rw[←el,←he x (by simp[Call.operands,hc])];exact k
  | invoke r m =>
    rw[hc]at k;simp only at k ⊢;rw[←el,←he r (by simp[Call.operands,hc])];exact k
  | builtin b =>
    rw[hc]at k;cases b<;>simp only at k⊢<;> (try exact k)
    case len =>
     cases h0:c.argTypes[0]?<;>cases h1:c.args[0]?<;>rw[h0,h1]at k<;>simp only at k ⊢;rename_i t x;rw[←ea x (Array.mem_of_getElem? h1)];exact k
    case min =>
     split at k
     ·rename_i x y hxy;have m:∀z∈c.args.toList,ev z=ev' z:=fun z hz=>ea z (by simpa using hz);rw[hxy]at m;rw[←m x (by simp),←m y (by simp)];exact k
     ·exact k
    case max =>
     split at k
     ·rename_i x y hxy;have m:∀z∈c.args.toList,ev z=ev' z:=fun z hz=>ea z (by simpa using hz);rw[hxy]at m;rw[←m x (by simp),←m y (by simp)];exact k
     ·rename_i x y z hxy;have m:∀z∈c.args.toList,ev z=ev' z:=fun z hz=>ea z (by simpa using hz);rw[hxy]at m;rw[←m x (by simp),←m y (by simp),←m z (by simp)];exact k
     ·exact k
    case append =>
     split at k
     ·rename_i t tx x y hat hxy;have m:∀z∈c.args.toList,ev z=ev' z:=fun z hz=>ea z (by simpa using hz);rw[hxy]at m;rw[←m x (by simp),←m y (by simp)];exact k
     ·exact k
/-! ### One order for all -/
section
variable (P:Program) (ops:Array Oper) (n:Nat) (h:aa)
def fG(o:Oper)(fr:Fr):Option Bool:=
 match o.guard with
 | none=>some true
 | some (j,w)=>match dM ops j with
   | some d=>match bF fr d with
     | .v (.bool b)=>some (b == w)
     | .v (.tuple x)=>if x=#[] then some false else none
     | _=>none
   | none=>none
def YA(o:Oper)(x:AV)(fr:Fr):Prop:=
 (fG ops o fr=some true∧∃own,bH P own (aH fr) h o.op fun v h' => v=x∧h'=h)∨(fG ops o fr=some false∧x=.v undef)
def qA(i:Nat)(K:Fr→Prop)(fr:Fr):Prop:=
 match ops[i]? with
 | none=>K fr
 | some o=>∃x,YA P ops h o x fr∧K (bJ n fr o.dst x)
def full(t:Nat):Array Bool:=(Array.range ops.size).map fun i=>decide (i<t)
def Dc(t:Nat)(Z:Fr→Prop):Nat→Array Bool→Fr→Prop
 | 0,listed,fr=>listed=full ops t∧Z fr
 | fuel+1,listed,fr=>Region.ready .any ops listed≠[]∧∀i∈Region.ready .any ops listed,i<t∧qA P ops n h i (Dc t Z fuel (listed.setIfInBounds i true)) fr
def kG(Q:Fr→Prop):List Oper→Fr→Prop
 | [],fr=>Q fr
 | o:: r,fr=>∃x,YA P ops h o x fr∧kG Q r (bJ n fr o.dst x)
end
section
variable {P:Program} {ops:Array Oper} {n:Nat} {h:aa}
def xg{K K':Fr→Prop}{fr:Fr}(hk:∀fr,K fr→K' fr)(q:qA P ops n h i K fr):qA P ops n h i K' fr:=by
 unfold qA at *;split
 ·rename_i e;rw[e]at q;exact hk _ q
 ·rename_i o e;rw[e]at q;obtain⟨x,h1,h2⟩:=q;exact⟨x,h1,hk _ h2⟩
omit [Laid] in
def uJ{fr:Fr}(hd:∀t,d=some t→e≠some t):bJ n (bJ n fr d x) e y=bJ n (bJ n fr e y) d x:=by
 unfold bJ;cases d with
 | none=>cases e<;>rfl
 | some t =>
   cases e with
   | none=>rfl
   | some u =>
     have:t≠u:=fun q=>hd t rfl (by rw[q]);simp only;split<;>split<;>first|rfl|exact Kd _ _ _ this
def YA.same{fr fr':Fr}(hs:∀t∈o.looksAt ops,bF fr' t=bF fr t)(hy:YA P ops h o x fr):YA P ops h o x fr':=by
 have hw:fG ops o fr'=fG ops o fr:=by
  unfold fG;cases hg:o.guard with
  | none=>rfl
  | some jw =>
    obtain⟨j,w⟩:=jw;simp only;cases hd:dM ops j with
    | none=>rfl
    | some d =>
      have:bF fr' d=bF fr d:=hs d (by
       unfold Oper.looksAt;refine List.mem_append_right _ ?_;simp only[hg];unfold dM at hd;rw[hd];simp)
      simp only[this]
 have he:∀y∈o.op.operands,aH fr y=aH fr' y:=by
  intro y hy;cases y with
  | tmp t =>
    have:bF fr' t=bF fr t:=hs t (by
     unfold Oper.looksAt;refine List.mem_append_left _ ?_;simp only[aaA];exact⟨.tmp t,by simpa using hy,rfl⟩)
    simp[aH,this]
  | _=>rfl
 unfold YA at *;rw[hw];rcases hy with⟨h1,h2⟩|h1
 ·exact .inl ⟨h1,h2.imp fun _ k=>nB he k⟩
 ·exact .inr h1
def YA.put{o oj:Oper}{fr:Fr}(hap:∀d,oj.dst=some d→d∉o.looksAt ops)(hy:YA P ops h o x fr):YA P ops h o x (bJ n fr oj.dst y):=
 hy.same fun t ht=>eY fun e he q=>hap e he (q▸ht)
def YA.Vc{o oj:Oper}{fr:Fr}(hap:∀d,oj.dst=some d→d∉o.looksAt ops)(hy:YA P ops h o x (bJ n fr oj.dst y)):YA P ops h o x fr:=
 hy.same fun t ht=>(eY fun e he q=>hap e he (q▸ht)).symm
def Ke{oi oj:Oper}{K:Fr→Prop}{fr:Fr}(hj:ops[j]?=some oj)(hap:oi.apart ops oj=true)(hy:YA P ops h oi x fr)(q:qA P ops n h j K (bJ n fr oi.dst x)):
 qA P ops n h j (fun fr' => YA P ops h oi x fr'∧K (bJ n fr' oi.dst x)) fr:=by
 obtain⟨h1,h2,h3⟩:=Oper.apart_spec hap;unfold qA at *;simp only[hj]at *;obtain⟨y,q1,q2⟩:=q;refine⟨y,q1.Vc h1,hy.put h3, ?_⟩;rw[uJ (fun t ht=>h2 t ht)]at q2;exact q2
def sA{base:Nat}{fr:Fr}(hr:bW base ι S a w ⟨n,fr,h⟩)(hw:fG ops o fr=some b):Region.wanted o (yielded ops a.tmps)=b:=by
 unfold fG at hw;unfold Region.wanted;cases hg:o.guard with
 | none=>rw[hg]at hw;simp only[ON]at hw;exact hw
 | some jw =>
   obtain⟨j,w'⟩:=jw;rw[hg]at hw;simp only at hw ⊢;split at hw
   ·rename_i d hd;split at hw
    ·rename_i b' hb;rw[(nK hr hd).1 b' hb];simp only[ON]at hw;rw[←hw];cases b'<;>cases w'<;>rfl
    ·rename_i x hx;split at hw
     ·rename_i e;subst e;rw[(nK hr hd).2 hx];simp only[ON]at hw;rw[←hw];rfl
     ·cases hw
    ·cases hw
   ·cases hw
theorem yo{m i base:Nat}{fr:Fr}{K:Fr→Prop}{K':Act→World→Prop}{Q':Exit→Act→World→Prop}(hm:m≤ι.length)(hr:bW base ι S a w ⟨n,fr,h⟩)
 (hk:∀ι' S' a' w' fr',bM m base ι S w ι' S' w'→bW base ι' S' a' w' ⟨n,fr',h⟩→K fr'→K' a' w') (q:qA P ops n h i K fr):wpOp P ops Q' i K' a w:=by
 unfold qA at q;unfold wpOp;split
 ·rename_i e;rw[e]at q;exact hk ι S a w fr (bM.refl _ _ _ _ _) hr q
 ·rename_i o e;rw[e]at q;obtain⟨x,hy,q⟩:=q;rcases hy with⟨hw,own,hy⟩|⟨hw,rfl⟩
  ·rw[if_pos (sA hr hw)];left;refine mE (fun a' w' k=>?_) (fun _ _ _ k=>k) (nA (st:=⟨n,fr,h⟩) hr hy Q');obtain⟨ι',S',v,h',hE,hR,hl,rfl,rfl⟩:=k;exact hk ι' S' a' w' _ (hE.mono hm (aS _)) hR q
  ·rw[sA hr hw];simp only[aaj,if_false];have p:=hr.put (x:=.v undef) (v:=undef) o.dst (by simp);refine hk ι S _ w (bJ n fr o.dst (.v undef)) (bM.refl _ _ _ _ _) ?_ q;cases hd:o.dst with
   | none=>rw[hd]at p;exact p
   | some t=>rw[hd]at p;exact p
omit [Laid] in
def Io{K K':Act→World→Prop}{Q Q':Exit→Act→World→Prop}(h1:∀a w,K a w→K' a w)(h2:∀e a w,Q e a w→Q' e a w)(q:wpOp P ops Q i K a w):wpOp P ops Q' i K' a w:=by
 unfold wpOp at *;split
 ·rename_i e;rw[e]at q;exact h1 _ _ q
 ·rename_i o e;rw[e]at q;simp only at q;split
  ·rename_i hw;rw[if_pos hw]at q;rcases q with q|⟨q,a0,w0,k⟩
   ·exact .inl (mE h1 h2 q)
   ·exact .inr ⟨q,a0,w0,h2 _ _ _ k⟩
  ·rename_i hw;rw[if_neg hw]at q;exact h1 _ _ q
omit [Laid] in
theorem du{md:Region.Mode}{Q Q':Exit→Act→World→Prop}(hq:∀e a w,Q e a w→Q' e a w):∀(fuel:Nat) (listed:Array Bool) (a:Act) (w:World),wpAny P md ops Q fuel listed a w→wpAny P md ops Q' fuel listed a w
 | 0,_,_,_,q=>⟨q.1,hq _ _ _ q.2⟩
 | fuel+1,listed,a,w,q=>⟨fun e=>hq _ _ _ (q.1 e),fun i hi=>Io (fun a w=>du hq fuel _ a w) hq (q.2 i hi)⟩
def Down(ops:Array Oper)(listed:Array Bool):Prop:=
 ∀(i:Nat) (o:Oper),ops[i]?=some o→listed.getD i false=true→∀e∈o.after,Region.binds .any e=true→listed.getD e.on false=true
omit [Laid] in
def Down.set{listed:Array Bool}(hd:Down ops listed)(hr:i∈Region.ready .any ops listed):Down ops (listed.setIfInBounds i true):=by
 intro j o ho hl e he hb;obtain⟨h0,oi,hoi,hall⟩:=mem_ready.1 hr;have up:listed.getD e.on false=true→(listed.setIfInBounds i true).getD e.on false=true:=fun q=>by
  by_cases he:i=e.on
  ·have hlt:i<listed.size:=by
    rcases AS i listed.size with k|k
    ·exact k
    ·rw[←he]at q;simp[aaT k]at q
   rw[←he];simp[Array.getD_eq_getD_getElem?,Array.getElem?_setIfInBounds,hlt]
  ·rw[getD_set_ne false he];exact q
 by_cases hj:j=i
 ·subst hj;rw[hoi]at ho;cases ho;exact up (hall e he hb)
 ·rw[getD_set_ne false (Ne.symm hj)]at hl;exact up (hd j o ho hl e he hb)
def dx(ops:Array Oper)(i:Nat):List Nat:=match ops[i]? with|some o=>(o.after.toList.filter (Region.binds .any)).map (·.on)|none=>[]
def IT(ops:Array Oper):Nat→List Nat→List Nat
 | 0,l=>l
 | k+1,l=>IT ops k (l++l.flatMap (dx ops)).eraseDups
omit [Laid] in
theorem pR{listed:Array Bool}(hd:Down ops listed):∀(k:Nat) (l:List Nat),(∀i∈l,listed.getD i false=true)→∀i∈IT ops k l,listed.getD i false=true
 | 0,l,hl,i,hi=>hl i hi
 | k+1,l,hl,i,hi=>by
   refine pR hd k _ (fun j hj=>?_) i hi;rw[List.mem_eraseDups]at hj;rcases IN.1 hj with hj|hj
   ·exact hl j hj
   ·obtain⟨q,hq,hj⟩:=List.mem_flatMap.1 hj;unfold dx at hj;split at hj
    ·rename_i o ho;simp only[aaf,aay]at hj;obtain⟨e,⟨he,hb⟩,rfl⟩:=hj;exact hd q o ho (hl q hq) e (by simpa using he) hb
    ·cases hj
def pV(ops:Array Oper)(t:Nat):Bool:=(List.range ops.size).all fun i=>decide (i<t)||(List.range t).all fun k=>(IT ops ops.size (dx ops i)).contains k
omit [Laid] in
def uw{listed:Array Bool}(hd:Down ops listed)(hb:pV ops t=true)(hi:t≤i)(hr:i∈Region.ready .any ops listed):∀k,k<t→listed.getD k false=true:=by
 intro k hk;obtain⟨h0,o,ho,hall⟩:=mem_ready.1 hr;have hlt:=(By.1 ho).1;have:=AT.1 hb i (by simpa using hlt);simp only[aaH,OF]at this;rcases this with q|q
 ·omega
 ·have:=AT.1 q k (by simpa using hk);rw[List.contains_iff_mem]at this;refine pR hd ops.size _ (fun j hj=>?_) k this;unfold dx at hj;rw[ho]at hj;simp only[aaf,aay]at hj;obtain⟨e,⟨he,hb⟩,rfl⟩:=hj;exact hall e (by simpa using he) hb
omit [Laid] in
def oB{listed:Array Bool}(h0:listed.getD i true=false)(h1:listed.getD i false=true):False:=by
 rcases AS i listed.size with h' | h'
 ·simp[h']at h0 h1;rw[h0]at h1;cases h1
 ·simp[aaT h']at h1
theorem He{Z:Fr→Prop}{oi:Oper}{x:AV}(hB:pV ops t=true)(hi:ops[i]?=some oi)(hT:i<t):∀(fuel:Nat) (listed:Array Bool) (fr:Fr),Down ops listed →
 (∀j oj,ops[j]?=some oj→j≠i→j<t→listed.getD j true=false→(∀e∈oj.after,Region.binds .any e=true→e.on≠i)→oi.apart ops oj=true) →
 i∈Region.ready .any ops listed→YA P ops h oi x fr→Dc P ops n h t Z fuel (listed.setIfInBounds i true) (bJ n fr oi.dst x)→Dc P ops n h t Z (fuel+1) listed fr:=by
 have own:∀{K:Fr→Prop} {fr:Fr},YA P ops h oi x fr→K (bJ n fr oi.dst x)→qA P ops n h i K fr:=fun hy hk=>by unfold qA;simp only[hi];exact⟨x,hy,hk⟩
 intro fuel;induction fuel with
 | zero =>
   intro listed fr hd hfree hr hy H;refine⟨fun q=>(by rw[q]at hr;cases hr),fun j hj=>?_⟩;have hj0:=(mem_ready.1 hj).1;have hjlt:j<t:=by
    rcases AS j t with q|q
    ·exact q
    ·exact (oB (mem_ready.1 hr).1 (uw hd hB q hj i hT)).elim
   refine⟨hjlt, ?_⟩
   by_cases hji:j=i
   ·subst hji;exact own hy H
   ·exfalso;have e:=congrArg (fun a=>a.getD j true) H.1;simp only[getD_set_ne true (Ne.symm hji)]at e;rw[hj0]at e;obtain⟨_,oj,hoj,_⟩:=mem_ready.1 hj;have hlt:=(By.1 hoj).1;simp[full,hlt,hjlt]at e
 | succ fuel ih =>
   intro listed fr hd hfree hr hy H;refine⟨fun q=>(by rw[q]at hr;cases hr),fun j hj=>?_⟩;have hjlt:j<t:=by
    rcases AS j t with q|q
    ·exact q
    ·exact (oB (mem_ready.1 hr).1 (uw hd hB q hj i hT)).elim
   refine⟨hjlt, ?_⟩
   by_cases hji:j=i
   ·subst hji;exact own hy H
   ·obtain⟨_,h1⟩:=H.2 j (ready_mono hj hji);obtain⟨hjun,oj,hoj,hall⟩:=mem_ready.1 hj;have hnot:∀e∈oj.after,Region.binds .any e=true→e.on≠i:=fun e he hb heq=>by
     have h1:=hall e he hb;rw[heq]at h1;exact oB (mem_ready.1 hr).1 h1
    have h2:=Ke hoj (hfree j oj hoj hji hjlt hjun hnot) hy h1;have hfree':∀k ok,ops[k]?=some ok→k≠i→k<t→(listed.setIfInBounds j true).getD k true=false →
     (∀e∈ok.after,Region.binds .any e=true→e.on≠i)→oi.apart ops ok=true:=fun k ok hk hki hkT hun hno=>by
     refine hfree k ok hk hki hkT ?_ hno
     by_cases hjk:j=k
     ·subst hjk;exact hjun
     ·rw[getD_set_ne true hjk]at hun;exact hun
    refine xg (fun fr' h3=>ih (listed.setIfInBounds j true) fr' (hd.set hj) hfree' (ready_mono hr (Ne.symm hji)) h3.1 ?_) h2;rw[Array.setIfInBounds_comm _ _ hji];exact h3.2
def y9(ops:Array Oper)(listed:Array Bool)(t i:Nat):Bool:=
 match ops[i]? with
 | some oi=>(List.range t).all fun j=>j == i||listed.getD j true||(dx ops j).contains i||(match ops[j]? with|some oj=>oi.apart ops oj|none=>true)
 | none=>false
def qW(ops:Array Oper)(t:Nat):Nat→Nat→Array Bool→Bool
 | 0,_,listed=>listed == full ops t
 | fuel+1,k,listed=>(Region.ready .any ops listed).contains k&&decide (k<t)&&y9 ops listed t k&&qW ops t fuel (k+1) (listed.setIfInBounds k true)
omit [Laid] in
def uv{listed:Array Bool}{oi:Oper}(hi:ops[i]?=some oi)(hf:y9 ops listed t i=true):
 ∀j oj,ops[j]?=some oj→j≠i→j<t→listed.getD j true=false→(∀e∈oj.after,Region.binds .any e=true→e.on≠i)→oi.apart ops oj=true:=by
 intro j oj hj hji hjT hun hno;unfold y9 at hf;rw[hi]at hf;have:=AT.1 hf j (by simpa using hjT);simp only[hj,aaH,beq_iff_eq,hji,hun,false_or,aaj]at this;rcases this with h1|h1
 ·exfalso;unfold dx at h1;rw[hj]at h1;simp only[List.contains_iff_mem,aaf,aay]at h1;obtain⟨e,⟨he,hb⟩,q⟩:=h1;exact hno e (by simpa using he) hb q
 ·exact h1
theorem Dk{Z:Fr→Prop}(hB:pV ops t=true):∀(l:List Oper) (k:Nat) (listed:Array Bool) (fr:Fr),(∀j,j<l.length→l[j]?=ops[k+j]?)→Down ops listed →
 qW ops t l.length k listed=true→kG P ops n h Z l fr→Dc P ops n h t Z l.length listed fr
 | [],k,listed,fr,_,_,hL,q=>by
   simp only[aaN,qW,beq_iff_eq]at hL;exact⟨hL,q⟩
 | o:: l,k,listed,fr,hl,hd,hL,q=>by
   have h0:ops[k]?=some o:=by simpa using (hl 0 (by simp)).symm
   simp only[aab,qW,On,OF]at hL;obtain⟨⟨⟨hr,hkT⟩,hf⟩,hL'⟩:=hL;obtain⟨x,hy,hK⟩:=q;have hr':k∈Region.ready .any ops listed:=by simpa using hr
   exact He hB h0 hkT l.length listed fr hd (uv h0 hf) hr' hy
    (Dk hB l (k+1) _ _ (fun j hj=>by have:=hl (j+1) (by simp;omega);simpa[Nat.add_assoc,Nat.add_comm 1 j]using this) (hd.set hr') hL' hK)
theorem yJ{m t more:Nat}{Z:Fr→Prop}{Q':Exit→St→Prop}(hZ:∀fr base ι S a w,bW base ι S a w ⟨n,fr,h⟩→Z fr→wpAny P .any ops (cY m base ι S w Q') more (full ops t) a w):∀(fuel:Nat) (listed:Array Bool) (base:Nat) (ι:List Ix) (S:bj) (a:Act) (w:World) (fr:Fr),
 m≤h.length→bW base ι S a w ⟨n,fr,h⟩→Dc P ops n h t Z fuel listed fr→wpAny P .any ops (cY m base ι S w Q') (fuel+more) listed a w
 | 0,listed,base,ι,S,a,w,fr,hm,hr,q=>by rw[aaq,q.1];exact hZ fr base ι S a w hr q.2
 | fuel+1,listed,base,ι,S,a,w,fr,hm,hr,q=>by
   rw[show fuel+1+more=(fuel+more)+1 by omega];refine⟨fun e=>absurd e q.1,fun i hi=>?_⟩;refine yo (m:=m) (by rw[hr.hp.len];exact hm) hr (fun ι' S' a' w' fr' hE hr' k=>?_) (q.2 i hi).2;have:=yJ hZ fuel (listed.setIfInBounds i true) base ι' S' a' w' fr' hm hr' k;exact du (fun e a w z=>cY.trans hE z) _ _ _ _ this
def nh(ops:Array Oper):List Nat→Array Bool→Option (Array Bool)
 | [],listed=>some listed
 | i:: l,listed=>match Region.ready .any ops listed == [i] with
   | true=>nh ops l (listed.setIfInBounds i true)
   | false=>none
omit [Laid] in
theorem sI:∀(l:List Nat) (listed listed':Array Bool),Down ops listed→nh ops l listed=some listed'→Down ops listed'
 | [],listed,listed',hd,hc=>by simp only[nh,ON]at hc;exact hc▸hd
 | i:: l,listed,listed',hd,hc=>by
   simp only[nh]at hc;split at hc
   ·rename_i e;simp only[beq_iff_eq]at e;exact sI l _ _ (hd.set (by rw[e];simp)) hc
   ·cases hc
omit [Laid] in
def Na{o:Oper}{a:Act}{w:World}{K K':Act→World→Prop}{Q Q':Exit→Act→World→Prop}(h1:∀a w,K a w→K' a w)(h2:∀e a w,e≠.normal→Q e a w→Q' e a w)(h:o.wp P a w K Q):o.wp P a w K' Q':=by
 unfold Oper.wp at *;generalize (execOp a.eval o).run P w=r at *;unfold Oper.upon at *;split at h
 ·exact h1 _ _ h
 ·exact h1 _ _ h
 ·exact h1 _ _ h
 ·exact h.mono fun e w' k=>by
   cases e with
   | returned v=>exact h1 _ _ k
   | panicked ch=>exact h2 _ _ _ (by simp) k
   | outgrown=>obtain⟨a0,w0,k⟩:=k;exact⟨a0,w0,h2 _ _ _ (by simp) k⟩
 ·exact h.mono fun v w' k=>h1 _ _ k
 ·exact h2 _ _ _ (by simp) h
 ·exact h.elim
omit [Laid] in
theorem tZ{Q Q2:Exit→Act→World→Prop}{more:Nat}{listed':Array Bool}(hq:∀e a w,e≠.normal→Q2 e a w→Q e a w)(hn:∀a w,Q2 .normal a w→wpAny P .any ops Q more listed' a w):
 ∀(l:List Nat) (listed:Array Bool) (a:Act) (w:World),nh ops l listed=some listed'→wpOps P ops Q2 l a w→wpAny P .any ops Q (l.length+more) listed a w
 | [],listed,a,w,hc,h=>by
   simp only[nh,ON]at hc;subst hc;simp only[aaN,aaq];exact hn a w h
 | i:: l,listed,a,w,hc,h=>by
   simp only[nh]at hc;split at hc
   ·rename_i e;simp only[beq_iff_eq]at e;rw[aab,show l.length+1+more=(l.length+more)+1 by omega];refine⟨fun q=>(by rw[e]at q;cases q),fun j hj=>?_⟩;rw[e]at hj;simp only[Up]at hj;subst hj;have up:=fun a' w' => tZ hq hn l (listed.setIfInBounds j true) a' w' hc;unfold wpOp;simp only[wpOps]at h;cases ho:ops[j]? with
    | none =>
      rw[ho]at h;exact up a w h
    | some o =>
      rw[ho]at h;simp only at h ⊢;split
      ·rename_i hw;rw[if_pos hw]at h;rcases h with h|⟨h,a0,w0,k⟩
       ·exact .inl (Na up hq h)
       ·exact .inr ⟨h,a0,w0,hq _ _ _ (by simp) k⟩
      ·rename_i hw;rw[if_neg hw]at h;exact up _ w h
   ·cases hc
end
/-! ### The condition on abstract values -/
def Ap(S:(AV→aa→Prop)→Prop)(h:aa)(K:AV→Prop):Prop:=∃x,S (fun v h' => v=x∧h'=h)∧K x
def fH(W:(AV→Prop)→Prop):Prop:=∀K:AV→Prop,W K→∃x,W (fun v=>v=x∧True)∧K x
section
omit [Laid] in
def Jc(k:IntKind)(n:Int):fH (u9 k n):=by
 intro K;unfold u9;split<;>intro q<;>first|exact⟨_,⟨rfl,trivial⟩,q⟩|exact⟨_,⟨q.1,rfl,trivial⟩,q.2⟩
omit [Laid] in
def OZ(op:BinOp)(k:IntKind)(a b:Int):fH (sO op k a b):=by
 intro K;unfold sO;split<;>intro q<;>first|exact Jc _ _ K q|exact⟨_,⟨rfl,trivial⟩,q⟩|exact⟨_,⟨q.1,rfl,trivial⟩,q.2⟩|exact q.elim
omit [Laid] in
def O9(op:BinOp)(a b:List UInt8):fH (x6 op a b):=by
 intro K;unfold x6;split<;>intro q<;>first|exact⟨_,⟨rfl,trivial⟩,q⟩|exact⟨_,⟨q.1,rfl,trivial⟩,q.2⟩|exact q.elim
omit [Laid] in
def Jb(op:BinOp)(k:IntKind)(a b:Int):fH (vO op k a b):=by
 intro K;unfold vO;split<;>intro q<;>first|exact⟨_,⟨q.1,rfl,trivial⟩,q.2⟩|exact q.2.elim
omit [Laid] in
def FW(op:BinOp)(x y:AV):fH (ag op x y):=by
 intro K;unfold ag;split
 ·split
  ·exact Jb _ _ _ _ K
  ·intro q;obtain⟨x,q1,q2⟩:=OZ _ _ _ _ K q.2;exact⟨x,⟨q.1,q1⟩,q2⟩
 ·exact O9 _ _ _ K
 ·exact fun q=>q.elim
omit [Laid] in
def LO(op:BinOp)(x y:AV):fH (oI op x y):=by
 intro K;unfold oI;split
 ·split<;>intro q<;>first|exact⟨_,⟨rfl,trivial⟩,q⟩|exact q.elim
 ·exact fun q=>q.elim
omit [Laid] in
def OW(neg:Bool)(ks:List Nat)(x y:AV):fH (sN neg ks x y):=by
 intro K;unfold sN;split
 ·split<;>intro q<;>first|exact⟨_,⟨rfl,trivial⟩,q⟩|exact q.elim
 ·exact fun q=>q.elim
omit [Laid] in
def LZ(c a b:AV):fH (bG c a b):=by
 rintro K ⟨t,rfl,h1,h2⟩;cases t with
 | true=>exact⟨a,⟨true,rfl,fun _=>⟨rfl,trivial⟩,fun q=>by cases q⟩,h1 rfl⟩
 | false=>exact⟨b,⟨false,rfl,(fun q=>by cases q),fun _=>⟨rfl,trivial⟩⟩,h2 rfl⟩
omit [Laid] in
def O6(x:AV):fH (bT x):=by rintro K ⟨t,rfl,q⟩;exact⟨_,⟨t,rfl,rfl,trivial⟩,q⟩
omit [Laid] in
def O4(x:AV):fH (sQ x):=by
 rintro K ⟨k,n,rfl,q⟩;obtain⟨y,q1,q2⟩:=Jc _ _ K q;exact⟨y,⟨k,n,rfl,q1⟩,q2⟩
omit [Laid] in
def LP(k:IntKind)(x:AV):fH (cH k x):=by rintro K ⟨k',n,rfl,q⟩;exact⟨_,⟨k',n,rfl,rfl,trivial⟩,q⟩
omit [Laid] in
def L0(x:AV):fH (zb x):=by
 intro K;unfold zb;split<;>intro q<;>first|exact⟨_,⟨rfl,trivial⟩,q⟩|exact q.elim
omit [Laid] in
def LQ(i:Nat)(x:AV):fH (ay i x):=by
 intro K;unfold ay;split
 ·split<;>intro q<;>first|exact⟨_,⟨rfl,trivial⟩,q⟩|exact q.elim
 ·exact fun q=>q.elim
omit [Laid] in
def wJ(g:Bool)(sz:Nat)(cs:List AV):fH (ky g sz cs):=by
 intro K;unfold ky;split
 ·exact fun q=>⟨_,⟨q.1,rfl,trivial⟩,q.2⟩
 ·split<;>intro q<;>first|exact⟨_,⟨rfl,trivial⟩,q⟩|exact q.elim
omit [Laid] in
def OY(g:Bool)(o n:Nat)(x:AV):fH (qT g o n x):=by
 intro K;unfold qT;split
 ·exact wJ _ _ _ K
 ·exact fun q=>q.elim
omit [Laid] in
def LV(x i:AV):fH (dW x i):=by
 intro K;unfold dW;split<;>intro q<;>first|exact⟨_,⟨q.1,rfl,trivial⟩,q.2⟩|exact q.elim
omit [Laid] in
def LR(g:Bool)(sz len:Nat)(x i:AV):fH (pW g sz len x i):=by
 intro K;unfold pW;split
 ·intro q;obtain⟨y,q1,q2⟩:=wJ _ _ _ K q.2;exact⟨y,⟨q.1,q1⟩,q2⟩
 ·exact fun q=>q.elim
omit [Laid] in
def O8(x:AV)(lo hi:Option AV):fH (eS x lo hi):=by
 intro K;unfold eS;split
 ·split<;>intro q<;>first|exact⟨_,⟨q.1,rfl,trivial⟩,q.2⟩|exact q.elim
 ·exact fun q=>q.elim
omit [Laid] in
def Sk(n:Nat)(x:AV)(lo hi:Option AV):fH (iB n x lo hi):=by
 intro K;unfold iB;split
 ·split<;>intro q<;>first|exact⟨_,⟨q.1,q.2.1,rfl,trivial⟩,q.2.2⟩|exact q.elim
 ·split<;>intro q<;>first|exact⟨_,⟨q.1,q.2.1,rfl,trivial⟩,q.2.2⟩|exact q.elim
 ·split<;>intro q<;>first|exact⟨_,⟨q.1,rfl,trivial⟩,q.2⟩|exact q.elim
 ·exact fun q=>q.elim
omit [Laid] in
def O7(n sz:Nat)(x:AV)(lo hi:Option AV)(h:aa):fH (Au n sz x lo hi h):=by
 intro K;unfold Au;split
 ·split<;>intro q<;>first|exact⟨_,⟨q.1,rfl,trivial⟩,q.2⟩|exact q.elim
 ·split<;>intro q<;>first|exact⟨_,⟨q.1,rfl,trivial⟩,q.2⟩|exact q.elim
 ·exact fun q=>q.elim
omit [Laid] in
def LS(m:Nat)(x i:AV):fH (au m x i):=by
 intro K;unfold au;split<;>intro q<;>first|exact⟨_,⟨q.1,q.2.1,rfl,trivial⟩,q.2.2⟩|exact q.elim
omit [Laid] in
def LU(len sz:Nat)(x i:AV):fH (fW len sz x i):=by
 intro K;unfold fW;split<;>intro q<;>first|exact⟨_,⟨q.1,rfl,trivial⟩,q.2⟩|exact q.elim
omit [Laid] in
def OX(o:Nat)(x:AV):fH (aN o x):=by
 intro K;unfold aN;split<;>intro q<;>first|exact⟨_,⟨rfl,trivial⟩,q⟩|exact q.elim
omit [Laid] in
def O5(x:AV):fH (vN x):=by
 intro K;unfold vN;split<;>intro q<;>first|exact⟨_,⟨rfl,trivial⟩,q⟩|exact q.elim
omit [Laid] in
def xU(g:Bool)(sz:Nat)(x:AV)(h:aa):fH (ae g sz x h):=by
 intro K;unfold ae;split
 ·exact wJ _ _ _ K
 ·split
  ·exact wJ _ _ _ K
  ·exact fun q=>q.elim
 ·exact fun q=>q.elim
omit [Laid] in
def BM(z:AV)(ps:List (Nat×Nat×AV)):fH (bf z ps):=by
 intro K;unfold bf;split<;>intro q<;>first|exact⟨_,⟨rfl,trivial⟩,q⟩|exact q.elim
omit [Laid] in
def Ja(len sz:Nat)(z:AV)(ps:List (Nat×Nat×AV)):fH (bz len sz z ps):=by
 intro K;unfold bz;split<;>intro q<;>first|exact⟨_,⟨rfl,trivial⟩,q⟩|exact q.elim
omit [Laid] in
def Fj(x:AV)(h:aa):fH (dk x h):=by
 intro K;unfold dk;split<;>intro q<;>first|exact⟨_,⟨rfl,trivial⟩,q⟩|exact q.elim
omit [Laid] in
def O1(x y:AV):fH (kD x y):=by
 intro K;unfold kD;split<;>intro q<;>first|exact⟨_,⟨q.1,rfl,trivial⟩,q.2⟩|exact q.elim
omit [Laid] in
def Af(x y:AV):fH (iy x y):=by
 intro K;unfold iy;split<;>intro q<;>first|exact⟨_,⟨q.1,rfl,trivial⟩,q.2⟩|exact q.elim
omit [Laid] in
def LW(x y z:AV):fH (fun K=>iy x y fun u=>iy u z K):=by
 intro K q;obtain⟨r,h1,h2⟩:=Af x y _ q;obtain⟨s,h3,h4⟩:=Af r z K h2;refine⟨s, ?_,h4⟩;unfold iy at h1 ⊢;split at h1
 ·obtain⟨e,f⟩:=h1;refine⟨e, ?_⟩;rw[f.1];exact h3
 ·exact h1.elim
omit [Laid] in
def gf(b:Bool){W:(AV→Prop)→Prop}(hW:fH W):fH (fun K=>cG b (W K)):=by
 intro K q;obtain⟨hb,q⟩:=bh q;subst hb;exact hW K q
end
omit [Laid] in
def LY(P:Program)(x:AV):fH (ca P x):=by
 intro K;unfold ca;split<;>intro q
 ·exact⟨_,⟨q.1,rfl,trivial⟩,q.2⟩
 ·exact O5 _ K q
omit [Laid] in
def OV(has:TypeId→Bool)(x:AV):fH (xZ has x):=by
 intro K;unfold xZ;split<;>intro q<;>first|exact⟨_,⟨q.1,rfl,trivial⟩,q.2⟩|exact q.elim
omit [Laid] in
def O3(t:TypeId)(x:AV):fH (pE t x):=by
 intro K;unfold pE;intro q;exact⟨_,⟨rfl,trivial⟩,q⟩
omit [Laid] in
def O0(neg:Bool)(r:Option Bool):fH (iH neg r):=by
 intro K;unfold iH;split<;>intro q<;>first|exact⟨_,⟨rfl,trivial⟩,q⟩|exact q.elim
omit [Laid] in
def LX(neg:Bool)(d:TypeDesc)(y:Operand)(x:AV):fH (wT neg d y x):=by
 intro K;unfold wT;split<;>intro q<;>first|exact O0 _ _ K q|exact q.elim
def rn(P:Program)(own:Bool):Op→Bool
 | .buildSlice .. => own
 | .makeInterface .. | .typeAssert .. | .move _|.assign _|.pick .. | .binOp .. | .extract .. | .field .. | .index .. | .slice .. | .indexAddr .. | .fieldAddr .. | .nilCheck _|.load .. | .build .. | .makeFunc .. | .unOp .. => true
 | .convert s d _=>(match P.underlying s,P.underlying d with|some .string,some (.slice _)=>false|_,_=>true)
 | .call c=>(match c.callee with|.builtin .min|.builtin .max=>true|_=>false)
 | _=>false
def u7(P:Program)(x:AV)(args:List AV)(h:aa)(K:AV→Prop):Prop:=∃r,bA P x args h (fun v h' => v=r∧h'=h)∧K r
def iT(x:AV)(K:AV→Prop):Prop:=match x with|.str l=>K (i_ l.length)|_=>False
def dX(x:AV)(K:AV→Prop):Prop:=
 match lQ x with
 | .sl _ rows=>K (i_ rows.length)
 | .own _ _ len _=>K (i_ len)
 | .emp=>K (i_ 0)
 | _=>False
def DG(P:Program)(own:Bool)(ev:Operand→AV)(h:aa)(op:Op)(K:AV→Prop):Prop:=
 match op with
 | .call c=>(match c.callee with
   | .value x=>u7 P (ev x) (c.args.toList.map ev) h K
   | .builtin .len=>(match c.argTypes[0]?,c.args[0]? with
     | some t,some x=>(match P.underlying t with
       | some .string=>iT (ev x) K
       | some (.slice _)=>dX (ev x) K
       | _=>False)
     | _,_=>False)
   | _=>cG (rn P own (.call c)) (bH P own ev h (.call c) fun v _=>K v))
 | op=>cG (rn P own op) (bH P own ev h op fun v _=>K v)
def uj{own:Bool}{ev:Operand→AV}{op:Op}{K:AV→Prop}(hq:rn P own op=true)(q:bH P own ev h op fun v _=>K v):Ap (bH P own ev h op) h K:=by
 unfold Ap;cases op<;>simp only[rn,aaj]at hq<;>simp only[bH]at q ⊢
 case move x=>exact⟨_,⟨rfl,trivial⟩,q⟩
 case assign x=>exact⟨_,⟨rfl,trivial⟩,q⟩
 case pick=>exact LZ _ _ _ K q
 case build t ps =>
  split at q
  ·exact gf _ (BM _ _) K q
  ·exact gf _ (BM _ _) K q
  ·exact q.elim
 case load=>exact gf _ (xU _ _ _ _) K q
 case buildSlice t n ps =>
  subst hq;simp only at q ⊢;cases ht:P.underlying t with
  | none=>rw[ht]at q;exact q.elim
  | some d =>
    rw[ht]at q;cases d<;>simp only at q⊢<;> first|exact q.elim|skip
    rename_i e;cases hz:iw P e with
    | none=>rw[hz]at q;exact q.elim
    | some z=>rw[hz]at q;exact gf _ (Ja _ _ _ _) K q
 case nilCheck=>exact LY _ _ K q
 case makeInterface=>exact gf _ (O3 _ _) K q
 case typeAssert x xT a ok=>cases ok<;>first|exact q.elim|exact OV _ _ K q
 case binOp o t x y yt =>
  split at q
  ·rename_i hagg;simp only[hagg,if_true];cases o<;>simp only at q⊢<;> first|exact q.elim|skip
   all_goals
    cases hks:kZ P 8 t with
    | none=>rw[hks]at q;exact (bh q).2.elim
    | some ks=>rw[hks]at q;exact gf _ (OW _ _ _ _) K q
  ·rename_i hagg;simp only[hagg,if_false,aaj];cases hu:P.underlying t with
   | none=>rw[hu]at q;exact q.elim
   | some d =>
     rw[hu]at q;cases d<;>simp only at q⊢<;> first|exact LO _ _ _ K q|exact FW _ _ _ K q|(cases o<;>first|exact q.elim|exact LX _ _ _ _ K q)
 case unOp o t x=>cases o<;>simp only at q⊢<;> first|exact q.elim|exact O6 _ K q|exact O4 _ K q|(cases hu:P.underlying t with|none=>rw[hu]at q;exact q.elim|some d=>rw[hu]at q;cases d<;>simp only at q⊢<;> first|exact q.elim|exact FW _ _ _ K q)
 case convert s d x =>
  cases hs:P.underlying s with
  | none=>rw[hs]at q;exact q.elim
  | some a =>
    cases hd:P.underlying d with
    | none=>rw[hs,hd]at q;cases a<;>exact q.elim
    | some b =>
      rw[hs,hd]at q hq;cases a<;>cases b<;>simp only[aaj]at q hq⊢<;> first|exact q.elim|exact LP _ _ K q|exact L0 _ K q|exact gf _ (Fj _ _) K q
 case makeFunc=>exact⟨_,⟨rfl,trivial⟩,q⟩
 case slice t x lo hi mx =>
  cases mx with
  | some m=>exact q.elim
  | none =>
    simp only at q ⊢;cases ht:P.underlying t with
    | none=>rw[ht]at q;exact q.elim
    | some d =>
      rw[ht]at q;cases d<;>simp only at q⊢<;> first|exact q.elim|exact O8 _ _ _ K q|exact gf _ (Sk _ _ _ _) K q|exact gf _ (O7 _ _ _ _ _ _) K q
 case fieldAddr t x i =>
  split at q
  ·split at q
   ·exact gf _ (OX _ _) K q
   ·exact q.elim
  ·exact q.elim
 case field t x i =>
  split at q
  ·split at q
   ·exact gf _ (OY _ _ _ _) K q
   ·exact q.elim
  ·exact q.elim
 case indexAddr t x i =>
  split at q
  ·exact gf _ (LS _ _ _) K q
  ·exact gf _ (LU _ _ _ _) K q
  ·exact q.elim
 case index t x i =>
  split at q
  ·exact LV _ _ K q
  ·exact gf _ (LR _ _ _ _ _) K q
  ·exact q.elim
 case extract=>exact LQ _ _ K q
 case call c =>
  cases hc:c.callee<;>rw[hc]at q hq<;>first|exact q.elim|(simp only[aaj]at hq;done)|skip
  rename_i b;cases b<;>first|(simp only[aaj]at hq;done)|exact q.elim|skip
  all_goals simp only at q ⊢
  ·split at q
   ·exact Af _ _ K q
   ·exact LW _ _ _ K q
   ·exact q.elim
  ·split at q
   ·exact O1 _ _ K q
   ·exact q.elim
omit [Laid] in
def BZ{K:AV→Prop}(q:iT x K):∃y,cn x (fun v=>v=y∧True)∧K y:=by
 unfold iT at q;split at q
 ·exact⟨_,fun _=>⟨rfl,trivial⟩,q⟩
 ·exact q.elim
omit [Laid] in
def D9{K:AV→Prop}(q:dX x K):∃y,aU x (fun v=>v=y∧True)∧K y:=by
 unfold dX at q;unfold aU
 revert q
 cases lQ x<;>intro q<;>first|exact⟨_,fun _=>⟨rfl,trivial⟩,q⟩|exact⟨_,⟨rfl,trivial⟩,q⟩|exact q.elim
def ql{own:Bool}{ev:Operand→AV}{op:Op}{K:AV→Prop}(q:DG P own ev h op K):Ap (bH P own ev h op) h K:=by
 unfold DG at q;split at q
 ·rename_i c;split at q
  ·rename_i x hc;obtain⟨r,q1,q2⟩:=q;exact⟨r,by simp only[bH,hc];exact q1,q2⟩
  ·rename_i hc;unfold Ap;simp only[bH,hc];cases h1:c.argTypes[0]? with
   | none=>rw[h1]at q;exact q.elim
   | some t =>
     cases h2:c.args[0]? with
     | none=>rw[h1,h2]at q;exact q.elim
     | some x =>
       rw[h1,h2]at q;simp only at q ⊢;cases ht:P.underlying t with
       | none=>rw[ht]at q;exact q.elim
       | some d =>
         rw[ht]at q;cases d<;>first|exact q.elim|exact BZ q|exact D9 q
  ·exact uj (bh q).1 (bh q).2
 ·exact uj (bh q).1 (bh q).2
section
variable (P:Program) (ops:Array Oper) (n:Nat) (h:aa)
def dL:List (Nat×Bool)→Fr→(Fr→Prop)→Prop
 | [],fr,K=>K fr
 | (i,own):: r,fr,K=>match ops[i]? with
  | some o=>Ap (bH P own (aH fr) h o.op) h fun v=>dL r (bJ n fr o.dst v) K
  | none=>False
def BL:List (Nat×Bool)→Fr→Fr
 | [],fr=>fr
 | (i,_):: r,fr=>match ops[i]? with
  | some o=>BL r (bJ n fr o.dst (.v undef))
  | none=>BL r fr
def jN:List cQ→Fr→(Fr→Prop)→Prop
 | [],fr,K=>K fr
 | .op i own:: r,fr,K=>(match ops[i]? with
   | some o=>Ap (bH P own (aH fr) h o.op) h fun v=>jN r (bJ n fr o.dst v) K
   | none=>False)
 | .aA j want l _ ms:: r,fr,K=>(match dM ops j with
   | some d=>aI (fun J=>aL (bF fr d) want (dL P ops n h l fr fun fr' => J (dy fr' ms) h) (J (dy (BL ops n l fr) ms) h)) fun s _=>jN r (lO fr ms s 0) K
   | none=>False)
def vL:List (Nat×Bool)→Fr→(Fr→Prop)→Prop
 | [],fr,K=>K fr
 | (i,own):: r,fr,K=>match ops[i]? with
  | some o=>DG P own (aH fr) h o.op fun v=>vL r (bJ n fr o.dst v) K
  | none=>False
def oP:List cQ→Fr→(Fr→Prop)→Prop
 | [],fr,K=>K fr
 | .op i own:: r,fr,K=>(match ops[i]? with
   | some o=>DG P own (aH fr) h o.op fun v=>oP r (bJ n fr o.dst v) K
   | none=>False)
 | .aA j want l _ ms:: r,fr,K=>(match dM ops j with
   | some d=>aI (fun J=>aL (bF fr d) want (vL P ops n h l fr fun fr' => J (dy fr' ms) h) (J (dy (BL ops n l fr) ms) h)) fun s _=>oP r (lO fr ms s 0) K
   | none=>False)
def uk:List (Nat×Bool)→List Nat
 | []=>[]
 | (i,_):: r=>match ops[i]? with
  | some o=>(match o.dst with|some t=>t:: uk r|none=>uk r)
  | none=>uk r
def qN:cQ→Bool
 | .op .. => true
 | .aA _ _ l _ ms=>(uk ops l).all (ms.contains ·)&&ms.all fun t=>decide (t<n)
end
theorem T5{ops:Array Oper}:∀(l:List (Nat×Bool)) (fr:Fr) (K K':Fr→Prop),(∀f,K f→K' f)→vL P ops n h l fr K→dL P ops n h l fr K'
 | [],fr,K,K',hk,q=>hk _ q
 | (i,_):: r,fr,K,K',hk,q=>by
  simp only[vL]at q;simp only[dL];cases ho:ops[i]? with
  | none=>rw[ho]at q;exact q.elim
  | some o =>
    rw[ho]at q;obtain⟨x,q1,q2⟩:=ql q;exact⟨x,q1,T5 r _ K K' hk q2⟩
theorem qu{ops:Array Oper}:∀(l:List cQ) (fr:Fr) (K:Fr→Prop),oP P ops n h l fr K→jN P ops n h l fr K
 | [],fr,K,q=>q
 | .op i _:: r,fr,K,q=>by
   simp only[oP]at q;simp only[jN];cases ho:ops[i]? with
   | none=>rw[ho]at q;exact q.elim
   | some o =>
     rw[ho]at q;obtain⟨x,q1,q2⟩:=ql q;exact⟨x,q1,qu r _ K q2⟩
 | .aA j want l _ ms:: r,fr,K,q=>by
   simp only[oP,aI]at q;simp only[jN,aI];cases hd:dM ops j with
   | none=>rw[hd]at q;exact q.elim
   | some d =>
     rw[hd]at q;rcases q with⟨t,ht,g1,g2⟩|⟨hu,g2⟩
     ·exact .inl ⟨t,ht,fun z=>T5 l fr _ _ (fun f hf=>qu r _ K hf) (g1 z),fun z=>qu r _ K (g2 z)⟩
     ·exact .inr ⟨hu,qu r _ K g2⟩
/-! ### What it comes to -/
def mZ(fr fr':Fr):Prop:=∀t,bF fr t=bF fr' t
omit [Laid] in
def mZ.set{fr fr':Fr}(e:mZ fr fr')(n:Nat)(d:Option Tmp)(x:AV):mZ (bJ n fr d x) (bJ n fr' d x):=by
 intro t;unfold bJ;cases d with
 | none=>exact e t
 | some u =>
   simp only;split
   ·rw[eX,eX];split
    ·rfl
    ·exact e t
   ·exact e t
section
variable {P:Program} {ops:Array Oper} {n:Nat} {h:aa} {Z:Fr→Prop}
theorem kG.eq:∀(l:List Oper) {fr fr':Fr},(∀f f',mZ f f'→Z f→Z f')→mZ fr fr'→kG P ops n h Z l fr→kG P ops n h Z l fr'
 | [],fr,fr',hZ,e,q=>hZ _ _ e q
 | o:: l,fr,fr',hZ,e,⟨x,hy,q⟩=>⟨x,hy.same fun t _=>(e t).symm,kG.eq l hZ (e.set n o.dst x) q⟩
theorem Ea:∀(l1 l2:List Oper) {fr:Fr},kG P ops n h (kG P ops n h Z l2) l1 fr→kG P ops n h Z (l1++l2) fr
 | [],_,_,q=>q
 | _:: l1,l2,_,⟨x,hy,q⟩=>⟨x,hy,Ea l1 l2 q⟩
theorem B1{Z':Fr→Prop}:∀(l:List Oper) {fr:Fr},(∀f,Z f→Z' f)→kG P ops n h Z l fr→kG P ops n h Z' l fr
 | [],_,hz,q=>hz _ q
 | _:: l,_,hz,⟨x,hy,q⟩=>⟨x,hy,B1 l hz q⟩
def iW(ops:Array Oper)(l:List Nat):List Oper:=l.filterMap (ops[·]?)
omit [Laid] in
theorem EA:∀(ms:List Nat) (fr:Fr) (s:List AV) (k t:Nat),(∀i u,ms[i]?=some u→∃x,s[k+i]?=some x) →
 (t∉ms∧bF (lO fr ms s k) t=bF fr t)∨∃i x,ms[i]?=some t∧s[k+i]?=some x∧bF (lO fr ms s k) t=x
 | [],fr,s,k,t,_=>.inl ⟨by simp,rfl⟩
 | m:: ms,fr,s,k,t,hs=>by
   rw[lO];rcases EA ms (dQ fr m (nx s k)) s (k+1) t (fun i u e=>by
    obtain⟨x,hx⟩:=hs (i+1) u (by simpa using e);exact⟨x,by rw[show k+1+i=k+(i+1) by omega];exact hx⟩) with⟨h1,h2⟩|⟨i,x,h1,h2,h3⟩
   ·rw[eX]at h2
    by_cases e:m=t
    ·right;obtain⟨x,hx⟩:=hs 0 m rfl;rw[if_pos e]at h2;refine⟨0,x,by simp[e],hx, ?_⟩;rw[h2];unfold nx;rw[nO,show k=k+0 from rfl,hx];rfl
    ·left;rw[if_neg e]at h2;exact⟨by simp[Ne.symm e,h1],h2⟩
   ·exact .inr ⟨i+1,x,by simpa using h1,by rw[show k+(i+1)=k+1+i by omega];exact h2,h3⟩
omit [Laid] in
def Jj{fr fr':Fr}{ms:List Nat}(hk:∀t,t∉ms→bF fr' t=bF fr t):mZ (lO fr ms (dy fr' ms) 0) fr':=by
 intro t;rcases EA ms fr (dy fr' ms) 0 t (fun i u e=>⟨bF fr' u,by rw[aaq,dy,iS,e];rfl⟩) with⟨h1,h2⟩|⟨i,x,h1,h2,h3⟩
 ·rw[h2,hk t h1]
 ·rw[h3];rw[aaq,dy,iS,h1]at h2;simpa using h2.symm
theorem FU:∀(l:List (Nat×Bool)) (fr:Fr) (K:Fr→Prop),dL P ops n h l fr K→dL P ops n h l fr fun fr' => K fr'∧∀t,t∉uk ops l→bF fr' t=bF fr t
 | [],fr,K,q=>⟨q,fun _ _=>rfl⟩
 | (i,own):: l,fr,K,q=>by
  simp only[dL]at q ⊢;cases ho:ops[i]? with
  | none=>rw[ho]at q;exact q.elim
  | some o =>
    simp only[ho]at q ⊢;obtain⟨x,q1,q2⟩:=q;refine⟨x,q1, ?_⟩;have:=FU l _ _ q2;have mono:∀(l:List (Nat×Bool)) (fr:Fr) (A B:Fr→Prop),(∀f,A f→B f)→dL P ops n h l fr A→dL P ops n h l fr B:=by
     intro l;induction l with
     | nil=>intro fr A B hab q;exact hab _ q
     | cons p l ih =>
       intro fr A B hab q;simp only[dL]at q ⊢;cases ho:ops[p.1]? with
       | none=>rw[ho]at q;exact q.elim
       | some o =>
         simp only[ho]at q ⊢;obtain⟨x,q1,q2⟩:=q;exact⟨x,q1,ih _ _ _ hab q2⟩
    refine mono l _ _ _ (fun f hf=>⟨hf.1,fun t ht=>?_⟩) this;simp only[uk,ho]at ht;cases hd:o.dst with
    | none=>simp only[hd]at ht;rw[hf.2 t ht,hd];rfl
    | some u =>
      simp only[hd,IS,not_or]at ht;rw[hf.2 t ht.2,hd];exact eY fun e he=>by cases he;exact Ne.symm ht.1
omit [Laid] in
theorem qK:∀(l:List (Nat×Bool)) (fr:Fr) (t:Nat),t∉uk ops l→bF (BL ops n l fr) t=bF fr t
 | [],fr,t,_=>rfl
 | (i,own):: l,fr,t,ht=>by
  simp only[BL];simp only[uk]at ht;cases ho:ops[i]? with
  | none=>simp only[ho]at ht ⊢;exact qK l fr t ht
  | some o =>
    simp only[ho]at ht ⊢;cases hd:o.dst with
    | none=>simp only[hd]at ht ⊢;exact qK l _ t ht
    | some u =>
      simp only[hd,IS,not_or]at ht ⊢;rw[qK l _ t ht.2];exact eY fun e he=>by cases he;exact Ne.symm ht.1
omit [Laid] in
def nt(h:ops[i]?=some o):iW ops (i:: l)=o:: iW ops l:=by simp[iW,h]
theorem JD{want:Bool}(hd:dM ops j=some d){K:Fr→Prop}:∀(l:List (Nat×Bool)) (fr:Fr),
 l.all (fun p=>match ops[p.1]? with|some o=>o.guard == some (j,want)|none=>false)=true→(l.dropLast).all (fun p=>match ops[p.1]? with|some o=>o.dst != some d|none=>false)=true →
 (l≠[]→bF fr d=.v (.bool want))→dL P ops n h l fr K→kG P ops n h K (iW ops (l.map (·.1))) fr
 | [],fr,_,_,_,q=>q
 | (i,own):: l,fr,hgs,hds,hc,q=>by
  simp only[aaC,On]at hgs;obtain⟨hg,hgs⟩:=hgs;simp only[dL]at q;cases ho:ops[i]? with
  | none=>rw[ho]at q;exact q.elim
  | some o =>
    simp only[ho,beq_iff_eq]at hg q;obtain⟨x,q1,q2⟩:=q;rw[IF,nt ho];refine⟨x,.inl ⟨by simp[fG,hg,hd,hc (by simp)],_,q1⟩,JD hd l _ hgs ?_ (fun hne=>?_) q2⟩
    ·cases l with
     | nil=>rfl
     | cons p l=>simp only[List.dropLast_cons_cons,aaC,On]at hds;exact hds.2
    ·cases l with
     | nil=>exact absurd rfl hne
     | cons p l =>
       simp only[List.dropLast_cons_cons,aaC,On,ho,bne_iff_ne,ne_eq]at hds;rw[eY fun e he q=>hds.1 (by rw[he,q])];exact hc (by simp)
theorem A2{want:Bool}(hd:dM ops j=some d){K:Fr→Prop}:∀(l:List (Nat×Bool)) (fr:Fr),
 l.all (fun p=>match ops[p.1]? with|some o=>o.guard == some (j,want)|none=>false)=true→(l.dropLast).all (fun p=>match ops[p.1]? with|some o=>o.dst != some d|none=>false)=true →
 (l≠[]→bF fr d=.v (.bool (!want))∨bF fr d=.v undef)→K (BL ops n l fr)→kG P ops n h K (iW ops (l.map (·.1))) fr
 | [],fr,_,_,_,q=>q
 | (i,own):: l,fr,hgs,hds,hc,q=>by
  simp only[aaC,On]at hgs;obtain⟨hg,hgs⟩:=hgs;simp only[BL]at q;cases ho:ops[i]? with
  | none=>simp only[ho]at hg;cases hg
  | some o =>
    simp only[ho,beq_iff_eq]at hg q;rw[IF,nt ho];have hw:fG ops o fr=some false:=by
     unfold fG;simp only[hg,hd];rcases hc (by simp) with z|z
     ·rw[z];cases want<;>rfl
     ·rw[z];rfl
    refine⟨.v undef,.inr ⟨hw,rfl⟩,A2 hd l _ hgs ?_ (fun hne=>?_) q⟩
    ·cases l with
     | nil=>rfl
     | cons p l=>simp only[List.dropLast_cons_cons,aaC,On]at hds;exact hds.2
    ·cases l with
     | nil=>exact absurd rfl hne
     | cons p l =>
       simp only[List.dropLast_cons_cons,aaC,On,ho,bne_iff_ne,ne_eq]at hds;rw[eY fun e he q=>hds.1 (by rw[he,q])];exact hc (by simp)
theorem si(hZ:∀f f',mZ f f'→Z f→Z f'):∀(l:List cQ) (fr:Fr),l.all (kC ops)=true→l.all (qN ops n)=true→jN P ops n h l fr Z→kG P ops n h Z (iW ops (l.map cQ.ix).flatten) fr
 | [],fr,_,_,q=>q
 | .op i own:: r,fr,ba,hdk,q=>by
   simp only[aaC,On]at ba hdk;simp only[jN]at q;cases ho:ops[i]? with
   | none=>rw[ho]at q;exact q.elim
   | some o =>
     simp only[ho]at q;obtain⟨x,q1,q2⟩:=q;have hg:=ba.1;simp only[kC,ho,Option.isNone_iff_eq_none]at hg;simp only[IF,aaM,cQ.ix,List.singleton_append];rw[nt ho];exact⟨x,.inl ⟨by simp[fG,hg],_,q1⟩,si hZ r _ ba.2 hdk.2 q2⟩
 | .aA j want l cs ms:: r,fr,ba,hdk,q=>by
   simp only[aaC,On]at ba hdk;obtain⟨hg,ba⟩:=ba;obtain⟨hdg,hdk⟩:=hdk;simp only[jN]at q;cases hd:dM ops j with
   | none=>rw[hd]at q;exact q.elim
   | some d =>
     simp only[hd]at q;simp only[kC,hd,On]at hg;simp only[qN,On]at hdg;have hsub:∀t,t∉ms→t∉uk ops l:=fun t ht ht' => ht (by simpa using AT.1 hdg.1 t ht');unfold aI at q;simp only[IF,aaM,cQ.ix];have split:iW ops (l.map (·.1)++(r.map cQ.ix).flatten)=iW ops (l.map (·.1))++iW ops (r.map cQ.ix).flatten:=by simp[iW,List.filterMap_append]
     rw[split];refine Ea _ _ ?_;have after:∀{fr':Fr},(∀t,t∉ms→bF fr' t=bF fr t)→jN P ops n h r (lO fr ms (dy fr' ms) 0) Z→kG P ops n h Z (iW ops (r.map cQ.ix).flatten) fr':=fun hk k =>
      kG.eq _ hZ (Jj hk) (si hZ r _ ba hdk k)
     rcases q with⟨t,ht0,g1,g2⟩|⟨hu,g2⟩
     ·by_cases ht:t=want
      ·subst ht;exact B1 _ (fun f hf=>after (fun u hu=>hf.2 u (hsub u hu)) hf.1) (JD hd l fr hg.1 hg.2 (fun _=>ht0) (FU l fr _ (g1 rfl)))
      ·have ht':t=!want:=by cases t<;>cases want<;>simp_all
       subst ht';exact A2 hd l fr hg.1 hg.2 (fun _=>.inl ht0) (after (fun u hu=>qK l fr u (hsub u hu)) (g2 rfl))
     ·exact A2 hd l fr hg.1 hg.2 (fun _=>.inr hu) (after (fun u hu' => qK l fr u (hsub u hu')) g2)
end
def Jd(P:Program)(ops:Array Oper)(n t:Nat)(l r q:List cQ):Bool:=
 P.follows .mixedOrders&&pV ops t&&qW ops t t 0 (Array.replicate ops.size false)&&l.all (kC ops)&&l.all (qN ops n)&&(l.map cQ.ix).flatten == List.range' 0 t &&
  (match nh ops (r.map cQ.ix).flatten (full ops t) with
  | some listed=>qW ops ops.size (q.map cQ.ix).flatten.length (t+(r.map cQ.ix).flatten.length) listed
  | none=>false)&&r.all (kC ops)&&q.all (kC ops)&&q.all (qN ops n)&&(q.map cQ.ix).flatten == List.range' (t+(r.map cQ.ix).flatten.length) (q.map cQ.ix).flatten.length &&
  decide (t+(r.map cQ.ix).flatten.length+(q.map cQ.ix).flatten.length=ops.size)
def Je(P:Program)(ops:Array Oper)(t:Nat)(l r q:List cQ)(Q:Exit→St→Prop)(st:St):Prop:=
 cG (Jd P ops st.n t l r q) (oP P ops st.n st.h l st.fr fun fr=>jW P ops r ⟨st.n,fr,st.h⟩ fun st' => cG (Nat.beq st'.n st.n) (oP P ops st.n st'.h q st'.fr fun fr' => Q .normal ⟨st.n,fr',st'.h⟩))
omit [Laid] in
def Il(Q:Exit→St→Prop):gh (Q .normal) Q=Q:=by
 funext e st;cases e<;>rfl
def bW.drew{base:Nat}{st:St}(hr:bW base ι S a w st):bM ι.length base ι S w ι S { w with drawn:=w.drawn+1 }∧bW base ι S a { w with drawn:=w.drawn+1 } st:=by
 have hE:bM ι.length base ι S w ι S { w with drawn:=w.drawn+1 }:=⟨fun _ _=>eW.refl _,fun _ _ h=>h,fun _ _ h=>.inl h,fun _ _ _=>rfl,fun _ _ h=>h,(Below.refl base w).drew⟩;exact⟨hE,hr.df,hr.sz,dd.fq hE (aS _) hr.fr,hr.hp.wu hE hr.hp.len st.h.length (fun i _ _=>⟨rfl,rfl,fun _ _ _=>⟨rfl,fun _ q=>q⟩⟩) (fun x e=>by simp at e) (fun _ _ _ e=>by simp at e) (fun _ e=>by simp at e) (fun j b _ aT=>by simp[alive]at aT) hr.hp.fV hr.hp.ji⟩
def OU{ops:Array Oper}:∀(l:List (Nat×Bool)) (fr:Fr) (A B:Fr→Prop),(∀f,A f→B f)→dL P ops n h l fr A→dL P ops n h l fr B:=by
 intro l;induction l with
 | nil=>intro fr A B hab q;exact hab _ q
 | cons p l ih =>
   intro fr A B hab q;simp only[dL]at q ⊢;cases ho:ops[p.1]? with
   | none=>rw[ho]at q;exact q.elim
   | some o =>
     simp only[ho]at q ⊢;obtain⟨x,q1,q2⟩:=q;exact⟨x,q1,ih _ _ _ hab q2⟩
def yV{ops:Array Oper}:∀(l:List cQ) (fr:Fr) (A B:Fr→Prop),(∀f,A f→B f)→jN P ops n h l fr A→jN P ops n h l fr B:=by
 intro l;induction l with
 | nil=>intro fr A B hab q;exact hab _ q
 | cons p l ih =>
   intro fr A B hab q;cases p with
   | op i own =>
     simp only[jN]at q ⊢;cases ho:ops[i]? with
     | none=>rw[ho]at q;exact q.elim
     | some o =>
       simp only[ho]at q ⊢;obtain⟨x,q1,q2⟩:=q;exact⟨x,q1,ih _ _ _ hab q2⟩
   | aA j want ll cs ms =>
     simp only[jN,aI]at q ⊢;cases hd:dM ops j with
     | none=>rw[hd]at q;exact q.elim
     | some d =>
       simp only[hd]at q ⊢;rcases q with⟨t,ht,g1,g2⟩|⟨hu,g2⟩
       ·exact .inl ⟨t,ht,fun z=>OU _ _ _ _ (fun f hf=>ih _ _ _ hab hf) (g1 z),fun z=>ih _ _ _ hab (g2 z)⟩
       ·exact .inr ⟨hu,ih _ _ _ hab g2⟩
omit [Laid] in
theorem xE{ops:Array Oper}:∀(L k:Nat),k+L≤ops.size→(iW ops (List.range' k L)).length=L∧∀j,j<L→(iW ops (List.range' k L))[j]?=ops[k+j]?
 | 0,k,_=>⟨rfl,fun j hj=>by omega⟩
 | L+1,k,hk=>by
   obtain⟨i1,i2⟩:=xE (ops:=ops) L (k+1) (by omega);have hlt:k<ops.size:=by omega
   have e:iW ops (List.range' k (L+1))=ops[k]:: iW ops (List.range' (k+1) L):=by
    rw[List.range'_succ];exact nt (aaa hlt)
   rw[e];refine⟨by simp[i1],fun j hj=>?_⟩;cases j with
   | zero=>simp[hlt]
   | succ j=>rw[List.getElem?_cons_succ,i2 j (by omega)];rw[show k+1+j=k+(j+1) by omega]
def wb{P:Program}{ops:Array Oper}{h:aa}{m t k L more:Nat}{Q:Exit→St→Prop}{Z:Fr→Prop}{listed:Array Bool}(k2:pV ops t=true)(k5:l.all (kC ops)=true)(k6:l.all (qN ops n)=true)
 (k8:(l.map cQ.ix).flatten=List.range' k L) (hL:k+L≤ops.size) (down:Down ops listed) (k3:qW ops t L k listed=true) (hm:m≤h.length)
 (hZ:∀fr base ι S a w,bW base ι S a w ⟨n,fr,h⟩→Z fr→wpAny P .any ops (cY m base ι S w Q) more (full ops t) a w)
 {base:Nat} {ι:List Ix} {S:bj} {a:Act} {w:World} {fr:Fr} (hr:bW base ι S a w ⟨n,fr,h⟩) (q:oP P ops n h l fr Z):wpAny P .any ops (cY m base ι S w Q) (L+more) listed a w:=by
 let Z':Fr→Prop:=fun fr=>∀base ι S a w,bW base ι S a w ⟨n,fr,h⟩→wpAny P .any ops (cY m base ι S w Q) more (full ops t) a w
 have hZeq:∀f f',mZ f f'→Z' f→Z' f':=fun f f' e z base ι S a w hr=>z base ι S a w ⟨hr.df,hr.sz,fun u=>by rw[e u];exact hr.fr u,hr.hp⟩;have q2:jN P ops n h l fr Z':=yV l fr _ Z' (fun fr hfr base ι S a w hr=>hZ fr base ι S a w hr hfr) (qu _ _ _ q);have q3:=si hZeq l fr k5 k6 q2;rw[k8]at q3;obtain⟨l1,l2⟩:=xE (ops:=ops) L k hL;have q4:=Dk k2 (iW ops (List.range' k L)) k listed fr (fun j hj=>l2 j (by rw[l1]at hj;exact hj)) down (by rw[l1];exact k3) q3;rw[l1]at q4;exact yJ (m:=m) (Q':=Q) (more:=more) (Z:=Z') (fun fr base ι S a w hr z=>z base ι S a w hr) L _ base ι S a _ fr hm hr q4
omit [Laid] in
def rX{ops:Array Oper}:Region.ready .any ops (full ops ops.size)=[]:=by
 refine List.eq_nil_iff_forall_not_mem.2 fun i hi=>?_;obtain⟨h0,o,ho,_⟩:=mem_ready.1 hi;have hlt:=(By.1 ho).1;simp[full,hlt]at h0
omit [Laid] in
def DT{ops:Array Oper}:pV ops ops.size=true:=by
 unfold pV;exact AT.2 fun i hi=>by simp at hi;simp[hi]
omit [Laid] in
theorem B3{ops:Array Oper}:∀(L k:Nat) (listed:Array Bool),Down ops listed→qW ops t L k listed=true→Down ops (full ops t)
 | 0,k,listed,hd,hl=>by simp only[qW,beq_iff_eq]at hl;exact hl▸hd
 | L+1,k,listed,hd,hl=>by
   simp only[qW,On,OF]at hl;exact B3 L (k+1) _ (hd.set (by simpa using hl.1.1.1)) hl.2
def Ig{m id t:Nat}{ops:Array Oper}{Q:Exit→St→Prop}{st:St}(hm:m≤st.h.length)(hq:Je P ops t l r q Q st):AW P m (.region id ops true) Q st:=by
 intro base ι S a w _ hr;obtain⟨ba,hq⟩:=bh hq;simp only[Jd,On,beq_iff_eq,OF]at ba;obtain⟨⟨⟨⟨⟨⟨⟨⟨⟨⟨⟨k1,k2⟩,k3⟩,k5⟩,k6⟩,k8⟩,k4⟩,k7⟩,q5⟩,q6⟩,q8⟩,k9⟩:=ba;split at k4
 ·rename_i listed' hch;obtain⟨hE,hr'⟩:=hr.drew;have fin:wpAny P .any ops (cY m base ι S { w with drawn:=w.drawn+1 } Q) ops.size (Array.replicate ops.size false) a { w with drawn:=w.drawn+1 }→(Code.region id ops true).wp P (cY m base ι S w Q) a w:=fun h1 =>
   wp_region_any k1 (du (fun e a w z=>cY.trans (hE.mono (by rw[hr.hp.len];exact hm) (aS _)) z) _ _ _ _ h1)
  have down0:Down ops (Array.replicate ops.size false):=fun i o ho hl=>by
   have hlt:=(By.1 ho).1;simp[hlt]at hl
  refine fin ?_;have down1:=B3 _ _ _ down0 k3;have down2:=sI _ _ _ down1 hch;have key:=wb (Q:=Q) (more:=(r.map cQ.ix).flatten.length+(q.map cQ.ix).flatten.length) k2 k5 k6 k8 (by omega) down0 k3 hm (fun fr base ι S a w hr hfr=>?_) hr' hq
  ·rwa [show t+((r.map cQ.ix).flatten.length+(q.map cQ.ix).flatten.length)=ops.size by omega]at key
  ·have hs:=ny (m:=m) (Q:=Q) r base ι S a w ⟨st.n,fr,st.h⟩ k7 hm hr hfr;refine tZ (fun e a w hne z=>?_) (fun a w z=>?_) _ _ _ _ hch hs
   ·obtain⟨ι',S',st',z1,z2,z3,z4⟩:=z;refine⟨ι',S',st',z1,z2,z3, ?_⟩;cases e<;>first|exact absurd rfl hne|exact z4
   ·obtain⟨ι',S',st',z1,z2,z3,z4⟩:=z;obtain⟨n',fr',h'⟩:=st';obtain⟨en,z4⟩:=bh z4;have en:n'=st.n:=lT en;subst en;have:=wb (m:=m) (more:=0) (Q:=Q) DT q5 q6 q8 (by omega) down2 k4 z2 (fun fr base ι S a w hr hfr=>⟨rX,ι,S,⟨st.n,fr,h'⟩,bM.refl _ _ _ _ _,z2,hr,hfr⟩) z3 z4;exact du (fun e a w z=>cY.trans z1 z) _ _ _ _ this
 ·cases k4
section
variable {P:Program} {ops:Array Oper} {n:Nat}
end
/-! ### What is listed -/
section
variable (ops:Array Oper) (n:Nat) (V:Nat→AV) (lo:Nat→Bool)
def fh(fr0:Fr)(L:Nat→Bool):Nat→Fr
 | 0=>fr0
 | k+1=>match L k with|true=>bJ n (fh fr0 L k) (dM ops k) (V k)|false=>fh fr0 L k
def kK(L:Nat→Bool):Nat→Nat
 | 0=>0
 | k+1=>match L k&&lo k with|true=>kK L k+1|false=>kK L k
end
section
variable {ops:Array Oper} {n:Nat} {V:Nat→AV} {lo:Nat→Bool} {fr0:Fr}
omit [Laid] in
theorem pb{l1 l2:Nat→Bool}:∀k,(∀j,j<k→dM ops j=some t→l1 j=l2 j)→bF (fh ops n V fr0 l1 k) t=bF (fh ops n V fr0 l2 k) t
 | 0,_=>rfl
 | k+1,h=>by
   have ih:=pb k fun j hj=>h j (by omega)
   by_cases hd:dM ops k=some t
   ·have e:=h k (by omega) hd;unfold fh;rw[e];cases l2 k with
    | false=>exact ih
    | true =>
      simp only;rw[hd];unfold bJ;simp only;split
      ·rw[eX,eX,if_pos rfl,if_pos rfl]
      ·exact ih
   ·have off:∀l:Nat→Bool,bF (fh ops n V fr0 l (k+1)) t=bF (fh ops n V fr0 l k) t:=by
     intro l;rw[fh];cases l k with
     | false=>rfl
     | true=>exact eY fun e he q=>hd (by rw[he,q])
    rw[off,off];exact ih
omit [Laid] in
theorem ur{L:Nat→Bool}:∀m,k≤m→(∀j,k≤j→j<m→dM ops j=some t→L j=false)→bF (fh ops n V fr0 L m) t=bF (fh ops n V fr0 L k) t
 | 0,hk,_=>by rw[show k=0 by omega]
 | m+1,hk,h=>by
   by_cases e:k=m+1
   ·rw[e]
   ·have ih:=ur m (by omega) fun j h1 h2=>h j h1 (by omega);rw[←ih,fh];cases hl:L m with
    | false=>rfl
    | true =>
      refine eY fun e he q=>?_;have:=h m (by omega) (by omega) (by rw[he,q]);rw[hl]at this;cases this
omit [Laid] in
theorem Dw{l1 l2:Nat→Bool}(hi:l1 i=false)(h2:∀j,l2 j=(l1 j||j == i)):∀k,kK lo l2 k=kK lo l1 k+(if i<k∧lo i=true then 1 else 0)
 | 0=>by simp[kK]
 | k+1=>by
   rw[kK,kK,Dw hi h2 k,h2 k]
   by_cases e:k=i
   ·subst e;simp only[hi,beq_self_eq_true,Bool.or_true,Bool.true_and,Bool.false_and];cases hk:lo k<;>simp
   ·have:(k == i)=false:=by simpa using e
    rw[this,Bool.or_false];have h3:(i<k+1∧lo i=true)↔(i<k∧lo i=true):=⟨fun⟨a,b⟩=>⟨by omega,b⟩,fun⟨a,b⟩=>⟨by omega,b⟩⟩;simp only[h3];split<;>(split<;>omega)
end
section
variable {lo:Nat→Bool}
omit [Laid] in
theorem FO{L:Nat→Bool}:∀N,(∀i,i<N→L i=true)→kK (fun _=>true) L N=N
 | 0,_=>rfl
 | N+1,h=>by
   rw[kK,h N (by omega),FO N fun i hi=>h i (by omega)];rfl
omit [Laid] in
theorem Dx{L:Nat→Bool}:∀N,kK (fun _=>true) L N=N→∀i,i<N→L i=true
 | 0,_,i,hi=>by omega
 | N+1,h,i,hi=>by
   have h2:∀N,kK (fun _=>true) L N≤N:=by
    intro N;induction N with
    | zero=>exact aS _
    | succ N ih=>rw[kK];split<;>omega
   have:=h2 N;rw[kK]at h;cases q:L N with
   | false=>rw[q]at h;simp only[Bool.false_and]at h;omega
   | true =>
     rw[q]at h;simp only[Bool.and_self]at h
     by_cases e:i=N
     ·rw[e];exact q
     ·exact Dx N (by omega) i (by omega)
end
structure rI(ops:Array Oper)(lo:Nat→Bool)(an:Nat→Nat→Bool):Prop where
 back:∀i,i<ops.size→∀e∈dx ops i,e<i
 anc:∀i j,an i j=true→∃e∈dx ops i,e=j∨an e j=true
 apart:∀i j,i<ops.size→j<i→∀oi oj,ops[i]?=some oi→ops[j]?=some oj→(∃t,(dM ops j=some t∧(t∈oi.looksAt ops∨dM ops i=some t))∨(dM ops i=some t∧t∈oj.looksAt ops))→an i j=true
 chain:∀i j,i<ops.size→j<i→lo i=true→lo j=true→an i j=true
section
variable {P:Program} {ops:Array Oper} {n:Nat} {V:Nat→AV} {lo:Nat→Bool} {fr0:Fr} {an:Nat→Nat→Bool} {Hs:Nat→aa}
omit [Laid] in
def rI.listed(hE:rI ops lo an)(hd:Down ops L):∀(i:Nat),i<ops.size→(∀e∈dx ops i,L.getD e false=true)→∀j,an i j=true→L.getD j false=true:=by
 intro i;induction i using Nat.strongRecOn with
 | _ i ih =>
   intro hi ha j hj;obtain⟨e,he,q⟩:=hE.anc i j hj;rcases q with rfl|q
   ·exact ha _ he
   ·have hlt:=hE.back i hi e he;refine ih e hlt (by omega) (fun d hd' => ?_) j q;have hle:=ha e he;obtain⟨o,ho⟩:∃o,ops[e]?=some o:=⟨ops[e],aaa (by omega)⟩;unfold dx at hd';rw[ho]at hd';simp only[aaf,aay]at hd';obtain⟨x,⟨hx,hb⟩,rfl⟩:=hd';exact hd e o ho hle x (by simpa using hx) hb
omit [Laid] in
def rI.Ca(hE:rI ops lo an)(hd:Down ops L)(hi:i<ops.size)(hl:L.getD i false=true)(hj:an i j=true):L.getD j false=true:=by
 refine hE.listed hd i hi (fun e he=>?_) j hj;obtain⟨o,ho⟩:∃o,ops[i]?=some o:=⟨ops[i],aaa hi⟩;unfold dx at he;rw[ho]at he;simp only[aaf,aay]at he;obtain⟨x,⟨hx,hb⟩,rfl⟩:=he;exact hd i o ho hl x (by simpa using hx) hb
omit [Laid] in
def rI.En(hE:rI ops lo an)(hd:Down ops L)(hi:i<ops.size)(hr:i∈Region.ready .any ops L)(hj:an i j=true):L.getD j false=true:=by
 refine hE.listed hd i hi (fun e he=>?_) j hj;obtain⟨_,o,ho,hall⟩:=mem_ready.1 hr;unfold dx at he;rw[ho]at he;simp only[aaf,aay]at he;obtain⟨x,⟨hx,hb⟩,rfl⟩:=he;exact hall x (by simpa using hx) hb
end
/-! ### What waits for what -/
def UF(acc:List Nat)(l:List Nat):Nat:=l.foldr (fun e s=>s ||| (1 <<< e) ||| acc.getD e 0) 0
def HX(ops:Array Oper):Nat→List Nat
 | 0=>[]
 | k+1=>HX ops k++[UF (HX ops k) (dx ops k)]
def yG(ms:List Nat)(i j:Nat):Bool:=(ms.getD i 0).testBit j
def Eb(ops:Array Oper)(i:Nat):List Tmp:=match ops[i]? with|some o=>o.looksAt ops|none=>[]
def Ma(d:Option Tmp)(l:List Tmp):Bool:=match d with|some t=>l.contains t|none=>false
def Hk(ops:Array Oper)(i j:Nat):Bool:=
 Ma (dM ops j) (Eb ops i)||Ma (dM ops i) (Eb ops j)||(match dM ops i,dM ops j with|some a,some b=>Nat.beq a b|_,_=>false)
def DK(ops:Array Oper)(lo:Nat→Bool)(ms:List Nat)(N:Nat):Bool:=
 decide (ms.length≤N)&&ms.all (fun x=>Nat.ble (x+1) (2^N))&&(List.range N).all fun i =>
  (dx ops i).all (fun e=>Nat.ble (e+1) i)&&(List.range N).all (fun j=>!yG ms i j||(dx ops i).any fun e=>Nat.beq e j||yG ms e j)&&(List.range i).all fun j=>yG ms i j||!(Hk ops i j||(lo i&&lo j))
section
omit [Laid]
def DL{ops:Array Oper}{lo:Nat→Bool}{ms:List Nat}(h:DK ops lo ms ops.size=true):rI ops lo (yG ms):=by
 unfold DK at h;simp only[On,OF]at h;obtain⟨⟨h1,h2⟩,h3⟩:=h;have at':∀i,i<ops.size→((∀e∈dx ops i,e<i)∧(∀j,j<ops.size→yG ms i j=true→∃e∈dx ops i,e=j∨yG ms e j=true)∧∀j,j<i→Hk ops i j=true∨(lo i=true∧lo j=true)→yG ms i j=true):=by
  intro i hi;have:=AT.1 h3 i (by simpa using hi);simp only[On]at this;obtain⟨⟨a,b⟩,c⟩:=this;refine⟨fun e he=>?_,fun j hj ha=>?_,fun j hj hc=>?_⟩
  ·have:=AT.1 a e he;rw[Nat.ble_eq]at this;omega
  ·have:=AT.1 b j (by simpa using hj);rw[ha]at this;simp only[Bool.not_true,Bool.false_or,List.any_eq_true,aaH]at this;obtain⟨e,he,q⟩:=this;exact⟨e,he,q.imp lT id⟩
  ·have:=AT.1 c j (by simpa using hj);simp only[aaH,aaI,aaS,Bool.and_eq_false_iff]at this;rcases this with q|⟨q1,q2⟩
   ·exact q
   ·rcases hc with r|⟨r1,r2⟩
    ·rw[q1]at r;cases r
    ·rcases q2 with q2|q2
     ·rw[q2]at r1;cases r1
     ·rw[q2]at r2;cases r2
 have anlt:∀i j,yG ms i j=true→i<ops.size∧j<ops.size:=by
  intro i j h;unfold yG at h
  by_cases hi:i<ms.length
  ·refine⟨by omega, ?_⟩;have hm:=AT.1 h2 ms[i] (aaw hi);rw[Nat.ble_eq]at hm;rw[nO,bY hi]at h;simp only[Option.getD_some]at h;rcases AS j ops.size with q|q
   ·exact q
   ·have:ms[i].testBit j=false:=Nat.testBit_lt_two_pow (UP (show ms[i]<2^ops.size by omega) (Nat.pow_le_pow_right (by omega) q));rw[this]at h;cases h
  ·rw[nO,lE (by omega)]at h;simp at h
 refine⟨fun i hi=>(at' i hi).1,fun i j h=>(at' i (anlt i j h).1).2.1 j (anlt i j h).2 h,fun i j hi hj oi oj hoi hoj hc=>(at' i hi).2.2 j hj (.inl ?_),fun i j hi hj h1 h2=>(at' i hi).2.2 j hj (.inr ⟨h1,h2⟩)⟩;unfold Hk Eb Ma;rw[hoi,hoj];obtain⟨t,⟨hd,hl⟩|⟨hd,hl⟩⟩:=hc
 ·rcases hl with hl|hl
  ·simp only[hd];simp only[aaH];exact .inl (.inl (by simpa using hl))
  ·simp only[hd,hl];simp
 ·simp only[hd];simp only[aaH];exact .inl (.inr (by simpa using hl))
end
end
end Go.Aw
end
