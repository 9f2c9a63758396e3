/-
 Tokens read into values.
 No conditions.
-/
import Derived.Test.YtpcnidmmkknndaaGreatDoorProg
import Derived.KernelRfl
import Derived.Test.YtpcnidmmkknndaaGreatDoorZf
import Derived.Test.YtpcnidmmkknndaaGreatDoorZe
import Derived.Test.YtpcnidmmkknndaaGreatDoorZc
set_option linter.unusedVariables false
set_option linter.unusedSimpArgs false
set_option maxRecDepth 1000000
set_option maxHeartbeats 16000000
open Go.Proofs.Tryz renaming prog→p_
noncomputable section
namespace Go.Proofs.YtpcnidmmkknndaaGreatDoor
section
open Go Go.Aw Go.fg Go.RowKit
variable [Laid]
variable{F:Nat→Prop}
theorem bn.arg{P:Program}{f:FuncId}{args args':List AV}{r:AV}(c:bn P f args' r)(d:kv args args')(p:aV args):bn P f args r:=by
 obtain⟨pa,pr,c⟩:=c;exact⟨p,pr,fun base ι S w vs h1 h2=>c base ι S w vs (aE.qB d vs h1) h2⟩
abbrev Df(c:List Vl)(s:List (Tok×List Vl)):List (List Vl):=(s.map (·.2)).reverse++[c]
abbrev oS(s:List (Tok×List Vl)):List Tok:=(s.map (·.1)).reverse
section
variable {a b N Lb:Nat} {F:Nat→Prop} {H:aa} {ls:List (List Vl)} {os:List Tok} {hs e1:List AV} {ho:AV}
omit [Laid] in
theorem PS.bu(p:PS a b F H N ls os hs Lb e1 ho){K:AV→Prop}(q:K (i_ os.length)):bu ho K:=by
 rcases p.ol with⟨rfl,rfl⟩|⟨Ob,e2,rfl,_⟩
 ·exact q
 ·rw[uj];exact fun _=>q
omit [Laid] in
theorem PS.ab(p:PS a b F H N ls os hs Lb e1 ho):a≠b∧b≠Lb∧a≠Lb:=by
 refine⟨fun e=>?_,fun e=>?_,fun e=>?_⟩
 ·subst e;have:=p.la;rw[p.ob]at this;cases this
 ·subst e;have:=p.ob;rw[p.lb]at this;cases this
 ·subst e;have:=p.la;rw[p.lb]at this;cases this
omit [Laid] in
theorem QW{h h':aa}{n:Nat}{K:AV→aa→Prop}{own:Bool}{e sz bytes id len:Nat}{x y:AV}{cells:List AV}{rows:List (List AV)}(ex:x=.own id 0 len sz)(hb:h[id]?=some (.ah ⟨e,cells,true⟩))(hl:len*sz≤cells.length)(hp:0<len+rows.length)(hs:jB h sz y=some rows)(hr:rows.all (dk sz)=true)(hm:jF bytes (len+rows.length))(hn:h.length=n)
 (hh:h.set id .dead++[.ah ⟨e,cells.take (len*sz)++rows.flatten,true⟩]=h') (q:K (.own n 0 (len+rows.length) sz) h'):bP own e sz bytes x y h K:=by
 subst ex;subst hn;subst hh;unfold bP eE;rw[hs];refine⟨hr, ?_⟩;simp only[xb];rw[hb];exact⟨by simp[hl],hp,hm,q⟩
omit [Laid] in
theorem T3{t:Tok}{T:Nat}{KN:aa→Prop}(p:PS a b F H N ls os hs Lb e1 ho)(hT:H[T]?=some (.ah ⟨70,t.row,true⟩))(hn:ls.length<2^20)(hno:os.length<2^20)(hls:0<ls.length)
 (k:∀H',PX a b H' N (ls++[[]]) (os++[t])→H.length≤H'.length→KN H') :
 ∃d45:Nat,ak false 1 (.op a 0) H fun v46=>br 1 1 (.v (.slice none 0 0)) [(0,1,(.v (.slice none 0 0)))] fun v47=>cM (qF d45 (.op b 0)) (ak false 1 (.op b 0) H fun v48=>cM (qF d45 (.op T 0)) (ak true 5 (.op T 0) H fun v49=>br 1 5 (.agg [(u8 0),(.str []),(i_ 0),(.str []),ff]) [(0,5,v49)] fun v50=>cM (vD d45 v46) (bP true 54 1 24 v46 v47 H fun v51 g52=>bP true 70 5 56 v48 v50 g52 fun v53 g54=>ao 1 (.op a 0) v51 g54 fun g55=>ao 1 (.op b 0) v53 g55 KN))):=by
 obtain⟨hab,hbL,haL⟩:=p.ab;have hl:=p.hl;have ha:=PS.lt p.la;have hb:=PS.lt p.ob;have hL:=PS.lt p.lb;have hTL:T≠Lb:=fun e=>by subst e;rw[p.lb]at hT;cases hT
 refine⟨Lb, ?_⟩;refine zzU p.la rfl (lp (cs:=[bF]) rfl rfl rfl rfl (kW (qi hbL) (zzU p.ob rfl (kW (qi hTL) (zzV hT (by simp) (lp (cs:=t.row) (by simp[bl]) rfl rfl (by simp[bQ]) (kW (by simp[vD]) ?_)))))));have hl1:hs.length=ls.length:=hl;refine Lr (n:=H.length) (h':=H.set Lb .dead++[.ah ⟨54,hs++[bF],true⟩]) rfl p.lb (by simp;omega) hls fP rfl ⟨by unfold maxLen;simp;omega,by simp;omega⟩ rfl (by rw[Nat.mul_one,←hl,List.take_left];rfl) ?_;obtain⟨g,hg⟩:∃g,g=H.set Lb .dead++[aL.ah ⟨54,hs++[bF],true⟩]:=⟨_,rfl⟩;have gl:g.length=H.length+1:=by rw[hg];simp
 have gn:g[H.length]?=some (.ah ⟨54,hs++[bF],true⟩):=by rw[hg,gT (by simp)];simp
 have go:∀id,id<H.length→id≠Lb→g[id]?=H[id]?:=fun id h1 h2=>by rw[hg,gO (by simpa using h1),iF (Ne.symm h2)]
 rw[←hg];have fin:∀g2:aa,g2.length=H.length+2→g2[H.length]?=some (.ah ⟨54,hs++[bF],true⟩)→g2[H.length+1]?=some (.ah ⟨70,(cQ (os++[t])).flatten,true⟩)→(∀(id t:Nat) (cs:List AV),H[id]?=some (aL.ah ⟨t,cs,true⟩)→t≠54→t≠70→g2[id]?=H[id]?) →
  ao 1 (.op a 0) (.own H.length 0 (ls.length+1) 1) g2 fun g55=>ao 1 (.op b 0) (.own (H.length+1) 0 (os.length+1) 5) g55 KN:=by
  intro g2 l2 q1 q2 q3;refine aX (b:=⟨72,_,true⟩) (cs:=[.own H.length 0 (ls.length+1) 1]) (h':=g2.set a (.ah ⟨72,[.own H.length 0 (ls.length+1) 1],true⟩)) rfl (by rw[q3 _ _ _ p.la (by decide) (by decide)];exact p.la) rfl rfl (by simp) rfl rfl rfl ?_;refine aX (b:=⟨51,_,true⟩) (cs:=[.own (H.length+1) 0 (os.length+1) 5]) (h':=(g2.set a (.ah ⟨72,[.own H.length 0 (ls.length+1) 1],true⟩)).set b (.ah ⟨51,[.own (H.length+1) 0 (os.length+1) 5],true⟩)) rfl (by rw[iF hab,q3 _ _ _ p.ob (by decide) (by decide)];exact p.ob) rfl rfl (by simp) rfl rfl rfl ?_;refine k _ ⟨_,_,_,_,_,p.push (L2:=H.length) (O2:=H.length+1) ?_ ?_ ?_ ?_ fun id cs h=>?_⟩ (by simp;omega)
  ·rw[iF (Ne.symm hab),iD (by omega)]
  ·rw[iF (by omega),iF (by omega)];exact q1
  ·rw[iD (by simp;omega)]
  ·rw[iF (by omega),iF (by omega)];exact q2
  ·have e1:id≠a:=fun e=>by subst e;rw[p.la]at h;cases h
   have e2:id≠b:=fun e=>by subst e;rw[p.ob]at h;cases h
   rw[iF (Ne.symm e2),iF (Ne.symm e1)];exact q3 id _ cs h (by decide) (by decide)
 have gk:∀(id t:Nat) (cs:List AV),H[id]?=some (aL.ah ⟨t,cs,true⟩)→t≠54→g[id]?=H[id]?:=fun id t cs h q=>go id (PS.lt h) fun e=>by subst e;rw[p.lb]at h;cases h;exact q rfl
 rcases p.ol with⟨rfl,rfl⟩|⟨Ob,e2,rfl,hO⟩
 ·unfold bP eE;rw[fP];refine⟨pq [t],by simp,⟨by simp[maxLen],by simp⟩, ?_⟩;have:=fin (g++[.ah ⟨70,t.row,true⟩]) (by simp[gl]) (by rw[gO (by omega)];exact gn) (by rw[gT (by omega),gl];simp) fun id t cs h q1 q2=>by
   have:=PS.lt h;rw[gO (by omega)];exact gk id t cs h q1
  rw[←gl]at this;exact this
 ·have hOL:Ob≠Lb:=fun e=>by subst e;rw[p.lb]at hO;cases hO
  refine QW (n:=H.length+1) (h':=g.set Ob .dead++[.ah ⟨70,(cQ (os++[t])).flatten,true⟩]) (rows:=[t.row]) rfl (by rw[gk _ _ _ hO (by decide)];exact hO) (by simp only[AT,sj];omega) (by simp) fP (pq [t]) ⟨by unfold maxLen;simp;omega,by simp;omega⟩ gl (by
   congr 4
   rw[abe (by rw[sj];exact bY _),MK (by rw[sj];exact bY _)];simp) ?_
  ·have hOl:=PS.lt hO;refine fin _ (by simp[gl]) ?_ ?_ fun id t cs h q1 q2=>?_
   ·rw[gO (by simp;omega),iF (by omega)];exact gn
   ·rw[gT (by simp;omega)];simp[gl]
   ·have e1:id≠Ob:=fun e=>by subst e;rw[hO]at h;cases h;exact q2 rfl
    have:=PS.lt h;rw[gO (by simp;omega),iF (Ne.symm e1)];exact gk id t cs h q1
end
omit [Laid] in
theorem VV.leaf{H:aa}(t:Tok):VV F H [u8 t.k,.str t.t,i_ t.n,.str t.u,b_ t.f,bF] (iy t []):=by
 show VV _ _ _ (.mk _ _ _ _ _ []);rw[VV];exact⟨bF,rfl,.inl ⟨rfl,rfl⟩⟩
omit [Laid] in
theorem PX.app{a b N:Nat}{H:aa}{ls:List (List Vl)}{os:List Tok}(p:PX a b H N ls os)(j:aa):PX a b (H++j) N ls os:=by
 obtain⟨F,hs,Lb,e1,ho,p⟩:=p;exact⟨F,hs,Lb,e1,ho,p.app j⟩
omit [Laid] in
theorem PS.ZK{a b N Lb nb:Nat}{H:aa}{base:List (List Vl)}{g:List Vl}{os:List Tok}{hg e1:List AV}{y ho:AV}(p:PS a b F H N (base++[g]) os (hg++[y]) Lb e1 ho)(hb:base.length=nb){K:AV→Prop}(q:K (i_ g.length)):ja y K:=by
 have hgl:hg.length=base.length:=by have:=p.hl;simp at this;omega
 obtain⟨_,z,hz,hh⟩:=p.hd base.length g (by simp);rw[←hgl]at hz;simp at hz;subst hz;rcases hh with⟨rfl,rfl⟩|⟨_,X,rows,rfl,_⟩
 ·exact q
 ·exact q
def Er(t:Tok):List (Tok×List Vl)→Bool
 | []=>false
 | (o,_):: _=>decide (t.k=cG o.k)
theorem CR(l:List Tok):bn p_ 18 [.sl 5 (cQ l)] (.aA [wz (kE l).1,i_ (kE l).2]):=by
 refine (V18 _).bj (by simp only[aV,Aw.Pure,and_true];exact kP l) (by simp only[aV,Aw.Pure,and_true];exact ET _) ?_;unfold Xc;have hrl:(cQ l).length=l.length:=by simp
 refine zzf (n:=l.length) hrl fun _=>?_;refine zzE ?_
 by_cases q0:1500<l.length
 ·refine zzL (oF (by omega)) ?_;rw[show kE l=([],4) by unfold kE;rw[if_pos q0]];exact .pure (by simp[Aw.Pure,aV]) rfl
 refine zzK (nO (by omega)) ?_;have hpf:kE l=match iT l [] [] with|none=>([],20)|some (c,s)=>if 1500<l.length+s.length then ([],4) else (qq c s,0):=by unfold kE;rw[if_neg q0];rfl
 refine⟨by decide, ?_⟩;refine bW (cs:=[bF]) (n:=1) (h':=[.ah ⟨54,[bF],true⟩,.ah ⟨72,[bF],true⟩]) rfl rfl rfl rfl (bW (cs:=[bF]) (n:=2) (h':=[.ah ⟨54,[bF],true⟩,.ah ⟨72,[bF],true⟩,.ah ⟨51,[bF],true⟩]) rfl rfl rfl rfl (aX (cs:=[.own 0 0 1 1]) (h':=[.ah ⟨54,[bF],true⟩,.ah ⟨72,[.own 0 0 1 1],true⟩,.ah ⟨51,[bF],true⟩]) rfl rfl rfl rfl (by simp) rfl rfl rfl (aX (cs:=[bF]) (h':=[.ah ⟨54,[bF],true⟩,.ah ⟨72,[.own 0 0 1 1],true⟩,.ah ⟨51,[bF],true⟩]) rfl rfl rfl rfl (by simp) rfl rfl rfl ?_)));have p0:PX 1 2 [.ah ⟨54,[bF],true⟩,.ah ⟨72,[.own 0 0 1 1],true⟩,.ah ⟨51,[bF],true⟩] 0 [[]] []:=by
  refine⟨fun _=>False,[bF],0,[],bF,⟨rfl,rfl,rfl,fun i l q=>?_,fun i j X m m' q=>?_,rfl,.inl ⟨rfl,rfl⟩,fun X z=>z.elim⟩⟩
  ·have hi:i=0:=by have:=(eQ.1 q).1;simp at this;omega
   subst hi;simp at q;subst q;exact⟨aaO _,bF,rfl,.inl ⟨rfl,rfl⟩⟩
  ·have hi:i=0:=by have:=(eQ.1 q).1;simp at this;omega
   subst hi;simp at q
 refine zzf (n:=l.length) hrl fun _=>?_;refine bc (α:=Nat×List Vl×List (Tok×List Vl)×aa×Nat) (fun x=>x.1≤l.length∧iT l [] []=iT (l.drop x.1) x.2.1 x.2.2.1∧x.2.2.1.length≤16∧PX 1 2 x.2.2.2.1 x.2.2.2.2 (Df x.2.1 x.2.2.1) (oS x.2.2.1)∧x.2.2.2.2≤x.1∧3≤x.2.2.2.1.length) (fun x=>[i_ x.1]) (fun x=>x.2.2.2.1) (fun x=>l.length-x.1) (0,[],[],[.ah ⟨54,[bF],true⟩,.ah ⟨72,[.own 0 0 1 1],true⟩,.ah ⟨51,[bF],true⟩],0) ⟨aaO _,rfl,aaO _,p0,bY _,bY _⟩ (Wk.refl _ _ _ (bY _)) ?_;rintro⟨i,c,s,H,N⟩ ⟨hi,hp,hs,p,hN,hH⟩;dsimp only at hi hp hs p hN hH ⊢;refine zzC ?_;rcases uP i l.length with q|q
 ·obtain⟨t,hx⟩:∃x,l[i]?=some x:=⟨l[i],dO q⟩;have hdr:l.drop i=t:: l.drop (i+1):=by rw[aba q];rw[(eQ.1 hx).2]
  rw[hdr,iT]at hp;refine zzL (by simpa using q) (aH (zzb (f:=Tok.row) rfl rfl hx (zzY (by simp) (bW (cs:=[u8 0,.str [],i_ 0,.str [],ff]) (n:=H.length) (h':=H++[.ah ⟨70,[u8 0,.str [],i_ 0,.str [],ff],true⟩]) rfl (by simp[bQ]) rfl rfl (aX (cs:=t.row) (h':=H++[.ah ⟨70,t.row,true⟩]) (b:=⟨70,[u8 0,.str [],i_ 0,.str [],ff],true⟩) rfl (by simp) rfl rfl (by simp) rfl (by simp[bQ]) (by rw[IF _ _ (bY _)];simp[bZ]) ?_)))));have p1:=p.app [aL.ah ⟨70,t.row,true⟩];obtain⟨H1,h1⟩:∃H1,H1=H++[aL.ah ⟨70,t.row,true⟩]:=⟨_,rfl⟩;have hT:H1[H.length]?=some (.ah ⟨70,t.row,true⟩):=by rw[h1];simp
  have hH1:H1.length=H.length+1:=by rw[h1];simp
  rw[←h1]at p1 ⊢;have ps:=p1;obtain⟨F,hz,Lb,e1,ho,ps⟩:=ps
  -- what comes behind
  have next:∀(c':List Vl) (s':List (Tok×List Vl)) (H':aa) (N':Nat),iE t c s=some (c',s')→s'.length≤16→PX 1 2 H' N' (Df c' s') (oS s')→N'≤i+1→3≤H'.length →
   ae .add (i_ i) (i_ 1) fun v95=>[AV.sl 5 (cQ l),.op 1 0,.op 2 0,.fn (.func 29) [] [.op 2 0,.op 1 0],.sl 5 (cQ l),i_ l.length]=[AV.sl 5 (cQ l),.op 1 0,.op 2 0,.fn (.func 29) [] [.op 2 0,.op 1 0],.sl 5 (cQ l),i_ l.length] ∧
    (∃y:Nat×List Vl×List (Tok×List Vl)×aa×Nat,(y.1≤l.length∧iT l [] []=iT (l.drop y.1) y.2.1 y.2.2.1∧y.2.2.1.length≤16∧PX 1 2 y.2.2.2.1 y.2.2.2.2 (Df y.2.1 y.2.2.1) (oS y.2.2.1)∧y.2.2.2.2≤y.1∧3≤y.2.2.2.1.length)∧Wk [aL.ah ⟨54,[bF],true⟩,.ah ⟨72,[.own 0 0 1 1],true⟩,.ah ⟨51,[bF],true⟩].length [v95] H' [i_ y.1] y.2.2.2.1∧l.length-y.1<l.length-i):=by
   intro c' s' H' N' e1 e2 e3 e4 e5;refine zzP (by unfold aJ;omega) ?_;rw[e1]at hp;refine⟨rfl,(i+1,c',s',H',N'),⟨q,hp,e2,e3,e4,e5⟩,Wk.refl _ _ _ e5,by dsimp only;omega⟩
  have hosl:(oS s).length=s.length:=by simp
  refine zzU ps.ob rfl (ps.bu ?_);rw[hosl];refine zzE ?_;refine cP (fun v _=>∀K:AV→Prop,K (b_ (Er t s))→aI (.v (.bool (decide ((0:Int)<(s.length:Int))))) (nx v 9) ff K) (fun v _ hv=>?_) (fun J hJ=>?_)
  ·refine hv _ ?_
   by_cases hc:Er t s=true
   ·-- it closes what is open
    obtain⟨o,g,s',rfl,hk⟩:∃o g s',s=(o,g):: s'∧t.k=cG o.k:=by
     cases s with
     | nil=>cases hc
     | cons x s' => exact⟨x.1,x.2,s',rfl,by simpa[Er]using hc⟩
    rw[hc];refine zzL rfl ?_;refine Lc (base:=(s'.map (·.2)).reverse) (g:=g) (c:=c) (ob:=oS s') (o:=o) (N:=N) (by simpa[Df,oS]using p1) (by omega) (by simp) (by simp at hs ⊢;omega) fun H' p2 hl=>?_;refine aq ?_;exact next (g++[iy o c]) s' H' (N+1) (by simp[iE,hk]) (by simp at hs;omega) p2 (by omega) (by omega)
   ·have hc:Er t s=false:=by simpa using hc
    rw[hc];refine zzK rfl (zzA (zzU hT rfl (uCon (oo t.k) (zzH ?_))))
    by_cases hk:cG t.k=0
    ·refine zzK (by simp[hk]) ?_;have hst:iE t c s=some (c++[iy t []],s):=by
      cases s with
      | nil=>simp[iE,hk]
      | cons x s' =>
        have hcl:¬t.k=cG x.1.k:=by simpa[Er]using hc
        simp only[iE];rw[if_neg hcl,if_neg (by simpa using hk)]
     obtain⟨hb,x,rfl⟩:∃hb x,hz=hb++[x]:=by
      have h0:hz≠[]:=fun e=>by have:=ps.hl;rw[e]at this;simp at this
      exact⟨hz.dropLast,hz.getLast h0,(List.dropLast_concat_getLast h0).symm⟩
     have hbl:hb.length=s.length:=by have:=ps.hl;simp at this;exact this
     have hT6:∀j:aa,(H1++j)[H.length]?=some (.ah ⟨70,t.row,true⟩):=fun j=>by rw[gO (by omega)];exact hT
     have hll:(Df c s).length=s.length+1:=by simp
     have hbs:((s.map (·.2)).reverse).length=s.length:=by simp
     refine aH ?_;refine Ms ?_ ?_
     ·have p6:=ps.app [aL.ah ⟨4,[b_ false],true⟩];refine aq (zzK rfl ?_);obtain⟨d,hd1,hd2⟩:=p6.free;refine⟨d,kW hd1 ?_⟩;refine zzU p6.la rfl (zzU p6.la rfl (jm rfl rfl (by omega) (zzU (c:=x) p6.lb (by simp[←hbl]) (zzV (hT6 _) (by simp) (bf (cs:=[u8 t.k,.str t.t,i_ t.n,.str t.u,b_ t.f,bF]) (by simp[dQ,bl,bZ,bQ]) (lp (cs:=[u8 t.k,.str t.t,i_ t.n,.str t.u,b_ t.f,bF]) rfl rfl rfl (by simp[bQ]) (kW hd2 ?_)))))));rw[hll];refine K7 (v:=iy t []) p6 hbs (by omega) (.leaf t) fun H' p7 hl=>?_;refine aq ?_;exact next (c++[iy t []]) s H' (N+1) hst hs ⟨_,_,_,_,_,p7⟩ (by omega) (by simp at hl;omega)
     ·have p6:=ps.app [aL.ah ⟨4,[b_ true],true⟩];refine aq (zzL rfl (zzU p6.la rfl (jm rfl rfl (by omega) (zzU (c:=x) p6.lb (by simp[←hbl]) (zzV (hT6 _) (by simp) (bf (cs:=[u8 t.k,.str t.t,i_ t.n,.str t.u,b_ t.f,bF]) (by simp[dQ,bl,bZ,bQ]) (p6.ZK hbs (lp (cs:=zeroV) rfl rfl rfl rfl ?_))))))));rw[hll];refine K8 (v:=iy t []) p6 hbs (by omega) (.leaf t) rfl fun H' p7 hl=>?_;refine aq ?_;exact next (c++[iy t []]) s H' (N+1) hst hs ⟨_,_,_,_,_,p7⟩ (by omega) (by simp at hl;omega)
    ·refine zzL (by simpa using hk) (zzG ?_)
     by_cases h16:s.length=16
     ·refine zzL (by simp;omega) ?_;have hn:iE t c s=none:=by
       cases s with
       | nil=>simp at h16
       | cons x s' =>
         have hcl:¬t.k=cG x.1.k:=by simpa[Er]using hc
         simp only[iE];rw[if_neg hcl,if_pos hk,if_pos (by simpa using h16)]
      rw[hn]at hp;rw[hpf,hp];exact .pure (by simp[Aw.Pure,aV]) rfl
     ·refine zzK (by simp;omega) ?_;refine T3 ps hT (by simp;omega) (by simp;omega) (by simp) fun H' p2 hl=>?_;refine aq ?_;refine next [] ((t,c):: s) H' N ?_ (by simp;omega) (by simpa[Df,oS]using p2) (by omega) (by omega)
      cases s with
      | nil=>simp[iE,hk]
      | cons x s' =>
        have hcl:¬t.k=cG x.1.k:=by simpa[Er]using hc
        simp only[iE];rw[if_neg hcl,if_pos hk,if_neg (by simpa using h16)]
  ·cases s with
   | nil =>
     refine jX rfl ?_;exact hJ _ _ fun K q=>aO rfl q
   | cons x s' =>
     obtain⟨o,g⟩:=x;refine jk (by simp) (zzA (zzU hT rfl (zzU ps.ob rfl (zze (by simp at hs;unfold aJ;simp;omega) ?_))));obtain⟨Ob,e2,rfl,hO⟩:∃Ob e2,ho=.own Ob 0 (s'.length+1) 5∧H1[Ob]?=some (.ah ⟨70,(cQ (oS s'++[o])).flatten++e2,true⟩):=by
      rcases ps.ol with⟨e,_⟩|⟨Ob,e2,q1,q2⟩
      ·exact absurd e (by simp)
      ·exact⟨Ob,e2,by simpa using q1,by simpa using q2⟩
     refine jm (n:=s'.length) rfl (by simp) (by omega) (zzA ?_);have hkc:((cQ (oS s'++[o])).flatten++e2)[0+s'.length*5+0]?=some (u8 o.k):=by
      have h:((cQ (oS s')).flatten).length=s'.length*5:=by rw[sj];simp
      have e:(cQ (oS s'++[o])).flatten++e2=(cQ (oS s')).flatten++(o.row++e2):=by simp
      rw[e,gT (by omega),show 0+s'.length*5+0-((cQ (oS s')).flatten).length=0 by omega];rfl
     refine zzU hO hkc ?_;refine⟨_,uCon (oo o.k) ⟨rfl,rfl⟩, ?_⟩;refine zzG ?_;exact hJ _ _ fun K q=>aM (by simp) q
 ·have hil:i=l.length:=by omega
  subst hil;rw[List.drop_length,iT]at hp;rw[hp]at hpf;dsimp only at hpf;refine zzK (by simp) ?_;obtain⟨F,hz,Lb,e1,ho,ps⟩:=id p;have hosl:(oS s).length=s.length:=by simp
  refine zzf (n:=l.length) hrl fun _=>?_;refine zzU ps.ob rfl (ps.bu ?_);rw[hosl];refine zzP (by unfold aJ;omega) (zzE ?_)
  by_cases hm:1500<l.length+s.length
  ·rw[if_pos hm]at hpf;rw[hpf];refine zzL (oF (by omega)) ?_;exact .pure (by simp[Aw.Pure,aV]) rfl
  rw[if_neg hm]at hpf;rw[hpf];refine zzK (nO (by omega)) (bc (α:=List Vl×List (Tok×List Vl)×aa×Nat) (fun x=>qq x.1 x.2.1=qq c s∧x.2.1.length≤16∧PX 1 2 x.2.2.1 x.2.2.2 (Df x.1 x.2.1) (oS x.2.1)∧x.2.2.2+x.2.1.length≤2000∧H.length≤x.2.2.1.length) (fun _=>[]) (fun x=>x.2.2.1) (fun x=>x.2.1.length) (c,s,H,N) ⟨rfl,hs,p,by dsimp only;omega,bY _⟩ (Wk.refl _ _ _ (bY _)) ?_);rintro⟨c1,s1,H1,N1⟩ ⟨hp1,hs1,p1,hN1,hl1⟩;dsimp only at hp1 hs1 p1 hN1 hl1 ⊢;obtain⟨F1,hz1,Lb1,e11,ho1,ps1⟩:=id p1;have hosl1:(oS s1).length=s1.length:=by simp
  refine zzU ps1.ob rfl (ps1.bu ?_);rw[hosl1];refine zzE ?_;cases s1 with
  | nil =>
    refine zzK rfl (zzU ps1.la rfl (jm rfl rfl (by simp) ?_));obtain⟨_,z,hz,hh⟩:=ps1.hd 0 c1 rfl;refine zzU (c:=z) ps1.lb (by
     have:=(eQ.1 hz).1;rw[gO (by omega)];exact hz) ?_
    rw[←hp1];exact hh.bj
  | cons x s' =>
    obtain⟨o,g⟩:=x;refine zzL (by simp) ?_;refine Lc (base:=(s'.map (·.2)).reverse) (g:=g) (c:=c1) (ob:=oS s') (o:=o) (N:=N1) (by simpa[Df,oS]using p1) (by omega) (by simp) (by simp at hs1 ⊢;omega) fun H' p2 hl=>?_;refine aq ?_;exact⟨(g++[iy o c1],s',H',N1+1),⟨by rw[←hp1];rfl,by simp at hs1;dsimp only;omega,p2,by simp at hN1;dsimp only;omega,by dsimp only;omega⟩,Wk.refl _ _ _ (by omega),by simp⟩
end
section
open Go Go.Aw Go.fg Go.RowKit
def tS(e sz:Nat)(x:AV)(H:aa)(rows:List (List AV)):Prop:=(rows=[]∧x=bF)∨(rows≠[]∧∃id,x=.sb id sz rows∧H[id]?=some (.tok e sz rows.length))
theorem tS.app{e sz:Nat}{x:AV}{H:aa}{rows:List (List AV)}(g:tS e sz x H rows)(j:aa):tS e sz x (H++j) rows:=by
 rcases g with g|⟨h,id,rfl,h2⟩
 ·exact .inl g
 ·exact .inr ⟨h,id,rfl,by rw[gO (eQ.1 h2).1];exact h2⟩
def nU(H H':aa):Prop:=H.length≤H'.length∧∀(j:Nat) (b:jH),H[j]?=some (.ah b)→H'[j]?=some (.ah b)
theorem nU.refl(H:aa):nU H H:=⟨bY _,fun _ _ h=>h⟩
theorem nU.trans{a b c:aa}(x:nU a b)(y:nU b c):nU a c:=⟨aaT x.1 y.1,fun j k h=>y.2 j k (x.2 j k h)⟩
theorem nU.app(H j:aa):nU H (H++j):=⟨by simp,fun i b h=>by rw[gO (eQ.1 h).1];exact h⟩
theorem HA{e sz bytes:Nat}{x:AV}{H:aa}{rows:List (List AV)}(g:tS e sz x H rows){r:List AV}(hr:dk sz r=true)(hb:bytes≤1000)(hl:rows.length<2^20){K:AV→aa→Prop}(q:∀x' H',tS e sz x' H' (rows++[r])→nU H H'→K x' H'):bP false e sz bytes x (.sl sz [r]) H K:=by
 have hall:[r].all (dk sz)=true:=by rw[aa2,hr];rfl
 rcases g with⟨rfl,rfl⟩|⟨hne,id,rfl,ht⟩
 ·unfold bP eE;rw[fP];refine⟨hall,⟨by simp[maxLen],by simp;omega⟩, ?_⟩;exact q _ _ (.inr ⟨by simp,_,rfl,by simp⟩) (nU.app _ _)
 ·refine Eg rfl ht rfl fP hall ⟨by unfold maxLen;simp;omega,by
   simp only[aaB,abd,aaQ]
   calc (rows.length+1)*bytes≤(2^20)*1000:=Nat.mul_le_mul (by omega) hb
    _≤_:=by decide⟩ ?_
  have hlt:=(eQ.1 ht).1;refine q _ _ (.inr ⟨by simp,id,rfl,by rw[iD hlt];simp⟩) ⟨by simp,fun j b hj=>?_⟩;rw[iF (fun z=>by subst z;rw[ht]at hj;cases hj)];exact hj
theorem tS.told{e sz:Nat}{x:AV}{H:aa}{rows:List (List AV)}(g:tS e sz x H rows)(p:cF rows)(d:Nat):tl 0 H d x=if rows=[] then bF else .sl sz rows:=by
 rcases g with⟨rfl,rfl⟩|⟨h,id,rfl,_⟩
 ·rw[if_pos rfl];exact kV (by simp[Aw.Pure])
 ·rw[if_neg h];exact IQ p
theorem pP:∀a b:List Vl,bJ (a++b)=bJ a++bJ b
 | [],b=>by simp[bJ]
 | v:: a,b=>by simp[bJ,pP a b]
mutual
theorem Ru:∀v,(iI v).length=uV v
 | .mk k t n u f l=>by
   rw[iI,uV];split
   ·rfl
   ·simp[mg l]
theorem mg:∀l,(bJ l).length=dh l
 | []=>by simp[bJ,dh]
 | v:: l=>by simp[bJ,dh,Ru v,mg l]
end
theorem ig{h:aa}{id o n:Nat}{x:AV}{b:jH}{cs:List AV}{K:AV→Prop}(e:x=.op id o)(hb:h[id]?=some (.ah b))(hn:n≤(b.cells.drop o).length)(hc:(b.cells.drop o).take n=cs)(q:K (.agg cs)):ak true n x h K:=by
 subst hc;exact dn e hb hn q
variable [Laid]
def RU(n:Nat):Prop:=∀(v:List Vl),bU v≤n→∀(H:aa) (a:AV) (R:List (List AV)),tS 70 5 a H R→R.length+dh v<2^20→bU v<2^40 →
 ∀K:AV→aa→Prop,(∀a' H',tS 70 5 a' H' (R++cQ (bJ v))→nU H H'→K a' H')→bz p_ (.fn (.func 198) [] []) [a,.sl 6 (cA v)] H K
theorem Qu{n:Nat}(hP:∀n',n'<n→RU n'):RU n:=by
 intro v hz H a R hg hn hbig K k;refine cB (by kernel_rfl) rfl (K0:=fun a' H' => tS 70 5 a' H' (R++cQ (bJ v))∧nU H H') ?_ (fun a' H' h=>k a' H' h.1 h.2);refine (Zd _ _).bI ?_;unfold SW;have hlen:(cA v).length=v.length:=by simp[eg]
 have hll:=mM v;refine zzf (n:=v.length) hlen fun _=>?_;refine bc (α:=Nat×AV×aa) (fun x=>x.1≤v.length∧tS 70 5 x.2.1 x.2.2 (R++cQ (bJ (v.take x.1)))∧nU H x.2.2) (fun x=>[x.2.1,i_ x.1]) (fun x=>x.2.2) (fun x=>v.length-x.1) (0,a,H) ⟨aaO _,by simpa[bJ]using hg,nU.refl _⟩ (Wk.refl _ _ _ (bY _)) ?_;rintro⟨j,b,H1⟩ ⟨hj,hgj,hB⟩;dsimp only at hj hgj hB ⊢;refine zzC ?_;rcases uP j v.length with q|q
 ·obtain⟨⟨kd,tx,nu,un',fl,l2⟩,hx⟩:∃x,v[j]?=some x:=⟨v[j],dO q⟩;have htk:v.take (j+1)=v.take j++[Vl.mk kd tx nu un' fl l2]:=by rw[By,hx];rfl
  have hzv:=uH (gE hx);have hzt:bU (v.take j)+zV (Vl.mk kd tx nu un' fl l2)≤bU v:=by
   have h1:=pU v (j+1);rw[htk,mL]at h1;simpa[bU]using h1
  have hRl:(cQ (bJ (v.take j))).length=dh (v.take j):=by simp only[aaC,mg]
  have hct:dh (v.take j)+uV (Vl.mk kd tx nu un' fl l2)≤dh v:=by
   have h1:dh (v.take (j+1))+dh (v.drop (j+1))=dh v:=by rw[←oh,List.take_append_drop]
   rw[htk,oh]at h1;simp only[dh]at h1;omega
  rw[uV]at hct;rw[zV]at hzv hzt;have hc1:1≤(if cG kd=0 then 1 else dh l2+2):=by split<;>omega
  have next:∀b2 H2,tS 70 5 b2 H2 (R++cQ (bJ (v.take (j+1))))→nU H1 H2→ae .add (i_ j) (i_ 1) fun v33=>[AV.sl 6 (cA v),i_ v.length]=[AV.sl 6 (cA v),i_ v.length] ∧
   ∃y:Nat×AV×aa,(y.1≤v.length∧tS 70 5 y.2.1 y.2.2 (R++cQ (bJ (v.take y.1)))∧nU H y.2.2)∧Wk H.length [b2,v33] H2 [y.2.1,i_ y.1] y.2.2∧v.length-y.1<v.length-j:=by
   intro b2 H2 g2 k2;refine zzP (by unfold aJ;omega) ?_;exact⟨rfl,(j+1,b2,H2),⟨q,g2,hB.trans k2⟩,Wk.refl _ _ _ (hB.trans k2).1,by dsimp only;omega⟩
  refine zzL (by simpa using q) (aH (zzb (eg v) rfl hx (zzY (by simp[lq]) ?_)));obtain⟨row,hrow⟩:∃row,row=[u1 kd,.str tx,i_ nu,.str un',b_ fl,AV.sl 6 (cA l2)]:=⟨_,rfl⟩;have he:jt (Vl.mk kd tx nu un' fl l2)=row:=by rw[jt,hrow]
  rw[he];refine bW (cs:=zeroV) (n:=H1.length) (h':=H1++[.ah ⟨74,zeroV,true⟩]) rfl (by simp[bQ]) rfl rfl (aX (cs:=row) (h':=H1++[.ah ⟨74,row,true⟩]) rfl (b:=⟨74,zeroV,true⟩) (by simp) rfl (by rw[hrow];rfl) (by rw[hrow];simp) (by rw[hrow];rfl) (by rw[hrow];simp[bQ]) (by rw[IF _ _ (bY _)];simp[kQ (a:=zeroV) (b:=row) (by rw[hrow];rfl)]) ?_);have hV:(H1++[aL.ah ⟨74,row,true⟩])[H1.length]?=some (.ah ⟨74,row,true⟩):=by simp
  have g1:=hgj.app [aL.ah ⟨74,row,true⟩];have k1:=nU.app H1 [aL.ah ⟨74,row,true⟩];refine zzA (ig (cs:=Tok.row ⟨kd,tx,nu,un',fl⟩) rfl hV (by rw[hrow];simp) (by rw[hrow];rfl) (lp (cs:=Tok.row ⟨kd,tx,nu,un',fl⟩) rfl rfl rfl (by simp[bQ]) ?_));refine HA g1 (by simp[dk,bQ]) (by decide) (by simp only[AT];omega) fun b2 H2 g2 k2=>?_;refine zzA (zzA (zzU (k2.2 _ _ hV) (by rw[hrow];rfl) (uCon (oo kd) (zzH ?_))))
  by_cases hc:cG kd=0
  ·refine zzK (by simp[hc]) (aq ?_);refine next b2 H2 ?_ (k1.trans k2)
   rw[htk,pP];simpa[bJ,iI,hc]using g2
  ·refine zzL (by simp[hc]) ?_;rw[if_neg hc]at hct;refine zzA (zzU (k2.2 _ _ hV) (by rw[hrow];rfl) ?_);refine hP (bU l2) (by omega) l2 (bY _) H2 b2 _ g2 (by simp only[AT,aaB,abd];omega) (by omega) _ fun b3 H3 g3 k3=>?_;have hR3:(cQ (bJ l2)).length=dh l2:=by simp only[aaC,mg]
   refine bf (cs:=Tok.row ⟨cG kd,[],0,[],false⟩) rfl (lp (cs:=Tok.row ⟨cG kd,[],0,[],false⟩) rfl rfl rfl (by simp[bQ]) ?_);refine HA g3 (by simp[dk,bQ]) (by decide) (by simp only[AT,aaB,abd];omega) fun b4 H4 g4 k4=>?_;refine aq ?_;refine next b4 H4 ?_ (((k1.trans k2).trans k3).trans k4)
   rw[htk,pP];simpa[bJ,iI,hc]using g4
 ·obtain rfl:j=v.length:=by omega
  rw[BY]at hgj;refine zzK (by simp) ?_;exact⟨_,_,Wk.refl _ _ _ hB.1,hgj,hB⟩
theorem TI:∀n,RU n:=by
 intro n;induction n using Nat.strongRecOn with
 | _ n ih=>exact Qu fun n' h=>ih n' h
def EL(v:List Vl):AV×Int:=if jr v=0 then (za (bJ v),0) else (bF,jr v)
theorem Nh(v:List Vl)(hz:bU v<2^40):bn p_ 176 [.sl 6 (cA v)] (.aA [(EL v).1,i_ (EL v).2]):=by
 have hp:Aw.Pure (EL v).1:=by
  unfold EL za;split
  ·dsimp only;split
   ·simp[Aw.Pure]
   ·exact kP _
  ·simp[Aw.Pure]
 refine (Y8 _).bj (by simp[lj]) (by simp only[aV,Aw.Pure,and_true];exact hp) ?_;unfold SQ;refine uCon (AM v (by omega)) (zzH ?_)
 by_cases h:jr v=0
 ·refine zzK (by simp[h]) ?_;have hc15:dh v≤1500:=by
   unfold jr at h;split at h
   ·cases h
   ·split at h
    ·cases h
    ·omega
  refine TI _ v (bY _) [] bF [] (.inl ⟨rfl,rfl⟩) (by simp;omega) (by omega) _ fun a' H' g _=>?_;refine dK.Yp 1 ?_;show AV.aA [Aw.tl 0 H' 1 a',i_ 0]=_;rw[g.told (by simpa using kP _)];unfold EL za;rw[if_pos h];simp
 ·refine zzL (by simp[h]) ?_;unfold EL;rw[if_neg h];exact .pure (by simp[aV,Aw.Pure]) rfl
end
section
open Go Go.Aw Go.fg Go.RowKit
variable{v r:List Vl}{K:AV→Prop}
def Mo(id:Nat)(e:aL)(h h':aa):Prop:=∃j,h'=h.set id e++j
section
variable {id:Nat} {e e':aL} {h h' h'':aa}
theorem Mo.len(g:Mo id e h h'):h.length≤h'.length:=by obtain⟨j,rfl⟩:=g;simp
theorem Mo.at(g:Mo id e h h')(hid:id<h.length):h'[id]?=some e:=by
 obtain⟨j,rfl⟩:=g;rw[gO (by simpa using hid),iD hid]
theorem Mo.trans(hid:id<h.length)(x:Mo id e h h')(y:Mo id e' h' h''):Mo id e' h h'':=by
 obtain⟨j,rfl⟩:=x;obtain⟨k,rfl⟩:=y;exact⟨j++k,by rw[IN _ _ (by simpa using hid),aaM,To]⟩
theorem Mo.other(g:Mo id e h h'){i:Nat}(hi:i<h.length)(hne:i≠id):h'[i]?=h[i]?:=by
 obtain⟨j,rfl⟩:=g;rw[gO (by simpa using hi),iF (Ne.symm hne)]
theorem Mo.refl(r:h[id]?=some e):Mo id e h h:=⟨[],by rw[kn r];simp⟩
theorem Mo.set(id:Nat)(e:aL)(h:aa):Mo id e h (h.set id e):=⟨[],by simp⟩
theorem Mo.tail(g:Mo id e h h')(k:aa):Mo id e h (h'++k):=by
 obtain⟨j,rfl⟩:=g;exact⟨j++k,by rw[To]⟩
theorem Mo.vK(m:Mo id e h h'){T:Nat}(hT:h.length≤T)(x:aL):Mo id e h (h'.set T x):=by
 obtain⟨j,rfl⟩:=m;exact⟨j.set (T-h.length) x,by rw[IF _ _ (by simpa using hT)];simp⟩
end
abbrev LW(v:List Vl)(a:Nat):aL:=.ah ⟨131,[.sl 6 (cA v),i_ a],true⟩
abbrev dB(v r:List Vl):aL:=LW v (v.length-r.length)
theorem OA(h:r <:+ v):v.drop (v.length-r.length)=r:=by
 obtain⟨p,rfl⟩:=h;simp
theorem Iw(h:r <:+ v)(n:Nat):v[v.length-r.length+n]?=r[n]?:=by
 rw[←aaG,OA h]
def cd(r:List Vl)(n:Nat):Tok:=match r[n]? with|some x=>OK x|none=>⟨0,[],0,[],false⟩
theorem NS(x:Vl):(jt x).take 5=(OK x).row:=by rw[lq];rfl
theorem OU{h:aa}{n:Nat}{x:AV}{cs ds:List AV}(e:x=.ip ds)(hn:n≤ds.length)(hc:ds.take n=cs)(q:K (.agg cs)):ak true n x h K:=by
 subst hc;exact MQ e hn q
section
variable [Laid]
theorem nj{id:Nat}{h:aa}{v r:List Vl}{n:Nat}{x:AV}{K:AV→aa→Prop}(rd:h[id]?=some (dB v r))(hs:r <:+ v)(ex:x=.op id 0)(hv:v.length+n<2^40)(k:∀H,Mo id (dB v r) h H→K (cd r n).av H):
 bz p_ (.fn (.func 75) [] []) [x,i_ n] h K:=by
 subst ex;have hid:=(eQ.1 rd).1;have hle:=hs.length_le;refine cB (by kernel_rfl) rfl (K0:=fun w H=>w=(cd r n).av∧Mo id (dB v r) h H) ?_ (by rintro _ H ⟨rfl,m⟩;exact k H m);refine (V75 _ _).bI ?_;unfold X0;refine bW (cs:=[u8 0,.str [],i_ 0,.str [],ff]) (n:=h.length) (h':=h++[cx 0 [] 0 [] false]) rfl (by simp[bQ]) rfl rfl ?_;have rd2:(h++[cx 0 [] 0 [] false])[id]?=some (dB v r):=by rw[gO hid];exact rd
 have hV:(h++[cx 0 [] 0 [] false])[h.length]?=some (cx 0 [] 0 [] false):=by simp
 have m0:Mo id (dB v r) h (h++[cx 0 [] 0 [] false]):=(Mo.refl rd).tail _;have fin:∀t:Tok,t=cd r n→ao 5 (.op h.length 0) t.av (h++[cx 0 [] 0 [] false]) fun g=>ak true 5 (.op h.length 0) g fun w=>∃r' h'',Wk h.length [w] g [r'] h''∧r'=(cd r n).av∧Mo id (dB v r) h h'':=by
  rintro t rfl;refine qS (K:=fun w g=>∃r' h'',Wk h.length [w] g [r'] h''∧r'=(cd r n).av∧Mo id (dB v r) h h'') hV ?_;exact⟨_,_,Wk.refl _ _ _ (by simp),rfl,m0.vK (bY _) _⟩
 have hadd:((v.length-r.length:Nat):Int)+(n:Int)=((v.length-r.length+n:Nat):Int):=by omega
 refine bx (zzA (zzU rd2 rfl (zzP (by unfold aJ;omega) ?_)));rw[hadd];refine bx (zzA (zzU rd2 rfl ?_));rw[HF];refine zzC ?_;have hel:(cA v).length=v.length:=by simp[eg]
 rw[hel];have hg:=Iw hs n
 by_cases q:v.length-r.length+n<v.length
 ·obtain⟨y,hy⟩:∃y,v[v.length-r.length+n]?=some y:=⟨_,dO q⟩;rw[hy]at hg;refine zzL (oF (by omega)) (bx (zzA (zzU rd2 rfl (bx (zzA (zzU rd2 rfl (zzP (by unfold aJ;omega) ?_)))))));rw[hadd];refine zzb (eg v) rfl hy (zzX (OU rfl (by simp[lq]) (NS y) ?_));exact fin (OK y) (by unfold cd;rw[←hg])
 ·rw[iS (by omega)]at hg;refine zzK (nO (by omega)) (bf rfl ?_);exact fin ⟨0,[],0,[],false⟩ (by unfold cd;rw[←hg])
theorem ME{id:Nat}{h:aa}{v r:List Vl}{n:Nat}{y:Vl}{x:AV}{K:AV→aa→Prop}(rd:h[id]?=some (dB v r))(hs:r <:+ v)(ex:x=.op id 0)(hy:r[n]?=some y)(hv:v.length+n<2^40)(k:K (.sl 6 (cA y.list)) h):
 bz p_ (.fn (.func 105) [] []) [x,i_ n] h K:=by
 subst ex;have hle:=hs.length_le;refine cB (by kernel_rfl) rfl (K0:=fun w H=>w=.sl 6 (cA y.list)∧H=h) ?_ (by rintro _ H ⟨rfl,rfl⟩;exact k);refine (Yx _ _).bI ?_;unfold Sd;have hadd:((v.length-r.length:Nat):Int)+(n:Int)=((v.length-r.length+n:Nat):Int):=by omega
 refine bx (zzA (zzU rd rfl (bx (zzA (zzU rd rfl (zzP (by unfold aJ;omega) ?_))))));rw[hadd];refine zzb (eg v) rfl (by rw[Iw hs];exact hy) (zzX ?_);have e:(jt y).drop 5=[.sl 6 (cA y.list)]:=by rw[lq,eg];rfl
 refine dY (by rw[e]) ?_;exact⟨_,_,Wk.refl _ _ _ (bY _),rfl,rfl⟩
theorem BB{id:Nat}{h:aa}{v r:List Vl}{x:AV}{K:AV→aa→Prop}(rd:h[id]?=some (dB v r))(hs:r <:+ v)(ex:x=.op id 0)(k:K (b_ r.isEmpty) h):
 bz p_ (.fn (.func 79) [] []) [x] h K:=by
 subst ex;have hle:=hs.length_le;refine cB (by kernel_rfl) rfl (K0:=fun w H=>w=b_ r.isEmpty∧H=h) ?_ (by rintro _ H ⟨rfl,rfl⟩;exact k);refine (V79 _).bI ?_;unfold X4;refine bx (zzA (zzU rd rfl (bx (zzA (zzU rd rfl ?_)))));rw[HF];refine zzG ?_;have hel:(cA v).length=v.length:=by simp[eg]
 have:decide (((v.length-r.length:Nat):Int)=((cA v).length:Int))=r.isEmpty:=by
  rw[hel];cases r with
  | nil=>simp
  | cons y r=>simp at hle ⊢;omega
 rw[this];exact⟨_,_,Wk.refl _ _ _ (bY _),rfl,rfl⟩
end
theorem PM{t:Tok}(q:K (u8 t.k)):rR false 0 1 t.av K:=q
theorem lz:∀r:List Vl,cv r <:+ r
 | []=>List.suffix_refl _
 | x:: r=>by
   rw[cv];split
   ·exact (lz r).trans (List.suffix_cons _ _)
   ·exact List.suffix_refl _
theorem uT{c:UInt8}{r r':List Vl}(h:jq c r=some r'):∃x,r=x:: r'∧x.kind=9∧x.text=[c]:=by
 cases r with
 | nil=>cases h
 | cons x r =>
   rw[jq]at h;split at h
   ·rename_i q;cases h;exact⟨x,rfl,q⟩
   ·cases h
theorem G8(r:List Vl):(ko r).2 <:+ r:=by
 have key:∀{c:UInt8} {r':List Vl},jq c r=some r'→cv r' <:+ r:=fun h=>by
  obtain⟨x,rfl,_⟩:=uT h;exact (lz _).trans (List.suffix_cons _ _)
 unfold ko;split
 ·rename_i h;exact key h
 ·split
  ·rename_i h;exact key h
  ·split
   ·rename_i h;exact key h
   ·exact List.suffix_refl _
section
variable [Laid]
omit [Laid] in
theorem qY{id:Nat}{h:aa}{v r:List Vl}{y:Vl}{F:aa→Prop}(rd:h[id]?=some (dB v (y:: r)))(hs:(y:: r) <:+ v)(hv:v.length<2^40)(k:F (h.set id (dB v r))):
 ca p_ (.op id 0) fun v11=>bp 1 v11 fun v12=>ak false 1 v12 h fun v13=>ae .add v13 (i_ 1) fun v14=>ca p_ (.op id 0) fun v15=>bp 1 v15 fun v16=>ao 1 v16 v14 h F:=by
 have hle:=hs.length_le;simp at hle;refine bx (zzA (zzU rd rfl (zzP (by unfold aJ;simp;omega) (bx (zzA ?_)))));have e:((v.length-(y:: r).length:Nat):Int)+1=((v.length-r.length:Nat):Int):=by simp;omega
 rw[e];exact aX (cs:=[i_ ((v.length-r.length:Nat):Int)]) (h':=h.set id (dB v r)) rfl rd rfl rfl (by simp) rfl rfl rfl k
theorem my{id:Nat}{h:aa}{v r:List Vl}{x:AV}{K:AV→aa→Prop}(rd:h[id]?=some (dB v r))(hs:r <:+ v)(ex:x=.op id 0)(hv:v.length<2^30)(k:∀H,Mo id (dB v (cv r)) h H→K (b_ (decide ((cv r).length<r.length))) H):
 bz p_ (.fn (.func 73) [] []) [x] h K:=by
 subst ex;have hid:=(eQ.1 rd).1;have hle:=hs.length_le;refine cB (by kernel_rfl) rfl (K0:=fun w H=>w=b_ (decide ((cv r).length<r.length))∧Mo id (dB v (cv r)) h H) ?_ (by rintro _ H ⟨rfl,m⟩;exact k H m);refine (V73 _).bI ?_;unfold XY;refine bx (zzA (zzU rd rfl (bc (α:=List Vl×aa) (fun x=>x.1 <:+ r∧cv x.1=cv r∧Mo id (dB v x.1) h x.2) (fun _=>[]) (fun x=>x.2) (fun x=>x.1.length) (r,h) ⟨List.suffix_refl _,rfl,Mo.refl rd⟩ (Wk.refl _ _ _ (bY _)) ?_)));rintro⟨r1,H1⟩ ⟨hs1,hk,m1⟩;dsimp only at hs1 hk m1 ⊢;have rd1:=m1.at hid;have sv:=hs1.trans hs;have hl1:=m1.len;refine nj (n:=0) rd1 sv rfl (by omega) fun H2 m2=>?_;have rd2:=m2.at (by omega);have hl2:=m2.len;have m12:=m1.trans hid m2;refine PM (zzG ?_);have stop:cv r1=r1→(cd r1 0).k≠13→ag (.v (.bool (decide ((cd r1 0).k=13)))) (ca p_ (.op id 0) fun v11=>bp 1 v11 fun v12=>ak false 1 v12 H2 fun v13=>ae .add v13 (i_ 1) fun v14=>ca p_ (.op id 0) fun v15=>bp 1 v15 fun v16=>ao 1 v16 v14 H2 fun g17=>[AV.op id 0,i_ ((v.length-r.length:Nat):Int)]=[AV.op id 0,i_ ((v.length-r.length:Nat):Int)]∧∃y:List Vl×aa,(y.1 <:+ r∧cv y.1=cv r∧Mo id (dB v y.1) h y.2)∧Wk h.length [] g17 [] y.2∧y.1.length<r1.length)
  (ca p_ (.op id 0) fun v18=>bp 1 v18 fun v19=>ak false 1 v19 H2 fun v20=>ae .gtr v20 (i_ ((v.length-r.length:Nat):Int)) fun v21=>∃r' h'',Wk h.length [v21] H2 [r'] h''∧r'=b_ (decide ((cv r).length<r.length))∧Mo id (dB v (cv r)) h h''):=by
  intro e hne;refine zzK (nO hne) (bx (zzA (zzU rd2 rfl (zzE ?_))));have e2:cv r=r1:=by rw[←hk];exact e
  have hl:=hs1.length_le;have:decide (((v.length-r.length:Nat):Int)<((v.length-r1.length:Nat):Int))=decide ((cv r).length<r.length):=by
   rw[e2];exact decide_eq_decide.2 (by omega)
  rw[this];exact⟨_,_,Wk.refl _ _ _ (by omega),rfl,by rw[e2];exact m12⟩
 cases r1 with
 | nil=>exact stop rfl (by decide)
 | cons y r1 =>
   by_cases hy:y.kind=13
   ·refine zzL (oF hy) (qY rd2 sv (by omega) (aq ?_));have m3:=m12.trans hid (Mo.set id (dB v r1) H2);exact⟨(r1,H2.set id (dB v r1)),⟨(List.suffix_cons _ _).trans hs1,by rw[←hk,cv,if_pos hy],m3⟩,Wk.refl _ _ _ m3.len,by simp⟩
   ·exact stop (by rw[cv,if_neg hy]) hy
theorem BA{id:Nat}{h:aa}{v r:List Vl}{c:UInt8}{x:AV}{K:AV→aa→Prop}(rd:h[id]?=some (dB v r))(hs:r <:+ v)(ex:x=.op id 0)(hv:v.length<2^30)
 (k1:∀r' H,jq c r=some r'→Mo id (dB v r') h H→K tt H) (k2:∀H,jq c r=none→Mo id (dB v r) h H→K ff H) :
 bz p_ (.fn (.func 77) [] []) [x,.str [c]] h K:=by
 subst ex;have hid:=(eQ.1 rd).1;refine cB (by kernel_rfl) rfl (K0:=fun w H=>(∃r',jq c r=some r'∧Mo id (dB v r') h H∧w=tt)∨(jq c r=none∧Mo id (dB v r) h H∧w=ff)) ?_ (fun w H z=>z.elim (fun⟨r',e,m,q⟩=>by subst q;exact k1 r' H e m) fun⟨e,m,q⟩=>by subst q;exact k2 H e m);refine (V77 _ _).bI ?_;unfold X2;refine nj (n:=0) rd hs rfl (by omega) fun H1 m1=>?_;have hl1:=m1.len;have rd1:=m1.at hid;refine jx ?_;obtain⟨H2,h2⟩:∃H2,H2=H1++[aL.ah ⟨70,(cd r 0).row,true⟩]:=⟨_,rfl⟩;have hT:H2[H1.length]?=some (.ah ⟨70,(cd r 0).row,true⟩):=by rw[h2];simp
 have m2:Mo id (dB v r) h H2:=by rw[h2];exact m1.tail _
 have rd2:=m2.at hid;have hl2:=m2.len;rw[←h2];clear h2;refine zzA (zzU hT rfl (zzH ?_));have no:jq c r=none→∃r' h'',Wk h.length [ff] H2 [r'] h''∧((∃q,jq c r=some q∧Mo id (dB v q) h h''∧r'=tt)∨(jq c r=none∧Mo id (dB v r) h h''∧r'=ff)):=fun e=>⟨_,_,Wk.refl _ _ _ hl2,.inr ⟨e,m2,rfl⟩⟩;refine aH ?_
 by_cases c1:(cd r 0).k=9
 ·refine zzN (by simp[c1]) (zzA (zzU hT rfl (zzJ (aq (zzQ ?_)))));cases r with
  | nil=>exact absurd c1 (by decide)
  | cons y r =>
    by_cases c2:y.text=[c]
    ·refine zzK (by show (!decide (y.text=[c]))=false;simp[c2]) (qY rd2 hs (by omega) ?_);have m3:=m2.trans hid (Mo.set id (dB v r) H2);exact⟨_,_,Wk.refl _ _ _ m3.len,.inl ⟨r,by rw[jq,if_pos ⟨c1,c2⟩],m3,rfl⟩⟩
    ·refine zzL (by show (!decide (y.text=[c]))=true;simp[c2]) ?_;exact no (by rw[jq,if_neg (fun z=>c2 z.2)])
 ·refine zzM (by simp[c1]) (aq (zzR (zzL rfl (no ?_))));cases r with
  | nil=>rfl
  | cons y r=>rw[jq,if_neg (fun z=>c1 z.1)]
theorem MD{id:Nat}{h:aa}{v r:List Vl}{x:AV}{K:AV→aa→Prop}(rd:h[id]?=some (dB v r))(hs:r <:+ v)(ex:x=.op id 0)(hv:v.length<2^30)(k:∀H,Mo id (dB v (ko r).2) h H→K (u8 (ko r).1) H):
 bz p_ (.fn (.func 74) [] []) [x] h K:=by
 subst ex;have hid:=(eQ.1 rd).1;refine cB (by kernel_rfl) rfl (K0:=fun w H=>w=u8 (ko r).1∧Mo id (dB v (ko r).2) h H) ?_ (by rintro _ H ⟨rfl,m⟩;exact k H m);refine (V74 _).bI ?_;unfold XZ
 let cs:List UInt8:=[62,43,126]
 refine bc (α:=Nat×aa) (fun x=>x.1≤3∧(∀j c,cs[j]?=some c→j<x.1→jq c r=none)∧Mo id (dB v r) h x.2) (fun x=>[i_ x.1]) (fun x=>x.2) (fun x=>3-x.1) (0,h) ⟨aaO _,fun j c _ z=>absurd z (aaP _),Mo.refl rd⟩ (Wk.refl _ _ _ (bY _)) ?_;rintro⟨i,H1⟩ ⟨hi,hb,m1⟩;dsimp only at hi hb m1 ⊢;have rd1:=m1.at hid;have hl1:=m1.len;refine zzC ?_;rcases uP i 3 with q|q
 ·obtain⟨c,hc⟩:∃c,cs[i]?=some c:=⟨_,dO q⟩;refine zzL (oF (by omega)) (zzP (by unfold aJ;omega) ?_);have hsl:(cs.take (i+1)).drop i=[c]:=by
   rcases (by omega:i=0∨i=1∨i=2) with rfl|rfl|rfl<;>(cases hc;rfl)
  refine nw (l:=cs) (a:=i) (b:=i+1) (r:=[c]) rfl rfl rfl (by omega) (by show i+1≤3;omega) hsl ?_;refine BA rd1 hs rfl hv (fun r' H2 e m2=>?_) (fun H2 e m2=>?_)
  ·have hl2:=m2.len;obtain⟨y,hy,_⟩:=uT e;have hs':r' <:+ v:=List.IsSuffix.trans (by rw[hy];exact List.suffix_cons _ _) hs;refine zzL rfl ?_;refine my (m2.at (by omega)) hs' rfl hv fun H3 m3=>?_;have m13:=(m1.trans hid m2).trans hid m3;have hcm:ko r=(2+(i:Int),cv r'):=by
    unfold ko;rcases (by omega:i=0∨i=1∨i=2) with rfl|rfl|rfl
    ·cases hc;rw[e];rfl
    ·cases hc;rw[hb 0 62 rfl (by decide),e];rfl
    ·cases hc;rw[hb 0 62 rfl (by decide),hb 1 43 rfl (by decide),e];rfl
   rw[hcm];refine fk (m:=(i:Int)) rfl (by rw[IntKind.wrap_u8];omega) (xp (c:=2+(i:Int)) (by decide) rfl rfl (by rw[IntKind.wrap_u8];omega) ?_);exact⟨_,_,Wk.refl _ _ _ m13.len,rfl,m13⟩
  ·refine zzK rfl (zzP (by unfold aJ;omega) (aq ?_));refine⟨(i+1,H2),⟨q,fun j c' hj hlt=>?_,m1.trans hid m2⟩,Wk.refl _ _ _ (by have:=m2.len;omega),by dsimp only;omega⟩;rcases uP j i with k|k
   ·exact hb j c' hj k
   ·obtain rfl:j=i:=by simp at hlt;omega
    rw[hj]at hc;cases hc;exact e
 ·obtain rfl:i=3:=by omega
  refine zzK rfl ?_;have hcm:ko r=(0,r):=by unfold ko;rw[hb 0 62 rfl (by decide),hb 1 43 rfl (by decide),hb 2 126 rfl (by decide)]
  rw[hcm];exact⟨_,_,Wk.refl _ _ _ hl1,rfl,m1⟩
end
end
section
open Go Go.Aw
variable [Laid]
def Sb(x0:AV)(h:aa)(K:AV→aa→Prop):Prop:=
 aW 46 (.agg [u8 0,.str [],u8 0,.str [],ff,i_ 0,i_ 0,ff,qNs]) h fun b N=>aY (.agg [qNs,i_ 0]) [(0,1,x0)] fun O=>aW 131 O N fun a P=>iC p_ 73 [a] P fun i0 Q=>iC p_ 75 [a,i_ 0] Q fun R S=>rR false 1 1 R fun T=>iC p_ 76 [T] S fun U V=>aY (.agg [u8 0,.str [],u8 0,.str [],ff,i_ 0,i_ 0,ff,qNs]) [(0,1,(u8 3)),(1,1,U)] fun W=>aW 46 (.agg [u8 0,.str [],u8 0,.str [],ff,i_ 0,i_ 0,ff,qNs]) V fun c X=>ao 9 c W X fun Y=>iC p_ 75 [a,i_ 0] Y fun Z g=>rR false 0 1 Z fun a0=>ae .neq a0 (u8 1) fun a1=>ag a1 (ak true 9 c g fun a2=>ao 9 b a2 g fun s=>ak true 9 b s fun r23=>K (.aA [r23,ff]) s) (qLd p_ a 1 g fun a3=>qBe .add a3 1 fun a4=>qSt p_ a 1 a4 g fun a5=>iC p_ 73 [a] a5 fun i1 a6=>iC p_ 79 [a] a6 fun a7 m=>ag a7 (ak true 9 c m fun a8=>ao 9 b a8 m fun t=>ak true 9 b t fun r37=>K (.aA [r37,tt]) t) (aw (fun u=>iC p_ 77 [a,.str [61]] m fun a9 v=>ag a9 (bp 2 c fun b0=>ao 1 b0 (u8 1) v fun b1=>eC [b,a,c] (u [] b1)) (iC p_ 75 [a,i_ 0] v fun b2 b3=>aW 70 (.agg [u8 0,.str [],i_ 0,.str [],ff]) b3 fun n b4=>ao 5 n b2 b4 fun w=>iFL 1 false 1 n w fun b5=>iC p_ 60 [.str [126,124,94,36,42],b5] w fun o p=>iFL 0 false 1 n p fun b6=>ae .neq b6 (u8 9) fun b7=>qJo b7 [b,a,c,o] p (fun b8=>qBe .lss o 0 fun b9=>b8 b9 p) fun c0 i=>ag c0 (ak true 9 c i fun c1=>ao 9 b c1 i fun x=>ak true 9 b x fun r62=>K (.aA [r62,ff]) x) (qLd p_ a 1 i fun c2=>qBe .add c2 1 fun c3=>qSt p_ a 1 c3 i fun c4=>iC p_ 77 [a,.str [61]] c4 fun c5 q=>cq c5 fun c6=>ag c6 (ak true 9 c q fun c7=>ao 9 b c7 q fun y=>ak true 9 b y fun r75=>K (.aA [r75,ff]) y) (cy .u8 o fun c8=>ae .add (u8 2) c8 fun c9=>bp 2 c fun d0=>ao 1 d0 c9 q fun d1=>eC [b,a,c] (u [] d1))))) fun i2 d2=>iC p_ 73 [a] d2 fun i3 d3=>iC p_ 75 [a,i_ 0] d3 fun d4 d5=>aW 70 (.agg [u8 0,.str [],i_ 0,.str [],ff]) d5 fun f d6=>ao 5 f d4 d6 fun j=>iFL 0 false 1 f j fun d7=>ae .neq d7 (u8 1) fun d8=>qJa d8 [b,a,c,f] j (fun d9=>iFL 0 false 1 f j fun e0=>ae .neq e0 (u8 5) fun e1=>d9 e1 j) fun e2 k=>ag e2 (ak true 9 c k fun e3=>ao 9 b e3 k fun z=>ak true 9 b z fun r101=>K (.aA [r101,ff]) z) (iFL 1 false 1 f k fun e4=>bp 3 c fun e5=>ao 1 e5 e4 k fun A=>qLd p_ a 1 A fun e6=>qBe .add e6 1 fun e7=>qSt p_ a 1 e7 A fun e8=>iC p_ 73 [a] e8 fun i4 e9=>iC p_ 75 [a,i_ 0] e9 fun f0 f1=>aW 70 (.agg [u8 0,.str [],i_ 0,.str [],ff]) f1 fun l f2=>ao 5 l f0 f2 fun e=>iFL 0 false 1 l e fun f3=>ae .eql f3 (u8 1) fun f4=>ag f4 (qLd p_ a 1 e fun f5=>qBe .add f5 1 fun f6=>qSt p_ a 1 f6 e fun f7=>iC p_ 73 [a] f7 fun i5 B=>iFL 1 false 1 l B fun f8=>iC p_ 101 [f8,.str [105]] B fun f9 g0=>bp 4 c fun g1=>ao 1 g1 f9 g0 fun d=>ak true 9 c d fun g2=>iQ p_ 79 [a] d fun r=>aw (fun C=>ar r true (bp 4 c fun D=>ak false 1 D d fun E=>C [D,E,E] d) (C [un,un,un] d)) fun F _=>aw (fun G=>ar (nx F 2) false (bp 1 l fun H=>ak false 1 H d fun I=>iQ p_ 101 [I,.str [115]] d fun g3=>G [H,I,g3] d) (G [un,un,un] d)) fun g4 _=>aw (fun J=>ar r true (aI (nx F 2) tt (nx g4 2) fun g5=>J [g5] d) (J [un] d)) fun g6 _=>aI r (nx g6 0) ff fun g7=>ao 9 b g2 d fun L=>ak true 9 b L fun r154=>K (.aA [r154,g7]) L) (ak true 9 c e fun g8=>iQ p_ 79 [a] e fun g9=>ao 9 b g8 e fun M=>ak true 9 b M fun r158=>K (.aA [r158,g9]) M))))
theorem Yw(x0:AV):fv p_ 104 [x0] (Sb x0):=mkM Tryz.func104 (sn (sn (sn (sn (sn (sn (sn (sn (.join [2,4,5] [] (sn (.two .nil (sn (sn (.seq (.seq (.aR (oR 0 4 (.aD 3 false (fR 4 2) [2,4,5,7] [48,50]::.op 6 false::[]))) .nil) .nil))))) (sn (sn (.seq (.seq (.aR (oR 0 4 (.aD 3 true (fR 4 3) [2,4,5,8] [75,78]::.op 7 false::[]))) .nil) (sn (sn (sn (.seq (sn (sn (.two (sn (sn (sn (.seq (.two (.draw 12 (oR 0 4 (.aD 3 true (fR 4 3) [] [115,116,117]::.aD 6 false (fR 7 3) [] [118,119,120]::.aD 3 true [(10,false)] [] [121]::.op 11 false::[])) [] []) (.jQ [(12,2,false),(13,0,false)])) .nil)))) .nil))) (.seq (.draw 3 (oR 0 3 []) (oR 3 2 []) []) .nil))))))))))))))))) 126 [.cell 2 46,.tmp 3]
def XC(x0 x1 x2:AV)(h:aa)(K:AV→aa→Prop):Prop:=
 aW 80 x1 h fun c Z=>aW 39 (.agg [u8 0,qNs,qNs]) Z fun a A=>E1 A (fun a0=>aY (.agg [qNs,i_ 0]) [(0,1,x0)] fun a1=>aW 131 a1 A fun e a2=>iC p_ 73 [e] a2 fun o1 a3=>aW 39 (.agg [u8 0,qNs,qNs]) a3 fun d B=>aw (fun u=>ag x2 (iC p_ 74 [e] B fun a4 a5=>bp 0 d fun a6=>ao 1 a6 a4 a5 fun v=>iFL 0 false 1 d v fun a7=>ae .eql a7 (u8 0) fun a8=>ag a8 (bp 0 d fun a9=>ao 1 a9 (u8 1) v fun b0=>eC [c,a,e,d] (u [] b0)) (eC [c,a,e,d] (u [] v))) (eC [c,a,e,d] (u [] B))) fun o2 b1=>bL [] b1 fun b2 o3 b3 =>
 aW 42 (.agg [.str [],qNs]) b3 fun f b4=>aw (fun w=>iC p_ 75 [e,i_ 0] b4 fun b5 b6=>aW 70 (.agg [u8 0,.str [],i_ 0,.str [],ff]) b6 fun x b7=>ao 5 x b5 b7 fun k=>iFL 0 false 1 x k fun b8=>ae .eql b8 (u8 1) fun b9=>ag b9 (iFL 1 false 1 x k fun c0=>iC p_ 76 [c0] k fun c1 c2=>bp 0 f fun c3=>ao 1 c3 c1 c2 fun C=>qLd p_ e 1 C fun c4=>qBe .add c4 1 fun c5=>qSt p_ e 1 c5 C fun c6=>eC [c,a,e,d,f] (w [] c6)) (iC p_ 77 [e,.str [42]] k fun c7 D=>ag c7 (bp 0 f fun c8=>ao 1 c8 (.str [42]) D fun c9=>eC [c,a,e,d,f] (w [] c9)) (eC [c,a,e,d,f] (w [] D)))) fun o4 E=>ak true 2 c E fun d0=>iC p_ 78 [e,d0] E fun F d1=>aU 0 F fun d2=>aU 1 F fun d3=>bp 1 f fun d4=>ao 1 d4 d2 d1 fun l=>cq d3 fun d5=>qJo d5 [c,a,e,d,f] l (fun d6=>ak true 2 f l fun d7=>ak true 2 c l fun d8=>iC p_ 50 [d7,d8] l fun d9 e0=>cq d9 fun e1=>d6 e1 e0) fun e2 i=>ag e2 (ak true 3 d i fun e3=>ao 3 a e3 i fun G=>ak true 3 a G fun r79=>K (.aA [r79,ff]) G) (iFL 1 false 1 d i fun e4=>ak true 2 f i fun e5=>br 1 2 (.agg [.str [],qNs]) [(0,2,e5)] fun e6=>bP false 42 2 40 e4 e6 i fun e7 e8=>bp 1 d fun e9=>ao 1 e9 e7 e8 fun f0=>iC p_ 73 [e] f0 fun f1 f2=>iC p_ 79 [e] f2 fun f3 m=>ag f3 ((∃d92:Nat,ak true 3 d m fun f4=>bp 1 d fun H=>cM (qF d92 H) (ak false 1 H m fun f5=>ja f5 fun f6=>qBe .leq f6 64 fun f7=>cM (xo d92 a) (ao 3 a f4 m fun I=>ak true 3 a I fun r99=>K (.aA [r99,f7]) I)))) (iC p_ 74 [e] m fun n J=>aw (fun L=>ae .eql n (u8 0) fun f8=>qJa f8 [c,a,e,d,n] J (fun f9=>cq f1 fun g0=>f9 g0 J) fun g1 o=>ag g1 (ak true 3 d o fun g2=>ao 3 a g2 o fun M=>ak true 3 a M fun r111=>K (.aA [r111,ff]) M) (ae .eql n (u8 0) fun g3=>ag g3 (eC [c,a,e,d] (L [u8 1] o)) (eC [c,a,e,d] (L [n] o)))) fun g4 N=>iFL 2 false 1 d N fun g5=>br 1 1 (u8 0) [(0,1,(nx g4 0))] fun g6=>bP false 5 1 1 g5 g6 N fun g7 g8=>bp 2 d fun g9=>ao 1 g9 g7 g8 fun i0=>eC [c,a,e,d] (b2 [] i0)))) fun a0 b i1 =>
 bL [] i1 fun i2 o5 i3 =>
 aW 42 (.agg [.str [],qNs]) i3 fun g i4=>aw (fun y=>iC p_ 75 [nx b 0,i_ 0] i4 fun i5 i6=>aW 70 (.agg [u8 0,.str [],i_ 0,.str [],ff]) i6 fun z i7=>ao 5 z i5 i7 fun p=>iFL 0 false 1 z p fun i8=>ae .eql i8 (u8 1) fun i9=>ag i9 (iFL 1 false 1 z p fun j0=>iC p_ 76 [j0] p fun j1 j2=>bp 0 g fun j3=>ao 1 j3 j1 j2 fun O=>qLd p_ (nx b 0) 1 O fun j4=>qBe .add j4 1 fun j5=>qSt p_ (nx b 0) 1 j5 O fun j6=>eC [c,a,nx b 0,nx b 1,g] (y [] j6)) (iC p_ 77 [nx b 0,.str [42]] p fun j7 P=>ag j7 (bp 0 g fun j8=>ao 1 j8 (.str [42]) P fun j9=>eC [c,a,nx b 0,nx b 1,g] (y [] j9)) (eC [c,a,nx b 0,nx b 1,g] (y [] P)))) fun o6 Q=>ak true 2 c Q fun k0=>iC p_ 78 [nx b 0,k0] Q fun R k1=>aU 0 R fun k2=>aU 1 R fun k3=>bp 1 g fun k4=>ao 1 k4 k2 k1 fun q=>cq k3 fun k5=>qJo k5 [c,a,nx b 0,nx b 1,g] q (fun k6=>ak true 2 g q fun k7=>ak true 2 c q fun k8=>iC p_ 50 [k7,k8] q fun k9 l0=>cq k9 fun l1=>k6 l1 l0) fun l2 j=>ag l2 (ak true 3 (nx b 1) j fun l3=>ao 3 a l3 j fun S=>ak true 3 a S fun r174=>K (.aA [r174,ff]) S) (iFL 1 false 1 (nx b 1) j fun l4=>ak true 2 g j fun l5=>br 1 2 (.agg [.str [],qNs]) [(0,2,l5)] fun l6=>bP false 42 2 40 l4 l6 j fun l7 l8=>bp 1 (nx b 1) fun l9=>ao 1 l9 l7 l8 fun m0=>iC p_ 73 [nx b 0] m0 fun m1 m2=>iC p_ 79 [nx b 0] m2 fun m3 r=>ag m3 ((∃d187:Nat,ak true 3 (nx b 1) r fun m4=>bp 1 (nx b 1) fun T=>cM (qF d187 T) (ak false 1 T r fun m5=>ja m5 fun m6=>qBe .leq m6 64 fun m7=>cM (xo d187 a) (ao 3 a m4 r fun U=>ak true 3 a U fun r194=>K (.aA [r194,m7]) U)))) (iC p_ 74 [nx b 0] r fun s V=>aw (fun W=>ae .eql s (u8 0) fun m8=>qJa m8 [c,a,nx b 0,nx b 1,s] V (fun m9=>cq m1 fun n0=>m9 n0 V) fun n1 t=>ag n1 (ak true 3 (nx b 1) t fun n2=>ao 3 a n2 t fun X=>ak true 3 a X fun r206=>K (.aA [r206,ff]) X) (ae .eql s (u8 0) fun n3=>ag n3 (eC [c,a,nx b 0,nx b 1] (W [u8 1] t)) (eC [c,a,nx b 0,nx b 1] (W [s] t)))) fun n4 Y=>iFL 2 false 1 (nx b 1) Y fun n5=>br 1 1 (u8 0) [(0,1,(nx n4 0))] fun n6=>bP false 5 1 1 n5 n6 Y fun n7 n8=>bp 2 (nx b 1) fun n9=>ao 1 n9 n7 n8 fun o0=>eC [c,a,nx b 0,nx b 1] (i2 [] o0)))
theorem V46(x0 x1 x2:AV):fv p_ 46 [x0,x1,x2] (XC x0 x1 x2):=mkM Tryz.func46 (sn (.seq (.loop [0] [] .nil) (.join [4,6] [8,9] (sn (sn (sn (.join [4,6,8,9] [] .nil (sn (.seq (.one (.loop [4,6,8,9] [] (.one (sn (.join [4,6,8,9,10] [] .nil (sn (.seq (sn (.seq (.aR (oR 0 3 (.aD 2 false (fR 3 4) [4,6,8,9,10] [56,60]::.op 7 false::[]))) .nil)) (.seq (.aR (oR 0 3 (.op 3 true::oR 4 3 []))) (sn (sn (sn (.join [4,6,8,9] [14] (.one (.seq (.aR (oR 0 3 (.aD 2 true (fR 3 2) [4,6,8,9,14] [78,80]::oR 5 2 []))) .nil)) (.aR (oR 0 3 (.op 3 true::oR 4 3 []))))))))))))))) (.seq (.two (.jQ [(0,1,false),(1,0,false),(2,3,false),(3,0,false),(4,0,false),(5,4,false),(6,0,false)]) .nil) .nil))))))) (sn (.seq (.one (.loop [4,6,8,9] [] (.one (sn (.join [4,6,8,9,10] [] .nil (sn (.seq (sn (.seq (.aR (oR 0 3 (.aD 2 false (fR 3 4) [4,6,8,9,10] [56,60]::.op 7 false::[]))) .nil)) (.seq (.aR (oR 0 3 (.op 3 true::oR 4 3 []))) (sn (sn (sn (.join [4,6,8,9] [14] (.one (.seq (.aR (oR 0 3 (.aD 2 true (fR 3 2) [4,6,8,9,14] [78,80]::oR 5 2 []))) .nil)) (.aR (oR 0 3 (.op 3 true::oR 4 3 []))))))))))))))) (.seq (.two (.jQ [(0,1,false),(1,0,false),(2,3,false),(3,0,false),(4,0,false),(5,4,false),(6,0,false)]) .nil) .nil)))))) 97 [.cell 6 39,.tmp 7]
end
section
open Go Go.Aw Go.fg Go.RowKit
open Go.bG hiding u1 af
variable{K:AV→Prop}{sz:Nat}
def gg(sz:Nat)(rows:List (List AV)):AV:=match rows with|[]=>bF|r:: l=>.sl sz (r:: l)
theorem lu{rows:List (List AV)}(h:cF rows):Aw.Pure (gg sz rows):=by
 cases rows with
 | nil=>simp[gg,Aw.Pure]
 | cons r l=>simpa[gg,Aw.Pure]using h
theorem oY(sz:Nat)(rows:List (List AV)):bQ (gg sz rows)=true:=by cases rows<;>rfl
theorem ui{rows rows':List (List AV)}(h:nV rows rows'):Ap (gg sz rows) (.sl sz rows'):=by
 cases h with
 | nil=>exact .nil sz
 | cons a b=>exact .sl (.cons a b)
mutual
def nX_:Cx→List AV
 | .mk l ps cs=>[u1 l,gg 2 (fW_ ps),gg 1 (cs.map fun c=>[u1 c])]
def fW_:List Cp→List (List AV)
 | []=>[]
 | p:: ps=>nP_ p:: fW_ ps
def nP_:Cp→List AV
 | .mk t ss=>[.str t,gg 9 (dW_ ss)]
def dW_:List Sm→List (List AV)
 | []=>[]
 | s:: ss=>nS_ s:: dW_ ss
def nS_:Sm→List AV
 | .mk k n o v f a b w l=>[u1 k,.str n,u1 o,.str v,b_ f,i_ a,i_ b,b_ w,gg 3 (dN_ l)]
def dN_:List Cx→List (List AV)
 | []=>[]
 | x:: xs=>nX_ x:: dN_ xs
end
theorem Cc:∀l,dN_ l=l.map nX_
 | []=>by simp[dN_]
 | p:: l=>by simp[dN_,Cc l]
theorem xU:∀l,fW_ l=l.map nP_
 | []=>by simp[fW_]
 | p:: l=>by simp[fW_,xU l]
theorem Ca:∀l,dW_ l=l.map nS_
 | []=>by simp[dW_]
 | p:: l=>by simp[dW_,Ca l]
mutual
theorem Ia:∀x:Cx,aV (nX_ x)
 | .mk l ps cs=>by simp only[nX_,aV,Aw.Pure,true_and,and_true];exact⟨lu (Fs ps),lu (bG.Br cs)⟩
theorem Fs:∀l:List Cp,cF (fW_ l)
 | []=>by simp[fW_,cF]
 | p:: l=>by simp[fW_,cF,HX p,Fs l]
theorem HX:∀p:Cp,aV (nP_ p)
 | .mk t ss=>by simp only[nP_,aV,Aw.Pure,true_and,and_true];exact lu (Fu ss)
theorem Fu:∀l:List Sm,cF (dW_ l)
 | []=>by simp[dW_,cF]
 | s:: l=>by simp[dW_,cF,jL s,Fu l]
theorem jL:∀s:Sm,aV (nS_ s)
 | .mk k n o v f a b w l=>by simp only[nS_,aV,Aw.Pure,true_and,and_true];exact lu (ma l)
theorem ma:∀l:List Cx,cF (dN_ l)
 | []=>by simp[dN_,cF]
 | x:: l=>by simp[dN_,cF,Ia x,ma l]
end
theorem CX:∀r:List (List AV),nV r r
 | []=>.nil
 | x:: r=>.cons (kv.refl x) (CX r)
mutual
theorem Ui:∀x:Cx,kv (nX_ x) (fZ x)
 | .mk l ps cs=>by rw[nX_,fZ];exact .cons (.refl _) (.cons (ui (HY ps)) (.cons (ui (CX _)) .nil))
theorem HY:∀l:List Cp,nV (fW_ l) (du l)
 | []=>.nil
 | p:: l=>.cons (Lm p) (HY l)
theorem Lm:∀p:Cp,kv (nP_ p) (iv p)
 | .mk t ss=>by rw[nP_,iv];exact .cons (.refl _) (.cons (ui (HZ ss)) .nil)
theorem HZ:∀l:List Sm,nV (dW_ l) (dT l)
 | []=>.nil
 | s:: l=>.cons (Uh s) (HZ l)
theorem Uh:∀s:Sm,kv (nS_ s) (ft s)
 | .mk k n o v f a b w l=>by
   rw[nS_,ft];exact .cons (.refl _) (.cons (.refl _) (.cons (.refl _) (.cons (.refl _) (.cons (.refl _) (.cons (.refl _) (.cons (.refl _) (.cons (.refl _) (.cons (ui (xV l)) .nil))))))))
theorem xV:∀l:List Cx,nV (dN_ l) (bC l)
 | []=>.nil
 | x:: l=>.cons (Ui x) (xV l)
end
abbrev cT(s:Sm):aL:=.ah ⟨46,nS_ s,true⟩
theorem fF(s:Sm):(nS_ s).length=9:=by cases s;rfl
theorem rm(s:Sm):(nS_ s).all bQ=true:=by cases s;simp only[nS_,aa2,List.all_nil,oY];rfl
def cO:Sm:=.mk 0 [] 0 [] false 0 0 false []
theorem um{V:Nat}{H:aa}{s s0:Sm}{K:AV→aa→Prop}(hV:H[V]?=some (cT s0))(k:K (.agg (nS_ s)) (H.set V (cT s))):
 ao 9 (.op V 0) (.agg (nS_ s)) H fun g=>ak true 9 (.op V 0) g fun r=>K r g:=by
 refine aX (cs:=nS_ s) (h':=H.set V (cT s)) rfl hV rfl rfl (by simp[fF]) (fF s) (rm s) (by rw[kQ (by simp[fF])]) ?_;refine ig (cs:=nS_ s) (b:=⟨46,nS_ s,true⟩) rfl (iD (eQ.1 hV).1) (by simp[fF]) (by rw[List.drop_zero,MK (by simp[fF])]) ?_;exact k
theorem kC{V:Nat}{H:aa}{s:Sm}(hV:H[V]?=some (cT s))(k:K (.agg (nS_ s))):ak true 9 (.op V 0) H K:=
 ig (cs:=nS_ s) rfl hV (by simp[fF]) (by rw[List.drop_zero,MK (by simp[fF])]) k
theorem VA{t:Tok}(q:K (.str t.t)):rR false 1 1 t.av K:=q
structure lK(v:List Vl)(H:aa)(B:Nat)(s:Sm)(r:List Vl):Prop where
 z:H[0]?=some (cT cO)
 rd:H[1]?=some (dB v r)
 x:H[B]?=some (cT s)
 b:1<B
 sf:r <:+ v
section
variable {v r r':List Vl} {H H':aa} {B:Nat} {s s':Sm}
theorem lK.lt(a:lK v H B s r):B<H.length:=(eQ.1 a.x).1
theorem lK.mo(a:lK v H B s r)(m:Mo 1 (dB v r') H H')(h:r' <:+ v):lK v H' B s r':=by
 have:=a.lt;have:=a.b;exact⟨by rw[m.other (by omega) (by decide)];exact a.z,m.at (by omega),by rw[m.other (by omega) (by omega)];exact a.x,a.b,h⟩
theorem lK.app(a:lK v H B s r)(j:aa):lK v (H++j) B s r:=by
 have q:∀{i:Nat} {e:aL},H[i]?=some e→(H++j)[i]?=some e:=fun h=>by rw[gO (eQ.1 h).1];exact h
 exact⟨q a.z,q a.rd,q a.x,a.b,a.sf⟩
theorem lK.set(a:lK v H B s r)(s':Sm):lK v (H.set B (cT s')) B s' r:=by
 have:=a.b;exact⟨by rw[iF (by omega)];exact a.z,by rw[iF (by omega)];exact a.rd,iD a.lt,a.b,a.sf⟩
theorem lK.st{n:af}{o o':Int}{w:af}{f:Bool}{F:aa→Prop}(a:lK v H B (eD n o w f) r)(k:lK v (H.set B (cT (eD n o' w f))) B (eD n o' w f) r→F (H.set B (cT (eD n o' w f)))):
 ao 1 (.op B (0+2)) (u8 o') H F:=aX (cs:=[u8 o']) rfl a.x rfl rfl (by simp[fF]) rfl rfl rfl (k (a.set _))
theorem lK.stV{n:af}{o:Int}{w w':af}{f:Bool}{F:aa→Prop}(a:lK v H B (eD n o w f) r)(k:lK v (H.set B (cT (eD n o w' f))) B (eD n o w' f) r→F (H.set B (cT (eD n o w' f)))):
 ao 1 (.op B (0+3)) (.str w') H F:=aX (cs:=[.str w']) rfl a.x rfl rfl (by simp[fF]) rfl rfl rfl (k (a.set _))
theorem lK.stF{n:af}{o:Int}{w:af}{f f':Bool}{F:aa→Prop}(a:lK v H B (eD n o w f) r)(k:lK v (H.set B (cT (eD n o w f'))) B (eD n o w f') r→F (H.set B (cT (eD n o w f')))):
 ao 1 (.op B (0+4)) (b_ f') H F:=aX (cs:=[b_ f']) rfl a.x rfl rfl (by simp[fF]) rfl rfl rfl (k (a.set _))
end
def M9:List Vl→Sm×Bool
 | []=>(eD [] 0 [] false,false)
 | t:: r=>if t.kind=1 then qz (bT t.text) (cv r) else (eD (bT t.text) 0 [] false,false)
theorem VL(v:List Vl):lD v=M9 (cv v):=by unfold lD;cases cv v<;>rfl
section
variable [bq]
abbrev atR(o:Sm×Bool):AV:=.aA [.agg (nS_ o.1),b_ o.2]
theorem Ni(v:List Vl)(hv:v.length<2^30):bn p_ 104 [.sl 6 (cA v)] (atR (lD v)):=by
 refine (Yw _).bj (by simp[lj]) (by simp only[aV,Aw.Pure,and_true];exact jL _) ?_;unfold Sb;refine bW (cs:=nS_ cO) (n:=0) (h':=[cT cO]) rfl rfl rfl rfl (bf rfl (bW (cs:=[.sl 6 (cA v),i_ 0]) (n:=1) (h':=[cT cO,LW v 0]) rfl rfl rfl rfl ?_));obtain⟨h,hh⟩:∃h,h=[cT cO,LW v 0]:=⟨_,rfl⟩;have rd0:h[1]?=some (dB v v):=by rw[hh];simp
 have z0:h[0]?=some (cT cO):=by rw[hh];rfl
 have l0:h.length=2:=by rw[hh];rfl
 rw[←hh];clear hh
 -- what is handed back
 have retB:∀(H:aa) (B:Nat) (s:Sm) (r:List Vl) (b:Bool),lK v H B s r→(s,b)=lD v→ak true 9 (.op B 0) H fun v21=>ao 9 (.op 0 0) v21 H fun g=>ak true 9 (.op 0 0) g fun r=>dK (atR (lD v)) (.aA [r,b_ b]) g:=by
  intro H B s r b a e;refine kC a.x (um (K:=fun r g=>dK (atR (lD v)) (.aA [r,b_ b]) g) a.z ?_);rw[←e];exact .pure (by simp only[aV,Aw.Pure,and_true];exact jL _) rfl
 refine my rd0 (List.suffix_refl _) rfl hv fun H1 m1=>?_;have s1:=lz v;have l1:=m1.len;have z1:H1[0]?=some (cT cO):=by rw[m1.other (by omega) (by decide)];exact z0
 have hat:=VL v;obtain⟨r1,hr1⟩:∃r1,cv v=r1:=⟨_,rfl⟩;rw[hr1]at m1 s1 hat;refine nj (n:=0) (m1.at (by omega)) s1 rfl (by omega) fun H2 m2=>?_;have m2:=m1.trans (by omega) m2;have z2:H2[0]?=some (cT cO):=by rw[m2.other (by omega) (by decide)];exact z0
 have l2:=m2.len;refine VA (uCon (jf _) ?_);have em:(cd r1 0).t.map dF=bT (cd r1 0).t:=rfl;rw[em];refine bf (cs:=nS_ (eD (bT (cd r1 0).t) 0 [] false)) rfl (bW (cs:=nS_ cO) (n:=H2.length) (h':=H2++[cT cO]) rfl rfl rfl rfl (aX (cs:=nS_ (eD (bT (cd r1 0).t) 0 [] false)) (h':=H2++[cT (eD (bT (cd r1 0).t) 0 [] false)]) rfl (b:=⟨46,nS_ cO,true⟩) (by simp) rfl rfl (by simp[fF]) rfl rfl (by rw[IF _ _ (bY _)];simp;rfl) ?_));have a2:lK v (H2++[cT (eD (bT (cd r1 0).t) 0 [] false)]) H2.length (eD (bT (cd r1 0).t) 0 [] false) r1:=⟨by rw[gO (by omega)];exact z2,by rw[gO (by omega)];exact m2.at (by omega),by simp,by omega,s1⟩;obtain⟨B,hB⟩:∃B,H2.length=B:=⟨_,rfl⟩;obtain⟨H3,h3⟩:∃H3,H2++[cT (eD (bT (cd r1 0).t) 0 [] false)]=H3:=⟨_,rfl⟩;rw[hB,h3]at a2;rw[hB,h3];clear h3 hB m1 m2 z1 z2 l1 l2;refine nj (n:=0) a2.rd s1 rfl (by omega) fun H4 m4=>?_;have a4:=a2.mo m4 s1;refine PM (zzH ?_);cases r1 with
 | nil=>exact zzL rfl (retB _ _ _ _ _ a4 (by rw[hat];rfl))
 | cons t r =>
   by_cases c1:t.kind=1
   ·rw[M9,if_pos c1]at hat;refine zzK (by show (!decide (t.kind=1))=false;simp[c1]) (qY a4.rd s1 (by omega) ?_);have sr:=(List.suffix_cons t r).trans s1;have a5:=a4.mo (Mo.set 1 (dB v r) H4) sr;refine my a5.rd sr rfl hv fun H6 m6=>?_;have s2:=(lz r).trans sr;have a6:=a5.mo m6 s2;obtain⟨r2,hr2⟩:∃r2,cv r=r2:=⟨_,rfl⟩;rw[hr2]at hat s2 a6;refine BB a6.rd s2 rfl ?_;obtain⟨n,hn⟩:∃n,bT (cd (t:: r) 0).t=n:=⟨_,rfl⟩;have hn':bT t.text=n:=hn;rw[hn]at a6;rw[hn']at hat;cases r2 with
    | nil=>exact zzL rfl (retB _ _ _ _ _ a6 (by rw[hat];rfl))
    | cons t2 r3 =>
      refine zzK rfl ?_;have s3:=(List.suffix_cons t2 r3).trans s2;refine cP (fun s H=>s=[]∧∃o r4,lK v H B (eD n o [] false) r4∧lD v=yT n o (cv r4)) ?_ ?_
      ·rintro _ H ⟨rfl,o,r4,a,hat⟩;refine my a.rd a.sf rfl hv fun H7 m7=>?_;have s5:=(lz r4).trans a.sf;have a7:=a.mo m7 s5;obtain⟨r5,hr5⟩:∃r5,cv r4=r5:=⟨_,rfl⟩;rw[hr5]at hat s5 a7;refine nj (n:=0) a7.rd s5 rfl (by omega) fun H8 m8=>?_;have a8:=a7.mo m8 s5;refine jx ?_;have hT:(H8++[aL.ah ⟨70,(cd r5 0).row,true⟩])[H8.length]?=some (.ah ⟨70,(cd r5 0).row,true⟩):=by simp
       have a9:=a8.app [aL.ah ⟨70,(cd r5 0).row,true⟩];obtain⟨T,hTl⟩:∃T,H8.length=T:=⟨_,rfl⟩;obtain⟨H9,h9⟩:∃H9,H8++[aL.ah ⟨70,(cd r5 0).row,true⟩]=H9:=⟨_,rfl⟩;have hTB:T≠B:=by have:=a8.lt;omega
       rw[h9,hTl]at hT;rw[h9]at a9;rw[hTl,h9];clear h9 hTl m8 m7;refine zzA (zzU hT rfl (zzH ?_));have bad:lD v=(eD n o [] false,false)→ak true 9 (.op B 0) H9 fun v21=>ao 9 (.op 0 0) v21 H9 fun g=>ak true 9 (.op 0 0) g fun r=>dK (atR (lD v)) (.aA [r,ff]) g:=fun e=>retB _ _ _ _ _ a9 e.symm;refine mq (!decide ((cd r5 0).k=1)&&!decide ((cd r5 0).k=5)) rfl (fun z=>by rw[z];rfl) (fun z F hF=>?_) (fun s hs=>lh hs ?_)
       ·refine zzA (zzU hT rfl (zzH (aq ?_)));rw[z,Bool.true_and]at hF;exact hF
       by_cases c2:(cd r5 0).k=1∨(cd r5 0).k=5
       ·have c3:(!decide ((cd r5 0).k=1)&&!decide ((cd r5 0).k=5))=false:=by rcases c2 with z|z<;>simp[z]
        refine zzK c3 ?_;cases r5 with
        | nil=>exact absurd c2 (by decide)
        | cons t5 r6 =>
          have c2:t5.kind=1∨t5.kind=5:=c2;rw[yT,if_pos c2]at hat;refine zzA (zzU hT rfl (zzA ?_));refine a9.stV fun a10=>?_;have s6:=(List.suffix_cons t5 r6).trans s5;refine qY a10.rd s5 (by omega) ?_;have a11:=a10.mo (Mo.set 1 (dB v r6) _) s6;refine my a11.rd s6 rfl hv fun H12 m12=>?_;have s7:=(lz r6).trans s6;have a12:=a11.mo m12 s7;obtain⟨r7,hr7⟩:∃r7,cv r6=r7:=⟨_,rfl⟩;rw[hr7]at hat s7 a12;obtain⟨w,hw⟩:∃w,t5.text=w:=⟨_,rfl⟩;have hw':(cd (t5:: r6) 0).t=w:=hw;rw[hw']at a12;rw[hw]at hat;refine nj (n:=0) a12.rd s7 rfl (by omega) fun H13 m13=>?_;have a13:=a12.mo m13 s7;refine jx ?_;have hU:(H13++[aL.ah ⟨70,(cd r7 0).row,true⟩])[H13.length]?=some (.ah ⟨70,(cd r7 0).row,true⟩):=by simp
          have a14:=a13.app [aL.ah ⟨70,(cd r7 0).row,true⟩];obtain⟨U,hUl⟩:∃U,H13.length=U:=⟨_,rfl⟩;obtain⟨H14,h14⟩:∃H14,H13++[aL.ah ⟨70,(cd r7 0).row,true⟩]=H14:=⟨_,rfl⟩;have hUB:U≠B∧U≠1:=by have:=a13.lt;have:=a13.b;omega
          rw[h14,hUl]at hU;rw[h14]at a14;rw[hUl,h14];clear h14 hUl m13 m12;refine zzA (zzU hU rfl (zzG ?_));have last:(cd r7 0).k≠1→lD v=(eD n o w false,r7.isEmpty)→ak true 9 (.op B 0) H14 fun v155=>wA p_ (.fn (.func 79) [] []) [.op 1 0] H14 fun v156=>ao 9 (.op 0 0) v155 H14 fun g157=>ak true 9 (.op 0 0) g157 fun r158=>dK (atR (lD v)) (.aA [r158,v156]) g157:=by
           intro _ e;refine kC a14.x ?_;refine⟨_,BB a14.rd s7 rfl ⟨rfl,rfl⟩, ?_⟩;refine um (K:=fun r g=>dK (atR (lD v)) (.aA [r,b_ r7.isEmpty]) g) a14.z ?_;rw[e];exact .pure (by simp only[aV,Aw.Pure,and_true];exact jL _) rfl
          cases r7 with
          | nil=>exact zzK rfl (last (by decide) (by rw[hat];rfl))
          | cons f r8 =>
            by_cases c4:f.kind=1
            ·rw[G4,if_pos c4]at hat;refine zzL (oF c4) ?_;have s8:=(List.suffix_cons f r8).trans s7;refine qY a14.rd s7 (by omega) ?_;have a15:=a14.mo (Mo.set 1 (dB v r8) _) s8;have hU15:(H14.set 1 (dB v r8))[U]?=some (.ah ⟨70,(cd (f:: r8) 0).row,true⟩):=by rw[iF (Ne.symm hUB.2)];exact hU
             refine my a15.rd s8 rfl hv fun H16 m16=>?_;have s9:=(lz r8).trans s8;have a16:=a15.mo m16 s9;have hU16:H16[U]?=some (.ah ⟨70,(cd (f:: r8) 0).row,true⟩):=by rw[m16.other (eQ.1 hU15).1 hUB.2];exact hU15
             obtain⟨r9,hr9⟩:∃r9,cv r8=r9:=⟨_,rfl⟩;rw[hr9]at hat s9 a16;refine zzA (zzU hU16 rfl (uCon (sN _ [105]) ?_));have ei:decide ((cd (f:: r8) 0).t.map dF=([105]:af).map dF)=decide (bT f.text=[105]):=rfl;rw[ei];refine zzA ?_;refine a16.stF fun a17=>?_;obtain⟨H17,h17⟩:∃H17,H16.set B (cT (eD n o w (decide (bT f.text=[105]))))=H17:=⟨_,rfl⟩;have hU17:H17[U]?=some (.ah ⟨70,(cd (f:: r8) 0).row,true⟩):=by rw[←h17,iF (Ne.symm hUB.1)];exact hU16
             rw[h17]at a17 ⊢;clear h17;refine kC a17.x ?_;refine⟨_,BB a17.rd s9 rfl ⟨rfl,rfl⟩, ?_⟩;have fin:∀b,b=(r9.isEmpty&&(decide (bT f.text=[105])||decide (bT f.text=[115])))→ao 9 (.op 0 0) (.agg (nS_ (eD n o w (decide (bT f.text=[105]))))) H17 fun g153=>ak true 9 (.op 0 0) g153 fun r154=>dK (atR (lD v)) (.aA [r154,b_ b]) g153:=by
              intro b e;refine um (K:=fun r g=>dK (atR (lD v)) (.aA [r,b_ b]) g) a17.z ?_;rw[e,hat];exact .pure (by simp only[aV,Aw.Pure,and_true];exact jL _) rfl
             refine aH ?_;cases r9 with
             | cons x9 r10 =>
               refine jX rfl (aH (dc rfl (aH (jX rfl (zzQ ?_)))));exact fin false rfl
             | nil =>
               refine jk rfl (zzA (zzU a17.x rfl (aH ?_)))
               by_cases c5:bT f.text=[105]
               ·refine jX (by simp[nx,c5]) (aH (jk rfl (aM (by simp[nx,c5]) (zzR ?_))));exact fin true (by simp[c5])
               ·refine jk (by simp[nx,c5]) (zzA (zzU hU17 rfl ?_));refine⟨_,uCon (sN _ [115]) ⟨rfl,rfl⟩, ?_⟩;have es:decide ((cd (f:: r8) 0).t.map dF=([115]:af).map dF)=decide (bT f.text=[115]):=rfl;rw[es];refine aH (jk rfl (aO (by simp[nx,c5]) (zzR ?_)));exact fin _ (by simp[nx,c5])
            ·rw[G4,if_neg c4]at hat;exact zzK (nO c4) (last c4 hat)
       ·have c3:(!decide ((cd r5 0).k=1)&&!decide ((cd r5 0).k=5))=true:=by simp only[not_or]at c2;simp[c2]
        refine zzL c3 (bad ?_);rw[hat];cases r5 with
        | nil=>rfl
        | cons t5 r6 =>
          have c2:¬(t5.kind=1∨t5.kind=5):=c2;rw[yT,if_neg c2]
      ·intro F hF;refine BA (c:=61) a6.rd s2 rfl hv (fun r' H7 e m7=>?_) (fun H7 e m7=>?_)
       ·obtain⟨y,hy,_⟩:=uT e;have s':r' <:+ v:=List.IsSuffix.trans (by rw[hy];exact List.suffix_cons _ _) s2;have a7:=a6.mo m7 s';refine zzL rfl (zzA ?_);refine a7.st fun a8=>?_;refine aq ?_;refine hF _ _ ⟨rfl,1,r',a8, ?_⟩;rw[hat,qz,e]
       ·have a7:=a6.mo m7 s2;refine zzK rfl ?_;rw[qz,e]at hat;dsimp only at hat;refine nj (n:=0) a7.rd s2 rfl (by omega) fun H8 m8=>?_;have a8:=a7.mo m8 s2;refine jx ?_;have hT:(H8++[aL.ah ⟨70,(cd (t2:: r3) 0).row,true⟩])[H8.length]?=some (.ah ⟨70,(cd (t2:: r3) 0).row,true⟩):=by simp
        have a9:=a8.app [aL.ah ⟨70,(cd (t2:: r3) 0).row,true⟩];obtain⟨T,hTl⟩:∃T,H8.length=T:=⟨_,rfl⟩;obtain⟨H9,h9⟩:∃H9,H8++[aL.ah ⟨70,(cd (t2:: r3) 0).row,true⟩]=H9:=⟨_,rfl⟩;rw[h9,hTl]at hT;rw[h9]at a9;rw[hTl,h9];clear h9 hTl m8 m7;refine zzA (zzU hT rfl (cB (by kernel_rfl) rfl (BK po t2.text (by decide) H9) ?_));rintro _ _ ⟨rfl,rfl⟩;have hi:=index_le po t2.text;have hi5:(po.length:Int)=5:=rfl;refine zzA (zzU hT rfl (zzH ?_));refine mJ (!decide (t2.kind=9)||decide (Lib.index po t2.text<0)) rfl (fun z=>by rw[show (!decide (t2.kind=9))=true from z];rfl) (fun z F2 hF2=>?_) (fun s hs=>lH hs ?_)
        ·refine zzC (aq ?_);rw[show (!decide (t2.kind=9))=false from z,Bool.false_or]at hF2;exact hF2
        by_cases c2:t2.kind=9∧0≤Lib.index po t2.text
        ·rw[if_pos c2]at hat;refine zzK (by simp[c2.1];omega) (qY a9.rd s2 (by omega) ?_);have a10:=a9.mo (Mo.set 1 (dB v r3) _) s3;refine BA (c:=61) a10.rd s3 rfl hv (fun r' H11 e2 m11=>?_) (fun H11 e2 m11=>?_)
         ·obtain⟨y,hy,_⟩:=uT e2;have s':r' <:+ v:=List.IsSuffix.trans (by rw[hy];exact List.suffix_cons _ _) s3;have a11:=a10.mo m11 s';refine zzO (zzK rfl (fk (m:=Lib.index po t2.text) rfl (by rw[IntKind.wrap_u8];omega) (xp (c:=2+Lib.index po t2.text) (by decide) rfl rfl (by rw[IntKind.wrap_u8];omega) (zzA ?_))));refine a11.st fun a12=>?_;refine aq ?_;refine hF _ _ ⟨rfl,_,r',a12, ?_⟩;rw[hat,e2]
         ·have a11:=a10.mo m11 s3;refine zzO ?_;exact zzL rfl (retB _ _ _ _ _ a11 (by rw[hat,e2]))
        ·rw[if_neg c2]at hat;refine zzL ?_ (retB _ _ _ _ _ a9 (by rw[hat]))
         by_cases c3:t2.kind=9
         ·have:Lib.index po t2.text<0:=by
           rcases Int.lt_or_le (Lib.index po t2.text) 0 with z|z
           ·exact z
           ·exact absurd ⟨c3,z⟩ c2
          simp[this]
         ·simp[c3]
   ·rw[M9,if_neg c1]at hat;exact zzL (by show (!decide (t.kind=1))=true;simp[c1]) (retB _ _ _ _ _ a4 (by rw[hat];rfl))
end
end
section
open Go Go.Aw
variable [Laid]
def SE(x0 x1:AV)(h:aa)(K:AV→aa→Prop):Prop:=
 bu x0 fun c=>bL [i_ 0] h fun d a b =>
 ae .lss (nx a 0) c fun e=>ag e (aQ 1 x0 (nx a 0) fun f=>ak false 1 f b fun g=>ae .eql x1 g fun i=>ag i (K (nx a 0) b) (qBe .add (nx a 0) 1 fun j=>eC [x0,x1,c] (d [j] b))) (K (i_ (-1)) b)
theorem YW(x0 x1:AV):Body p_ 143 [x0,x1] (SE x0 x1):=bB Tryz.func143 (sn (.seq (sn (.one (.loop [0,1,7] [8] .nil))) .nil)) 19 [.tmp 4]
def SO(x0 x1:AV)(h:aa)(K:AV→aa→Prop):Prop:=
 bu x0 fun c=>bL [i_ 0] h fun e a b =>
 ae .lss (nx a 0) c fun f=>ag f (aQ 6 x0 (nx a 0) fun g=>ak true 6 g b fun i=>bz p_ x1 [i] b fun j d=>ag j (K (nx a 0) d) (qBe .add (nx a 0) 1 fun k=>eC [x0,x1,c] (e [k] d))) (K (i_ (-1)) b)
theorem Y6(x0 x1:AV):Body p_ 174 [x0,x1] (SO x0 x1):=bB Tryz.func174 (sn (.seq (sn (.one (.loop [0,1,7] [8] .nil))) .nil)) 19 [.tmp 4]
end
section
open Go Go.Aw Go.fg Go.RowKit
open Go.bG hiding u1 af
abbrev Me(l:List af):List (List AV):=l.map fun s=>[.str s]
theorem vR:∀l:List af,cF (Me l)
 | []=>by simp[cF]
 | s:: l=>by
   have:=vR l;show cF ([.str s]:: Me l);simp[cF,aV,Aw.Pure,this]
theorem QG{l:List af}{s:af}{k:Nat}(h:l[k]?=some s)(hb:∀j,j<k→l[j]?≠some s):kM l s=k:=by
 have hk:=(eQ.1 h).1;have:l.idxOf? s=some k:=by
  unfold List.idxOf?;rw[List.findIdx?_eq_some_iff_getElem];refine⟨hk,by simpa using (eQ.1 h).2,fun j hj=>?_⟩;have:=hb j hj;rw[dO (by omega)]at this;simpa using this
 unfold kM;rw[this]
theorem QH{l:List af}{s:af}(hb:∀j,j<l.length→l[j]?≠some s):kM l s=-1:=by
 have:l.idxOf? s=none:=by
  unfold List.idxOf?;rw[List.findIdx?_eq_none_iff];intro x hx;obtain⟨j,hj,rfl⟩:=List.getElem_of_mem hx;have:=hb j hj;rw[dO hj]at this;simpa using this
 unfold kM;rw[this]
theorem HI(l:List af)(s:af):-1≤kM l s∧kM l s<l.length:=by
 unfold kM;cases h:l.idxOf? s with
 | none=>simp;omega
 | some k =>
   unfold List.idxOf? at h;rw[List.findIdx?_eq_some_iff_getElem]at h;obtain⟨hk,_⟩:=h;simp;omega
section
variable [Laid]
theorem Ez(l:List af)(s:af)(hl:l.length<2^40):bn p_ 143 [.sl 1 (Me l),.str s] (i_ (kM l s)):=by
 refine (YW _ _).bj (by simp only[aV,Aw.Pure,and_true];exact vR l) (by simp) ?_;unfold SE;refine zzf (n:=l.length) (by simp) fun _=>?_;refine bc (α:=Nat) (fun k=>k≤l.length∧∀j,j<k→l[j]?≠some s) (fun k=>[i_ k]) (fun _=>[]) (fun k=>l.length-k) 0 ⟨aaO _,fun j z=>absurd z (aaP _)⟩ (Wk.refl _ _ _ (bY _)) ?_;rintro k ⟨hk,hb⟩;refine zzC ?_;rcases uP k l.length with q|q
 ·obtain⟨y,hy⟩:∃y,l[k]?=some y:=⟨_,dO q⟩;refine zzL (oF (by omega)) (zzb rfl rfl hy (zzW (zzI ?_)))
  by_cases e:s=y
  ·subst e;refine zzL (oF rfl) ?_;rw[QG hy hb];exact .pure (by simp) rfl
  ·refine zzK (nO e) (zzP (by unfold aJ;omega) (aq ?_));refine⟨k+1,⟨q,fun j hj=>?_⟩,Wk.refl _ _ _ (bY _),by omega⟩;rcases uP j k with z|z
   ·exact hb j z
   ·obtain rfl:j=k:=by omega
    rw[hy];exact fun z=>e (DO z).symm
 ·obtain rfl:k=l.length:=by omega
  refine zzK (by simp) ?_;rw[QH hb];exact .pure (by simp) rfl
theorem CT:bn p_ 53 [] (.sl 1 (Me dX)):=by
 refine (WV).bj (by simp[aV]) (vR _) ?_;unfold S9;have e:dQ (gQ 11 (bl (.str []))) [(0,1,(.str [108,105,110,107])),(1,1,(.str [118,105,115,105,116,101,100])),(2,1,(.str [97,110,121,45,108,105,110,107])),(3,1,(.str [114,111,111,116])),(4,1,(.str [101,109,112,116,121])),(5,1,(.str [110,116,104,45,99,104,105,108,100])),(6,1,(.str [110,116,104,45,108,97,115,116,45,99,104,105,108,100])),(7,1,(.str [105,115])),(8,1,(.str [119,104,101,114,101])),(9,1,(.str [110,111,116])),(10,1,(.str [104,97,115]))]=some (dX.map fun s=>.str s):=rfl;unfold br;rw[e];show dK _ (.sl 1 (Me dX)) _;exact .pure (vR dX) rfl
end
variable [bq]
theorem Nt(y:Vl):bn p_ 175 [.agg (jt y)] (b_ (jb y)):=by
 refine (Y7 _).bj (by simp only[aV,Aw.Pure,and_true];exact Pw y) (by simp) ?_;unfold SP;have hsc:(jt y).all bQ=true:=by rw[lq];simp[bQ]
 refine bW (cs:=jt y) (n:=0) (h':=[.ah ⟨74,jt y,true⟩]) rfl hsc rfl rfl ?_;have h0:(jt y)[0+0+0]?=some (u8 y.kind):=by rw[lq];rfl
 have h1:(jt y)[0+0+1]?=some (.str y.text):=by rw[lq];rfl
 refine zzA (zzA (zzU (b:=⟨74,jt y,true⟩) rfl h0 (zzG (aH ?_))))
 by_cases c:y.kind=1
 ·refine zzN (oF c) (zzA (zzA (zzU (b:=⟨74,jt y,true⟩) rfl h1 (uCon (sN _ [111,102]) (zzR (.pure (by simp) ?_))))));have:decide (y.text.map bG.dF=([111,102]:af).map bG.dF)=jb y:=by unfold jb;rw[oF c,Bool.true_and];rfl
  rw[←this];rfl
 ·refine zzM (nO c) (aO (by simp[c]) (.pure (by simp) ?_));unfold jb;rw[nO c];rfl
def ofI(v:List Vl):Int:=match v.findIdx? jb with|some i=>(i:Int)|none=>-1
theorem Qa(v:List Vl)(hl:v.length<2^40):bn p_ 174 [.sl 6 (cA v),.fn (.func 175) [] []] (i_ (ofI v)):=by
 refine (Y6 _ _).bj (by simp[aV,Aw.Pure,lj]) (by simp) ?_;unfold SO;refine zzf (n:=v.length) (by simp[eg]) fun _=>?_;refine bc (α:=Nat) (fun k=>k≤v.length∧∀j y,j<k→v[j]?=some y→jb y=false) (fun k=>[i_ k]) (fun _=>[]) (fun k=>v.length-k) 0 ⟨aaO _,fun j y z=>absurd z (aaP _)⟩ (Wk.refl _ _ _ (bY _)) ?_;rintro k ⟨hk,hb⟩;refine zzC ?_;rcases uP k v.length with q|q
 ·obtain⟨y,hy⟩:∃y,v[k]?=some y:=⟨_,dO q⟩;refine zzL (oF (by omega)) (zzb (eg v) rfl hy (zzY (by simp[lq]) (uCon (Nt y) ?_)));cases c:jb y with
  | true =>
    refine zzL rfl ?_;have:v.findIdx? jb=some k:=by
     rw[List.findIdx?_eq_some_iff_getElem];refine⟨q,by rw[(eQ.1 hy).2];exact c,fun j hj=>?_⟩;have:=hb j v[j] hj (dO (by omega));rw[this];decide
    unfold ofI;rw[this];exact .pure (by simp) rfl
  | false =>
    refine zzK rfl (zzP (by unfold aJ;omega) (aq ?_));refine⟨k+1,⟨q,fun j z hj hz=>?_⟩,Wk.refl _ _ _ (bY _),by omega⟩;rcases uP j k with w|w
    ·exact hb j z w hz
    ·obtain rfl:j=k:=by omega
     rw[hy]at hz;cases hz;exact c
 ·obtain rfl:k=v.length:=by omega
  refine zzK (by simp) ?_;have:v.findIdx? jb=none:=by
   rw[List.findIdx?_eq_none_iff];intro y hy;obtain⟨j,hj,rfl⟩:=List.getElem_of_mem hy;exact hb j _ hj (dO hj)
  unfold ofI;rw[this];exact .pure (by simp) rfl
theorem Nz(s:af):bn p_ 106 [.str s] (atR (mr s)):=by
 refine (Yy _).bj (by simp) (by simp only[aV,Aw.Pure,and_true];exact jL _) ?_;unfold Se;refine bW (cs:=nS_ cO) (n:=0) (h':=[cT cO]) rfl rfl rfl rfl ?_;have ret:∀(s':Sm) (b:Bool),(s',b)=mr s→ao 9 (.op 0 0) (.agg (nS_ s')) [cT cO] fun g=>ak true 9 (.op 0 0) g fun r=>dK (atR (mr s)) (.aA [r,b_ b]) g:=by
  intro s' b e;refine um (K:=fun r g=>dK (atR (mr s)) (.aA [r,b_ b]) g) rfl ?_;rw[←e];exact .pure (by simp only[aV,Aw.Pure,and_true];exact jL _) rfl
 refine uCon (jf s) ?_;have em:s.map dF=bT s:=rfl;rw[em];refine zzI ?_
 by_cases c1:bT s=[102,105,114,115,116,45,99,104,105,108,100]
 ·refine zzL (oF c1) (bf rfl (bf (cs:=nS_ (.mk 9 [] 0 [] false 0 1 false [])) rfl ?_));exact ret _ true (by unfold mr;rw[if_pos c1])
 refine zzK (nO c1) (zzI ?_)
 by_cases c2:bT s=[108,97,115,116,45,99,104,105,108,100]
 ·refine zzL (oF c2) (bf rfl (bf (cs:=nS_ (.mk 10 [] 0 [] false 0 1 false [])) rfl ?_));exact ret _ true (by unfold mr;rw[if_neg c1,if_pos c2])
 refine zzK (nO c2) ?_;have hw:mr s=(dt (4+max (kM dX (bT s)) 0) [],decide (0≤kM dX (bT s))&&decide (kM dX (bT s)<5)):=by unfold mr;rw[if_neg c1,if_neg c2]
 refine uCon CT (uCon (jf s) ?_);rw[em];refine uCon (Ez dX (bT s) (by decide)) ?_;have hi:=HI dX (bT s);have h11:(dX.length:Int)=11:=rfl;obtain⟨i,he⟩:∃i,kM dX (bT s)=i:=⟨_,rfl⟩;rw[he]at hw hi ⊢;refine zzc (fk (m:=max i 0) rfl (by rw[IntKind.wrap_u8];omega) (xp (c:=4+max i 0) (by decide) rfl rfl (by rw[IntKind.wrap_u8];omega) (bf (cs:=nS_ (dt (4+max i 0) [])) rfl (zzF ?_))));refine mq (decide (0≤i)&&decide (i<5)) rfl (fun z=>by rw[z];rfl) (fun z F hF=>?_) (fun s hs=>lh hs ?_)
 ·refine zzC (aq ?_);rw[z,Bool.true_and]at hF;exact hF
 exact ret _ _ hw.symm
end
end Go.Proofs.YtpcnidmmkknndaaGreatDoor
section
namespace Go.bG
open Go Go.Aw
def A0(k:Int):Bool:=!(eK k||decide (k=13)||decide (k=14))
def iw(d:Nat)(has:Bool)(k:Int):Bool:=!(decide (d=3)||has&&decide (k=14))
def fi{α:Type}(p:α→Bool):List α→Nat→Int
 | [],_=>-1
 | x:: l,k=>if p x then (k:Int) else fi p l (k+1)
theorem u7{α:Type}(p:α→Bool):∀(l:List α) (k:Nat),decide (0≤fi p l k)=l.any p
 | [],k=>by simp[fi]
 | x:: l,k=>by
   rw[fi,List.any_cons,←u7 p l (k+1)];cases p x<;>simp
theorem y9{α:Type}(p:α→Bool){l:List α}{k:Nat}{x:α}(h:l[k]?=some x):fi p (l.drop k) k=if p x then (k:Int) else fi p (l.drop (k+1)) (k+1):=by
 have hk:=(eQ.1 h);rw[aba hk.1,fi,hk.2]
end Go.bG
namespace Go.Proofs.YtpcnidmmkknndaaGreatDoor
open Go Go.Aw Go.bG
variable [Laid]
theorem CS(k:Int)(n:af)(o:Int)(v:af)(f:Bool)(a b:Int)(w:Bool)(rows:List (List AV))(pr:cF rows):bn p_ 109 [.agg [u1 k,.str n,u1 o,.str v,b_ f,i_ a,i_ b,b_ w,.sl 3 rows]] (.aA [b_ (gw k w),b_ (A0 k)]):=by
 refine (YC _).bj (by simp[pr]) (by simp) ?_;unfold Si;repeat' (first|(with_reducible apply aH)|(with_reducible apply aq)|((with_reducible apply bR);rfl;rfl)|((with_reducible apply ax);rfl;first|rfl|assumption)|((with_reducible apply aK);rfl)|((with_reducible apply aF);rfl;rfl;rfl)|((with_reducible apply fq);first|rfl|simp)|((with_reducible apply ct);rfl)|(with_reducible intro _))
 all_goals refine .pure (by simp) ?_
 all_goals simp_all [gw,A0,eK]
 all_goals grind
theorem AK(d:Nat)(has:Bool)(k:Int)(hd:d≤3):bn p_ 110 [.agg [i_ d,b_ has],u1 k] (.aA [.agg (if iw d has k then [i_ (d+1),b_ (has||decide (k=14))] else [i_ 0,ff]),b_ (iw d has k)]):=by
 refine (YD _ _).bj (by simp) (by split<;>simp) ?_;unfold Sk;have hin:aJ ((d:Int)+1):=by unfold aJ;omega
 repeat' (first|(with_reducible apply aH)|(with_reducible apply aq)|((with_reducible apply bR);rfl;rfl)|((with_reducible apply cg);rfl;rfl;first|assumption|(unfold aJ;omega))|((with_reducible apply aM);rfl)|((with_reducible apply aO);rfl)|((with_reducible apply ax);rfl;first|rfl|assumption)|((with_reducible apply ay);rfl;first|rfl|assumption)|((with_reducible apply bt);rfl;first|rfl|assumption)|((with_reducible apply bw);rfl;first|rfl|assumption)|((with_reducible apply dc);rfl)|((with_reducible apply aK);rfl)|((with_reducible apply aF);rfl;rfl;rfl)|((with_reducible apply dn);rfl;rfl;first|exact bY _|exact lT rfl)|((with_reducible apply fq);first|rfl|simp)|((with_reducible apply dP);rfl;rfl;rfl;rfl;(first|exact bY _|simp);(first|rfl|simp);(first|rfl|simp))|((with_reducible apply bf);rfl)|((with_reducible apply ct);rfl)|((with_reducible apply cE);rfl)|(with_reducible intro _))
 all_goals refine .pure (by simp) ?_
 all_goals simp_all [iw,bZ]
 all_goals grind
theorem Jq(xs:List Cx)(f:FuncId)(caps:List AV)(p:Cx→Bool)(pc:aV caps)(hb:dr p_ f=true)(hf:∀x∈xs,bn p_ f ([.agg (fZ x)]++caps) (b_ (p x))):
 bn p_ 47 [.sl 3 (bC xs),.fn (.func f) [] caps] (i_ (fi p xs 0)):=by
 refine (V47 _ _).bj (by simp[fG,pc]) (by simp) ?_;unfold XD;refine zzf (n:=xs.length) (by simp[ck]) fun hm=>?_;refine bc (α:=Nat) (fun k=>k≤xs.length∧fi p xs 0=fi p (xs.drop k) k) (fun k=>[i_ k]) (fun _=>[]) (fun k=>xs.length-k) 0 (by simp) (Wk.refl _ _ _ (by simp)) ?_;rintro k ⟨hk,hI⟩;rcases uP k xs.length with q|q
 ·obtain⟨x,hx⟩:∃x,xs[k]?=some x:=⟨xs[k],dO q⟩;have hin:aJ ((k:Int)+1):=by unfold maxLen at hm;unfold aJ;omega
  rw[y9 p hx]at hI;refine zzC (zzL (by simpa using q) (zzb (ck xs) rfl hx (zzY (by simp[iL]) ?_)));refine⟨hb, ?_⟩;refine (hf x (gE hx)).call ?_;cases hp:p x
  ·refine zzK rfl (zzP hin (aq ?_));refine⟨k+1,⟨q,by rw[hI,hp];rfl⟩,Wk.refl _ _ _ (by simp),by omega⟩
  ·refine zzL rfl ?_;exact .pure (by simp) (by rw[hI,hp];rfl)
 ·refine zzC (zzK (by simpa using q) ?_);exact .pure (by simp) (by rw[hI,List.drop_eq_nil_of_le q];rfl)
theorem wq(xs:List Cx)(f:FuncId)(caps:List AV)(p:Cx→Bool)(pc:aV caps)(hb:dr p_ f=true)(hf:∀x∈xs,bn p_ f ([.agg (fZ x)]++caps) (b_ (p x))):
 bn p_ 33 [.sl 3 (bC xs),.fn (.func f) [] caps] (b_ (xs.any p)):=by
 refine (V33 _ _).bj (by simp[fG,pc]) (by simp) ?_;unfold Xq;refine uCon (Jq xs f caps p pc hb hf) (zzF ?_);rw[u7];exact .pure (by simp) rfl
theorem Jp(xs:List Cp)(f:FuncId)(caps:List AV)(p:Cp→Bool)(pc:aV caps)(hb:dr p_ f=true)(hf:∀x∈xs,bn p_ f ([.agg (iv x)]++caps) (b_ (p x))):
 bn p_ 80 [.sl 2 (du xs),.fn (.func f) [] caps] (i_ (fi p xs 0)):=by
 refine (V80 _ _).bj (by simp[rZ,pc]) (by simp) ?_;unfold X5;refine zzf (n:=xs.length) (by simp[dq]) fun hm=>?_;refine bc (α:=Nat) (fun k=>k≤xs.length∧fi p xs 0=fi p (xs.drop k) k) (fun k=>[i_ k]) (fun _=>[]) (fun k=>xs.length-k) 0 (by simp) (Wk.refl _ _ _ (by simp)) ?_;rintro k ⟨hk,hI⟩;rcases uP k xs.length with q|q
 ·obtain⟨x,hx⟩:∃x,xs[k]?=some x:=⟨xs[k],dO q⟩;have hin:aJ ((k:Int)+1):=by unfold maxLen at hm;unfold aJ;omega
  rw[y9 p hx]at hI;refine zzC (zzL (by simpa using q) (zzb (dq xs) rfl hx (zzY (by simp[rj]) ?_)));refine⟨hb, ?_⟩;refine (hf x (gE hx)).call ?_;cases hp:p x
  ·refine zzK rfl (zzP hin (aq ?_));refine⟨k+1,⟨q,by rw[hI,hp];rfl⟩,Wk.refl _ _ _ (by simp),by omega⟩
  ·refine zzL rfl ?_;exact .pure (by simp) (by rw[hI,hp];rfl)
 ·refine zzC (zzK (by simpa using q) ?_);exact .pure (by simp) (by rw[hI,List.drop_eq_nil_of_le q];rfl)
theorem DC(xs:List Cp)(f:FuncId)(caps:List AV)(p:Cp→Bool)(pc:aV caps)(hb:dr p_ f=true)(hf:∀x∈xs,bn p_ f ([.agg (iv x)]++caps) (b_ (p x))):
 bn p_ 48 [.sl 2 (du xs),.fn (.func f) [] caps] (b_ (xs.any p)):=by
 refine (V48 _ _).bj (by simp[rZ,pc]) (by simp) ?_;unfold XE;refine uCon (Jp xs f caps p pc hb hf) (zzF ?_);rw[u7];exact .pure (by simp) rfl
end Go.Proofs.YtpcnidmmkknndaaGreatDoor
end
namespace Go.Proofs.YtpcnidmmkknndaaGreatDoor
section
open Go Go.Aw Go.fg Go.RowKit
open Go.bG hiding u1 af
variable{fn:af→List Vl→Sm×Bool}{ss:List Sm}{d:Nat}{has:Bool}{sub:Sub}
def eV(d:Nat)(has:Bool):Sub:=fun kd v rel forg=>if iw d has kd=true then some (nL (3-(d+1)) (has||decide (kd=14)) v rel forg) else none
theorem se(hd:d≤3)(has:Bool)(v:List Vl)(rel forg:Bool):nL (3-d) has v rel forg=ib (mO (mP (eV d has)) (cZ d has) rel) forg (eZ v) []:=by
 by_cases h:d=3
 ·subst h;have:eV 3 has=fun _ _ _ _=>none:=by
   funext kd v rel forg
   unfold eV iw;simp
  rw[this];rfl
 ·obtain⟨k,hk⟩:∃k,3-d=k+1:=⟨3-d-1,by omega⟩;have hs:(fun kd v rel forg=>if has=true∧kd=14 then none else some (nL k (has||decide (kd=14)) v rel forg))=eV d has:=by
   funext kd v rel forg
   unfold eV iw;have e:3-(d+1)=k:=by omega
   rw[e]
   by_cases q:has=true∧kd=14
   ·rw[if_pos q,if_neg (by simp[q.1,q.2])]
   ·rw[if_neg q,if_pos];cases hb:has with
    | false=>simp[h]
    | true =>
      have:¬kd=14:=fun a=>q ⟨hb,a⟩;simp[h,this]
  rw[hk,nL,hs];have e2:3-(k+1)=d:=by omega
  rw[e2]
/-! ### How great -/
theorem eH(v:Vl)(l:List Vl):bU (v:: l)=zV v+bU l:=by rw[bU]
theorem tA(v:Vl):zV v=1+v.text.length+v.unit.length+bU v.list:=by cases v;rw[zV];rfl
theorem rC{r v:List Vl}(h:r <:+ v):bU r≤bU v:=by
 obtain⟨p,rfl⟩:=h;rw[mL];omega
theorem uH{x:Vl}{v:List Vl}(h:x∈v):zV x≤bU v:=by
 obtain⟨a,b,rfl⟩:=List.append_of_mem h;rw[mL,eH];omega
theorem B7(s:af):(bT s).length=s.length:=by unfold bT;simp
def Ed(sub:Sub):Prop:=∀kd v rel forg r,sub kd v rel forg=some r→cD r.1≤3*bU v
theorem rB(k:Int)(n:af):zS (dt k n)=1+n.length:=by unfold dt;rw[zS,cD];simp
theorem Ut(hs:Ed sub)(k:Int)(v:List Vl):zS (vz sub k v).1≤1+3*bU v:=by
 have hB:∀w l q,zS (rX k w l q).1=1+cD l:=fun w l q=>by
  unfold rX;split
  ·split<;>(rw[zS];simp)
  ·rw[zS];simp
 unfold vz;split
 ·rename_i i _;split
  ·rename_i l h;rw[hB];have:=hs _ _ _ _ _ h;have h2:=rC (List.drop_suffix (i+1) v);dsimp only at this;omega
  ·dsimp only;rw[rB];simp<;>omega
 ·rw[hB];simp[cD]<;>omega
theorem JB(hs:Ed sub)(s:af)(v:List Vl):zS (mP sub s v).1≤1+3*bU v:=by
 unfold mP;dsimp only;split
 ·rw[rB];simp<;>omega
 ·split
  ·exact Ut hs _ v
  ·split
   ·dsimp only;rw[rB];simp<;>omega
   ·rename_i l b h;have:=hs _ _ _ _ _ h;rw[zS];simp at this ⊢;omega
theorem uz(r:List Vl):bU (cv r)≤bU r:=by
 induction r with
 | nil=>exact bY _
 | cons x r ih =>
   rw[cv];split
   ·rw[eH];omega
   ·exact bY _
theorem VM(v:List Vl):zS (lD v).1≤1+2*bU v:=by
 have hA:∀n o w f,zS (eD n o w f)=1+n.length+w.length:=fun n o w f=>by unfold eD;rw[zS,cD];omega
 have h3:∀n o w q,zS (G4 n o w q).1=1+n.length+w.length:=fun n o w q=>by
  cases q with
  | nil=>exact hA _ _ _ _
  | cons f r=>rw[G4];split<;>exact hA _ _ _ _
 have h2:∀n o q,zS (yT n o q).1≤1+n.length+bU q:=fun n o q=>by
  cases q with
  | nil=>rw[yT,hA];simp
  | cons t r =>
    rw[yT];have:=tA t;split
    ·rw[h3,eH];omega
    ·rw[hA];simp<;>omega
 have hb:∀c q r,jq c q=some r→bU r≤bU q:=fun c q r h=>by
  cases q with
  | nil=>cases h
  | cons x q =>
    rw[jq]at h;split at h
    ·cases h;rw[eH];omega
    ·cases h
 have h1:∀n q,zS (qz n q).1≤1+n.length+bU q:=fun n q=>by
  cases q with
  | nil=>rw[qz,hA];simp
  | cons t r =>
    rw[qz];split
    ·rename_i r' e;have:=h2 n 1 (cv r');have:=uz r';have:=hb _ _ _ e;omega
    ·split
     ·split
      ·rename_i r' e;have:=h2 n (2+Lib.index po t.text) (cv r');have:=uz r';have:=hb _ _ _ e;rw[eH];omega
      ·rw[hA];simp<;>omega
     ·rw[hA];simp<;>omega
 unfold lD;have hsk:=uz v;cases e:cv v with
 | nil=>dsimp only;rw[hA];simp<;>omega
 | cons t r =>
   rw[e,eH]at hsk;have:=tA t;dsimp only;split
   ·have h:=h1 (bT t.text) (cv r);have:=uz r;rw[B7]at h;omega
   ·rw[hA,B7];simp<;>omega
theorem WS(s:af):zS (mr s).1=1:=by
 unfold mr;split
 ·rw[zS,cD];rfl
 ·split
  ·rw[zS,cD];rfl
  ·rw[rB];rfl
theorem PD{fn:af→List Vl→Sm×Bool}(hf:∀s v,zS (fn s v).1≤1+3*bU v):∀(n:Nat) (v:List Vl) (ss:List Sm) (r:List Vl),v.length≤n→dy fn v=some (ss,r)→gH ss+3*bU r+(if ss=[] then 0 else 2)≤3*bU v∧r <:+ v
 | n,[],ss,r,_,h=>by rw[dy]at h;cases h;exact⟨by simp[gH],List.suffix_refl _⟩
 | 0,t:: q,ss,r,hn,h=>by simp at hn
 | n+1,t:: q,ss,r,hn,h=>by
   have hzt:=tA t;have step:∀(x:Sm) (q':List Vl),q' <:+ (t:: q)→q'.length≤n→iY x (dy fn q')=some (ss,r)→zS x+2+3*bU q'≤3*bU (t:: q)→gH ss+3*bU r+(if ss=[] then 0 else 2)≤3*bU (t:: q)∧r <:+ (t:: q):=by
    intro x q' hs hl e hz;cases e2:dy fn q' with
    | none=>rw[e2]at e;cases e
    | some y =>
      obtain⟨s2,r2⟩:=y;rw[e2]at e;cases e;have ih:=PD hf n q' s2 r hl e2;rw[if_neg (by simp),gH];exact⟨by omega,ih.2.trans hs⟩
   have hq1:q.length≤n:=by simp at hn;omega
   have hsq:q <:+ (t:: q):=List.suffix_cons _ _;rw[dy.eq_def]at h;dsimp only at h;split at h
   ·split at h
    ·exact step _ q hsq hq1 h (by rw[rB,eH];omega)
    ·cases h
   ·split at h
    ·cases q with
     | nil=>cases h
     | cons u q2 =>
       have hzu:=tA u;dsimp only at h;split at h
       ·exact step _ q2 ((List.suffix_cons _ _).trans hsq) (by simp at hq1;omega) h (by rw[rB,eH,eH];omega)
       ·cases h
    ·split at h
     ·split at h
      ·have:=VM t.list;exact step _ q hsq hq1 h (by rw[eH];omega)
      ·cases h
     ·split at h
      ·cases q with
       | nil=>cases h
       | cons u q2 =>
         have hzu:=tA u;dsimp only at h;have hs2:q2 <:+ (t:: u:: q2):=(List.suffix_cons _ _).trans hsq;split at h
         ·split at h
          ·exact step _ q2 hs2 (by simp at hq1;omega) h (by rw[WS,eH,eH];omega)
          ·cases h
         ·split at h
          ·split at h
           ·have:=hf u.text u.list;exact step _ q2 hs2 (by simp at hq1;omega) h (by rw[eH,eH];omega)
           ·cases h
          ·cases h
      ·cases h;exact⟨by simp[gH],List.suffix_refl _⟩
theorem Et(r:List Vl):(ko r).2 <:+ r:=by
 have hs:∀r:List Vl,cv r <:+ r:=fun r=>by
  induction r with
  | nil=>exact List.suffix_refl _
  | cons x r ih =>
    rw[cv];split
    ·exact ih.trans (List.suffix_cons _ _)
    ·exact List.suffix_refl _
 have key:∀{c:UInt8} {r':List Vl},jq c r=some r'→cv r' <:+ r:=fun {c r'} h=>by
  cases r with
  | nil=>cases h
  | cons x q =>
    rw[jq]at h;split at h
    ·cases h;exact (hs _).trans (List.suffix_cons _ _)
    ·cases h
 unfold ko;split
 ·rename_i h;exact key h
 ·split
  ·rename_i h;exact key h
  ·split
   ·rename_i h;exact key h
   ·exact List.suffix_refl _
theorem Ml(v:List Vl):(eF v).1.length+3*bU (eF v).2+(if (eF v).1=[] then 0 else 2)≤3*bU v∧(eF v).2 <:+ v:=by
 cases v with
 | nil=>exact⟨by simp[eF],List.suffix_refl _⟩
 | cons t r =>
   have hz:=tA t;rw[eF];split
   ·refine⟨?_,List.suffix_cons _ _⟩;dsimp only;rw[B7,eH];split<;>omega
   ·split
    ·rename_i r' e;rw[jq]at e;split at e
     ·rename_i q;cases e;refine⟨?_,List.suffix_cons _ _⟩;dsimp only;have:=congrArg List.length q.2;rw[eH];simp at this ⊢;omega
     ·cases e
    ·exact⟨by simp,List.suffix_refl _⟩
theorem Al(ps:List Cp)(p:Cp):gh (ps++[p])=gh ps+zP p:=by
 induction ps with
 | nil=>simp[gh]
 | cons q ps ih=>rw[abg,gh,gh,ih];omega
theorem vA{t:af}(h:cZ d has (.mk t ss)=true):t≠[]∨ss≠[]:=by
 rw[cZ]at h
 by_cases ht:t=[]
 ·right;intro e;subst ht;subst e;simp at h
 ·exact .inl ht
theorem Pv(hf:∀s v,zS (fn s v).1≤1+3*bU v){v r:List Vl}(h:dy fn (eF v).2=some (ss,r)):zP (.mk (eF v).1 ss)+3*bU r+(if (eF v).1=[]∧ss=[] then 0 else 1)≤3*bU v+1∧r <:+ v∧((eF v).1≠[]∨ss≠[]→zP (.mk (eF v).1 ss)+3*bU r+1≤3*bU v):=by
 obtain⟨h1,h2⟩:=Ml v;obtain⟨h3,h4⟩:=PD hf _ _ _ _ (bY _) h;rw[zP];refine⟨?_,h4.trans h2,fun q=>?_⟩
 ·by_cases a:(eF v).1=[]<;>by_cases b:ss=[]<;>simp only[a,b,if_true,if_false,and_true,true_and,and_false,false_and]at h1 h3⊢<;> omega
 ·by_cases a:(eF v).1=[]
  ·have b:ss≠[]:=q.resolve_left fun z=>z a;rw[if_pos a]at h1;rw[if_neg b]at h3;omega
  ·rw[if_neg a]at h1;omega
theorem AR{fn:af→List Vl→Sm×Bool}(hf:∀s v,zS (fn s v).1≤1+3*bU v){d:Nat}{has:Bool}(lead:Int):∀(n:Nat) (ps:List Cp) (cs:List Int) (v:List Vl),(js fn (cZ d has) lead n ps cs v).2=true→zX (js fn (cZ d has) lead n ps cs v).1≤3*bU v+cs.length+gh ps
 | 0,ps,cs,v,h=>by rw[js]at h;cases h
 | n+1,ps,cs,v,h=>by
   rw[js]at h ⊢;cases e:dy fn (eF v).2 with
   | none=>rw[e]at h;cases h
   | some y =>
     obtain⟨ss,r⟩:=y;rw[e]at h;dsimp only at h ⊢
     by_cases ho:cZ d has (.mk (eF v).1 ss)=true
     ·rw[if_pos ho]at h ⊢;have h1:=(Pv hf e).2.2 (vA ho)
      by_cases q:cv r=[]
      ·rw[if_pos q]at h ⊢;dsimp only;rw[zX,Al];omega
      ·rw[if_neg q]at h ⊢;have hc:=rC (Et (cv r));have hs:=uz r
       by_cases q2:(ko (cv r)).1=0
       ·rw[if_pos q2]at h ⊢
        by_cases q3:(cv r).length=r.length
        ·rw[if_pos q3]at h;cases h
        ·rw[if_neg q3]at h ⊢;have:=AR hf lead n _ _ _ h;rw[Al]at this;simp only[AT,aaB,abd]at this;omega
       ·rw[if_neg q2]at h ⊢;have:=AR hf lead n _ _ _ h;rw[Al]at this;simp only[AT,aaB,abd]at this;omega
     ·rw[if_neg ho]at h;cases h
theorem Pe(hf:∀s v,zS (fn s v).1≤1+3*bU v)(rel:Bool)(v:List Vl)(h:(mO fn (cZ d has) rel v).2=true):zX (mO fn (cZ d has) rel v).1≤3*bU v:=by
 have hs:=uz v;have hc:=rC (Et (cv v));unfold mO at h ⊢;dsimp only at h ⊢;split
 ·rename_i q;rw[if_pos q]at h;have:=AR hf _ _ _ _ _ h;simp[gh]at this;omega
 ·rename_i q;rw[if_neg q]at h;have:=AR hf _ _ _ _ _ h;simp[gh]at this;omega
def wh(l:List (List Vl)):Nat:=(l.map bU).sum
theorem xn:∀v:List Vl,wh (eZ v)≤bU v∧eZ v≠[]
 | []=>by simp[eZ,wh,bU]
 | x:: v=>by
   obtain⟨h1,h2⟩:=xn v;rw[eZ];split
   ·refine⟨?_,by simp⟩;show bU []+wh (eZ v)≤_;rw[eH,bU];omega
   ·cases e:eZ v with
    | nil=>exact absurd e h2
    | cons a t =>
      rw[e]at h1;refine⟨?_,by simp⟩;have h1:bU a+wh t≤bU v:=h1;show bU (x:: a)+wh t≤_;rw[eH,eH];omega
theorem O0(l:List Cx)(x:Cx):cD (l++[x])=cD l+zX x:=by
 induction l with
 | nil=>simp[cD]
 | cons y l ih=>rw[abg,cD,cD,ih];omega
theorem Bq{cp:List Vl→Cx×Bool}(hc:∀v,(cp v).2=true→zX (cp v).1≤3*bU v)(forg:Bool):∀(ps:List (List Vl)) (acc:List Cx),cD (ib cp forg ps acc).1≤cD acc+3*wh ps
 | [],acc=>by rw[ib];simp[wh]
 | p:: ps,acc=>by
   have e:wh (p:: ps)=bU p+wh ps:=rfl;rw[ib];split
   ·rename_i q;have:=Bq hc forg ps (acc++[(cp p).1]);have:=hc p q;rw[O0]at *;omega
   ·split
    ·have:=Bq hc forg ps acc;omega
    ·simp[cD]
theorem Px:∀(k:Nat) (has:Bool) (v:List Vl) (rel forg:Bool),k≤3→cD (nL k has v rel forg).1≤3*bU v:=by
 intro k;induction k with
 | zero =>
   intro has v rel forg _;have h:=se (d:=3) (bY _) has v rel forg;rw[show 3-3=0 from rfl]at h;rw[h];have hsb:Ed (eV 3 has):=fun kd v rel forg r hr=>by unfold eV iw at hr;simp at hr
   have:=Bq (cp:=mO (mP (eV 3 has)) (cZ 3 has) rel) (fun v hv=>Pe (fun s v=>JB hsb s v) rel v hv) forg (eZ v) [];have h2:=(xn v).1;simp[cD]at this;omega
 | succ k ih =>
   intro has v rel forg hk;have h:=se (d:=3-(k+1)) (by omega) has v rel forg;rw[show 3-(3-(k+1))=k+1 by omega]at h;rw[h];have hsb:Ed (eV (3-(k+1)) has):=fun kd v rel forg r hr=>by
    unfold eV at hr;split at hr
    ·cases hr;rw[show 3-(3-(k+1)+1)=k by omega];exact ih _ _ _ _ (by omega)
    ·cases hr
   have:=Bq (cp:=mO (mP (eV (3-(k+1)) has)) (cZ (3-(k+1)) has) rel) (fun v hv=>Pe (fun s v=>JB hsb s v) rel v hv) forg (eZ v) [];have h2:=(xn v).1;simp only[cD,aaQ]at this;omega
theorem Vf(d:Nat)(has:Bool):Ed (eV d has):=fun kd v rel forg r hr=>by
 unfold eV at hr;split at hr
 ·cases hr;exact Px _ _ _ _ _ (by omega)
 ·cases hr
end
end Go.Proofs.YtpcnidmmkknndaaGreatDoor
section
namespace Go.bG
open Go Go.Aw
theorem pC{p:Cp}:∀{l:List Cp},p∈l→zP p≤gh l
 | x:: l,h=>by
   rcases ID.1 h with rfl|h
   ·rw[gh];omega
   ·rw[gh];have:=pC h;omega
theorem pE{p:Sm}:∀{l:List Sm},p∈l→zS p≤gH l
 | x:: l,h=>by
   rcases ID.1 h with rfl|h
   ·rw[gH];omega
   ·rw[gH];have:=pE h;omega
theorem mN{p:Cx}:∀{l:List Cx},p∈l→zX p≤cD l
 | x:: l,h=>by
   rcases ID.1 h with rfl|h
   ·rw[cD];omega
   ·rw[cD];have:=mN h;omega
theorem GA(x:Cx):0<zX x:=by cases x;rw[zX];omega
theorem Gy(x:Cp):0<zP x:=by cases x;rw[zP];omega
theorem Gz(x:Sm):0<zS x:=by cases x;rw[zS];omega
theorem rA:∀l:List Cp,l.length≤gh l
 | []=>by simp
 | x:: l=>by rw[gh];have:=rA l;have:=Gy x;simp;omega
theorem pD:∀l:List Sm,l.length≤gH l
 | []=>by simp
 | x:: l=>by rw[gH];have:=pD l;have:=Gz x;simp;omega
theorem nQ:∀l:List Cx,l.length≤cD l
 | []=>by simp
 | x:: l=>by rw[cD];have:=nQ l;have:=GA x;simp;omega
end Go.bG
namespace Go.Proofs.YtpcnidmmkknndaaGreatDoor
open Go Go.Aw Go.bG
variable [Laid]
def Ke(n:Nat):Prop:=∀x:Cx,zX x≤n→∀(d:Nat) (has rel:Bool),d≤3→bn p_ 35 [.agg (fZ x),.agg [i_ d,b_ has],b_ rel] (b_ (eL d has rel x))
def O1(n:Nat):Prop:=∀p:Cp,zP p≤n→∀(d:Nat) (has:Bool),d≤3→bn p_ 50 [.agg (iv p),.agg [i_ d,b_ has]] (b_ (cZ d has p))
def RS(n:Nat):Prop:=∀s:Sm,zS s≤n→∀(d:Nat) (has:Bool),d≤3→bn p_ 82 [.agg (ft s),.agg [i_ d,b_ has]] (b_ (jz d has s))
theorem Jv{n:Nat}(hP:O1 n)(p:Cp)(hz:zP p≤n)(d:Nat)(has:Bool)(hd:d≤3):bn p_ 49 [.agg (iv p),.ip [i_ d,b_ has]] (b_ (!cZ d has p)):=by
 refine (V49 _ _).bj (by simp[DV]) (by simp) ?_;unfold XF;refine fq (by rw[rj];rfl) (zzV rfl (by simp[rj]) (zzY rfl (oJ (by simp[rj]) (by kernel_rfl) (hP p hz d has hd) (zzO ?_))));exact .pure (by simp) rfl
omit [Laid] in
theorem Ig(d:Nat)(has rel:Bool)(l:Int)(ps:List Cp)(cs:List Int)(h:¬((rel == !decide (l=0))=true∧l≤4∧cs.length+1=ps.length∧ps.length≤64)):eL d has rel (.mk l ps cs)=false:=by
 rw[eL];grind
theorem Nf{n:Nat}(hn:n<2^60)(hP:O1 n):Ke (n+1):=by
 rintro⟨l,ps,cs⟩ hz d has rel hd;rw[zX]at hz;refine (V35 _ _ _).bj (by simp[ye]) (by simp) ?_;unfold Xs;rw[fZ];have hc:aJ (((cs.map fun c=>[u1 c]).length:Int)+1):=by rw[aaC];unfold aJ;omega
 have hlen:(du ps).length=ps.length:=by simp[dq]
 repeat' (first|(with_reducible apply aH)|(with_reducible apply aq)|((with_reducible first|apply fe|apply dG);rfl;rfl)|((with_reducible apply Kn);rfl;rfl)|((with_reducible apply cg);rfl;rfl;first|assumption|(unfold aJ;omega))|((with_reducible apply aM);rfl)|((with_reducible apply aO);rfl)|((with_reducible apply ax);rfl;first|rfl|assumption)|((with_reducible apply bw);rfl;first|rfl|assumption)|((with_reducible apply fw);rfl)|((with_reducible apply aK);rfl)|((with_reducible apply aF);rfl;rfl;rfl)|((with_reducible apply fq);first|rfl|simp)|((with_reducible apply dz);rfl;(first|rfl|simp);intro _)|((with_reducible apply ct);rfl)|((with_reducible apply cE);rfl)|(with_reducible intro _))
 rotate_left
 -- the combinators,one by one
 ·rename_i a1 a2 a3 a4 a5 a6 a7 a8;have b1:(rel == !decide (l=0))=true:=by simpa using a1
  have b2:l≤4:=by simpa using a2
  have b3:cs.length+1=ps.length:=by rw[hlen]at a5;simp at a5;omega
  have b4:ps.length≤64:=by rw[hlen]at a7;simp at a7;omega
  refine bc (α:=Nat) (fun k=>k≤cs.length∧(cs.take k).all (fun c=>decide (1≤c∧c≤4))=true) (fun k=>[i_ k]) (fun _=>[.ah ⟨39,[u1 l,.sl 2 (du ps),.sl 1 (cs.map fun c=>[u1 c])],true⟩,.ah ⟨80,[i_ d,b_ has],true⟩]) (fun k=>cs.length-k) 0 (by simp) (Wk.refl _ _ _ (by simp)) ?_;rintro k ⟨hk,hI⟩;rcases uP k cs.length with q|q
  ·obtain⟨c,hx⟩:∃c,cs[k]?=some c:=⟨cs[k],dO q⟩;have hin:aJ ((k:Int)+1):=by unfold aJ;omega
   have nxt:(cs.take (k+1)).all (fun c=>decide (1≤c∧c≤4))=decide (1≤c∧c≤4):=by
    rw[By,hx,List.all_append,hI];simp
   have bad:¬(1≤c∧c≤4)→eL d has rel (.mk l ps cs)=false:=by
    intro hb;rw[eL];have:cs.all (fun c=>decide (1≤c∧c≤4))=false:=by
     rw[List.all_eq_false];exact⟨c,gE hx,by simpa using hb⟩
    rw[this];simp
   refine zzC (zzL (by simpa using q) (zzb rfl rfl hx ?_));repeat' (first|(with_reducible apply aH)|(with_reducible apply aq)|((with_reducible first|apply cK|apply fe);rfl;rfl)|((with_reducible apply cg);rfl;rfl;first|assumption|(unfold aJ;omega))|((with_reducible apply aM);rfl)|((with_reducible apply aO);rfl)|((with_reducible apply ax);rfl;first|rfl|assumption)|((with_reducible apply dY);rfl)|((with_reducible apply ct);rfl)|((with_reducible apply cE);rfl)|(with_reducible intro _))
   all_goals first
    | exact .pure (by simp) (by rw[bad (by simp_all;try omega)])
    | exact⟨k+1,⟨q,by rw[nxt];simp_all;try omega⟩,Wk.refl _ _ _ (by simp),by omega⟩
  ·have hk:k=cs.length:=by omega
   subst hk;rw[BY]at hI;refine zzC (zzK (by simp) (zzA (zzU rfl rfl (rP (by kernel_rfl) (DC ps 49 [.ip [i_ d,b_ has]] (fun p=>!cZ d has p) (by simp[aV,Aw.Pure]) (by kernel_rfl) (fun p hp=>Jv hP p (by have:=pC hp;omega) d has hd)) (by simp only[GO,List.map_nil,jM];exact⟨by rw[CA _ _ _ _ (by simp[rZ])];exact Le.refl _,by simp[tl,eM,nM],trivial⟩) (by simp) (zzO (.pure (by simp) ?_))))));rw[eL,mf,hI,b1];simp[b2,b3,b4,List.any_eq_not_all_not]
 all_goals refine .pure (by simp) ?_
 all_goals rw[Ig _ _ _ _ _ _ (by rw[aaC,hlen]at *;grind)]
end Go.Proofs.YtpcnidmmkknndaaGreatDoor
end
namespace Go.Proofs.YtpcnidmmkknndaaGreatDoor
section
open Go Go.Aw Go.bG
variable [Laid]
variable{n:Nat}
theorem Nc(hn:n<2^60)(hS:RS n):O1 (n+1):=by
 rintro⟨t,ss⟩ hz d has hd;rw[zP]at hz;refine (V50 _ _).bj (by simp[DV]) (by simp) ?_;unfold XG;rw[iv];have hlen:(dT ss).length=ss.length:=by simp[dA]
 have hsl:=pD ss;repeat' (first|(with_reducible apply aH)|(with_reducible apply aq)|((with_reducible apply fe);rfl;rfl)|((with_reducible apply jN);rfl;rfl)|((with_reducible apply dM);rfl)|((with_reducible apply aM);rfl)|((with_reducible apply aO);rfl)|((with_reducible apply ax);rfl;first|rfl|assumption)|((with_reducible apply bt);rfl;first|rfl|assumption)|((with_reducible apply bw);rfl;first|rfl|assumption)|((with_reducible apply fw);rfl)|((with_reducible apply aK);rfl)|((with_reducible apply aF);rfl;rfl;rfl)|((with_reducible apply fq);first|rfl|simp)|((with_reducible apply dz);rfl;(first|rfl|simp);intro _)|(refine uCon (wP _) ?_)|((with_reducible apply ct);rfl)|((with_reducible apply cE);rfl)|(with_reducible intro _))
 all_goals first
  | (refine .pure (by simp) ?_
     have:cZ d has (.mk t ss)=false:=by rw[cZ];grind
     rw[this])
  | (have b1:(decide (t=[])||decide (t=[42])||small t)=true:=by grind
     have b2:ss.length≤64:=by grind
     refine bc (α:=Nat) (fun k=>k≤ss.length∧(ss.take k).all (jz d has)=true) (fun k=>[i_ k]) (fun _=>[.ah ⟨42,[.str t,.sl 9 (dT ss)],true⟩,.ah ⟨80,[i_ d,b_ has],true⟩]) (fun k=>ss.length-k) 0 (by simp) (Wk.refl _ _ _ (by simp)) ?_;rintro k ⟨hk,hI⟩;rcases uP k ss.length with q|q
     ·obtain⟨s,hx⟩:∃s,ss[k]?=some s:=⟨ss[k],dO q⟩;have hin:aJ ((k:Int)+1):=by unfold aJ;omega
      have nxt:(ss.take (k+1)).all (jz d has)=jz d has s:=by
       rw[By,hx,List.all_append,hI];simp
      have bad:jz d has s=false→cZ d has (.mk t ss)=false:=by
       intro hb;rw[cZ,kN];have:ss.all (jz d has)=false:=by
        rw[List.all_eq_false];exact⟨s,gE hx,by simp[hb]⟩
       rw[this];simp
      have hzs:zS s≤n:=by have:=pE (gE hx);omega
      refine zzC (zzL (by rw[hlen];simpa using q) (zzb (dA ss) rfl hx (zzY (by simp[mD]) (fq rfl (dP (cs:=ft s) rfl rfl rfl rfl (by simp[mD]) (by simp[mD]) (by simp[mD]) ?_)))));have hset:bZ (bl (.agg [(u8 0),(.str []),(u8 0),(.str []),ff,(i_ 0),(i_ 0),ff,(.v (.slice none 0 0))])) 0 (ft s)=ft s:=by rw[mD];rfl
      rw[hset];refine zzV rfl (by simp[mD]) (zzV rfl (bY _) (oJ (by simp[mD]) (by kernel_rfl) (hS s hzs d has hd) ?_));repeat' (first|(with_reducible apply aq)|((with_reducible apply cg);rfl;rfl;first|assumption|(unfold aJ;omega))|((with_reducible apply dM);rfl)|((with_reducible apply jl);rfl)|((with_reducible apply ct);rfl)|(with_reducible intro _))
      all_goals first
       | exact .pure (by simp) (by rw[bad (by simp_all)])
       | exact⟨k+1,⟨q,by rw[nxt];simp_all⟩,Wk.back (M:=2) (by simp) (by simp) rfl (by simp) (by simp[rM];exact⟨kK _ _ (by simp[xf]),kK _ _ (by simp)⟩) (by simp[Bd]),by omega⟩
     ·have hk:k=ss.length:=by omega
      subst hk;rw[BY]at hI;refine zzC (zzK (by rw[hlen];simp) ?_);repeat' (first|(with_reducible apply aH)|((with_reducible apply fe);rfl;rfl)|((with_reducible apply jN);rfl;rfl)|((with_reducible apply aM);rfl)|((with_reducible apply aO);rfl)|((with_reducible apply bt);rfl;first|rfl|assumption)|((with_reducible apply bw);rfl;first|rfl|assumption)|((with_reducible apply fw);rfl)|((with_reducible apply aK);rfl)|((with_reducible apply aF);rfl;rfl;rfl)|((with_reducible apply dz);rfl;(first|rfl|simp);intro _))
      all_goals refine .pure (by simp) ?_
      all_goals rw[cZ,kN,hI,b1]
      all_goals cases ss<;>simp_all [dT])
theorem P8(d:Nat)(has:Bool)(k:Int)(hd:d≤3)(hq:iw d has k=true):bn p_ 110 [.agg [i_ d,b_ has],u1 k] (.aA [.agg [i_ (d+1),b_ (has||decide (k=14))],tt]):=by
 have:=AK d has k hd;rw[hq]at this;simpa using this
theorem P7(d:Nat)(has:Bool)(k:Int)(hd:d≤3)(hq:iw d has k=false):bn p_ 110 [.agg [i_ d,b_ has],u1 k] (.aA [.agg [i_ 0,ff],ff]):=by
 have:=AK d has k hd;rw[hq]at this;simpa using this
theorem GG(hX:Ke n)(x:Cx)(hz:zX x≤n)(d:Nat)(has:Bool)(hd:d≤3)(k:Int)(r:List AV)(pr:aV r):bn p_ 111 [.agg (fZ x),.ip [i_ d,b_ has],.ip (u1 k:: r)] (b_ (!eL d has (decide (k=14)) x)):=by
 refine (YE _ _ _).bj (by simp[ye,pr]) (by simp) ?_;unfold Sl;refine fq (by rw[iL];rfl) (zzV rfl (by simp[iL]) (zzY rfl (zzX (zzW (zzG (oJ (by simp[iL]) (by kernel_rfl) (hX x hz d has (decide (k=14)) hd) (zzO ?_)))))));exact .pure (by simp) rfl
theorem GH(hX:Ke n)(l:List Cx)(hz:cD l≤n)(d:Nat)(has:Bool)(hd:d≤3)(k:Int)(r:List AV)(pr:aV r):bn p_ 33 [.sl 3 (bC l),.fn (.func 111) [] [.ip [i_ d,b_ has],.ip (u1 k:: r)]] (b_ (!dD d has (decide (k=14)) l)):=by
 have:=wq l 111 [.ip [i_ d,b_ has],.ip (u1 k:: r)] (fun x=>!eL d has (decide (k=14)) x) (by simp[aV,Aw.Pure,pr]) (by kernel_rfl) (fun x hx=>GG hX x (by have:=mN hx;omega) d has hd k r pr);rw[km,show (!l.all (eL d has (decide (k=14))))=l.any (fun x=>!eL d has (decide (k=14)) x) by simp[List.any_eq_not_all_not]];exact this
omit [Laid] in
theorem Ly(d:Nat)(has:Bool)(k:Int)(n:af)(o:Int)(v:af)(f:Bool)(a b:Int)(w:Bool)(l:List Cx):jz d has (.mk k n o v f a b w l)=(jo k n o v f a b w&&(if gw k w then iw d has k&&(nq k||!decide (l.length=0))&&dD (d+1) (has||decide (k=14)) (decide (k=14)) l else decide (l.length=0))):=by
 rw[jz];have:l.isEmpty=decide (l.length=0):=by cases l<;>simp
 rw[this];unfold iw
 grind
theorem Nd(hX:Ke n):RS (n+1):=by
 rintro⟨k,na,o,v,f,a,b,w,l⟩ hz d has hd;rw[zS]at hz;refine (V82 _ _).bj (by simp[DW]) (by simp) ?_;unfold X7;rw[ft,Ly];have hlen:(bC l).length=l.length:=by simp[ck]
 have pX:=fG l;cases hq:iw d has k
 ·repeat' (first|(with_reducible apply aH)|(with_reducible apply aq)|((with_reducible first|apply gI|apply fe|apply lJ|apply bR|apply dG);rfl;rfl)|((with_reducible first|apply gK|apply jN);rfl;rfl)|((with_reducible apply dM);rfl)|((with_reducible apply aM);rfl)|((with_reducible apply aO);rfl)|((with_reducible apply ax);rfl;first|rfl|assumption)|((with_reducible apply ay);rfl;first|rfl|assumption)|((with_reducible apply bt);rfl;first|rfl|assumption)|((with_reducible apply bw);rfl;first|rfl|assumption)|((with_reducible apply dc);rfl)|((with_reducible apply jl);rfl)|((with_reducible apply fw);rfl)|((with_reducible apply aK);rfl)|((with_reducible apply aF);rfl;rfl;rfl)|((with_reducible apply dn);rfl;rfl;first|exact bY _|exact lT rfl)|((with_reducible apply xx);rfl;rfl;rfl)|((with_reducible apply fq);first|rfl|simp)|((with_reducible apply dP);rfl;rfl;rfl;rfl;(first|exact bY _|simp);(first|rfl|simp);(first|rfl|simp))|((with_reducible apply dz);rfl;(first|rfl|simp);intro _)|((with_reducible apply bf);rfl)|((with_reducible apply ij);rfl;rfl)|(refine uCon (CS k na o v f a b w (bC l) pX) ?_)|(refine uCon (P7 d has k hd hq) ?_)|(refine uCon (wO _) ?_)|(refine uCon (wP _) ?_)|(refine uCon (zv _ _) ?_)|(refine uCon (om _ _) ?_)|((with_reducible apply ct);rfl)|((with_reducible apply cE);rfl)|(with_reducible intro _))
  all_goals refine .pure (by simp) ?_
  all_goals simp only[dU,gF,AV.v.injEq,Value.bool.injEq,Value.int.injEq,true_and,hlen]at *
  all_goals grind [gw,A0,eK,jo,nq,jg]
 ·have hd':d+1≤3:=by unfold iw at hq;grind
  repeat' (first|(with_reducible apply aH)|(with_reducible apply aq)|((with_reducible first|apply gI|apply fe|apply lJ|apply bR|apply dG);rfl;rfl)|((with_reducible first|apply gK|apply jN);rfl;rfl)|((with_reducible apply dM);rfl)|((with_reducible apply aM);rfl)|((with_reducible apply aO);rfl)|((with_reducible apply ax);rfl;first|rfl|assumption)|((with_reducible apply ay);rfl;first|rfl|assumption)|((with_reducible apply bt);rfl;first|rfl|assumption)|((with_reducible apply bw);rfl;first|rfl|assumption)|((with_reducible apply dc);rfl)|((with_reducible apply jl);rfl)|((with_reducible apply fw);rfl)|((with_reducible apply aK);rfl)|((with_reducible apply aF);rfl;rfl;rfl)|((with_reducible apply dn);rfl;rfl;first|exact bY _|exact lT rfl)|((with_reducible apply xx);rfl;rfl;rfl)|((with_reducible apply fq);first|rfl|simp)|((with_reducible apply dP);rfl;rfl;rfl;rfl;(first|exact bY _|simp);(first|rfl|simp);(first|rfl|simp))|((with_reducible apply dz);rfl;(first|rfl|simp);intro _)|((with_reducible apply bf);rfl)|((with_reducible apply ij);rfl;rfl)|(refine uCon (CS k na o v f a b w (bC l) pX) ?_)|(refine uCon (P8 d has k hd hq) ?_)|(refine rP (by kernel_rfl) (GH hX l (by omega) (d+1) (has||decide (k=14)) hd' k [.str na,u1 o,.str v,b_ f,i_ a,i_ b,b_ w,.sl 3 (bC l)] (by simp[pX])) (by simp only[GO,List.map_nil,jM];exact⟨by rw[CA _ _ _ _ (by simp[pX])];exact Le.refl _,by simp[tl,eM,nM,Ak _ _ _ _ pX],trivial⟩) (by simp) ?_)|(refine uCon (wO _) ?_)|(refine uCon (wP _) ?_)|(refine uCon (zv _ _) ?_)|(refine uCon (om _ _) ?_)|((with_reducible apply ct);rfl)|((with_reducible apply cE);rfl)|(with_reducible intro _))
  all_goals refine .pure (by simp) ?_
  all_goals simp only[dU,gF,AV.v.injEq,Value.bool.injEq,Value.int.injEq,true_and,hlen]at *
  all_goals grind [gw,A0,eK,jo,nq,jg]
end
end Go.Proofs.YtpcnidmmkknndaaGreatDoor
section
namespace Go.bG
open Go Go.Aw
mutual
theorem V1:∀x:Cx,nX x+1≤zX x
 | .mk _ ps _=>by rw[nX,zX];have:=Ln ps;omega
theorem Ln:∀l:List Cp,fW l≤gh l
 | []=>by simp[fW]
 | p:: l=>by rw[fW,gh];have:=VZ p;have:=Ln l;omega
theorem VZ:∀p:Cp,nP p≤zP p
 | .mk _ ss=>by rw[nP,zP];have:=Lp ss;omega
theorem Lp:∀l:List Sm,dW l≤gH l
 | []=>by simp[dW]
 | s:: l=>by rw[dW,gH];have:=V0 s;have:=Lp l;omega
theorem V0:∀s:Sm,nS s≤zS s
 | .mk _ _ _ _ _ _ _ _ l=>by rw[nS,zS];have:=Bf l;omega
theorem Bf:∀l:List Cx,l.length+dN l≤cD l
 | []=>by simp[dN]
 | x:: l=>by rw[dN,cD];have:=V1 x;have:=Bf l;simp;omega
end
theorem Fw{l:List Cx}{k:Nat}{x:Cx}(h:l[k]?=some x):dN (l.take (k+1))=dN (l.take k)+nX x:=by
 induction l generalizing k with
 | nil=>simp at h
 | cons y l ih =>
   cases k with
   | zero=>simp at h;subst h;simp[dN]
   | succ k=>simp at h;rw[List.take_succ_cons,dN,ih h,List.take_succ_cons,dN];omega
theorem Ft{l:List Cp}{k:Nat}{x:Cp}(h:l[k]?=some x):fW (l.take (k+1))=fW (l.take k)+nP x:=by
 induction l generalizing k with
 | nil=>simp at h
 | cons y l ih =>
   cases k with
   | zero=>simp at h;subst h;simp[fW]
   | succ k=>simp at h;rw[List.take_succ_cons,fW,ih h,List.take_succ_cons,fW];omega
theorem Fv{l:List Sm}{k:Nat}{x:Sm}(h:l[k]?=some x):dW (l.take (k+1))=dW (l.take k)+nS x:=by
 induction l generalizing k with
 | nil=>simp at h
 | cons y l ih =>
   cases k with
   | zero=>simp at h;subst h;simp[dW]
   | succ k=>simp at h;rw[List.take_succ_cons,dW,ih h,List.take_succ_cons,dW];omega
theorem ze(l:List Cx)(k:Nat):dN (l.take k)≤dN l:=by
 induction l generalizing k with
 | nil=>simp
 | cons y l ih=>cases k with
   | zero=>simp[dN]
   | succ k=>rw[List.take_succ_cons,dN,dN];have:=ih k;omega
theorem zc(l:List Cp)(k:Nat):fW (l.take k)≤fW l:=by
 induction l generalizing k with
 | nil=>simp
 | cons y l ih=>cases k with
   | zero=>simp[fW]
   | succ k=>rw[List.take_succ_cons,fW,fW];have:=ih k;omega
theorem zd(l:List Sm)(k:Nat):dW (l.take k)≤dW l:=by
 induction l generalizing k with
 | nil=>simp
 | cons y l ih=>cases k with
   | zero=>simp[dW]
   | succ k=>rw[List.take_succ_cons,dW,dW];have:=ih k;omega
end Go.bG
namespace Go.Proofs.YtpcnidmmkknndaaGreatDoor
open Go Go.Aw Go.bG
variable [Laid]
theorem Ep:∀n,n<2^60→Ke n∧O1 n∧RS n
 | 0,_=>⟨fun x hz=>by have:=GA x;omega,fun x hz=>by have:=Gy x;omega,fun x hz=>by have:=Gz x;omega⟩
 | n+1,hn=>by
   obtain⟨hX,hP,hS⟩:=Ep n (by omega);exact⟨Nf (by omega) hP,Nc (by omega) hS,Nd hX⟩
theorem KJ(x:Cx)(hz:zX x<2^60)(d:Nat)(has rel:Bool)(hd:d≤3):bn p_ 35 [.agg (fZ x),.agg [i_ d,b_ has],b_ rel] (b_ (eL d has rel x)):=
 (Ep (zX x) hz).1 x (bY _) d has rel hd
def RT(n:Nat):Prop:=∀l:List Cx,cD l<n→bn p_ 26 [.sl 3 (bC l)] (i_ (number l))
theorem Qc{n:Nat}(hn:n<2^60)(hC:RT n):RT (n+1):=by
 intro l hz;refine (V26 _).bj (by simp[fG]) (by simp) ?_;unfold Xj;have hl:=Bf l;refine zzf (n:=l.length) (by simp[ck]) fun _=>?_;refine zzf (n:=l.length) (by simp[ck]) fun _=>?_;refine bc (α:=Nat) (fun k=>k≤l.length) (fun k=>[i_ ((l.length+dN (l.take k):Nat):Int),i_ k]) (fun _=>[]) (fun k=>l.length-k) 0 (by simp) (by simpa[dN]using Wk.refl _ _ _ (by simp)) ?_;intro k hk;rcases uP k l.length with q|q
 ·obtain⟨⟨le,ps,cs⟩,hx⟩:∃x,l[k]?=some x:=⟨l[k],dO q⟩;have hin:aJ ((k:Int)+1):=by unfold aJ;omega
  have hzx:=mN (gE hx);rw[zX]at hzx;have hnx:=Fw hx;rw[nX]at hnx;have hle:=ze l (k+1);refine zzC (zzL (by simpa using q) (zzb (ck l) rfl hx (zzY (by simp[iL]) (fq rfl ?_))));rw[fZ];refine dP (cs:=[u1 le,.sl 2 (du ps),.sl 1 (cs.map fun c=>[u1 c])]) rfl rfl rfl rfl (bY _) rfl rfl (zzA (zzU rfl rfl ?_));refine zzf (n:=ps.length) (by simp[dq]) fun _=>?_;refine bc (α:=Nat) (fun i=>i≤ps.length) (fun i=>[i_ ((l.length+dN (l.take k)+fW (ps.take i):Nat):Int),i_ i]) (fun _=>[.ah ⟨39,[u1 le,.sl 2 (du ps),.sl 1 (cs.map fun c=>[u1 c])],true⟩]) (fun i=>ps.length-i) 0 (by simp) (by simpa[fW]using Wk.refl _ _ _ (by simp)) ?_;intro i hi;rcases uP i ps.length with q2|q2
  ·obtain⟨⟨t,ss⟩,hp⟩:∃x,ps[i]?=some x:=⟨ps[i],dO q2⟩;have hin2:aJ ((i:Int)+1):=by have:=rA ps;unfold aJ;omega
   have hzp:=pC (gE hp);rw[zP]at hzp;have hnp:=Ft hp;rw[nP]at hnp;have hle2:=zc ps (i+1);refine zzC (zzL (by simpa using q2) (zzb (dq ps) rfl hp (zzY (by simp[rj]) (fq rfl ?_))));rw[iv];refine dP (cs:=[.str t,.sl 9 (dT ss)]) rfl rfl rfl rfl (bY _) rfl rfl (zzA (zzU rfl rfl ?_));refine zzf (n:=ss.length) (by simp[dA]) fun _=>?_;refine bc (α:=Nat) (fun j=>j≤ss.length) (fun j=>[i_ ((l.length+dN (l.take k)+fW (ps.take i)+dW (ss.take j):Nat):Int),i_ j]) (fun _=>[.ah ⟨39,[u1 le,.sl 2 (du ps),.sl 1 (cs.map fun c=>[u1 c])],true⟩,.ah ⟨42,[.str t,.sl 9 (dT ss)],true⟩]) (fun j=>ss.length-j) 0 (by simp) (by simpa[dW]using Wk.refl _ _ _ (by simp)) ?_;intro j hj;rcases uP j ss.length with q3|q3
   ·obtain⟨⟨kd,na,o,v,f,a,b,w,l2⟩,hs⟩:∃x,ss[j]?=some x:=⟨ss[j],dO q3⟩;have hin3:aJ ((j:Int)+1):=by have:=pD ss;unfold aJ;omega
    have hzs:=pE (gE hs);rw[zS]at hzs;have hns:=Fv hs;rw[nS]at hns;have hle3:=zd ss (j+1);have hin4:aJ (((l.length+dN (l.take k)+fW (ps.take i)+dW (ss.take j):Nat):Int)+(number l2:Int)):=by unfold number aJ;omega
    refine zzC (zzL (by simpa using q3) (zzb (dA ss) rfl hs (zzY (by simp[mD]) (fq rfl ?_))));rw[ft];refine dP (cs:=[u1 kd,.str na,u1 o,.str v,b_ f,i_ a,i_ b,b_ w,.sl 3 (bC l2)]) rfl rfl rfl rfl (bY _) rfl rfl (zzA (zzU rfl rfl (uCon (hC l2 (by omega)) (zzP hin4 (zzP hin3 (aq ?_))))));refine⟨j+1,q3, ?_,by omega⟩;have e:((l.length+dN (l.take k)+fW (ps.take i)+dW (ss.take j):Nat):Int)+(number l2:Int)=((l.length+dN (l.take k)+fW (ps.take i)+dW (ss.take (j+1)):Nat):Int):=by rw[hns];unfold number;omega
    rw[e];exact Wk.back (M:=2) (by simp) (by simp) rfl (by simp) (by simp[rM];exact⟨kK _ _ (by simp[rZ,Br]),kK _ _ (by simp[xf])⟩) (by simp[Bd])
   ·have hj:j=ss.length:=by omega
    subst hj;rw[BY];refine zzC (zzK (by simp) (zzP hin2 (aq ?_)));refine⟨i+1,q2, ?_,by omega⟩;rw[hnp];exact Wk.back (M:=1) (by simp) (by simp) rfl (by simp[Nat.add_assoc]) (by simp[rM];exact kK _ _ (by simp[rZ,Br])) (by simp[Bd])
  ·have hi:i=ps.length:=by omega
   subst hi;rw[BY];refine zzC (zzK (by simp) (zzP hin (aq ?_)));refine⟨k+1,q, ?_,by omega⟩;rw[hnx];exact Wk.back (M:=0) (by simp) (by simp) rfl (by simp[Nat.add_assoc]) (by simp) (by simp[Bd])
 ·have hk:k=l.length:=by omega
  subst hk;rw[BY];refine zzC (zzK (by simp) ?_);exact .pure (by simp) rfl
theorem KM:∀n,n<2^60→RT n
 | 0,_=>fun l hz=>by omega
 | n+1,hn=>Qc (by omega) (KM n (by omega))
theorem wM(l:List Cx)(hz:cD l<2^59):bn p_ 26 [.sl 3 (bC l)] (i_ (number l)):=
 KM (cD l+1) (by omega) l (by omega)
theorem Jl(x:Cx)(hz:zX x<2^60):bn p_ 34 [.agg (fZ x)] (b_ (!eL 0 false false x)):=by
 refine (V34 _).bj (by simp[ye]) (by simp) ?_;unfold Xr;refine fq (by rw[iL];rfl) (zzV rfl (by simp[iL]) (bf rfl (oJ (by simp[iL]) (by kernel_rfl) (KJ x hz 0 false false (by omega)) (zzO ?_))));exact .pure (by simp) rfl
theorem CO(l:List Cx)(hz:cD l<2^59):bn p_ 20 [.sl 3 (bC l)] (i_ (fD l)):=by
 refine (V20 _).bj (by simp[fG]) (by simp) ?_;unfold Xe;have hlen:(bC l).length=l.length:=by simp[ck]
 have hany:=wq l 34 [] (fun x=>!eL 0 false false x) (by simp[aV]) (by kernel_rfl) (fun x hx=>Jl x (by have:=mN hx;omega));have he:l.isEmpty=decide (l.length=0):=by cases l<;>simp
 rw[show l.any (fun x=>!eL 0 false false x)=!dD 0 false false l by rw[km];simp[List.any_eq_not_all_not]]at hany;repeat' (first|(with_reducible apply aH)|(with_reducible apply aq)|((with_reducible first|apply fe|apply bR);rfl;rfl)|((with_reducible apply aM);rfl)|((with_reducible apply aO);rfl)|((with_reducible apply ax);rfl;first|rfl|assumption)|((with_reducible apply jl);rfl)|((with_reducible apply dz);rfl;(first|rfl|simp);intro _)|(refine uCon (hany) ?_)|(refine uCon (wM l hz) ?_)|((with_reducible apply ct);rfl)|((with_reducible apply cE);rfl)|(with_reducible intro _))
 all_goals refine .pure (by simp) ?_
 all_goals simp only[dU,gF,AV.v.injEq,Value.bool.injEq,Value.int.injEq,true_and,hlen,he,fD]at *
 all_goals grind
end Go.Proofs.YtpcnidmmkknndaaGreatDoor
end
namespace Go.Proofs.YtpcnidmmkknndaaGreatDoor
section
open Go Go.Aw Go.fg Go.RowKit
open Go.bG hiding u1 af
mutual
def vB:Vl→Prop
 | .mk _ t n u _ l=>(-10^15≤n∧n≤10^15)∧t.length≤2^20∧u.length≤2^20∧iX l
def iX:List Vl→Prop
 | []=>True
 | v:: l=>vB v∧iX l
end
theorem yp:∀{l:List Vl} {x:Vl},iX l→x∈l→vB x
 | y:: l,x,h,hx=>by
   rw[iX]at h;rcases ID.1 hx with rfl|hx
   ·exact h.1
   ·exact yp h.2 hx
theorem CE:∀{l:List Vl},(∀x∈l,vB x)→iX l
 | [],_=>trivial
 | y:: l,h=>⟨h y (by simp),CE fun x hx=>h x (by simp[hx])⟩
theorem CF{l m:List Vl}(h:iX l)(hs:∀x∈m,x∈l):iX m:=CE fun x hx=>yp h (hs x hx)
theorem RI{x:Vl}(h:vB x):iX x.list:=by cases x;rw[vB]at h;exact h.2.2.2
mutual
theorem Wx:∀(x:Vl),vB x→∀t∈iI x,(-10^15≤t.n∧t.n≤10^15)∧t.t.length≤2^20∧t.u.length≤2^20
 | .mk k t n u f l,h,x,hx=>by
   rw[vB]at h;rw[iI]at hx;rcases ID.1 hx with rfl|hx
   ·exact⟨h.1,h.2.1,h.2.2.1⟩
   ·split at hx
    ·cases hx
    ·rcases Is.1 hx with hx|hx
     ·exact Gi l h.2.2.2 x hx
     ·simp at hx;subst hx;exact⟨⟨by show (-10^15:Int)≤0;decide,by show (0:Int)≤10^15;decide⟩,aaO _,aaO _⟩
theorem Gi:∀(l:List Vl),iX l→∀t∈bJ l,(-10^15≤t.n∧t.n≤10^15)∧t.t.length≤2^20∧t.u.length≤2^20
 | [],_,x,hx=>by rw[bJ]at hx;cases hx
 | v:: l,h,x,hx=>by
   rw[iX]at h;rw[bJ]at hx;rcases Is.1 hx with hx|hx
   ·exact Wx v h.1 x hx
   ·exact Gi l h.2 x hx
end
theorem Rv{v:List Vl}(h:iX v)(hc:jr v=0):pV (bJ v):=by
 refine⟨?_,Gi v h⟩;rw[mg];unfold jr at hc;split at hc
 ·cases hc
 ·split at hc
  ·cases hc
  ·omega
theorem OZ{v:List Vl}{a b:Nat}{lo hi:Option AV}{K:AV→Prop}(ha:eT lo 0=some (a:Int))(hb:eT hi v.length=some (b:Int))(h1:a≤b)(h2:b≤v.length)(q:K (.sl 6 (cA ((v.take b).drop a)))):lg 6 (.sl 6 (cA v)) lo hi K:=by
 have hl:(cA v).length=v.length:=by simp[eg]
 rw[Ph,ha,hl,hb];refine⟨rfl,⟨by omega,by omega,by omega⟩, ?_⟩;have:((cA v).take (b:Int).toNat).drop (a:Int).toNat=cA ((v.take b).drop a):=by simp[eg]
 rw[this];exact q
abbrev UG(o:List Cx×Bool):AV:=.aA [gg 3 (dN_ o.1),b_ o.2]
theorem Ol(o:List Cx×Bool):Aw.Pure (UG o):=by simp only[aV,Aw.Pure,and_true];exact lu (ma _)
abbrev wC(d:Nat)(has:Bool):AV:=.agg [i_ d,b_ has]
variable [bq]
theorem P3(l:List Tok)(hl:pV l):bn p_ 177 [za l] (.aA [(qy l).1,i_ (qy l).2]):=by
 unfold za;split
 ·rename_i e;subst e;exact bn.arg (Hc [] hl) (.cons (.nil 5) .nil) (by simp[aV,Aw.Pure])
 ·exact Hc l hl
def Ec(n:Nat):Prop:=∀(v:List Vl),bU v<n→iX v→∀(d:Nat) (has rel forg:Bool),d≤3→bn p_ 32 [.sl 6 (cA v),wC d has,b_ rel,b_ forg] (UG (nL (3-d) has v rel forg))
omit [bq] in
theorem Oj(v:List Vl):(v.findIdx? jb=none∧ofI v=-1)∨∃i,v.findIdx? jb=some i∧ofI v=(i:Int)∧i<v.length:=by
 unfold ofI;cases h:v.findIdx? jb with
 | none=>exact .inl ⟨rfl,rfl⟩
 | some i =>
   rw[List.findIdx?_eq_some_iff_getElem]at h;exact .inr ⟨i,rfl,rfl,h.1⟩
theorem P9{n:Nat}(hn:n≤2^30)(hP:Ec n)(v:List Vl)(hz:bU v<n)(hb:iX v)(d:Nat)(has:Bool)(hd:d≤3)(k:Int):bn p_ 144 [.agg (nS_ (dt k [])),.sl 6 (cA v),wC d has] (atR (vz (eV d has) k v)):=by
 have hlv:=mM v;refine (YX _ _ _).bj (by simp only[aV,Aw.Pure,and_true,true_and];exact⟨jL _,lj v⟩) (by simp only[aV,Aw.Pure,and_true];exact jL _) ?_;unfold SF;obtain⟨plE,hplE⟩:∃plE:aL,plE=.ah ⟨80,[i_ d,b_ has],true⟩:=⟨_,rfl⟩;refine bW (cs:=nS_ (dt k [])) (n:=0) (h':=[cT (dt k [])]) rfl (rm _) rfl rfl (bW (cs:=[i_ d,b_ has]) (n:=1) (h':=[cT (dt k []),plE]) rfl rfl rfl (by rw[hplE];rfl) (bW (cs:=nS_ cO) (n:=2) (h':=[cT (dt k []),plE,cT cO]) rfl rfl rfl rfl (uCon (Qa v (by omega)) ?_)));obtain⟨R,hR⟩:∃R,vz (eV d has) k v=R:=⟨_,rfl⟩;rw[hR]
 -- what is handed back
 have ret:∀(H:aa) (s:Sm) (b:Bool),H[2]?=some (cT cO)→R=(s,b)→ao 9 (.op 2 0) (.agg (nS_ s)) H fun g=>ak true 9 (.op 2 0) g fun r=>dK (atR R) (.aA [r,b_ b]) g:=by
  intro H s b h2 e;refine um (K:=fun r g=>dK (atR R) (.aA [r,b_ b]) g) h2 ?_;rw[e];exact .pure (by simp only[aV,Aw.Pure,and_true];exact jL _) rfl
 refine cP (fun s H=>∃(w:Bool) (l:List Cx) (q:List Vl),s=[.sl 6 (cA q)]∧H[0]?=some (cT (.mk k [] 0 [] false 0 0 w l))∧H[2]?=some (cT cO)∧bU q<n∧iX q∧R=rX k w l q) ?_ ?_
 ·rintro _ H ⟨w,l,q,rfl,h0,h2,hzq,hbq,e⟩;refine uCon (Nh q (by omega)) (bo rfl rfl (bo rfl rfl (zzH ?_)));unfold EL
  by_cases hc:jr q=0
  ·rw[if_pos hc];refine zzK rfl (uCon (P3 _ (Rv hbq hc)) ?_);have hN:rX k w l q=match wo (bJ q) with|some (a,b)=>(.mk k [] 0 [] false a b w l,true)|none=>(.mk k [] 0 [] false 0 0 w l,false):=by unfold rX;rw[if_pos hc];rfl
   rw[hN]at e;refine bo rfl rfl (bo rfl rfl (zzA ?_));have st:∀(a b:Int) (z:Int) (c:Bool),decide (z=0)=c→R=(.mk k [] 0 [] false a b w l,c)→ao 2 (.op 0 (0+5)) (.agg [i_ a,i_ b]) H fun g56=>ak true 9 (.op 0 0) g56 fun v57=>ae .eql (i_ z) (i_ 0) fun v58=>ao 9 (.op 2 0) v57 g56 fun g59=>ak true 9 (.op 2 0) g59 fun r60=>dK (atR R) (.aA [r60,v58]) g59:=by
    intro a b z c hzc e;refine aX (cs:=[i_ a,i_ b]) (h':=H.set 0 (cT (.mk k [] 0 [] false a b w l))) rfl h0 rfl rfl (by simp[fF]) rfl rfl rfl ?_;have hl2:=(eQ.1 h2).1;refine kC (iD (by omega)) ?_;refine zzG ?_;rw[hzc];exact ret _ _ c (by rw[iF (by decide)];exact h2) e
   unfold qy;cases ha:wo (bJ q) with
   | none=>rw[ha]at e;exact st 0 0 12 false rfl e
   | some ab =>
     obtain⟨a,b⟩:=ab;rw[ha]at e;exact st a b 0 true rfl e
  ·rw[if_neg hc];refine zzL (by simp[hc]) (kC h0 ?_);exact ret _ _ false h2 (by rw[e];unfold rX;rw[if_neg hc])
 ·intro F hF;refine zzF ?_;rcases Oj v with⟨h1,h2⟩|⟨i,h1,h2,h3⟩
  ·rw[h2];refine zzK rfl (aq ?_);refine hF _ _ ⟨false,[],v,rfl,rfl,rfl,hz,hb, ?_⟩;rw[←hR];unfold vz;rw[h1]
  ·rw[h2];refine zzL (by simp) ?_;have hRi:R=match eV d has k (v.drop (i+1)) false false with|some (l,true)=>rX k true l (v.take i)|_=>(dt k [],false):=by rw[←hR];unfold vz;rw[h1];rfl
   refine ig (cs:=[i_ d,b_ has]) (b:=⟨80,[i_ d,b_ has],true⟩) rfl (by rw[hplE];rfl) (by simp) rfl (zzA (zzU (c:=u8 k) rfl rfl ?_));have hdrop:∀x∈v.drop (i+1),x∈v:=fun x hx=>List.mem_of_mem_drop hx;have hzd:bU (v.drop (i+1))≤bU v:=rC (List.drop_suffix _ _);have hzt:bU (v.take i)≤bU v:=pU v i
   -- the place,and the list in it
   have tail:∀(qd:Nat) (qh fine:Bool),qd≤3→(fine=true→eV d has k (v.drop (i+1)) false false=some (nL (3-qd) qh (v.drop (i+1)) false false))→(fine=false→eV d has k (v.drop (i+1)) false false=none) →
    aU 0 (.aA [wC qd qh,b_ fine]) fun v16=>aU 1 (.aA [wC qd qh,b_ fine]) fun v17=>aW 80 (.agg [(i_ 0),ff]) [cT (dt k []),plE,cT cO] fun v18 g19=>ao 2 v18 v16 g19 fun g20=>ae .add (i_ i) (i_ 1) fun v21=>lg 6 (.sl 6 (cA v)) (some v21) none fun v22=>ak true 2 v18 g20 fun v23=>wA p_ (.fn (.func 32) [] []) [v22,v23,ff,ff] g20 fun v24=>aU 0 v24 fun v25=>aU 1 v24 fun v26=>cq v17 fun v27=>aw (fun J28=>ar v27 false (cq v26 fun v29=>[AV.sl 6 (cA v),.op 0 0,.op 2 0,i_ i,v25]=[AV.sl 6 (cA v),.op 0 0,.op 2 0,i_ i,v25]∧J28 [ff,v29] g20) ([AV.sl 6 (cA v),.op 0 0,.op 2 0,i_ i,v25]=[AV.sl 6 (cA v),.op 0 0,.op 2 0,i_ i,v25]∧J28 [(aN false v27),un] g20)) fun s30 g31=>aI (nx s30 0) tt (nx s30 1) fun v32=>ag v32 (ak true 9 (.op 0 0) g31 fun v33=>ao 9 (.op 2 0) v33 g31 fun g34=>ak true 9 (.op 2 0) g34 fun r35=>dK (atR R) (.aA [r35,ff]) g34) (lg 6 (.sl 6 (cA v)) none (some (i_ i)) fun v36=>bp 7 (.op 0 0) fun v37=>ao 1 v37 tt g31 fun g38=>bp 8 (.op 0 0) fun v39=>ao 1 v39 v25 g38 fun g40=>[AV.op 0 0,.op 2 0]=[AV.op 0 0,.op 2 0]∧F [v36] g40):=by
    intro qd qh fine hqd hs1 hs0;refine bo rfl rfl (bo rfl rfl (bW (cs:=[i_ 0,ff]) (n:=3) (h':=[cT (dt k []),plE,cT cO,.ah ⟨80,[i_ 0,ff],true⟩]) rfl rfl rfl rfl (aX (cs:=[i_ qd,b_ qh]) (h':=[cT (dt k []),plE,cT cO,.ah ⟨80,[i_ qd,b_ qh],true⟩]) rfl rfl rfl rfl (by simp) rfl rfl rfl (zzP (by unfold aJ;omega) (OZ (a:=i+1) (b:=v.length) rfl rfl (by omega) (bY _) ?_)))));rw[BY];refine ig (cs:=[i_ qd,b_ qh]) (b:=⟨80,[i_ qd,b_ qh],true⟩) rfl rfl (by simp) rfl ?_;refine⟨_,uCon (hP (v.drop (i+1)) (by omega) (CF hb hdrop) qd qh false false hqd) ⟨rfl,rfl⟩, ?_⟩;obtain⟨o,ho⟩:∃o,nL (3-qd) qh (v.drop (i+1)) false false=o:=⟨_,rfl⟩;rw[ho]at hs1 ⊢;refine bo rfl rfl (bo rfl rfl (zzO ?_));refine mJ (!fine||!o.2) rfl (fun z=>by rw[z];rfl) (fun z F2 hF2=>?_) (fun s hs=>lH hs ?_)
    ·refine zzO (aq ?_);rw[z,Bool.false_or]at hF2;exact hF2
    cases hf:fine with
    | false =>
      refine zzL (by simp) (kC (H:=[cT (dt k []),plE,cT cO,.ah ⟨80,[i_ qd,b_ qh],true⟩]) rfl ?_);exact ret _ _ false rfl (by rw[hRi,hs0 hf])
    | true =>
      have hs1:=hs1 hf;rw[hs1]at hRi;cases ho2:o.2 with
      | false =>
        refine zzL (by simp) (kC (H:=[cT (dt k []),plE,cT cO,.ah ⟨80,[i_ qd,b_ qh],true⟩]) rfl ?_);exact ret _ _ false rfl (by rw[hRi,show o=(o.1,false) from by rw[←ho2]])
      | true =>
        refine zzK (by simp) (OZ (a:=0) (b:=i) rfl rfl (aaO _) (by omega) ?_);rw[List.drop_zero];refine zzA (aX (cs:=[tt]) (h':=[cT (.mk k [] 0 [] false 0 0 true []),plE,cT cO,.ah ⟨80,[i_ qd,b_ qh],true⟩]) rfl rfl rfl rfl (by simp[fF]) rfl rfl rfl (zzA (aX (cs:=[gg 3 (dN_ o.1)]) (h':=[cT (.mk k [] 0 [] false 0 0 true o.1),plE,cT cO,.ah ⟨80,[i_ qd,b_ qh],true⟩]) rfl rfl rfl (by cases dN_ o.1<;>rfl) (by simp[fF]) rfl (by simp only[aa2,List.all_nil,oY];rfl) rfl (aq ?_))));exact hF _ _ ⟨true,o.1,v.take i,rfl,rfl,rfl,by omega,CF hb fun x hx=>List.mem_of_mem_take hx,by rw[hRi,show o=(o.1,true) from by rw[←ho2]]⟩
   refine uCon (AK d has k hd) ?_;cases hq:iw d has k with
   | true =>
     have hd3:d+1≤3:=by
      unfold iw at hq;simp at hq;omega
     exact tail (d+1) (has||decide (k=14)) true hd3 (fun _=>by unfold eV;rw[if_pos hq]) (fun z=>by cases z)
   | false =>
     exact tail 0 false false (by omega) (fun z=>by cases z) (fun _=>by unfold eV;rw[if_neg (by rw[hq];decide)])
end
section
open Go Go.Aw Go.fg Go.RowKit
open Go.bG hiding u1 af
variable [bq]
theorem Ey{n:Nat}(hn:n≤2^30)(hP:Ec n)(s:af)(v:List Vl)(hz:bU v<n)(hb:iX v)(d:Nat)(has:Bool)(hd:d≤3):bn p_ 107 [.str s,.sl 6 (cA v),wC d has] (atR (mP (eV d has) s v)):=by
 refine (Yz _ _ _).bj (by simp only[aV,Aw.Pure,and_true,true_and];exact lj v) (by simp only[aV,Aw.Pure,and_true];exact jL _) ?_;unfold Sf;obtain⟨plE,hplE⟩:∃plE:aL,plE=.ah ⟨80,[i_ d,b_ has],true⟩:=⟨_,rfl⟩;have ldP0:∀{H:aa} {i:Nat} {K:AV→Prop},H[i]?=some plE→K (wC d has)→ak true 2 (.op i 0) H K:=fun h q=>ig (cs:=[i_ d,b_ has]) (b:=⟨80,[i_ d,b_ has],true⟩) rfl (by rw[h,hplE]) (by simp) rfl q;obtain⟨R,hR⟩:∃R,mP (eV d has) s v=R:=⟨_,rfl⟩;rw[hR];refine bW (cs:=[i_ d,b_ has]) (n:=0) (h':=[plE]) rfl rfl rfl (by rw[hplE];rfl) (bW (cs:=nS_ cO) (n:=1) (h':=[plE,cT cO]) rfl rfl rfl rfl ?_);have ret:∀(H:aa) (s:Sm) (b:Bool),H[1]?=some (cT cO)→R=(s,b)→ao 9 (.op 1 0) (.agg (nS_ s)) H fun g=>ak true 9 (.op 1 0) g fun r=>dK (atR R) (.aA [r,b_ b]) g:=by
  intro H s b h2 e;refine um (K:=fun r g=>dK (atR R) (.aA [r,b_ b]) g) h2 ?_;rw[e];exact .pure (by simp only[aV,Aw.Pure,and_true];exact jL _) rfl
 refine uCon CT (uCon (jf s) ?_);have em:s.map dF=bT s:=rfl;rw[em];refine uCon (Ez dX (bT s) (by decide)) ?_;have hi:=HI dX (bT s);have h11:(dX.length:Int)=11:=rfl;have hF:R=(let i:=kM dX (bT s)
  if i<5 then (dt 0 [],false)
  else if i<7 then vz (eV d has) (4+i) v
  else match eV d has (4+i) v (decide (4+i=14)) (decide (4+i≤12)) with
   | none=>(dt (4+i) [],false)
   | some (l,b)=>(.mk (4+i) [] 0 [] false 0 0 false l,b)):=by rw[←hR];rfl
 obtain⟨i,he⟩:∃i,kM dX (bT s)=i:=⟨_,rfl⟩;rw[he]at hF hi ⊢;dsimp only at hF;refine zzC ?_
 by_cases c1:i<5
 ·rw[if_pos c1]at hF;refine zzL (oF c1) (bf (cs:=nS_ cO) rfl ?_);exact ret _ _ false rfl hF
 rw[if_neg c1]at hF;refine zzK (nO c1) (fk (m:=i) rfl (by rw[IntKind.wrap_u8];omega) (xp (c:=4+i) (by decide) rfl rfl (by rw[IntKind.wrap_u8];omega) ?_));obtain⟨k,hk⟩:∃k,4+i=k:=⟨_,rfl⟩;rw[hk]at hF ⊢;refine bf (cs:=nS_ (dt k [])) rfl (bW (cs:=nS_ cO) (n:=2) (h':=[plE,cT cO,cT cO]) rfl rfl rfl rfl (aX (cs:=nS_ (dt k [])) (h':=[plE,cT cO,cT (dt k [])]) rfl rfl rfl rfl (by simp[fF]) rfl (rm _) rfl (zzA (zzU (c:=u8 k) rfl rfl (zzD ?_)))))
 by_cases c2:i<7
 ·rw[if_pos c2]at hF;refine zzL (oF (by omega)) (kC (H:=[plE,cT cO,cT (dt k [])]) rfl (ldP0 rfl (uCon (P9 hn hP v hz hb d has hd k) ?_)));rw[←hF];refine bo rfl rfl (bo rfl rfl ?_);exact ret _ _ _ rfl rfl
 rw[if_neg c2]at hF;refine zzK (nO (by omega)) (ldP0 rfl (zzA (zzU (c:=u8 k) rfl rfl (uCon (AK d has k hd) ?_))));unfold eV at hF;cases hq:iw d has k with
 | false =>
   rw[if_neg (by rw[hq];decide)]at hF;refine bo rfl rfl (bo rfl rfl (bW (cs:=[i_ 0,ff]) (n:=3) (h':=[plE,cT cO,cT (dt k []),.ah ⟨80,[i_ 0,ff],true⟩]) rfl rfl rfl rfl (aX (cs:=[i_ 0,ff]) (h':=[plE,cT cO,cT (dt k []),.ah ⟨80,[i_ 0,ff],true⟩]) rfl rfl rfl rfl (by simp) rfl rfl rfl (zzO (zzL rfl (kC (s:=dt k []) rfl ?_))))));exact ret _ _ false rfl hF
 | true =>
   rw[if_pos hq]at hF;have hd3:d+1≤3:=by
    unfold iw at hq;simp at hq;omega
   refine bo rfl rfl (bo rfl rfl (bW (cs:=[i_ 0,ff]) (n:=3) (h':=[plE,cT cO,cT (dt k []),.ah ⟨80,[i_ 0,ff],true⟩]) rfl rfl rfl rfl (aX (cs:=[i_ ((d:Int)+1),b_ (has||decide (k=14))]) (h':=[plE,cT cO,cT (dt k []),.ah ⟨80,[i_ ((d:Int)+1),b_ (has||decide (k=14))],true⟩]) rfl rfl rfl rfl (by simp) rfl rfl rfl (zzO (zzK rfl (ig (cs:=[i_ ((d:Int)+1),b_ (has||decide (k=14))]) (b:=⟨80,[i_ ((d:Int)+1),b_ (has||decide (k=14))],true⟩) rfl rfl (by simp) rfl (zzA (zzU (c:=u8 k) rfl rfl (zzG (zzA (zzU (c:=u8 k) rfl rfl (zzD (uCon (hP v hz hb (d+1) (has||decide (k=14)) (decide (k=14)) (decide (k≤12)) hd3) ?_)))))))))))));obtain⟨o,ho⟩:∃o,nL (3-(d+1)) (has||decide (k=14)) v (decide (k=14)) (decide (k≤12))=o:=⟨_,rfl⟩;rw[ho]at hF ⊢;refine bo rfl rfl (bo rfl rfl (zzA (aX (cs:=[gg 3 (dN_ o.1)]) (h':=[plE,cT cO,cT (.mk k [] 0 [] false 0 0 false o.1),.ah ⟨80,[i_ ((d:Int)+1),b_ (has||decide (k=14))],true⟩]) rfl rfl rfl (by cases dN_ o.1<;>rfl) (by simp[fF]) rfl (by simp only[aa2,List.all_nil,oY];rfl) rfl (kC (s:=.mk k [] 0 [] false 0 0 false o.1) rfl ?_))));exact ret _ _ _ rfl hF
end
section
open Go Go.Aw Go.fg Go.RowKit
open Go.bG hiding u1 af
def kX(m e sz:Nat)(x:AV)(H:aa)(rows:List (List AV)):Prop:=(rows=[]∧x=bF)∨(rows≠[]∧∃tid,m≤tid∧x=.sb tid sz rows∧H[tid]?=some (.tok e sz rows.length))
section
variable {m e sz:Nat} {x:AV} {H H':aa} {rows:List (List AV)}
theorem kX.app(g:kX m e sz x H rows)(j:aa):kX m e sz x (H++j) rows:=by
 rcases g with g|⟨h,id,hm,rfl,h2⟩
 ·exact .inl g
 ·exact .inr ⟨h,id,hm,rfl,by rw[gO (eQ.1 h2).1];exact h2⟩
theorem kX.set{i:Nat}{b:jH}{y:aL}(g:kX m e sz x H rows)(hi:H[i]?=some (.ah b)):kX m e sz x (H.set i y) rows:=by
 rcases g with g|⟨h,id,hm,rfl,h2⟩
 ·exact .inl g
 ·exact .inr ⟨h,id,hm,rfl,by rw[iF (fun q=>by subst q;rw[h2]at hi;cases hi)];exact h2⟩
theorem kX.le(g:kX m e sz x H rows):jM [x] [gg sz rows]:=by
 rcases g with⟨rfl,rfl⟩|⟨h,id,hm,rfl,h2⟩
 ·exact⟨Le.refl _,trivial⟩
 ·cases rows with
  | nil=>exact absurd rfl h
  | cons r l=>exact⟨⟨rfl,rfl⟩,trivial⟩
theorem kX.Pp(g:kX m e sz x H rows):Le x (gg sz rows):=g.le.1
theorem xM{bytes:Nat}(g:kX m e sz x H rows)(hm:m≤H.length){r:List AV}(hr:dk sz r=true)(hb:bytes≤1000)(hl:rows.length<2^36){K:AV→aa→Prop}
 (q:∀x' H',kX m e sz x' H' (rows++[r])→nU H H'→(∀(id:Nat) (en:aL) (h:aa),h.length≤m→Mo id en h H→Mo id en h H')→(∀(e2 sz2:Nat) (x2:AV) (rows2:List (List AV)),e2≠e→kX m e2 sz2 x2 H rows2→kX m e2 sz2 x2 H' rows2)→K x' H'):bP false e sz bytes x (.sl sz [r]) H K:=by
 have hall:[r].all (dk sz)=true:=by rw[aa2,hr];rfl
 rcases g with⟨rfl,rfl⟩|⟨hne,id,hmi,rfl,ht⟩
 ·unfold bP eE;rw[fP];refine⟨hall,⟨by simp[maxLen],by simp;omega⟩, ?_⟩;exact q _ _ (.inr ⟨by simp,_,hm,rfl,by simp⟩) (nU.app _ _) (fun id en h _ mo=>mo.tail _) fun e2 sz2 x2 rows2 _ g2=>g2.app _
 ·refine Eg rfl ht rfl fP hall ⟨by unfold maxLen;simp;omega,by
   simp only[aaB,abd,aaQ]
   calc (rows.length+1)*bytes≤(2^36)*1000:=Nat.mul_le_mul (by omega) hb
    _≤_:=by decide⟩ ?_
  have hlt:=(eQ.1 ht).1;refine q _ _ (.inr ⟨by simp,id,hmi,rfl,by rw[iD hlt];simp⟩) ⟨by simp,fun j b hj=>?_⟩ (fun i en h hle mo=>mo.vK (by omega) _) fun e2 sz2 x2 rows2 hne g2=>?_
  ·rw[iF (fun z=>by subst z;rw[ht]at hj;cases hj)];exact hj
  ·rcases g2 with g2|⟨h3,id2,hm2,rfl,h4⟩
   ·exact .inl g2
   ·exact .inr ⟨h3,id2,hm2,rfl,by rw[iF (fun z=>by subst z;rw[ht]at h4;injection (DO h4) with q1;exact hne q1.symm)];exact h4⟩
end
theorem kX.mv{m e sz id:Nat}{x:AV}{H H':aa}{rows:List (List AV)}{en:aL}(g:kX m e sz x H rows)(hid:id<m)(mo:Mo id en H H'):kX m e sz x H' rows:=by
 rcases g with g|⟨h,tid,hm,rfl,h2⟩
 ·exact .inl g
 ·exact .inr ⟨h,tid,hm,rfl,by rw[mo.other (eQ.1 h2).1 (by omega)];exact h2⟩
structure nY(h:aa)(id P X:Nat)(pl e:aL)(x:Sm)(a:AV)(rows:List (List AV))(H:aa):Prop where
 mo:Mo id e h H
 p:H[P]?=some pl
 x:H[X]?=some (cT x)
 g:kX h.length 46 9 a H rows
 l:id<h.length∧h.length≤P∧P<X
section
variable {h H H':aa} {id P X:Nat} {pl e e':aL} {x x':Sm} {a:AV} {rows:List (List AV)}
theorem nY.lt(s:nY h id P X pl e x a rows H):X<H.length:=(eQ.1 s.x).1
theorem nY.rd(s:nY h id P X pl e x a rows H):H[id]?=some e:=s.mo.at s.l.1
theorem nY.mv(s:nY h id P X pl e x a rows H)(m:Mo id e' H H'):nY h id P X pl e' x a rows H':=by
 have h1:=s.lt;have h2:=s.l;exact⟨s.mo.trans s.l.1 m,by rw[m.other (by omega) (by omega)];exact s.p,by rw[m.other h1 (by omega)];exact s.x,s.g.mv s.l.1 m,s.l⟩
theorem nY.app(s:nY h id P X pl e x a rows H)(j:aa):nY h id P X pl e x a rows (H++j):=by
 have q:∀{i:Nat} {en:aL},H[i]?=some en→(H++j)[i]?=some en:=fun h=>by rw[gO (eQ.1 h).1];exact h
 exact⟨s.mo.tail j,q s.p,q s.x,s.g.app j,s.l⟩
theorem nY.ZX(s:nY h id P X pl e x a rows H)(x':Sm):nY h id P X pl e x' a rows (H.set X (cT x')):=by
 have h1:=s.lt;have h2:=s.l;exact⟨s.mo.vK (by omega) _,by rw[iF (by omega)];exact s.p,iD h1,s.g.set s.x,s.l⟩
theorem nY.st{F:aa→Prop}(s:nY h id P X pl e x a rows H)(x':Sm)(k:nY h id P X pl e x' a rows (H.set X (cT x'))→F (H.set X (cT x'))):ao 9 (.op X 0) (.agg (nS_ x')) H F:=
 aX (cs:=nS_ x') rfl s.x rfl rfl (by simp[fF]) (fF x') (rm x') (by rw[kQ (by simp[fF])]) (k (s.ZX x'))
end
theorem MC[Laid]{id:Nat}{h:aa}{v r:List Vl}{y:Vl}{F:aa→Prop}(rd:h[id]?=some (dB v (y:: r)))(hs:(y:: r) <:+ v)(hv:v.length<2^40)(k1:∀z q,r=z:: q→F (h.set id (dB v q)))(k2:r=[]→∀e,F (h.set id e)):
 ca p_ (.op id 0) fun v11=>bp 1 v11 fun v12=>ak false 1 v12 h fun v13=>ae .add v13 (i_ 2) fun v14=>ca p_ (.op id 0) fun v15=>bp 1 v15 fun v16=>ao 1 v16 v14 h F:=by
 have hle:=hs.length_le;simp at hle;refine bx (zzA (zzU rd rfl (zzP (by unfold aJ;simp;omega) (bx (zzA ?_)))));cases r with
 | nil=>exact aX (cs:=[i_ (((v.length-([y]:List Vl).length:Nat):Int)+2)]) rfl rd rfl rfl (by simp) rfl rfl rfl (k2 rfl _)
 | cons z q =>
   have e:((v.length-(y:: z:: q).length:Nat):Int)+2=((v.length-q.length:Nat):Int):=by simp at hle ⊢;omega
   rw[e];exact aX (cs:=[i_ ((v.length-q.length:Nat):Int)]) (h':=h.set id (dB v q)) rfl rd rfl rfl (by simp) rfl rfl rfl (k1 z q rfl)
def FK(l:List Sm):Option (List Sm×List Vl)→Option (List Sm×List Vl)
 | some (m,r)=>some (l++m,r)
 | none=>none
theorem LP(l:List Sm)(x:Sm)(o:Option (List Sm×List Vl)):FK l (iY x o)=FK (l++[x]) o:=by
 cases o with
 | none=>rfl
 | some y=>simp[FK,iY]
section
variable {fn:af→List Vl→Sm×Bool} {t u:Vl} {q:List Vl}
theorem OE(h4:¬t.kind=4)(h9:t.kind=9∧t.text=[46]):dy fn [t]=none:=by rw[dy.eq_def];dsimp only;rw[if_neg h4,if_pos h9]
theorem F6(h4:¬t.kind=4)(h9:t.kind=9∧t.text=[46]):dy fn (t:: u:: q)=if u.kind=1 then iY (dt 2 u.text) (dy fn q) else none:=by rw[dy.eq_def];dsimp only;rw[if_neg h4,if_pos h9]
theorem F5(h4:¬t.kind=4)(h9:¬(t.kind=9∧t.text=[46]))(h19:t.kind=19):dy fn (t:: q)=if (lD t.list).2=true then iY (lD t.list).1 (dy fn q) else none:=by rw[dy.eq_def];dsimp only;rw[if_neg h4,if_neg h9,if_pos h19]
theorem OD(h4:¬t.kind=4)(h9:¬(t.kind=9∧t.text=[46]))(h19:¬t.kind=19)(h16:t.kind=16):dy fn [t]=none:=by rw[dy.eq_def];dsimp only;rw[if_neg h4,if_neg h9,if_neg h19,if_pos h16]
theorem sh(h4:¬t.kind=4)(h9:¬(t.kind=9∧t.text=[46]))(h19:¬t.kind=19)(h16:t.kind=16):dy fn (t:: u:: q)=if u.kind=1 then (if (mr u.text).2=true then iY (mr u.text).1 (dy fn q) else none)
 else if u.kind=2 then (if (fn u.text u.list).2=true then iY (fn u.text u.list).1 (dy fn q) else none) else none:=by rw[dy.eq_def];dsimp only;rw[if_neg h4,if_neg h9,if_neg h19,if_pos h16]
end
end
section
open Go Go.Aw Go.fg Go.RowKit
open Go.bG hiding u1 af
theorem JL(a b:List Sm):dW_ (a++b)=dW_ a++dW_ b:=by simp[Ca]
def Rnd(fn:af→List Vl→Sm×Bool)(h:aa)(id P X:Nat)(pl:aL)(v rest:List Vl)(a:AV)(rows:List (List AV))(s:List AV)(H:aa):Prop:=
 ∃(x:Sm) (b:Bool) (e:aL),s=[b_ b]∧nY h id P X pl e x a rows H∧(b=true→∃rest',e=dB v rest'∧dy fn rest=iY x (dy fn rest')∧rest' <:+ v∧rest'.length<rest.length)∧(b=false→dy fn rest=none)
variable [bq]
theorem MF{n:Nat}(hn:n≤2^30)(hP:Ec n){id:Nat}{h:aa}{v r:List Vl}{d:Nat}{has:Bool}{x:AV}{K:AV→aa→Prop}(rd:h[id]?=some (dB v r))(hs:r <:+ v)(hz:bU v≤n)(hb:iX v)(hd:d≤3)(ex:x=.op id 0)
 (k1:∀ss r' H,dy (mP (eV d has)) r=some (ss,r')→Mo id (dB v r') h H→K (.aA [gg 9 (dW_ ss),tt]) H)
 (k2:∀e H,dy (mP (eV d has)) r=none→Mo id e h H→K (.aA [bF,ff]) H) :
 bz p_ (.fn (.func 78) [] []) [x,wC d has] h K:=by
 subst ex;have hid:=(eQ.1 rd).1;have hlv:=mM v;obtain⟨fn,hfn⟩:∃fn,mP (eV d has)=fn:=⟨_,rfl⟩;rw[hfn]at k1 k2;refine cB (by kernel_rfl) rfl (K0:=fun w H=>(∃ss r',dy fn r=some (ss,r')∧Mo id (dB v r') h H∧w=.aA [gg 9 (dW_ ss),tt])∨(∃e,dy fn r=none∧Mo id e h H∧w=.aA [bF,ff])) ?_ (fun w H z=>z.elim (fun⟨ss,r',a,b,c⟩=>by subst c;exact k1 ss r' H a b) fun⟨e,a,b,c⟩=>by subst c;exact k2 e H a b);refine (V78 _ _).bI ?_;unfold X3;obtain⟨plE,hplE⟩:∃plE:aL,plE=.ah ⟨80,[i_ d,b_ has],true⟩:=⟨_,rfl⟩;have lF:∀{H:aa} {i:Nat} {K:AV→Prop},H[i]?=some plE→K (wC d has)→ak true 2 (.op i 0) H K:=fun h q=>ig (cs:=[i_ d,b_ has]) (b:=⟨80,[i_ d,b_ has],true⟩) rfl (by rw[h,hplE]) (by simp) rfl q;refine bW (cs:=[i_ d,b_ has]) (n:=h.length) (h':=h++[plE]) rfl rfl rfl (by rw[hplE]) ?_;have m0:Mo id (dB v r) h (h++[plE]):=(Mo.refl rd).tail _;refine bc (α:=List Sm×List Vl×AV×aa) (fun x=>dy fn r=FK x.1 (dy fn x.2.1)∧x.2.1 <:+ v∧x.1.length+x.2.1.length≤r.length∧Mo id (dB v x.2.1) h x.2.2.2∧x.2.2.2[h.length]?=some plE∧kX h.length 46 9 x.2.2.1 x.2.2.2 (dW_ x.1)) (fun x=>[x.2.2.1]) (fun x=>x.2.2.2) (fun x=>x.2.1.length) ([],r,bF,h++[plE]) ⟨by cases dy fn r<;>rfl,hs,by simp,m0,by simp,.inl ⟨rfl,rfl⟩⟩ (Wk.refl _ _ _ (bY _)) ?_;rintro⟨done,rest,a,H1⟩ ⟨hpre,hsr,hlen,mo,hp,hg⟩;dsimp only at hpre hsr hlen mo hp hg ⊢;have hle:=hs.length_le;have hlr:=hsr.length_le;have hH1:=mo.len;have hP1:=(eQ.1 hp).1;refine bf (cs:=nS_ cO) rfl (bW (cs:=nS_ cO) (n:=H1.length) (h':=H1++[cT cO]) rfl rfl rfl rfl (aX (cs:=nS_ cO) (h':=H1++[cT cO]) (b:=⟨46,nS_ cO,true⟩) rfl (by simp) rfl rfl (by simp[fF]) rfl rfl (by rw[IF _ _ (bY _)];simp;rfl) ?_));have s2:nY h id h.length H1.length plE (dB v rest) cO a (dW_ done) (H1++[cT cO]):=⟨mo.tail _,by rw[gO hP1];exact hp,by simp,hg.app _,hid,bY _,hP1⟩;obtain⟨X,hX⟩:∃X,H1.length=X:=⟨_,rfl⟩;obtain⟨H2,h2⟩:∃H2,H1++[cT cO]=H2:=⟨_,rfl⟩;rw[hX,h2]at s2;rw[hX,h2];clear h2;refine nj (n:=1) s2.rd hsr rfl (by omega) fun H3 m3=>?_;have s3:=s2.mv m3;refine jx ?_;have hT1:(H3++[aL.ah ⟨70,(cd rest 1).row,true⟩])[H3.length]?=some (.ah ⟨70,(cd rest 1).row,true⟩):=by simp
 have s4:=s3.app [aL.ah ⟨70,(cd rest 1).row,true⟩];obtain⟨T1,hT1l⟩:∃T1,H3.length=T1:=⟨_,rfl⟩;obtain⟨H4,h4⟩:∃H4,H3++[aL.ah ⟨70,(cd rest 1).row,true⟩]=H4:=⟨_,rfl⟩;have hT1X:X<T1:=by have:=s3.lt;omega
 rw[h4,hT1l]at hT1;rw[h4]at s4;rw[hT1l,h4];clear h4 hT1l;have hidT:id<T1:=by have:=s4.l;omega
 refine cP (Rnd fn h id h.length X plE v rest a (dW_ done)) ?_ ?_
 ·-- what comes behind
  rintro _ H ⟨y,b,e,rfl,s,hy1,hy0⟩;refine zzO ?_;cases b with
  | false =>
    refine zzL rfl ?_;exact⟨_,_,Wk.refl _ _ _ s.mo.len,.inr ⟨e,by rw[hpre,hy0 rfl];rfl,s.mo,rfl⟩⟩
  | true =>
    obtain⟨rest',rfl,hc,hs',hl'⟩:=hy1 rfl;refine zzK rfl (kC s.x (lp (cs:=nS_ y) rfl (fF y) rfl (rm y) ?_));refine xM s.g s.mo.len (by unfold dk;rw[fF,rm];rfl) (by decide) (by simp[Ca];omega) fun a' H' g' bk mv _=>?_;refine aq ?_;refine⟨(done++[y],rest',a',H'),⟨by rw[hpre,hc,LP],hs',by simp;omega,mv id _ h (bY _) s.mo, ?_,by rw[JL];simpa[dW_]using g'⟩,Wk.refl _ _ _ (by have:=s.mo.len;have:=bk.1;have:=hplE;have h9:=(eQ.1 s.p).1;simp;omega),hl'⟩;rw[hplE];exact bk.2 _ _ (by rw[s.p,hplE])
 ·intro F hF;refine nj (n:=0) s4.rd hsr rfl (by omega) fun H5 m5=>?_;have s5:=s4.mv m5;have hT15:H5[T1]?=some (.ah ⟨70,(cd rest 1).row,true⟩):=by rw[m5.other (eQ.1 hT1).1 (by omega)];exact hT1
  refine jx ?_;have hT0:(H5++[aL.ah ⟨70,(cd rest 0).row,true⟩])[H5.length]?=some (.ah ⟨70,(cd rest 0).row,true⟩):=by simp
  have hT16:(H5++[aL.ah ⟨70,(cd rest 0).row,true⟩])[T1]?=some (.ah ⟨70,(cd rest 1).row,true⟩):=by rw[gO (eQ.1 hT15).1];exact hT15
  have s6:=s5.app [aL.ah ⟨70,(cd rest 0).row,true⟩];obtain⟨T0,hT0l⟩:∃T0,H5.length=T0:=⟨_,rfl⟩;obtain⟨H6,h6⟩:∃H6,H5++[aL.ah ⟨70,(cd rest 0).row,true⟩]=H6:=⟨_,rfl⟩;have hT0X:X<T0:=by have:=s5.lt;omega
  rw[h6,hT0l]at hT0;rw[h6]at hT16 s6;rw[hT0l,h6];clear h6 hT0l hT15 m5 s5;refine zzA (zzU hT0 rfl (zzG ?_))
  by_cases c4:(cd rest 0).k=4
  ·-- an identifier
   refine zzL (oF c4) ?_;cases rest with
   | nil=>exact absurd c4 (by decide)
   | cons t q =>
     have c4:t.kind=4:=c4;refine⟨X, ?_⟩;refine zzA (zzU hT0 rfl (bf (cs:=nS_ (dt 1 t.text)) rfl (zzA (kW (qi (by omega)) (zzU hT0 rfl (kW (by simp[xo]) ?_))))));refine s6.st (dt 1 t.text) fun s7=>?_;refine qY s7.rd hsr (by omega) (aq ?_);refine hF _ _ ⟨_,t.flag,_,rfl,s7.mv (Mo.set id (dB v q) _),fun z=>⟨q,rfl, ?_,(List.suffix_cons _ _).trans hsr,by simp⟩,fun z=>?_⟩
     ·rw[dy.eq_def];dsimp only;rw[if_pos c4,if_pos z]
     ·rw[dy.eq_def];dsimp only;rw[if_pos c4,if_neg (by rw[z];decide)]
  refine zzK (nO c4) (zzA (zzU hT0 rfl (zzG ?_)));refine mq (decide ((cd rest 0).k=9)&&decide ((cd rest 0).t=[46])) rfl (fun z=>by rw[z];rfl) (fun z F2 hF2=>?_) (fun s hs2=>lh hs2 ?_)
  ·refine zzA (zzU hT0 rfl (zzI (aq ?_)));rw[z,Bool.true_and]at hF2;exact hF2
  by_cases c9:(cd rest 0).k=9∧(cd rest 0).t=[46]
  ·-- a class
   refine zzL (by simp[c9.1,c9.2]) ?_;cases rest with
   | nil=>exact absurd c9.1 (by decide)
   | cons t q =>
     have c4:¬t.kind=4:=c4;have c9:t.kind=9∧t.text=[46]:=c9;refine⟨X, ?_⟩;refine zzA (zzU hT16 rfl (bf (cs:=nS_ (dt 2 (cd (t:: q) 1).t)) rfl (zzA (kW (qi (by omega)) (zzU hT16 rfl (zzG (kW (by simp[xo]) ?_)))))));refine s6.st _ fun s7=>?_;refine MC s7.rd hsr (by omega) (fun u q2 hq=>?_) (fun hq e=>?_)
     ·subst hq;refine aq ?_;refine hF _ _ ⟨_,_,_,rfl,s7.mv (Mo.set id (dB v q2) _),fun z=>⟨q2,rfl, ?_,((List.suffix_cons _ _).trans (List.suffix_cons _ _)).trans hsr,by simp;omega⟩,fun z=>?_⟩
      ·have z:u.kind=1:=oN z;rw[F6 c4 c9,if_pos z];rfl
      ·have z:¬u.kind=1:=tO z;rw[F6 c4 c9,if_neg z]
     ·subst hq;refine aq ?_;exact hF _ _ ⟨_,_,_,rfl,s7.mv (Mo.set id e _),(fun z=>by cases z),fun z=>OE c4 c9⟩
  refine zzK (by
   by_cases z:(cd rest 0).k=9
   ·have:¬(cd rest 0).t=[46]:=fun w=>c9 ⟨z,w⟩;simp[this]
   ·simp[z]) ?_
  refine zzA (zzU hT0 rfl (zzG ?_))
  by_cases oM:(cd rest 0).k=19
  ·-- what is in square brackets
   refine zzL (oF oM) ?_;cases rest with
   | nil=>exact absurd oM (by decide)
   | cons t q =>
     have c4:¬t.kind=4:=c4;have c9:¬(t.kind=9∧t.text=[46]):=c9;have oM:t.kind=19:=oM;have hzt:=uH (hsr.subset (aa9 (a:=t) (l:=q)));have hzt2:=tA t;have hll:=mM t.list;refine ME (n:=0) (y:=t) s6.rd hsr rfl rfl (by omega) (uCon (Ni t.list (by omega)) (bo rfl rfl (bo rfl rfl ?_)));refine s6.st _ fun s7=>?_;refine qY s7.rd hsr (by omega) (aq ?_);refine hF _ _ ⟨_,_,_,rfl,s7.mv (Mo.set id (dB v q) _),fun z=>⟨q,rfl, ?_,(List.suffix_cons _ _).trans hsr,by simp⟩,fun z=>?_⟩
     ·rw[F5 c4 c9 oM,if_pos z]
     ·rw[F5 c4 c9 oM,if_neg (by rw[z];decide)]
  refine zzK (nO oM) (zzA (zzU hT0 rfl (zzG ?_)))
  by_cases sL:(cd rest 0).k=16
  ·-- a pseudo-class
   refine zzL (oF sL) ?_;cases rest with
   | nil=>exact absurd sL (by decide)
   | cons t q =>
     have c4:¬t.kind=4:=c4;have c9:¬(t.kind=9∧t.text=[46]):=c9;have oM:¬t.kind=19:=oM;have sL:t.kind=16:=sL;refine cP (fun s H=>∃(y:Sm) (b:Bool),s=[Aw.b_ b]∧nY h id h.length X plE (dB v (t:: q)) y a (dW_ done) H∧(b=true→∃u q2,q=u:: q2∧dy fn (t:: q)=iY y (dy fn q2))∧(b=false→dy fn (t:: q)=none)) ?_ ?_
     ·rintro _ H ⟨y,b,rfl,s7,hy1,hy0⟩;refine MC s7.rd hsr (by omega) (fun u q2 hq=>?_) (fun hq e=>?_)
      ·subst hq;refine aq ?_;refine hF _ _ ⟨y,b,_,rfl,s7.mv (Mo.set id (dB v q2) _),fun z=>⟨q2,rfl, ?_,((List.suffix_cons _ _).trans (List.suffix_cons _ _)).trans hsr,by simp;omega⟩,hy0⟩;obtain⟨u',q',e1,e2⟩:=hy1 z;cases e1;exact e2
      ·subst hq;refine aq ?_;refine hF _ _ ⟨y,b,_,rfl,s7.mv (Mo.set id e _),fun z=>?_,hy0⟩;obtain⟨u',q',e1,e2⟩:=hy1 z;cases e1
     ·intro F2 hF2;refine zzA (zzU hT16 rfl (zzG ?_))
      by_cases k1':(cd (t:: q) 1).k=1
      ·refine zzL (oF k1') ?_;cases q with
       | nil=>exact absurd k1' (show ¬(0:Int)=1 by decide)
       | cons u q2 =>
         have k1':u.kind=1:=k1';refine zzA (zzU hT16 rfl (uCon (Nz _) (bo rfl rfl (bo rfl rfl ?_))));refine s6.st _ fun s7=>?_;refine aq ?_;refine hF2 _ _ ⟨_,_,rfl,s7,fun z=>⟨u,q2,rfl, ?_⟩,fun z=>?_⟩
         ·rw[sh c4 c9 oM sL,if_pos k1',if_pos (show (mr u.text).2=true from z)];rfl
         ·rw[sh c4 c9 oM sL,if_pos k1',if_neg (by show ¬(mr u.text).2=true;rw[show (mr u.text).2=false from z];decide)]
      refine zzK (nO k1') (zzG ?_)
      by_cases k2':(cd (t:: q) 1).k=2
      ·refine zzL (oF k2') ?_;cases q with
       | nil=>exact absurd k2' (show ¬(0:Int)=2 by decide)
       | cons u q2 =>
         have k1':¬u.kind=1:=k1';have k2':u.kind=2:=k2';have humem:u∈v:=hsr.subset (by simp);have hzt:=uH humem;have hzt2:=tA u;refine zzA (zzU hT16 rfl ?_);refine⟨_,ME (n:=1) (y:=u) s6.rd hsr rfl rfl (by omega) ⟨rfl,rfl⟩, ?_⟩;refine lF s6.p ?_;refine⟨_,uCon (Ey hn hP u.text u.list (by omega) (RI (yp hb humem)) d has hd) ⟨rfl,rfl⟩, ?_⟩;rw[hfn];refine bo rfl rfl (bo rfl rfl ?_);refine s6.st _ fun s7=>?_;refine aq ?_;refine hF2 _ _ ⟨_,_,rfl,s7,fun z=>⟨u,q2,rfl, ?_⟩,fun z=>?_⟩
         ·rw[sh c4 c9 oM sL,if_neg k1',if_pos k2',if_pos z]
         ·rw[sh c4 c9 oM sL,if_neg k1',if_pos k2',if_neg (by rw[z];decide)]
      refine zzK (nO k2') (aq ?_);refine hF2 _ _ ⟨_,false,rfl,s6,(fun z=>by cases z),fun _=>?_⟩;cases q with
      | nil=>exact OD c4 c9 oM sL
      | cons u q2 =>
        have k1':¬u.kind=1:=k1';have k2':¬u.kind=2:=k2';rw[sh c4 c9 oM sL,if_neg k1',if_neg k2']
  refine zzK (nO sL) ?_;have hsm:dy fn rest=some ([],rest):=by
   cases rest with
   | nil=>rw[dy.eq_def]
   | cons t q =>
     have c4:¬t.kind=4:=c4;have c9:¬(t.kind=9∧t.text=[46]):=c9;have oM:¬t.kind=19:=oM;have sL:¬t.kind=16:=sL;rw[dy.eq_def];dsimp only;rw[if_neg c4,if_neg c9,if_neg oM,if_neg sL]
  rw[hsm]at hpre;refine⟨_,_,Wk.le (s':=[.aA [gg 9 (dW_ done),tt]]) s6.mo.len ⟨⟨s6.g.Pp,Le.refl _,trivial⟩,trivial⟩,.inl ⟨done,rest, ?_,s6.mo,rfl⟩⟩;rw[hpre];simp[FK]
end
section
open Go Go.Aw Go.fg Go.RowKit
open Go.bG hiding u1 af
theorem bn.Zq[Laid]{P:Program}{f:FuncId}{xs ys rest:List AV}{r:AV}(c:bn P f (.agg ys:: rest) r)(d:kv xs ys)(p:aV xs):bn P f (.agg xs:: rest) r:=by
 obtain⟨pa,pr,c⟩:=c;refine⟨?_,pr,fun base ι S w vs h1 h2=>c base ι S w vs ?_ h2⟩
 ·simp only[aV,Aw.Pure]at pa ⊢;exact⟨p,pa.2⟩
 ·rw[aE]at h1 ⊢;obtain⟨v,vs',rfl,h3,h4⟩:=h1;refine⟨v,vs',rfl, ?_,h4⟩;rw[au]at h3 ⊢;obtain⟨us,e,h5⟩:=h3;exact⟨us,e,aE.qB d _ h5⟩
theorem Ex[Laid](p:Cp)(hz:zP p<2^60)(d:Nat)(has:Bool)(hd:d≤3):bn p_ 50 [.agg (nP_ p),wC d has] (b_ (cZ d has p)):=
 bn.Zq ((Ep (zP p) hz).2.1 p (bY _) d has hd) (Lm p) (HX p)
abbrev Pf(cs:List Int):List (List AV):=cs.map fun c=>[u1 c]
abbrev zT(lead:Int)(aP aC:AV):aL:=.ah ⟨39,[u8 lead,aP,aC],true⟩
abbrev kH(t:af)(a:AV):aL:=.ah ⟨42,[.str t,a],true⟩
abbrev qZ:aL:=zT 0 bF bF
structure iV(d:Nat)(has:Bool)(B:Nat)(lead:Int)(re:aL)(ps:List Cp)(cs:List Int)(aP aC:AV)(H:aa):Prop where
 p:H[0]?=some (.ah ⟨80,[i_ d,b_ has],true⟩)
 z:H[1]?=some qZ
 rd:H[2]?=some re
 o:H[B]?=some (zT lead aP aC)
 gP:kX 3 42 2 aP H (fW_ ps)
 gC:kX 3 5 1 aC H (Pf cs)
 b:2<B
section
variable {d:Nat} {has:Bool} {re re':aL} {B:Nat} {lead:Int} {ps:List Cp} {cs:List Int} {aP aC:AV} {H H':aa}
theorem iV.lt(c:iV d has B lead re ps cs aP aC H):B<H.length:=(eQ.1 c.o).1
theorem iV.mv(c:iV d has B lead re ps cs aP aC H)(m:Mo 2 re' H H'):iV d has B lead re' ps cs aP aC H':=by
 have h1:=c.lt;have h2:=c.b;exact⟨by rw[m.other (by omega) (by decide)];exact c.p,by rw[m.other (by omega) (by decide)];exact c.z,m.at (by omega),by rw[m.other h1 (by omega)];exact c.o,c.gP.mv (by decide) m,c.gC.mv (by decide) m,c.b⟩
theorem iV.app(c:iV d has B lead re ps cs aP aC H)(j:aa):iV d has B lead re ps cs aP aC (H++j):=by
 have q:∀{i:Nat} {en:aL},H[i]?=some en→(H++j)[i]?=some en:=fun h=>by rw[gO (eQ.1 h).1];exact h
 exact⟨q c.p,q c.z,q c.rd,q c.o,c.gP.app j,c.gC.app j,c.b⟩
theorem iV.Oz{i:Nat}{b:jH}{y:aL}(c:iV d has B lead re ps cs aP aC H)(hi:H[i]?=some (.ah b))(h2:2<i)(hB:i≠B):iV d has B lead re ps cs aP aC (H.set i y):=by
 exact⟨by rw[iF (by omega)];exact c.p,by rw[iF (by omega)];exact c.z,by rw[iF (by omega)];exact c.rd,by rw[iF hB];exact c.o,c.gP.set hi,c.gC.set hi,c.b⟩
theorem iV.Yq{lead':Int}{F:aa→Prop}(c:iV d has B lead re ps cs aP aC H)(k:iV d has B lead' re ps cs aP aC (H.set B (zT lead' aP aC))→F (H.set B (zT lead' aP aC))):ao 1 (.op B (0+0)) (u8 lead') H F:=by
 have h1:=c.b;refine aX (cs:=[u8 lead']) rfl c.o rfl rfl (by simp) rfl rfl rfl (k ⟨by rw[iF (by omega)];exact c.p,by rw[iF (by omega)];exact c.z,by rw[iF (by omega)];exact c.rd,iD c.lt,c.gP.set c.o,c.gC.set c.o,c.b⟩)
theorem iV.ZQ{rb:jH}{p:Cp}{KA:aa→Prop}(c:iV d has B lead (.ah rb) ps cs aP aC H)(hl:ps.length<2^36)(k:∀aP' H',iV d has B lead (.ah rb) (ps++[p]) cs aP' aC H'→H.length≤H'.length→KA H'):
 bP false 42 2 40 aP (.sl 2 [nP_ p]) H fun v84 g85=>bp 1 (.op B 0) fun v86=>ao 1 v86 v84 g85 KA:=by
 have h1:=c.lt;have h2:=c.b;have hps:(fW_ ps).length=ps.length:=by simp[xU]
 refine xM c.gP (by omega) (by cases p;unfold dk;simp only[nP_,aaB,abd,aa2,List.all_nil,oY];rfl) (by decide) (by omega) fun a' H' g' bk _ kq=>?_;have gs:bQ a'=true:=by rcases g' with⟨_,rfl⟩|⟨_,t,_,rfl,_⟩<;>rfl
 have gv:bl a'=[a']:=by rcases g' with⟨_,rfl⟩|⟨_,t,_,rfl,_⟩<;>rfl
 have ho:=bk.2 _ _ c.o;refine zzA (aX (cs:=[a']) (h':=H'.set B (zT lead a' aC)) rfl ho rfl gv (by simp) rfl (by simp only[aa2,List.all_nil,gs];rfl) rfl ?_);have hl':=bk.1;refine k a' _ ⟨by rw[iF (by omega)];exact bk.2 _ _ c.p,by rw[iF (by omega)];exact bk.2 _ _ c.z,by rw[iF (by omega)];exact bk.2 _ _ c.rd,iD (by omega), ?_,(kq _ _ _ _ (by decide) c.gC).set ho,c.b⟩ (by simp;omega);have:fW_ (ps++[p])=fW_ ps++[nP_ p]:=by simp[xU]
 rw[this];exact g'.set ho
theorem iV.ZP{rb:jH}{cc:Int}{KA:aa→Prop}(c:iV d has B lead (.ah rb) ps cs aP aC H)(hl:cs.length<2^36)(k:∀aC' H',iV d has B lead (.ah rb) ps (cs++[cc]) aP aC' H'→H.length≤H'.length→KA H'):
 bP false 5 1 1 aC (.sl 1 [[u8 cc]]) H fun v84 g85=>bp 2 (.op B 0) fun v86=>ao 1 v86 v84 g85 KA:=by
 have h1:=c.lt;have h2:=c.b;have hps:(Pf cs).length=cs.length:=by simp
 refine xM c.gC (by omega) rfl (by decide) (by omega) fun a' H' g' bk _ kq=>?_;have gs:bQ a'=true:=by rcases g' with⟨_,rfl⟩|⟨_,t,_,rfl,_⟩<;>rfl
 have gv:bl a'=[a']:=by rcases g' with⟨_,rfl⟩|⟨_,t,_,rfl,_⟩<;>rfl
 have ho:=bk.2 _ _ c.o;refine zzA (aX (cs:=[a']) (h':=H'.set B (zT lead aP a')) rfl ho rfl gv (by simp) rfl (by simp only[aa2,List.all_nil,gs];rfl) rfl ?_);have hl':=bk.1;refine k a' _ ⟨by rw[iF (by omega)];exact bk.2 _ _ c.p,by rw[iF (by omega)];exact bk.2 _ _ c.z,by rw[iF (by omega)];exact bk.2 _ _ c.rd,iD (by omega),(kq _ _ _ _ (by decide) c.gP).set ho, ?_,c.b⟩ (by simp;omega);have:Pf (cs++[cc])=Pf cs++[[u8 cc]]:=by simp
 rw[this];exact g'.set ho
theorem iV.ld{K:AV→Prop}(c:iV d has B lead re ps cs aP aC H)(k:K (.agg [u8 lead,aP,aC])):ak true 3 (.op B 0) H K:=
 ig (cs:=[u8 lead,aP,aC]) rfl c.o (by simp) rfl k
theorem iV.lF{K:AV→Prop}(c:iV d has B lead re ps cs aP aC H)(k:K (wC d has)):ak true 2 (.op 0 0) H K:=
 ig (cs:=[i_ d,b_ has]) rfl c.p (by simp) rfl k
theorem iV.ret[Laid]{b:Bool}(c:iV d has B lead re ps cs aP aC H):
 ao 3 (.op 1 0) (.agg [u8 lead,aP,aC]) H fun g=>ak true 3 (.op 1 0) g fun r=>dK (.aA [.agg (nX_ (.mk lead ps cs)),b_ b]) (.aA [r,b_ b]) g:=by
 have h1:=c.lt;have h2:=c.b;have sP:bQ aP=true:=by rcases c.gP with⟨_,rfl⟩|⟨_,t,_,rfl,_⟩<;>rfl
 have sC:bQ aC=true:=by rcases c.gC with⟨_,rfl⟩|⟨_,t,_,rfl,_⟩<;>rfl
 refine aX (cs:=[u8 lead,aP,aC]) (h':=H.set 1 (zT lead aP aC)) rfl c.z rfl rfl (by simp) rfl (by simp only[aa2,List.all_nil,sP,sC];rfl) rfl ?_;refine ig (cs:=[u8 lead,aP,aC]) (b:=⟨39,[u8 lead,aP,aC],true⟩) rfl (iD (by omega)) (by simp) rfl ?_;refine⟨_,_,Wk.le (s':=[.aA [.agg (nX_ (.mk lead ps cs)),b_ b]]) (aaO _) ⟨⟨?_,Le.refl _,trivial⟩,trivial⟩,rfl⟩;rw[nX_];exact⟨Le.refl _,c.gP.Pp,c.gC.Pp,trivial⟩
end
end
section
open Go Go.Aw Go.fg Go.RowKit
open Go.bG hiding u1 af
abbrev cxR(o:Cx×Bool):AV:=.aA [.agg (nX_ o.1),b_ o.2]
variable [bq]
theorem GD{n:Nat}(hn:n<2^30)(hP:Ec n)(v:List Vl)(hz:bU v≤n)(hb:iX v)(d:Nat)(has rel:Bool)(hd:d≤3):bn p_ 46 [.sl 6 (cA v),wC d has,b_ rel] (cxR (mO (mP (eV d has)) (cZ d has) rel v)):=by
 refine (V46 _ _ _).bj (by simp only[aV,Aw.Pure,and_true,true_and];exact lj v) (by simp only[aV,Aw.Pure,and_true];exact Ia _) ?_;have hlv:=mM v;have hfz:∀s v,zS (mP (eV d has) s v).1≤1+3*bU v:=fun s v=>JB (Vf d has) s v;unfold XC;refine bW (cs:=[i_ d,b_ has]) (n:=0) (h':=[.ah ⟨80,[i_ d,b_ has],true⟩]) rfl rfl rfl rfl (bW (cs:=[u8 0,bF,bF]) (n:=1) (h':=[.ah ⟨80,[i_ d,b_ has],true⟩,qZ]) rfl rfl rfl rfl ?_);refine HH (α:=Unit) (fun _=>False) (fun _=>[]) (fun _=>[]) (fun _=>0) ?_ (fun _ z=>z.elim);refine bf rfl (bW (cs:=[.sl 6 (cA v),i_ 0]) (n:=2) (h':=[.ah ⟨80,[i_ d,b_ has],true⟩,qZ,LW v 0]) rfl rfl rfl rfl ?_);obtain⟨h,hh⟩:∃h,h=[aL.ah ⟨80,[i_ d,b_ has],true⟩,qZ,LW v 0]:=⟨_,rfl⟩;have hl3:h.length=3:=by rw[hh];rfl
 have rd0:h[2]?=some (dB v v):=by rw[hh];simp
 have p0:h[0]?=some (.ah ⟨80,[i_ d,b_ has],true⟩):=by rw[hh];rfl
 have z0:h[1]?=some qZ:=by rw[hh];rfl
 rw[←hh];clear hh;refine my rd0 (List.suffix_refl _) rfl (by omega) fun H1 m1=>?_;have l1:=m1.len;refine bW (cs:=[u8 0,bF,bF]) (n:=H1.length) (h':=H1++[qZ]) rfl rfl rfl rfl ?_;have c1:iV d has H1.length 0 (dB v (cv v)) [] [] bF bF (H1++[qZ]):=⟨by rw[gO (by omega),m1.other (by omega) (by decide)];exact p0,by rw[gO (by omega),m1.other (by omega) (by decide)];exact z0,by rw[gO (by omega)];exact m1.at (by omega),by simp,.inl ⟨rfl,rfl⟩,.inl ⟨rfl,rfl⟩,by omega⟩;obtain⟨B,hB⟩:∃B,H1.length=B:=⟨_,rfl⟩;obtain⟨H2,h2⟩:∃H2,H1++[qZ]=H2:=⟨_,rfl⟩;rw[hB,h2]at c1;rw[hB,h2];clear h2 hB m1 l1;have sv:=lz v;obtain⟨fn,hfn⟩:∃fn,mP (eV d has)=fn:=⟨_,rfl⟩;obtain⟨R,hR⟩:∃R,mO (mP (eV d has)) (cZ d has) rel v=R:=⟨_,rfl⟩;have hRd:R=(let c:=ko (cv v)
  if rel=true then js fn (cZ d has) (if c.1=0 then 1 else c.1) (c.2.length+1) [] [] c.2 else js fn (cZ d has) 0 ((cv v).length+1) [] [] (cv v)):=by rw[←hR,hfn];rfl
 rw[hR];rw[hfn]at hfz;dsimp only at hRd;refine cP (fun s H=>s=[]∧∃lead rest,iV d has B lead (dB v rest) [] [] bF bF H∧rest <:+ v∧R=js fn (cZ d has) lead (rest.length+1) [] [] rest) ?_ ?_
 ·rintro _ Hs ⟨rfl,lead,rest0,c0,sf0,hR0⟩;have le0:=sf0.length_le;refine bc (α:=List Cp×List Int×List Vl×AV×AV×aa×Nat) (fun x=>R=js fn (cZ d has) lead x.2.2.2.2.2.2 x.1 x.2.1 x.2.2.1∧x.2.2.1.length<x.2.2.2.2.2.2∧x.1.length+x.2.2.1.length≤v.length∧x.2.1.length≤x.1.length∧iV d has B lead (dB v x.2.2.1) x.1 x.2.1 x.2.2.2.1 x.2.2.2.2.1 x.2.2.2.2.2.1∧x.2.2.1 <:+ v∧Hs.length≤x.2.2.2.2.2.1.length) (fun _=>[]) (fun x=>x.2.2.2.2.2.1) (fun x=>x.2.2.1.length) ([],[],rest0,bF,bF,Hs,rest0.length+1) ⟨hR0,Nat.lt_succ_self _,by simpa using le0,bY _,c0,sf0,bY _⟩ (Wk.refl _ _ _ (bY _)) ?_;rintro⟨ps,cs,rest,aP,aC,H,fuel⟩ ⟨hRl,hfu,hps,hcs,c,sf,hHs⟩;dsimp only at hRl hfu hps hcs c sf hHs ⊢;have ler:=sf.length_le;have hcl:=c.lt;have hcb:=c.b;obtain⟨fuel,rfl⟩:∃k,fuel=k+1:=⟨fuel-1,by omega⟩;rw[js]at hRl;refine bW (cs:=[.str [],bF]) (n:=H.length) (h':=H++[kH [] bF]) rfl rfl rfl rfl ?_;have c2:=c.app [kH [] bF];have hC2:(H++[kH [] bF])[H.length]?=some (kH [] bF):=by simp
  obtain⟨C,hC⟩:∃C,H.length=C:=⟨_,rfl⟩;obtain⟨H2,h2⟩:∃H2,H++[kH [] bF]=H2:=⟨_,rfl⟩;have hH2:H2.length=C+1:=by rw[←h2,←hC];simp
  rw[h2]at c2 hC2;rw[hC]at hC2;rw[hC,h2];clear h2;have hCB:C≠B:=by omega
  have hC3:2<C:=by omega
  refine cP (fun s H=>s=[]∧iV d has B lead (dB v (eF rest).2) ps cs aP aC H∧H[C]?=some (kH (eF rest).1 bF)∧H2.length≤H.length) ?_ ?_
  ·rintro _ H3 ⟨rfl,c3,hC3',hl3'⟩;obtain⟨tg,htg⟩:∃tg,eF rest=tg:=⟨_,rfl⟩;have sft:tg.2 <:+ rest:=by rw[←htg];exact (Ml rest).2
   rw[htg]at hRl c3 hC3';refine c3.lF ?_;refine MF (Nat.le_of_lt hn) hP c3.rd (sft.trans sf) hz hb hd rfl (fun ss r' H4 hsm m4=>?_) (fun e H4 hsm m4=>?_)
   ·rw[hfn]at hsm;rw[hsm]at hRl;dsimp only at hRl;have hone:=Pv hfz (v:=rest) (r:=r') (ss:=ss) (by rw[htg];exact hsm);rw[htg]at hone;have sfr:r' <:+ v:=hone.2.1.trans sf;have c4:=c3.mv m4;have hC4:H4[C]?=some (kH tg.1 bF):=by rw[m4.other (by omega) (by omega)];exact hC3'
    have l4:=m4.len;have hgv:bl (gg 9 (dW_ ss))=[gg 9 (dW_ ss)]:=by cases dW_ ss<;>rfl
    have hzr:=rC sf;refine bo rfl rfl (bo rfl rfl (zzA (aX (cs:=[gg 9 (dW_ ss)]) (h':=H4.set C (kH tg.1 (gg 9 (dW_ ss)))) rfl hC4 rfl hgv (by simp) rfl (by simp only[aa2,List.all_nil,oY];rfl) rfl ?_)));have c5:=c4.Oz (y:=kH tg.1 (gg 9 (dW_ ss))) hC4 hC3 hCB;have hC5:(H4.set C (kH tg.1 (gg 9 (dW_ ss))))[C]?=some (kH tg.1 (gg 9 (dW_ ss))):=iD (eQ.1 hC4).1;have l5:(H4.set C (kH tg.1 (gg 9 (dW_ ss)))).length=H4.length:=by simp
    obtain⟨H5,h5⟩:∃H5,H4.set C (kH tg.1 (gg 9 (dW_ ss)))=H5:=⟨_,rfl⟩;rw[h5]at c5 hC5 l5 ⊢;clear h5;obtain⟨p,hp⟩:∃p,Cp.mk tg.1 ss=p:=⟨_,rfl⟩;have hnp:[AV.str tg.1,gg 9 (dW_ ss)]=nP_ p:=by rw[←hp,nP_]
    rw[hp]at hone hRl;refine zzO (aH (zzN rfl (ig (cs:=nP_ p) rfl hC5 (by simp) (by rw[←hnp];rfl) (c5.lF (uCon (Ex p (by have:=hone.1;omega) d has hd) (zzO (aq (zzQ ?_))))))));cases hok:cZ d has p with
    | false =>
      rw[if_neg (by rw[hok];decide)]at hRl;refine zzL rfl (c5.ld ?_);rw[hRl];exact c5.ret
    | true =>
      rw[if_pos hok]at hRl;have hlt:r'.length<rest.length:=by
       have h1:=hone.2.2 (vA (by rw[hp];exact hok));rcases uP r'.length rest.length with k|k
       ·exact k
       ·have:r'=rest:=hone.2.1.eq_of_length (Nat.le_antisymm hone.2.1.length_le k);subst this;omega
      refine zzK rfl (zzA (zzU c5.o rfl (ig (cs:=nP_ p) rfl hC5 (by simp) (by rw[←hnp];rfl) (lp (cs:=nP_ p) rfl (by rw[←hnp];rfl) rfl (by rw[←hnp];simp only[aa2,List.all_nil,oY];rfl) ?_))));refine c5.ZQ (by omega) fun aP' H6 c6 l6=>?_;refine my c6.rd sfr rfl (by omega) fun H7 m7=>?_;have c7:=c6.mv m7;have l7:=m7.len;have sf7:=(lz r').trans sfr;refine BB c7.rd sf7 rfl ?_;obtain⟨q,hq⟩:∃q,cv r'=q:=⟨_,rfl⟩;have hql:q.length≤r'.length:=by rw[←hq];exact (lz r').length_le
      rw[hq]at hRl c7 sf7 ⊢;cases q with
      | nil =>
        rw[if_pos rfl]at hRl;refine zzL rfl ?_;have hcb7:=c7.b;refine⟨1, ?_⟩;refine c7.ld (zzA (kW (qi (by omega)) (zzU c7.o rfl ?_)));have hlen:∀{K:AV→Prop},K (i_ ((ps++[p]).length:Nat))→ja aP' K:=by
         intro K k;have e:(fW_ (ps++[p])).length=(ps++[p]).length:=by simp[xU]
         rw[←e]at k;rcases c7.gP with⟨e2,rfl⟩|⟨_,t,_,rfl,_⟩
         ·rw[e2]at k;exact k
         ·exact k
        refine hlen (zzD (kW (by simp[xo]) ?_));have hdec:decide ((((ps++[p]).length:Nat):Int)≤64)=decide (ps.length+1≤64):=by
         simp only[AT,aaB,abd];exact decide_eq_decide.2 (by omega)
        rw[hdec,hRl];exact c7.ret
      | cons q0 q1 =>
        rw[if_neg (by simp)]at hRl;refine zzK rfl ?_;refine MD c7.rd sf7 rfl (by omega) fun H8 m8=>?_;have c8:=c7.mv m8;have l8:=m8.len;obtain⟨cb,hcb'⟩:∃cb,ko (q0:: q1)=cb:=⟨_,rfl⟩;have sfc:cb.2 <:+ (q0:: q1):=by rw[←hcb'];exact G8 _
        have hcl2:=sfc.length_le;rw[hcb']at hRl c8 ⊢;refine cP (fun s H=>H=H8∧∃by':Int,s=[u8 by']∧R=js fn (cZ d has) lead fuel (ps++[p]) (cs++[by']) cb.2) ?_ ?_
        ·rintro _ _ ⟨rfl,by',rfl,hR9⟩;refine zzA (zzU c8.o rfl (lp (cs:=[u8 by']) rfl rfl rfl rfl ?_));refine c8.ZP (by omega) fun aC' H9 c9 l9=>?_;refine aq ?_;exact⟨(ps++[p],cs++[by'],cb.2,aP',aC',H9,fuel),⟨hR9,by dsimp only;omega,by simp;omega,by simp;omega,c9,sfc.trans sf7,by dsimp only;omega⟩,Wk.refl _ _ _ (by omega),by dsimp only;omega⟩
        ·intro F hF;refine zzG ?_;refine mq (decide (cb.1=0)&&!decide ((q0:: q1).length<r'.length)) rfl (fun z=>by rw[z];rfl) (fun z F2 hF2=>?_) (fun s hs2=>lh hs2 ?_)
         ·refine zzO (aq ?_);rw[z,Bool.true_and]at hF2;exact hF2
         by_cases z1:cb.1=0
         ·rw[if_pos z1]at hRl
          by_cases z2:(q0:: q1).length=r'.length
          ·rw[if_pos z2]at hRl;refine zzL (by rw[z2];simp[z1]) (c8.ld ?_);rw[hRl];exact c8.ret
          ·rw[if_neg z2]at hRl;have:(q0:: q1).length<r'.length:=by omega
           refine zzK (by rw[oF this];simp) (zzG (zzL (oF z1) (aq ?_)));exact hF _ _ ⟨rfl,1,rfl,hRl⟩
         ·rw[if_neg z1]at hRl;refine zzK (by simp[z1]) (zzG (zzK (nO z1) (aq ?_)));exact hF _ _ ⟨rfl,cb.1,rfl,hRl⟩
   ·rw[hfn]at hsm;rw[hsm]at hRl;dsimp only at hRl;have c4:=c3.mv m4;have hC4:H4[C]?=some (kH tg.1 bF):=by rw[m4.other (by omega) (by omega)];exact hC3'
    refine bo rfl rfl (bo rfl rfl (zzA (aX (cs:=[bF]) (h':=H4.set C (kH tg.1 bF)) rfl hC4 rfl rfl (by simp) rfl rfl rfl ?_)));have c5:=c4.Oz (y:=kH tg.1 bF) hC4 hC3 hCB;refine zzO (aH (zzM rfl (aq (zzR (zzL rfl (c5.ld ?_))))));rw[hRl];exact c5.ret
  ·intro F hF;have stT:∀(H:aa) (r:List Vl) (tg:af) (G:aa→Prop),iV d has B lead (dB v r) ps cs aP aC H→H[C]?=some (kH [] bF)→(iV d has B lead (dB v r) ps cs aP aC (H.set C (kH tg bF))→(H.set C (kH tg bF))[C]?=some (kH tg bF)→G (H.set C (kH tg bF)))→ao 1 (.op C (0+0)) (.str tg) H G:=by
    intro H r tg G c hC k;exact aX (cs:=[.str tg]) rfl hC rfl rfl (by simp) rfl rfl rfl (k (c.Oz (y:=kH tg bF) hC hC3 hCB) (iD (eQ.1 hC).1))
   refine nj (n:=0) c2.rd sf rfl (by omega) fun H3 m3=>?_;have c3:=c2.mv m3;have l3:=m3.len;have hC3':H3[C]?=some (kH [] bF):=by rw[m3.other (by omega) (by omega)];exact hC2
   refine jx ?_;have hT:(H3++[aL.ah ⟨70,(cd rest 0).row,true⟩])[H3.length]?=some (.ah ⟨70,(cd rest 0).row,true⟩):=by simp
   have c4:=c3.app [aL.ah ⟨70,(cd rest 0).row,true⟩];have hC4:(H3++[aL.ah ⟨70,(cd rest 0).row,true⟩])[C]?=some (kH [] bF):=by rw[gO (by omega)];exact hC3'
   have l4:(H3++[aL.ah ⟨70,(cd rest 0).row,true⟩]).length=H3.length+1:=by simp
   obtain⟨T,hTl⟩:∃T,H3.length=T:=⟨_,rfl⟩;obtain⟨H4,h4⟩:∃H4,H3++[aL.ah ⟨70,(cd rest 0).row,true⟩]=H4:=⟨_,rfl⟩;rw[h4,hTl]at hT;rw[h4]at c4 hC4 l4;rw[hTl,h4];clear h4;refine zzA (zzU hT rfl (zzG ?_))
   by_cases k1':(cd rest 0).k=1
   ·refine zzL (oF k1') ?_;cases rest with
    | nil=>exact absurd k1' (show ¬(0:Int)=1 by decide)
    | cons t q =>
      have k1':t.kind=1:=k1';have htg:eF (t:: q)=(bT t.text,q):=by rw[eF,if_pos k1']
      rw[htg]at hF;refine zzA (zzU hT rfl (uCon (jf _) ?_));have em:(cd (t:: q) 0).t.map dF=bT t.text:=rfl;rw[em];refine zzA ?_;refine stT H4 _ _ _ c4 hC4 fun c5 hC5=>?_;refine qY c5.rd sf (by omega) ?_;have c6:=c5.mv (Mo.set 2 (dB v q) _);refine aq ?_;exact hF _ _ ⟨rfl,c6,by rw[iF (by omega)];exact hC5,by simp;omega⟩
   ·refine zzK (nO k1') ?_;refine BA (c:=42) c4.rd sf rfl (by omega) (fun r' H5 e m5=>?_) (fun H5 e m5=>?_)
    ·have c5:=c4.mv m5;have l5:=m5.len;have hC5:H5[C]?=some (kH [] bF):=by rw[m5.other (by omega) (by omega)];exact hC4
     have htg:eF rest=([42],r'):=by
      cases rest with
      | nil=>cases e
      | cons t q =>
        have k1':¬t.kind=1:=k1';rw[eF,if_neg k1',e]
     rw[htg]at hF;refine zzL rfl (zzA ?_);refine stT H5 _ _ _ c5 hC5 fun c6 hC6=>?_;refine aq ?_;exact hF _ _ ⟨rfl,c6,hC6,by simp;omega⟩
    ·have c5:=c4.mv m5;have l5:=m5.len;have hC5:H5[C]?=some (kH [] bF):=by rw[m5.other (by omega) (by omega)];exact hC4
     have htg:eF rest=([],rest):=by
      cases rest with
      | nil=>rfl
      | cons t q =>
        have k1':¬t.kind=1:=k1';rw[eF,if_neg k1',e]
     rw[htg]at hF;refine zzK rfl (aq ?_);exact hF _ _ ⟨rfl,c5,hC5,by omega⟩
 ·intro F hF;have em:∀lead rest H,iV d has B lead (dB v rest) [] [] bF bF H→rest <:+ v→R=js fn (cZ d has) lead (rest.length+1) [] [] rest→F [] H:=fun lead rest H c s e=>hF _ _ ⟨rfl,lead,rest,c,s,e⟩;cases rel with
  | false =>
    refine zzK rfl (aq ?_);exact em _ _ _ c1 sv (by rw[hRd,if_neg (by decide)])
  | true =>
    rw[if_pos rfl]at hRd;refine zzL rfl ?_;have sc:=(G8 (cv v)).trans sv;refine MD c1.rd sv rfl (by omega) fun H3 m3=>?_;have c3:=c1.mv m3;refine zzA ?_;refine c3.Yq fun c4=>?_;refine zzA (zzU c4.o rfl (zzG ?_))
    by_cases q:(ko (cv v)).1=0
    ·rw[if_pos q]at hRd;refine zzL (oF q) (zzA ?_);refine c4.Yq fun c5=>?_;refine aq ?_;exact em _ _ _ c5 sc hRd
    ·rw[if_neg q]at hRd;refine zzK (nO q) (aq ?_);exact em _ _ _ c4 sc hRd
end
end Go.Proofs.YtpcnidmmkknndaaGreatDoor
end
