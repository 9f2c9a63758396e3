/-
 A list: the walk.
 No conditions.
-/
import Derived.Test.YtpcnidmmkknndaaGreatDoorProg
import Derived.KernelRfl
import Derived.Shelf.Strconv.Itoa4
import Derived.Lib.AppendIntMem
import Derived.Lib.ItoaNum
import Derived.Test.YtpcnidmmkknndaaGreatDoorZg
import Derived.Test.YtpcnidmmkknndaaGreatDoorZc
import Derived.Test.YtpcnidmmkknndaaGreatDoorZd
import Derived.Test.YtpcnidmmkknndaaGreatDoorZf
set_option linter.unusedVariables false
set_option linter.unusedSimpArgs false
set_option linter.unusedSectionVars false
set_option maxRecDepth 1000000
set_option maxHeartbeats 16000000
open Go.Proofs.Tryz renaming prog→p_
noncomputable section
namespace Go.Proofs.YtpcnidmmkknndaaGreatDoor
section
open Go Go.Aw Go.fg Go.RowKit
open Go.bG hiding u1 af
def pw(pre:List Vl)(rest:List Vl):List (List Vl):=match eZ rest with|h:: t=>(pre++h):: t|[]=>[pre]
theorem OH(pre:List Vl):pw pre []=[pre]:=by unfold pw;rw[eZ];simp
theorem Mb(rest:List Vl):pw [] rest=eZ rest:=by
 unfold pw;cases h:eZ rest with
 | nil=>exact absurd h (xn rest).2
 | cons a t=>simp
theorem JX{x:Vl}(h:x.kind=18)(pre rest:List Vl):pw pre (x:: rest)=pre:: eZ rest:=by unfold pw;rw[eZ,if_pos h];simp
theorem Mc{x:Vl}(h:¬x.kind=18)(pre rest:List Vl):pw pre (x:: rest)=pw (pre++[x]) rest:=by
 unfold pw;rw[eZ,if_neg h];cases e:eZ rest with
 | nil=>exact absurd e (xn rest).2
 | cons a t=>simp
theorem Od(l:List Cx)(x:Cx):dN_ (l++[x])=dN_ l++[nX_ x]:=by simp[Cc]
theorem rV(x:Cx):(nX_ x).length=3:=by cases x;rfl
theorem Cb(x:Cx):(nX_ x).all bQ=true:=by cases x;simp only[nX_,aa2,List.all_nil,oY];rfl
variable [bq]
theorem Rc{n:Nat}(hn:n<2^30)(hP:Ec n):Ec (n+1):=by
 intro v hz hb d has rel forg hd;have hlv:=mM v;have hlen:(cA v).length=v.length:=by simp[eg]
 refine (V32 _ _ _ _).bj (by simp only[aV,Aw.Pure,and_true,true_and];exact lj v) (Ol _) ?_;unfold Xp;obtain⟨cp,hcp⟩:∃cp,mO (mP (eV d has)) (cZ d has) rel=cp:=⟨_,rfl⟩;obtain⟨R,hR⟩:∃R,nL (3-d) has v rel forg=R:=⟨_,rfl⟩;have hR0:R=ib cp forg (eZ v) []:=by rw[←hR,←hcp];exact se hd has v rel forg
 rw[hR];refine bW (cs:=[i_ d,b_ has]) (n:=0) (h':=[.ah ⟨80,[i_ d,b_ has],true⟩]) rfl rfl rfl rfl ?_;refine zzf (n:=v.length) hlen fun _=>?_;refine zzP (by unfold aJ;omega) ?_;refine bc (α:=List Cx×Nat×Nat×AV×aa) (fun x=>x.2.2.1≤v.length+1∧x.2.1≤x.2.2.1∧(x.2.2.1≤v.length→R=ib cp forg (pw ((v.take x.2.2.1).drop x.2.1) (v.drop x.2.2.1)) x.1)∧(x.2.2.1=v.length+1→R=(x.1,true))∧kX 1 39 3 x.2.2.2.1 x.2.2.2.2 (dN_ x.1)∧x.2.2.2.2[0]?=some (.ah ⟨80,[i_ d,b_ has],true⟩)∧x.1.length≤x.2.2.1) (fun x=>[x.2.2.2.1,i_ x.2.1,i_ x.2.2.1]) (fun x=>x.2.2.2.2) (fun x=>v.length+1-x.2.2.1) ([],0,0,bF,[.ah ⟨80,[i_ d,b_ has],true⟩])
  ⟨aaO _,bY _,fun _=>by rw[hR0];simp[Mb],(fun z=>by simp at z),.inl ⟨rfl,rfl⟩,rfl,bY _⟩ (Wk.refl _ _ _ (bY _)) ?_
 rintro⟨acc,from',i,a,H⟩ ⟨hi,hfr,hRi,hRe,hg,hp,hal⟩;dsimp only at hi hfr hRi hRe hg hp hal ⊢;have hH:=(eQ.1 hp).1;refine zzC ?_;rcases uP i (v.length+1) with q|q
 ·have hRi:=hRi (by omega);refine zzL (oF (by omega)) ?_
  -- what comes behind
  have next:∀(acc':List Cx) (fr':Nat) (a':AV) (H':aa),fr'≤i+1→(i+1≤v.length→R=ib cp forg (pw ((v.take (i+1)).drop fr') (v.drop (i+1))) acc')→(i+1=v.length+1→R=(acc',true))→kX 1 39 3 a' H' (dN_ acc')→H'[0]?=some (.ah ⟨80,[i_ d,b_ has],true⟩)→acc'.length≤i+1 →
   ae .add (i_ i) (i_ 1) fun v40=>[AV.sl 6 (cA v),b_ rel,b_ forg,.op 0 0,i_ ((v.length:Int)+1)]=[AV.sl 6 (cA v),b_ rel,b_ forg,.op 0 0,i_ ((v.length:Int)+1)] ∧
    ∃y:List Cx×Nat×Nat×AV×aa,(y.2.2.1≤v.length+1∧y.2.1≤y.2.2.1∧(y.2.2.1≤v.length→R=ib cp forg (pw ((v.take y.2.2.1).drop y.2.1) (v.drop y.2.2.1)) y.1)∧(y.2.2.1=v.length+1→R=(y.1,true))∧kX 1 39 3 y.2.2.2.1 y.2.2.2.2 (dN_ y.1)∧y.2.2.2.2[0]?=some (.ah ⟨80,[i_ d,b_ has],true⟩)∧y.1.length≤y.2.2.1)∧Wk [aL.ah ⟨80,[i_ d,b_ has],true⟩].length [a',i_ fr',v40] H' [y.2.2.2.1,i_ y.2.1,i_ y.2.2.1] y.2.2.2.2∧v.length+1-y.2.2.1<v.length+1-i:=by
   intro acc' fr' a' H' e1 e2 e3 e4 e5 e6;have hH':=(eQ.1 e5).1;refine zzP (by unfold aJ;omega) ?_;exact⟨rfl,(acc',fr',i+1,a',H'),⟨by dsimp only;omega,e1,e2,e3,e4,e5,e6⟩,Wk.refl _ _ _ (by simp;omega),by dsimp only;omega⟩
  refine aH ?_;refine zzf (n:=v.length) hlen fun _=>?_;refine zzC ?_;obtain⟨pre,hpre⟩:∃pre,(v.take i).drop from'=pre:=⟨_,rfl⟩;rw[hpre]at hRi;refine mq (match v[i]? with|some x=>!decide (x.kind=18)|none=>false) rfl (fun z=>?_) (fun z F2 hF2=>?_) (fun s hs=>lh hs ?_)
  ·rw[iS (by simp at z;omega)]
  ·have hlt:i<v.length:=by simp at z;omega
   obtain⟨x,hx⟩:∃x,v[i]?=some x:=⟨_,dO hlt⟩;rw[hx]at hF2;refine zzb (eg v) rfl hx (zzX (zzX (dY (c:=u8 x.kind) (by rw[lq];rfl) (zzH (aq ?_)))));exact hF2
  by_cases hX:(match v[i]? with|some x=>!decide (x.kind=18)|none=>false)=true
  ·-- it goes on
   refine zzL hX (aq ?_);have hlt:i<v.length:=by
    rcases uP i v.length with k|k
    ·exact k
    ·rw[iS k]at hX;cases hX
   obtain⟨x,hx⟩:∃x,v[i]?=some x:=⟨_,dO hlt⟩;rw[hx]at hX;have hk:¬x.kind=18:=by simpa using hX
   have hdr:v.drop i=x:: v.drop (i+1):=by rw[aba hlt,(eQ.1 hx).2]
   refine next acc from' a H (by omega) (fun _=>?_) (fun z=>by omega) hg hp (by omega)
   rw[hRi,hdr,Mc hk];have:(v.take (i+1)).drop from'=pre++[x]:=by
    rw[By,hx,List.drop_append_of_le_length (by simp;omega),hpre];rfl
   rw[this]
  ·-- a part that is whole
   have hX:(match v[i]? with|some x=>!decide (x.kind=18)|none=>false)=false:=by simpa using hX
   refine zzK hX ?_;obtain⟨ps,e1,e2,e3⟩:∃ps,pw pre (v.drop i)=pre:: ps∧(i+1≤v.length→ps=eZ (v.drop (i+1)))∧(i+1=v.length+1→ps=[]):=by
    rcases uP i v.length with k|k
    ·obtain⟨x,hx⟩:∃x,v[i]?=some x:=⟨_,dO k⟩;rw[hx]at hX;have hk:x.kind=18:=by simpa using hX
     have hdr:v.drop i=x:: v.drop (i+1):=by rw[aba k,(eQ.1 hx).2]
     exact⟨eZ (v.drop (i+1)),by rw[hdr,JX hk],fun _=>rfl,fun z=>by omega⟩
    ·exact⟨[],by rw[List.drop_of_length_le k,OH],fun z=>by omega,fun _=>rfl⟩
   rw[e1,ib]at hRi;refine cP (fun s H' => ∃acc' a',s=[a']∧R=ib cp forg ps acc'∧kX 1 39 3 a' H' (dN_ acc')∧H'[0]?=some (.ah ⟨80,[i_ d,b_ has],true⟩)∧acc'.length≤i+1) ?_ ?_
   ·rintro _ H' ⟨acc',a',rfl,hR',hg',hp',hal'⟩;refine zzP (by unfold aJ;omega) (aq ?_);refine next acc' (i+1) a' H' (bY _) (fun z=>?_) (fun z=>?_) hg' hp' hal'
    ·have:(v.take (i+1)).drop (i+1)=[]:=List.drop_of_length_le (by simp;omega);rw[this,Mb,hR',e2 z]
    ·rw[hR',e3 z,ib]
   ·intro F hF;refine OZ (a:=from') (b:=i) rfl rfl hfr (by omega) ?_;rw[hpre];refine ig (cs:=[i_ d,b_ has]) rfl hp (by simp) rfl ?_;have hzp:bU pre≤n:=by
     have h1:=pU v i;have h2:=rC (List.drop_suffix from' (v.take i));rw[hpre]at h2;omega
    have hbp:iX pre:=CF hb fun x hx=>by rw[←hpre]at hx;exact List.mem_of_mem_take (List.mem_of_mem_drop hx)
    have hcx:=GD hn hP pre hzp hbp d has rel hd;rw[hcp]at hcx;refine Mt rfl (by kernel_rfl) hcx (bo rfl rfl (bo rfl rfl (bW (cs:=[u8 0,bF,bF]) (n:=H.length) (h':=H++[qZ]) rfl rfl rfl rfl (aX (cs:=nX_ (cp pre).1) (h':=H++[.ah ⟨39,nX_ (cp pre).1,true⟩]) (b:=⟨39,[u8 0,bF,bF],true⟩) rfl (by simp) rfl rfl (by simp[rV]) (rV _) (Cb _) (by rw[IF _ _ (bY _)];simp[kQ (a:=[u8 0,bF,bF]) (b:=nX_ (cp pre).1) (by rw[rV];rfl)]) ?_))));have hg2:=hg.app [aL.ah ⟨39,nX_ (cp pre).1,true⟩];have hp2:(H++[aL.ah ⟨39,nX_ (cp pre).1,true⟩])[0]?=some (.ah ⟨80,[i_ d,b_ has],true⟩):=by rw[gO hH];exact hp
    have hV:(H++[aL.ah ⟨39,nX_ (cp pre).1,true⟩])[H.length]?=some (.ah ⟨39,nX_ (cp pre).1,true⟩):=by simp
    cases hb2:(cp pre).2 with
    | true =>
      rw[if_pos hb2]at hRi;refine zzL rfl (ig (cs:=nX_ (cp pre).1) rfl hV (by simp[rV]) (by rw[List.drop_zero,MK (by simp[rV])]) (lp (cs:=nX_ (cp pre).1) rfl (rV _) rfl (Cb _) ?_));refine xM hg2 (by simp) (by unfold dk;rw[rV,Cb];rfl) (by decide) (by simp[Cc];omega) fun a' H' g' bk _ _=>?_;refine aq ?_;exact hF _ _ ⟨acc++[(cp pre).1],a',rfl,hRi,by rw[Od];exact g',bk.2 _ _ hp2,by simp;omega⟩
    | false =>
      rw[if_neg (by rw[hb2];decide)]at hRi;refine zzK rfl (zzO ?_);cases forg with
      | false =>
        rw[if_neg (by decide)]at hRi;refine zzL rfl ?_;rw[hRi];exact .pure (by simp[aV,Aw.Pure]) rfl
      | true =>
        rw[if_pos rfl]at hRi;refine zzK rfl (aq ?_);exact hF _ _ ⟨acc,a,rfl,hRi,hg2,hp2,by omega⟩
 ·obtain rfl:i=v.length+1:=by omega
  rw[hRe rfl];refine zzK (by simp) ?_;exact⟨_,_,Wk.le (s':=[.aA [gg 3 (dN_ acc),tt]]) (aaO _) ⟨⟨hg.Pp,Le.refl _,trivial⟩,trivial⟩,rfl⟩
theorem LR:∀n,n≤2^30→Ec n
 | 0,_=>fun v hz=>absurd hz (aaP _)
 | n+1,hn=>Rc (by omega) (LR n (by omega))
theorem KD(v:List Vl)(hz:bU v<2^30)(hb:iX v)(d:Nat)(has rel forg:Bool)(hd:d≤3):bn p_ 32 [.sl 6 (cA v),wC d has,b_ rel,b_ forg] (UG (nL (3-d) has v rel forg)):=LR _ (bY _) v hz hb d has rel forg hd
abbrev Uw(o:List Cx×Int):AV:=.aA [gg 3 (dN_ o.1),i_ o.2]
theorem P4(v:List Vl)(hz:bU v<2^30)(hb:iX v):bn p_ 19 [.sl 6 (cA v)] (Uw (Lx v)):=by
 refine (V19 _).bj (by simp only[aV,Aw.Pure,and_true];exact lj v) (by simp only[aV,Aw.Pure,and_true];exact lu (ma _)) ?_;unfold Xd;refine uCon (AM v (by omega)) (zzH ?_);unfold Lx
 by_cases hc:jr v=0
 ·rw[if_pos hc];refine zzK (by simp[hc]) (bf rfl (uCon (KD v hz hb 0 false false false (by omega)) ?_));have hzr:=Px 3 false v false false (bY _);rw[show 3-0=3 from rfl];obtain⟨o,ho⟩:∃o,nL 3 false v false false=o:=⟨_,rfl⟩;rw[ho]at hzr ⊢;dsimp only;refine bo rfl rfl (bo rfl rfl (zzO ?_));cases h2:o.2 with
  | false =>
    rw[if_neg (by decide)];refine zzL rfl ?_;exact .pure (by simp[aV,Aw.Pure]) rfl
  | true =>
    rw[if_pos rfl];refine zzK rfl ?_;have hcc:bn p_ 26 [gg 3 (dN_ o.1)] (i_ (number o.1)):=bn.arg (wM o.1 (by omega)) (.cons (ui (xV _)) .nil) (by simp only[aV,and_true];exact lu (ma _));refine uCon hcc (zzE ?_)
    by_cases h3:64<number o.1
    ·rw[if_pos h3];refine zzL (oF (by omega)) ?_;exact .pure (by simp[aV,Aw.Pure]) rfl
    ·rw[if_neg h3];refine zzK (nO (by omega)) ?_;exact .pure (by simp only[aV,Aw.Pure,and_true];exact lu (ma _)) rfl
 ·rw[if_neg hc];refine zzL (by simp[hc]) ?_;exact .pure (by simp[aV,Aw.Pure]) rfl
end
section
open Go Go.Aw Go.fg Go.RowKit
open Go.bG hiding u1 af
/-! ### How long a token's text is -/
theorem BP(s:af)(i:Nat):(Rt.cU s i).1.length≤4:=by
 have hu:∀n,(Rt.sx n).length≤4:=fun n=>by
  unfold Rt.sx;repeat' split
  all_goals simp[Rt.lG]
 unfold Rt.cU;split
 ·simp[Rt.lG]
 ·split
  ·simp
  ·exact hu _
theorem xW(s:af):∀n i,s.length-i≤n→(Rt.cY s i).1.length≤4*(s.length-i)
 | 0,i,hn=>by rw[Rt.cY,dif_neg (by omega)];simp
 | n+1,i,hn=>by
   rw[Rt.cY];split
   ·rename_i h;split
    ·have:=xW s n (i+1) (by omega);dsimp only;rw[aaB];omega
    ·split
     ·have h1:=Rt.gd s i;have:=xW s n (Rt.cU s i).2 (by omega);have:=BP s i;dsimp only;rw[AT];omega
     ·simp
   ·simp
theorem x7{x:af}{r:Option af×Nat}{m k:Nat}(h:∀t,r.1=some t→t.length≤m)(hx:x.length+m≤k):∀t,(Rt.kF x r).1=some t→t.length≤k:=by
 intro t ht;unfold Rt.kF at ht;cases hr:r.1 with
 | none=>rw[hr]at ht;cases ht
 | some y =>
   rw[hr]at ht;cases ht;have:=h y hr;rw[AT];omega
theorem yi(m:UInt8)(s:af):∀n i,s.length-i≤n→∀t,(Rt.ic m s i).1=some t→t.length≤4*(s.length-i)
 | 0,i,hn,t,h=>by rw[Rt.ic,dif_neg (by omega)]at h;cases h;simp
 | n+1,i,hn,t,h=>by
   rw[Rt.ic]at h;split at h
   ·rename_i hi;split at h
    ·cases h;simp
    ·split at h
     ·cases h
     ·split at h
      ·split at h
       ·cases h;simp
       ·split at h
        ·have:=yi m s n (i+2) (by omega) t h;omega
        ·have h1:=Rt.gd s i;have:=BP s i;exact x7 (yi m s n (Rt.cU s i).2 (by omega)) (by omega) t h
      ·exact x7 (x:=[s[i]]) (yi m s n (i+1) (by omega)) (by simp;omega) t h
   ·cases h;simp
theorem CD(s:af):∀n i,s.length-i≤n→∀t,(Rt.jd s i).1=some t→t.length≤4*(s.length-i)
 | 0,i,hn,t,h=>by rw[Rt.jd,dif_neg (by omega)]at h;cases h;simp
 | n+1,i,hn,t,h=>by
   rw[Rt.jd]at h;split at h
   ·rename_i hi;split at h
    ·cases h;simp
    ·split at h
     ·split at h
      ·cases h
      ·cases h;simp
     ·split at h
      ·cases h
      ·split at h
       ·have h1:=Rt.gd s i;have:=BP s i;exact x7 (CD s n (Rt.cU s i).2 (by omega)) (by omega) t h
       ·exact x7 (x:=[s[i]]) (CD s n (i+1) (by omega)) (by simp;omega) t h
   ·cases h;simp
def xr(M:Nat)(t:Tok):Prop:=(-10^15≤t.n∧t.n≤10^15)∧t.t.length≤M∧t.u.length≤M
theorem V2{s:af}{i:Nat}(hi:i<s.length):xr (4*s.length) (iR s i).1:=by
 have hz:(-10^15:Int)≤0∧(0:Int)≤10^15:=by decide
 have e0:∀k f,xr (4*s.length) ⟨k,[],0,[],f⟩:=fun k f=>⟨hz,aaO _,aaO _⟩;have e1:∀k f j,xr (4*s.length) ⟨k,(Rt.cY s j).1,0,[],f⟩:=fun k f j=>⟨hz,by have:=xW s _ j (bY _);show (Rt.cY s j).1.length≤_;omega,aaO _⟩;have th:∀x,(-10^15≤mY x∧mY x≤10^15):=fun x=>by have:=Rs x;omega
 unfold iR;dsimp only;split
 ·exact e0 _ _
 ·split
  ·cases h:(Rt.ic (Rt.aB s i) s (i+1)).1 with
   | none=>exact e0 _ _
   | some t =>
     have:=yi (Rt.aB s i) s _ (i+1) (bY _) t h;exact⟨hz,by show t.length≤_;omega,aaO _⟩
  ·split
   ·exact e1 _ _ _
   ·split
    ·unfold ki;dsimp only;split
     ·exact⟨th _,aaO _,by have:=xW s _ (Rt.iz s i).1 (bY _);show (Rt.cY s (Rt.iz s i).1).1.length≤_;omega⟩
     ·split
      ·exact⟨th _,aaO _,aaO _⟩
      ·exact⟨th _,aaO _,aaO _⟩
    ·split
     ·exact e0 _ _
     ·split
      ·exact e0 _ _
      ·split
       ·exact e1 _ _ _
       ·split
        ·unfold pB;dsimp only;split
         ·exact e1 _ _ _
         ·split
          ·cases h:(Rt.jd s (Rt.eO s ((Rt.cY s i).2+1))).1 with
           | none=>exact e0 _ _
           | some t =>
             have:=CD s _ _ (bY _) t h;exact⟨hz,by show t.length≤_;omega,aaO _⟩
          ·exact e1 _ _ _
        ·split
         ·exact e0 _ _
         ·refine⟨hz, ?_,aaO _⟩;show 1≤_;omega
theorem Pg{s:af}:∀n i,s.length-i≤n→∀t∈lS s i,xr (4*s.length) t
 | 0,i,hn,t,ht=>by rw[lS,dif_neg (by omega)]at ht;cases ht
 | n+1,i,hn,t,ht=>by
   rw[lS]at ht;split at ht
   ·rename_i h;rcases ID.1 ht with rfl|ht
    ·exact V2 h
    ·have h1:=xZ h;have h2:=uv s s.length (iR s i).2 (by omega) h1.2;exact Pg n _ (by omega) t ht
   ·cases ht
theorem WA(s:af):(jC s).1.length≤1500∧∀t∈(jC s).1,xr 48000 t:=by
 unfold jC;split
 ·simp
 ·rename_i h;split
  ·simp
  ·rename_i h2;refine⟨by dsimp only;omega,fun t ht=>?_⟩;have hl:=rH s.length s (bY _);have:=Pg (s:=eP s) _ _ (bY _) t ht;exact⟨this.1,by have:=this.2.1;omega,by have:=this.2.2;omega⟩
/-! ### How great what is parsed is -/
def z1(t:Tok):Nat:=1+t.t.length+t.u.length
def zq(s:List (Tok×List Vl)):Nat:=(s.map fun x=>z1 x.1+bU x.2).sum
theorem wg(x:Tok×List Vl)(s:List (Tok×List Vl)):zq (x:: s)=z1 x.1+bU x.2+zq s:=rfl
theorem wi(l:List Vl)(v:Vl):bU (l++[v])=bU l+zV v:=by rw[mL,eH,bU];omega
theorem D5(o:Tok)(l:List Vl):zV (iy o l)=z1 o+bU l:=by unfold iy;rw[zV];unfold z1;rfl
theorem UB{t:Tok}{c c':List Vl}{s s':List (Tok×List Vl)}(h:iE t c s=some (c',s')):bU c'+zq s'≤bU c+zq s+z1 t:=by
 have hn:bU []=0:=by rw[bU]
 cases s with
 | nil =>
   rw[iE]at h;split at h
   ·cases h;rw[wg,hn];simp[zq];omega
   ·cases h;rw[wi,D5,hn];omega
 | cons x s =>
   obtain⟨o,b⟩:=x;rw[iE]at h;split at h
   ·cases h;rw[wi,D5,wg];dsimp only;omega
   ·split at h
    ·split at h
     ·cases h
     ·cases h;rw[wg,hn];dsimp only;omega
    ·cases h;rw[wi,D5,hn];omega
theorem LD:∀(s:List (Tok×List Vl)) (c:List Vl),bU (qq c s)=bU c+zq s
 | [],c=>by rw[qq];simp[zq]
 | (o,b):: s,c=>by rw[qq,LD s,wi,D5,wg];dsimp only;omega
def BC(l:List Tok):Nat:=(l.map z1).sum
theorem LH:∀(l:List Tok) (c c':List Vl) (s s':List (Tok×List Vl)),iT l c s=some (c',s')→bU c'+zq s'≤bU c+zq s+BC l
 | [],c,c',s,s',h=>by rw[iT]at h;cases h;simp[BC]
 | t:: l,c,c',s,s',h=>by
   rw[iT]at h;cases e:iE t c s with
   | none=>rw[e]at h;cases h
   | some y =>
     obtain⟨c2,s2⟩:=y;rw[e]at h;have h1:=UB e;have h2:=LH l c2 c' s2 s' h;have:BC (t:: l)=z1 t+BC l:=rfl;omega
theorem MG{M:Nat}:∀(l:List Tok),(∀t∈l,xr M t)→BC l≤l.length*(1+2*M)
 | [],_=>by simp[BC]
 | t:: l,h=>by
   have h1:=MG l fun x hx=>h x (by simp[hx]);have h2:=h t (by simp);have e:BC (t:: l)=z1 t+BC l:=rfl;rw[e,aaB,Nat.succ_mul];unfold z1;have:=h2.2.1;have:=h2.2.2;omega
theorem Uz(l:List Tok):bU (kE l).1≤BC l:=by
 have hn:bU []=0:=by rw[bU]
 unfold kE;split
 ·rw[hn];omega
 ·cases e:iT l [] [] with
  | none=>show bU []≤_;rw[hn];omega
  | some y =>
    obtain⟨c,s⟩:=y;have:=LH _ _ _ _ _ e;rw[hn]at this;dsimp only;split
    ·rw[hn];omega
    ·dsimp only;rw[LD];simp[zq]at this ⊢;omega
/-! ### What is parsed is in bounds -/
theorem we{l:List Vl}{v:Vl}(h:iX l)(hv:vB v):iX (l++[v]):=CE fun x hx=>by
 rcases Is.1 hx with hx|hx
 ·exact yp h hx
 ·simp at hx;subst hx;exact hv
theorem D1{o:Tok}{l:List Vl}(ho:xr (2^20) o)(h:iX l):vB (iy o l):=by unfold iy;rw[vB];exact⟨ho.1,ho.2.1,ho.2.2,h⟩
def IB(s:List (Tok×List Vl)):Prop:=∀x∈s,xr (2^20) x.1∧iX x.2
theorem UA{t:Tok}{c c':List Vl}{s s':List (Tok×List Vl)}(ht:xr (2^20) t)(hc:iX c)(hs:IB s)(h:iE t c s=some (c',s')):iX c'∧IB s':=by
 have hn:iX []:=trivial;cases s with
 | nil =>
   rw[iE]at h;split at h
   ·cases h;exact⟨hn,fun x hx=>by simp at hx;subst hx;exact⟨ht,hc⟩⟩
   ·cases h;exact⟨we hc (D1 ht hn),hs⟩
 | cons x s =>
   obtain⟨o,b⟩:=x;have hx:=hs (o,b) (by simp);have hs2:IB s:=fun y hy=>hs y (by simp[hy]);rw[iE]at h;split at h
   ·cases h;exact⟨we hx.2 (D1 hx.1 hc),hs2⟩
   ·split at h
    ·split at h
     ·cases h
     ·cases h;refine⟨hn,fun y hy=>?_⟩;rcases ID.1 hy with rfl|hy
      ·exact⟨ht,hc⟩
      ·exact hs y hy
    ·cases h;exact⟨we hc (D1 ht hn),hs⟩
theorem LG:∀(l:List Tok) (c c':List Vl) (s s':List (Tok×List Vl)),(∀t∈l,xr (2^20) t)→iX c→IB s→iT l c s=some (c',s')→iX c'∧IB s'
 | [],c,c',s,s',_,hc,hs,h=>by rw[iT]at h;cases h;exact⟨hc,hs⟩
 | t:: l,c,c',s,s',ht,hc,hs,h=>by
   rw[iT]at h;cases e:iE t c s with
   | none=>rw[e]at h;cases h
   | some y =>
     obtain⟨c2,s2⟩:=y;rw[e]at h;obtain⟨h1,h2⟩:=UA (ht t (by simp)) hc hs e;exact LG l c2 c' s2 s' (fun x hx=>ht x (by simp[hx])) h1 h2 h
theorem LC:∀(s:List (Tok×List Vl)) (c:List Vl),iX c→IB s→iX (qq c s)
 | [],c,hc,_=>by rw[qq];exact hc
 | (o,b):: s,c,hc,hs=>by
  have hx:=hs (o,b) (by simp);rw[qq];exact LC s _ (we hx.2 (D1 hx.1 hc)) fun y hy=>hs y (by simp[hy])
theorem Uy(l:List Tok)(ht:∀t∈l,xr (2^20) t):iX (kE l).1:=by
 unfold kE;split
 ·trivial
 ·cases e:iT l [] [] with
  | none=>trivial
  | some y =>
    obtain⟨c,s⟩:=y;obtain⟨h1,h2⟩:=LG l [] c [] s ht trivial (fun x hx=>by cases hx) e;dsimp only;split
    ·trivial
    ·exact LC s c h1 h2
def ql(s:af):List Cx×Int:=if (jC s).2=0 then (if (kE (jC s).1).2=0 then Lx (kE (jC s).1).1 else ([],(kE (jC s).1).2)) else ([],(jC s).2)
variable [bq]
theorem P6(s:af):bn p_ 8 [.str s] (Uw (ql s)):=by
 refine (V8 _).bj (by simp) (by simp only[aV,Aw.Pure,and_true];exact lu (ma _)) ?_;unfold W8;obtain⟨hb1,hb2⟩:=WA s;refine uCon (GC s) ?_;unfold ql;obtain⟨T,hT⟩:∃T,jC s=T:=⟨_,rfl⟩;rw[hT]at hb1 hb2 ⊢;refine bo rfl rfl (bo rfl rfl (zzH ?_))
 by_cases h1:T.2=0
 ·rw[if_pos h1];refine zzK (by simp[h1]) ?_;have hcp:bn p_ 18 [za T.1] (.aA [wz (kE T.1).1,i_ (kE T.1).2]):=by
   unfold za;split
   ·rename_i e;rw[e];exact bn.arg (CR []) (.cons (.nil 5) .nil) (by simp[aV,Aw.Pure])
   ·exact CR T.1
  refine uCon hcp ?_;have hB:iX (kE T.1).1:=Uy _ fun t ht=>by have:=hb2 t ht;exact⟨this.1,by have:=this.2.1;omega,by have:=this.2.2;omega⟩
  have hZ:bU (kE T.1).1<2^30:=by
   have a:=Uz T.1;have b:=MG T.1 hb2;have c:T.1.length*(1+2*48000)≤1500*(1+2*48000):=Nat.mul_le_mul_right _ hb1;omega
  obtain⟨Q,hQ⟩:∃Q,kE T.1=Q:=⟨_,rfl⟩;rw[hQ]at hB hZ ⊢;refine bo rfl rfl (bo rfl rfl (zzH ?_))
  by_cases h2:Q.2=0
  ·rw[if_pos h2];refine zzK (by simp[h2]) ?_;have hco:bn p_ 19 [wz Q.1] (Uw (Lx Q.1)):=bn.arg (P4 Q.1 hZ hB) (.cons (Qx _) .nil) (by simp only[aV,and_true];exact ET _);refine uCon hco (bo rfl rfl (bo rfl rfl ?_));exact .pure (by simp only[aV,Aw.Pure,and_true];exact lu (ma _)) rfl
  ·rw[if_neg h2];refine zzL (by simp[h2]) ?_;exact .pure (by simp[aV,Aw.Pure]) rfl
 ·rw[if_neg h1];refine zzL (by simp[h1]) ?_;exact .pure (by simp[aV,Aw.Pure]) rfl
end
section
open Go Go.Aw Go.fg Go.RowKit
open Go.bG hiding u1 af
variable{s:List (Tok×List Vl)}{c:List Vl}
def vN(s:List (Tok×List Vl)):Int:=match s with|[]=>0|(o,_):: _=>cG o.k
theorem LI{t:Tok}(h1:s≠[]→t.k≠vN s)(h2:cG t.k=0):iE t c s=some (c++[iy t []],s):=by
 cases s with
 | nil=>rw[iE,if_neg (by simpa using h2)]
 | cons x s =>
   obtain⟨o,b⟩:=x;rw[iE,if_neg (show ¬t.k=cG o.k from h1 (by simp)),if_neg (by simpa using h2)]
theorem LJ{t:Tok}(h1:s≠[]→t.k≠vN s)(h2:cG t.k≠0)(h3:s.length<16):iE t c s=some ([],(t,c):: s):=by
 cases s with
 | nil=>rw[iE,if_pos h2]
 | cons x s =>
   obtain⟨o,b⟩:=x;rw[iE,if_neg (show ¬t.k=cG o.k from h1 (by simp)),if_pos h2,if_neg (by simp at h3;omega)]
theorem LK{t o:Tok}{b c:List Vl}(h:t.k=cG o.k):iE t c ((o,b):: s)=some (b++[iy o c],s):=by
 rw[iE,if_pos h]
mutual
theorem ZO:∀(v:Vl) (c:List Vl) (s:List (Tok×List Vl)) (r:List Tok),(s≠[]→vN s≠0)→wJ (vN s) v=false→s.length+pJ v≤16→iT (iI v++r) c s=iT r (c++[v]) s
 | .mk k t n u f l,c,s,r,ho,hb,hd=>by
   rw[wJ,abi]at hb;obtain⟨hb1,hb2⟩:=hb;have h1:s≠[]→k≠vN s:=by
    intro hs e;have h0:=ho hs;simp[h0,e]at hb1
   rw[pJ]at hd;rw[iI]
   by_cases hc:cG k=0
   ·rw[if_pos hc]at hb2 hd ⊢;have hl:l=[]:=by simpa using hb2
    subst hl;rw[abg,List.nil_append,iT,LI (t:=⟨k,t,n,u,f⟩) h1 hc];rfl
   ·rw[if_neg hc]at hb2 hd ⊢;rw[abg,To,iT,LJ (t:=⟨k,t,n,u,f⟩) h1 hc (by omega)];dsimp only;rw[JP l [] ((⟨k,t,n,u,f⟩,c):: s) _ (fun _=>hc) hb2 (by simp;omega),List.nil_append,abg,List.nil_append,iT,LK (o:=⟨k,t,n,u,f⟩) rfl];rfl
theorem JP:∀(l:List Vl) (c:List Vl) (s:List (Tok×List Vl)) (r:List Tok),(s≠[]→vN s≠0)→fh (vN s) l=false→s.length+dw l≤16→iT (bJ l++r) c s=iT r (c++l) s
 | [],c,s,r,_,_,_=>by rw[bJ];simp
 | v:: l,c,s,r,ho,hb,hd=>by
   rw[fh,abi]at hb;rw[dw]at hd;rw[bJ,To,ZO v c s _ ho hb.1 (by omega),JP l (c++[v]) s r ho hb.2 (by omega)];simp
end
theorem LF(l:List Vl)(hb:fh 0 l=false)(hd:dw l≤16)(hn:dh l≤1500):kE (bJ l)=(l,0):=by
 have h:=JP l [] [] [] (fun z=>absurd rfl z) hb (by simpa using hd);rw[aaL,List.nil_append,iT]at h;unfold kE;rw[mg,if_neg (by omega),h];show (if 1500<dh l+([]:List (Tok×List Vl)).length then (([]:List Vl),(4:Int)) else (qq l [],0))=_;rw[if_neg (by simp;omega)];rfl
theorem G6(l:List Vl)(hb:fh 0 l=false)(hd:dw l≤16)(hn:dh l≤1500):jr l=0:=by
 unfold jr;rw[if_neg (by omega),if_neg (by omega),hb];rfl
end
section
open Go Go.Aw
variable [Laid]
def XH(x0:AV)(h:aa)(K:AV→aa→Prop):Prop:=
 aW 70 x0 h fun b c=>ak true 5 b c fun e=>iC p_ 84 [e] c fun f a=>cq f fun g=>ag g (K (.aA [(.str []),(i_ 8)]) a) (ak true 5 b a fun i=>iC p_ 85 [qNs,i] a fun j d=>cJ j d fun k=>K (.aA [k,(i_ 0)]) d)
theorem V52(x0:AV):Body p_ 52 [x0] (XH x0):=bB Tryz.func52 .nil 10 [.tmp 2,.tmp 3]
def X8(x0:AV)(h:aa)(K:AV→aa→Prop):Prop:=
 aW 70 x0 h fun a v=>iFL 1 false 1 a v fun i4=>iFL 3 false 1 a v fun i5=>ae .add i4 i5 fun i6=>iC p_ 72 [i6,(u8 0)] v fun i7 u=>ae .lss i7 (i_ 0) fun d=>aw (fun l=>iFL 0 false 1 a u fun f=>aw (fun w=>ae .eql f (u8 1) fun i8=>ag i8 (eC [a,ff,ff,ff,ff,d,f] (w [tt] u)) (ae .eql f (u8 2) fun i9=>ag i9 (eC [a,ff,ff,ff,ff,d,f] (w [tt] u)) (ae .eql f (u8 3) fun j0=>eC [a,ff,ff,ff,ff,d,f] (w [j0] u)))) fun j1 i=>ag (nx j1 0) (aw (fun O=>ar d true (bp 1 a fun P=>ak false 1 P i fun Q=>ae .neq Q (.str []) fun j2=>O [P,Q,j2] i) (O [un,un,un] i)) fun j3 _=>aI d (nx j3 2) ff fun j4=>eC [a] (l [tt,ff,ff,ff,j4] i)) (ae .eql f (u8 4) fun j5=>ag j5 (aw (fun R=>ar d true (iFL 1 false 1 a i fun j6=>ae .neq j6 (.str []) fun j7=>eC [a,tt,ff,ff,tt] (R [tt,j7] i)) (eC [a,tt,ff,ff,tt] (R [(aN true d),un] i))) fun S x=>aI (nx S 0) (nx S 1) ff fun T=>aw (fun U=>ar T true (iFL 4 false 1 a x fun j8=>eC [a,tt,ff,ff,tt] (U [tt,j8] x)) (eC [a,tt,ff,ff,tt] (U [(aN true T),un] x))) fun g y=>aw (fun V=>ar (nx g 1) false (iFL 1 false 1 a y fun j9=>iC p_ 113 [j9] y fun k0 k1=>eC [a,tt,ff,ff,tt,(nx g 0)] (V [ff,k0] k1)) (eC [a,tt,ff,ff,tt,(nx g 0)] (V [(aN false (nx g 1)),un] y))) fun m z=>aw (fun W=>ar (nx m 1) true (iFL 1 false 1 a z fun k2=>iC p_ 59 [k2,(.str [45,45])] z fun k3 k4=>cq k3 fun k5=>eC [a,tt,ff,ff,tt,(nx g 0),(nx m 0)] (W [tt,k5] k4)) (eC [a,tt,ff,ff,tt,(nx g 0),(nx m 0)] (W [(aN true (nx m 1)),un] z))) fun X Y=>aw (fun Z=>ar (nx m 0) false (aI (nx X 0) (nx X 1) ff fun k6=>eC [a,tt,ff,ff,tt,(nx g 0)] (Z [ff,k6] Y)) (eC [a,tt,ff,ff,tt,(nx g 0)] (Z [(aN false (nx m 0)),un] Y))) fun a0 a1=>aw (fun a2=>ar (nx g 0) true (aI (nx a0 0) tt (nx a0 1) fun k7=>eC [a,tt,ff,ff,tt] (a2 [tt,k7] a1)) (eC [a,tt,ff,ff,tt] (a2 [(aN true (nx g 0)),un] a1))) fun n A=>aw (fun a3=>ar (nx n 1) false (iFL 1 false 1 a A fun k8=>ae .eql k8 (.str [45]) fun k9=>eC [a,tt,ff,ff,tt,(nx n 0)] (a3 [ff,k9] A)) (eC [a,tt,ff,ff,tt,(nx n 0)] (a3 [(aN false (nx n 1)),un] A))) fun a4 a5=>aw (fun a6=>ar (nx n 0) true (aI (nx a4 0) tt (nx a4 1) fun l0=>eC [a,tt,ff,ff,tt] (a6 [tt,l0] a5)) (eC [a,tt,ff,ff,tt] (a6 [(aN true (nx n 0)),un] a5))) fun a7 l1=>aI (nx a7 0) (nx a7 1) ff fun l2=>eC [a] (l [tt,ff,ff,tt,l2] l1)) (aw (fun a8=>ae .eql f (u8 5) fun l3=>ag l3 (eC [a,ff,ff,ff,ff,d,f] (a8 [tt] i)) (ae .eql f (u8 7) fun l4=>eC [a,ff,ff,ff,ff,d,f] (a8 [l4] i))) fun l5 k=>ag (nx l5 0) (eC [a] (l [tt,ff,ff,ff,d] k)) (ae .eql f (u8 9) fun l6=>ag l6 (aw (fun a9=>ar d true (iFL 1 false 1 a k fun l7=>cR l7 fun l8=>ae .eql l8 (i_ 1) fun l9=>eC [a,tt,ff,ff,ff] (a9 [tt,l9] k)) (eC [a,tt,ff,ff,ff] (a9 [(aN true d),un] k))) fun b0 B=>aI (nx b0 0) (nx b0 1) ff fun b1=>aw (fun b2=>ar b1 true (iFL 1 false 1 a B fun m0=>dH m0 (i_ 0) fun m1=>iC p_ 114 [m1] B fun m2 m3=>cq m2 fun m4=>eC [a,tt,ff,ff,ff] (b2 [tt,m4] m3)) (eC [a,tt,ff,ff,ff] (b2 [(aN true b1),un] B))) fun b3 C=>aI (nx b3 0) (nx b3 1) ff fun b4=>aw (fun b5=>ar b4 false (iFL 1 false 1 a C fun m5=>ae .eql m5 (.str [45]) fun m6=>eC [a,tt,ff,ff,ff] (b5 [ff,m6] C)) (eC [a,tt,ff,ff,ff] (b5 [(aN false b4),un] C))) fun b6 D=>aI (nx b6 0) tt (nx b6 1) fun b7=>aw (fun b8=>ar b7 true (iFL 1 false 1 a D fun m7=>iC p_ 115 [(.str [32,9,10,12,13,34,39,58,59,44,91,93,40,41,123,125]),m7] D fun m8 m9=>cq m8 fun n0=>eC [a,tt,ff,ff,ff] (b8 [tt,n0] m9)) (eC [a,tt,ff,ff,ff] (b8 [(aN true b7),un] D))) fun b9 n1=>aI (nx b9 0) (nx b9 1) ff fun n2=>eC [a] (l [tt,ff,ff,ff,n2] n1)) (aw (fun E=>ae .eql f (u8 10) fun n3=>ag n3 (eC [a,ff,ff,ff,ff,d] (E [tt] k)) (ae .eql f (u8 11) fun n4=>ag n4 (eC [a,ff,ff,ff,ff,d] (E [tt] k)) (ae .eql f (u8 12) fun n5=>eC [a,ff,ff,ff,ff,d] (E [n5] k)))) fun n6 j=>ag (nx n6 0) (iFL 0 false 1 a j fun n7=>ae .eql n7 (u8 12) fun c=>iFL 0 false 1 a j fun n8=>ae .neq n8 (u8 11) fun e=>aw (fun c0=>ar d true (iFL 2 false 1 a j fun n9=>ae .geq n9 (i_ (-1000000000000)) fun o0=>eC [a,ff,c,tt,e] (c0 [tt,o0] j)) (eC [a,ff,c,tt,e] (c0 [(aN true d),un] j))) fun c1 F=>aI (nx c1 0) (nx c1 1) ff fun c2=>aw (fun c3=>ar c2 true (iFL 2 false 1 a F fun o1=>ae .leq o1 (i_ 1000000000000) fun o2=>eC [a,ff,c,tt,e] (c3 [tt,o2] F)) (eC [a,ff,c,tt,e] (c3 [(aN true c2),un] F))) fun c4 G=>aI (nx c4 0) (nx c4 1) ff fun c5=>aw (fun c6=>ar c5 true (iFL 4 false 1 a G fun o3=>cq o3 fun o4=>eC [a,ff,c,tt,e] (c6 [tt,o4] G)) (eC [a,ff,c,tt,e] (c6 [(aN true c5),un] G))) fun o H=>aw (fun c7=>ar (nx o 1) false (iFL 2 false 1 a H fun o5=>ae .rem o5 (i_ 1000) fun o6=>ae .eql o6 (i_ 0) fun o7=>eC [a,ff,c,tt,e,(nx o 0)] (c7 [ff,o7] H)) (eC [a,ff,c,tt,e,(nx o 0)] (c7 [(aN false (nx o 1)),un] H))) fun c8 c9=>aw (fun d0=>ar (nx o 0) true (aI (nx c8 0) tt (nx c8 1) fun o8=>eC [a,ff,c,tt,e] (d0 [tt,o8] c9)) (eC [a,ff,c,tt,e] (d0 [(aN true (nx o 0)),un] c9))) fun d1 d2=>aI (nx d1 0) (nx d1 1) ff fun d3=>aw (fun d4=>ar d3 true (cq c fun o9=>eC [a,ff,c,tt,e] (d4 [tt,o9] d2)) (eC [a,ff,c,tt,e] (d4 [(aN true d3),un] d2))) fun p I=>aw (fun d5=>ar (nx p 1) false (iFL 3 false 1 a I fun p0=>ae .neq p0 (.str []) fun p1=>eC [a,ff,c,tt,e,(nx p 0)] (d5 [ff,p1] I)) (eC [a,ff,c,tt,e,(nx p 0)] (d5 [(aN false (nx p 1)),un] I))) fun d6 d7=>aw (fun d8=>ar (nx p 0) true (aI (nx d6 0) tt (nx d6 1) fun p2=>eC [a,ff,c,tt,e] (d8 [tt,p2] d7)) (eC [a,ff,c,tt,e] (d8 [(aN true (nx p 0)),un] d7))) fun d9 p3=>aI (nx d9 0) (nx d9 1) ff fun p4=>eC [a] (l [ff,c,tt,e,p4] p3)) (iFL 0 false 1 a j fun p5=>ae .geq p5 (u8 13) fun e0=>aw (fun e1=>ar e0 true (iFL 0 false 1 a j fun p6=>ae .leq p6 (u8 24) fun p7=>eC [a,ff,ff,ff,ff] (e1 [tt,p7] j)) (eC [a,ff,ff,ff,ff] (e1 [(aN true e0),un] j))) fun e2 p8=>aI (nx e2 0) (nx e2 1) ff fun p9=>eC [a] (l [ff,ff,ff,ff,p9] p8))))))) fun b e3=>aw (fun e4=>ar (nx b 4) true (eC [a,(nx b 1),(nx b 2),(nx b 3)] (e4 [tt,(nx b 0)] e3)) (eC [a,(nx b 1),(nx b 2),(nx b 3)] (e4 [(aN true (nx b 4)),un] e3))) fun q J=>aw (fun e5=>ar (nx q 1) false (iFL 1 false 1 a J fun q0=>ae .eql q0 (.str []) fun q1=>eC [a,(nx b 1),(nx b 2),(nx b 3),(nx q 0)] (e5 [ff,q1] J)) (eC [a,(nx b 1),(nx b 2),(nx b 3),(nx q 0)] (e5 [(aN false (nx q 1)),un] J))) fun e6 e7=>aw (fun e8=>ar (nx q 0) true (aI (nx e6 0) tt (nx e6 1) fun q2=>eC [a,(nx b 1),(nx b 2),(nx b 3)] (e8 [tt,q2] e7)) (eC [a,(nx b 1),(nx b 2),(nx b 3)] (e8 [(aN true (nx q 0)),un] e7))) fun e9 f0=>aI (nx e9 0) (nx e9 1) ff fun f1=>aw (fun f2=>ar f1 true (eC [a,(nx b 2),(nx b 3)] (f2 [tt,(nx b 1)] f0)) (eC [a,(nx b 2),(nx b 3)] (f2 [(aN true f1),un] f0))) fun r L=>aw (fun f3=>ar (nx r 1) false (iFL 3 false 1 a L fun q3=>ae .eql q3 (.str []) fun q4=>eC [a,(nx b 2),(nx b 3),(nx r 0)] (f3 [ff,q4] L)) (eC [a,(nx b 2),(nx b 3),(nx r 0)] (f3 [(aN false (nx r 1)),un] L))) fun f4 f5=>aw (fun f6=>ar (nx r 0) true (aI (nx f4 0) tt (nx f4 1) fun q5=>eC [a,(nx b 2),(nx b 3)] (f6 [tt,q5] f5)) (eC [a,(nx b 2),(nx b 3)] (f6 [(aN true (nx r 0)),un] f5))) fun f7 f8=>aI (nx f7 0) (nx f7 1) ff fun f9=>aw (fun g0=>ar f9 true (eC [a,(nx b 3)] (g0 [tt,(nx b 2)] f8)) (eC [a,(nx b 3)] (g0 [(aN true f9),un] f8))) fun s M=>aw (fun g1=>ar (nx s 1) false (iFL 2 false 1 a M fun q6=>ae .eql q6 (i_ 0) fun q7=>eC [a,(nx b 3),(nx s 0)] (g1 [ff,q7] M)) (eC [a,(nx b 3),(nx s 0)] (g1 [(aN false (nx s 1)),un] M))) fun g2 g3=>aw (fun g4=>ar (nx s 0) true (aI (nx g2 0) tt (nx g2 1) fun q8=>eC [a,(nx b 3)] (g4 [tt,q8] g3)) (eC [a,(nx b 3)] (g4 [(aN true (nx s 0)),un] g3))) fun g5 g6=>aI (nx g5 0) (nx g5 1) ff fun g7=>aw (fun g8=>ar g7 true (eC [a] (g8 [tt,(nx b 3)] g6)) (eC [a] (g8 [(aN true g7),un] g6))) fun t N=>aw (fun g9=>ar (nx t 1) false (iFL 4 false 1 a N fun q9=>cq q9 fun r0=>eC [(nx t 0)] (g9 [ff,r0] N)) (eC [(nx t 0)] (g9 [(aN false (nx t 1)),un] N))) fun i0 i1=>aw (fun i2=>ar (nx t 0) true (aI (nx i0 0) tt (nx i0 1) fun r1=>i2 [tt,r1] i1) (i2 [(aN true (nx t 0)),un] i1)) fun i3 r2=>aI (nx i3 0) (nx i3 1) ff fun r3=>K r3 r2
theorem V84(x0:AV):Body p_ 84 [x0] (X8 x0):=bB Tryz.func84 (sn (sn (sn (.join [1] [3,4,5,6,7] (sn (.one (.join [1,3,4,5,6,7,16] [25] .nil (.two (.draw 8 (oR 0 2 (.aD 1 true (fR 2 3) [] [31,32,33]::oR 5 3 [])) [] []) (sn (.two (sn (.aR (oR 0 2 (.aD 1 true (fR 2 3) [1,3,4,5,6] [38,41]::oR 5 2 (.aD 6 true (fR 7 3) [1,3,4,5,6] [43,46]::.aD 9 false (fR 10 4) [1,3,4,5,6,43] [46,50]::.aD 13 true (fR 14 4) [1,3,4,5,6,43,46] [50,54]::.aD 9 false [(18,false)] [1,3,4,5,6,43] [46,55]::.aD 6 true (fR 19 2) [1,3,4,5,6] [43,57]::.aD 20 false (fR 21 3) [1,3,4,5,6,43] [57,60]::.aD 6 true [(24,false)] [1,3,4,5,6] [43,61]::oR 25 2 []))))) (.join [1,3,4,5,6,7,16] [63] .nil (.two .nil (sn (.two (sn (.seq (.aR (oR 0 2 (.aD 1 true (fR 2 4) [1,3,4,5,6] [69,73]::oR 6 2 (.aD 7 true (fR 8 5) [1,3,4,5,6] [75,80]::oR 13 2 (.aD 14 false (fR 15 3) [1,3,4,5,6] [82,85]::oR 18 2 []))))) (.aR (oR 0 2 (.aD 1 true (fR 2 4) [1,3,4,5,6] [88,92]::oR 6 2 []))))) (.join [1,3,4,5,6,7] [94] .nil (.two (.seq (.draw 9 (oR 0 9 []) [] []) (.aR (oR 0 2 (.aD 1 true (fR 2 3) [1,3,4,5,6] [105,108]::oR 5 2 (.aD 6 true (fR 7 3) [1,3,4,5,6] [110,113]::oR 10 2 (.aD 11 true (fR 12 4) [1,3,4,5,6] [115,119]::.aD 15 false (fR 16 4) [1,3,4,5,6,115] [119,123]::.aD 11 true [(20,false)] [1,3,4,5,6] [115,124]::oR 21 2 (.aD 22 true (fR 23 3) [1,3,4,5,6] [126,129]::.aD 25 false (fR 26 3) [1,3,4,5,6,126] [129,132]::.aD 22 true [(29,false)] [1,3,4,5,6] [126,133]::oR 30 2 []))))))) (.aR (oR 0 4 (.aD 3 true (fR 4 3) [1,3,4,5,6] [20,23]::oR 7 2 []))))))))))))))) (.seq (.aR (oR 0 2 (.aD 1 true (fR 2 2) [1,4,5,6] [136,138]::.aD 3 false (fR 4 3) [1,4,5,6,136] [138,141]::.aD 1 true [(7,false)] [1,4,5,6] [136,142]::oR 8 2 (.aD 9 true (fR 10 2) [1,5,6] [144,146]::.aD 11 false (fR 12 3) [1,5,6,144] [146,149]::.aD 9 true [(15,false)] [1,5,6] [144,150]::oR 16 2 (.aD 17 true (fR 18 2) [1,6] [152,154]::.aD 19 false (fR 20 3) [1,6,152] [154,157]::.aD 17 true [(23,false)] [1,6] [152,158]::oR 24 2 (.aD 25 true (fR 26 2) [1] [160,162]::.aD 27 false (fR 28 3) [160] [162,165]::.aD 25 true [(31,false)] [] [160,166]::oR 32 2 [])))))) .nil))))) 168 [.tmp 2]
def X9(x0 x1:AV)(h:aa)(K:AV→aa→Prop):Prop:=
 aW 70 x1 h fun b a=>iFL 0 false 1 b a fun d=>ae .eql d (u8 1) fun M=>ag M (iFL 1 false 1 b a fun N=>iFL 1 false 1 b a fun O=>iQ p_ 117 [O] a fun P=>iC p_ 116 [x0,N,P] a fun Q R=>K Q R) (ae .eql d (u8 2) fun S=>ag S (iFL 1 false 1 b a fun T=>iFL 1 false 1 b a fun U=>iQ p_ 117 [U] a fun V=>iQ p_ 116 [x0,T,V] a fun W=>br 1 1 (u8 0) [(0,1,(u8 40))] fun X=>bP false 5 1 1 W X a fun Y Z=>K Y Z) (ae .eql d (u8 3) fun a0=>ag a0 (br 1 1 (u8 0) [(0,1,(u8 64))] fun a1=>iFL 1 false 1 b a fun a2=>iFL 1 false 1 b a fun a3=>cM (Fq x0) (bP false 5 1 1 x0 a1 a fun a4 p=>iQ p_ 117 [a3] p fun a5=>iQ p_ 116 [a4,a2,a5] p fun a6=>K a6 p)) (ae .eql d (u8 4) fun a7=>ag a7 (aw (fun t=>iFL 4 false 1 b a fun a8=>ag a8 (iFL 1 false 1 b a fun a9=>iC p_ 117 [a9] a fun b0 b1=>eC [x0,b] (t [b0] b1)) (eC [x0,b] (t [(i_ 0)] a))) fun b2 u=>br 1 1 (u8 0) [(0,1,(u8 35))] fun b3=>iFL 1 false 1 b u fun b4=>cM (Fq x0) (bP false 5 1 1 x0 b3 u fun b5 b6=>iC p_ 116 [b5,b4,(nx b2 0)] b6 fun b7 b8=>K b7 b8)) (ae .eql d (u8 5) fun b9=>ag b9 (br 1 1 (u8 0) [(0,1,(u8 34))] fun c0=>bP false 5 1 1 x0 c0 a fun c1 v=>iFL 1 false 1 b v fun c2=>iP 5 c2 v fun m c3=>bu m fun n=>bL [c1,(i_ 0)] c3 fun c4 f q =>
 ae .lss (nx f 1) n fun c5=>ag c5 (aw (fun w=>aQ 1 m (nx f 1) fun c6=>ak false 1 c6 q fun r=>iC p_ 72 [(.str [10,12,13,34,92]),r] q fun c7 x=>ae .geq c7 (i_ 0) fun c8=>ag c8 (iC p_ 118 [(nx f 0),r] x fun c9 d0=>eC [m,n,(nx f 1)] (w [c9] d0)) (br 1 1 (u8 0) [(0,1,r)] fun d1=>bP false 5 1 1 (nx f 0) d1 x fun d2 d3=>eC [m,n,(nx f 1)] (w [d2] d3))) fun d4 d5=>ae .add (nx f 1) (i_ 1) fun d6=>eC [m,n] (c4 [(nx d4 0),d6] d5)) (br 1 1 (u8 0) [(0,1,(u8 34))] fun d7=>bP false 5 1 1 (nx f 0) d7 q fun d8 d9=>K d8 d9)) (ae .eql d (u8 7) fun e0=>ag e0 (mH false 5 1 x0 (.str [117,114,108,40]) a fun e1 y=>iFL 1 false 1 b y fun e2=>iP 5 e2 y fun i e3=>bu i fun j=>bL [e1,(i_ 0)] e3 fun e4 c o =>
 ae .lss (nx c 1) j fun e5=>ag e5 (aw (fun z=>aQ 1 i (nx c 1) fun e6=>ak false 1 e6 o fun k=>ae .leq k (u8 32) fun A=>aw (fun B=>ar A false (iC p_ 72 [(.str [34,39,40,41,92,127]),k] o fun e7 e8=>ae .geq e7 (i_ 0) fun e9=>eC [(nx c 0),k,i,j,(nx c 1)] (B [ff,e9] e8)) (eC [(nx c 0),k,i,j,(nx c 1)] (B [(aN false A),un] o))) fun C D=>aI (nx C 0) tt (nx C 1) fun f0=>ag f0 (iC p_ 118 [(nx c 0),k] D fun f1 f2=>eC [i,j,(nx c 1)] (z [f1] f2)) (br 1 1 (u8 0) [(0,1,k)] fun f3=>bP false 5 1 1 (nx c 0) f3 D fun f4 f5=>eC [i,j,(nx c 1)] (z [f4] f5))) fun f6 f7=>ae .add (nx c 1) (i_ 1) fun f8=>eC [i,j] (e4 [(nx f6 0),f8] f7)) (br 1 1 (u8 0) [(0,1,(u8 41))] fun f9=>bP false 5 1 1 (nx c 0) f9 o fun g0 g1=>K g0 g1)) (ae .eql d (u8 9) fun g2=>ag g2 (iFL 1 false 1 b a fun g3=>mH false 5 1 x0 g3 a fun g4 g5=>K g4 g5) (ae .eql d (u8 10) fun g6=>ag g6 (iFL 2 false 1 b a fun g7=>iFL 4 false 1 b a fun g8=>cq g8 fun g9=>iC p_ 119 [x0,g7,g9] a fun i0 i1=>K i0 i1) (ae .eql d (u8 11) fun i2=>ag i2 (iFL 2 false 1 b a fun i3=>iC p_ 119 [x0,i3,ff] a fun i4 i5=>br 1 1 (u8 0) [(0,1,(u8 37))] fun i6=>bP false 5 1 1 i4 i6 i5 fun i7 i8=>K i7 i8) (ae .eql d (u8 12) fun i9=>ag i9 (iFL 2 false 1 b a fun j0=>iFL 4 false 1 b a fun j1=>cq j1 fun j2=>iC p_ 119 [x0,j0,j2] a fun l s=>iFL 3 false 1 b s fun e=>dH e (i_ 0) fun j3=>ae .or j3 (u8 32) fun j4=>ae .eql j4 (u8 101) fun E=>aw (fun F=>ar E true (eN e (some (i_ 1)) none fun j5=>iC p_ 113 [j5] s fun j6 j7=>eC [l,b,e] (F [tt,j6] j7)) (eC [l,b,e] (F [(aN true E),un] s))) fun G H=>aI (nx G 0) (nx G 1) ff fun I=>aw (fun J=>ar I true (eN e (some (i_ 1)) none fun j8=>iC p_ 59 [j8,(.str [45,45])] H fun j9 k0=>cq j9 fun k1=>eC [l,b,e] (J [tt,k1] k0)) (eC [l,b,e] (J [(aN true I),un] H))) fun L g=>aI (nx L 0) (nx L 1) ff fun k2=>ag k2 (dH e (i_ 0) fun k3=>iQ p_ 118 [l,k3] g fun k4=>eN e (some (i_ 1)) none fun k5=>iQ p_ 116 [k4,k5,(i_ 0)] g fun k6=>K k6 g) (iFL 3 false 1 b g fun k7=>iFL 3 false 1 b g fun k8=>iQ p_ 117 [k8] g fun k9=>iQ p_ 116 [l,k7,k9] g fun l0=>K l0 g)) (iQ p_ 120 [] a fun l1=>iFL 0 false 1 b a fun l2=>ae .sub l2 (u8 13) fun l3=>mI false 1 12 l1 l3 fun l4=>mH false 5 1 x0 l4 a fun l5 l6=>K l5 l6))))))))))
theorem V85(x0 x1:AV):Body p_ 85 [x0,x1] (X9 x0 x1):=bB Tryz.func85 (sn (.seq (sn (.one (sn (.two (.seq (.draw 6 (oR 0 6 []) [.op 6 true,.op 7 false] []) .nil) (sn (.two (.seq (.draw 8 (oR 0 7 (.op 7 true::[])) (oR 8 2 []) []) .nil) (sn (.two (.seq (.jQ [(0,0,false),(1,0,true),(3,0,false),(4,3,false),(5,0,false),(6,3,false),(2,4,false),(7,1,false),(8,1,false),(9,0,false)]) .nil) (sn (.two (sn (.join [0,3] [5] .nil (.seq (.jQ [(0,0,false),(1,0,true),(3,0,false),(4,3,false),(5,0,false),(2,4,false),(6,2,true),(7,0,false)]) .nil))) (sn (.two (.seq (.aR (.op 0 false::.op 1 true::oR 2 2 [])) (.seq (sn (.one (.loop [65,66] [0,67] (sn (sn (.join [65,66,67] [0] (.one (sn (sn (.two .nil (.aR (oR 0 2 (.op 2 true::oR 3 2 []))))))) .nil)))))) (.seq (.aR (.op 0 false::.op 1 true::oR 2 2 [])) .nil))) (sn (.two (sn (.seq (sn (.one (.loop [91,92] [0,93] (sn (sn (.join [91,92,93] [0] (.one (sn (.seq (.aR (oR 0 3 (.aD 2 false (fR 3 3) [0,9,91,92,93] [99,102]::.op 6 false::[]))) (.two .nil (.aR (oR 0 2 (.op 2 true::oR 3 2 []))))))) .nil)))))) (.seq (.aR (.op 0 false::.op 1 true::oR 2 2 [])) .nil))) (sn (.two .nil (sn (.two .nil (sn (.two (.seq (.aR (oR 0 4 (.op 4 true::oR 5 2 []))) .nil) (sn (.two (sn (.seq (sn (.seq (.aR (oR 0 5 (.aD 4 true (fR 5 3) [0,3,10] [153,156]::oR 8 2 (.aD 9 true (fR 10 4) [0,3,10] [158,162]::.op 14 false::[])))) (.two (.seq (.draw 8 (oR 0 8 []) [] []) .nil) .nil))) (.seq (.draw 8 (oR 0 8 []) [] []) .nil))) .nil)))))))))))))))))))))) (.seq (.draw 6 (oR 0 6 []) (oR 6 2 []) []) .nil))) 185 [.tmp 4]
def MN(x0 x1 x2:AV)(h:aa)(K:AV→aa→Prop):Prop:=
 cR x1 fun b=>bL [x0,(i_ 0)] h fun B a f =>
 ae .lss (nx a 1) b fun C=>ag C (aw (fun g=>dH x1 (nx a 1) fun c=>iC p_ 114 [c] f fun i j=>aw (fun k=>ar i true (ae .geq (nx a 1) x2 fun D=>eC [(nx a 0),x1,x2,c,b,(nx a 1)] (k [tt,D] j)) (eC [(nx a 0),x1,x2,c,b,(nx a 1)] (k [(aN true i),un] j))) fun d l=>aw (fun m=>ar (nx d 1) false (iC p_ 146 [c] l fun E F=>cq E fun G=>eC [(nx a 0),x1,x2,c,b,(nx a 1),(nx d 0)] (m [ff,G] F)) (eC [(nx a 0),x1,x2,c,b,(nx a 1),(nx d 0)] (m [(aN false (nx d 1)),un] l))) fun n o=>aw (fun p=>ar (nx d 0) true (aI (nx n 0) tt (nx n 1) fun H=>eC [(nx a 0),x1,x2,c,b,(nx a 1)] (p [tt,H] o)) (eC [(nx a 0),x1,x2,c,b,(nx a 1)] (p [(aN true (nx d 0)),un] o))) fun q r=>aI (nx q 0) (nx q 1) ff fun s=>aw (fun t=>ar s true (ae .eql x2 (i_ 0) fun I=>eC [(nx a 0),x1,x2,c,b,(nx a 1)] (t [tt,I] r)) (eC [(nx a 0),x1,x2,c,b,(nx a 1)] (t [(aN true s),un] r))) fun e u=>aw (fun v=>ar (nx e 1) false (ae .neq x1 (.str [45]) fun J=>eC [(nx a 0),x1,x2,c,b,(nx a 1),(nx e 0)] (v [ff,J] u)) (eC [(nx a 0),x1,x2,c,b,(nx a 1),(nx e 0)] (v [(aN false (nx e 1)),un] u))) fun w x=>aw (fun y=>ar (nx e 0) true (aI (nx w 0) tt (nx w 1) fun L=>eC [(nx a 0),x1,x2,c,b,(nx a 1)] (y [tt,L] x)) (eC [(nx a 0),x1,x2,c,b,(nx a 1)] (y [(aN true (nx e 0)),un] x))) fun z A=>aI (nx z 0) (nx z 1) ff fun M=>ag M (br 1 1 (u8 0) [(0,1,c)] fun N=>bP false 5 1 1 (nx a 0) N A fun O P=>eC [x1,x2,b,(nx a 1)] (g [O] P)) (iC p_ 118 [(nx a 0),c] A fun Q R=>eC [x1,x2,b,(nx a 1)] (g [Q] R))) fun S T=>ae .add (nx a 1) (i_ 1) fun U=>eC [x1,x2,b] (B [(nx S 0),U] T)) (K (nx a 0) f)
theorem R5(x0 x1 x2:AV):Body p_ 116 [x0,x1,x2] (MN x0 x1 x2):=bB Tryz.func116 (sn (.seq (sn (.one (.loop [1,2,10] [0,11] (sn (sn (.join [1,2,10,11] [0] (.one (sn (sn (.seq (.aR (oR 0 3 (.aD 2 true (fR 3 4) [0,1,2,8,10,11] [19,23]::.aD 6 false (fR 7 3) [0,1,2,8,10,11,19] [23,26]::.aD 2 true [(10,false)] [0,1,2,8,10,11] [19,27]::oR 11 2 (.aD 12 true (fR 13 3) [0,1,2,8,10,11] [29,32]::.aD 15 false (fR 16 2) [0,1,2,8,10,11,29] [32,34]::.aD 12 true [(18,false)] [0,1,2,8,10,11] [29,35]::.op 19 false::[])))) (.two (.aR (oR 0 2 (.op 2 true::oR 3 2 []))) .nil))))) .nil)))))) .nil)) 46 [.tmp 6]
def Sp(x0:AV)(h:aa)(K:AV→aa→Prop):Prop:=
 iC p_ 59 [x0,(.str [45])] h fun b a=>ag b (K (i_ 2) a) (K (i_ 1) a)
theorem YH(x0:AV):Body p_ 117 [x0] (Sp x0):=bB Tryz.func117 .nil 5 [.tmp 2]
def Sq(x0 x1:AV)(h:aa)(K:AV→aa→Prop):Prop:=
 ae .gtr x1 (u8 32) fun a=>aw (fun b=>ar a true (ae .lss x1 (u8 127) fun n=>eC [x0,x1] (b [tt,n] h)) (eC [x0,x1] (b [(aN true a),un] h))) fun c d=>aI (nx c 0) (nx c 1) ff fun e=>aw (fun f=>ar e true (iC p_ 146 [x1] d fun o p=>cq o fun q=>eC [x0,x1] (f [tt,q] p)) (eC [x0,x1] (f [(aN true e),un] d))) fun g i=>aI (nx g 0) (nx g 1) ff fun j=>aw (fun k=>ar j true (iC p_ 147 [x1] i fun r s=>cq r fun t=>eC [x0,x1] (k [tt,t] s)) (eC [x0,x1] (k [(aN true j),un] i))) fun l m=>aI (nx l 0) (nx l 1) ff fun u=>ag u (br 2 1 (u8 0) [(0,1,(u8 92)),(1,1,x1)] fun v=>bP false 5 1 1 x0 v m fun w x=>K w x) (br 1 1 (u8 0) [(0,1,(u8 92))] fun y=>bP false 5 1 1 x0 y m fun z A=>cy .u64 x1 fun B=>iC p_ 148 [z,B,(i_ 16)] A fun C D=>br 1 1 (u8 0) [(0,1,(u8 32))] fun E=>bP false 5 1 1 C E D fun F G=>K F G)
theorem YI(x0 x1:AV):Body p_ 118 [x0,x1] (Sq x0 x1):=bB Tryz.func118 (sn (.seq (.seq (.aR (oR 0 3 (.aD 2 true (fR 3 2) [0,1] [7,9]::oR 5 2 (.aD 6 true (fR 7 3) [0,1] [11,14]::oR 10 2 (.aD 11 true (fR 12 3) [0,1] [16,19]::.op 15 false::[]))))) (.two (.seq (.aR (oR 0 2 (.op 2 true::oR 3 2 []))) .nil) .nil)) (.seq (.aR (.op 0 false::.op 1 true::oR 2 2 [])) (sn (.seq (.aR (.op 0 false::.op 1 true::oR 2 2 [])) .nil))))) 35 [.tmp 4]
def So(x0:AV)(h:aa)(K:AV→aa→Prop):Prop:=
 iC p_ 147 [x0] h fun a b=>aw (fun c=>ar a false (iC p_ 146 [x0] b fun r s=>eC [x0] (c [ff,r] s)) (eC [x0] (c [(aN false a),un] b))) fun d e=>aI (nx d 0) tt (nx d 1) fun f=>aw (fun g=>ar f false (ae .eql x0 (u8 95) fun t=>eC [x0] (g [ff,t] e)) (eC [x0] (g [(aN false f),un] e))) fun i j=>aI (nx i 0) tt (nx i 1) fun k=>aw (fun l=>ar k false (ae .eql x0 (u8 45) fun u=>eC [x0] (l [ff,u] j)) (eC [x0] (l [(aN false k),un] j))) fun m n=>aI (nx m 0) tt (nx m 1) fun o=>aw (fun p=>ar o false (ae .geq x0 (u8 128) fun v=>p [ff,v] n) (p [(aN false o),un] n)) fun q w=>aI (nx q 0) tt (nx q 1) fun x=>K x w
theorem YG(x0:AV):Body p_ 114 [x0] (So x0):=bB Tryz.func114 (sn (.seq (.aR (oR 0 3 (.aD 2 false (fR 3 2) [0] [5,7]::oR 5 2 (.aD 6 false (fR 7 2) [0] [9,11]::oR 9 2 (.aD 10 false (fR 11 2) [0] [13,15]::oR 13 2 (.aD 14 false (fR 15 2) [] [17,19]::oR 17 2 [])))))) .nil)) 21 [.tmp 2]
def SG(x0:AV)(h:aa)(K:AV→aa→Prop):Prop:=
 ae .leq (u8 48) x0 fun a=>aw (fun b=>ar a true (ae .leq x0 (u8 57) fun d=>b [tt,d] h) (b [(aN true a),un] h)) fun c e=>aI (nx c 0) (nx c 1) ff fun f=>K f e
theorem YY(x0:AV):Body p_ 146 [x0] (SG x0):=bB Tryz.func146 (sn (.seq (.aR (oR 0 3 (.aD 2 true (fR 3 2) [] [5,7]::oR 5 2 []))) .nil)) 9 [.tmp 2]
def SH(x0:AV)(h:aa)(K:AV→aa→Prop):Prop:=
 ae .or x0 (u8 32) fun i=>ae .leq (u8 97) i fun a=>aw (fun b=>ar a true (ae .or x0 (u8 32) fun j=>ae .leq j (u8 122) fun k=>eC [x0] (b [tt,k] h)) (eC [x0] (b [(aN true a),un] h))) fun c d=>aI (nx c 0) (nx c 1) ff fun e=>aw (fun f=>ar e true (ae .lss x0 (u8 128) fun l=>f [tt,l] d) (f [(aN true e),un] d)) fun g m=>aI (nx g 0) (nx g 1) ff fun n=>K n m
theorem YZ(x0:AV):Body p_ 147 [x0] (SH x0):=bB Tryz.func147 (sn (.seq (.aR (oR 0 4 (.aD 3 true (fR 4 3) [0] [6,9]::oR 7 2 (.aD 8 true (fR 9 2) [] [11,13]::oR 11 2 [])))) .nil)) 15 [.tmp 2]
def SI(x0 x1 x2:AV)(h:aa)(K:AV→aa→Prop):Prop:=
 iC p_ 179 [x0,x1,x2] h fun a b=>K a b
theorem Y0(x0 x1 x2:AV):Body p_ 148 [x0,x1,x2] (SI x0 x1 x2):=bB Tryz.func148 .nil 11 [.tmp 6]
def SS(x0 x1 x2:AV)(h:aa)(K:AV→aa→Prop):Prop:=
 ae .eql x2 (i_ 10) fun f=>ag f (ae .lss x1 (.v (.int .u64 100)) fun g=>ag g (cy .i64 x1 fun i=>iC p_ 151 [i] h fun j k=>mH false 5 1 x0 j k fun l m=>K l m) (aW 199 (.agg [(u8 0),(u8 0),(u8 0),(u8 0),(u8 0),(u8 0),(u8 0),(u8 0),(u8 0),(u8 0),(u8 0),(u8 0),(u8 0),(u8 0),(u8 0),(u8 0),(u8 0),(u8 0),(u8 0),(u8 0),(u8 0),(u8 0),(u8 0),(u8 0)]) h fun a n=>iC p_ 152 [x1] n fun b c=>qp 24 1 a none (some b) c fun o=>iC p_ 153 [o,x1] c fun u d=>qp 24 1 a none (some b) d fun p=>bP false 5 1 1 x0 p d fun q r=>K q r)) (iC p_ 154 [x0,x1,x2,ff,tt] h fun e s=>aU 0 e fun t=>aU 1 e fun w=>K t s)
theorem Za(x0 x1 x2:AV):Body p_ 179 [x0,x1,x2] (SS x0 x1 x2):=bB Tryz.func179 .nil 36 [.tmp 6]
def SJ(x0 x1 x2 x3 x4:AV)(h:aa)(K:AV→aa→Prop):Prop:=
 aw (fun I=>ae .lss x2 (i_ 2) fun f=>aw (fun g=>ar f false (ae .eql x2 (i_ 10) fun J=>eC [x0,x1,x2,x3,x4,qNs,(.str [])] (g [ff,J] h)) (eC [x0,x1,x2,x3,x4,qNs,(.str [])] (g [(aN false f),un] h))) fun i j=>aI (nx i 0) tt (nx i 1) fun k=>aw (fun l=>ar k false (ae .gtr x2 (i_ 36) fun L=>eC [x0,x1,x2,x3,x4,qNs,(.str [])] (l [ff,L] j)) (eC [x0,x1,x2,x3,x4,qNs,(.str [])] (l [(aN false k),un] j))) fun m M=>aI (nx m 0) tt (nx m 1) fun N=>ag N (oZ 9 (.str [115,116,114,99,111,110,118,58,32,105,108,108,101,103,97,108,32,65,112,112,101,110,100,73,110,116,47,70,111,114,109,97,116,73,110,116,32,98,97,115,101]) fun c3=>False) (eC [x0,x1,x2,x3,x4,qNs,(.str [])] (I [] M))) fun c4 O=>aW 238 (.agg [(u8 0),(u8 0),(u8 0),(u8 0),(u8 0),(u8 0),(u8 0),(u8 0),(u8 0),(u8 0),(u8 0),(u8 0),(u8 0),(u8 0),(u8 0),(u8 0),(u8 0),(u8 0),(u8 0),(u8 0),(u8 0),(u8 0),(u8 0),(u8 0),(u8 0),(u8 0),(u8 0),(u8 0),(u8 0),(u8 0),(u8 0),(u8 0),(u8 0),(u8 0),(u8 0),(u8 0),(u8 0),(u8 0),(u8 0),(u8 0),(u8 0),(u8 0),(u8 0),(u8 0),(u8 0),(u8 0),(u8 0),(u8 0),(u8 0),(u8 0),(u8 0),(u8 0),(u8 0),(u8 0),(u8 0),(u8 0),(u8 0),(u8 0),(u8 0),(u8 0),(u8 0),(u8 0),(u8 0),(u8 0),(u8 0)]) O fun a n=>aw (fun o=>ag x3 (pb x1 fun P=>eC [x0,x2,x3,x4,qNs,(.str []),a,(i_ 65)] (o [P] n)) (eC [x0,x2,x3,x4,qNs,(.str []),a,(i_ 65)] (o [x1] n))) fun p Q=>aw (fun q=>iC p_ 187 [x2] Q fun R r=>ag R (cy .u64 x2 fun S=>iC p_ 188 [S] r fun T U=>cy .u64 T fun s=>cy .u64 x2 fun t=>cy .u64 x2 fun V=>ae .sub V (.v (.int .u64 1)) fun u=>bL [(nx p 0),(i_ 65)] U fun W b w =>
 ae .geq (nx b 0) t fun X=>ag X (ae .sub (nx b 1) (i_ 1) fun x=>ae .and (nx b 0) u fun Y=>dH (.str [48,49,50,51,52,53,54,55,56,57,97,98,99,100,101,102,103,104,105,106,107,108,109,110,111,112,113,114,115,116,117,118,119,120,121,122]) Y fun Z=>eR 65 1 a x fun a0=>ao 1 a0 Z w fun a1=>ae .shr (nx b 0) s fun a2=>eC [x0,x3,x4,qNs,(.str []),a,s,t,u] (W [a2,x] a1)) (ae .sub (nx b 1) (i_ 1) fun y=>dH (.str [48,49,50,51,52,53,54,55,56,57,97,98,99,100,101,102,103,104,105,106,107,108,109,110,111,112,113,114,115,116,117,118,119,120,121,122]) (nx b 0) fun a3=>eR 65 1 a y fun a4=>ao 1 a4 a3 w fun a5=>eC [x0,x3,x4,qNs,(.str []),a] (q [y] a5))) (cy .u64 x2 fun e=>bL [(nx p 0),(i_ 65)] r fun a6 c z =>
 ae .geq (nx c 0) e fun a7=>ag a7 (ae .sub (nx c 1) (i_ 1) fun A=>ae .quo (nx c 0) e fun B=>ae .mul B e fun a8=>ae .sub (nx c 0) a8 fun a9=>dH (.str [48,49,50,51,52,53,54,55,56,57,97,98,99,100,101,102,103,104,105,106,107,108,109,110,111,112,113,114,115,116,117,118,119,120,121,122]) a9 fun b0=>eR 65 1 a A fun b1=>ao 1 b1 b0 z fun b2=>eC [x0,x3,x4,qNs,(.str []),a,e] (a6 [B,A] b2)) (ae .sub (nx c 1) (i_ 1) fun C=>dH (.str [48,49,50,51,52,53,54,55,56,57,97,98,99,100,101,102,103,104,105,106,107,108,109,110,111,112,113,114,115,116,117,118,119,120,121,122]) (nx c 0) fun b3=>eR 65 1 a C fun b4=>ao 1 b4 b3 z fun b5=>eC [x0,x3,x4,qNs,(.str []),a] (q [C] b5)))) fun D E=>aw (fun F=>ag x3 (ae .sub (nx D 0) (i_ 1) fun G=>eR 65 1 a G fun b6=>ao 1 b6 (u8 45) E fun b7=>eC [x0,x4,qNs,(.str []),a] (F [G] b7)) (eC [x0,x4,qNs,(.str []),a] (F [(nx D 0)] E))) fun H d=>ag x4 (qp 65 1 a (some (nx H 0)) none d fun b8=>bP false 5 1 1 x0 b8 d fun b9 c0=>K (.aA [b9,(.str [])]) c0) (qp 65 1 a (some (nx H 0)) none d fun c1=>cJ c1 d fun c2=>K (.aA [qNs,c2]) d)
theorem Y1(x0 x1 x2 x3 x4:AV):Body p_ 154 [x0,x1,x2,x3,x4] (SJ x0 x1 x2 x3 x4):=bB Tryz.func154 (sn (.join [0,1,2,3,4,10,11] [] (.seq (.aR (oR 0 3 (.aD 2 false (fR 3 2) [0,1,2,3,4,10,11] [21,23]::oR 5 2 (.aD 6 false (fR 7 2) [0,1,2,3,4,10,11] [25,27]::.op 9 false::[])))) .nil) (sn (sn (.join [0,2,3,4,10,11,12,13] [1] .nil (.join [0,3,4,10,11,12] [13] (sn (.two (sn (sn (sn (.seq (.one (.loop [0,3,4,10,11,12,14,15,16] [1,13] .nil)) .nil)))) (sn (.seq (.one (.loop [0,3,4,10,11,12,17] [1,13] .nil)) .nil)))) (.join [0,4,10,11,12] [13] .nil .nil))))))) 102 [.tmp 10,.tmp 11]
def SU(x0:AV)(h:aa)(K:AV→aa→Prop):Prop:=
 ae .sub x0 (i_ 1) fun a=>ae .and x0 a fun b=>ae .eql b (i_ 0) fun c=>K c h
theorem Zb(x0:AV):Body p_ 187 [x0] (SU x0):=bB Tryz.func187 .nil 8 [.tmp 2]
def SV(x0:AV)(h:aa)(K:AV→aa→Prop):Prop:=
 ag ff (cy .u32 x0 fun a=>iC p_ 202 [a] h fun b c=>K b c) (iC p_ 203 [x0] h fun d e=>K d e)
theorem Zc(x0:AV):Body p_ 188 [x0] (SV x0):=bB Tryz.func188 .nil 8 [.tmp 2]
def SZ(x0:AV)(h:aa)(K:AV→aa→Prop):Prop:=
 ae .eql x0 (.v (.int .u64 0)) fun a=>ag a (K (i_ 64) h) (pb x0 fun b=>ae .and x0 b fun c=>ae .mul c (.v (.int .u64 285870213051353865)) fun d=>ae .shr d (.v (.int .u64 58)) fun e=>eR 64 1 (aG [] (.global 3)) e fun f=>ak false 1 f h fun g=>cy .i64 g fun i=>K i h)
theorem Zg(x0:AV):Body p_ 203 [x0] (SZ x0):=bB Tryz.func203 .nil 14 [.tmp 2]
end
section
open Go Go.Aw Go.bG
abbrev eI(l:List UInt8):List (List AV):=l.map fun b=>[bg b]
def cn(b:UInt8):Bool:=decide (48≤(b.toNat:Int))&&decide ((b.toNat:Int)≤57)
def Ux(b:UInt8):Int:=di .or .u8 (b.toNat:Int) 32
def eX(b:UInt8):Bool:=decide (97≤Ux b)&&decide (Ux b≤122)&&decide ((b.toNat:Int)<128)
def zf(b:UInt8):Bool:=eX b||cn b||decide ((b.toNat:Int)=95)||decide ((b.toNat:Int)=45)||decide (128≤(b.toNat:Int))
def lV:List UInt8:=[48,49,50,51,52,53,54,55,56,57,97,98,99,100,101,102,103,104,105,106,107,108,109,110,111,112,113,114,115,116,117,118,119,120,121,122]
def gA(b:UInt8):List UInt8:=if 16≤b.toNat then [lV.getD (b.toNat/16) 0,lV.getD (b.toNat%16) 0] else [lV.getD b.toNat 0]
def rY(b:UInt8):Bool:=decide (32<(b.toNat:Int))&&decide ((b.toNat:Int)<127)&&!cn b&&!eX b
def cC(b:UInt8):List UInt8:=if rY b then [92,b] else [92]++gA b++[32]
theorem vg(b:UInt8):(gA b).length≤2:=by unfold gA;split<;>simp
theorem EJ(b:UInt8):(cC b).length≤4:=by unfold cC;have:=vg b;split<;>simp;omega
def Gw(tid m:Nat)(h h':aa):Prop:=∃j,h'=h.set tid (.tok 5 1 m)++j
theorem Gw.len{tid m:Nat}{h h':aa}(g:Gw tid m h h'):h.length≤h'.length:=by obtain⟨j,rfl⟩:=g;simp
theorem Gw.trans{tid m m':Nat}{h h' h'':aa}(ht:tid<h.length)(a:Gw tid m h h')(b:Gw tid m' h' h''):Gw tid m' h h'':=by
 obtain⟨j,rfl⟩:=a;obtain⟨k,rfl⟩:=b;exact⟨j++k,by rw[IN _ _ (by simpa using ht),aaM,To]⟩
theorem Gw.tok{tid m:Nat}{h h':aa}(ht:tid<h.length)(g:Gw tid m h h'):h'[tid]?=some (.tok 5 1 m):=by
 obtain⟨j,rfl⟩:=g;rw[gO (by simpa using ht),iD ht]
theorem Gw.other{tid m:Nat}{h h':aa}(g:Gw tid m h h'){i:Nat}(hi:i<h.length)(hne:i≠tid):h'[i]?=h[i]?:=by
 obtain⟨j,rfl⟩:=g;rw[gO (by simpa using hi),iF (Ne.symm hne)]
theorem Gw.set(tid m:Nat)(h:aa):Gw tid m h (h.set tid (.tok 5 1 m)):=⟨[],by simp⟩
theorem iW{tid:Nat}{h:aa}{e:aL}(ht:h[tid]?=some e):tid<h.length:=(eQ.1 ht).1
theorem nZ{x:Int}{K:AV→Prop}(q:K (.sl 1 [[u8 x]])):br 1 1 (u8 0) [(0,1,u8 x)] K:=by
 have e:dQ (gQ 1 (bl (u8 0))) [(0,1,u8 x)]=some [u8 x]:=by simp[dQ,gQ,bl,bZ,bQ]
 unfold br;rw[e];exact q
theorem Ti{x y:Int}{K:AV→Prop}(q:K (.sl 1 [[u8 x],[u8 y]])):br 2 1 (u8 0) [(0,1,u8 x),(1,1,u8 y)] K:=by
 have e:dQ (gQ 2 (bl (u8 0))) [(0,1,u8 x),(1,1,u8 y)]=some [u8 x,u8 y]:=by simp[dQ,gQ,bl,bZ,bQ]
 unfold br;rw[e];exact q
theorem tV{k k':IntKind}{x:AV}{n m:Int}{K:AV→Prop}(e:x=.v (.int k' n))(hm:k.wrap n=m)(q:K (.v (.int k m))):cy k x K:=by subst hm;exact⟨k',n,e,q⟩
theorem Zp{k:IntKind}{x y:AV}{a b:Int}{K:AV→Prop}(ex:x=.v (.int k a))(ey:y=.v (.int k b))(q:K (.v (.int k (di .or k a b)))):ae .or x y K:=by
 subst ex;subst ey;exact⟨rfl,q⟩
theorem I5{k:IntKind}{x y:AV}{a b c:Int}{K:AV→Prop}(ex:x=.v (.int k a))(ey:y=.v (.int k b))(hc:di .and k a b=c)(q:K (.v (.int k c))):ae .and x y K:=by
 subst ex;subst ey;subst hc;exact⟨rfl,q⟩
theorem O8{k k':IntKind}{x y:AV}{a b c:Int}{K:AV→Prop}(ex:x=.v (.int k a))(ey:y=.v (.int k' b))(h0:0≤b)(hc:a.fdiv (2^(min b.toNat k.bits))=c)(q:K (.v (.int k c))):ae .shr x y K:=by
 subst ex;subst ey;subst hc;exact⟨h0,q⟩
theorem Eh{k:IntKind}{x y:AV}{a b c:Int}{K:AV→Prop}(hk:k≠.i64)(ex:x=.v (.int k a))(ey:y=.v (.int k b))(hc:k.wrap (a-b)=c)(q:K (.v (.int k c))):ae .sub x y K:=by
 subst ex;subst ey;subst hc;refine⟨rfl, ?_⟩;unfold qo qD;cases k<;>first|exact q|exact absurd rfl hk
theorem Tj{k:IntKind}{x y:AV}{a b c:Int}{K:AV→Prop}(hk:k≠.i64)(ex:x=.v (.int k a))(ey:y=.v (.int k b))(hc:k.wrap (a*b)=c)(q:K (.v (.int k c))):ae .mul x y K:=by
 subst ex;subst ey;subst hc;refine⟨rfl, ?_⟩;unfold qo qD;cases k<;>first|exact q|exact absurd rfl hk
theorem Tl{k:IntKind}{x:AV}{a c:Int}{K:AV→Prop}(hk:k≠.i64)(ex:x=.v (.int k a))(hc:k.wrap (0-a)=c)(q:K (.v (.int k c))):pb x K:=by
 subst ex;subst hc;refine⟨k,a,rfl, ?_⟩;unfold qD;cases k<;>first|exact q|exact absurd rfl hk
theorem Av{k:IntKind}{x i:AV}{l:List UInt8}{n:Nat}{K:AV→Prop}(e:x=.str l)(ei:i=.v (.int k n))(hn:n<l.length)(q:K (bg (l.getD n 0))):dH x i K:=by
 subst e;subst ei;exact⟨⟨by omega,by omega⟩,by rw[Mk];exact q⟩
theorem BI{len sz id o:Nat}{x i:AV}{K:AV→Prop}{n:Nat}(ex:x=.op id o)(ei:i=i_ n)(hn:n<len)(q:K (.op id (o+n*sz))):eR len sz x i K:=by
 subst ex;subst ei;exact⟨⟨by omega,by omega⟩,by rw[Mk];exact q⟩
section
variable [Laid]
theorem eB{P:Program}{f:FuncId}{args args':List AV}{h:aa}{K0 K:AV→aa→Prop}(hb:dr P f=true)(e:args=args')(c:bV P f args' h K0)(k:∀r h',K0 r h'→K r h'):bz P (.fn (.func f) [] []) args h K:=by
 subst e;exact⟨hb,by simpa using c.mono k⟩
theorem uY(b:UInt8):bn p_ 146 [bg b] (b_ (cn b)):=by
 refine (YY _).bj (by simp[bg]) (by simp) ?_;unfold SG;repeat' (first|(with_reducible apply aH)|((with_reducible apply gI);rfl;rfl)|((with_reducible apply aM);rfl)|((with_reducible apply aO);rfl)|((with_reducible apply cE);rfl)|(with_reducible intro _))
 all_goals refine .pure (by simp) ?_
 all_goals simp only[dU,gF,AV.v.injEq,Value.bool.injEq,Value.int.injEq,true_and]at *
 all_goals grind [cn]
theorem yY(b:UInt8):bn p_ 147 [bg b] (b_ (eX b)):=by
 refine (YZ _).bj (by simp[bg]) (by simp) ?_;unfold SH;repeat' (first|(with_reducible first|apply aH|apply aq)|((with_reducible first|apply cK|apply gI);rfl;rfl)|((with_reducible apply aM);rfl)|((with_reducible apply aO);rfl)|((with_reducible apply bw);rfl;first|rfl|assumption)|((with_reducible apply Zp);rfl;rfl)|((with_reducible apply cE);rfl)|(with_reducible intro _))
 all_goals refine .pure (by simp) ?_
 all_goals simp only[dU,gF,AV.v.injEq,Value.bool.injEq,Value.int.injEq,true_and]at *
 all_goals grind [eX,Ux]
theorem Jn(b:UInt8):bn p_ 114 [bg b] (b_ (zf b)):=by
 refine (YG _).bj (by simp[bg]) (by simp) ?_;unfold So;repeat' (first|(with_reducible first|apply aH|apply aq)|((with_reducible first|apply lJ|apply bR);rfl;rfl)|((with_reducible apply aM);rfl)|((with_reducible apply aO);rfl)|((with_reducible apply bw);rfl;first|rfl|assumption)|(refine uCon (yY _) ?_)|(refine uCon (uY _) ?_)|((with_reducible apply cE);rfl)|(with_reducible intro _))
 all_goals refine .pure (by simp) ?_
 all_goals simp only[dU,gF,AV.v.injEq,Value.bool.injEq,Value.int.injEq,true_and]at *
 all_goals grind [zf]
theorem Nu:bn p_ 187 [i_ 16] (b_ true):=by
 refine (Zb _).bj (by simp) (by simp) ?_;unfold SU;refine zze (by unfold aJ;omega) (I5 rfl rfl (c:=0) (by decide) (zzG ?_));exact .pure (by simp) rfl
end
variable [bq]
theorem Ny:bn p_ 203 [.v (.int .u64 16)] (i_ 4):=by
 refine (Zg _).bj (by simp) (by simp) ?_;unfold SZ;refine zzG (zzK (by decide) (Tl (c:=18446744073709551600) (by decide) rfl (by decide) (I5 (c:=16) rfl rfl (by decide) (Tj (c:=4573923408821661840) (by decide) rfl rfl (by decide) (O8 (c:=15) rfl rfl (by decide) (by decide) ?_)))));refine⟨⟨by decide,by decide⟩, ?_⟩;refine zzW (c:=.v (.int .u8 4)) (r:=(PJ [0,1,56,2,57,49,28,3,61,58,42,50,38,29,17,4,62,47,59,36,45,43,51,22,53,39,33,30,24,18,12,5,63,55,48,27,60,41,37,16,46,35,44,21,52,32,23,11,54,26,40,15,34,20,31,10,25,14,19,9,13,8,7,6]).drop 16) (tV (m:=4) rfl (by decide) ?_);exact .pure (by simp) rfl
theorem Ty:bn p_ 188 [.v (.int .u64 16)] (i_ 4):=by
 refine (Zc _).bj (by simp) (by simp) ?_;unfold SV;refine zzK rfl (uCon Ny ?_);exact .pure (by simp) rfl
end
section
open Go Go.Aw Go.bG
def jY:List AV:=List.replicate 65 (u8 0)
theorem VJ(b:UInt8):di .and .u64 (b.toNat:Int) 15=((b.toNat%16:Nat):Int):=by
 have:∀n:Fin 256,di .and .u64 ((n.val:Nat):Int) 15=((n.val%16:Nat):Int):=by decide
 exact this ⟨b.toNat,b.toNat_lt⟩
theorem Z2(b:UInt8):(b.toNat:Int).fdiv (2^(min (4:Int).toNat (IntKind.u64).bits))=((b.toNat/16:Nat):Int):=by
 have:∀n:Fin 256,((n.val:Nat):Int).fdiv (2^(min (4:Int).toNat (IntKind.u64).bits))=((n.val/16:Nat):Int):=by decide
 exact this ⟨b.toNat,b.toNat_lt⟩
theorem tY(l:List UInt8):(eI l).all (dk 1)=true:=yj (f:=fun b=>[bg b]) (fun _=>⟨rfl,rfl⟩) l
variable [bq]
def dg(n:Nat):AV:=bg (lV.getD n 0)
theorem Kr{h:aa}{tid:Nat}{rows:List (List AV)}(c:UInt8)(ht:h[tid]?=some (.tok 5 1 rows.length))(hr:rows.length≤2^40):
 bV p_ 154 [.sb tid 1 rows,.v (.int .u64 c.toNat),i_ 16,ff,tt] h fun r h' => r=.aA [.sb tid 1 (rows++eI (gA c)),.str []]∧Gw tid (rows.length+(gA c).length) h h':=by
 have hlt:=iW ht;have hc:c.toNat<256:=c.toNat_lt;refine (Y1 _ _ _ _ _).bI ?_;unfold SJ;refine aH (zzC (aH (zzN rfl (zzG (aq (zzQ (aH (zzN rfl (zzE (aq (zzQ (sA rfl (aq ?_)))))))))))));refine bW (h':=h++[.ah ⟨238,jY,true⟩]) (n:=h.length) (cs:=jY) rfl rfl rfl rfl (aH (sA rfl (aq (aH (uCon Nu (zzL rfl (tV (m:=16) rfl (by decide) (uCon Ty (tV (m:=4) rfl (by decide) (tV (m:=16) rfl (by decide) (tV (m:=16) rfl (by decide) (Eh (c:=15) (by decide) rfl rfl (by decide) ?_))))))))))));have blk1:∀x:jH,(h++[aL.ah x])[h.length]?=some (.ah x):=fun x=>by simp
 refine bc (α:=Bool) (fun k=>k=true→16≤c.toNat) (fun k=>if k then [.v (.int .u64 ((c.toNat/16:Nat):Int)),i_ 64] else [.v (.int .u64 c.toNat),i_ 65])
  (fun k=>h++[.ah ⟨238,if k then jY.set 64 (dg (c.toNat%16)) else jY,true⟩]) (fun k=>if k then 0 else 1) false (by simp) (Wk.refl _ _ _ (bY _)) ?_
 have fin:∀(cs:List AV) (o:Nat),cs.length=65→o≤64→cs.drop o=(gA c).map bg→65-o=(gA c).length →
  qp 65 1 (.op h.length 0) (some (i_ o)) none (h++[.ah ⟨238,cs,true⟩]) fun v70=>bP false 5 1 1 (.sb tid 1 rows) v70 (h++[.ah ⟨238,cs,true⟩]) fun v71 g72 =>
   ∃r' h'',Wk h.length [.aA [v71,.str []]] g72 [r'] h''∧r'=.aA [.sb tid 1 (rows++eI (gA c)),.str []]∧Gw tid (rows.length+(gA c).length) h h'':=by
  intro cs o hl ho hd hn;unfold qp;simp only[eT,blk1];refine⟨⟨by omega,by omega,by omega,by decide,by decide⟩, ?_⟩;have e1:(65-(o:Int)).toNat=(gA c).length:=by omega
  have e2:0+(o:Int).toNat*1=o:=by omega
  rw[show ((65:Nat):Int)=65 from rfl,e1,e2];refine xa (rows:=eI (gA c)) (k:=rows.length) rfl (by rw[gO hlt];exact ht) rfl ?_ (tY _) ⟨by unfold maxLen;have:=vg c;simp;omega,by have:=vg c;simp;omega⟩ rfl ?_
  ·rw[F9 (blk1 _) (by simp only;omega)];simp only[hd]
   congr 1
   have:=pH (sz:=1) (eI (gA c)) (tY _);rw[←this]
   congr 1
   ·simp
   ·clear this hd hn;induction gA c with
    | nil=>rfl
    | cons a l ih=>simp[ih]
  ·rw[IN _ _ hlt];exact⟨_,_,Wk.refl _ _ _ (by simp),rfl,⟨_,by rw[show (eI (gA c)).length=(gA c).length by simp]⟩⟩
 intro k hk;cases k with
 | false =>
   by_cases q:16≤c.toNat
   ·refine zzF (zzL (oF (by omega)) (zze (a:=65) (b:=1) (by unfold aJ;omega) (I5 rfl rfl (VJ c) (Av rfl rfl (n:=c.toNat%16) (by show _<36;omega) (BI (n:=64) rfl rfl (by omega) (aX (b:=⟨238,jY,true⟩) (cs:=[dg (c.toNat%16)]) (h':=h++[.ah ⟨238,jY.set 64 (dg (c.toNat%16)),true⟩]) rfl (blk1 _) rfl rfl (by simp[jY]) rfl rfl (by simp[bZ]) (O8 rfl rfl (by decide) (Z2 c) (aq ?_))))))));exact⟨true,fun _=>q,Wk.refl _ _ _ (by simp),by simp⟩
   ·have hx:gA c=[lV.getD c.toNat 0]:=by unfold gA;rw[if_neg q]
    refine zzF (zzK (nO (by omega)) (zze (a:=65) (b:=1) (by unfold aJ;omega) (Av rfl rfl (n:=c.toNat) (by show _<36;omega) (BI (n:=64) rfl rfl (by omega) (aX (b:=⟨238,jY,true⟩) (cs:=[dg c.toNat]) (h':=h++[.ah ⟨238,jY.set 64 (dg c.toNat),true⟩]) rfl (blk1 _) rfl rfl (by simp[jY]) rfl rfl (by simp[bZ]) (aq (aH (sA rfl (aq (Gs rfl ?_))))))))));exact fin (jY.set 64 (dg c.toNat)) 64 (by simp[jY]) (by omega) (by rw[hx];rfl) (by rw[hx];rfl)
 | true =>
   have q:=hk rfl;have hx:gA c=[lV.getD (c.toNat/16) 0,lV.getD (c.toNat%16) 0]:=by unfold gA;rw[if_pos q]
   refine zzF (zzK (nO (by omega)) (zze (a:=64) (b:=1) (by unfold aJ;omega) (Av rfl rfl (n:=c.toNat/16) (by show _<36;omega) (BI (n:=63) rfl rfl (by omega) (aX (b:=⟨238,jY.set 64 (dg (c.toNat%16)),true⟩) (cs:=[dg (c.toNat/16)]) (h':=h++[.ah ⟨238,(jY.set 64 (dg (c.toNat%16))).set 63 (dg (c.toNat/16)),true⟩]) rfl (blk1 _) rfl rfl (by simp[jY]) rfl rfl (by simp[bZ]) (aq (aH (sA rfl (aq (Gs rfl ?_))))))))));exact fin ((jY.set 64 (dg (c.toNat%16))).set 63 (dg (c.toNat/16))) 63 (by simp[jY]) (by omega) (by rw[hx];rfl) (by rw[hx];rfl)
theorem Kq{h:aa}{tid:Nat}{rows:List (List AV)}(c:UInt8)(ht:h[tid]?=some (.tok 5 1 rows.length))(hr:rows.length≤2^40):
 bV p_ 179 [.sb tid 1 rows,.v (.int .u64 c.toNat),i_ 16] h fun r h' => r=.sb tid 1 (rows++eI (gA c))∧Gw tid (rows.length+(gA c).length) h h':=by
 refine (Za _ _ _).bI ?_;unfold SS;refine zzG (zzK rfl (eB (by kernel_rfl) rfl (Kr c ht hr) ?_));rintro _ h' ⟨rfl,g⟩;refine zzB rfl (zzB rfl ?_);exact⟨_,_,Wk.refl _ _ _ g.len,rfl,g⟩
theorem MX{h:aa}{tid:Nat}{rows:List (List AV)}(c:UInt8)(ht:h[tid]?=some (.tok 5 1 rows.length))(hr:rows.length≤2^40):
 bV p_ 148 [.sb tid 1 rows,.v (.int .u64 c.toNat),i_ 16] h fun r h' => r=.sb tid 1 (rows++eI (gA c))∧Gw tid (rows.length+(gA c).length) h h':=by
 refine (Y0 _ _ _).bI ?_;unfold SI;refine eB (by kernel_rfl) rfl (Kq c ht hr) ?_;rintro _ h' ⟨rfl,g⟩;exact⟨_,_,Wk.refl _ _ _ g.len,rfl,g⟩
omit [bq] in
theorem ve{own:Bool}{h:aa}{tid:Nat}{x y:AV}{rows:List (List AV)}(l:List UInt8){K:AV→aa→Prop}(ex:x=.sb tid 1 rows)(ey:y=.sl 1 (eI l))(ht:h[tid]?=some (.tok 5 1 rows.length))(hr:rows.length+l.length≤2^41)
 (q:K (.sb tid 1 (rows++eI l)) (h.set tid (.tok 5 1 (rows.length+l.length)))):bP own 5 1 1 x y h K:=by
 subst ey;refine xa (rows:=eI l) (k:=rows.length) ex ht rfl fP (tY _) ⟨by unfold maxLen;simp;omega,by simp;omega⟩ rfl ?_;simpa using q
theorem Az{h:aa}{tid:Nat}{rows:List (List AV)}(c:UInt8)(ht:h[tid]?=some (.tok 5 1 rows.length))(hr:rows.length≤2^39):
 bV p_ 118 [.sb tid 1 rows,bg c] h fun r h' => r=.sb tid 1 (rows++eI (cC c))∧Gw tid (rows.length+(cC c).length) h h':=by
 have hlt:=iW ht;refine (YI _ _).bI ?_;unfold Sq;have yes:∀{K:AV→aa→Prop},rY c=true→K (.sb tid 1 (rows++eI (cC c))) (h.set tid (.tok 5 1 (rows.length+(cC c).length))) →
  br 2 1 (u8 0) [(0,1,(u8 92)),(1,1,bg c)] fun v21=>bP false 5 1 1 (.sb tid 1 rows) v21 h K:=by
  intro K e q;have e':cC c=[92,c]:=by unfold cC;rw[if_pos e]
  refine Ti (ve [92,c] rfl rfl ht (by simp;omega) ?_);rw[e']at q;exact q
 have no:∀{K:AV→aa→Prop},rY c=false→(∀h',Gw tid (rows.length+(cC c).length) h h'→K (.sb tid 1 (rows++eI (cC c))) h') →
  br 1 1 (u8 0) [(0,1,(u8 92))] fun v24=>bP false 5 1 1 (.sb tid 1 rows) v24 h fun v25 g26=>cy .u64 (bg c) fun v27=>bz p_ (.fn (.func 148) [] []) [v25,v27,(i_ 16)] g26 fun v28 g29=>br 1 1 (u8 0) [(0,1,(u8 32))] fun v30=>bP false 5 1 1 v28 v30 g29 K:=by
  intro K e q;have e':cC c=[92]++gA c++[32]:=by unfold cC;rw[e];rfl
  have hx:=vg c;refine nZ (ve [92] rfl rfl ht (by simp;omega) ?_);have hc:=c.toNat_lt;refine tV (m:=(c.toNat:Int)) rfl (by have:∀n:Fin 256,IntKind.wrap .u64 ((n.val:Nat):Int)=((n.val:Nat):Int):= (by decide); exact this ⟨c.toNat,hc⟩) ?_;refine eB (by kernel_rfl) rfl (MX c (by rw[iD hlt];simp) (by simp;omega)) ?_;rintro _ h' ⟨rfl,g⟩;have g1:Gw tid ((rows++eI [92]).length+(gA c).length) h h':=(Gw.set tid _ h).trans hlt g;refine nZ (ve [32] rfl rfl (by rw[g1.tok hlt];simp;omega) (by simp;omega) ?_);have:=q (h'.set tid (.tok 5 1 (rows.length+(cC c).length))) (g1.trans hlt (Gw.set tid _ h'));rw[e']at this;simpa[Nat.add_assoc]using this
 repeat' (first|(with_reducible first|apply aH|apply aq|refine And.intro True.intro ?_)|((with_reducible first|apply cK|apply fe);rfl;rfl)|((with_reducible apply dM);rfl)|((with_reducible apply aM);rfl)|((with_reducible apply aO);rfl)|((with_reducible apply ay);rfl;first|rfl|assumption)|((with_reducible apply bw);rfl;first|rfl|assumption)|((with_reducible apply jl);rfl)|((with_reducible apply fw);rfl)|(refine uCon (uY _) ?_)|(refine uCon (yY _) ?_)|((with_reducible apply ct);rfl)|((with_reducible apply cE);rfl)|(with_reducible intro _))
 all_goals first
  | refine yes (by grind [rY]) ⟨_,_,Wk.refl _ _ _ (by simp),rfl,Gw.set _ _ _⟩
  | refine no (by grind [rY]) fun h' g=>⟨_,_,Wk.refl _ _ _ g.len,rfl,g⟩
end
section
open Go Go.Aw Go.bG
def gY(s:af):Nat:=if s.take 1=[45] then 2 else 1
def kO(s:af)(fr i:Nat)(c:UInt8):Bool:=zf c&&(decide ((fr:Int)≤(i:Int))||!cn c)&&(decide ((fr:Int)=0)||!decide (s=[45]))
def il(s:af)(fr i:Nat)(c:UInt8):af:=if kO s fr i c then [c] else cC c
def jy(s:af)(fr k:Nat):af:=(List.range k).flatMap fun i=>il s fr i (s.getD i 0)
def eW(s:af):af:=jy s (gY s) s.length
theorem QY(s:af)(fr i:Nat)(c:UInt8):(il s fr i c).length≤4:=by unfold il;have:=EJ c;split<;>simp;omega
theorem vw(s:af)(fr k:Nat):jy s fr (k+1)=jy s fr k++il s fr k (s.getD k 0):=by
 unfold jy;rw[List.range_succ,List.flatMap_append];simp
theorem Cd(s:af)(fr:Nat):∀k,(jy s fr k).length≤4*k
 | 0=>by simp[jy]
 | k+1=>by
   have:=Cd s fr k;have h2:=QY s fr k (s.getD k 0);rw[vw,AT];omega
theorem Gw.refl{tid m:Nat}{h:aa}(ht:h[tid]?=some (.tok 5 1 m)):Gw tid m h h:=⟨[],by rw[kn ht];simp⟩
variable [bq]
theorem Nl(l m:af):bn p_ 94 [.str l,.str m] (b_ (decide (m.length≤l.length)&&decide (l.take m.length=m))):=by
 refine (WX _ _).bj (by simp) (by simp) ?_;unfold Tc
 by_cases h1:m.length≤l.length
 ·simp[h1];refine fun _ _=>.pure (by simp) (by simp)
 ·simp[h1];refine fun _ _=>.pure (by simp) (by simp)
theorem AJ(s:af):bn p_ 117 [.str s] (i_ (gY s)):=by
 refine (YH _).bj (by simp) (by simp) ?_;unfold Sp;have pre:bn p_ 59 [.str s,.str [45]] (b_ (decide (s.take 1=[45]))):=by
  refine (WW _ _).bj (by simp) (by simp) ?_;unfold Ta;refine uCon (Nl s [45]) (.pure (by simp) ?_)
  congr 2
  cases s<;>simp
 refine uCon pre ?_;refine ct rfl (fun q=>?_) fun q=>?_
 ·exact .pure (by simp) (by unfold gY;rw[if_pos (by simpa using q)];rfl)
 ·exact .pure (by simp) (by unfold gY;rw[if_neg (by simpa using q)];rfl)
theorem Dg{h0 h:aa}{x0:AV}{tid:Nat}{base:List (List AV)}(s:af)(fr:Nat)(ht:h[tid]?=some (.tok 5 1 base.length))(hb:base.length≤2^38)(hs:s.length≤2^35)
 (w0:Wk h0.length [x0,i_ 0] h0 [.sb tid 1 base,i_ 0] h) {K:AV→aa→Prop} (k:∀H,Gw tid (base.length+(jy s fr s.length).length) h H→K (.sb tid 1 (base++eI (jy s fr s.length))) H):MN x0 (.str s) (i_ fr) h0 K:=by
 have hlt:=iW ht;have h0l:h0.length≤h.length:=w0.1;unfold MN;refine zzZ fun _=>?_;refine bc (α:=Nat×aa) (fun p=>p.1≤s.length∧Gw tid (base.length+(jy s fr p.1).length) h p.2) (fun p=>[.sb tid 1 (base++eI (jy s fr p.1)),i_ p.1]) (fun p=>p.2) (fun p=>s.length-p.1) (0,h) ⟨by simp,by simpa[jy]using Gw.refl ht⟩ (by simpa[jy]using w0) ?_;rintro⟨i,H⟩ ⟨hi,g⟩;simp only[eC]at hi g ⊢;have hl:=Cd s fr i
 by_cases q:i<s.length
 ·obtain⟨c,hc⟩:∃c,s[i]?=some c:=⟨s[i],dO q⟩;have hcd:s.getD i 0=c:=by rw[nE,hc];rfl
  refine zzC (zzL (oF (by omega)) (aH (tW rfl rfl hc ?_)));have htok:=g.tok hlt;have leaf:∀{H':aa} {x:List (List AV)},x=base++eI (jy s fr i)++eI (il s fr i c)→Gw tid (base.length+(jy s fr i).length+(il s fr i c).length) h H' →
   ∃y:Nat×aa,(y.1≤s.length∧Gw tid (base.length+(jy s fr y.1).length) h y.2)∧Wk h0.length [.sb tid 1 x,i_ ((i:Int)+1)] H' [.sb tid 1 (base++eI (jy s fr y.1)),i_ y.1] y.2∧s.length-y.1<s.length-i:=by
   intro H' x ex g';subst ex;refine⟨(i+1,H'),⟨by omega, ?_⟩, ?_,by omega⟩
   ·simp only[vw,hcd,AT];rw[←Nat.add_assoc];exact g'
   ·simp only[vw,hcd,List.map_append,←To];exact Wk.refl _ _ _ (aaT h0l g'.len)
  have hin:aJ ((i:Int)+1):=by unfold aJ;omega
  have yes:∀{K:AV→aa→Prop} {x:AV},x=.sb tid 1 (base++eI (jy s fr i))→kO s fr i c=true→K (.sb tid 1 (base++eI (jy s fr i)++eI (il s fr i c))) (H.set tid (.tok 5 1 (base.length+(jy s fr i).length+(il s fr i c).length))) →
   br 1 1 (u8 0) [(0,1,bg c)] fun v38=>bP false 5 1 1 x v38 H K:=by
   intro K x ex e q;subst ex;have e':il s fr i c=[c]:=by unfold il;rw[if_pos e]
   refine nZ (ve [c] rfl rfl (by rw[htok];simp) (by simp;omega) ?_);rw[e']at q;simpa[Nat.add_assoc]using q
  have no:∀{K:AV→aa→Prop} {x:AV},x=.sb tid 1 (base++eI (jy s fr i))→kO s fr i c=false→(∀H',Gw tid (base.length+(jy s fr i).length+(il s fr i c).length) h H'→K (.sb tid 1 (base++eI (jy s fr i)++eI (il s fr i c))) H') →
   bz p_ (.fn (.func 118) [] []) [x,bg c] H K:=by
   intro K x ex e q;subst ex;have e':il s fr i c=cC c:=by unfold il;rw[e];rfl
   refine eB (by kernel_rfl) rfl (Az c (by rw[htok];simp) (by simp;omega)) ?_;rintro _ H' ⟨rfl,g'⟩;rw[←e']at g' ⊢;exact q H' (g.trans hlt (by simpa using g'))
  repeat' (first|(with_reducible first|apply aH|refine And.intro True.intro ?_)|((with_reducible first|apply lJ|apply bR);rfl;rfl)|((with_reducible apply jN);rfl;rfl)|((with_reducible apply dM);rfl)|((with_reducible apply aM);rfl)|((with_reducible apply aO);rfl)|((with_reducible apply ax);rfl;first|rfl|assumption)|((with_reducible apply ay);rfl;first|rfl|assumption)|((with_reducible apply bt);rfl;first|rfl|assumption)|((with_reducible apply bw);rfl;first|rfl|assumption)|((with_reducible apply dc);rfl)|((with_reducible apply jl);rfl)|((with_reducible apply fw);rfl)|(refine uCon (Jn _) ?_)|(refine uCon (uY _) ?_)|((with_reducible apply ct);rfl)|((with_reducible apply cE);rfl)|(with_reducible intro _))
  all_goals first
   | refine yes rfl (by grind [kO]) ?_
     refine And.intro True.intro (zzP hin (And.intro True.intro ?_));exact leaf rfl (g.trans hlt (Gw.set _ _ _))
   | refine no rfl (by grind [kO]) fun H' g' => ?_
     refine And.intro True.intro (zzP hin (And.intro True.intro ?_));exact leaf rfl g'
 ·obtain rfl:i=s.length:=by omega
  refine zzC (zzK (nO (by omega)) ?_);exact k H g
theorem M1{h:aa}{tid:Nat}{base:List (List AV)}(s:af)(fr:Nat)(ht:h[tid]?=some (.tok 5 1 base.length))(hb:base.length≤2^38)(hs:s.length≤2^35):
 bV p_ 116 [.sb tid 1 base,.str s,i_ fr] h fun r h' => r=.sb tid 1 (base++eI (jy s fr s.length))∧Gw tid (base.length+(jy s fr s.length).length) h h':=by
 refine (R5 _ _ _).bI ?_;refine Dg s fr ht hb hs (Wk.refl _ _ _ (bY _)) fun H g=>?_;exact⟨_,_,Wk.refl _ _ _ g.len,rfl,g⟩
theorem Ks{h:aa}(s:af)(fr:Nat)(hs:s.length≤2^35):
 bV p_ 116 [.v (.slice none 0 0),.str s,i_ fr] h fun r h' => r=.sb h.length 1 (eI (jy s fr s.length))∧∃j,h'=h++j:=by
 refine (R5 _ _ _).bI ?_;refine Dg (h:=h++[.tok 5 1 0]) (tid:=h.length) (base:=[]) s fr (by simp) (by simp) hs ?_ fun H g=>?_
 ·exact (Wk.nil (bY _) 0 rfl).trans (Wk.tok (bY _) 0 5 1 rfl)
 ·obtain⟨j,rfl⟩:=g;refine⟨_,_,Wk.refl _ _ _ (by simp),by simp, ?_⟩;rw[IF _ _ (bY _),To];exact⟨_,rfl⟩
end
section
open Go Go.Aw Go.bG
def FP(c:UInt8):Bool:=decide (0≤Lib.indexByte [10,12,13,34,92] c)
def iG(c:UInt8):af:=if FP c then cC c else [c]
def ux(s:af):af:=[34]++s.flatMap iG++[34]
def vV(k:Int)(s:af)(f:Bool):AV:=.agg [u8 k,.str s,i_ 0,.str [],b_ f]
theorem Rf(c:UInt8):(iG c).length≤4:=by unfold iG;have:=EJ c;split<;>simp;omega
theorem Ck:∀(s:af),(s.flatMap iG).length≤4*s.length
 | []=>by simp
 | c:: s=>by
   have:=Ck s;have h2:=Rf c;simp only[List.flatMap_cons,AT,aaB];omega
theorem FQ{s:af}{i:Nat}{c:UInt8}(hc:s[i]?=some c):(s.take (i+1)).flatMap iG=(s.take i).flatMap iG++iG c:=by
 rw[By,hc,List.flatMap_append];simp
variable [bq]
theorem DE(s:af)(b:UInt8):bn p_ 72 [.str s,bg b] (i_ (Lib.indexByte s b)):=by
 refine iu (v:=.int .i64 (Lib.indexByte s b)) (by simp[bg]) (by simp) (by simp) (fun w=>by simp) ?_;intro ι S w vs h1 _
 match vs,h1 with
 | [],h1=>simp at h1
 | [v],h1=>simp at h1
 | v:: u:: x:: vs,h1=>simp at h1
 | [v,u],h1 =>
   simp only[bg,bO,dp,and_true,eA,cz]at h1;obtain⟨⟨rfl,_⟩,rfl⟩:=h1;refine (Any.strings_IndexByte lays137 ⟨s.toArray⟩ (b.toNat:Int) w).mono ?_;rintro e w' ⟨rfl,rfl⟩;exact⟨by simp,Go.RowKit.Below.refl _ _⟩
omit [bq] in
theorem O7{x y:AV}{a b c:af}{K:AV→Prop}(ex:x=.str a)(ey:y=.str b)(hc:a++b=c)(hl:c.length≤maxLen)(q:K (.str c)):ae .add x y K:=by
 subst ex;subst ey;subst hc;exact⟨by simpa using hl,q⟩
theorem zza{a b c:af}{K:AV→Prop}(hc:a++b=c)(hl:c.length≤maxLen)(q:K (.str c)):ae .add (.str a) (.str b) K:=O7 rfl rfl hc hl q
def Bw(k:Int)(s:af)(f:Bool):Prop:=(k=1∧f=false∧s≠[])∨(k=4∧f=true∧s≠[])∨(k=5∧f=false)
theorem Nk(k:Int)(s:af)(f:Bool)(ok:Bw k s f)(hz:gD s=true)(hs:s.length≤2^35):bn p_ 84 [vV k s f] (b_ true):=by
 have hi:Lib.indexByte s 0<0:=by
  have:=ov s;rw[hz]at this;simpa using this
 refine (V84 _).bj (by simp[vV]) (by simp) ?_;unfold X8 vV;refine bW (h':=[.ah ⟨70,[u8 k,.str s,i_ 0,.str [],b_ f],true⟩]) (n:=0) (cs:=[u8 k,.str s,i_ 0,.str [],b_ f]) rfl rfl rfl rfl (zzA (zzU rfl rfl (zzA (zzU rfl rfl (zza (aaL s) (by unfold maxLen;omega) (uCon (ua s) (oK true rfl rfl (oF hi) ?_)))))));rcases ok with⟨rfl,rfl,hn⟩|⟨rfl,rfl,hn⟩|⟨rfl,rfl⟩
 ·obtain⟨c,l,rfl⟩:=List.exists_cons_of_ne_nil hn;repeat' (first|(with_reducible first|apply aH|apply aq)|((with_reducible apply bR);rfl;rfl)|((with_reducible first|apply gK|apply jN);rfl;rfl)|((with_reducible apply dM);rfl)|((with_reducible apply aM);rfl)|((with_reducible apply aO);rfl)|((with_reducible apply ax);rfl;first|rfl|assumption)|((with_reducible apply bt);rfl;first|rfl|assumption)|((with_reducible apply bw);rfl;first|rfl|assumption)|((with_reducible apply aK);rfl)|((with_reducible apply aF);rfl;rfl;rfl))
  all_goals exact .pure (by simp) rfl
 ·obtain⟨c,l,rfl⟩:=List.exists_cons_of_ne_nil hn;repeat' (first|(with_reducible first|apply aH|apply aq)|((with_reducible apply bR);rfl;rfl)|((with_reducible first|apply gK|apply jN);rfl;rfl)|((with_reducible apply aM);rfl)|((with_reducible apply aO);rfl)|((with_reducible apply ax);rfl;first|rfl|assumption)|((with_reducible apply ay);rfl;first|rfl|assumption)|((with_reducible apply bt);rfl;first|rfl|assumption)|((with_reducible apply bw);rfl;first|rfl|assumption)|((with_reducible apply dc);rfl)|((with_reducible apply aK);rfl)|((with_reducible apply aF);rfl;rfl;rfl))
  all_goals exact .pure (by simp) rfl
 ·repeat' (first|(with_reducible first|apply aH|apply aq)|((with_reducible apply bR);rfl;rfl)|((with_reducible apply gK);rfl;rfl)|((with_reducible apply dM);rfl)|((with_reducible apply aM);rfl)|((with_reducible apply aO);rfl)|((with_reducible apply ax);rfl;first|rfl|assumption)|((with_reducible apply ay);rfl;first|rfl|assumption)|((with_reducible apply bt);rfl;first|rfl|assumption)|((with_reducible apply bw);rfl;first|rfl|assumption)|((with_reducible apply aK);rfl)|((with_reducible apply aF);rfl;rfl;rfl))
  all_goals exact .pure (by simp) rfl
omit [bq] in
theorem EO{h:aa}{x y:AV}(l:List UInt8){K:AV→aa→Prop}(ex:x=.v (.slice none 0 0))(ey:y=.sl 1 (eI l))(hr:l.length≤2^41)(q:K (.sb h.length 1 (eI l)) (h++[.tok 5 1 l.length])):bP false 5 1 1 x y h K:=by
 subst ex;subst ey;unfold bP eE;rw[fP];exact⟨tY l,⟨by unfold maxLen;simp;omega,by simp;omega⟩,by simpa using q⟩
def jA(k:Int)(s:af):af:=if k=5 then ux s else (if k=4 then [35] else [])++eW s
theorem M4{h:aa}(k:Int)(s:af)(f:Bool)(ok:Bw k s f)(hs:s.length≤2^35):
 bV p_ 85 [.v (.slice none 0 0),vV k s f] h fun r h' => h.length≤h'.length∧∃id,r=.sb id 1 (eI (jA k s)):=by
 refine (V85 _ _).bI ?_;unfold X9 vV;have ah:∀(x:jH) (j:aa),(h++aL.ah x:: j)[h.length]?=some (.ah x):=fun x j=>by simp
 refine bW (h':=h++[.ah ⟨70,[u8 k,.str s,i_ 0,.str [],b_ f],true⟩]) (n:=h.length) (cs:=[u8 k,.str s,i_ 0,.str [],b_ f]) rfl rfl rfl rfl (zzA (zzU (ah _ _) rfl ?_));rcases ok with⟨rfl,rfl,hn⟩|⟨rfl,rfl,hn⟩|⟨rfl,rfl⟩
 ·refine zzG (zzL rfl (zzA (zzU (ah _ _) rfl (zzA (zzU (ah _ _) rfl (zzT (by kernel_rfl) (AJ s) (eB (by kernel_rfl) rfl (Ks s (gY s) hs) ?_)))))));rintro _ h' ⟨rfl,j,rfl⟩;exact⟨_,_,Wk.refl _ _ _ (by simp),by simp,_,rfl⟩
 ·refine zzG (zzK rfl (zzG (zzK rfl (zzG (zzK rfl (zzG (zzL rfl (aH (zzA (zzU (ah _ _) rfl (zzL rfl (zzA (zzU (ah _ _) rfl ?_)))))))))))));refine uCon (AJ s) (aq (nZ (zzA (zzU (ah _ _) rfl (EO [35] rfl rfl (by simp) (eB (by kernel_rfl) rfl (M1 s (gY s) (by simp) (by simp) hs) ?_))))));rintro _ h' ⟨rfl,g⟩;have:=g.len;simp at this;exact⟨_,_,Wk.refl _ _ _ (by omega),by omega,_,rfl⟩
 ·refine zzG (zzK rfl (zzG (zzK rfl (zzG (zzK rfl (zzG (zzK rfl (zzG (zzL rfl (nZ (EO [34] rfl rfl (by simp) ?_)))))))))));rw[show (h++[aL.ah ⟨70,[u8 5,.str s,i_ 0,.str [],b_ false],true⟩]).length=h.length+1 by simp];refine zzA (zzU (by rw[To];exact ah _ _) rfl ?_);rw[vh,uj];intro _;rw[show (h++[aL.ah ⟨70,[u8 5,.str s,i_ 0,.str [],b_ false],true⟩]++[aL.tok 5 1 ([34]:af).length]).length=h.length+2 by simp];have hT:∀e:aL,(h++[aL.ah ⟨70,[u8 5,.str s,i_ 0,.str [],b_ false],true⟩]++[aL.tok 5 1 ([34]:af).length]++[e])[h.length+1]?=some (.tok 5 1 1):=fun e=>by
   rw[To,To,gT (by omega)];simp
  have hB:∀e:aL,(h++[aL.ah ⟨70,[u8 5,.str s,i_ 0,.str [],b_ false],true⟩]++[aL.tok 5 1 ([34]:af).length]++[e])[h.length+2]?=some e:=fun e=>by
   rw[To,To,gT (by omega)];simp
  have hT0:=hT (.ah ⟨5,s.map bg,true⟩);have hB0:=hB (.ah ⟨5,s.map bg,true⟩);generalize (h++[aL.ah ⟨70,[u8 5,.str s,i_ 0,.str [],b_ false],true⟩]++[aL.tok 5 1 ([34]:af).length]++[aL.ah ⟨5,s.map bg,true⟩])=H0 at hT0 hB0 ⊢;have hlt:=iW hT0;have hlb:=iW hB0;have hl0:h.length≤H0.length:=by omega
  refine bc (α:=Nat×aa) (fun p=>p.1≤s.length∧Gw (h.length+1) (1+((s.take p.1).flatMap iG).length) H0 p.2) (fun p=>[.sb (h.length+1) 1 (eI ([34]++(s.take p.1).flatMap iG)),i_ p.1]) (fun p=>p.2) (fun p=>s.length-p.1) (0,H0) ⟨by simp,by simpa using Gw.refl hT0⟩ (by simpa using Wk.refl _ _ _ (bY _)) ?_;rintro⟨i,H⟩ ⟨hi,g⟩;simp only[eC]at hi g ⊢;have hl:((s.take i).flatMap iG).length≤4*i:=by have:=Ck (s.take i);rw[aaI]at this;omega
  have htok:=g.tok hlt;have hlen:(eI ([34]++(s.take i).flatMap iG)).length=1+((s.take i).flatMap iG).length:=by
   simp only[AT,aaC,aaB,abd]
  by_cases q:i<s.length
  ·obtain⟨c,hc⟩:∃c,s[i]?=some c:=⟨s[i],dO q⟩;refine zzC (zzL (oF (by omega)) (aH (jm (n:=i) rfl rfl q (zzU (b:=⟨5,s.map bg,true⟩) (c:=bg c) (by rw[g.other hlb (by omega)];exact hB0) (by simp[hc]) (uCon (DE [10,12,13,34,92] c) (zzF ?_))))));have hin:aJ ((i:Int)+1):=by unfold aJ;omega
   have leaf:∀{H':aa} {x:List (List AV)},x=eI ([34]++(s.take i).flatMap iG)++eI (iG c)→Gw (h.length+1) (1+((s.take i).flatMap iG).length+(iG c).length) H0 H' →
    ∃y:Nat×aa,(y.1≤s.length∧Gw (h.length+1) (1+((s.take y.1).flatMap iG).length) H0 y.2)∧Wk H0.length [.sb (h.length+1) 1 x,i_ ((i:Int)+1)] H' [.sb (h.length+1) 1 (eI ([34]++(s.take y.1).flatMap iG)),i_ y.1] y.2∧s.length-y.1<s.length-i:=by
    intro H' x ex g';subst ex;refine⟨(i+1,H'),⟨by omega, ?_⟩, ?_,by omega⟩
    ·simp only[FQ hc,AT];rw[←Nat.add_assoc];exact g'
    ·simp only[FQ hc,List.map_append,←To];exact Wk.refl _ _ _ g'.len
   refine ct rfl (fun e=>?_) fun e=>?_
   ·have e':iG c=cC c:=by unfold iG;rw[if_pos (by exact e)]
    refine eB (by kernel_rfl) rfl (Az c (by rw[htok,hlen]) (by rw[hlen];omega)) ?_;rintro _ H' ⟨rfl,g'⟩;refine And.intro True.intro (zzP hin (And.intro True.intro ?_));refine leaf (by rw[e']) (g.trans hlt ?_);rw[e',←hlen];exact g'
   ·have e':iG c=[c]:=by unfold iG;rw[if_neg (by simpa[FP]using e)]
    refine nZ (ve [c] rfl rfl (by rw[htok,hlen]) (by rw[hlen];show _+1≤_;omega) (And.intro True.intro (zzP hin (And.intro True.intro ?_))));refine leaf (by rw[e']) (g.trans hlt ?_);rw[e',←hlen];exact Gw.set _ _ H
  ·obtain rfl:i=s.length:=by omega
   refine zzC (zzK (nO (by omega)) (nZ (ve [34] rfl rfl (by rw[htok,hlen]) (by rw[hlen];show _+1≤_;omega) ?_)));refine⟨_,_,Wk.refl _ _ _ (by have:=g.len;rw[aaN];omega),by have:=g.len;rw[aaN];omega,h.length+1, ?_⟩;simp[jA,ux]
theorem P5(k:Int)(s:af)(f:Bool)(ok:Bw k s f)(hz:gD s=true)(hs:s.length≤2^35):bn p_ 52 [vV k s f] (.aA [.str (jA k s),i_ 0]):=by
 refine (V52 _).bj (by simp[vV]) (by simp) ?_;unfold XH;refine bW (h':=[.ah ⟨70,[u8 k,.str s,i_ 0,.str [],b_ f],true⟩]) (n:=0) (cs:=[u8 k,.str s,i_ 0,.str [],b_ f]) rfl rfl rfl rfl (zzV rfl (bY _) (uCon (Nk k s f ok hz hs) (zzO (zzK rfl (zzV rfl (bY _) (eB (by kernel_rfl) rfl (M4 k s f ok hs) ?_))))));rintro _ h' ⟨_,id,rfl⟩;have e:((jB h' 1 (.sb id 1 (eI (jA k s)))).bind fun p=>wG p.flatten)=some (jA k s):=by
  rw[Md,Option.bind_some];have:∀l:af,(eI l).flatten=l.map bg:=fun l=>by induction l with
   | nil=>rfl
   | cons a l ih=>simp[ih]
  rw[this,nN]
 unfold cJ;rw[e];exact .pure (by simp) rfl
end
section
open Go Go.Aw Go.bG
def Bj:List af:=[[],[61],[126,61],[124,61],[94,61],[36,61],[42,61]]
def qE:List af:=[[],[32],[32,62,32],[32,43,32],[32,126,32]]
def sJ(n:af)(o:Int)(v:af)(f:Bool):af:=[91]++eW n++(if o=0 then [] else Bj.getD o.toNat []++ux v)++(if f then [32,105] else [])++[93]
def kf(k a b:Int)(w:Bool):Bool:=eK k&&!w&&decide (a=0)&&decide (b=1)
theorem Ih(n:Nat):(Bj.getD n []).length≤2:=by
 match n with
 | 0|1|2|3|4|5|6=>decide
 | n+7=>simp[Bj]
theorem B8(n:Nat):(qE.getD n []).length≤3:=by
 match n with
 | 0|1|2|3|4=>decide
 | n+5=>simp[qE]
theorem Io(s:af):(ux s).length≤4*s.length+2:=by
 have:=Ck s;unfold ux;simp only[AT,aaB,abd];omega
theorem uu(s:af):(eW s).length≤4*s.length:=Cd s (gY s) s.length
theorem PV(n:af)(o:Int)(v:af)(f:Bool):(sJ n o v f).length≤4*n.length+4*v.length+8:=by
 have h1:=uu n;have h2:=Io v;have h3:=Ih o.toNat;unfold sJ;simp only[AT,aaB,abd];split<;>split<;>simp only[AT,aaB,abd]<;>omega
end
section
open Go Go.Aw
variable [Laid]
def XI(x0:AV)(h:aa)(K:AV→aa→Prop):Prop:=
 aW 44 x0 h fun a j=>ak true 2 a j fun n=>iC p_ 86 [n] j fun k f=>qBe .neq k 0 fun o=>ag o (K (.aA [.str [],k]) f) (iFL 1 false 1 a f fun p=>iC p_ 87 [p,i_ 10] f fun b d=>iFL 0 false 1 a d fun q=>qBe .eql q 0 fun r=>ag r (K (.aA [b,i_ 0]) d) (iFL 0 false 1 a d fun s=>iC p_ 87 [s,i_ 10] d fun g e=>aw (fun l=>iFL 0 false 1 a e fun t=>qBe .eql t 1 fun u=>qJo u [a,b,g] e (fun v=>iFL 0 false 1 a e fun w=>qBe .eql w (-1) fun x=>v x e) fun y m=>ag y (iC p_ 88 [g,.str [49]] m fun z A=>eC [a,b] (l [z] A)) (eC [a,b] (l [g] m))) fun B c=>ae .add (nx B 0) (.str [110]) fun i=>iFL 1 false 1 a c fun C=>qBe .gtr C 0 fun D=>ag D (ae .add (.str [43]) b fun E=>ae .add i E fun F=>K (.aA [F,i_ 0]) c) (iFL 1 false 1 a c fun G=>qBe .lss G 0 fun H=>ag H (ae .add i b fun I=>K (.aA [I,i_ 0]) c) (K (.aA [i,i_ 0]) c))))
theorem V54(x0:AV):Body p_ 54 [x0] (XI x0):=bB Tryz.func54 (sn (sn (sn (sn (sn (.join [1,5] [6] (.seq (.aR (oR 0 4 (.aD 3 false (fR 4 3) [1,5,6] [25,28]::.op 7 false::[]))) .nil) .nil)))))) 50 [.tmp 2,.tmp 3]
def Yb(x0 x1:AV)(h:aa)(K:AV→aa→Prop):Prop:=
 iC p_ 123 [x0,x1] h fun a b=>K a b
theorem V88(x0 x1:AV):Body p_ 88 [x0,x1] (Yb x0 x1):=bB Tryz.func88 .nil 8 [.tmp 4]
def Ss(x0 x1:AV)(h:aa)(K:AV→aa→Prop):Prop:=
 iC p_ 155 [x0,x1] h fun b a=>ag b (cR x0 fun c=>cR x1 fun d=>ae .sub c d fun e=>eN x0 none (some e) fun f=>K f a) (K x0 a)
theorem YK(x0 x1:AV):Body p_ 123 [x0,x1] (Ss x0 x1):=bB Tryz.func123 .nil 16 [.tmp 4]
def SK(x0 x1:AV)(h:aa)(K:AV→aa→Prop):Prop:=
 cR x0 fun a=>cR x1 fun b=>ae .geq a b fun c=>qKa c h (fun d=>cR x0 fun e=>cR x1 fun f=>ae .sub e f fun g=>eN x0 (some g) none fun i=>ae .eql i x1 fun j=>d j h) fun k l=>K k l
theorem Y2(x0 x1:AV):Body p_ 155 [x0,x1] (SK x0 x1):=bB Tryz.func155 (sn (.seq (.aR (oR 0 6 (.aD 5 true (fR 6 9) [] [10,19]::oR 15 2 []))) .nil)) 21 [.tmp 4]
end
section
open Go.Shelf
theorem uSo2{α:Type}{a b:α}(h:a=b:=by kernel_rfl):some a=some b:=congrArg some h
def laysM173_ren:Go.Shelf.Ren:=⟨fun|173=>87|246=>122|283=>151|284=>152|285=>153|286=>154|129=>185|317=>184|318=>186|319=>187|320=>188|337=>202|338=>203|n=>n,fun|2=>2|3=>3|9=>9|4=>4|171=>199|0=>0|53=>196|37=>35|5=>5|173=>202|212=>237|51=>150|20=>20|213=>238|46=>188|232=>283|233=>284|n=>n,fun|17=>1|18=>2|19=>3|n=>n⟩
theorem laysM173:Go.Proofs.LaysM.n173 p_ laysM173_ren:={
 mixed:=by kernel_rfl
 f129:=Tryz.func185.trans uSo2
 f173:=Tryz.func87.trans uSo2
 f246:=Tryz.func122.trans uSo2
 f283:=Tryz.func151.trans uSo2
 f284:=Tryz.func152.trans uSo2
 f285:=Tryz.func153.trans uSo2
 f286:=Tryz.func154.trans uSo2
 f317:=Tryz.func184.trans uSo2
 f318:=Tryz.func186.trans uSo2
 f319:=Tryz.func187.trans uSo2
 f320:=Tryz.func188.trans uSo2
 f337:=Tryz.func202.trans uSo2
 f338:=Tryz.func203.trans uSo2
 t0:=Tryz.underlying0
 a0:=Tryz.isAgg0
 z0:=Tryz.sizeOf0
 v0:=Tryz.zeroValue0
 t2:=Tryz.underlying2
 a2:=Tryz.isAgg2
 z2:=Tryz.sizeOf2
 v2:=Tryz.zeroValue2
 t3:=Tryz.underlying3
 a3:=Tryz.isAgg3
 z3:=Tryz.sizeOf3
 v3:=Tryz.zeroValue3
 t4:=Tryz.underlying4
 a4:=Tryz.isAgg4
 z4:=Tryz.sizeOf4
 v4:=Tryz.zeroValue4
 t5:=Tryz.underlying5
 a5:=Tryz.isAgg5
 z5:=Tryz.sizeOf5
 v5:=Tryz.zeroValue5
 t9:=Tryz.underlying9
 a9:=Tryz.isAgg9
 z9:=Tryz.sizeOf9
 v9:=Tryz.zeroValue9
 t20:=Tryz.underlying20
 a20:=Tryz.isAgg20
 z20:=Tryz.sizeOf20
 v20:=Tryz.zeroValue20
 t37:=Tryz.underlying35
 a37:=Tryz.isAgg35
 z37:=Tryz.sizeOf35
 v37:=Tryz.zeroValue35
 t46:=Tryz.underlying188
 a46:=Tryz.isAgg188
 z46:=Tryz.sizeOf188
 v46:=Tryz.zeroValue188
 t51:=Tryz.underlying150
 a51:=Tryz.isAgg150
 z51:=Tryz.sizeOf150
 v51:=Tryz.zeroValue150
 t53:=Tryz.underlying196
 a53:=Tryz.isAgg196
 z53:=Tryz.sizeOf196
 v53:=Tryz.zeroValue196
 t171:=Tryz.underlying199
 a171:=Tryz.isAgg199
 z171:=Tryz.sizeOf199
 v171:=Tryz.zeroValue199
 t173:=Tryz.underlying202
 a173:=Tryz.isAgg202
 z173:=Tryz.sizeOf202
 v173:=Tryz.zeroValue202
 t212:=Tryz.underlying237
 a212:=Tryz.isAgg237
 z212:=Tryz.sizeOf237
 v212:=Tryz.zeroValue237
 t213:=Tryz.underlying238
 a213:=Tryz.isAgg238
 z213:=Tryz.sizeOf238
 t232:=Tryz.underlying283
 a232:=Tryz.isAgg283
 z232:=Tryz.sizeOf283
 v232:=Tryz.zeroValue283
 t233:=Tryz.underlying284
 a233:=Tryz.isAgg284
 z233:=Tryz.sizeOf284
 v233:=Tryz.zeroValue284
 g17:=by kernel_rfl
 g18:=by kernel_rfl
 g19:=by kernel_rfl
 i0:=by kernel_rfl
 i2:=by kernel_rfl
 i3:=by kernel_rfl
 i4:=by kernel_rfl
 i5:=by kernel_rfl
 i9:=by kernel_rfl
 i20:=by kernel_rfl
 i37:=by kernel_rfl
 i46:=by kernel_rfl
 i51:=by kernel_rfl
 i53:=by kernel_rfl
 i171:=by kernel_rfl
 i173:=by kernel_rfl
 i212:=by kernel_rfl
 i232:=by kernel_rfl
 i233:=by kernel_rfl
 m17:=by kernel_rfl
 m18:=by kernel_rfl
 m19:=by kernel_rfl }
open Go.RowKit Go.Sort Go.Lib in
theorem BQ(n:Int)(h0:-9223372036854775808≤n)(h1:n≤9223372036854775807)(w:World)(htab:Lib.TabIs p_ w "internal/strconv.uint64pow10" .u64 Lib.pow10Tab):
 Calls p_ 87 #[.int .i64 n,.int .i64 10] w fun e w' => e=.returned (.string ⟨(Lib.itoa n).toArray⟩)∧∃k os,w'=grow (w.drewN k) os:=Any.strconv_FormatInt_10 laysM173 n h0 h1 w htab
end
section
open Go Go.Aw Go.bG Go.RowKit
def M5(A B:Int):AV:=.agg [i_ A,i_ B]
def oQ(n:Int):Bool:=decide (-1000000000≤n)&&decide (n≤1000000000)
theorem Bi(n:Int):oQ n=gu n:=by
 unfold oQ gu;rw[Bool.eq_iff_iff];simp
def UF:List Int:=[1,10,100,1000,10000,100000,1000000,10000000,100000000,1000000000,10000000000,100000000000,1000000000000,10000000000000,100000000000000,1000000000000000,10000000000000000,100000000000000000,1000000000000000000,10000000000000000000]
def UE:List AV:=UF.map fun z=>.v (.int .u64 z)
theorem Vk{P:Program}{S:ba}{W:World}{g:Nat}{name:String}{k:IntKind}{zs:List Int}(hn:P.globalNamed name=some g)(h:bD [] S W (zs.map fun z=>.v (.int k z)) g 0)(hs:∃ty,W.shape? g=some (ty,zs.length)):Lib.TabIs P W name k zs:=by
 obtain⟨ty,hs⟩:=hs;unfold Lib.TabIs World.var?;rw[hn,Option.bind_some];unfold World.shape? at hs;split at hs
 ·rename_i c t f hh;simp only[On,aaK]at hs;obtain⟨_,hz⟩:=hs;rw[hh];simp only[On];refine Array.ext (by simpa using hz) fun i h1 h2=>?_;have hi:i<zs.length:=by simpa using h2
  obtain⟨u,hu,_,ru⟩:=h.get i (.v (.int k zs[i])) (by rw[iN,dO hi];rfl);rw[cz]at ru;subst ru;rw[aaQ,gb hh]at hu;rw[UP h1]at hu;simpa using hu
 ·cases hs
variable [bq]
theorem Hd(n:Int)(h:aJ n):bn p_ 87 [i_ n,i_ 10] (.str (Lib.itoa n)):=by
 have hlen:(Lib.itoa n).length≤21:=by
  unfold aJ at h;unfold Lib.itoa;have key:∀u:Nat,u≤9223372036854775808→(Lib.decDigits u).length≤20:=fun u hu=>by
   rw[Lib.decDigits_length]
   by_cases h0:u=0
   ·subst h0;rw[Lib.nDigits_small (by omega)];omega
   ·have:=Lib.numDigits_eq u (by omega) (by omega);split at this<;>omega
  split
  ·have:=key n.natAbs (by omega);simp;omega
  ·have:=key n.toNat (by omega);omega
 refine iu (v:=.string ⟨(Lib.itoa n).toArray⟩) (by simp[aV]) (by simp) (by simp) (fun w=>by simp[maxLen];omega) ?_;intro ι S w vs h1 hg
 match vs,h1 with
 | [],h1=>simp at h1
 | [v],h1=>simp at h1
 | v:: u:: x:: vs,h1=>simp at h1
 | [v,u],h1 =>
   simp only[bO,dp,and_true,cz]at h1;obtain⟨rfl,rfl⟩:=h1;have ht:Lib.TabIs p_ w "internal/strconv.uint64pow10" .u64 Lib.pow10Tab:=by
    have e:Lib.pow10Tab=UF:=by decide
    rw[e];obtain⟨hc,hs⟩:=hg 1 UE (by rfl);exact Vk (g:=1) (by kernel_rfl) hc (by simpa[UE]using hs)
   refine (BQ n h.1 h.2 w ht).mono ?_;rintro e w' ⟨rfl,k,os,rfl⟩;exact⟨rfl,Lib.below_grow _ _ (bY _) _ _⟩
/-! ### The reference's digits -/
omit [bq] in
theorem vk(n:Int)(h:oQ n=true):(Lib.itoa n).length≤21:=by
 simp only[oQ,NO,Of]at h;unfold Lib.itoa;have key:∀u:Nat,u≤1000000000→(Lib.decDigits u).length≤20:=fun u hu=>by
  rw[Lib.decDigits_length]
  by_cases h0:u=0
  ·subst h0;rw[Lib.nDigits_small (by omega)];omega
  ·have:=Lib.numDigits_eq u (by omega) (by omega);split at this<;>omega
 split
 ·have:=key n.natAbs (by omega);simp;omega
 ·have:=key n.toNat (by omega);omega
def mS(A B:Int):List UInt8:=
 if A=0 then Lib.itoa B else
  (if A=1 then [] else if A=-1 then [45] else Lib.itoa A)++[110]++(if 0<B then 43:: Lib.itoa B else if B<0 then Lib.itoa B else [])
theorem DD(s:List UInt8)(h:s=[49]∨s=[45,49]):bn p_ 155 [.str s,.str [49]] (b_ true):=by
 refine (Y2 _ _).bj (by simp) (by simp) ?_;unfold SK;rcases h with rfl|rfl<;>simp[maxLen,aJ]<;>exact .pure (by simp) rfl
theorem KI(s:List UInt8)(h:s=[49]∨s=[45,49]):bn p_ 123 [.str s,.str [49]] (.str (s.dropLast)):=by
 refine (YK _ _).bj (by simp) (by simp) ?_;unfold Ss;refine zzS (by kernel_rfl) (DD s h) ?_;rcases h with rfl|rfl<;>simp[maxLen,aJ]<;>exact .pure (by simp) rfl
theorem EC(s:List UInt8)(h:s=[49]∨s=[45,49]):bn p_ 88 [.str s,.str [49]] (.str (s.dropLast)):=by
 refine (V88 _ _).bj (by simp) (by simp) ?_;unfold Yb;refine zzS (by kernel_rfl) (KI s h) ?_;exact .pure (by simp) rfl
omit [bq] in
theorem E4:Lib.itoa 1=[49]:=by rw[Lib.itoa,if_neg (by omega),Lib.decDigits,dif_pos (by decide)];rfl
omit [bq] in
theorem itoa_neg:Lib.itoa (-1)=[45,49]:=by rw[Lib.itoa,if_pos (by omega),Lib.decDigits,dif_pos (by decide)];rfl
theorem Nw(A B:Int)(hA:oQ A=true)(hB:oQ B=true):bn p_ 54 [M5 A B] (.aA [.str (mS A B),i_ 0]):=by
 refine (V54 _).bj (by simp[M5]) (by simp) ?_;unfold XI;simp[M5,-A5];have hc:bn p_ 86 [.agg [i_ A,i_ B]] (i_ 0):=by
  have:=om A B;rw[←Bi,←Bi,hA,hB]at this;exact this
 refine uCon hc ?_;have lA:=vk A hA;have lB:=vk B hB;have iA:aJ A:=by simp only[oQ,NO,Of]at hA;unfold aJ;omega
 have iB:aJ B:=by simp only[oQ,NO,Of]at hB;unfold aJ;omega
 simp[-A5];refine zzS (by kernel_rfl) (Hd B iB) ?_
 by_cases h0:A=0
 ·simp[h0,-A5];exact .pure (by simp) (by simp[mS])
 simp[h0,-A5];refine zzS (by kernel_rfl) (Hd A iA) ?_;refine Gu [.str (if A=1 then [] else if A=-1 then [45] else Lib.itoa A)] [.ah ⟨44,[i_ A,i_ B],true⟩] ?_ (fun F hF=>by
  by_cases h1:A=1
  ·subst h1;simp;refine zzS (by kernel_rfl) (EC _ (.inl E4)) ?_;simpa[E4]using hF
  ·by_cases h2:A=-1
   ·subst h2;simp;refine zzS (by kernel_rfl) (EC _ (.inr itoa_neg)) ?_;simpa[itoa_neg]using hF
   ·simpa[h1,h2]using hF)
 have hl:(if A=1 then [] else if A=-1 then [45] else Lib.itoa A).length≤21:=by
  (repeat' split)<;>first|exact lA|simp
 generalize hs:(if A=1 then [] else if A=-1 then [45] else Lib.itoa A)=s at hl;have out:mS A B=s++[110]++(if 0<B then 43:: Lib.itoa B else if B<0 then Lib.itoa B else []):=by rw[mS,if_neg h0,hs]
 rw[out];have e1:s.length+1≤maxLen:=by unfold maxLen;omega
 have e2:1+(Lib.itoa B).length≤maxLen:=by unfold maxLen;omega
 have e3:s.length+1+((Lib.itoa B).length+1)≤maxLen:=by unfold maxLen;omega
 have e4:s.length+1+(Lib.itoa B).length≤maxLen:=by unfold maxLen;omega
 simp[e1,e2,e3,e4];refine⟨fun hp=>.pure (by simp) (by simp[hp]),fun hp=>⟨fun hn=>.pure (by simp) ?_,fun hn=>.pure (by simp) ?_⟩⟩
 ·rw[if_neg (by omega),if_pos hn]
 ·rw[if_neg (by omega),if_neg (by omega)]
end
section
open Go Go.Aw Go.bG
def fj(sep:Nat→af)(ts:List af)(k:Nat):af:=(List.range k).flatMap fun i=>sep i++ts.getD i []
def gR(sep:Nat→af)(ts:List af):af:=fj sep ts ts.length
def fS(k:Nat):af:=if k=0 then [] else [44,32]
def ga(cs:List Int)(k:Nat):af:=if k=0 then [] else qE.getD (cs.getD (k-1) 0).toNat []
def w5:List af:=[[58,108,105,110,107],[58,118,105,115,105,116,101,100],[58,97,110,121,45,108,105,110,107],[58,114,111,111,116],[58,101,109,112,116,121],[58,110,116,104,45,99,104,105,108,100,40],[58,110,116,104,45,108,97,115,116,45,99,104,105,108,100,40],[58,105,115,40],[58,119,104,101,114,101,40],[58,110,111,116,40],[58,104,97,115,40]]
def CZ:List af:=[[58,102,105,114,115,116,45,99,104,105,108,100],[58,108,97,115,116,45,99,104,105,108,100]]
def tL(k a b:Int)(w:Bool):af:=if eK k&&oQ a&&oQ b then mS a b++(if w then [32,111,102,32] else []) else []
mutual
def oU:Cx→af
 | .mk l ps cs=>(if 1<l then (qE.getD l.toNat []).drop 1 else [])++gR (ga cs) (dE ps)
def dE:List Cp→List af
 | []=>[]
 | p:: l=>oI p:: dE l
def oI:Cp→af
 | .mk t ss=>(if t=[42] then [42] else eW t)++(fC ss).flatten
def fC:List Sm→List af
 | []=>[]
 | s:: l=>jI s:: fC l
def jI:Sm→af
 | .mk k n o v f a b w l=>if k=1 then [35]++eW n else if k=2 then [46]++eW n else if k=3 then sJ n o v f else if kf k a b w then CZ.getD (k-9).toNat [] else
  if k≤8 then w5.getD (k-4).toNat [] else w5.getD (k-4).toNat []++tL k a b w++gR fS (de l)++[41]
def de:List Cx→List af
 | []=>[]
 | x:: l=>oU x:: de l
end
def fc(l:List Cx):af:=gR fS (de l)
mutual
def gX:Cx→Bool
 | .mk _ ps _=>uh ps
def uh:List Cp→Bool
 | []=>true
 | p:: l=>gP p&&uh l
def gP:Cp→Bool
 | .mk _ ss=>wv ss
def wv:List Sm→Bool
 | []=>true
 | s:: l=>gS s&&wv l
def gS:Sm→Bool
 | .mk _ _ o _ _ _ _ _ l=>decide (0≤o)&&ju l
def ju:List Cx→Bool
 | []=>true
 | x:: l=>gX x&&ju l
end
theorem xJ:∀l,uh l=l.all gP
 | []=>by simp[uh]
 | p:: l=>by simp[uh,xJ l]
theorem xK:∀l,wv l=l.all gS
 | []=>by simp[wv]
 | p:: l=>by simp[wv,xK l]
theorem xL:∀l,ju l=l.all gX
 | []=>by simp[ju]
 | p:: l=>by simp[ju,xL l]
theorem py:∀l,dE l=l.map oI
 | []=>by simp[dE]
 | p:: l=>by simp[dE,py l]
theorem so:∀l,fC l=l.map jI
 | []=>by simp[fC]
 | p:: l=>by simp[fC,so l]
theorem su:∀l,de l=l.map oU
 | []=>by simp[de]
 | p:: l=>by simp[de,su l]
theorem qQ(sep:Nat→af)(ts:List af)(k:Nat):fj sep ts (k+1)=fj sep ts k++(sep k++ts.getD k []):=by
 unfold fj;rw[List.range_succ,List.flatMap_append];simp
def lY(ts:List af):Nat:=(ts.map fun t=>t.length+3).sum
theorem ta{sep:Nat→af}(hs:∀i,(sep i).length≤3)(ts:List af):∀k,k≤ts.length→(fj sep ts k).length≤lY (ts.take k)
 | 0,_=>by simp[fj]
 | k+1,hk=>by
   have ih:=ta hs ts k (by omega);have e:ts[k]?=some (ts[k]'(by omega)):=dO (by omega);have h2:=hs k;rw[qQ,By,e];have e2:ts.getD k []=ts[k]'(by omega):=by rw[nE,e];rfl
   unfold lY at ih ⊢;rw[e2,List.map_append,List.sum_append];simp only[AT,Option.toList_some,GO,List.map_nil,List.sum_cons,List.sum_nil];omega
theorem wZ{sep:Nat→af}(hs:∀i,(sep i).length≤3)(ts:List af):(gR sep ts).length≤lY ts:=by
 have:=ta hs ts ts.length (bY _)
 rwa [BY]at this
theorem vH(i:Nat):(fS i).length≤3:=by unfold fS;split<;>simp
theorem Ag(cs:List Int)(i:Nat):(ga cs i).length≤3:= by
 unfold ga;split
 ·simp
 ·exact B8 _
theorem ke(ts:List af):ts.flatten.length≤lY ts:=by
 induction ts with
 | nil=>simp
 | cons t l ih=>unfold lY at *;simp only[abc,AT,GO,List.sum_cons];omega
theorem QM(n:Nat):(w5.getD n []).length≤16:=by
 match n with
 | 0|1|2|3|4|5|6|7|8|9|10=>decide
 | n+11=>simp[w5]
theorem Hv(n:Nat):(CZ.getD n []).length≤16:=by
 match n with
 | 0|1=>decide
 | n+2=>simp[CZ]
theorem Ej(a b:Int)(ha:oQ a=true)(hb:oQ b=true):(mS a b).length≤50:=by
 have h1:=vk a ha;have h2:=vk b hb;unfold mS;split
 ·omega
 ·(repeat' split)<;>simp<;>omega
theorem Oi(k a b:Int)(w:Bool):(tL k a b w).length≤54:=by
 unfold tL;split
 ·rename_i h;simp only[NO]at h;have:=Ej a b h.1.2 h.2;rw[AT];split<;>simp<;>omega
 ·simp
mutual
theorem Rz:∀x,(oU x).length+3≤100*zX x
 | .mk l ps cs=>by
   have h:=vZ ps;have h2:=wZ (Ag cs) (dE ps);have h3:=B8 l.toNat;rw[oU,zX,AT];split
   ·rw[List.length_drop];omega
   ·simp only[abd];omega
theorem vZ:∀l,lY (dE l)≤100*gh l
 | []=>by simp[dE,lY]
 | p:: l=>by
   have h1:=Rx p;have h2:=vZ l;rw[dE,gh];unfold lY at *;simp only[GO,List.sum_cons];omega
theorem Rx:∀p,(oI p).length+3≤100*zP p
 | .mk t ss=>by
   have h1:=wa ss;have h2:=ke (fC ss);have h3:=uu t;rw[oI,zP,AT];split
   ·simp only[aaB,abd];omega
   ·omega
theorem wa:∀l,lY (fC l)≤100*gH l
 | []=>by simp[fC,lY]
 | p:: l=>by
   have h1:=IT p;have h2:=wa l;rw[fC,gH];unfold lY at *;simp only[GO,List.sum_cons];omega
theorem IT:∀s,(jI s).length+3≤100*zS s
 | .mk k n o v f a b w l=>by
   have h1:=sq l;have h2:=wZ vH (de l);have h3:=uu n;have h4:=PV n o v f;have h5:=QM (k-4).toNat;have h6:=Hv (k-9).toNat;have h7:=Oi k a b w;rw[jI,zS]
   (repeat' split)
   all_goals first|omega|(simp only[AT,aaB,abd];omega)
theorem sq:∀l,lY (de l)≤100*cD l
 | []=>by simp[de,lY]
 | p:: l=>by
   have h1:=Rz p;have h2:=sq l;rw[de,cD];unfold lY at *;simp only[GO,List.sum_cons];omega
end
theorem RM(l:List Cx):(fc l).length≤100*cD l:=aaT (wZ vH _) (sq l)
end
section
open Go Go.Aw Go.fg Go.RowKit
open Go.bG hiding u1 af
variable{a:Nat}{c b:UInt8}{s r n g d x y:af}{l m:List Tok}{t:Tok}{N:af→Prop}{B k A:Int}{f:Bool}
def Tq(s:af)(a:Nat)(l:List Tok)(b:Nat):Prop:=a≤b∧b≤s.length∧lS s (Rt.gr s a)=l++lS s (Rt.gr s b)
theorem Tq.refl(h:a≤s.length):Tq s a [] a:=⟨bY _,h,rfl⟩
theorem Tq.trans{a b c:Nat}(x:Tq s a l b)(y:Tq s b m c):Tq s a (l++m) c:=⟨aaT x.1 y.1,y.2.1,by rw[x.2.2,y.2.2,To]⟩
theorem FH{b:Nat}(h:Rt.aB s b≠47):Rt.gr s b=b:=by
 rw[Rt.gr,dif_neg];rintro⟨h1,h2⟩;unfold Rt.hasB at h2;have h2:=oN h2;have h3:((s.drop b).take 2)[0]?=some 47:=by rw[show (s.drop b).take 2=[47,42] from h2];rfl
 rw[ON,if_pos (by decide),aaG,Nat.add_zero]at h3;apply h;unfold Rt.aB;rw[nE,h3];rfl
theorem Tq.one{a b:Nat}(h:a<s.length)(e:iR s a=(t,b))(hp:Rt.aB s a≠47):Tq s a [t] b:=by
 have h1:=xZ h;rw[e]at h1;refine⟨by omega,h1.2, ?_⟩;rw[FH hp,lS,dif_pos h,e];rfl
theorem mA(h:s.drop a=y)(i:Nat):Rt.aB s (a+i)=y.getD i 0:=by
 subst h;unfold Rt.aB;rw[nE,nE,aaG]
theorem cX(h:s.drop a=y):Rt.aB s a=y.getD 0 0:=mA h 0
theorem gZ(h:s.drop a=y)(i:Nat):s[a+i]?=y[i]?:=by
 subst h;rw[aaG]
theorem cS(h:s.drop a=x++r):s.drop (a+x.length)=r:=by
 rw[←List.drop_drop,h,List.drop_left]
theorem ep(h:s.drop a=c:: r):a<s.length:=by
 have:=congrArg List.length h;simp at this;omega
theorem Bb(ha:a≤s.length)(h:s.drop a=x++r):a+x.length≤s.length:=by
 have:=congrArg List.length h;simp at this;omega
/-! ### Escapes -/
theorem wT{n:Nat}(h:n<16):Rt.iZ (lV.getD n 0)=n∧lV.getD n 0≠10:=by
 have:∀k:Fin 16,Rt.iZ (lV.getD k.val 0)=(k.val:Int)∧lV.getD k.val 0≠10:=by decide
 exact this ⟨n,h⟩
theorem IX(h0:c≠0)(h:c.toNat<128):Rt.sx c.toNat=[c]:=by
 have h1:c.toNat≠0:=fun e=>h0 (UInt8.toNat_inj.1 (by simpa using e));unfold Rt.sx;rw[if_neg (by omega),if_pos h];simp
theorem C3{i k n:Nat}(h:s[i]?=some c)(hc:Rt.iZ c<0):Rt.kA s (k+1) i n=(n,i):=by
 rw[Rt.kA,h];dsimp only;rw[if_neg (by omega)]
theorem BU{i k n m:Nat}(h:s[i]?=some c)(hc:Rt.iZ c=m):Rt.kA s (k+1) i n=Rt.kA s k (i+1) (16*n+m):=by
 rw[Rt.kA,h];dsimp only;rw[if_pos (by omega),hc];rfl
theorem A1(h:s.drop a=cC c++r)(h0:c≠0)(h128:c.toNat<128):Rt.cC s a=true∧Rt.cU s a=([c],a+(cC c).length):=by
 unfold cC at h ⊢
 by_cases hp:rY c=true
 ·rw[if_pos hp]at h ⊢;have e1:=gZ h 1;have e0:=cX h;have e2:=mA h 1;simp at e1 e0 e2;have hx:Rt.iZ c<0∧c≠10:=by
   have key:∀k:Fin 128,rY (UInt8.ofNat k.val)=true→Rt.iZ (UInt8.ofNat k.val)<0∧UInt8.ofNat k.val≠10:=by decide +kernel
   have:=key ⟨c.toNat,h128⟩;simpa using this (by simpa using hp)
  refine⟨?_, ?_⟩
  ·unfold Rt.cC;rw[e0,e2];simp[hx.2]
  ·unfold Rt.cU;rw[e1];dsimp only;rw[if_pos hx.1];rfl
 ·rw[if_neg hp]at h ⊢;have e0:Rt.aB s a=92:=by rw[cX h];rfl
  have h32:Rt.iZ 32<0:=by decide
  by_cases h16:16≤c.toNat
  ·have hh:gA c=[lV.getD (c.toNat/16) 0,lV.getD (c.toNat%16) 0]:=by unfold gA;rw[if_pos h16]
   obtain⟨x1,y1⟩:=wT (n:=c.toNat/16) (by omega);obtain⟨x2,y2⟩:=wT (n:=c.toNat%16) (by omega);rw[hh]at h ⊢;generalize lV.getD (c.toNat/16) 0=d1 at h x1 y1;generalize lV.getD (c.toNat%16) 0=d2 at h x2 y2;have g1:s[a+1]?=some d1:=by rw[gZ h 1];rfl
   have g2:s[a+2]?=some d2:=by rw[gZ h 2];rfl
   have g3:s[a+3]?=some 32:=by rw[gZ h 3];rfl
   have a1:Rt.aB s (a+1)=d1:=by rw[mA h 1];rfl
   have a3:Rt.aB s (a+3)=32:=by rw[mA h 3];rfl
   refine⟨by unfold Rt.cC;rw[e0,a1];simp[y1], ?_⟩;unfold Rt.cU;rw[g1];dsimp only;rw[if_neg (by omega),BU g1 x1,BU (i:=a+1+1) g2 x2,C3 (i:=a+1+1+1) g3 h32];dsimp only;rw[show Rt.aB s (a+1+1+1)=32 from a3,if_pos (by decide),show 16*(16*0+c.toNat/16)+c.toNat%16=c.toNat by omega,IX h0 h128];rfl
  ·have hh:gA c=[lV.getD c.toNat 0]:=by unfold gA;rw[if_neg h16]
   obtain⟨x1,y1⟩:=wT (n:=c.toNat) (by omega);rw[hh]at h ⊢;generalize lV.getD c.toNat 0=d1 at h x1 y1;have g1:s[a+1]?=some d1:=by rw[gZ h 1];rfl
   have g2:s[a+2]?=some 32:=by rw[gZ h 2];rfl
   have a1:Rt.aB s (a+1)=d1:=by rw[mA h 1];rfl
   have a2:Rt.aB s (a+2)=32:=by rw[mA h 2];rfl
   refine⟨by unfold Rt.cC;rw[e0,a1];simp[y1], ?_⟩;unfold Rt.cU;rw[g1];dsimp only;rw[if_neg (by omega),BU g1 x1,C3 (i:=a+1+1) g2 h32];dsimp only;rw[show Rt.aB s (a+1+1)=32 from a2,if_pos (by decide),show 16*0+c.toNat=c.toNat by omega,IX h0 h128];rfl
theorem dZ{P:UInt8→Prop}(h:∀k:Fin 256,P (UInt8.ofNat k.val))(c:UInt8):P c:=by
 have:=h ⟨c.toNat,c.toNat_lt⟩;simpa using this
theorem Ic:∀c:UInt8,zf c=Rt.eX c:=dZ (by decide +kernel)
theorem EE:∀c:UInt8,cn c=Rt.cn c:=dZ (by decide +kernel)
theorem PY:∀c:UInt8,128≤c.toNat→zf c=true∧cn c=false:=dZ (P:=fun c=>128≤c.toNat→zf c=true∧cn c=false) (by decide +kernel)
def Ar(r:af):Prop:=∀c,r.head?=some c→Rt.eX c=false∧c≠92
theorem Fx(h:s.drop a=r)(hr:Ar r):Rt.cY s a=([],a):=by
 rw[Rt.cY];split
 ·rename_i hi;have e:s.drop a=s[a]:: s.drop (a+1):=aba hi;have hc:=hr s[a] (by rw[←h,e];rfl);have h92:Rt.aB s a=s[a]:=by unfold Rt.aB;rw[nE,dO hi];rfl
  rw[if_neg (by rw[hc.1];decide),if_neg];unfold Rt.cC;rw[h92];simp[hc.2]
 ·rfl
theorem Fy(h:s.drop a=c:: r)(hc:Rt.eX c=true):Rt.cY s a=(c:: (Rt.cY s (a+1)).1,(Rt.cY s (a+1)).2):=by
 have hi:=ep h;have e:s[a]=c:=by
  have:=gZ h 0;simp at this;exact (eQ.1 this).2
 rw[Rt.cY,dif_pos hi];rw[if_pos (by rw[e];exact hc),e]
theorem Oe(h:s.drop a=cC c++r)(h0:c≠0)(h128:c.toNat<128):Rt.cY s a=(c:: (Rt.cY s (a+(cC c).length)).1,(Rt.cY s (a+(cC c).length)).2):=by
 obtain⟨h1,h2⟩:=A1 h h0 h128;have hne:∃y,cC c=92:: y:=by unfold cC;split<;>exact⟨_,rfl⟩
 obtain⟨y,hy⟩:=hne;have hi:a<s.length:=ep (c:=92) (r:=y++r) (by rw[h,hy];rfl);have e:s[a]=92:=by
  have:=gZ h 0;rw[hy]at this;simp at this;exact (eQ.1 this).2
 rw[Rt.cY,dif_pos hi,if_neg (by rw[e];decide),if_pos h1,h2];rfl
def nK(n:af)(fr i k:Nat):af:=(List.range' i k).flatMap fun j=>il n fr j (n.getD j 0)
theorem xX(n:af)(fr:Nat):nK n fr 0 n.length=jy n fr n.length:=by unfold nK jy;rw[List.range_eq_range']
theorem nA(n:af)(fr i k:Nat):nK n fr i (k+1)=il n fr i (n.getD i 0)++nK n fr (i+1) k:=by unfold nK;rw[List.range'_succ];rfl
theorem Cl{fr i:Nat}(hc:n.getD i 0=c)(hi:i<n.length)(h:kO n fr i c=false):c.toNat<128:=by
 rcases uP c.toNat 128 with k|k
 ·exact k
 ·exfalso;obtain⟨h1,h2⟩:=PY c k;unfold kO at h;rw[h1,h2]at h;simp at h;obtain⟨_,rfl⟩:=h;simp at hi;subst hi;simp at hc;subst hc;simp at k
theorem zR(n:af)(fr:Nat)(hz:∀c∈n,c≠0):∀(k i:Nat),i+k=n.length→∀(s r:af) (a:Nat),s.drop a=nK n fr i k++r→Ar r→Rt.cY s a=(n.drop i,a+(nK n fr i k).length)
 | 0,i,hk,s,r,a,h,hr=>by
   rw[show nK n fr i 0=[] from rfl,List.nil_append]at h;rw[Fx h hr,List.drop_of_length_le (by omega)];rfl
 | k+1,i,hk,s,r,a,h,hr=>by
   have hi:i<n.length:=by omega
   obtain⟨c,hc⟩:∃c,n.getD i 0=c:=⟨_,rfl⟩;have hci:n[i]=c:=by rw[←hc,nE,dO hi];rfl
   have hd:n.drop i=c:: n.drop (i+1):=by rw[aba hi,hci]
   have hc0:c≠0:=hz c (by rw[←hci];exact aaW hi);rw[nA,hc]at h ⊢;unfold il at h ⊢;cases hw:kO n fr i c with
   | true =>
     rw[hw,if_pos rfl,To]at h;rw[if_pos rfl];have hl:Rt.eX c=true:=by
      unfold kO at hw;simp only[NO]at hw;rw[←Ic];exact hw.1.1
     have ih:=zR n fr hz k (i+1) (by omega) s r (a+1) (cS (x:=[c]) h) hr;rw[Fy (by simpa using h) hl,ih,hd];simp;omega
   | false =>
     rw[hw,if_neg (by decide),To]at h;rw[if_neg (by decide)];have h128:=Cl hc hi hw;have ih:=zR n fr hz k (i+1) (by omega) s r (a+(cC c).length) (cS h) hr;rw[Oe h hc0 h128,ih,hd];simp;omega
theorem Fz(hz:∀c∈n,c≠0)(h:s.drop a=eW n++r)(hr:Ar r):Rt.cY s a=(n,a+(eW n).length):=by
 have:=zR n (gY n) hz n.length 0 (by omega) s r a (by rw[xX];exact h) hr;rw[xX,List.drop_zero]at this;exact this
theorem pg(n:af)(fr j:Nat)(c:UInt8):∃b y,il n fr j c=b:: y∧((kO n fr j c=true∧b=c∧Rt.eX b=true)∨(kO n fr j c=false∧b=92)):=by
 unfold il;cases h:kO n fr j c with
 | true =>
   refine⟨c,[],by rw[if_pos rfl],.inl ⟨rfl,rfl, ?_⟩⟩;unfold kO at h;simp only[NO]at h;rw[←Ic];exact h.1.1
 | false =>
   rw[if_neg (by decide)];unfold cC;split
   ·exact⟨92,_,rfl,.inr ⟨rfl,rfl⟩⟩
   ·exact⟨92,_,rfl,.inr ⟨rfl,rfl⟩⟩
structure Ea(s:af)(a:Nat):Prop where
 Uj:Rt.gM s a=true
 num:Rt.kD s a=false
 cdc:Rt.hasB s a [45,45,62]=false
 b:Rt.eX (Rt.aB s a)=true∨Rt.aB s a=92
 d:Rt.cn (Rt.aB s a)=false
theorem Db:∀c:UInt8,Rt.eX c=true→Rt.cn c=false→c≠45→Rt.tQ c=true:=dZ (P:=fun c=>Rt.eX c=true→Rt.cn c=false→c≠45→Rt.tQ c=true) (by decide +kernel)
theorem Ve:∀c:UInt8,Rt.tQ c=true→c≠43∧c≠45∧c≠46∧Rt.cn c=false:=dZ (P:=fun c=>Rt.tQ c=true→c≠43∧c≠45∧c≠46∧Rt.cn c=false) (by decide +kernel)
theorem JE{x y z:UInt8}(h:Rt.hasB s a [x,y,z]=true):s[a]?=some x∧s[a+1]?=some y∧s[a+2]?=some z:=by
 unfold Rt.hasB at h;have h:=oN h;have q:∀i,i<3→s[a+i]?=([x,y,z]:af)[i]?:=fun i hi=>by
  rw[←h,ON,if_pos (by simpa using hi),aaG]
 exact⟨q 0 (by decide),q 1 (by decide),q 2 (by decide)⟩
theorem xd(h:Rt.aB s a=b)(h1:b≠43)(h2:b≠45)(h3:b≠46)(h4:Rt.cn b=false):Rt.kD s a=false:=by
 have e:(if Rt.aB s a=43∨Rt.aB s a=45 then a+1 else a)=a:=if_neg (fun z=>z.elim (fun z=>h1 (by rw[←h];exact z)) fun z=>h2 (by rw[←h];exact z));unfold Rt.kD;simp only[e];rw[if_neg (by rw[h];exact h3),h];exact h4
theorem Lw(h:Rt.aB s a=45)(h1:Rt.aB s (a+1)=b)(h3:b≠46)(h4:Rt.cn b=false):Rt.kD s a=false:=by
 have e:(if Rt.aB s a=43∨Rt.aB s a=45 then a+1 else a)=a+1:=if_pos (.inr h);unfold Rt.kD;simp only[e];rw[if_neg (by rw[h1];exact h3),h1];exact h4
theorem AF(hz:∀c∈n,c≠0)(hn:n≠[])(h:s.drop a=eW n++r)(hr:r.head?≠some 62):Ea s a:=by
 cases n with
 | nil=>exact absurd rfl hn
 | cons c0 m =>
   have e0:eW (c0:: m)=il (c0:: m) (gY (c0:: m)) 0 c0++nK (c0:: m) (gY (c0:: m)) 1 m.length:=by
    show jy _ _ _=_;rw[←xX,aaB,nA];rfl
   rw[e0]at h;obtain⟨b,y,hb,hcase⟩:=pg (c0:: m) (gY (c0:: m)) 0 c0;rw[hb,abg,abg]at h;have ha0:Rt.aB s a=b:=by rw[cX h];rfl
   rcases hcase with⟨hraw,rfl,hl⟩|⟨hraw,rfl⟩
   ·-- it stands for itself
    have hraw2:=hraw;unfold kO at hraw;simp only[NO,aa7,aa8,Of,decide_eq_false_iff_not]at hraw;have hfr:1≤gY (b:: m):=by unfold gY;split<;>decide
    have hd:Rt.cn b=false:=by
     rw[←EE];rcases hraw.1.2 with z|z
     ·omega
     ·exact z
    have hy:y=[]:=by
     unfold il at hb;rw[if_pos hraw2]at hb;simpa using hb.symm
    subst hy
    by_cases h45:b=45
    ·subst h45;have hfr2:gY (45:: m)=2:=by unfold gY;rw[if_pos (by simp)]
     rw[hfr2]at h hraw;cases m with
     | nil =>
       exfalso;rcases hraw.2 with z|z
       ·omega
       ·exact z rfl
     | cons c1 m =>
       have e1:nK (45:: c1:: m) 2 1 (c1:: m).length=il (45:: c1:: m) 2 1 c1++nK (45:: c1:: m) 2 2 m.length:=by rw[aaB,nA];rfl
       rw[e1]at h;obtain⟨b1,y1,hb1,hcase1⟩:=pg (45:: c1:: m) 2 1 c1;have hP1:=hb1;rw[hb1]at h;have ha1:Rt.aB s (a+1)=b1:=by rw[mA h 1];rfl
       have hd1:Rt.cn b1=false∧b1≠46:=by
        rcases hcase1 with⟨q1,rfl,q3⟩|⟨_,rfl⟩
        ·unfold kO at q1;simp only[NO,aa7,aa8,Of]at q1;refine⟨?_,fun e=>by subst e;exact absurd q3 (by decide)⟩;rw[←EE];rcases q1.1.2 with z|z
         ·omega
         ·exact z
        ·exact⟨by decide,by decide⟩
       refine⟨?_, ?_, ?_,.inl (by rw[ha0];exact hl),by rw[ha0];exact hd⟩
       ·unfold Rt.gM;rw[ha0,if_pos rfl,ha1];rcases hcase1 with⟨q1,rfl,q3⟩|⟨q1,rfl⟩
        ·by_cases z:b1=45
         ·simp[z]
         ·rw[Db _ q3 hd1.1 z];rfl
        ·have hc1:c1.toNat<128:=Cl (n:=45:: c1:: m) (i:=1) rfl (by simp) q1;have hesc:s.drop (a+1)=cC c1++(nK (45:: c1:: m) 2 2 m.length++r):=by
          unfold il at hP1;rw[if_neg (by rw[q1];decide)]at hP1;have:=cS (x:=[45]) (r:=(92:: y1)++nK (45:: c1:: m) 2 2 m.length++r) (a:=a) (by simpa using h);rw[hP1,←To];exact this
         rw[(A1 hesc (hz c1 (by simp)) hc1).1];simp
       ·exact Lw ha0 ha1 hd1.2 hd1.1
       ·cases hh:Rt.hasB s a [45,45,62] with
        | false=>rfl
        | true =>
          exfalso;obtain⟨_,g1,g2⟩:=JE hh;rw[gZ h 1]at g1;rw[gZ h 2]at g2;have hb45:b1=45:=by simpa using g1
          subst hb45;rcases hcase1 with⟨q1,_,q3⟩|⟨_,q⟩
          ·have hy1:y1=[]:=by
            unfold il at hP1;rw[if_pos q1]at hP1;have:=(List.cons.inj hP1).2;exact this.symm
           subst hy1;cases m with
           | nil =>
             have e2:nK (45:: c1:: []) 2 2 ([]:List UInt8).length=[]:=rfl;rw[e2]at g2;simp at g2;cases r with
             | nil=>simp at g2
             | cons z r=>simp at g2;subst g2;exact hr rfl
           | cons c2 m =>
             rw[aaB,nA]at g2;obtain⟨b2,y2,hb2,hcase2⟩:=pg (45:: c1:: c2:: m) 2 2 ((45:: c1:: c2:: m).getD 2 0);rw[hb2]at g2;simp at g2;subst g2;rcases hcase2 with⟨_,_,z⟩|⟨_,z⟩
             ·exact absurd z (by decide)
             ·exact absurd z (by decide)
          ·exact absurd q (by decide)
    ·have hst:=Db b hl hd h45;obtain⟨n1,n2,n3,n4⟩:=Ve b hst;refine⟨?_, ?_, ?_,.inl (by rw[ha0];exact hl),by rw[ha0];exact hd⟩
     ·unfold Rt.gM;rw[ha0,if_neg h45,hst];rfl
     ·exact xd ha0 n1 n2 n3 n4
     ·cases hh:Rt.hasB s a [45,45,62] with
      | false=>rfl
      | true =>
        exfalso;obtain⟨g0,_,_⟩:=JE hh;have:Rt.aB s a=45:=by unfold Rt.aB;rw[nE,g0];rfl
        rw[ha0]at this;exact h45 this
   ·have hc0:c0.toNat<128:=Cl (n:=c0:: m) (i:=0) rfl (by simp) hraw;have hesc:s.drop a=cC c0++(nK (c0:: m) (gY (c0:: m)) 1 m.length++r):=by
     have hb2:=hb;unfold il at hb2;rw[if_neg (by rw[hraw];decide)]at hb2;rw[h,hb2];simp
    refine⟨?_, ?_, ?_,.inr ha0,by rw[ha0];decide⟩
    ·unfold Rt.gM;rw[ha0,if_neg (by decide),(A1 hesc (hz c0 (by simp)) hc0).1];simp
    ·exact xd ha0 (by decide) (by decide) (by decide) (by decide)
    ·cases hh:Rt.hasB s a [45,45,62] with
     | false=>rfl
     | true =>
       exfalso;obtain⟨g0,_,_⟩:=JE hh;have:Rt.aB s a=45:=by unfold Rt.aB;rw[nE,g0];rfl
       rw[ha0]at this;exact absurd this (by decide)
theorem ZC{x:UInt8}{y:af}(h:Rt.hasB s a (x:: y)=true):Rt.aB s a=x:=by
 unfold Rt.hasB at h;have h:=oN h;have q:s[a+0]?=(x:: y)[0]?:=by
  rw[←h,ON,if_pos (by simp),aaG]
 unfold Rt.aB;rw[nE];simp at q;rw[q];rfl
theorem A4{x:UInt8}{y:af}(h:Rt.aB s a≠x):Rt.hasB s a (x:: y)=false:=by
 cases e:Rt.hasB s a (x:: y) with
 | false=>rfl
 | true=>exact absurd (ZC e) h
theorem Ff:∀c:UInt8,(Rt.eX c=true∨c=92)→Rt.eY c=false∧c≠34∧c≠39∧c≠35∧c≠60∧c≠64∧c≠47:=dZ (P:=fun c=>(Rt.eX c=true∨c=92)→Rt.eY c=false∧c≠34∧c≠39∧c≠35∧c≠60∧c≠64∧c≠47) (by decide +kernel)
theorem Cj(b:Ea s a):iR s a=pB s a:=by
 obtain⟨h1,h2,h3,h4,h5,h6,_⟩:=Ff _ b.b;unfold iR;dsimp only;rw[if_neg (by rw[h1];decide),if_neg (fun z=>z.elim h2 h3),if_neg (fun z=>h4 z.1),if_neg (by rw[b.num];decide),if_neg (by rw[b.cdc];decide),if_neg (by rw[A4 h5];decide),if_neg (fun z=>h6 z.1),if_pos b.Uj]
structure Nx(r:af):Prop where
 s:Ar r
 g:r.head?≠some 62
theorem Ea.no(b:Ea s a):Rt.aB s a≠47:=by
 obtain⟨_,_,_,_,_,_,h⟩:=Ff _ b.b;exact h
theorem AE(h:s.drop a=x++r):Rt.aB s (a+x.length)=r.getD 0 0:=cX (cS h)
theorem VQ(h:r.head?≠some c)(hc:c≠0):r.getD 0 0≠c:=by
 cases r with
 | nil=>simpa using hc.symm
 | cons x r=>simpa using h
theorem N2(hz:∀c∈n,c≠0)(hn:n≠[])(h:s.drop a=eW n++r)(hr:Nx r)(h40:r.head?≠some 40):Tq s a [⟨1,n,0,[],false⟩] (a+(eW n).length):=by
 have hb:=AF hz hn h hr.g;have hnam:=Fz hz h hr.s;have hlt:a<s.length:=by
  rcases uP a s.length with k|k
  ·exact k
  ·exfalso;have e:=hb.b;have:Rt.aB s a=0:=by unfold Rt.aB;rw[nE,iS k];rfl
   rw[this]at e;rcases e with e|e<;>exact absurd e (by decide)
 refine Tq.one hlt ?_ hb.no;rw[Cj hb];unfold pB;dsimp only;rw[hnam];dsimp only;rw[if_pos (by rw[AE h];exact VQ h40 (by decide))]
theorem Qv(hz:∀c∈n,c≠0)(hn:n≠[])(hu:n.map bG.dF≠Rt.xv)(h:s.drop a=eW n++40:: r):Tq s a [⟨2,n,0,[],false⟩] (a+(eW n).length+1):=by
 have hS:Ar (40:: r):=fun c hc=>by cases hc;exact⟨by decide,by decide⟩
 have hb:=AF hz hn h (by simp);have hnam:=Fz hz h hS;have hend:=AE h;have hd:=cS h;have hlt:a<s.length:=by have:=ep hd;omega
 refine Tq.one hlt ?_ hb.no;rw[Cj hb];unfold pB;dsimp only;rw[hnam];dsimp only;rw[if_neg (by rw[hend];exact fun z=>z rfl),if_neg (fun z=>hu z.1)]
theorem Qy(hz:∀c∈n,c≠0)(hn:n≠[])(h:s.drop a=35:: (eW n++r))(hr:Nx r):Tq s a [⟨4,n,0,[],true⟩] (a+1+(eW n).length):=by
 have h1:s.drop (a+1)=eW n++r:=cS (x:=[35]) h;have hb:=AF hz hn h1 hr.g;have hnam:=Fz hz h1 hr.s;have h35:Rt.aB s a=35:=by rw[cX h];rfl
 refine Tq.one (ep h) ?_ (by rw[h35];decide);have hor:Rt.eX (Rt.aB s (a+1))=true∨Rt.cC s (a+1)=true:=by
  rcases hb.b with z|z
  ·exact .inl z
  ·right;have:=hb.Uj;unfold Rt.gM at this;rw[z,if_neg (by decide)]at this;simpa[show Rt.tQ 92=false by decide]using this
 unfold iR;dsimp only;rw[h35,if_neg (by decide),if_neg (by decide),if_pos ⟨rfl,hor⟩,hnam,hb.Uj]
def tP(c:UInt8):Bool:=!Rt.eY c&&!decide (c=34)&&!decide (c=39)&&!decide (c=35)&&!decide (c=45)&&!decide (c=60)&&!decide (c=64)&&!Rt.tQ c&&!decide (c=92)&&!Rt.cn c
theorem F7(h:Rt.aB s a=c)(hc:tP c=true)(hn:Rt.kD s a=false):iR s a=(if 0≤Lib.indexByte Rt.lZ c then (⟨16+Lib.indexByte Rt.lZ c,[],0,[],false⟩,a+1) else (⟨9,[c],0,[],false⟩,a+1)):=by
 unfold tP at hc;simp only[NO,aa8,decide_eq_false_iff_not]at hc;obtain⟨⟨⟨⟨⟨⟨⟨⟨⟨h1,h2⟩,h3⟩,h4⟩,h5⟩,h6⟩,h7⟩,h8⟩,h9⟩,_⟩:=hc;have hnam:Rt.gM s a=false:=by
  unfold Rt.gM;rw[h,if_neg h5,h8];unfold Rt.cC;rw[h];simp[h9]
 unfold iR;dsimp only;rw[h,if_neg (by rw[h1];decide),if_neg (fun z=>z.elim h2 h3),if_neg (fun z=>h4 z.1),if_neg (by rw[hn];decide),if_neg (by rw[A4 (by rw[h];exact h5)];decide),if_neg (by rw[A4 (by rw[h];exact h6)];decide),if_neg (fun z=>h7 z.1),if_neg (by rw[hnam];decide)]
theorem QS{a k:Nat}(h:s.drop a=c:: r)(hc:tP c=true)(hk:Lib.indexByte Rt.lZ c=k)(h43:c≠43)(h46:c≠46)(h47:c≠47):Tq s a [⟨16+(k:Int),[],0,[],false⟩] (a+1):=by
 have hat:Rt.aB s a=c:=by rw[cX h];rfl
 have hsolo:=hc;unfold tP at hc;simp only[NO,aa8,decide_eq_false_iff_not]at hc;refine Tq.one (ep h) ?_ (by rw[hat];exact h47);rw[F7 hat hsolo (xd hat h43 hc.1.1.1.1.1.2 h46 hc.2),hk,if_pos (by omega)]
theorem zw(h:s.drop a=c:: r)(hc:tP c=true)(hk:Lib.indexByte Rt.lZ c=-1)(hn:Rt.kD s a=false)(h47:c≠47):Tq s a [⟨9,[c],0,[],false⟩] (a+1):=by
 have hat:Rt.aB s a=c:=by rw[cX h];rfl
 refine Tq.one (ep h) ?_ (by rw[hat];exact h47);rw[F7 hat hc hn,hk,if_neg (by decide)]
theorem OG(h:s.drop a=32:: r)(hs:∀c,r.head?=some c→Rt.eY c=false):Tq s a [⟨13,[],0,[],false⟩] (a+1):=by
 have hat:Rt.aB s a=32:=by rw[cX h];rfl
 refine Tq.one (ep h) ?_ (by rw[hat];decide);have he:Rt.eO s a=a+1:=by
  unfold Rt.eO;rw[h,List.takeWhile_cons,if_pos (by decide)];cases r with
  | nil=>rfl
  | cons x r=>rw[List.takeWhile_cons,if_neg (by rw[hs x rfl];decide)];rfl
 unfold iR;dsimp only;rw[hat,if_pos (by decide),he]
/-! ### In quotes -/
theorem LV:∀(v s r:af) (a:Nat),(∀c∈v,c≠0)→s.drop a=v.flatMap iG++34:: r→Rt.ic 34 s a=(some v,a+(v.flatMap iG).length+1)
 | [],s,r,a,_,h=>by
   have hlt:=ep h;have e:s[a]=34:=by have:=gZ h 0;simp at this;exact (eQ.1 this).2
   rw[Rt.ic,dif_pos hlt,if_pos e];rfl
 | c:: v,s,r,a,hz,h=>by
   rw[List.flatMap_cons,To]at h;have hz2:∀x∈v,x≠0:=fun x hx=>hz x (by simp[hx]);have ih:=LV v s r (a+(iG c).length) hz2 (cS h);unfold iG at h ih
   by_cases hq:FP c=true
   ·rw[if_pos hq]at h ih;have h128:c.toNat<128:=by
     have:∀c:UInt8,FP c=true→c.toNat<128:=dZ (P:=fun c=>FP c=true→c.toNat<128) (by decide +kernel);exact this c hq
    obtain⟨e1,e2⟩:=A1 h (hz c (by simp)) h128;obtain⟨y,hy⟩:∃y,cC c=92:: y:=by unfold cC;split<;>exact⟨_,rfl⟩
    have hlt:a<s.length:=ep (c:=92) (r:=y++(v.flatMap iG++34:: r)) (by rw[h,hy];rfl);have e:s[a]=92:=by have:=gZ h 0;rw[hy]at this;simp at this;exact (eQ.1 this).2
    have h10:Rt.aB s (a+1)≠10:=by
     unfold Rt.cC at e1;simp at e1;exact e1.2
    have hl1:a+1≠s.length:=by
     have:=Bb (x:=cC c) (by omega) h;have h2:1<(cC c).length:=by unfold cC;split<;>simp
     omega
    rw[Rt.ic,dif_pos hlt,if_neg (by rw[e];decide),if_neg (by rw[e];decide),if_pos e,if_neg hl1,if_neg h10,e2];dsimp only;rw[ih];show (some ([c]++v),_)=_;rw[List.flatMap_cons];unfold iG;rw[if_pos hq];simp;omega
   ·rw[if_neg hq]at h ih;have hne:c≠34∧c≠10∧c≠92:=by
     have:∀c:UInt8,FP c≠true→c≠34∧c≠10∧c≠92:=dZ (P:=fun c=>FP c≠true→c≠34∧c≠10∧c≠92) (by decide +kernel);exact this c hq
    have hlt:a<s.length:=ep (c:=c) (r:=v.flatMap iG++34:: r) (by rw[h];rfl);have e:s[a]=c:=by have:=gZ h 0;simp at this;exact (eQ.1 this).2
    rw[Rt.ic,dif_pos hlt,if_neg (by rw[e];exact hne.1),if_neg (by rw[e];exact hne.2.1),if_neg (by rw[e];exact hne.2.2),e];have ih:Rt.ic 34 s (a+1)=_:=ih;rw[ih];show (some ([c]++v),_)=_;rw[List.flatMap_cons];unfold iG;rw[if_neg hq];simp;omega
theorem Om{v s r:af}(hz:∀c∈v,c≠0)(h:s.drop a=ux v++r):Tq s a [⟨5,v,0,[],false⟩] (a+(ux v).length):=by
 unfold ux at h ⊢;have h':s.drop a=34:: (v.flatMap iG++34:: r):=by rw[h];simp
 have hat:Rt.aB s a=34:=by rw[cX h'];rfl
 have hq:=LV v s r (a+1) hz (cS (x:=[34]) h');have he:a+([34]++v.flatMap iG++[34]).length=a+1+(v.flatMap iG).length+1:=by simp;omega
 rw[he];refine Tq.one (ep h') ?_ (by rw[hat];decide);unfold iR;dsimp only;rw[hat,if_neg (by decide),if_pos (.inl rfl),hq];rfl
/-! ### Digits -/
theorem DK(r:Nat)(h:r<10):(UInt8.ofNat (48+r)).toNat=48+r:=by
 have:∀n:Fin 10,(UInt8.ofNat (48+n.val)).toNat=48+n.val:=by decide
 exact this ⟨r,h⟩
theorem KO:∀k:Nat,qn (Lib.decDigits k)∧ie (Lib.decDigits k)=k∧(∀n,k<10^(n+1)→(Lib.decDigits k).length≤n+1):=by
 intro k;induction k using Nat.strongRecOn with
 | _ k ih =>
   rw[Lib.decDigits]
   by_cases h:k<10
   ·rw[dif_pos h];refine⟨⟨by simp,fun b hb=>?_⟩, ?_,fun n _=>by simp⟩
    ·obtain rfl:b=UInt8.ofNat (48+k):=by simpa using hb
     rw[DK k h];omega
    ·show 10*0+oP _=k;unfold oP;rw[DK k h];omega
   ·rw[dif_neg h];obtain⟨⟨i1,i2⟩,i3,i4⟩:=ih (k/10) (by omega);refine⟨⟨by simp,fun b hb=>?_⟩, ?_,fun n hn=>?_⟩
    ·rcases Is.1 hb with hb|hb
     ·exact i2 b hb
     ·obtain rfl:b=UInt8.ofNat (48+k%10):=by simpa using hb
      rw[DK _ (by omega)];omega
    ·rw[Mq,i3];unfold oP;rw[DK _ (by omega)];omega
    ·cases n with
     | zero=>omega
     | succ n =>
       have:=i4 n (by rw[Nat.pow_succ]at hn;omega);rw[AT];simpa using this
theorem oX(k:Nat):qn (Lib.decDigits k):=(KO k).1
theorem uc(k:Nat):ie (Lib.decDigits k)=k:=(KO k).2.1
def ng(n:Int):af:=if n<0 then [45] else []
theorem qP(n:Int):Lib.itoa n=ng n++Lib.decDigits n.natAbs:=by
 unfold Lib.itoa ng;split
 ·rfl
 ·rw[List.nil_append];congr 1;omega
theorem qa(h:qn d):∀b∈d,Rt.cn b=true:=fun b hb=>by
 have:=h.2 b hb;unfold Rt.cn;simp;omega
theorem AY:∀c:UInt8,Rt.cn c=true→([43,45]:af).contains c=false∧([101,69]:af).contains c=false∧c≠46∧c≠45∧c≠43∧sS c=oP c:=dZ (P:=fun c=>Rt.cn c=true→([43,45]:af).contains c=false∧([101,69]:af).contains c=false∧c≠46∧c≠45∧c≠43∧sS c=oP c) (by decide +kernel)
theorem QF(h:∀b∈d,b≠c):Lib.index d [c]=-1:=by
 induction d with
 | nil=>unfold Lib.index;rfl
 | cons b d ih =>
   unfold Lib.index;rw[if_neg,ih fun x hx=>h x (by simp[hx])]
   ·rfl
   ·have:b≠c:=h b (by simp);simp[List.isPrefixOf];exact fun e=>this e.symm
theorem MW(hd:∀b∈d,Rt.cn b=true)(hv:ie d≤jh):jJ jh d=ie d:=by
 unfold jJ ie at *;have key:∀(d:af) (a:Nat),(∀b∈d,Rt.cn b=true)→d.foldl (fun n b=>10*n+oP b) a≤jh→d.foldl (fun n c=>min (10*n+sS c) jh) a=d.foldl (fun n b=>10*n+oP b) a:=by
  intro d;induction d with
  | nil=>intro a _ _;rfl
  | cons b d ih =>
    intro a hd hv;rw[List.foldl_cons]at hv ⊢;rw[List.foldl_cons];have hg:=EN d (10*a+oP b);rw[(AY b (hd b (by simp))).2.2.2.2.2,Nat.min_eq_left (by omega)];exact ih _ (fun x hx=>hd x (by simp[hx])) hv
 exact key d 0 hd hv
theorem Lk(h:qn d)(hv:ie d≤1000000000):vq d=1000*ie d:=by
 have hd:=qa h;have he:Lib.indexAny d [101,69]=-1:=GK fun b hb=>(AY b (hd b hb)).2.1;have hm:qg d=d:=by unfold qg;rw[he,if_neg (by decide)]
 have hx:qC d=0:=by unfold qC;rw[he,if_neg (by decide)]
 have hc:Lib.cut d [46]=(d,[],false):=by unfold Lib.cut;rw[QF fun b hb=>(AY b (hd b hb)).2.2.1,if_neg (by decide)]
 have hp:oA d=3:=by unfold oA;rw[hx,hm,hc];rfl
 have hg:u3 d=d:=by unfold u3;rw[hm,hc];simp
 have hcp:oq d=d:=by unfold oq;rw[hp,if_neg (by decide),hg]
 unfold vq;rw[hp,hcp,MW hd (by unfold jh;omega)];obtain⟨v,hv2⟩:∃v,ie d=v:=⟨_,rfl⟩;rw[hv2]at hv ⊢;show Rt.tw jh 3 v=_;have step:∀p n,n<jh→10*n≤jh→Rt.tw jh (p+1) n=Rt.tw jh p (10*n):=fun p n h1 h2=>by
  rw[Rt.tw]
  by_cases z:0<n
  ·rw[if_pos ⟨z,h1⟩,Nat.min_eq_right h2]
  ·obtain rfl:n=0:=by omega
   rw[if_neg (by omega)];cases p with
   | zero=>rfl
   | succ p=>rw[Rt.tw,if_neg (by omega)]
 have hm:jh=1000000000000:=rfl;rw[step 2 v (by omega) (by omega),step 1 (10*v) (by omega) (by omega),step 0 (10*(10*v)) (by omega) (by omega)];show 10*(10*(10*v))=_;omega
def Dm(g:af):Int:=if g=[45] then -1 else 1
theorem IP{g d:af}(hg:g=[]∨g=[43]∨g=[45])(h:qn d)(hv:ie d≤1000000000):mY (g++d)=Dm g*(1000*ie d):=by
 obtain⟨c,r,rfl⟩:∃c r,d=c:: r:=by
  cases d with
  | nil=>exact absurd rfl h.1
  | cons c r=>exact⟨c,r,rfl⟩
 have hc:=AY c (qa h c (by simp));have ht:∀g:af,(g=[]∨g=[43]∨g=[45])→Lib.trimLeftS (g++c:: r) [43,45]=c:: r:=by
  intro g hg;unfold Lib.trimLeftS;rcases hg with rfl|rfl|rfl
  ·rw[List.nil_append,List.dropWhile_cons,if_neg (by rw[hc.1];decide)]
  ·rw[abg,List.nil_append,List.dropWhile_cons,if_pos (by decide),List.dropWhile_cons,if_neg (by rw[hc.1];decide)]
  ·rw[abg,List.nil_append,List.dropWhile_cons,if_pos (by decide),List.dropWhile_cons,if_neg (by rw[hc.1];decide)]
 unfold mY;rw[ht g hg,Lk h hv];unfold Dm;rcases hg with rfl|rfl|rfl
 ·rw[if_neg (show ¬Rt.aB ([]++c:: r) 0=45 from hc.2.2.2.1),if_neg (by decide)];omega
 ·rw[if_neg (show ¬Rt.aB ([43]++c:: r) 0=45 from (by decide:¬(43:UInt8)=45)),if_neg (by decide)];omega
 ·rw[if_pos (show Rt.aB ([45]++c:: r) 0=45 from rfl),if_pos rfl];omega
structure Kg(r:af):Prop where
 d:Rt.cn (r.getD 0 0)=false
 p:r.getD 0 0≠46
 e:r.getD 0 0≠101
 f:r.getD 0 0≠69
theorem Ch(hg:g=[]∨g=[43]∨g=[45])(hd:qn d)(h:s.drop a=g++(d++r))(hr:Kg r):Rt.kD s a=true∧Rt.iz s a=(a+g.length+d.length,true)∧(s.take (a+g.length+d.length)).drop a=g++d:=by
 obtain⟨c,q,rfl⟩:∃c q,d=c:: q:=by
  cases d with
  | nil=>exact absurd rfl hd.1
  | cons c r=>exact⟨c,r,rfl⟩
 have hB:=qa hd;have hc:=hB c (by simp);have hcn:=AY c hc;have h1:s.drop (a+g.length)=(c:: q)++r:=cS h;have hat1:Rt.aB s (a+g.length)=c:=by rw[cX h1];rfl
 have hsg:(if Rt.aB s a=43∨Rt.aB s a=45 then a+1 else a)=a+g.length:=by
  rcases hg with rfl|rfl|rfl
  ·have:Rt.aB s a=c:=hat1;rw[this,if_neg (fun z=>z.elim hcn.2.2.2.2.1 hcn.2.2.2.1)];rfl
  ·have:Rt.aB s a=43:=by rw[cX h];rfl
   rw[this];rfl
  ·have:Rt.aB s a=45:=by rw[cX h];rfl
   rw[this];rfl
 have hdig:Rt.gL s (a+g.length)=a+g.length+(c:: q).length:=by
  unfold Rt.gL;rw[h1];have:((c:: q)++r).takeWhile Rt.cn=c:: q:=by
   rw[List.takeWhile_append_of_pos hB];have:r.takeWhile Rt.cn=[]:=by
    cases r with
    | nil=>rfl
    | cons x r=>rw[List.takeWhile_cons,if_neg (by have:=hr.d;simp at this;rw[this];decide)]
   rw[this,aaL]
  rw[this]
 have hat2:Rt.aB s (a+g.length+(c:: q).length)=r.getD 0 0:=AE h1;refine⟨?_, ?_, ?_⟩
 ·unfold Rt.kD;simp only[hsg];rw[hat1,if_neg hcn.2.2.1,hat1];exact hc
 ·unfold Rt.iz;simp only[hsg,hdig];have e1:(if Rt.aB s (a+g.length+(c:: q).length)=46∧Rt.cn (Rt.aB s (a+g.length+(c:: q).length+1))=true then (Rt.gL s (a+g.length+(c:: q).length+1),false) else (a+g.length+(c:: q).length,true))=(a+g.length+(c:: q).length,true):=if_neg fun z=>hr.p (by rw[←hat2];exact z.1);rw[e1];dsimp only;rw[hat2,if_neg (fun z=>z.elim hr.e hr.f)]
 ·rw[List.drop_take,h];have e:a+g.length+(c:: q).length-a=(g++(c:: q)).length:=by simp;omega
  rw[e,←To,List.take_left]
theorem Rr:∀c:UInt8,(Rt.cn c=true∨c=43∨c=45)→Rt.eY c=false∧c≠34∧c≠39∧c≠35∧c≠47:=dZ (P:=fun c=>(Rt.cn c=true∨c=43∨c=45)→Rt.eY c=false∧c≠34∧c≠39∧c≠35∧c≠47) (by decide +kernel)
theorem one_num(hg:g=[]∨g=[43]∨g=[45])(hd:qn d)(h:s.drop a=g++(d++r))(hr:Kg r):a<s.length∧Rt.aB s a≠47∧iR s a=ki s a:=by
 obtain⟨h1,h2,h3⟩:=Ch hg hd h hr;obtain⟨c,q,rfl⟩:∃c q,d=c:: q:=by
  cases d with
  | nil=>exact absurd rfl hd.1
  | cons c r=>exact⟨c,r,rfl⟩
 have hc:=qa hd c (by simp);have hat:Rt.cn (Rt.aB s a)=true∨Rt.aB s a=43∨Rt.aB s a=45:=by
  rcases hg with rfl|rfl|rfl
  ·left;rw[cX h];exact hc
  ·right;left;rw[cX h];rfl
  ·right;right;rw[cX h];rfl
 obtain⟨x1,x2,x3,x4,x5⟩:=Rr _ hat;have hlt:a<s.length:=by
  rcases hg with rfl|rfl|rfl
  ·exact ep h
  ·exact ep h
  ·exact ep h
 refine⟨hlt,x5, ?_⟩;unfold iR;dsimp only;rw[if_neg (by rw[x1];decide),if_neg (fun z=>z.elim x2 x3),if_neg (fun z=>x4 z.1),if_pos h1]
theorem Uu(hg:g=[]∨g=[43]∨g=[45])(hd:qn d)(hv:ie d≤1000000000)(h:s.drop a=g++(d++r))(hr:Kg r)(hn:Rt.gM s (a+g.length+d.length)=false)(h37:r.getD 0 0≠37):Tq s a [⟨10,[],Dm g*(1000*ie d),[],true⟩] (a+g.length+d.length):=by
 obtain⟨h1,h2,h3⟩:=Ch hg hd h hr;obtain⟨hlt,hn47,hone⟩:=one_num hg hd h hr;have hd1:s.drop (a+g.length+d.length)=r:=cS (cS h);have hat:=cX hd1;refine Tq.one hlt ?_ hn47;rw[hone];unfold ki gB;dsimp only;rw[h2];dsimp only;rw[if_neg (by rw[hn];decide),if_neg (by rw[hat];exact h37),h3,IP hg hd hv]
theorem TC{g d u s r:af}(hg:g=[]∨g=[43]∨g=[45])(hd:qn d)(hv:ie d≤1000000000)(h:s.drop a=g++(d++(u++r)))(hr:Kg (u++r))(hn:Rt.gM s (a+g.length+d.length)=true)(hu:Rt.cY s (a+g.length+d.length)=(u,a+g.length+d.length+u.length)):Tq s a [⟨12,[],Dm g*(1000*ie d),u,true⟩] (a+g.length+d.length+u.length):=by
 obtain⟨h1,h2,h3⟩:=Ch hg hd h hr;obtain⟨hlt,hn47,hone⟩:=one_num hg hd h hr;have hd1:s.drop (a+g.length+d.length+u.length)=r:=cS (cS (cS h));have hat:=cX hd1;refine Tq.one hlt ?_ hn47;rw[hone];unfold ki gB;dsimp only;rw[h2];dsimp only;rw[if_pos hn,hu,h3,IP hg hd hv]
def nB(B:Int):Tok:=⟨10,[],1000*B,[],true⟩
def eG(B:Int):af:=if B<0 then Lib.itoa B else []
def jD(B:Int):List Tok:=if 0<B then [nB B] else []
def oV(A B:Int):List Tok:=if A=0 then [nB B] else
 (if A=1 then ⟨1,[110]++eG B,0,[],false⟩ else if A=-1 then ⟨1,[45,110]++eG B,0,[],false⟩ else ⟨12,[],1000*A,[110]++eG B,true⟩):: jD B
theorem vt(h:B<0):Lib.itoa B=45:: Lib.decDigits B.natAbs:=by rw[qP];unfold ng;rw[if_pos h];rfl
theorem FI(h:¬B<0):Lib.itoa B=Lib.decDigits B.natAbs:=by rw[qP];unfold ng;rw[if_neg h];rfl
theorem L8(B:Int):Dm (ng B)*(1000*((B.natAbs:Nat):Int))=1000*B:=by
 unfold Dm ng
 by_cases h:B<0
 ·rw[if_pos h,if_pos rfl];omega
 ·rw[if_neg h,if_neg (by decide)];omega
theorem QQ:∀c:UInt8,Rt.cn c=true→bG.dF c=c:=dZ (P:=fun c=>Rt.cn c=true→bG.dF c=c) (by decide +kernel)
theorem Fl(B:Int):bT (eG B)=eG B:=by
 unfold eG;split
 ·rename_i h;rw[vt h];unfold bT;rw[GO]
  congr 1
  have hd:=qa (oX B.natAbs);generalize Lib.decDigits B.natAbs=d at hd;induction d with
  | nil=>rfl
  | cons c d ih=>rw[GO,QQ c (hd c (by simp)),ih fun x hx=>hd x (by simp[hx])]
 ·rfl
theorem B6(a b:af):bT (a++b)=bT a++bT b:=by unfold bT;rw[List.map_append]
theorem J4(hd:qn d):Lib.trimS d jK=[]:=by
 have key:∀b∈d,jK.contains b=true:=fun b hb=>by
  have:∀c:UInt8,Rt.cn c=true→jK.contains c=true:=dZ (P:=fun c=>Rt.cn c=true→jK.contains c=true) (by decide +kernel);exact this b (qa hd b hb)
 have drop:∀l:af,(∀b∈l,jK.contains b=true)→l.dropWhile (fun x=>jK.contains x)=[]:=fun l=>by
  induction l with
  | nil=>intro _;rfl
  | cons b l ih=>intro h;rw[List.dropWhile_cons,if_pos (h b (by simp))];exact ih fun x hx=>h x (by simp[hx])
 unfold Lib.trimS Lib.trimRightS Lib.trimLeftS;rw[drop d.reverse fun b hb=>key b (by simpa using hb)];rfl
theorem Gv(B:Int)(r:List Tok):cV (nB B:: r)=((B,true),r):=by
 unfold cV nB;rw[kT,if_pos rfl];dsimp only;rw[Int.mul_comm,Int.mul_tdiv_cancel _ (by decide),Int.mul_comm,Int.mul_tmod_right];rfl
theorem Tt(B:Int)(hB:kj B=true)(sp:List Tok)(hs:∀t∈sp,t.k=13):∃q,fQ (eG B) (jD B++sp)=((B,true),q)∧dI q=[]:=by
 have hsk:∀sp:List Tok,(∀t∈sp,t.k=13)→dI sp=[]:=fun sp=>by
  induction sp with
  | nil=>intro _;rfl
  | cons t r ih=>intro h;rw[dI,if_pos (h t (by simp))];exact ih fun x hx=>h x (by simp[hx])
 unfold kj at hB;simp only[NO,Of]at hB;rcases Int.lt_trichotomy B 0 with h|h|h
 ·have hd:=oX B.natAbs;have hne:Lib.decDigits B.natAbs≠[]:=hd.1;have e1:eG B=45:: Lib.decDigits B.natAbs:=by unfold eG;rw[if_pos h,vt h]
  have e2:jD B=[]:=by unfold jD;rw[if_neg (by omega)]
  have hp:Lib.hasPrefix (45:: Lib.decDigits B.natAbs) [45]=true:=by unfold Lib.hasPrefix;simp[List.isPrefixOf]
  have ht:Lib.trimPrefix (45:: Lib.decDigits B.natAbs) [45]=Lib.decDigits B.natAbs:=by unfold Lib.trimPrefix;rw[if_pos hp];rfl
  refine⟨sp, ?_,hsk sp hs⟩;rw[e1,e2,List.nil_append];unfold fQ Em;rw[if_neg (by simp[hne]),if_neg (by simp[hne]),if_pos (by simp),if_neg,ht,uc]
  ·have:(-((min B.natAbs 1000000000:Nat):Int))=B:=by omega
   rw[this]
  ·rw[ht,J4 hd,hp];simp
 ·subst h;have e1:eG 0=[]:=by unfold eG;rw[if_neg (by decide)]
  have e2:jD 0=[]:=by unfold jD;rw[if_neg (by decide)]
  refine⟨[], ?_,rfl⟩;rw[e1,e2,List.nil_append,pW,hsk sp hs]
 ·have e1:eG B=[]:=by unfold eG;rw[if_neg (by omega)]
  have e2:jD B=[nB B]:=by unfold jD;rw[if_pos h]
  refine⟨sp, ?_,hsk sp hs⟩;have hk:dI (nB B:: sp)=nB B:: sp:=by rw[dI,if_neg (by show ¬(10:Int)=13;decide)]
  have hg:iH (nB B:: sp)=(0,nB B:: sp):=by rw[iH,if_neg (by show ¬((10:Int)=9∧_);simp),if_neg (by show ¬((10:Int)=9∧_);simp)]
  rw[e1,e2,abg,List.nil_append,pW,hk];dsimp only;rw[hg];unfold Dn;dsimp only;rw[if_pos rfl,hk,Gv]
theorem vO(h:t.k≠13):dI (t:: l)=t:: l:=by rw[dI,if_neg h]
theorem uB(h:t.k≠k):kT k (t:: l)=none:=by rw[kT,if_neg h]
theorem Ah(h:t.k=k):kT k (t:: l)=some (t,l):=by rw[kT,if_pos h]
theorem x8(x:af):Lib.hasPrefix ([110]++x) [110]=true∧Lib.trimPrefix ([110]++x) [110]=x:=by
 have h:Lib.hasPrefix ([110]++x) [110]=true:=by unfold Lib.hasPrefix;simp[List.isPrefixOf]
 exact⟨h,by unfold Lib.trimPrefix;rw[if_pos h];rfl⟩
theorem VI(A B:Int)(hA:kj A=true)(hB:kj B=true)(sp:List Tok)(hs:∀t∈sp,t.k=13):wo (oV A B++sp)=some (A,B):=by
 have hsk:∀sp:List Tok,(∀t∈sp,t.k=13)→dI sp=[]:=fun sp=>by
  induction sp with
  | nil=>intro _;rfl
  | cons t r ih=>intro h;rw[dI,if_pos (h t (by simp))];exact ih fun x hx=>h x (by simp[hx])
 have fin:∀l q,dI l=l→gN l=(((A,B),true),q)→dI q=[]→wo l=some (A,B):=fun l q h1 h2 h3=>by
  unfold wo;rw[h1,h2];dsimp only;rw[if_pos ⟨rfl,h3,hA,hB⟩]
 obtain⟨q,hq1,hq2⟩:=Tt B hB sp hs;unfold oV
 by_cases h0:A=0
 ·subst h0;rw[if_pos rfl];refine fin _ sp (vO (by show (10:Int)≠13;decide)) ?_ (hsk sp hs);unfold gN;rw[abg,List.nil_append,Gv];rfl
 rw[if_neg h0]
 by_cases h1:A=1
 ·subst h1;rw[if_pos rfl];refine fin _ q (vO (by show (1:Int)≠13;decide)) ?_ hq2;have hw:cV (⟨1,[110]++eG B,0,[],false⟩:: (jD B++sp))=((0,false),⟨1,[110]++eG B,0,[],false⟩:: (jD B++sp)):=by unfold cV;rw[uB (by show (1:Int)≠10;decide)]
  have hg:iH (⟨1,[110]++eG B,0,[],false⟩:: (jD B++sp))=(0,⟨1,[110]++eG B,0,[],false⟩:: (jD B++sp)):=by rw[iH,if_neg (by simp),if_neg (by simp)]
  have hl:bT ([110]++eG B)=[110]++eG B:=by rw[B6,Fl];rfl
  unfold gN;rw[abg,hw];dsimp only;rw[if_neg (by decide),uB (by show (1:Int)≠12;decide)];dsimp only;rw[hg];dsimp only;rw[Ah (k:=1) (t:=⟨1,[110]++eG B,0,[],false⟩) rfl];dsimp only;rw[if_neg (by decide),hl,if_neg (by simp),if_neg (by simp)];have hn:Lib.hasPrefix ([110]++eG B) [45]=false:=by unfold Lib.hasPrefix;simp[List.isPrefixOf]
  rw[hn];simp only[Bool.and_false,aaJ,if_false];rw[(x8 _).1,if_pos rfl,(x8 _).2,hq1]
 rw[if_neg h1]
 by_cases h2:A=-1
 ·subst h2;rw[if_pos rfl];refine fin _ q (vO (by show (1:Int)≠13;decide)) ?_ hq2;have hw:cV (⟨1,[45,110]++eG B,0,[],false⟩:: (jD B++sp))=((0,false),⟨1,[45,110]++eG B,0,[],false⟩:: (jD B++sp)):=by unfold cV;rw[uB (by show (1:Int)≠10;decide)]
  have hg:iH (⟨1,[45,110]++eG B,0,[],false⟩:: (jD B++sp))=(0,⟨1,[45,110]++eG B,0,[],false⟩:: (jD B++sp)):=by rw[iH,if_neg (by simp),if_neg (by simp)]
  have hl:bT ([45,110]++eG B)=[45,110]++eG B:=by rw[B6,Fl];rfl
  unfold gN;rw[abg,hw];dsimp only;rw[if_neg (by decide),uB (by show (1:Int)≠12;decide)];dsimp only;rw[hg];dsimp only;rw[Ah (k:=1) (t:=⟨1,[45,110]++eG B,0,[],false⟩) rfl];dsimp only;rw[if_neg (by decide),hl,if_neg (by simp),if_neg (by simp)];have hn:Lib.hasPrefix ([45,110]++eG B) [45]=true:=by unfold Lib.hasPrefix;simp[List.isPrefixOf]
  have ht:Lib.trimPrefix ([45,110]++eG B) [45]=[110]++eG B:=by unfold Lib.trimPrefix;rw[if_pos hn];rfl
  rw[hn];simp only[decide_true,Bool.and_self,if_true];rw[ht,(x8 _).1,if_pos rfl,(x8 _).2,hq1]
 rw[if_neg h2];refine fin _ q (vO (by show (12:Int)≠13;decide)) ?_ hq2;have hw:cV (⟨12,[],1000*A,[110]++eG B,true⟩:: (jD B++sp))=((0,false),⟨12,[],1000*A,[110]++eG B,true⟩:: (jD B++sp)):=by unfold cV;rw[uB (by show (12:Int)≠10;decide)]
 have hl:bT ([110]++eG B)=[110]++eG B:=by rw[B6,Fl];rfl
 unfold gN;rw[abg,hw];dsimp only;rw[if_neg (by decide),Ah (k:=12) (t:=⟨12,[],1000*A,[110]++eG B,true⟩) rfl];dsimp only;rw[hl,if_pos ⟨(x8 _).1,rfl,by rw[Int.mul_tmod_right]⟩,(x8 _).2,hq1,Int.mul_comm,Int.mul_tdiv_cancel _ (by decide)]
theorem Cm:∀(x s r:af) (a:Nat),(∀c∈x,Rt.eX c=true)→s.drop a=x++r→Ar r→Rt.cY s a=(x,a+x.length)
 | [],s,r,a,_,h,hr=>Fx h hr
 | c:: x,s,r,a,hx,h,hr=>by
   have ih:=Cm x s r (a+1) (fun y hy=>hx y (by simp[hy])) (cS (x:=[c]) h) hr;rw[Fy h (hx c (by simp)),ih];simp;omega
theorem LX{x s r:af}(hx:∀c∈x,Rt.eX c=true)(hb:Ea s a)(hne:x≠[])(h:s.drop a=x++r)(hr:Ar r)(h40:r.getD 0 0≠40):Tq s a [⟨1,x,0,[],false⟩] (a+x.length):=by
 have hlt:a<s.length:=by
  cases x with
  | nil=>exact absurd rfl hne
  | cons c x=>exact ep h
 refine Tq.one hlt ?_ hb.no;rw[Cj hb];unfold pB;dsimp only;rw[Cm x s r a hx h hr];dsimp only;rw[if_pos (by rw[AE h];exact h40)]
def yS(r:af):Prop:=∃q,r=41:: q∨r=32:: q
theorem yS.nm(h:yS r):Ar r:=by
 obtain⟨q,rfl|rfl⟩:=h
 ·intro c hc;cases hc;exact⟨by decide,by decide⟩
 ·intro c hc;cases hc;exact⟨by decide,by decide⟩
theorem yS.nu(h:yS r):Kg r∧r.getD 0 0≠37∧r.getD 0 0≠47∧r.getD 0 0≠40∧r.head?≠some 47:=by
 obtain⟨q,rfl|rfl⟩:=h
 ·exact⟨⟨(by decide:Rt.cn 41=false),(by decide:(41:UInt8)≠46),(by decide:(41:UInt8)≠101),(by decide:(41:UInt8)≠69)⟩,(by decide:(41:UInt8)≠37),(by decide:(41:UInt8)≠47),(by decide:(41:UInt8)≠40),by simp⟩
 ·exact⟨⟨(by decide:Rt.cn 32=false),(by decide:(32:UInt8)≠46),(by decide:(32:UInt8)≠101),(by decide:(32:UInt8)≠69)⟩,(by decide:(32:UInt8)≠37),(by decide:(32:UInt8)≠47),(by decide:(32:UInt8)≠40),by simp⟩
theorem yS.no(h:yS r)(hd:s.drop a=r):Rt.gM s a=false:=by
 have hat:=cX hd;have e:Rt.aB s a=41∨Rt.aB s a=32:=by
  obtain⟨q,rfl|rfl⟩:=h
  ·exact .inl hat
  ·exact .inr hat
 unfold Rt.gM;unfold Rt.cC;rcases e with e|e<;>rw[e]<;>rfl
theorem Ie{g s r:af}(hB:kj B=true)(hg:g=ng B∨(g=[43]∧0<B))(h:s.drop a=g++(Lib.decDigits B.natAbs++r))(hr:yS r):Tq s a [nB B] (a+g.length+(Lib.decDigits B.natAbs).length):=by
 unfold kj at hB;simp only[NO,Of]at hB;obtain⟨n1,n2,n3,n4,n5⟩:=hr.nu;have hgs:g=[]∨g=[43]∨g=[45]:=by
  rcases hg with rfl|⟨rfl,_⟩
  ·unfold ng;split<;>simp
  ·simp
 have hv:Dm g*(1000*((B.natAbs:Nat):Int))=1000*B:=by
  rcases hg with rfl|⟨rfl,hp⟩
  ·exact L8 B
  ·unfold Dm;rw[if_neg (by decide)];omega
 have hend:s.drop (a+g.length+(Lib.decDigits B.natAbs).length)=r:=cS (cS h);have:=Uu (a:=a) hgs (oX B.natAbs) (by rw[uc];omega) h n1 (hr.no hend) n2;rw[uc,hv]at this;exact this
theorem Qs:∀c:UInt8,Rt.cn c=true→Rt.eX c=true:=dZ (P:=fun c=>Rt.cn c=true→Rt.eX c=true) (by decide +kernel)
theorem Gk(B:Int):∀c∈eG B,Rt.eX c=true:=by
 unfold eG;split
 ·rename_i h;rw[vt h];intro c hc;rcases ID.1 hc with rfl|hc
  ·decide
  ·exact Qs c (qa (oX B.natAbs) c hc)
 ·intro c hc;cases hc
theorem Tr(hA:kj A=true)(hB:kj B=true)(h:s.drop a=mS A B++r)(hr:yS r):Tq s a (oV A B) (a+(mS A B).length):=by
 obtain⟨n1,n2,n3,n4,n5⟩:=hr.nu;unfold mS at h ⊢;unfold oV
 by_cases h0:A=0
 ·rw[if_pos h0]at h ⊢;rw[if_pos h0];rw[qP]at h ⊢;have:=Ie (g:=ng B) hB (.inl rfl) (by rw[←To];exact h) hr;rw[AT,←Nat.add_assoc];exact this
 rw[if_neg h0]at h ⊢;rw[if_neg h0]
 -- behind the letter
 obtain⟨q,hq⟩:∃q,(if 0<B then 43:: Lib.itoa B else if B<0 then Lib.itoa B else [])=q:=⟨_,rfl⟩;obtain⟨m,hm⟩:∃m,q=eG B++m:=by
  rw[←hq];unfold eG
  by_cases hp:0<B
  ·exact⟨43:: Lib.itoa B,by rw[if_pos hp,if_neg (by omega)];rfl⟩
  ·by_cases hn:B<0
   ·exact⟨[],by rw[if_neg hp,if_pos hn];simp⟩
   ·exact⟨[],by rw[if_neg hp,if_neg hn];rfl⟩
 have hmm:(m=[]∧jD B=[])∨(0<B∧m=43:: Lib.decDigits B.natAbs):=by
  rw[←hq]at hm;unfold eG at hm;unfold jD
  by_cases hp:0<B
  ·rw[if_pos hp,if_neg (by omega)]at hm;right;refine⟨hp, ?_⟩;rw[FI (by omega)]at hm;exact hm.symm
  ·left;rw[if_neg hp]at hm;refine⟨?_,if_neg hp⟩
   by_cases hn:B<0
   ·rw[if_pos hn]at hm;have:=congrArg List.length hm;simp at this;exact this
   ·rw[if_neg hn]at hm;simpa using hm.symm
 have hmr:Ar (m++r)∧(m++r).getD 0 0≠40∧(m++r).getD 0 0≠47∧(m++r).head?≠some 47:=by
  rcases hmm with⟨rfl,_⟩|⟨_,rfl⟩
  ·exact⟨hr.nm,n4,n3,n5⟩
  ·refine⟨fun c hc=>?_,(by decide:(43:UInt8)≠40),(by decide:(43:UInt8)≠47),by simp⟩;cases hc;exact⟨by decide,by decide⟩
 have tail:∀b,s.drop b=m++r→Tq s b (jD B) (b+m.length):=by
  intro b hb;have hlen:b≤s.length:=by
   rcases uP s.length b with k|k
   ·exfalso;rw[List.drop_of_length_le (by omega)]at hb;have:=congrArg List.length hb;obtain⟨q,rfl|rfl⟩:=hr<;>simp at this
   ·exact k
  rcases hmm with⟨rfl,e⟩|⟨hp,rfl⟩
  ·rw[e];exact Tq.refl hlen
  ·have:jD B=[nB B]:=by unfold jD;rw[if_pos hp]
   rw[this];have:=Ie (g:=[43]) hB (.inr ⟨rfl,hp⟩) (by simpa using hb) hr;rw[show b+(43:: Lib.decDigits B.natAbs).length=b+([43]:af).length+(Lib.decDigits B.natAbs).length by simp;omega];exact this
 rw[hq,hm]at h ⊢
 by_cases h1:A=1
 ·rw[if_pos h1]at h ⊢;rw[if_pos h1];have hx:s.drop a=([110]++eG B)++(m++r):=by rw[h];simp
  have hat:Rt.aB s a=110:=by rw[cX hx];rfl
  have hb:Ea s a:=⟨by unfold Rt.gM;rw[hat];rfl,xd hat (by decide) (by decide) (by decide) (by decide),A4 (by rw[hat];decide),.inl (by rw[hat];decide),by rw[hat];decide⟩;have t1:=LX (x:=[110]++eG B) (fun c hc=>by
   rcases Is.1 hc with hc|hc
   ·simp at hc;subst hc;decide
   ·exact Gk B c hc) hb (by simp) hx hmr.1 hmr.2.1
  have t2:=tail _ (cS hx);have:=t1.trans t2;rw[show a+(([]++[110]++(eG B++m):af)).length=a+([110]++eG B).length+m.length by simp;omega];exact this
 rw[if_neg h1]at h ⊢;rw[if_neg h1]
 by_cases h2:A=-1
 ·rw[if_pos h2]at h ⊢;rw[if_pos h2];have hx:s.drop a=([45,110]++eG B)++(m++r):=by rw[h];simp
  have hat:Rt.aB s a=45:=by rw[cX hx];rfl
  have hat1:Rt.aB s (a+1)=110:=by rw[mA hx 1];rfl
  have hb:Ea s a:=⟨by unfold Rt.gM;rw[hat,if_pos rfl,hat1];rfl,Lw hat hat1 (by decide) (by decide),by
   cases e:Rt.hasB s a [45,45,62] with
   | false=>rfl
   | true =>
     obtain⟨_,g1,_⟩:=JE e;have:Rt.aB s (a+1)=45:=by unfold Rt.aB;rw[nE,g1];rfl
     rw[hat1]at this;exact absurd this (by decide),.inl (by rw[hat];decide),by rw[hat];decide⟩
  have t1:=LX (x:=[45,110]++eG B) (fun c hc=>by
   rcases Is.1 hc with hc|hc
   ·simp at hc;rcases hc with rfl|rfl<;>decide
   ·exact Gk B c hc) hb (by simp) hx hmr.1 hmr.2.1
  have t2:=tail _ (cS hx);have:=t1.trans t2;rw[show a+(([45]++[110]++(eG B++m):af)).length=a+([45,110]++eG B).length+m.length by simp;omega];exact this
 rw[if_neg h2]at h ⊢;rw[if_neg h2,qP A]at *;have hA2:=hA;unfold kj at hA2;simp only[NO,Of]at hA2;have hx:s.drop a=ng A++(Lib.decDigits A.natAbs++(([110]++eG B)++(m++r))):=by rw[h];simp
 have hgs:ng A=[]∨ng A=[43]∨ng A=[45]:=by unfold ng;split<;>simp
 have hd3:s.drop (a+(ng A).length+(Lib.decDigits A.natAbs).length)=([110]++eG B)++(m++r):=cS (cS hx);have hat3:=cX hd3;have t1:=TC (a:=a) (u:=[110]++eG B) (r:=m++r) hgs (oX A.natAbs) (by rw[uc];omega) hx
  ⟨by show Rt.cn 110=false;decide,(by decide:(110:UInt8)≠46),(by decide:(110:UInt8)≠101),(by decide:(110:UInt8)≠69)⟩
  (by unfold Rt.gM;rw[hat3];rfl)
  (Cm ([110]++eG B) s (m++r) _ (fun c hc=>by
   rcases Is.1 hc with hc|hc
   ·simp at hc;subst hc;decide
   ·exact Gk B c hc) hd3 hmr.1)
 rw[uc,L8]at t1;have t2:=tail _ (cS hd3);have:=t1.trans t2;rw[show a+((ng A++Lib.decDigits A.natAbs++[110]++(eG B++m):af)).length=a+(ng A).length+(Lib.decDigits A.natAbs).length+([110]++eG B).length+m.length by simp;omega];exact this
def TX(x:af)(l:List Tok)(N:af→Prop):Prop:=∀(s r:af) (a:Nat),a≤s.length→s.drop a=x++r→N r→Tq s a l (a+x.length)
theorem TX.nil(N:af→Prop):TX [] [] N:=fun _ _ _ ha _ _=>Tq.refl ha
theorem TX.cat{N1 N:af→Prop}(h1:TX x l N1)(h2:TX y m N)(hn:∀r,N r→N1 (y++r)):TX (x++y) (l++m) N:=by
 intro s r a ha h hr;rw[To]at h;have t1:=h1 s (y++r) a ha h (hn r hr);have t2:=h2 s r (a+x.length) t1.2.1 (cS h) hr;rw[AT,←Nat.add_assoc];exact t1.trans t2
theorem TX.mono{x:af}{N N':af→Prop}(h:TX x l N)(hn:∀r,N' r→N r):TX x l N':=fun s r a ha hd hr=>h s r a ha hd (hn r hr)
theorem TX.of(h:TX x l N)(e1:x=y)(e2:l=m):TX y m N:=by subst e1;subst e2;exact h
def pN(c:UInt8):Bool:=!Rt.eX c&&!decide (c=92)&&!decide (c=62)&&!decide (c=40)
def NX(r:af):Prop:=∀c,r.head?=some c→pN c=true
abbrev Any(_:af):Prop:=True
theorem NX.nx(h:NX r):Nx r∧r.head?≠some 40:=by
 have key:∀c,r.head?=some c→Rt.eX c=false∧c≠92∧c≠62∧c≠40:=fun c hc=>by
  have:=h c hc;unfold pN at this;simp only[NO,aa8,decide_eq_false_iff_not]at this;exact⟨this.1.1.1,this.1.1.2,this.1.2,this.2⟩
 exact⟨⟨fun c hc=>⟨(key c hc).1,(key c hc).2.1⟩,fun e=>(key 62 e).2.2.1 rfl⟩,fun e=>(key 40 e).2.2.2 rfl⟩
theorem NX.cons(r:af)(h:pN c=true):NX (c:: r):=fun x hx=>by cases hx;exact h
theorem NX.nil:NX []:=fun x hx=>by cases hx
theorem mh(hz:∀c∈n,c≠0)(hn:n≠[]):TX (eW n) [⟨1,n,0,[],false⟩] NX:=fun _ _ _ _ h hr=>N2 hz hn h hr.nx.1 hr.nx.2
theorem RD(hz:∀c∈n,c≠0)(hn:n≠[])(hu:n.map bG.dF≠Rt.xv):TX (eW n++[40]) [⟨2,n,0,[],false⟩] Any:=fun s r a _ h _=>by
 rw[AT,←Nat.add_assoc];exact Qv (r:=r) hz hn hu (by rw[h];simp)
theorem RE(hz:∀c∈n,c≠0)(hn:n≠[]):TX (35:: eW n) [⟨4,n,0,[],true⟩] NX:=fun s r a _ h hr=>by
 rw[show a+(35:: eW n).length=a+1+(eW n).length by simp;omega];exact Qy hz hn h hr.nx.1
theorem uD{k:Nat}(hc:tP c=true)(hk:Lib.indexByte Rt.lZ c=k)(h43:c≠43)(h46:c≠46)(h47:c≠47):TX [c] [⟨16+(k:Int),[],0,[],false⟩] Any:=fun _ _ _ _ h _=>QS h hc hk h43 h46 h47
theorem wb(hc:tP c=true)(hk:Lib.indexByte Rt.lZ c=-1)(h43:c≠43)(h45:c≠45)(h46:c≠46)(h47:c≠47):TX [c] [⟨9,[c],0,[],false⟩] Any:=fun s r a _ h _=>by
 have hat:Rt.aB s a=c:=by rw[cX h];rfl
 have hd:Rt.cn c=false:=by
  have:=hc;unfold tP at this;simp only[NO,aa8]at this;exact this.2
 exact zw h hc hk (xd hat h43 h45 h46 hd) h47
theorem RF:TX [43] [⟨9,[43],0,[],false⟩] (fun r=>∃q,r=32:: q):=fun s r a _ h hr=>by
 obtain⟨q,rfl⟩:=hr;have hat:Rt.aB s a=43:=by rw[cX h];rfl
 have hat1:Rt.aB s (a+1)=32:=by rw[mA h 1];rfl
 refine zw h (by decide) (by decide) ?_ (by decide);have e:(if Rt.aB s a=43∨Rt.aB s a=45 then a+1 else a)=a+1:=if_pos (.inl hat);unfold Rt.kD;simp only[e];rw[if_neg (by rw[hat1];decide),hat1];decide
theorem Oh(hz:∀c∈n,c≠0)(hn:n≠[])(r:af)(hr:r.head?≠some 62):Rt.cn ((eW n++r).getD 0 0)=false:=by
 have h:=(AF (s:=eW n++r) (a:=0) hz hn (by rw[List.drop_zero]) hr).d;exact h
theorem OQ(hz:∀c∈n,c≠0)(hn:n≠[]):TX (46:: eW n) [⟨9,[46],0,[],false⟩,⟨1,n,0,[],false⟩] NX:=by
 have h46:TX [46] [⟨9,[46],0,[],false⟩] (fun r=>Rt.cn (r.getD 0 0)=false):=fun s r a _ h hr=>by
  have hat:Rt.aB s a=46:=by rw[cX h];rfl
  have hat1:Rt.aB s (a+1)=r.getD 0 0:=cX (cS (x:=[46]) h);refine zw h (by decide) (by decide) ?_ (by decide);have e:(if Rt.aB s a=43∨Rt.aB s a=45 then a+1 else a)=a:=if_neg (by rw[hat];decide);unfold Rt.kD;simp only[e];rw[if_pos hat,hat1];exact hr
 exact h46.cat (mh hz hn) fun r hr=>Oh hz hn r hr.nx.1.g
theorem Gn:TX [32] [⟨13,[],0,[],false⟩] (fun r=>∀c,r.head?=some c→Rt.eY c=false):=fun _ _ _ _ h hr=>OG h hr
theorem OR{v:af}(hz:∀c∈v,c≠0):TX (ux v) [⟨5,v,0,[],false⟩] Any:=fun _ _ _ _ h _=>Om hz h
theorem Vp(hA:kj A=true)(hB:kj B=true):TX (mS A B) (oV A B) yS:=fun _ _ _ _ h hr=>Tr hA hB h hr
/-! ### Attributes -/
def lf(k:Int)(t:af)(f:Bool):Vl:=.mk k t 0 [] f []
def LA(o:Int):List Vl:=(Bj.getD o.toNat []).map fun c=>lf 9 [c] false
def yU(n:af)(o:Int)(v:af)(f:Bool):List Vl:=lf 1 n false:: ((if o=0 then [] else LA o++[lf 5 v false])++(if f then [lf 13 [] false,lf 1 [105] false] else []))
theorem ku{t:af}(h:cG k=0):iI (lf k t f)=[⟨k,t,0,[],f⟩]:=by unfold lf;rw[iI,if_pos h]
theorem cf(v:Vl)(l:List Vl):bJ (v:: l)=iI v++bJ l:=by rw[bJ]
theorem dm:bJ []=[]:=by rw[bJ]
theorem WJ:∀o:Nat,o≤6→TX (Bj.getD o []) (bJ (LA (o:Int))) Any:=by
 have d:∀c:UInt8,tP c=true→Lib.indexByte Rt.lZ c=-1→c≠43→c≠45→c≠46→c≠47→TX [c] (iI (lf 9 [c] false)) Any:=fun c h1 h2 h3 h4 h5 h6=>by rw[ku (by decide)];exact wb h1 h2 h3 h4 h5 h6
 have eq:=d 61 (by decide) (by decide) (by decide) (by decide) (by decide) (by decide);have two:∀c:UInt8,tP c=true→Lib.indexByte Rt.lZ c=-1→c≠43→c≠45→c≠46→c≠47→TX [c,61] (iI (lf 9 [c] false)++(iI (lf 9 [61] false)++[])) Any:=fun c h1 h2 h3 h4 h5 h6=>by
  rw[aaL];exact (d c h1 h2 h3 h4 h5 h6).cat eq fun _ _=>trivial
 intro o ho
 match o,ho with
 | 0,_=>exact TX.nil _
 | 1,_ =>
   have:bJ (LA ((1:Nat):Int))=iI (lf 9 [61] false):=by show bJ [lf 9 [61] false]=_;rw[cf,dm,aaL]
   rw[this];exact eq
 | 2,_=>exact (two 126 (by decide) (by decide) (by decide) (by decide) (by decide) (by decide)).of rfl (by show _=bJ [lf 9 [126] false,lf 9 [61] false];rw[cf,cf,dm])
 | 3,_=>exact (two 124 (by decide) (by decide) (by decide) (by decide) (by decide) (by decide)).of rfl (by show _=bJ [lf 9 [124] false,lf 9 [61] false];rw[cf,cf,dm])
 | 4,_=>exact (two 94 (by decide) (by decide) (by decide) (by decide) (by decide) (by decide)).of rfl (by show _=bJ [lf 9 [94] false,lf 9 [61] false];rw[cf,cf,dm])
 | 5,_=>exact (two 36 (by decide) (by decide) (by decide) (by decide) (by decide) (by decide)).of rfl (by show _=bJ [lf 9 [36] false,lf 9 [61] false];rw[cf,cf,dm])
 | 6,_=>exact (two 42 (by decide) (by decide) (by decide) (by decide) (by decide) (by decide)).of rfl (by show _=bJ [lf 9 [42] false,lf 9 [61] false];rw[cf,cf,dm])
theorem fo(a b:List Vl):bJ (a++b)=bJ a++bJ b:=pP a b
theorem Q5:∀o:Nat,o≤6→o≠0→∃c y,Bj.getD o []=c:: y∧pN c=true:=by
 intro o ho h0
 match o,ho with
 | 0,_=>exact absurd rfl h0
 | 1,_=>exact⟨61,[],rfl,by decide⟩
 | 2,_=>exact⟨126,[61],rfl,by decide⟩
 | 3,_=>exact⟨124,[61],rfl,by decide⟩
 | 4,_=>exact⟨94,[61],rfl,by decide⟩
 | 5,_=>exact⟨36,[61],rfl,by decide⟩
 | 6,_=>exact⟨42,[61],rfl,by decide⟩
theorem RA{o:Int}{v:af}(hz:∀c∈n,c≠0)(hn:n≠[])(h0:0≤o)(h6:o≤6)(hv:∀c∈v,c≠0):TX (sJ n o v f) (iI (.mk 19 [] 0 [] false (yU n o v f))) Any:=by
 obtain⟨k,rfl⟩:∃k:Nat,o=k:=⟨o.toNat,by omega⟩;have hX:TX (if (k:Int)=0 then [] else Bj.getD (k:Int).toNat []++ux v) (bJ (if (k:Int)=0 then [] else LA k++[lf 5 v false])) Any:=by
  by_cases z:(k:Int)=0
  ·rw[if_pos z,if_pos z,dm];exact TX.nil _
  ·rw[if_neg z,if_neg z,fo,cf,dm,aaL,ku (by decide)];exact (WJ k (by omega)).cat (OR hv) fun _ _=>trivial
 have hY:TX (if f then [32,105] else []) (bJ (if f then [lf 13 [] false,lf 1 [105] false] else [])) NX:=by
  cases f with
  | false=>exact TX.nil _
  | true =>
    have h1:TX (eW [105]) [⟨1,[105],0,[],false⟩] NX:=mh (fun c hc=>by simp at hc;subst hc;decide) (by simp);refine (Gn.cat (h1.of (by decide) rfl) fun r _=>?_).of rfl ?_
    ·intro c hc;cases hc;decide
    ·show _=bJ [lf 13 [] false,lf 1 [105] false];rw[cf,cf,dm,ku (by decide),ku (by decide)];rfl
 have hZ:TX [93] [⟨20,[],0,[],false⟩] Any:=uD (k:=4) (by decide) (by decide) (by decide) (by decide) (by decide);have hA:TX [91] [⟨19,[],0,[],false⟩] Any:=uD (k:=3) (by decide) (by decide) (by decide) (by decide) (by decide);have hN:TX (eW n) [⟨1,n,0,[],false⟩] NX:=mh hz hn;have hYZ:=hY.cat hZ fun r _=>NX.cons r (by decide);have hXYZ:=hX.cat hYZ fun _ _=>trivial;have hNX:=hN.cat hXYZ fun r _=>by
  by_cases z:(k:Int)=0
  ·rw[if_pos z,List.nil_append];cases f with
   | false=>exact NX.cons _ (by decide)
   | true=>exact NX.cons _ (by decide)
  ·rw[if_neg z];obtain⟨c,y,hc,hp⟩:=Q5 k (by omega) (by omega);rw[Mk,hc];exact NX.cons _ hp
 refine (hA.cat hNX fun _ _=>trivial).of ?_ ?_
 ·unfold sJ;simp
 ·have e:cG 19=20:=by decide
  rw[iI,if_neg (show ¬cG 19=0 by decide),e];unfold yU;rw[cf,ku (by decide),fo];simp only[abg,List.nil_append,To]
/-! ### What a list is,as_ values -/
def gq(sep:Nat→List Vl)(ts:List (List Vl)):List Vl:=(List.range ts.length).flatMap fun i=>sep i++ts.getD i []
def cH:Vl:=lf 13 [] false
def oO:Vl:=lf 18 [] false
def CN:Vl:=lf 16 [] false
def lU(c:UInt8):Vl:=lf 9 [c] false
def bB_(c:Int):UInt8:=if c=2 then 62 else if c=3 then 43 else 126
def jc(k:Nat):List Vl:=if k=0 then [] else [oO,cH]
def mU(c:Int):List Vl:=if c=1 then [cH] else [cH,lU (bB_ c),cH]
def qU(cs:List Int)(k:Nat):List Vl:=if k=0 then [] else mU (cs.getD (k-1) 0)
def lO(A B:Int):List Vl:=(oV A B).map fun t=>iy t []
def ph(k a b:Int)(w:Bool):List Vl:=if eK k then lO a b++(if w then [cH,lf 1 [111,102] false,cH] else []) else []
def C0(k:Int):af:=if k=9 then [102,105,114,115,116,45,99,104,105,108,100] else [108,97,115,116,45,99,104,105,108,100]
mutual
def vX:Cx→List Vl
 | .mk l ps cs=>(if 1<l then [lU (bB_ l),cH] else [])++gq (qU cs) (ml ps)
def ml:List Cp→List (List Vl)
 | []=>[]
 | p:: l=>vP p:: ml l
def vP:Cp→List Vl
 | .mk t ss=>(if t=[42] then [lU 42] else if t=[] then [] else [lf 1 t false])++mn ss
def mn:List Sm→List Vl
 | []=>[]
 | s:: l=>vS s++mn l
def vS:Sm→List Vl
 | .mk k n o v f a b w l=>if k=1 then [lf 4 n true] else if k=2 then [lU 46,lf 1 n false] else if k=3 then [.mk 19 [] 0 [] false (yU n o v f)]
   else if kf k a b w then [CN,lf 1 (C0 k) false]
   else if k≤8 then [CN,lf 1 (dX.getD (k-4).toNat []) false]
   else [CN,.mk 2 (dX.getD (k-4).toNat []) 0 [] false (ph k a b w++gq jc (jj l))]
def jj:List Cx→List (List Vl)
 | []=>[]
 | x:: l=>vX x:: jj l
end
def vL(l:List Cx):List Vl:=gq jc (jj l)
theorem IV{sep:Nat→af}{sv:Nat→List Vl}(ts:List af)(vs:List (List Vl))(hsep:∀k,k<ts.length→TX (sep k) (bJ (sv k)) (fun r=>Rt.eY (r.getD 0 0)=false)):∀(hl:ts.length=vs.length) (ht:∀i,i<ts.length→TX (ts.getD i []) (bJ (vs.getD i [])) N),(∀i,0<i→i<ts.length→∀r,N (sep i++r))→(∀i,i<ts.length→∀r,Rt.eY ((ts.getD i []++r).getD 0 0)=false)→TX (gR sep ts) (bJ (gq sv vs)) N:=by
 intro hl ht hN hS;have key:∀k,k≤ts.length→TX ((List.range k).flatMap fun i=>sep i++ts.getD i []) (bJ ((List.range k).flatMap fun i=>sv i++vs.getD i [])) (fun r=>N r∨k=0):=by
  intro k;induction k with
  | zero=>intro _;exact (TX.nil _).of rfl (by simp[dm])
  | succ k ih =>
    intro hk;rw[List.range_succ,List.flatMap_append,List.flatMap_append,fo];have e1:([k].flatMap fun i=>sep i++ts.getD i [])=sep k++ts.getD k []:=by simp
    have e2:([k].flatMap fun i=>sv i++vs.getD i [])=sv k++vs.getD k []:=by simp
    rw[e1,e2,fo];have h1:=(hsep k (by omega)).cat (ht k (by omega)) fun r _=>hS k (by omega) r;refine ((ih (by omega)).cat h1 fun r _=>?_).mono fun r hr=>hr.resolve_right (by omega);rcases Nat.eq_zero_or_pos k with z|z
    ·exact .inr z
    ·left;rw[To];exact hN k z (by omega) _
 have:=key ts.length (bY _);unfold gR fj gq;rw[←hl];exact this.mono fun r hr=>.inl hr
abbrev Ns(r:af):Prop:=Rt.eY (r.getD 0 0)=false
theorem Ns.hd(h:Ns r):∀c,r.head?=some c→Rt.eY c=false:=fun c hc=>by
 cases r with
 | nil=>cases hc
 | cons x r=>cases hc;exact h
theorem D0:iI cH=[⟨13,[],0,[],false⟩]:=ku (by decide)
theorem Wz:iI oO=[⟨18,[],0,[],false⟩]:=ku (by decide)
theorem Wy:iI CN=[⟨16,[],0,[],false⟩]:=ku (by decide)
theorem J3(c:UInt8):iI (lU c)=[⟨9,[c],0,[],false⟩]:=ku (by decide)
theorem wc:TX [32] (iI cH) Ns:=by rw[D0];exact Gn.mono fun r hr=>hr.hd
theorem PH:TX [44] (iI oO) Any:=by rw[Wz];exact uD (k:=2) (by decide) (by decide) (by decide) (by decide) (by decide)
theorem J5:TX [58] (iI CN) Any:=by rw[Wy];exact uD (k:=0) (by decide) (by decide) (by decide) (by decide) (by decide)
theorem IW{c:Int}(h2:2≤c)(h4:c≤4):TX ((qE.getD c.toNat []).drop 1) (bJ [lU (bB_ c),cH]) Ns:=by
 have hsp:TX [32] (bJ [cH]) Ns:=by rw[cf,dm,aaL];exact wc
 rw[cf,J3];rcases (by omega:c=2∨c=3∨c=4) with rfl|rfl|rfl
 ·exact ((wb (c:=62) (by decide) (by decide) (by decide) (by decide) (by decide) (by decide)).cat hsp fun _ _=>trivial).of rfl rfl
 ·exact (RF.cat hsp fun r _=>⟨r,rfl⟩).of rfl rfl
 ·exact ((wb (c:=126) (by decide) (by decide) (by decide) (by decide) (by decide) (by decide)).cat hsp fun _ _=>trivial).of rfl rfl
theorem WI{c:Int}(h1:1≤c)(h4:c≤4):TX (qE.getD c.toNat []) (bJ (mU c)) Ns:=by
 by_cases h:c=1
 ·subst h;have e:bJ (mU 1)=iI cH:=by unfold mU;rw[if_pos rfl,cf,dm,aaL]
  rw[e];exact wc
 ·have e:bJ (mU c)=iI cH++bJ [lU (bB_ c),cH]:=by unfold mU;rw[if_neg h,cf]
  have e2:qE.getD c.toNat []=[32]++(qE.getD c.toNat []).drop 1:=by rcases (by omega:c=2∨c=3∨c=4) with rfl|rfl|rfl<;>rfl
  rw[e,e2];refine (wc.cat (IW (by omega) h4) fun r _=>?_);rcases (by omega:c=2∨c=3∨c=4) with rfl|rfl|rfl
  ·exact (by decide:Rt.eY 62=false)
  ·exact (by decide:Rt.eY 43=false)
  ·exact (by decide:Rt.eY 126=false)
theorem RH{cs:List Int}(hc:∀c∈cs,1≤c∧c≤4)(k:Nat)(hk:k≤cs.length):TX (ga cs k) (bJ (qU cs k)) Ns:=by
 unfold ga qU
 by_cases h:k=0
 ·rw[if_pos h,if_pos h,dm];exact TX.nil _
 ·rw[if_neg h,if_neg h];have hm:cs.getD (k-1) 0∈cs:=by
   rw[nE,dO (by omega)];exact aaW _
  exact WI (hc _ hm).1 (hc _ hm).2
theorem RG(k:Nat):TX (fS k) (bJ (jc k)) Ns:=by
 unfold fS jc
 by_cases h:k=0
 ·rw[if_pos h,if_pos h,dm];exact TX.nil _
 ·rw[if_neg h,if_neg h,cf,cf,dm,aaL];exact (PH.cat wc fun _ _=>trivial).of rfl rfl
theorem uq(h:bG.named n=true):(∀c∈n,c≠0)∧n≠[]:=by
 unfold bG.named at h;simp only[NO,aa8,decide_eq_false_iff_not]at h;refine⟨fun c hc=>?_,h.1.1⟩;have:=At.1 h.2 c hc;simpa using this
theorem MH(h:gD n=true):∀c∈n,c≠0:=fun c hc=>by
 have:=At.1 h c hc;simpa using this
theorem Ls:∀i,i<11→eW (dX.getD i [])=dX.getD i []∧dX.getD i []≠[]∧(∀c∈dX.getD i [],c≠0)∧(dX.getD i []).map bG.dF≠Rt.xv:=by
 intro i hi
 match i,hi with
 | 0,_|1,_|2,_|3,_|4,_|5,_|6,_|7,_|8,_|9,_|10,_=>exact⟨by decide,by decide,by decide,by decide⟩
theorem E9:∀i,i<11→w5.getD i []=if i<5 then 58:: dX.getD i [] else 58:: (dX.getD i []++[40]):=by
 intro i hi
 match i,hi with
 | 0,_|1,_|2,_|3,_|4,_|5,_|6,_|7,_|8,_|9,_|10,_=>rfl
theorem NV:∀k:Int,k=9∨k=10→CZ.getD (k-9).toNat []=58:: eW (C0 k)∧C0 k≠[]∧∀c∈C0 k,c≠0:=by
 rintro k (rfl|rfl)
 ·exact⟨by decide,by decide,by decide⟩
 ·exact⟨by decide,by decide,by decide⟩
end
end Go.Proofs.YtpcnidmmkknndaaGreatDoor
end
