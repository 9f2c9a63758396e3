/-
 A text read as_ a list,whatever text.
 No conditions.
-/
import Derived.Test.YtkfakehconamoaaGreatDoorProg
import Derived.KernelRfl
import Derived.Test.YtkfakehconamoaaGreatDoorRows
import Derived.Test.YtkfakehconamoaaGreatDoorTie
import Derived.Test.YtkfakehconamoaaGreatDoorCards
import Derived.Lib.LaidTab
import Derived.Lay
import Derived.LaidMore
import Derived.LaidHandle
import Derived.Stop.Joined
import Derived.ChangeSame
import Derived.JoinedCond
import Derived.Shelf.Strconv.Itoa4
import Derived.Lib.AppendIntMem
import Derived.Test.YtkfakehconamoaaGreatDoorZh
import Derived.Test.YtkfakehconamoaaGreatDoorZg
import Derived.Test.YtkfakehconamoaaGreatDoorZc
import Derived.Test.YtkfakehconamoaaGreatDoorZd
import Derived.Test.YtkfakehconamoaaGreatDoorZe
import Derived.Test.YtkfakehconamoaaGreatDoorZf
set_option linter.unusedVariables false
set_option linter.unusedSimpArgs false
set_option linter.unusedSectionVars false
set_option linter.defProp false
set_option autoImplicit true
set_option maxRecDepth 1000000
set_option maxHeartbeats 16000000
open Go.Proofs.Tryz renaming prog→p_
noncomputable section
namespace Go.Proofs.YtkfakehconamoaaGreatDoor
section
open Go Go.Aw Go.jh Go.RowKit
open Go.bE hiding u1 ao
/-! ### How long a token's text is -/
def Aj(s:ao)(i:Nat):(Rt.cP s i).1.length≤4:=by
 have hu:∀n,(Rt.rE n).length≤4:=fun n=>by
  unfold Rt.rE;repeat' split
  all_goals simp[Rt.kz]
 unfold Rt.cP;split
 ·simp[Rt.kz]
 ·split
  ·simp
  ·exact hu _
theorem xb(s:ao):∀n i,s.length-i≤n→(Rt.cW s i).1.length≤4*(s.length-i)
 | 0,i,hn=>by rw[Rt.cW,dif_neg (by omega)];simp
 | n+1,i,hn=>by
   rw[Rt.cW];split
   ·rename_i h;split
    ·have:=xb s n (i+1) (by omega);dsimp only;rw[aab];omega
    ·split
     ·have h1:=Rt.fw s i;have:=xb s n (Rt.cP s i).2 (by omega);have:=Aj s i;dsimp only;rw[BY];omega
     ·simp
   ·simp
def xe(h:∀t,r.1=some t→t.length≤m)(hx:x.length+m≤k):∀t,(Rt.jC x r).1=some t→t.length≤k:=by
 intro t ht;unfold Rt.jC at ht;cases hr:r.1 with
 | none=>rw[hr]at ht;cases ht
 | some y =>
   rw[hr]at ht;cases ht;have:=h y hr;rw[BY];omega
theorem xi(m:UInt8)(s:ao):∀n i,s.length-i≤n→∀t,(Rt.iK m s i).1=some t→t.length≤4*(s.length-i)
 | 0,i,hn,t,h=>by rw[Rt.iK,dif_neg (by omega)]at h;cases h;simp
 | n+1,i,hn,t,h=>by
   rw[Rt.iK]at h;split at h
   ·rename_i hi;split at h
    ·cases h;simp
    ·split at h
     ·cases h
     ·split at h
      ·split at h
       ·cases h;simp
       ·split at h
        ·have:=xi m s n (i+2) (by omega) t h;omega
        ·have h1:=Rt.fw s i;have:=Aj s i;exact xe (xi m s n (Rt.cP s i).2 (by omega)) (by omega) t h
      ·exact xe (x:=[s[i]]) (xi m s n (i+1) (by omega)) (by simp;omega) t h
   ·cases h;simp
theorem Bs(s:ao):∀n i,s.length-i≤n→∀t,(Rt.gQ s i).1=some t→t.length≤4*(s.length-i)
 | 0,i,hn,t,h=>by rw[Rt.gQ,dif_neg (by omega)]at h;cases h;simp
 | n+1,i,hn,t,h=>by
   rw[Rt.gQ]at h;split at h
   ·rename_i hi;split at h
    ·cases h;simp
    ·split at h
     ·split at h
      ·cases h
      ·cases h;simp
     ·split at h
      ·cases h
      ·split at h
       ·have h1:=Rt.fw s i;have:=Aj s i;exact xe (Bs s n (Rt.cP s i).2 (by omega)) (by omega) t h
       ·exact xe (x:=[s[i]]) (Bs s n (i+1) (by omega)) (by simp;omega) t h
   ·cases h;simp
def wo(M:Nat)(t:Tok):Prop:=(-10^15≤t.n∧t.n≤10^15)∧t.t.length≤M∧t.u.length≤M
def UJ(hi:i<s.length):wo (4*s.length) (jA s i).1:=by
 have hz:(-10^15:Int)≤0∧(0:Int)≤10^15:=by decide
 have e0:∀k f,wo (4*s.length) ⟨k,[],0,[],f⟩:=fun k f=>⟨hz,aao _,aao _⟩;have e1:∀k f j,wo (4*s.length) ⟨k,(Rt.cW s j).1,0,[],f⟩:=fun k f j=>⟨hz,by have:=xb s _ j (aS _);show (Rt.cW s j).1.length≤_;omega,aao _⟩;have th:∀x,(-10^15≤nF x∧nF x≤10^15):=fun x=>by have:=P2 x;omega
 unfold jA;dsimp only;split
 ·exact e0 _ _
 ·split
  ·cases h:(Rt.iK (Rt.aJ s i) s (i+1)).1 with
   | none=>exact e0 _ _
   | some t =>
     have:=xi (Rt.aJ s i) s _ (i+1) (aS _) t h;exact⟨hz,by show t.length≤_;omega,aao _⟩
  ·split
   ·exact e1 _ _ _
   ·split
    ·unfold ku;dsimp only;split
     ·exact⟨th _,aao _,by have:=xb s _ (Rt.gL s i).1 (aS _);show (Rt.cW s (Rt.gL s i).1).1.length≤_;omega⟩
     ·split
      ·exact⟨th _,aao _,aao _⟩
      ·exact⟨th _,aao _,aao _⟩
    ·split
     ·exact e0 _ _
     ·split
      ·exact e0 _ _
      ·split
       ·exact e1 _ _ _
       ·split
        ·unfold pL;dsimp only;split
         ·exact e1 _ _ _
         ·split
          ·cases h:(Rt.gQ s (Rt.dU s ((Rt.cW s i).2+1))).1 with
           | none=>exact e0 _ _
           | some t =>
             have:=Bs s _ _ (aS _) t h;exact⟨hz,by show t.length≤_;omega,aao _⟩
          ·exact e1 _ _ _
        ·split
         ·exact e0 _ _
         ·refine⟨hz, ?_,aao _⟩;show 1≤_;omega
theorem Np:∀n i,s.length-i≤n→∀t∈lK s i,wo (4*s.length) t
 | 0,i,hn,t,ht=>by rw[lK,dif_neg (by omega)]at ht;cases ht
 | n+1,i,hn,t,ht=>by
   rw[lK]at ht;split at ht
   ·rename_i h;rcases IS.1 ht with rfl|ht
    ·exact UJ h
    ·have h1:=xd h;have h2:=tG s s.length (jA s i).2 (by omega) h1.2;exact Np n _ (by omega) t ht
   ·cases ht
def Vb(s:ao):(iu s).1.length≤1500∧∀t∈(iu s).1,wo 48000 t:=by
 unfold iu;split
 ·simp
 ·rename_i h;split
  ·simp
  ·rename_i h2;refine⟨by dsimp only;omega,fun t ht=>?_⟩;have hl:=qH s.length s (aS _);have:=Np (s:=dN s) _ _ (aS _) t ht;exact⟨this.1,by have:=this.2.1;omega,by have:=this.2.2;omega⟩
/-! ### How great what is parsed is -/
def z1(t:Tok):Nat:=1+t.t.length+t.u.length
def xM(s:List (Tok×List Vl)):Nat:=(s.map fun x=>z1 x.1+bP x.2).sum
def uU(x:Tok×List Vl)(s:List (Tok×List Vl)):xM (x:: s)=z1 x.1+bP x.2+xM s:=rfl
def uW(l:List Vl)(v:Vl):bP (l++[v])=bP l+zV v:=by rw[lz,dK,bP];omega
def C8(o:Tok)(l:List Vl):zV (lD o l)=z1 o+bP l:=by unfold lD;rw[zV];unfold z1;rfl
def Tl(h:gb t c s=some (c',s')):bP c'+xM s'≤bP c+xM s+z1 t:=by
 have hn:bP []=0:=by rw[bP]
 cases s with
 | nil =>
   rw[gb]at h;split at h
   ·cases h;rw[uU,hn];simp[xM];omega
   ·cases h;rw[uW,C8,hn];omega
 | cons x s =>
   obtain⟨o,b⟩:=x;rw[gb]at h;split at h
   ·cases h;rw[uW,C8,uU];dsimp only;omega
   ·split at h
    ·split at h
     ·cases h
     ·cases h;rw[uU,hn];dsimp only;omega
    ·cases h;rw[uW,C8,hn];omega
theorem JW:∀(s:List (Tok×List Vl)) (c:List Vl),bP (pH c s)=bP c+xM s
 | [],c=>by rw[pH];simp[xM]
 | (o,b):: s,c=>by rw[pH,JW s,uW,C8,uU];dsimp only;omega
def zT(l:List Tok):Nat:=(l.map z1).sum
theorem JZ:∀(l:List Tok) (c c':List Vl) (s s':List (Tok×List Vl)),gr l c s=some (c',s')→bP c'+xM s'≤bP c+xM s+zT l
 | [],c,c',s,s',h=>by rw[gr]at h;cases h;simp[zT]
 | t:: l,c,c',s,s',h=>by
   rw[gr]at h;cases e:gb t c s with
   | none=>rw[e]at h;cases h
   | some y =>
     obtain⟨c2,s2⟩:=y;rw[e]at h;have h1:=Tl e;have h2:=JZ l c2 c' s2 s' h;have:zT (t:: l)=z1 t+zT l:=rfl;omega
theorem K3:∀(l:List Tok),(∀t∈l,wo M t)→zT l≤l.length*(1+2*M)
 | [],_=>by simp[zT]
 | t:: l,h=>by
   have h1:=K3 l fun x hx=>h x (by simp[hx]);have h2:=h t (by simp);have e:zT (t:: l)=z1 t+zT l:=rfl;rw[e,aab,Nat.succ_mul];unfold z1;have:=h2.2.1;have:=h2.2.2;omega
def Ti(l:List Tok):bP (jB l).1≤zT l:=by
 have hn:bP []=0:=by rw[bP]
 unfold jB;split
 ·rw[hn];omega
 ·cases e:gr l [] [] with
  | none=>show bP []≤_;rw[hn];omega
  | some y =>
    obtain⟨c,s⟩:=y;have:=JZ _ _ _ _ _ e;rw[hn]at this;dsimp only;split
    ·rw[hn];omega
    ·dsimp only;rw[JW];simp[xM]at this ⊢;omega
/-! ### What is parsed is in bounds -/
def uT(h:gF l)(hv:vB v):gF (l++[v]):=Bt fun x hx=>by
 rcases IN.1 hx with hx|hx
 ·exact xm h hx
 ·simp at hx;subst hx;exact hv
def C5(ho:wo (2^20) o)(h:gF l):vB (lD o l):=by unfold lD;rw[vB];exact⟨ho.1,ho.2.1,ho.2.2,h⟩
def GZ(s:List (Tok×List Vl)):Prop:=∀x∈s,wo (2^20) x.1∧gF x.2
def Tj(ht:wo (2^20) t)(hc:gF c)(hs:GZ s)(h:gb t c s=some (c',s')):gF c'∧GZ s':=by
 have hn:gF []:=trivial;cases s with
 | nil =>
   rw[gb]at h;split at h
   ·cases h;exact⟨hn,fun x hx=>by simp at hx;subst hx;exact⟨ht,hc⟩⟩
   ·cases h;exact⟨uT hc (C5 ht hn),hs⟩
 | cons x s =>
   obtain⟨o,b⟩:=x;have hx:=hs (o,b) (by simp);have hs2:GZ s:=fun y hy=>hs y (by simp[hy]);rw[gb]at h;split at h
   ·cases h;exact⟨uT hx.2 (C5 hx.1 hc),hs2⟩
   ·split at h
    ·split at h
     ·cases h
     ·cases h;refine⟨hn,fun y hy=>?_⟩;rcases IS.1 hy with rfl|hy
      ·exact⟨ht,hc⟩
      ·exact hs y hy
    ·cases h;exact⟨uT hc (C5 ht hn),hs⟩
theorem JY:∀(l:List Tok) (c c':List Vl) (s s':List (Tok×List Vl)),(∀t∈l,wo (2^20) t)→gF c→GZ s→gr l c s=some (c',s')→gF c'∧GZ s'
 | [],c,c',s,s',_,hc,hs,h=>by rw[gr]at h;cases h;exact⟨hc,hs⟩
 | t:: l,c,c',s,s',ht,hc,hs,h=>by
   rw[gr]at h;cases e:gb t c s with
   | none=>rw[e]at h;cases h
   | some y =>
     obtain⟨c2,s2⟩:=y;rw[e]at h;obtain⟨h1,h2⟩:=Tj (ht t (by simp)) hc hs e;exact JY l c2 c' s2 s' (fun x hx=>ht x (by simp[hx])) h1 h2 h
theorem JV:∀(s:List (Tok×List Vl)) (c:List Vl),gF c→GZ s→gF (pH c s)
 | [],c,hc,_=>by rw[pH];exact hc
 | (o,b):: s,c,hc,hs=>by
  have hx:=hs (o,b) (by simp);rw[pH];exact JV s _ (uT hx.2 (C5 hx.1 hc)) fun y hy=>hs y (by simp[hy])
def Th(l:List Tok)(ht:∀t∈l,wo (2^20) t):gF (jB l).1:=by
 unfold jB;split
 ·trivial
 ·cases e:gr l [] [] with
  | none=>trivial
  | some y =>
    obtain⟨c,s⟩:=y;obtain⟨h1,h2⟩:=JY l [] c [] s ht trivial (fun x hx=>by cases hx) e;dsimp only;split
    ·trivial
    ·exact JV s c h1 h2
def xG(s:ao):List Cx×Int:=if (iu s).2=0 then (if (jB (iu s).1).2=0 then JR (jB (iu s).1).1 else ([],(jB (iu s).1).2)) else ([],(iu s).2)
variable [bB]
def Oj(s:ao):aV p_ 18 [.str s] (Te (xG s)):=by
 refine (ZK _).aQ (by simp) (by simp only[aq,Aw.Pure,and_true];exact jt (jS _)) ?_;unfold Vo;obtain⟨hb1,hb2⟩:=Vb s;refine uCon (E7 s) ?_;unfold xG;obtain⟨T,hT⟩:∃T,iu s=T:=⟨_,rfl⟩;rw[hT]at hb1 hb2 ⊢;refine br rfl rfl (br rfl rfl (zzH ?_))
 by_cases h1:T.2=0
 ·rw[if_pos h1];refine zzK (by simp[h1]) ?_;have hcp:aV p_ 29 [xy T.1] (.aw [u6 (jB T.1).1,i_ (jB T.1).2]):=by
   unfold xy;split
   ·rename_i e;rw[e];exact aV.arg (BE []) (.cons (.nil 5) .nil) (by simp[aq,Aw.Pure])
   ·exact BE T.1
  refine uCon hcp ?_;have hB:gF (jB T.1).1:=Th _ fun t ht=>by have:=hb2 t ht;exact⟨this.1,by have:=this.2.1;omega,by have:=this.2.2;omega⟩
  have hZ:bP (jB T.1).1<2^30:=by
   have a:=Ti T.1;have b:=K3 T.1 hb2;have c:T.1.length*(1+2*48000)≤1500*(1+2*48000):=Nat.mul_le_mul_right _ hb1;omega
  obtain⟨Q,hQ⟩:∃Q,jB T.1=Q:=⟨_,rfl⟩;rw[hQ]at hB hZ ⊢;refine br rfl rfl (br rfl rfl (zzH ?_))
  by_cases h2:Q.2=0
  ·rw[if_pos h2];refine zzK (by simp[h2]) ?_;have hco:aV p_ 30 [u6 Q.1] (Te (JR Q.1)):=aV.arg (Oi Q.1 hZ hB) (.cons (Pj _) .nil) (by simp only[aq,and_true];exact DV _);refine uCon hco (br rfl rfl (br rfl rfl ?_));exact .pure (by simp only[aq,Aw.Pure,and_true];exact jt (jS _)) rfl
  ·rw[if_neg h2];refine zzL (by simp[h2]) ?_;exact .pure (by simp[aq,Aw.Pure]) rfl
 ·rw[if_neg h1];refine zzL (by simp[h1]) ?_;exact .pure (by simp[aq,Aw.Pure]) rfl
end
section
open Go Go.Aw Go.Qt Go.RowKit
open Go.bE hiding u1 ao
structure Df[Laid](t:bg)(s:Qt.ao)(r:List Bool):Prop where
 ex:∃l:List Cx,xG s=(l,0)∧aV p_ 33 [cV t,.sl 3 (eR l),i_ (-1)] (.aw [.sl 1 (dH r),i_ 0])
 len:r.length=t.length
variable [bB]
theorem DA{t:bg}(hs:eH t)(ba:cU t=true){s:Qt.ao}{r:List Bool}(q:Df t s r){i:Int}(h0:0≤i)(h1:i<t.length):aV p_ 25 [cV t,i_ i,.str s] (.aw [.sl 1 (dH r),i_ 0]):=by
 refine (ZQ _ _ _).aQ (by simp only[aq,Aw.Pure,and_true];exact dh t) (by simp only[aq,Aw.Pure,and_true];exact lp _) ?_;unfold Vu;obtain⟨l,hr,hc⟩:=q.ex;refine eE (h':=[tB t]) rfl rfl (db rfl (uCon (oW hs i) ?_));rw[DH ba h0 h1];refine zzB rfl (zzB rfl ?_);refine zzH (zzK rfl ?_);refine uCon (Oj s) ?_;rw[hr];refine zzB rfl (zzB rfl ?_);refine zzH (zzK rfl ?_);refine db rfl (uCon (aV.arg hc (.cons (.refl _) (.cons (tq (xa l)) (.cons (.refl _) .nil))) (by simp only[aq,Aw.Pure,and_true];exact⟨dh t,jt (jS l)⟩)) (zzB rfl (zzB rfl ?_)));exact .pure (by simp only[aq,Aw.Pure,and_true];exact lp _) rfl
def Dq(t:bg)(r:List Bool)(i:Int):List Int:=((jT t i).drop 1).filter fun k=>r.getD k.toNat false
theorem LI{t:bg}(hs:eH t)(ba:cU t=true){s:Qt.ao}{r:List Bool}(q:Df t s r){i:Int}(h0:0≤i)(h1:i<t.length):aV p_ 11 [cV t,i_ i,.str s] (.aw [gI (Dq t r i),i_ 0]):=by
 refine (ZF _ _ _).aQ (by simp only[aq,Aw.Pure,and_true];exact dh t) (by simp only[aq,Aw.Pure,and_true];exact tI _) ?_;unfold Vi;obtain⟨l1,l64⟩:=gD ba;refine eE (h':=[tB t]) rfl rfl (db rfl (uCon (DA hs ba q h0 h1) (zzB rfl (zzB rfl ?_))));refine zzH (zzK rfl ?_);refine db rfl (uCon (IX hs i) (zzB rfl (zzB rfl ?_)));have eo:jT t i=gq t t.length i:=by unfold jT;rw[if_pos (sY ba h0 h1)]
 have hlen:(jT t i).length≤t.length:=by rw[eo];exact Bb ba _ h0 h1
 have hmem:∀k∈jT t i,0≤k∧k<t.length:=fun k hk=>by rw[eo]at hk;exact (oh ba _ i h0 h1 k hk).1
 have hne:jT t i≠[]:=by
  rw[eo];obtain⟨n,hn⟩:∃n,t.length=n+1:=⟨t.length-1,by omega⟩;rw[hn,gq];simp
 have hpos:=List.length_pos_iff.2 hne;obtain⟨L,hL⟩:∃L,L=(jT t i).drop 1:=⟨_,rfl⟩;have hLm:∀k∈L,0≤k∧k<t.length:=fun k hk=>hmem k (List.mem_of_mem_drop (hL▸hk));have hLl:L.length≤64:=by rw[hL,List.length_drop];omega
 have hg:gI (jT t i)=.sl 1 (dI (jT t i)):=by unfold gI;rw[if_neg hne]
 rw[hg];refine Nj rfl (by simp only[dI,aac];omega) ?_;have hd:(dI (jT t i)).drop 1=dI L:=by rw[hL];simp[dI,List.map_drop]
 rw[hd];refine zzg (n:=L.length) (by simp[dI]) fun _=>?_;refine aG (α:=Nat×AV×aa) (fun p=>p.1≤L.length∧jE 3 1 p.2.1 p.2.2 (dI ((L.take p.1).filter fun k=>r.getD k.toNat false))∧gw [tB t] p.2.2) (fun p=>[p.2.1,i_ p.1]) (fun p=>p.2.2) (fun p=>L.length-p.1) (0,.v (.slice none 0 0),[tB t]) ⟨aao _,.inl ⟨rfl,rfl⟩,gw.refl _⟩ (Wk.refl _ _ _ (aS _)) ?_;rintro⟨k,x,H⟩ ⟨hk,hgr,hH⟩;simp only at hk hgr hH ⊢;refine zzC (aW rfl (fun z=>?_) fun z=>?_)
 ·have z:k<L.length:=by have:=uP z;omega
  obtain⟨c,hc⟩:∃c,L[k]?=some c:=⟨_,bY z⟩;obtain⟨c0,c1⟩:=hLm c (eQ hc);have htk:L.take (k+1)=L.take k++[c]:=by rw[DO,hc];rfl
  refine aK ?_;refine zzc (l:=L) (f:=fun c=>[i_ c]) rfl rfl hc (zzW ?_);refine zzc (n:=c.toNat) (l:=r) (f:=fun b=>[b_ b]) rfl (by rw[Int.toNat_of_nonneg c0]) (qj c0 (by rw[q.len];exact c1)) (zzW ?_);refine aW rfl (fun y=>?_) fun y=>?_
  ·have mk:∀{K:AV→Prop},K (.sl 1 [[i_ c]])→bz 1 1 (i_ 0) [(0,1,i_ c)] K:=fun q=>q;refine mk ?_;have hfl:=List.length_filter_le (fun k:Int=>r.getD k.toNat false) (L.take k);rw[aai]at hfl;refine mQ hgr rfl (by decide) (by simp only[dI,aac];omega) fun x' H' g' b' => ?_;refine⟨(by trivial),bQ rfl rfl (by unfold aZ;omega) ?_⟩;refine⟨(by trivial),(k+1,x',H'),⟨z, ?_,hH.trans b'⟩,Wk.refl _ _ _ (hH.trans b').1,by simp only;omega⟩;simp only;rw[htk,aaz,List.filter_cons,if_pos y];simpa[dI]using g'
  ·refine⟨(by trivial),bQ rfl rfl (by unfold aZ;omega) ?_⟩;refine⟨(by trivial),(k+1,x,H),⟨z, ?_,hH⟩,Wk.refl _ _ _ hH.1,by simp only;omega⟩;simp only;rw[htk,aaz,List.filter_cons,if_neg (by rw[y];decide)];simpa using hgr
 ·have z:¬k<L.length:=fun h=>by have:=At z;omega
  obtain rfl:k=L.length:=by omega
  rw[Gt]at hgr;refine cf.sq 1 ?_;show AV.aw [Aw.tl 0 H 1 x,i_ 0]=_;rw[Ak hgr,hL];rfl
end
end Go.Proofs.YtkfakehconamoaaGreatDoor
section
namespace Go.Qt
open Go Go.Aw
def sK(t:bg)(r:List Bool):Nat→Int→Int
 | 0,k=>k
 | n+1,k=>if decide (k<0)||r.getD k.toNat false then k else sK t r n (nd t k).par
end Go.Qt
namespace Go.Proofs.YtkfakehconamoaaGreatDoor
open Go Go.Aw Go.Qt Go.RowKit
open Go.bE hiding u1 ao
variable [bB]
theorem DE{t:bg}(hs:eH t)(ba:cU t=true){s:Qt.ao}{r:List Bool}(q:Df t s r){i:Int}(h0:0≤i)(h1:i<t.length):aV p_ 15 [cV t,i_ i,.str s] (.aw [i_ (sK t r t.length i),i_ 0]):=by
 refine (ZI _ _ _).aQ (by simp only[aq,Aw.Pure,and_true];exact dh t) (by simp[aq,Aw.Pure]) ?_;unfold Vm;refine eE (h':=[tB t]) rfl rfl ?_;have hr:=q.len;have b1:∀{k:Int},k<t.length→decide (k<0)=false→r[k.toNat]?=some (r.getD k.toNat false):=fun {k} hk z=>qj (by have:=At z;omega) (by omega);refine Ar (α:=Int×Nat) (fun p=>-1≤p.1∧p.1<t.length∧fy t p.2 p.1=true∧sK t r p.2 p.1=sK t r t.length i) (fun p=>[i_ p.1,.sl 1 (dH r)]) (fun _=>[tB t]) (fun p=>p.2) ?_ ?_
 ·refine db rfl (uCon (DA hs ba q h0 h1) (zzB rfl (zzB rfl ?_)));refine zzH (zzK rfl ?_);refine zzC (dJ (b2:=r.getD i.toNat false) rfl rfl (fun z F kF=>cO (n:=i.toNat) (l:=r) (f:=fun b=>[b_ b]) rfl rfl (by rw[Int.toNat_of_nonneg h0]) (b1 h1 z) (zzW ⟨rfl,kF⟩)) ?_);obtain⟨n,hn⟩:∃n,t.length=n+1:=⟨t.length-1,by have:=(gD ba).1;omega⟩;have hu:=NH ba h0 h1;rw[hn,fy,if_neg (by omega)]at hu;refine aW rfl (fun y=>?_) fun y=>?_
  ·refine .pure (by simp[aq,Aw.Pure]) ?_;rw[hn,sK,if_pos y]
  ·refine zzA (zzU rfl rfl (zzc (n:=i.toNat) (l:=t) (f:=Qt.bx) rfl (by rw[Int.toNat_of_nonneg h0]) (kA h0 h1) (zzX (zzW ?_))));have hp:=ri (lW ba) h0 h1;refine⟨rfl,((Qt.nd t i).par,n),⟨hp.1,hp.2,hu, ?_⟩,Wk.refl _ _ _ (aS _)⟩;simp only
   conv=>rhs;rw[hn,sK,if_neg (by rw[y];decide)]
 ·rintro⟨k,m⟩ ⟨k1,k2,hu,hc⟩;simp only at k1 k2 hu hc ⊢;refine zzC (dJ (b2:=r.getD k.toNat false) rfl (by trivial) (fun z F kF=>cO (n:=k.toNat) (l:=r) (f:=fun b=>[b_ b]) rfl rfl (by show i_ k=_;rw[Int.toNat_of_nonneg (by have:=At z;omega)]) (b1 k2 z) (zzW ⟨(by trivial),kF⟩)) ?_);refine aW rfl (fun y=>?_) fun y=>?_
  ·refine .pure (by simp[aq,Aw.Pure]) ?_;have:sK t r m k=k:=by
    cases m with
    | zero=>rfl
    | succ m=>rw[sK,if_pos y]
   rw[←hc,this];rfl
  ·have y1:0≤k:=by
    rw[aaS]at y;have:=At y.1;omega
   cases m with
   | zero=>rw[fy]at hu;have:=uP hu;omega
   | succ m =>
     rw[fy,if_neg (by omega)]at hu;rw[sK,if_neg (by rw[y];decide)]at hc;refine zzA (zzU rfl rfl (zzc (n:=k.toNat) (l:=t) (f:=Qt.bx) rfl (by show i_ k=_;rw[Int.toNat_of_nonneg y1]) (kA y1 k2) (zzX (zzW ?_))));have hp:=ri (lW ba) y1 k2;exact⟨(by trivial),((Qt.nd t k).par,m),⟨hp.1,hp.2,hu,hc⟩,Wk.refl _ _ _ (aS _),by simp only;omega⟩
end Go.Proofs.YtkfakehconamoaaGreatDoor
end
namespace Go.Proofs.YtkfakehconamoaaGreatDoor
section
open Go Go.Aw
variable [Laid]
def Vj(b d:AV)(h:aa)(K:AV→aa→Prop):Prop:=
 aU b fun e=>aU d fun f=>ag .neq e f fun g=>af g (K ff h) (bc [i_ 0] h fun i c a =>
 aU b fun j=>ag .lss (nx c 0) j fun k=>af k (au 1 b (nx c 0) fun l=>ae false 1 l a fun m=>au 1 d (nx c 0) fun n=>ae false 1 n a fun o=>ag .neq m o fun p=>af p (K ff a) (qBe .add (nx c 0) 1 fun q=>eC [b,d] (i [q] a))) (K tt a))
def ZG(a b:AV):Body p_ 12 [a,b] (Vj a b):=mkB Tryz.func12 (sn (sn (.seq (sn (.one (.loop [0,1] [5] (sn (.seq (.one (.seq (.draw 9 (oR 0 9 []) [] []) .nil)) .nil))))) .nil))) 26 [.tmp 4]
def W9(f d:AV)(h:aa)(K:AV→aa→Prop):Prop:=
 aB 24 f h fun b c=>ae true 1 b c fun g=>iC p_ 24 [g] c fun i a=>qBe .neq i 0 fun j=>af j (ae true 1 b a fun k=>iC p_ 24 [k] a fun l m=>K l m) (qBe .lss d 0 fun n=>qKo n a (fun o=>iFL 0 false 1 b a fun p=>aU p fun q=>ag .geq d q fun r=>o r a) fun s e=>af s (K (i_ 2) e) (K (i_ 0) e))
def V9(a b:AV):Body p_ 9 [a,b] (W9 a b):=mkB Tryz.func9 (sn (sn (.seq (.seq (.aO (oR 0 3 (.aA 2 false (fR 3 5) [] [12,17]::.op 8 false::[]))) .nil) .nil))) 19 [.tmp 4]
def Vh(a:AV)(h:aa)(K:AV→aa→Prop):Prop:=
 bc [i_ 0] h fun N b j =>
 cn a fun O=>ag .lss (nx b 0) O fun P=>af P (dW a (nx b 0) fun c=>ag .geq c (u8 97) fun Q=>qJa Q [a,nx b 0,c] j (fun R=>ag .leq c (u8 122) fun S=>R S j) fun T k=>bT T fun l=>aI (fun m=>aL l true (qBe .eql (nx b 0) 0 fun U=>eC [a,nx b 0,c] (m [tt,U] k)) (eC [a,nx b 0,c] (m [bO true l,un] k))) fun d n=>aI (fun o=>aL (nx d 1) false (ag .geq c (u8 48) fun V=>eC [a,nx b 0,c,nx d 0] (o [ff,V] n)) (eC [a,nx b 0,c,nx d 0] (o [(bO false (nx d 1)),un] n))) fun e p=>aI (fun q=>aL (nx e 1) true (ag .leq c (u8 57) fun W=>eC [a,nx b 0,c,nx d 0,nx e 0] (q [tt,W] p)) (eC [a,nx b 0,c,nx d 0,nx e 0] (q [(bO true (nx e 1)),un] p))) fun r s=>aI (fun t=>aL (nx e 0) false (bG (nx r 0) (nx r 1) ff fun X=>eC [a,nx b 0,c,nx d 0] (t [ff,X] s)) (eC [a,nx b 0,c,nx d 0] (t [(bO false (nx e 0)),un] s))) fun f u=>aI (fun v=>aL (nx f 1) false (ag .eql c (u8 45) fun Y=>eC [a,nx b 0,c,nx d 0,nx f 0] (v [ff,Y] u)) (eC [a,nx b 0,c,nx d 0,nx f 0] (v [(bO false (nx f 1)),un] u))) fun w x=>aI (fun y=>aL (nx f 0) false (bG (nx w 0) tt (nx w 1) fun Z=>eC [a,nx b 0,c,nx d 0] (y [ff,Z] x)) (eC [a,nx b 0,c,nx d 0] (y [(bO false (nx f 0)),un] x))) fun g z=>aI (fun A=>aL (nx g 1) false (ag .eql c (u8 95) fun a0=>eC [a,nx b 0,c,nx d 0,nx g 0] (A [ff,a0] z)) (eC [a,nx b 0,c,nx d 0,nx g 0] (A [(bO false (nx g 1)),un] z))) fun B C=>aI (fun D=>aL (nx g 0) false (bG (nx B 0) tt (nx B 1) fun a1=>eC [a,nx b 0,c,nx d 0] (D [ff,a1] C)) (eC [a,nx b 0,c,nx d 0] (D [(bO false (nx g 0)),un] C))) fun i E=>aI (fun F=>aL (nx i 1) false (ag .gtr c (u8 127) fun a2=>eC [a,nx b 0,nx d 0,nx i 0] (F [ff,a2] E)) (eC [a,nx b 0,nx d 0,nx i 0] (F [(bO false (nx i 1)),un] E))) fun G H=>aI (fun I=>aL (nx i 0) false (bG (nx G 0) tt (nx G 1) fun a3=>bT a3 fun a4=>eC [a,nx b 0,nx d 0] (I [ff,a4] H)) (eC [a,nx b 0,nx d 0] (I [(bO false (nx i 0)),un] H))) fun J L=>qJa (nx d 0) [a,nx b 0] L (fun a5=>bG (nx J 0) tt (nx J 1) fun a6=>a5 a6 L) fun a7 M=>af a7 (K ff M) (qBe .add (nx b 0) 1 fun a8=>eC [a] (N [a8] M))) (cn a fun a9=>qBe .geq a9 1 fun b0=>qKa b0 j (fun b1=>cn a fun b2=>qBe .leq b2 64 fun b3=>b1 b3 j) fun b4 b5=>K b4 b5)
def ZE(a:AV):Body p_ 10 [a] (Vh a):=mkB Tryz.func10 (sn (.seq (sn (.one (.loop [0] [3] (sn (.seq (.one (sn (.seq (.aO (oR 0 3 (.aA 2 true (fR 3 2) [0,3,4] [17,19]::oR 5 2 []))) (.seq (.aO (oR 0 3 (.aA 2 true (fR 3 3) [0,3,4] [23,26]::.aA 5 false (fR 6 3) [0,3,4,23] [26,29]::.aA 8 true (fR 9 2) [0,3,4,23,26] [29,31]::.aA 5 false (fR 11 2) [0,3,4,23] [26,33]::.aA 12 false (fR 13 2) [0,3,4,23,26] [33,35]::.aA 5 false (fR 15 2) [0,3,4,23] [26,37]::.aA 16 false (fR 17 2) [0,3,4,23,26] [37,39]::.aA 5 false (fR 19 2) [0,3,4,23] [26,41]::.aA 20 false (fR 21 2) [0,3,23,26] [41,43]::.aA 5 false (fR 23 2) [0,3,23] [26,45]::.aA 2 true [(25,false)] [0,3] [23,46]::.op 26 false::[]))) .nil)))) .nil))))) (.seq (.aO (oR 0 4 (.aA 3 true (fR 4 3) [] [51,54]::oR 7 2 []))) .nil))) 56 [.tmp 2]
def Vt(E:AV)(h:aa)(K:AV→aa→Prop):Prop:=
 aB 24 E h fun b p=>iFL 0 false 1 b p fun F=>aU F fun a=>qBe .lss a 1 fun G=>qJo G [b,a] p (fun H=>qBe .gtr a 64 fun I=>H I p) fun J n=>qJo J [b,a] n (fun L=>iFL 0 false 1 b n fun M=>au 4 M (i_ 0) fun N=>iFL 2 false 1 N n fun O=>qBe .neq O (-1) fun P=>L P n) fun Q v=>af Q (K (i_ 8) v) (bc [i_ 0] v fun R d o =>
 ag .lss (nx d 0) a fun S=>af S (iFL 0 false 1 b o fun T=>au 4 T (nx d 0) fun U=>ae true 4 U o fun V=>aB 38 (.agg [.str [],qNs,i_ 0,qNs]) o fun c W=>ah 4 c V W fun w=>iFL 0 false 1 c w fun X=>iC p_ 10 [X] w fun Y q=>bT Y fun Z=>qJo Z [b,a,nx d 0,c] q (fun a0=>iFL 1 false 1 c q fun a1=>iC p_ 41 [a1] q fun a2 a3=>bT a2 fun a4=>a0 a4 a3) fun a5 r=>qJo a5 [b,a,nx d 0,c] r (fun a6=>iFL 2 false 1 c r fun a7=>qBe .lss a7 (-1) fun a8=>a6 a8 r) fun a9 s=>qJo a9 [b,a,nx d 0,c] s (fun b0=>iFL 2 false 1 c s fun b1=>ag .geq b1 a fun b2=>b0 b2 s) fun b3 t=>qJo b3 [b,a,nx d 0,c] t (fun b4=>iFL 3 false 1 c t fun b5=>aU b5 fun b6=>ag .gtr b6 a fun b7=>b4 b7 t) fun b8 x=>af b8 (K (i_ 8) x) (bc [i_ 0] x fun b9 j e =>
 iFL 3 false 1 c e fun c0=>aU c0 fun c1=>ag .lss (nx j 0) c1 fun c2=>af c2 (iFL 3 false 1 c e fun c3=>au 1 c3 (nx j 0) fun c4=>ae false 1 c4 e fun c5=>qBe .lss c5 0 fun c6=>qJo c6 [b,a,nx d 0,c,nx j 0] e (fun c7=>iFL 3 false 1 c e fun c8=>au 1 c8 (nx j 0) fun c9=>ae false 1 c9 e fun d0=>ag .geq d0 a fun d1=>c7 d1 e) fun d2 y=>af d2 (K (i_ 8) y) (qBe .add (nx j 0) 1 fun d3=>eC [b,a,nx d 0,c] (b9 [d3] y))) (qBe .add (nx d 0) 1 fun d4=>eC [b,a] (R [d4] e)))) (bc [i_ 0] o fun d5 f z =>
 ag .lss (nx f 0) a fun d6=>af d6 (bc [i_ 0] z fun d7 i k =>
 ag .lss (nx i 0) a fun d8=>af d8 (aI (fun A=>iFL 0 false 1 b k fun d9=>au 4 d9 (nx i 0) fun e0=>iFL 2 false 1 e0 k fun e1=>ag .eql e1 (nx f 0) fun e2=>af e2 (eC [b,a,nx f 0,nx i 0] (A [i_ 1] k)) (eC [b,a,nx f 0,nx i 0] (A [i_ 0] k))) fun e3 u=>iFL 0 false 1 b u fun e4=>au 4 e4 (nx f 0) fun e5=>iFL 3 false 1 e5 u fun e6=>iC p_ 42 [e6,nx i 0] u fun e7 B=>ag .neq e7 (nx e3 0) fun e8=>af e8 (K (i_ 8) B) (qBe .add (nx i 0) 1 fun e9=>eC [b,a,nx f 0] (d7 [e9] B))) (qBe .add (nx f 0) 1 fun f0=>eC [b,a] (d5 [f0] k))) (bc [i_ 0] z fun f1 l C =>
 ag .lss (nx l 0) a fun f2=>af f2 (bc [nx l 0,i_ 0] C fun f3 g D =>
 ag .lss (nx g 1) a fun f4=>qJa f4 [b,a,nx l 0,nx g 0,nx g 1] D (fun f5=>qBe .geq (nx g 0) 0 fun f6=>f5 f6 D) fun f7 m=>af f7 (iFL 0 false 1 b m fun f8=>au 4 f8 (nx g 0) fun f9=>iFL 2 false 1 f9 m fun g0=>qBe .add (nx g 1) 1 fun g1=>eC [b,a,nx l 0] (f3 [g0,g1] m)) (qBe .geq (nx g 0) 0 fun g2=>af g2 (K (i_ 8) m) (qBe .add (nx l 0) 1 fun g3=>eC [b,a] (f1 [g3] m)))) (K (i_ 0) C))))
def ZP(a:AV):Body p_ 24 [a] (Vt a):=mkB Tryz.func24 (sn (sn (.seq (.seq (.aO (oR 0 3 (.aA 2 false (fR 3 2) [1,3] [18,20]::oR 5 2 (.aA 6 false (fR 7 6) [1,3] [22,28]::.op 13 false::[])))) .nil) (.seq (sn (.one (.loop [1,3] [4] (sn (.seq (.one (sn (.seq (.seq (.aO (oR 0 5 (.aA 4 false (fR 5 4) [1,3,4,5] [44,48]::oR 9 2 (.aA 10 false (fR 11 3) [1,3,4,5] [50,53]::oR 14 2 (.aA 15 false (fR 16 4) [1,3,4,5] [55,59]::oR 20 2 (.aA 21 false (fR 22 5) [1,3,4,5] [61,66]::.op 27 false::[])))))) .nil) (sn (.one (.loop [1,3,4,5] [6] (sn (.seq (.one (.seq (.aO (oR 0 7 (.aA 6 false (fR 7 7) [1,3,4,5,6] [81,88]::.op 14 false::[]))) .nil)) .nil)))))))) .nil))))) (.seq (sn (.one (.loop [1,3] [7] (sn (.seq (.one (sn (.one (.loop [1,3,7] [8] (sn (.seq (.one (sn (.join [1,3,7,8] [9] .nil .nil))) .nil)))))) .nil))))) (.seq (sn (.one (.loop [1,3] [10] (sn (.seq (.one (sn (.seq (sn (.one (.loop [1,3,10] [11,12] (.seq (.seq (.aO (oR 0 4 (.aA 3 true (fR 4 2) [1,3,10,11,12] [127,129]::.op 6 false::[]))) .nil) .nil)))) .nil))) .nil))))) .nil)))))) 141 [.tmp 2]
def VG(m:AV)(h:aa)(K:AV→aa→Prop):Prop:=
 aB 24 m h fun b n=>bc [i_ 0] n fun o c i =>
 iFL 0 false 1 b i fun p=>aU p fun q=>ag .lss (nx c 0) q fun r=>qJa r [b,nx c 0] i (fun s=>qBe .leq (nx c 0) 70 fun t=>s t i) fun u e=>af u (iFL 0 false 1 b e fun v=>au 4 v (nx c 0) fun w=>ae true 4 w e fun x=>aB 38 (.agg [.str [],qNs,i_ 0,qNs]) e fun a y=>ah 4 a x y fun g=>iFL 3 false 1 a g fun z=>aU z fun A=>qBe .gtr A 70 fun B=>qJo B [b,nx c 0,a] g (fun C=>iFL 1 false 1 a g fun D=>aU D fun E=>qBe .gtr E 20 fun F=>C F g) fun G j=>qJo G [b,nx c 0,a] j (fun H=>iFL 0 false 1 a j fun I=>cn I fun J=>qBe .gtr J 500 fun L=>H L j) fun M k=>af M (K tt k) (bc [i_ 0] k fun N f d =>
 iFL 1 false 1 a d fun O=>aU O fun P=>ag .lss (nx f 0) P fun Q=>af Q (iFL 1 false 1 a d fun R=>au 2 R (nx f 0) fun S=>iFL 0 false 1 S d fun T=>cn T fun U=>qBe .gtr U 500 fun V=>qJo V [b,nx c 0,a,nx f 0] d (fun W=>iFL 1 false 1 a d fun X=>au 2 X (nx f 0) fun Y=>iFL 1 false 1 Y d fun Z=>cn Z fun a0=>qBe .gtr a0 500 fun a1=>W a1 d) fun a2 l=>af a2 (K tt l) (qBe .add (nx f 0) 1 fun a3=>eC [b,nx c 0,a] (N [a3] l))) (qBe .add (nx c 0) 1 fun a4=>eC [b] (o [a4] d)))) (iFL 0 false 1 b e fun a5=>aU a5 fun a6=>qBe .gtr a6 70 fun a7=>K a7 e)
def Z2(a:AV):Body p_ 37 [a] (VG a):=mkB Tryz.func37 (sn (.seq (sn (.one (.loop [1] [3] (.seq (.seq (.aO (oR 0 6 (.aA 5 true (fR 6 2) [1,3] [11,13]::.op 8 false::[]))) .nil) (.seq (.one (sn (.seq (.seq (.aO (oR 0 5 (.aA 4 false (fR 5 4) [1,3,4] [26,30]::oR 9 2 (.aA 10 false (fR 11 4) [1,3,4] [32,36]::.op 15 false::[])))) .nil) (sn (.one (.loop [1,3,4] [5] (sn (.seq (.one (.seq (.aO (oR 0 9 (.aA 8 false (fR 9 8) [1,3,4,5] [53,61]::.op 17 false::[]))) .nil)) .nil)))))))) .nil))))) .nil)) 67 [.tmp 2]
def VJ(c:AV)(h:aa)(K:AV→aa→Prop):Prop:=
 aU c fun y=>qBe .gtr y 16 fun z=>af z (K ff h) (bc [i_ 0] h fun A b a =>
 aU c fun B=>ag .lss (nx b 0) B fun C=>af C (au 2 c (nx b 0) fun D=>iFL 0 false 1 D a fun E=>iQ p_ 10 [E] a fun F=>bT F fun e=>aI (fun f=>aL e false (au 2 c (nx b 0) fun g=>aN 1 g fun i=>ae false 1 i a fun j=>iT j fun k=>qBe .gtr k 400 fun G=>f [c,nx b 0,g,i,j,k,G] a) (f [un,un,un,un,un,un,un] a)) fun H _=>bG e tt (nx H 6) fun d=>aI (fun l=>aL d false (qBe .gtr (nx b 0) 0 fun m=>l [nx b 0,m,m] a) (l [un,un,un] a)) fun n _=>aI (fun o=>aL (nx n 2) true (qBe .sub (nx b 0) 1 fun p=>au 2 c p fun q=>aN 0 q fun r=>ae false 1 r a fun s=>au 2 c (nx b 0) fun t=>aN 0 t fun u=>ae false 1 u a fun v=>ag .lss s v fun w=>bT w fun I=>o [c,nx b 0,p,q,r,s,c,nx b 0,t,u,v,w,I] a) (o [un,un,un,un,un,un,un,un,un,un,un,un,un] a)) fun J _=>aI (fun x=>aL d false (bG (nx n 2) (nx J 12) ff fun L=>x [L] a) (x [un] a)) fun M _=>bG d tt (nx M 0) fun N=>af N (K ff a) (qBe .add (nx b 0) 1 fun O=>eC [c] (A [O] a))) (K tt a))
def Z5(a:AV):Body p_ 41 [a] (VJ a):=mkB Tryz.func41 (sn (sn (.seq (sn (.one (.loop [0] [3] (sn (.seq (.one (.seq (.draw 35 (oR 0 8 (.aA 7 false (fR 8 7) [] [21,22,23,24,25,26,27]::oR 15 2 (.aA 16 false (fR 17 3) [] [30,31,32]::.aA 19 true (fR 20 13) [] [33,34,35,36,37,38,39,40,41,42,43,44,45]::.aA 16 false [(33,false)] [] [46]::.op 34 false::[]))) [] []) .nil)) .nil))))) .nil))) 48 [.tmp 2]
def VK(b d:AV)(h:aa)(K:AV→aa→Prop):Prop:=
 bc [i_ 0,i_ 0] h fun f a c =>
 aU b fun g=>ag .lss (nx a 1) g fun i=>af i (aI (fun e=>au 1 b (nx a 1) fun j=>ae false 1 j c fun k=>ag .eql k d fun l=>af l (qBe .add (nx a 0) 1 fun m=>eC [b,d,nx a 1] (e [m] c)) (eC [b,d,nx a 1] (e [nx a 0] c))) fun n o=>qBe .add (nx a 1) 1 fun p=>eC [b,d] (f [nx n 0,p] o)) (K (nx a 0) c)
def Z6(a b:AV):Body p_ 42 [a,b] (VK a b):=mkB Tryz.func42 (sn (sn (.seq (sn (.one (.loop [0,1] [5,6] (sn (.join [0,1,6] [5] .nil .nil))))) .nil))) 22 [.tmp 4]
def Vv(f d e:AV)(h:aa)(K:AV→aa→Prop):Prop:=
 aB 24 f h fun c g=>bc [i_ 0] g fun i b a =>
 iFL 0 false 1 c a fun j=>au 4 j d fun k=>iFL 1 false 1 k a fun l=>aU l fun m=>ag .lss (nx b 0) m fun n=>af n (iFL 0 false 1 c a fun o=>au 4 o d fun p=>iFL 1 false 1 p a fun q=>au 2 q (nx b 0) fun r=>iFL 0 false 1 r a fun s=>ag .eql s e fun t=>af t (K (nx b 0) a) (qBe .add (nx b 0) 1 fun u=>eC [d,e,c] (i [u] a))) (K (i_ (-1)) a)
def ZR(a b c:AV):Body p_ 26 [a,b,c] (Vv a b c):=mkB Tryz.func26 (sn (.seq (sn (.one (.loop [1,2,3] [7] .nil))) .nil)) 32 [.tmp 6]
def Vk(d c:AV)(h:aa)(K:AV→aa→Prop):Prop:=
 aB 24 d h fun b a=>iFL 0 false 1 b a fun e=>au 4 e c fun f=>iFL 0 false 1 f a fun g=>ag .eql g (.str [97]) fun i=>qKa i a (fun j=>ae true 1 b a fun k=>iC p_ 26 [k,c,.str [104,114,101,102]] a fun l m=>qBe .geq l 0 fun n=>j n m) fun o p=>K o p
def ZH(a b:AV):Body p_ 13 [a,b] (Vk a b):=mkB Tryz.func13 (sn (.seq (.aO (oR 0 8 (.aA 7 true (fR 8 4) [] [12,16]::oR 12 2 []))) .nil)) 18 [.tmp 4]
def Vs(p a:AV)(h:aa)(K:AV→aa→Prop):Prop:=
 aB 24 p h fun b f=>ae true 1 b f fun q=>iC p_ 37 [q] f fun g d=>aI (fun i=>aL g false (iFL 0 false 1 b d fun r=>aU r fun s=>qBe .gtr s 20 fun t=>eC [a,b] (i [ff,t] d)) (eC [a,b] (i [bO false g,un] d))) fun c e=>aI (fun j=>aL (nx c 1) true (ae true 1 b e fun u=>iC p_ 24 [u] e fun v w=>qBe .eql v 0 fun x=>eC [a,nx c 0] (j [tt,x] w)) (eC [a,nx c 0] (j [(bO true (nx c 1)),un] e))) fun k l=>qJo (nx c 0) [a] l (fun y=>bG (nx k 0) (nx k 1) ff fun z=>y z l) fun A m=>qJo A [a] m (fun B=>iC p_ 38 [a] m B) fun C n=>af C (K tt n) (iC p_ 39 [a] n fun D o=>qBe .eql D 0 fun E=>qKa E o (fun F=>iC p_ 40 [a,i_ 150] o fun G H=>qBe .gtr G 150 fun I=>F I H) fun J L=>K J L)
def ZO(a b:AV):Body p_ 23 [a,b] (Vs a b):=mkB Tryz.func23 (sn (.seq (.seq (.aO (oR 0 3 (.aA 2 false (fR 3 5) [1,2] [7,12]::.aA 7 true (fR 8 3) [1,7] [12,15]::.aA 2 false [(11,false)] [1] [7,16]::oR 12 2 (.aA 13 false (fR 14 2) [1] [18,20]::.op 16 false::[])))) .nil) (.seq (.aO (oR 0 4 (.aA 3 true (fR 4 3) [] [25,28]::oR 7 2 []))) .nil))) 30 [.tmp 4]
def W8(k a:AV)(h:aa)(K:AV→aa→Prop):Prop:=
 aB 24 k h fun b c=>cn a fun l=>qBe .gtr l 400 fun m=>qJa m [a,b] c (fun n=>cn a fun o=>qBe .leq o 4000 fun p=>n p c) fun q d=>qJo q [a,b] d (fun r=>cn a fun s=>qBe .gtr s 4100 fun t=>r t d) fun u e=>af u (K tt e) (iC p_ 22 [a] e fun f g=>ay 0 f fun v=>ay 1 f fun w=>aI (fun i=>qBe .neq w 0 fun x=>af x (eC [b] (i [qNs] g)) (eC [b] (i [v] g))) fun y j=>ae true 1 b j fun z=>iC p_ 23 [z,nx y 0] j fun A B=>K A B)
def V8(a b:AV):Body p_ 8 [a,b] (W8 a b):=mkB Tryz.func8 (sn (.seq (.seq (.aO (oR 0 4 (.aA 3 true (fR 4 3) [1,2] [10,13]::oR 7 2 (.aA 8 false (fR 9 3) [1,2] [15,18]::.op 12 false::[])))) .nil) (sn (.join [2] [5] .nil .nil)))) 30 [.tmp 4]
end
end Go.Proofs.YtkfakehconamoaaGreatDoor
section
namespace Go.Qt
open Go Go.Aw
def GA(c:UInt8):Bool:=decide ((97:Int)≤c.toNat)&&decide ((c.toNat:Int)≤122)
def Ns(c:UInt8):Bool:=(((decide ((48:Int)≤c.toNat)&&decide ((c.toNat:Int)≤57))||decide ((c.toNat:Int)=45))||decide ((c.toNat:Int)=95))||decide ((127:Int)<c.toNat)
def rB(k:Nat)(c:UInt8):Bool:=GA c||(!decide ((k:Int)=0)&&Ns c)
def om(s:ao)(k:Nat):Bool:=(List.range k).all fun i=>rB i (s.getD i 0)
theorem Kt(c:UInt8):cx c=(GA c||Ns c):=by
 unfold cx GA Ns;rw[show decide ((128:Int)≤c.toNat)=decide ((127:Int)<c.toNat) by rw[Bool.eq_iff_iff];simp;omega];simp only[Bool.or_assoc]
theorem S8(s:ao):fK s=(decide (1≤s.length)&&decide (s.length≤64)&&om s s.length):=by
 unfold fK
 by_cases h1:1≤s.length
 ·rw[tO h1,Bool.true_and,Bool.and_assoc]
  congr 1
  rw[Bool.eq_iff_iff,On,AT];unfold om;rw[AT];have hd:Jn s=GA (s.getD 0 0):=rfl;rw[hd];constructor
  ·rintro⟨h2,h3⟩ i hi;have hi:=ID.1 hi;have hm:s.getD i 0∈s:=by rw[nO,bY hi];exact aaw hi
   have:=h3 _ hm;rw[Kt]at this;unfold rB
   by_cases e:i=0
   ·subst e;rw[h2];rfl
   ·rw[oF (by omega)];simpa using this
  ·intro h;have h0:=h 0 (ID.2 h1);unfold rB at h0;refine⟨by simpa using h0,fun c hc=>?_⟩;obtain⟨i,hi⟩:=List.getElem?_of_mem hc;have hl:=(dO.1 hi).1;have:=h i (ID.2 hl);rw[nO,hi]at this;unfold rB at this;rw[Kt];simp only[Option.getD_some]at this;cases hlt:GA c with
   | true=>rfl
   | false=>rw[hlt]at this;simp only[Bool.false_or,On]at this;rw[this.2];rfl
 ·rw[oF h1];rfl
theorem Kf(s:ao)(k:Nat):om s (k+1)=(om s k&&rB k (s.getD k 0)):=by simp[om,List.range_succ]
theorem MH{s:ao}{k:Nat}(hk:k<s.length)(h:rB k (s.getD k 0)=false):om s s.length=false:=by
 rw[om,List.all_eq_false];exact⟨k,ID.2 hk,by rw[h];decide⟩
end Go.Qt
namespace Go.Proofs.YtkfakehconamoaaGreatDoor
open Go Go.Aw Go.Qt Go.RowKit
variable [Laid]
theorem sM(s:Qt.ao):aV p_ 10 [.str s] (b_ (fK s)):=by
 refine (ZE _).aQ (by simp) (by simp) ?_;unfold Vh;rw[S8];refine aG (α:=Nat) (fun k=>k≤s.length∧om s k=true) (fun k=>[i_ k]) (fun _=>[]) (fun k=>s.length-k) 0 ⟨aao _,rfl⟩ (Wk.refl _ _ _ (aS _)) ?_;rintro k ⟨hk,ha⟩;refine zzZ fun hmx=>bZ rfl rfl (aW rfl (fun q=>?_) fun q=>?_)
 ·have q:k<s.length:=by have:=uP q;omega
  obtain⟨c,hc⟩:∃c,s[k]?=some c:=⟨_,bY q⟩;have hg:s.getD k 0=c:=by rw[nO,hc];rfl
  refine qx rfl rfl hc ?_;have hbad:rB k c=false→cf (b_ ((decide (1≤s.length)&&decide (s.length≤64))&&om s s.length)) ff []:=fun h=>.pure (by simp) (by rw[MH q (by rw[hg];exact h),Bool.and_false]);have hgood:rB k c=true→aZ ((k:Int)+1)∧True:=fun _=>⟨by unfold aZ maxLen at *;omega,(by trivial)⟩;have fin:∀{W:aa→Prop} {v:Bool},v=!rB k c→(rB k c=true→W [])→af (b_ v) (cf (b_ ((decide (1≤s.length)&&decide (s.length≤64))&&om s s.length)) ff []) (W []):=fun {W v} e hW=>by
   subst e;cases h:rB k c with
   | true=>exact zzK rfl (hW h)
   | false=>exact zzL rfl (hbad h)
  obtain⟨b1,e1⟩:∃b,decide ((97:Int)≤c.toNat)=b:=⟨_,rfl⟩;obtain⟨b2,e2⟩:∃b,decide ((c.toNat:Int)≤122)=b:=⟨_,rfl⟩;obtain⟨b3,e3⟩:∃b,decide ((k:Int)=0)=b:=⟨_,rfl⟩;obtain⟨b4,e4⟩:∃b,decide ((48:Int)≤c.toNat)=b:=⟨_,rfl⟩;obtain⟨b5,e5⟩:∃b,decide ((c.toNat:Int)≤57)=b:=⟨_,rfl⟩;obtain⟨b6,e6⟩:∃b,decide ((c.toNat:Int)=45)=b:=⟨_,rfl⟩;obtain⟨b7,e7⟩:∃b,decide ((c.toNat:Int)=95)=b:=⟨_,rfl⟩;obtain⟨b8,e8⟩:∃b,decide ((127:Int)<c.toNat)=b:=⟨_,rfl⟩;have er:rB k c=((b1&&b2)||(!b3&&((((b4&&b5)||b6)||b7)||b8))):=by unfold rB GA Ns;rw[e1,e2,e3,e4,e5,e6,e7,e8]
  refine mc b1 rfl rfl e1 (jR (b2:=b2) rfl rfl (fun _ F kF=>me b2 rfl rfl e2 ⟨rfl,kF⟩) ?_);obtain⟨l,el⟩:∃l,(b1&&b2)=l:=⟨_,rfl⟩;rw[el]at er ⊢;refine zzO ?_;have go:∀{v:Bool},v=!rB k c→af (b_ v) (cf (b_ ((decide (1≤s.length)&&decide (s.length≤64))&&om s s.length)) ff []) (ag .add (i_ k) (i_ 1) fun v60=>[AV.str s]=[AV.str s]∧∃y,(y≤s.length∧om s y=true)∧Wk ([]:aa).length [v60] [] [i_ y] []∧s.length-y<s.length-k):=fun {v} e=>fin (W:=fun _=>ag .add (i_ k) (i_ 1) fun v60=>[AV.str s]=[AV.str s]∧∃y,(y≤s.length∧om s y=true)∧Wk ([]:aa).length [v60] [] [i_ y] []∧s.length-y<s.length-k) e fun h =>
   zzP (hgood h).1 ⟨rfl,k+1,⟨q,by rw[Kf,ha,hg,h,Bool.and_true]⟩,Wk.refl _ _ _ (aS _),by omega⟩
  cases l with
  | true =>
    refine aK (zzM rfl ⟨rfl, ?_⟩);refine aK (cX rfl ⟨rfl, ?_⟩);repeat' (first|(refine aK (cX rfl ⟨rfl, ?_⟩))|(refine aK (zzM rfl ⟨rfl, ?_⟩))|(refine zzQ ?_)|(fail))
    exact go (by rw[er];rfl)
  | false =>
    refine aK (zzN rfl (lu b3 rfl rfl e3 ⟨rfl, ?_⟩));cases b3 with
    | true =>
      repeat' (first|(refine aK (cX rfl ⟨rfl, ?_⟩))|(refine aK (zzM rfl ⟨rfl, ?_⟩))|(refine aK (zzN rfl ?_))|(refine zzR ?_)|(refine⟨rfl, ?_⟩)|(fail))
      exact go (by rw[er];rfl)
    | false =>
      refine aK (zzN rfl (mc b4 rfl rfl e4 ⟨rfl, ?_⟩));cases b4<;>cases b5<;>cases b6<;>cases b7<;>cases b8;all_goals
       repeat' (first|(refine aK (zzM rfl ⟨rfl, ?_⟩))|(refine aK (zzN rfl (me _ rfl rfl e5 ⟨rfl, ?_⟩)))|(refine aK (zzN rfl (lu _ rfl rfl e6 ⟨rfl, ?_⟩)))|(refine aK (zzN rfl (lu _ rfl rfl e7 ⟨rfl, ?_⟩)))|(refine aK (zzN rfl (nH _ rfl rfl e8 ⟨rfl, ?_⟩)))|(refine aK (zzN rfl ?_))|(refine zzQ ?_)|(refine zzR ?_)|(refine zzO ?_)|(refine⟨rfl, ?_⟩)|(fail))
       exact go (by rw[er];rfl)
 ·have q:¬k<s.length:=fun h=>by have:=At q;omega
  obtain rfl:k=s.length:=by omega
  refine zzZ fun _=>fk rfl rfl ?_;refine ph (b2:=decide ((s.length:Int)≤64)) rfl (fun _ F kF=>gR rfl fun _=>kv rfl rfl kF) (.pure (by simp) ?_);rw[ha,Bool.and_true,show decide ((1:Int)≤s.length)=decide (1≤s.length) from decide_eq_decide.2 (by omega),show decide ((s.length:Int)≤64)=decide (s.length≤64) from decide_eq_decide.2 (by omega)]
end Go.Proofs.YtkfakehconamoaaGreatDoor
end
section
namespace Go.Aw
open Go
theorem SI{x y:AV}{a b:List UInt8}{K:AV→Prop}(ex:x=.str a)(ey:y=.str b)(q:K (b_ (Op.bytesLess a b))):ag .lss x y K:=by subst ex;subst ey;simpa using q
end Go.Aw
namespace Go.Qt
open Go Go.Aw
theorem Ll{l:List (ao×ao)}{k:Nat}(hk:k<l.length)(h:vY l k=false):gH l=false:=by
 unfold gH;rw[show (List.range l.length).all (vY l)=false by rw[List.all_eq_false];exact⟨k,ID.2 hk,by rw[h];decide⟩];rfl
def Sb(a:ao×ao):Bool:=decide ((500:Int)<a.1.length)||decide ((500:Int)<a.2.length)
def xQ(n:Nd):Bool:=((decide ((70:Int)<n.ch.length)||decide ((20:Int)<n.dZ.length))||decide ((500:Int)<n.tag.length))||n.dZ.any Sb
def zZ(t:bg):Bool:=(t.take 71).any xQ||decide ((70:Int)<t.length)
theorem Dl{α:Type}{p:α→Bool}{l:List α}{k:Nat}{x:α}(h:l[k]?=some x):(l.take (k+1)).any p=((l.take k).any p||p x):=by rw[DO,h,List.any_append];simp
theorem IJ{α:Type}{p:α→Bool}{l:List α}{k:Nat}{x:α}(h:l[k]?=some x)(hp:p x=true):l.any p=true:=List.any_eq_true.2 ⟨x,eQ h,hp⟩
end Go.Qt
namespace Go.Proofs.YtkfakehconamoaaGreatDoor
open Go Go.Aw Go.Qt Go.RowKit
variable [Laid]
theorem HC(l:List (Qt.ao×Qt.ao)):aV p_ 41 [.sl 2 (l.map eO)] (b_ (gH l)):=by
 refine (Z5 _).aQ (by simp only[aq,Aw.Pure,and_true];exact eJ xf _) (by simp) ?_;unfold VJ;have ln:∀{K:AV→Prop},K (i_ l.length)→aU (.sl 2 (l.map eO)) K:=fun k=>cr (n:=l.length) rfl (by simp) fun _=>k;refine ln (zzE (aW rfl (fun z=>?_) fun z=>?_))
 ·have z:(16:Int)<l.length:=uP z;refine .pure (by simp) ?_;unfold gH;rw[oF (show ¬l.length≤16 by omega),Bool.and_false]
 have z:l.length≤16:=by have:=At z;omega
 refine aG (α:=Nat) (fun k=>k≤l.length∧(List.range k).all (vY l)=true) (fun k=>[i_ k]) (fun _=>[]) (fun k=>l.length-k) 0 ⟨aao _,rfl⟩ (Wk.refl _ _ _ (aS _)) ?_;rintro k ⟨hk,ha⟩;refine ln (zzC (aW rfl (fun q=>?_) fun q=>?_))
 ·have q:k<l.length:=by have:=uP q;omega
  obtain⟨a,hak⟩:∃a,l[k]?=some a:=⟨_,bY q⟩;have hd:l.getD k ([],[])=a:=by rw[nO,hak];rfl
  have ld0:∀{K:AV→Prop},K (.str a.1)→au 2 (.sl 2 (l.map eO)) (i_ k) fun v8=>aN 0 v8 fun v9=>ae false 1 v9 [] K:=fun k=>cO (l:=l) (f:=eO) rfl rfl rfl hak (zzX (zzW k));refine ld0 (zzT (by kernel_rfl) (sM a.1) (zzO ?_));refine CT (b2:=decide ((400:Int)<a.2.length)) rfl (fun _ F kF=>cO (l:=l) (f:=eO) rfl rfl rfl hak (zzX (zzW (Gp rfl (zzE (kF _ rfl)))))) ?_;refine Nv (p:=decide ((0:Int)<k)) (q:=!Op.bytesLess (l.getD (k-1) ([],[])).1 a.1) rfl rfl (fun _ F kF=>cS rfl rfl (kF _ rfl)) (fun hp _ s F kF=>?_) ?_
  ·have hp:0<k:=by have:=uP hp;omega
   refine zzf (by unfold aZ;omega) ?_;have hk1:l[k-1]?=some (l.getD (k-1) ([],[])):=by rw[nO,bY (by omega)];rfl
   refine zzc (n:=k-1) (l:=l) (f:=eO) rfl (by show i_ ((k:Int)-1)=i_ ((k-1:Nat):Int);congr 1;omega) hk1 (zzX (zzW ?_));refine ld0 ?_;exact SI rfl rfl (zzO (kF _ rfl))
  have eo:vY l k=!((!fK a.1||decide ((400:Int)<a.2.length))||(decide ((0:Int)<k)&&!Op.bytesLess (l.getD (k-1) ([],[])).1 a.1)):=by
   unfold vY;rw[hd,show decide ((400:Int)<a.2.length)=!decide (a.2.length≤400) by rw[Bool.eq_iff_iff];simp;omega,show decide ((0:Int)<k)=!decide (k=0) by rw[Bool.eq_iff_iff];simp;omega];cases fK a.1<;>cases decide (a.2.length≤400)<;>cases decide (k=0)<;>cases Op.bytesLess (l.getD (k-1) ([],[])).1 a.1<;>rfl
  refine aW rfl (fun y=>.pure (by simp) ?_) fun y=>?_
  ·rw[Ll q (by rw[eo,y];rfl)]
  ·refine zzP (by unfold aZ;omega) ?_;exact⟨rfl,k+1,⟨q,by rw[List.range_succ,List.all_append,ha,Bool.true_and,aaC,List.all_nil,Bool.and_true,eo,y];rfl⟩,Wk.refl _ _ _ (aS _),by omega⟩
 ·have q:¬k<l.length:=fun h=>by have:=At q;omega
  obtain rfl:k=l.length:=by omega
  refine .pure (by simp) ?_;unfold gH;rw[ha,tO z];rfl
theorem I6(l:List Int)(x:Int)(hl:l.length<2^40):aV p_ 42 [.sl 1 (dI l),i_ x] (i_ (l.count x:Nat)):=by
 refine (Z6 _ _).aQ (by simp only[aq,Aw.Pure,and_true];exact eJ (fun c=>by simp[aq,Aw.Pure]) _) (by simp) ?_;unfold VK;refine aG (α:=Nat) (fun k=>k≤l.length) (fun k=>[i_ ((l.take k).count x:Nat),i_ k]) (fun _=>[]) (fun k=>l.length-k) 0 (aao _) (Wk.refl _ _ _ (aS _)) ?_;rintro k hk;refine zzg (n:=l.length) (by simp[dI]) fun _=>bZ rfl rfl (aW rfl (fun q=>?_) fun q=>?_)
 ·have q:k<l.length:=by have:=uP q;omega
  obtain⟨c,hc⟩:∃c,l[k]?=some c:=⟨_,bY q⟩;have hcl:=List.count_le_length (a:=x) (l:=l.take k);rw[aai]at hcl;have e:(l.take (k+1)).count x=(l.take k).count x+if c=x then 1 else 0:=by
   rw[DO,hc,List.count_append];simp[List.count_singleton]
  refine aK ?_;refine zzc (l:=l) (f:=fun c=>[i_ c]) rfl rfl hc (zzW ?_);refine zzG (aW rfl (fun z=>?_) fun z=>?_)
  ·have z:=uP z;rw[if_pos z]at e;refine zzP (by unfold aZ;omega) ⟨rfl,bQ rfl rfl (by unfold aZ;omega) ?_⟩;exact⟨rfl,k+1,q,by simp only[e];exact Wk.refl _ _ _ (aS _),by omega⟩
  ·have z:=At z;rw[if_neg z]at e;refine⟨rfl,bQ rfl rfl (by unfold aZ;omega) ?_⟩;exact⟨rfl,k+1,q,by simp only[e];exact Wk.refl _ _ _ (aS _),by omega⟩
 ·have q:¬k<l.length:=fun h=>by have:=At q;omega
  obtain rfl:k=l.length:=by omega
  exact .pure (by simp) (by rw[Gt];rfl)
theorem BJ(a b:List Int)(ha:a.length<2^40)(hb:b.length<2^40):aV p_ 12 [.sl 1 (dI a),.sl 1 (dI b)] (b_ (decide (a=b))):=by
 refine (ZG _ _).aQ (by simp only[aq,Aw.Pure,and_true];exact⟨zu a,zu b⟩) (by simp) ?_;unfold Vj;have ln:∀(l:List Int) {K:AV→Prop},K (i_ l.length)→aU (.sl 1 (dI l)) K:=fun l {K} k=>cr (n:=l.length) rfl (by simp[dI]) fun _=>k;refine ln a (ln b (zzH (aW rfl (fun z=>?_) fun z=>?_)))
 ·have z:¬(a.length:Int)=b.length:=by simpa using z
  exact .pure (by simp) (by rw[oF (fun e=>z (by rw[e]))])
 have z:a.length=b.length:=by
  have:(a.length:Int)=b.length:=by simpa using z
  omega
 refine aG (α:=Nat) (fun k=>k≤a.length∧a.take k=b.take k) (fun k=>[i_ k]) (fun _=>[]) (fun k=>a.length-k) 0 ⟨aao _,rfl⟩ (Wk.refl _ _ _ (aS _)) ?_;rintro k ⟨hk,hab⟩;refine ln a (zzC (aW rfl (fun q=>?_) fun q=>?_))
 ·have q:k<a.length:=by have:=uP q;omega
  obtain⟨c,hc⟩:∃c,a[k]?=some c:=⟨_,bY q⟩;obtain⟨d,hd⟩:∃c,b[k]?=some c:=⟨_,bY (by omega)⟩;refine zzc (l:=a) (f:=fun c=>[i_ c]) rfl rfl hc (zzW ?_);refine zzc (l:=b) (f:=fun c=>[i_ c]) rfl rfl hd (zzW ?_);refine zzH (aW rfl (fun y=>?_) fun y=>?_)
  ·have y:¬c=d:=by simpa using y
   exact .pure (by simp) (by rw[oF (fun e=>y (by rw[e,hd]at hc;exact (GO hc).symm))])
  ·have y:c=d:=by simpa using y
   refine zzP (by unfold aZ;omega) ?_;exact⟨rfl,k+1,⟨q,by rw[DO,DO,hab,hc,hd,y]⟩,Wk.refl _ _ _ (aS _),by omega⟩
 ·have q:¬k<a.length:=fun h=>by have:=At q;omega
  obtain rfl:k=a.length:=by omega
  rw[Gt,z,Gt]at hab;exact .pure (by simp) (by rw[tO hab])
end Go.Proofs.YtkfakehconamoaaGreatDoor
end
section
namespace Go.Qt
open Go Go.Aw
def rN(t:bg)(n:Nd):Bool:=((((fK n.tag&&gH n.dZ)&&!decide (n.par < -1))&&!decide ((t.length:Int)≤n.par))&&!decide ((t.length:Int)<n.ch.length))&&n.ch.all (iE t)
def xJ(t:bg)(i k:Nat):Bool:=decide ((((nd t i).ch.count (k:Int):Nat):Int)=if (nd t k).par=i then 1 else 0)
def zo(t:bg):Bool:=(decide (1≤t.length)&&decide (t.length≤64)&&decide ((nd t 0).par=-1))&&(t.all (rN t)&&((List.range t.length).all (fun i=>(List.range t.length).all (xJ t i))&&(List.range t.length).all fun i=>fy t t.length i))
theorem L8{l:List Int}{j:Nat}(h:j<l.length):l.getD j 0∈l:=by rw[nO,bY h];exact aaw h
theorem Tf{t:bg}(h:zo t=true):cU t=true:=by
 unfold zo at h;simp only[On,OF]at h;obtain⟨⟨⟨h1,h2⟩,h3⟩,h4,h5,h6⟩:=h;have hn:∀i,i<t.length→rN t (nd t i)=true:=fun i hi=>AT.1 h4 _ (eQ (pn hi));have hc:∀i k,i<t.length→k<t.length→(nd t i).ch.count (k:Int)=if (nd t k).par=i then 1 else 0:=fun i k hi hk=>by
  have:=AT.1 (AT.1 h5 i (ID.2 hi)) k (ID.2 hk);unfold xJ at this;have:=uP this;split at this<;>rename_i q<;>simp only[q,if_true,if_false]<;>omega
 unfold cU;simp only[On,OF];refine⟨⟨⟨h1,h2⟩,AT.2 fun i hi=>?_⟩,h6⟩;have hi:=ID.1 hi;have hr:=hn i hi;unfold rN at hr;simp only[On,aaI,decide_eq_false_iff_not]at hr;obtain⟨⟨⟨⟨⟨r1,r2⟩,r3⟩,r4⟩,r5⟩,r6⟩:=hr;unfold rf vS xc;simp only[On,aaH,OF,aaI,decide_eq_false_iff_not];refine⟨⟨r1,r2⟩,⟨⟨⟨by omega,by omega⟩, ?_⟩, ?_⟩,AT.2 fun j hj=>?_⟩
 ·by_cases e:(i:Int)=0
  ·exact .inr (by rw[e];exact h3)
  ·exact .inl e
 ·by_cases e:0≤(nd t i).par
  ·refine .inr ?_;obtain⟨p,hp⟩:∃p:Nat,(nd t i).par=p:=⟨(nd t i).par.toNat,by omega⟩;have:=hc p i (by omega) hi;rw[if_pos hp]at this;rw[hp];have hm:(i:Int)∈(nd t p).ch:=List.count_pos_iff.1 (by omega);exact List.contains_iff_mem.2 hm
  ·exact .inl e
 ·have hj:=ID.1 hj;have hm:=L8 hj;have hin:=AT.1 r6 _ hm;unfold zn;rw[hin,Bool.true_and];unfold iE at hin;simp only[On,OF]at hin;obtain⟨c,hcc⟩:∃c:Nat,(nd t i).ch.getD j 0=c:=⟨((nd t i).ch.getD j 0).toNat,by omega⟩;have hcnt:=hc i c hi (by omega);rw[hcc]at hm ⊢;have hpos:0<(nd t i).ch.count (c:Int):=List.count_pos_iff.2 hm;have hpar:(nd t c).par=i:=by
   by_cases e:(nd t c).par=i
   ·exact e
   ·rw[if_neg e]at hcnt;omega
  rw[if_pos hpar]at hcnt;rw[tO hpar,Bool.and_true,aaI];cases hk:((nd t i).ch.take j).contains (c:Int) with
  | false=>rfl
  | true =>
    have hk:=List.contains_iff_mem.1 hk;have h1:0<((nd t i).ch.take j).count (c:Int):=List.count_pos_iff.2 hk;have h2:0<((nd t i).ch.drop j).count (c:Int):=List.count_pos_iff.2 (by
     have e:(nd t i).ch[j]?=some (c:Int):=by rw[nO,bY hj]at hcc;rw[bY hj];exact congrArg some hcc
     rw[aaK hj];rw[bY hj]at e;rw[GO e];simp)
    have h3:(nd t i).ch.count (c:Int)=((nd t i).ch.take j).count (c:Int)+((nd t i).ch.drop j).count (c:Int):=by rw[←List.count_append,List.take_append_drop]
    omega
def vy(t:bg):Int:=if zo t then 0 else 8
def xP(t:bg)(i:Int):Int:=if zo t then (if iE t i then 0 else 2) else 8
theorem Lk{t:bg}{i:Int}(h:xP t i=0):cU t=true∧0≤i∧i<t.length:=by
 unfold xP at h;split at h
 ·rename_i q;split at h
  ·rename_i z;unfold iE at z;simp only[On,OF]at z;exact⟨Tf q,z⟩
  ·exact absurd h (by decide)
 ·exact absurd h (by decide)
end Go.Qt
namespace Go.Proofs.YtkfakehconamoaaGreatDoor
open Go Go.Aw Go.Qt Go.RowKit
variable [Laid]
omit [Laid] in
theorem KR{t:bg}{H:aa}{k:Nat}{n:Nd}(hk:t[k]?=some n){K:AV→aa→Prop}(q:K (.op H.length 0) (H++[.ak ⟨38,Qt.bx n,true⟩])):
 au 4 (.sl 4 (t.map Qt.bx)) (i_ (k:Int)) fun a=>ae true 4 a H fun b=>aB 38 (.agg [(.str []),(.v (.slice none 0 0)),(i_ 0),(.v (.slice none 0 0))]) H fun v g=>ah 4 v b g fun g' => K v g':=by
 refine zzc (l:=t) (f:=Qt.bx) rfl rfl hk (jb rfl (aS 4) (bq rfl rfl rfl rfl ?_));exact aM (b:=⟨38,[(.str []),(.v (.slice none 0 0)),(i_ 0),(.v (.slice none 0 0))],true⟩) (cs:=Qt.bx n) (h':=H++[.ak ⟨38,Qt.bx n,true⟩]) rfl (by simp) rfl rfl (aS 4) rfl rfl (by simp[Qt.bx,bU]) q
theorem LK{t:bg}:aV p_ 37 [cV t] (b_ (zZ t)):=by
 refine (Z2 _).aQ (by simp only[aq,Aw.Pure,and_true];exact dh t) (by simp) ?_;unfold VG;refine eE (h':=[tB t]) rfl rfl ?_;have ldT:∀{H:aa} {K:AV→Prop},H[0]?=some (tB t)→K (.sl 4 (t.map Qt.bx))→aN 0 (.op 0 0) fun a=>ae false 1 a H K:=fun hb k=>aR rfl (zzU hb rfl k);have len0:∀{H:aa},H[0]?=some (tB t)→1≤H.length:=fun h=>by have:=(dO.1 h).1;omega
 refine aG (α:=Nat×aa) (fun p=>p.2[0]?=some (tB t)∧p.1≤t.length∧p.1≤71∧(t.take p.1).any xQ=false) (fun p=>[i_ p.1]) (fun p=>p.2) (fun p=>t.length-p.1) (0,[tB t]) ⟨rfl,aao _,aao _,rfl⟩ (Wk.refl _ _ _ (aS _)) ?_;rintro⟨k,H⟩ ⟨hH,hk,hk7,ha⟩;simp only at hH hk hk7 ha ⊢;have hl:=len0 hH;refine ldT hH (zzg (n:=t.length) (by simp) fun _=>bZ rfl rfl ?_);refine jR (b2:=decide ((k:Int)≤70)) rfl (by trivial) (fun _ F kF=>kv rfl rfl ⟨(by trivial),kF⟩) ?_;refine aW rfl (fun q=>?_) fun q=>?_
 ·rw[On,OF,OF]at q;have q1:k<t.length:=by omega
  have q2:k<71:=by omega
  refine ldT hH ?_;have hn:=pn q1;obtain⟨n,en⟩:∃n,Qt.nd t k=n:=⟨_,rfl⟩;rw[en]at hn;refine KR hn ?_;have big:xQ n=true→cf (b_ (zZ t)) tt (H++[.ak ⟨38,Qt.bx n,true⟩]):=fun h=>.pure (by simp) (by
   unfold zZ;rw[IJ (x:=n) (k:=k) (by rw[To,if_pos q2];exact hn) h];rfl)
  have hG:(H++[.ak ⟨38,Qt.bx n,true⟩])[H.length]?=some (.ak ⟨38,Qt.bx n,true⟩):=by simp
  have hG0:(H++[.ak ⟨38,Qt.bx n,true⟩])[0]?=some (tB t):=by rw[gE (by omega)];exact hH
  refine zzA (zzU hG rfl (zzg (n:=n.ch.length) (by simp) fun _=>cS rfl rfl ?_));refine dJ (b2:=decide ((20:Int)<n.dZ.length)) rfl (by trivial) (fun _ F kF=>aR rfl (zzU hG rfl (zzg (n:=n.dZ.length) (by simp) fun _=>cS rfl rfl ⟨(by trivial),kF⟩))) (dJ (b2:=decide ((500:Int)<n.tag.length)) rfl (by trivial) (fun _ F kF=>aR rfl (zzU hG rfl (zzZ fun _=>cS rfl rfl ⟨(by trivial),kF⟩))) ?_);refine aW rfl (fun z=>big (by unfold xQ;rw[z];rfl)) fun z=>?_;have zl:n.dZ.length≤20:=by
   rw[aaS,aaS]at z;have:=At z.1.2;omega
  refine aG (α:=Nat) (fun j=>j≤n.dZ.length∧(n.dZ.take j).any Sb=false) (fun j=>[i_ j]) (fun _=>H++[.ak ⟨38,Qt.bx n,true⟩]) (fun j=>n.dZ.length-j) 0 ⟨aao _,rfl⟩ (Wk.refl _ _ _ (aS _)) ?_;rintro j ⟨hj,hja⟩;refine zzA (zzU hG rfl (zzg (n:=n.dZ.length) (by simp) fun _=>bZ rfl rfl (aW rfl (fun y=>?_) fun y=>?_)))
  ·have y:j<n.dZ.length:=by have:=uP y;omega
   obtain⟨a,haj⟩:∃a,n.dZ[j]?=some a:=⟨_,bY y⟩;refine zzA (zzU hG rfl (zzc (l:=n.dZ) (f:=eO) rfl rfl haj (zzX (zzW (zzZ fun _=>cS rfl rfl ?_)))));refine dJ (b2:=decide ((500:Int)<a.2.length)) rfl (by trivial) (fun _ F kF=>aR rfl (zzU hG rfl (zzc (l:=n.dZ) (f:=eO) rfl rfl haj (zzX (zzW (zzZ fun _=>cS rfl rfl ⟨(by trivial),kF⟩)))))) ?_;refine aW rfl (fun x=>big (by unfold xQ;rw[IJ haj x,Bool.or_true])) fun x=>?_;refine zzP (by unfold aZ;omega) ?_;exact⟨(by trivial),j+1,⟨y,by rw[Dl haj,hja];exact x⟩,Wk.refl _ _ _ (aS _),by omega⟩
  ·have y:¬j<n.dZ.length:=fun h=>by have:=At y;omega
   obtain rfl:j=n.dZ.length:=by omega
   rw[Gt]at hja;refine zzP (by unfold aZ;omega) ?_;refine⟨(by trivial),(k+1,_),⟨hG0,q1,q2, ?_⟩,Wk.refl _ _ _ (by simp),by simp only;omega⟩;simp only;rw[Dl hn,ha,Bool.false_or];unfold xQ;rw[z,hja];rfl
 ·rw[Bool.and_eq_false_iff,decide_eq_false_iff_not,decide_eq_false_iff_not]at q;refine ldT hH (zzg (n:=t.length) (by simp) fun _=>cS rfl rfl (.pure (by simp) ?_));unfold zZ;have:(t.take 71).any xQ=false∨(70:Int)<t.length:=by
   rcases AS 70 t.length with h|h
   ·exact .inr (by omega)
   ·refine .inl ?_;have e:k=t.length:=by omega
    rw[e,Gt]at ha;rw[Of (by omega)];exact ha
  rcases this with h|h
  ·rw[h,Bool.false_or]
  ·rw[tO h,Bool.or_true]
end Go.Proofs.YtkfakehconamoaaGreatDoor
end
namespace Go.Proofs.YtkfakehconamoaaGreatDoor
section
open Go Go.Aw Go.Qt Go.RowKit
variable [Laid]
theorem Ad{t:bg}(hs:eH t):aV p_ 24 [cV t] (i_ (vy t)):=by
 refine (ZP _).aQ (by simp only[aq,Aw.Pure,and_true];exact dh t) (by simp) ?_;unfold Vt;refine eE (h':=[tB t]) rfl rfl ?_;have ldT:∀{H:aa} {K:AV→Prop},H[0]?=some (tB t)→K (.sl 4 (t.map Qt.bx))→aN 0 (.op 0 0) fun a=>ae false 1 a H K:=fun hb k=>aR rfl (zzU hb rfl k);have len0:∀{H:aa},H[0]?=some (tB t)→1≤H.length:=fun h=>by have:=(dO.1 h).1;omega
 have bad:zo t=false→∀H,cf (i_ (vy t)) (i_ 8) H:=fun h H=>.pure (by simp) (by unfold vy;rw[h];rfl);refine ldT rfl (zzg (n:=t.length) (by simp) fun _=>bZ rfl rfl ?_);refine dJ (b2:=decide ((64:Int)<t.length)) rfl rfl (fun _ F kF=>cS rfl rfl ⟨rfl,kF⟩) ?_;refine dJ (b2:=!decide ((Qt.nd t 0).par=-1)) rfl rfl (fun z F kF=>?_) ?_
 ·rw[aaS,decide_eq_false_iff_not,decide_eq_false_iff_not]at z;refine ldT rfl (zzc (n:=0) (l:=t) (f:=Qt.bx) rfl rfl (pn (by omega)) (zzX (zzW (zzH ⟨rfl,kF⟩))))
 refine aW rfl (fun z=>bad ?_ _) fun z=>?_
 ·unfold zo;rw[Bool.and_eq_false_iff];left;rw[aaH,aaH,OF,OF]at z;rcases z with (z|z)|z
  ·rw[oF (by omega)];rfl
  ·rw[oF (show ¬t.length≤64 by omega),Bool.and_false];rfl
  ·rw[show decide ((Qt.nd t 0).par=-1)=false by simpa using z,Bool.and_false]
 rw[aaS,aaS,decide_eq_false_iff_not,decide_eq_false_iff_not]at z;have l1:1≤t.length:=by omega
 have l64:t.length≤64:=by omega
 have hp0:decide ((Qt.nd t 0).par=-1)=true:=by simpa using z.2
 have okE:zo t=(t.all (rN t)&&((List.range t.length).all (fun i=>(List.range t.length).all (xJ t i))&&(List.range t.length).all fun i=>fy t t.length i)):=by
  unfold zo;rw[tO l1,tO l64,hp0];rfl
 refine aG (α:=Nat×aa) (fun p=>p.2[0]?=some (tB t)∧p.1≤t.length∧(t.take p.1).all (rN t)=true) (fun p=>[i_ p.1]) (fun p=>p.2) (fun p=>t.length-p.1) (0,[tB t]) ⟨rfl,aao _,rfl⟩ (Wk.refl _ _ _ (aS _)) ?_;rintro⟨k,H⟩ ⟨hH,hk,ha⟩;simp only at hH hk ha ⊢;have hl:=len0 hH;refine zzC (aW rfl (fun q=>?_) fun q=>?_)
 ·have q:k<t.length:=by have:=uP q;omega
  refine ldT hH ?_;have hn:=pn q;obtain⟨n,en⟩:∃n,Qt.nd t k=n:=⟨_,rfl⟩;rw[en]at hn;refine KR hn ?_;have hG:(H++[.ak ⟨38,Qt.bx n,true⟩])[H.length]?=some (.ak ⟨38,Qt.bx n,true⟩):=by simp
  have hG0:(H++[.ak ⟨38,Qt.bx n,true⟩])[0]?=some (tB t):=by rw[gE (by omega)];exact hH
  have badN:rN t n=false→cf (i_ (vy t)) (i_ 8) (H++[.ak ⟨38,Qt.bx n,true⟩]):=fun h=>bad (by
   rw[okE,show t.all (rN t)=false by rw[List.all_eq_false];exact⟨n,eQ hn,by rw[h];decide⟩];rfl) _
  refine zzA (zzU hG rfl (uCon (sM _) (zzO ?_)));refine dJ (b2:=!gH n.dZ) rfl (by trivial) (fun _ F kF=>aR rfl (zzU hG rfl (uCon (HC _) (zzO ⟨(by trivial),kF⟩)))) (dJ (b2:=decide (n.par < -1)) rfl (by trivial) (fun _ F kF=>aR rfl (zzU hG rfl (zzC ⟨(by trivial),kF⟩))) (dJ (b2:=decide ((t.length:Int)≤n.par)) rfl (by trivial) (fun _ F kF=>aR rfl (zzU hG rfl (zzF ⟨(by trivial),kF⟩))) (dJ (b2:=decide ((t.length:Int)<n.ch.length)) rfl (by trivial) (fun _ F kF=>aR rfl (zzU hG rfl (zzg (n:=n.ch.length) (by simp) fun _=>cS rfl rfl ⟨(by trivial),kF⟩))) ?_)));have er:rN t n=(!((((!fK n.tag||!gH n.dZ)||decide (n.par < -1))||decide ((t.length:Int)≤n.par))||decide ((t.length:Int)<n.ch.length))&&n.ch.all (iE t)):=by
   unfold rN;cases fK n.tag<;>cases gH n.dZ<;>cases decide (n.par < -1)<;>cases decide ((t.length:Int)≤n.par)<;>cases decide ((t.length:Int)<n.ch.length)<;>rfl
  refine aW rfl (fun y=>badN (by rw[er,y];rfl)) fun y=>?_;rw[y]at er;have hch:n.ch.length≤t.length:=by
   rw[aaS]at y;have:=At y.2;omega
  refine aG (α:=Nat) (fun j=>j≤n.ch.length∧(n.ch.take j).all (iE t)=true) (fun j=>[i_ j]) (fun _=>H++[.ak ⟨38,Qt.bx n,true⟩]) (fun j=>n.ch.length-j) 0 ⟨aao _,rfl⟩ (Wk.refl _ _ _ (aS _)) ?_;rintro j ⟨hj,hja⟩;refine zzA (zzU hG rfl (zzg (n:=n.ch.length) (by simp) fun _=>bZ rfl rfl (aW rfl (fun x=>?_) fun x=>?_)))
  ·have x:j<n.ch.length:=by have:=uP x;omega
   obtain⟨c,hcj⟩:∃a,n.ch[j]?=some a:=⟨_,bY x⟩;have ldc:∀{K:AV→Prop},K (i_ c)→aN 3 (.op H.length 0) fun v=>ae false 1 v (H++[.ak ⟨38,Qt.bx n,true⟩]) fun w=>au 1 w (i_ (j:Int)) fun u=>ae false 1 u (H++[.ak ⟨38,Qt.bx n,true⟩]) K:=fun k=>aR rfl (zzU hG rfl (zzc (l:=n.ch) (f:=fun c=>[i_ c]) rfl rfl hcj (zzW k)));refine ldc (zzC ?_);refine dJ (b2:=decide ((t.length:Int)≤c)) rfl (by trivial) (fun _ F kF=>ldc (zzF ⟨(by trivial),kF⟩)) ?_;have ei:iE t c=!(decide (c<0)||decide ((t.length:Int)≤c)):=by
    unfold iE;rw[show decide (0≤c)=!decide (c<0) by rw[Bool.eq_iff_iff];simp,show decide (c<t.length)=!decide ((t.length:Int)≤c) by rw[Bool.eq_iff_iff];simp];cases decide (c<0)<;>cases decide ((t.length:Int)≤c)<;>rfl
   refine aW rfl (fun w=>badN (by rw[er,show n.ch.all (iE t)=false by rw[List.all_eq_false];exact⟨c,eQ hcj,by rw[ei,w];decide⟩,Bool.and_false])) fun w=>?_;refine zzP (by unfold aZ;omega) ?_;exact⟨(by trivial),j+1,⟨x,by rw[DO,hcj,List.all_append,hja,Bool.true_and];show [c].all (iE t)=true;rw[aaC,List.all_nil,Bool.and_true,ei,w];rfl⟩,Wk.refl _ _ _ (aS _),by omega⟩
  ·have x:¬j<n.ch.length:=fun h=>by have:=At x;omega
   obtain rfl:j=n.ch.length:=by omega
   rw[Gt]at hja;refine zzP (by unfold aZ;omega) ?_;refine⟨(by trivial),(k+1,_),⟨hG0,q, ?_⟩,Wk.refl _ _ _ (by simp),by simp only;omega⟩;simp only;rw[DO,hn,List.all_append,ha,Bool.true_and];show [n].all (rN t)=true;rw[aaC,List.all_nil,Bool.and_true,er,hja];rfl
 have q:¬k<t.length:=fun h=>by have:=At q;omega
 obtain rfl:k=t.length:=by omega
 rw[Gt]at ha;rw[ha,Bool.true_and]at okE;have hin:∀i,i<t.length→rN t (Qt.nd t i)=true:=fun i hi=>AT.1 ha _ (eQ (pn hi));refine aG (α:=Nat) (fun i=>i≤t.length∧(List.range i).all (fun i=>(List.range t.length).all (xJ t i))=true) (fun i=>[i_ i]) (fun _=>H) (fun i=>t.length-i) 0 ⟨aao _,rfl⟩ (Wk.refl _ _ _ (aS _)) ?_;rintro i ⟨hi,hia⟩;refine zzC (aW rfl (fun q=>?_) fun q=>?_)
 ·have q:i<t.length:=by have:=uP q;omega
  refine aG (α:=Nat) (fun k=>k≤t.length∧(List.range k).all (xJ t i)=true) (fun k=>[i_ k]) (fun _=>H) (fun k=>t.length-k) 0 ⟨aao _,rfl⟩ (Wk.refl _ _ _ (aS _)) ?_;rintro k ⟨hk,hka⟩;refine zzC (aW rfl (fun y=>?_) fun y=>?_)
  ·have y:k<t.length:=by have:=uP y;omega
   obtain⟨w,hw⟩:∃w:Int,w=if (Qt.nd t k).par=i then 1 else 0:=⟨_,rfl⟩
   refine zL [i_ w] H ?_ fun F hF=>?_
   ·refine ldT hH (zzc (l:=t) (f:=Qt.bx) rfl rfl (pn q) (zzX (zzW ?_)));have hcs:=hs (i:Int);refine uCon (I6 (Qt.nd t i).ch k (by
     have:=hin i q;unfold rN at this;simp only[On,aaI,decide_eq_false_iff_not]at this;omega)) ?_
    refine zzH (aW rfl (fun x=>bad ?_ _) fun x=>?_)
    ·have x2:xJ t i k=false:=by unfold xJ;rw[←hw];simpa using x
     rw[okE,show (List.range t.length).all (fun i=>(List.range t.length).all (xJ t i))=false by
      rw[List.all_eq_false];refine⟨i,ID.2 q, ?_⟩;rw[Bool.not_eq_true,List.all_eq_false];exact⟨k,ID.2 y,by rw[x2];decide⟩];rfl
    ·have x2:xJ t i k=true:=by unfold xJ;rw[←hw];simpa using x
     refine zzP (by unfold aZ;omega) ?_;exact⟨(by trivial),k+1,⟨y,by rw[List.range_succ,List.all_append,hka,Bool.true_and,aaC,List.all_nil,Bool.and_true,x2]⟩,Wk.refl _ _ _ (aS _),by omega⟩
   ·refine ldT hH (zzc (l:=t) (f:=Qt.bx) rfl rfl (pn y) (zzX (zzW (zzG (aW rfl (fun x=>?_) fun x=>?_)))))
    ·rw[if_pos (uP x)]at hw;subst hw;exact⟨(by trivial),hF⟩
    ·rw[if_neg (At x)]at hw;subst hw;exact⟨(by trivial),hF⟩
  ·have y:¬k<t.length:=fun h=>by have:=At y;omega
   obtain rfl:k=t.length:=by omega
   refine zzP (by unfold aZ;omega) ?_;exact⟨(by trivial),i+1,⟨q,by rw[List.range_succ,List.all_append,hia,Bool.true_and,aaC,List.all_nil,Bool.and_true,hka]⟩,Wk.refl _ _ _ (aS _),by omega⟩
 have q:¬i<t.length:=fun h=>by have:=At q;omega
 obtain rfl:i=t.length:=by omega
 rw[hia,Bool.true_and]at okE;refine aG (α:=Nat) (fun k=>k≤t.length∧(List.range k).all (fun i=>fy t t.length i)=true) (fun k=>[i_ k]) (fun _=>H) (fun k=>t.length-k) 0 ⟨aao _,rfl⟩ (Wk.refl _ _ _ (aS _)) ?_;rintro k ⟨hk,hu⟩;refine zzC (aW rfl (fun q=>?_) fun q=>?_)
 ·have q:k<t.length:=by have:=uP q;omega
  refine aG (α:=Nat×Int) (fun p=>p.1≤t.length∧-1≤p.2∧p.2<t.length∧fy t t.length k=fy t (t.length-p.1) p.2) (fun p=>[i_ p.2,i_ p.1]) (fun _=>H) (fun p=>t.length-p.1) (0,(k:Int)) ⟨aao _,by simp only;omega,by simp only;omega,rfl⟩ (Wk.refl _ _ _ (aS _)) ?_;rintro⟨m,c⟩ ⟨hm,hc1,hc2,hup⟩;simp only at hm hc1 hc2 hup ⊢;refine zzC (jR (b2:=decide (0≤c)) rfl (by trivial) (fun _ F kF=>fk rfl rfl ⟨(by trivial),kF⟩) ?_);refine aW rfl (fun y=>?_) fun y=>?_
  ·rw[On,OF,OF]at y;have y1:m<t.length:=by omega
   refine ldT hH (zzc (n:=c.toNat) (l:=t) (f:=Qt.bx) rfl (by show i_ c=_;rw[Int.toNat_of_nonneg y.2]) (kA y.2 hc2) (zzX (zzW ?_)));refine zzP (by unfold aZ;omega) ?_;have hp:-1≤(Qt.nd t c).par∧(Qt.nd t c).par<t.length:=by
    have:=hin c.toNat (by omega);rw[Int.toNat_of_nonneg y.2]at this;unfold rN at this;simp only[On,aaI,decide_eq_false_iff_not]at this;omega
   refine⟨(by trivial),(m+1,(Qt.nd t c).par),⟨y1,hp.1,hp.2, ?_⟩,Wk.refl _ _ _ (aS _),by simp only;omega⟩;simp only;rw[hup,show t.length-m=(t.length-(m+1))+1 by omega,fy,if_neg (by omega)]
  ·rw[Bool.and_eq_false_iff,decide_eq_false_iff_not,decide_eq_false_iff_not]at y;refine zzF (aW rfl (fun x=>bad ?_ _) fun x=>?_)
   ·have x:0≤c:=uP x;have hu0:fy t t.length k=false:=by
     rw[hup,show t.length-m=0 by omega,fy,oF (by omega)]
    rw[okE,List.all_eq_false];exact⟨k,ID.2 q,by rw[hu0];decide⟩
   ·have x:¬0≤c:=At x;have hu1:fy t t.length k=true:=by
     rw[hup];cases t.length-m with
     | zero=>rw[fy];exact tO (by omega)
     | succ n=>rw[fy,if_pos (by omega)]
    refine zzP (by unfold aZ;omega) ?_;exact⟨(by trivial),k+1,⟨q,by rw[List.range_succ,List.all_append,hu,Bool.true_and,aaC,List.all_nil,Bool.and_true];exact hu1⟩,Wk.refl _ _ _ (aS _),by omega⟩
 ·have q:¬k<t.length:=fun h=>by have:=At q;omega
  obtain rfl:k=t.length:=by omega
  refine .pure (by simp) ?_;unfold vy;rw[okE,hu];rfl
theorem LJ{t:bg}(hs:eH t)(i:Int):aV p_ 9 [cV t,i_ i] (i_ (xP t i)):=by
 refine (V9 _ _).aQ (by simp only[aq,Aw.Pure,and_true];exact dh t) (by simp) ?_;unfold W9;refine eE (h':=[tB t]) rfl rfl ?_;refine db rfl (uCon (Ad hs) ?_);refine zzH ?_;cases hk:zo t with
 | false =>
   have e:vy t=8:=by unfold vy;rw[hk];rfl
   rw[e];refine zzL rfl (db rfl (uCon (Ad hs) (.pure (by simp) ?_)));unfold xP;rw[hk,e];rfl
 | true =>
   have e:vy t=0:=by unfold vy;rw[hk];rfl
   have ea:xP t i=if iE t i then 0 else 2:=by unfold xP;rw[hk];rfl
   rw[e];refine zzK rfl (zzC ?_);refine CS (b2:=decide ((t.length:Int)≤i)) rfl (fun _ F k=>aR rfl (zzU rfl rfl (zzg (n:=t.length) (by simp) fun _=>fk rfl rfl k))) ?_;have ei:iE t i=!(decide (i<0)||decide ((t.length:Int)≤i)):=by
    unfold iE;rw[show decide (0≤i)=!decide (i<0) by rw[Bool.eq_iff_iff];simp,show decide (i<t.length)=!decide ((t.length:Int)≤i) by rw[Bool.eq_iff_iff];simp];cases decide (i<0)<;>cases decide ((t.length:Int)≤i)<;>rfl
   refine aW rfl (fun z=>.pure (by simp) ?_) fun z=>.pure (by simp) ?_
   ·rw[ea,ei,z];rfl
   ·rw[ea,ei,z];rfl
def qP(l:List (Qt.ao×Qt.ao))(s:Qt.ao):Nat→Int
 | 0=>-1
 | n+1=>if (l.getD (l.length-(n+1)) ([],[])).1=s then ((l.length-(n+1):Nat):Int) else qP l s n
theorem OS{t:bg}{i:Int}(h0:0≤i)(h1:i<t.length)(hl:(Qt.nd t i).dZ.length<2^40)(s:Qt.ao):aV p_ 26 [cV t,i_ i,.str s] (i_ (qP (Qt.nd t i).dZ s (Qt.nd t i).dZ.length)):=by
 refine (ZR _ _ _).aQ (by simp only[aq,Aw.Pure,and_true];exact dh t) (by simp) ?_;unfold Vv;refine eE (h':=[tB t]) rfl rfl ?_;obtain⟨l,hL⟩:∃l,(Qt.nd t i).dZ=l:=⟨_,rfl⟩;rw[hL]at hl ⊢;have ld:∀{K:AV→Prop},K (.sl 2 (l.map eO))→aN 0 (.op 0 0) fun a=>ae false 1 a [tB t] fun b=>au 4 b (i_ i) fun d=>aN 1 d fun e=>ae false 1 e [tB t] K:=fun k =>
  zzA (zzU rfl rfl (zzc (n:=i.toNat) (l:=t) (f:=Qt.bx) rfl (by rw[Int.toNat_of_nonneg h0]) (kA h0 h1) (zzX (zzW (by rw[hL];exact k)))))
 refine aG (α:=Nat) (fun k=>k≤l.length∧qP l s (l.length-k)=qP l s l.length) (fun k=>[i_ k]) (fun _=>[tB t]) (fun k=>l.length-k) 0 ⟨aao _,rfl⟩ (Wk.refl _ _ _ (aS _)) ?_;rintro k ⟨hk,ha⟩;refine ld (zzg (n:=l.length) (by simp) fun _=>bZ rfl rfl (aW rfl (fun q=>?_) fun q=>?_))
 ·have q:k<l.length:=by have:=uP q;omega
  obtain⟨a,hak⟩:∃a,l[k]?=some a:=⟨_,bY q⟩;have hd:l.getD k ([],[])=a:=by rw[nO,hak];rfl
  rw[show l.length-k=(l.length-(k+1))+1 by omega,qP,show l.length-(l.length-(k+1)+1)=k by omega,hd]at ha;refine ld (zzc (l:=l) (f:=eO) rfl rfl hak (zzX (zzW (zzI (aW rfl (fun y=>?_) fun y=>?_)))))
  ·rw[if_pos (uP y)]at ha;exact .pure (by simp) (by rw[←ha];rfl)
  ·rw[if_neg (At y)]at ha;refine zzP (by unfold aZ;omega) ?_;exact⟨rfl,k+1,⟨q,ha⟩,Wk.refl _ _ _ (aS _),by omega⟩
 ·have q:¬k<l.length:=fun h=>by have:=At q;omega
  obtain rfl:k=l.length:=by omega
  rw[Nat.sub_self,qP]at ha;exact .pure (by simp) (by rw[←ha])
def SW(t:bg)(i:Int):Bool:=decide ((Qt.nd t i).tag=[97])&&decide (0≤qP (Qt.nd t i).dZ oH (Qt.nd t i).dZ.length)
theorem I2{t:bg}{i:Int}(h0:0≤i)(h1:i<t.length)(hl:(Qt.nd t i).dZ.length<2^40):aV p_ 13 [cV t,i_ i] (b_ (SW t i)):=by
 refine (ZH _ _).aQ (by simp only[aq,Aw.Pure,and_true];exact dh t) (by simp) ?_;unfold Vk;refine eE (h':=[tB t]) rfl rfl ?_;refine zzA (zzU rfl rfl (zzc (n:=i.toNat) (l:=t) (f:=Qt.bx) rfl (by rw[Int.toNat_of_nonneg h0]) (kA h0 h1) (zzX (zzW (zzI ?_)))));refine ph (b2:=decide (0≤qP (Qt.nd t i).dZ oH (Qt.nd t i).dZ.length)) rfl (fun _ F k=>db rfl (uCon (OS h0 h1 hl oH) (zzF k))) ?_;exact .pure (by simp) rfl
end
section
open Go Go.Aw
variable [Laid]
def W3(U i g:AV)(h:aa)(K:AV→aa→Prop):Prop:=
 aB 24 U h fun a V=>iC p_ 7 [] V fun e o=>ae true 1 a o fun W=>iC p_ 8 [W,.str []] o fun X l=>qJo X [i,g,a,e] l (fun Y=>ae true 1 a l fun Z=>iC p_ 9 [Z,i] l fun a0 a1=>qBe .neq a0 0 fun a2=>Y a2 a1) fun a3 p=>qJo a3 [i,g,a,e] p (fun a4=>iC p_ 10 [g] p fun a5 a6=>bT a5 fun a7=>a4 a7 a6) fun a8 q=>qJo a8 [i,g,a,e] q (fun a9=>bT e fun b0=>a9 b0 q) fun b1 m=>af b1 (K e m) (ae true 1 a m fun b2=>ag .add g (.str [58,118,105,115,105,116,101,100,44,32,58,105,115,40]) fun b3=>ag .add b3 g fun b4=>ag .add b4 (.str [58,118,105,115,105,116,101,100,41,32,42,44,32,58,118,105,115,105,116,101,100]) fun b5=>iC p_ 11 [b2,i,b5] m fun r s=>ay 0 r fun k=>ay 1 r fun b6=>ae true 1 a s fun b7=>ag .add g (.str [58,108,105,110,107]) fun b8=>iC p_ 11 [b7,i,b8] s fun t u=>ay 0 t fun f=>ay 1 t fun b9=>ae true 1 a u fun c0=>ag .add g (.str [58,110,111,116,40,58,118,105,115,105,116,101,100,41]) fun c1=>iC p_ 11 [c0,i,c1] u fun v w=>ay 0 v fun j=>ay 1 v fun x=>ae true 1 a w fun c2=>iC p_ 11 [c2,i,g] w fun y z=>ay 0 y fun c=>ay 1 y fun n=>qBe .neq b6 0 fun c3=>qJo c3 [a,e,k,f,j,x,c,n] z (fun c4=>qBe .neq b9 0 fun c5=>c4 c5 z) fun c6 A=>qJo c6 [a,e,k,f,j,c,n] A (fun c7=>qBe .neq x 0 fun c8=>c7 c8 A) fun c9 B=>qJo c9 [a,e,k,f,j,c] B (fun d0=>qBe .neq n 0 fun d1=>d0 d1 B) fun d2 C=>qJo d2 [a,e,f,j,c] C (fun d3=>aU k fun d4=>qBe .neq d4 0 fun d5=>d3 d5 C) fun d6 D=>qJo d6 [a,e,f,c] D (fun d7=>iC p_ 12 [j,c] D fun d8 d9=>bT d8 fun e0=>d7 e0 d9) fun e1 E=>af e1 (K ff E) (bc [i_ 0,i_ 0] E fun e2 d b =>
 aU c fun e3=>ag .lss (nx d 1) e3 fun e4=>af e4 (aI (fun F=>au 1 c (nx d 1) fun e5=>ae false 1 e5 b fun e6=>qBe .lss e6 0 fun G=>aI (fun H=>aL G false (au 1 c (nx d 1) fun I=>ae false 1 I b fun J=>aN 0 a fun L=>ae false 1 L b fun M=>dX M fun N=>ag .geq J N fun e7=>H [c,nx d 1,I,J,L,M,N,e7] b) (H [un,un,un,un,un,un,un,un] b)) fun e8 _=>bG G tt (nx e8 7) fun e9=>af e9 (K ff b) (ae true 1 a b fun f0=>au 1 c (nx d 1) fun f1=>ae false 1 f1 b fun f2=>iQ p_ 13 [f0,f2] b fun f3=>af f3 (dX f fun f4=>ag .geq (nx d 0) f4 fun O=>aI (fun P=>aL O false (au 1 f (nx d 0) fun Q=>ae false 1 Q b fun R=>au 1 c (nx d 1) fun S=>ae false 1 S b fun T=>ag .neq R T fun f5=>P [f,nx d 0,Q,R,c,nx d 1,S,T,f5] b) (P [un,un,un,un,un,un,un,un,un] b)) fun f6 _=>bG O tt (nx f6 8) fun f7=>af f7 (K ff b) (qBe .add (nx d 0) 1 fun f8=>eC [a,e,f,c,nx d 1] (F [f8] b))) (eC [a,e,f,c,nx d 1] (F [nx d 0] b)))) fun f9 g0=>qBe .add (nx d 1) 1 fun g1=>eC [a,e,f,c] (e2 [nx f9 0,g1] g0)) (qKa e b (fun g2=>aU f fun g3=>ag .eql (nx d 0) g3 fun g4=>g2 g4 b) fun g5 g6=>K g5 g6)))
def V3(a b c:AV):Body p_ 3 [a,b,c] (W3 a b c):=mkB Tryz.func3 (sn (sn (.seq (.seq (.aO (oR 0 3 (.aA 2 false (fR 3 4) [1,2,3,7] [21,25]::oR 7 2 (.aA 8 false (fR 9 3) [1,2,3,7] [27,30]::oR 12 2 (.aA 13 false (fR 14 2) [1,2,3,7] [32,34]::.op 16 false::[]))))) .nil) (sn (sn (sn (sn (.seq (.seq (.aO (oR 0 3 (.aA 2 false (fR 3 2) [3,7,8,10,12,13,14,15] [73,75]::oR 5 2 (.aA 6 false (fR 7 2) [3,7,8,10,12,14,15] [77,79]::oR 9 2 (.aA 10 false (fR 11 2) [3,7,8,10,12,14] [81,83]::oR 13 2 (.aA 14 false (fR 15 3) [3,7,10,12,14] [85,88]::oR 18 2 (.aA 19 false (fR 20 4) [3,7,10,14] [90,94]::.op 24 false::[]))))))) .nil) (sn (.seq (sn (.one (.loop [3,7,10,14] [16,17] (sn (.join [3,7,10,14,17] [16] (.one (.seq (.seq (.draw 15 (oR 0 6 (.aA 5 false (fR 6 8) [] [108,109,110,111,112,113,114,115]::.op 14 false::[])) [] []) .nil) (.seq (.draw 6 (oR 0 6 []) [] []) (.two (.seq (.seq (.draw 15 (oR 0 5 (.aA 4 false (fR 5 9) [] [128,129,130,131,132,133,134,135,136]::.op 14 false::[])) [] []) .nil) .nil) .nil)))) .nil))))) (.seq (.aO (oR 0 2 (.aA 1 true (fR 2 4) [] [141,145]::oR 6 2 []))) .nil))))))))))) 147 [.tmp 6]
def W7(h:aa)(K:AV→aa→Prop):Prop:=
 iC p_ 21 [] h fun x y=>aB 24 (.agg [qNs]) y fun c z=>ah 1 c x z fun g=>ae true 1 c g fun A=>iC p_ 11 [A,i_ 0,.str [108,105,44,32,97]] g fun i j=>ay 0 i fun e=>ay 1 i fun B=>ae true 1 c j fun C=>iC p_ 15 [C,i_ 3,.str [117,108,44,32,58,114,111,111,116]] j fun k l=>ay 0 k fun d=>ay 1 k fun D=>ae true 1 c l fun E=>iC p_ 15 [E,i_ 3,.str [98]] l fun m n=>ay 0 m fun b=>ay 1 m fun o=>ae true 1 c n fun F=>iC p_ 11 [F,i_ 0,.str [58,118,105,115,105,116,101,100]] n fun p q=>ay 0 p fun a=>ay 1 p fun f=>qBe .eql B 0 fun G=>qJa G [e,d,b,o,a,f] q (fun H=>qBe .eql D 0 fun I=>H I q) fun J r=>qJa J [e,d,b,a,f] r (fun L=>qBe .eql o 0 fun M=>L M r) fun N s=>qJa N [e,d,b,a] s (fun O=>qBe .eql f 0 fun P=>O P s) fun Q t=>qJa Q [d,b,a] t (fun R=>bz 3 1 (i_ 0) [(0,1,(i_ 2)),(1,1,(i_ 3)),(2,1,(i_ 1))] fun S=>iC p_ 12 [e,S] t R) fun T u=>qJa T [b,a] u (fun U=>qBe .eql d 0 fun V=>U V u) fun W v=>qJa W [a] v (fun X=>qBe .eql b (-1) fun Y=>X Y v) fun Z w=>qKa Z w (fun a0=>aU a fun a1=>qBe .eql a1 0 fun a2=>a0 a2 w) fun a3 a4=>K a3 a4
def V7:Body p_ 7 [] (W7):=mkB Tryz.func7 (sn (sn (sn (sn (sn (sn (.seq (.aO (oR 0 3 (.aA 2 true (fR 3 2) [2,4,6,7,8,9] [33,35]::oR 5 2 (.aA 6 true (fR 7 2) [2,4,6,8,9] [37,39]::oR 9 2 (.aA 10 true (fR 11 2) [2,4,6,8] [41,43]::oR 13 2 (.aA 14 true [(15,false),(16,true),(17,false)] [4,6,8] [45,48]::oR 18 2 (.aA 19 true (fR 20 2) [6,8] [50,52]::oR 22 2 (.aA 23 true (fR 24 2) [8] [54,56]::oR 26 2 (.aA 27 true (fR 28 3) [] [58,61]::oR 31 2 []))))))))) .nil))))))) 63 [.tmp 0]
def Vq(h:aa)(K:AV→aa→Prop):Prop:=
 aB 24 (.agg [qNs]) h fun a c=>bz 2 1 (i_ 0) [(0,1,(i_ 2)),(1,1,(i_ 1))] fun d=>bf (.agg [.str [],qNs,i_ 0,qNs]) [(0,1,(.str [117,108])),(2,1,(i_ (-1))),(3,1,d)] fun e=>bf (.agg [.str [],qNs,i_ 0,qNs]) [(0,1,(.str [108,105]))] fun f=>bz 1 1 (i_ 0) [(0,1,(i_ 3))] fun g=>bf (.agg [.str [],qNs,i_ 0,qNs]) [(0,1,(.str [108,105])),(3,1,g)] fun i=>bf (.agg [.str [],.str []]) [(0,1,(.str [104,114,101,102]))] fun j=>bz 1 2 (.agg [.str [],.str []]) [(0,2,j)] fun k=>bf (.agg [.str [],qNs,i_ 0,qNs]) [(0,1,(.str [97])),(2,1,(i_ 2)),(1,1,k)] fun l=>bz 4 4 (.agg [.str [],qNs,i_ 0,qNs]) [(0,4,e),(4,4,f),(8,4,i),(12,4,l)] fun m=>bf (.agg [qNs]) [(0,1,m)] fun n=>ah 1 a n c fun b=>ae true 1 a b fun r14=>K r14 b
def ZM:Body p_ 21 [] (Vq):=mkB Tryz.func21 (sn (.seq (.aO (.op 0 true::oR 1 2 (.op 3 true::oR 4 2 (.op 6 true::.op 7 false::.op 8 true::oR 9 2 [])))) .nil)) 11 [.cell 0 24]
end
end Go.Proofs.YtkfakehconamoaaGreatDoor
section
namespace Go.Qt
open Go Go.Aw Go.bE
def y7:bg:=[⟨[117,108],[],-1,[2,1]⟩,⟨[108,105],[],0,[]⟩,⟨[108,105],[],0,[3]⟩,⟨[97],[([104,114,101,102],[])],2,[]⟩]
theorem KB{t:bg}(h:∀n∈t,n.ch.length≤2^40):eH t:=fun i=>by
 unfold nd;rw[nO];cases e:t[i.toNat]? with
 | none=>exact aao _
 | some n=>exact h n (eQ e)
theorem wN:eH y7:=KB fun n hn=>by
 simp only[y7,IS,List.not_mem_nil,or_false]at hn;rcases hn with rfl|rfl|rfl|rfl<;>decide
def fj(g:ao)(ks:List Int):Cp:=.mk g (ks.map bare)
def dw(p:Cp):Cx:=.mk 0 [p] []
end Go.Qt
namespace Go.Proofs.YtkfakehconamoaaGreatDoor
open Go Go.Aw Go.Qt Go.RowKit
open Go.bE hiding u1 ao
def oZ:List (List AV):=[[.str [117,108],qNs,i_ (-1),.sl 1 [[i_ 2],[i_ 1]]],[.str [108,105],qNs,i_ 0,qNs],[.str [108,105],qNs,i_ 0,.sl 1 [[i_ 3]]],[.str [97],.sl 2 [[.str [104,114,101,102],.str []]],i_ 2,qNs]]
theorem xX:aX oZ:=by simp[oZ,aX,aq,Aw.Pure]
theorem Gc:gG [.sl 4 oZ] [.sl 4 (y7.map Qt.bx)]:=
 .cons (.sl (.cons (.cons (.refl _) (.cons (.nil 2) (.cons (.refl _) (.cons (.refl _) .nil)))) (.cons (.cons (.refl _) (.cons (.nil 2) (.cons (.refl _) (.cons (.nil 1) .nil)))) (.cons (.cons (.refl _) (.cons (.nil 2) (.cons (.refl _) (.cons (.refl _) .nil)))) (.cons (.cons (.refl _) (.cons (.refl _) (.cons (.refl _) (.cons (.nil 1) .nil)))) .nil))))) .nil
section
variable [Laid]
omit [Laid] in
theorem Sv(l:List Int):lB (gI l) (.sl 1 (dI l)):=by
 unfold gI;split
 ·rename_i e;rw[e];exact lB.nil 1
 ·exact lB.refl _
theorem aV.Kh{P:Program}{f:FuncId}{args:List AV}{r r':AV}(c:aV P f args r)(p:Aw.Pure r')(q:lB r r'):aV P f args r':=
 ⟨c.1,p,fun base ι S w vs h1 h2=>(c.2.2 base ι S w vs h1 h2).mono fun _ _ ⟨v,ι',S',r1,h',a1,a2,a3,a4,a5,a6⟩=>⟨v,ι',S',r',h',a1,a2,q _ _ _ _ (by rw[←a6];exact a3),a4,a5,rfl⟩⟩
theorem Fc:aV p_ 21 [] (.agg [.sl 4 oZ]):=by
 refine (ZM).aQ (by trivial) (by simp only[aq,Aw.Pure,and_true];exact xX) ?_;unfold Vq;refine bq (cs:=[qNs]) (n:=0) rfl rfl rfl rfl ?_;have mk2:∀{K:AV→Prop},K (.sl 1 [[i_ 2],[i_ 1]])→bz 2 1 (i_ 0) [(0,1,(i_ 2)),(1,1,(i_ 1))] K:=fun q=>q;have mk1:∀{K:AV→Prop},K (.sl 1 [[i_ 3]])→bz 1 1 (i_ 0) [(0,1,(i_ 3))] K:=fun q=>q;have mkA:∀{K:AV→Prop} {a:List AV},a=[.str [104,114,101,102],.str []]→K (.sl 2 [a])→bz 1 2 (.agg [(.str []),(.str [])]) [(0,2,.agg a)] K:=fun e q=>by subst e;exact q
 refine mk2 (bp rfl (bp rfl (mk1 (bp rfl (bp rfl (mkA rfl (bp rfl ?_)))))));have mk4:∀{K:AV→Prop},K (.sl 4 oZ)→bz 4 4 (.agg [(.str []),(qNs),(i_ 0),(qNs)]) [(0,4,.agg (oZ.getD 0 [])),(4,4,.agg (oZ.getD 1 [])),(8,4,.agg (oZ.getD 2 [])),(12,4,.agg (oZ.getD 3 []))] K:=fun q=>q;refine mk4 (bp rfl ?_);refine aM (cs:=[.sl 4 oZ]) rfl rfl rfl rfl (aS 1) rfl rfl rfl (zzV rfl (aS 1) ?_);exact .pure (by simp only[aq,Aw.Pure,List.drop_zero];exact⟨xX,(by trivial)⟩) rfl
end
variable [bB]
theorem pw{t:bg}(hs:eH t)(ba:cU t=true){s:Qt.ao}{l:List Cx}(hr:xG s=(l,0))(hw:tP l=true)(hz:ft l<2^39)(hc:jo l=0):Df t s (mL t (kM t) (aP t) l):=
 ⟨⟨l,hr,Lw hs ba (E5 hs ba l hw) hz hc⟩,nn _ _ _ _⟩
theorem oX{t:bg}(hs:eH t)(ba:cU t=true){s:Qt.ao}{r:List Bool}(q:Df t s r){i:Int}(h0:0≤i)(h1:i<t.length):aV p_ 11 [cV t,i_ i,.str s] (.aw [.sl 1 (dI (Dq t r i)),i_ 0]):=
 aV.Kh (LI hs ba q h0 h1) (by simp only[aq,Aw.Pure,and_true];exact zu _) (lB.M1 (Sv _) (lB.refl _))
def l1:List Cx:=[dw (fj [108,105] []),dw (fj [97] [])]
def l2:List Cx:=[dw (fj [117,108] []),dw (fj [] [7])]
def l3:List Cx:=[dw (fj [98] [])]
def l4:List Cx:=[dw (fj [] [5])]
theorem E8:aV p_ 7 [] tt:=by
 refine (V7).aQ (by trivial) (by simp) ?_;unfold W7;have ba:cU y7=true:=by kernel_rfl
 have q1:=pw wN ba (s:=[108,105,44,32,97]) (l:=l1) (by kernel_rfl) (by kernel_rfl) (by decide) (by kernel_rfl);have q2:=pw wN ba (s:=[117,108,44,32,58,114,111,111,116]) (l:=l2) (by kernel_rfl) (by kernel_rfl) (by decide) (by kernel_rfl);have q3:=pw wN ba (s:=[98]) (l:=l3) (by kernel_rfl) (by kernel_rfl) (by decide) (by kernel_rfl);have q4:=pw wN ba (s:=[58,118,105,115,105,116,101,100]) (l:=l4) (by kernel_rfl) (by kernel_rfl) (by decide) (by kernel_rfl);have pa:aq [AV.sl 4 oZ]:=⟨xX,(by trivial)⟩;have qa:∀{s:Qt.ao} {r:List Bool} {l:List Int},Df y7 s r→Dq y7 r 0=l→aV p_ 11 [.agg [.sl 4 oZ],i_ 0,.str s] (.aw [.sl 1 (dI l),i_ 0]):=fun q e=>by
  have:=aV.Hf (oX wN ba q (i:=0) (by decide) (by decide)) Gc pa;rw[e]at this;exact this
 have qc:∀{s:Qt.ao} {r:List Bool} {k:Int},Df y7 s r→sK y7 r y7.length 3=k→aV p_ 15 [.agg [.sl 4 oZ],i_ 3,.str s] (.aw [i_ k,i_ 0]):=fun q e=>by
  have:=aV.Hf (DE wN ba q (i:=3) (by decide) (by decide)) Gc pa;rw[e]at this;exact this
 have c1:=qa (l:=[2,3,1]) q1 (by kernel_rfl);have c2:=qc (k:=0) q2 (by kernel_rfl);have c3:=qc (k:=-1) q3 (by kernel_rfl);have c4:=qa (l:=[]) q4 (by kernel_rfl);refine uCon Fc (bq (cs:=[qNs]) (n:=0) rfl rfl rfl rfl (aM (cs:=[.sl 4 oZ]) (h':=[.ak ⟨24,[.sl 4 oZ],true⟩]) rfl rfl rfl rfl (aS 1) rfl rfl rfl ?_));have ld:∀{K:AV→Prop},K (.agg [.sl 4 oZ])→ae true 1 (.op 0 0) [.ak ⟨24,[.sl 4 oZ],true⟩] K:=fun k=>cK rfl rfl (aS 1) k;refine ld (uCon c1 (zzB rfl (zzB rfl ?_)));refine ld (uCon c2 (zzB rfl (zzB rfl ?_)));refine ld (uCon c3 (zzB rfl (zzB rfl ?_)));refine ld (uCon c4 (zzB rfl (zzB rfl ?_)));refine zzG (jR (b2:=true) rfl rfl (fun _ F k=>bK rfl rfl ⟨rfl,k⟩) (jR (b2:=true) rfl rfl (fun _ F k=>bK rfl rfl ⟨rfl,k⟩) (jR (b2:=true) rfl rfl (fun _ F k=>bK rfl rfl ⟨rfl,k⟩) ?_)));have mk:∀{K:AV→Prop},K (.sl 1 (dI [2,3,1]))→bz 3 1 (i_ 0) [(0,1,(i_ 2)),(1,1,(i_ 3)),(2,1,(i_ 1))] K:=fun q=>q;refine jR (b2:=true) rfl rfl (fun _ F k=>mk (uCon (BJ [2,3,1] [2,3,1] (by decide) (by decide)) ⟨rfl,k⟩)) (jR (b2:=true) rfl rfl (fun _ F k=>bK rfl rfl ⟨rfl,k⟩) (jR (b2:=true) rfl rfl (fun _ F k=>bK rfl rfl ⟨rfl,k⟩) (ph (b2:=true) rfl (fun _ F k=>cr (n:=0) rfl rfl fun _=>bK rfl rfl k) ?_)));exact .pure (by simp) rfl
end Go.Proofs.YtkfakehconamoaaGreatDoor
end
namespace Go.Proofs.YtkfakehconamoaaGreatDoor
section
open Go Go.Aw Go.Qt Go.ChangeShapes Go.WideShapes Go.ChangeAt Go.RowKit
def FA(F:Nat)(P:Program)(t:TypeId){X:Type}(ea:X→List AV)(sz:X→Nat):Prop:=
 ∀(H:Type) (enc:TypeId×Value→H) (W:World) (fuel:Nat) (cs:List Value) (d:DataW H) (ps:List MemPlace),fuel≤F →
  DataW.trod enc P W 0 (fun _=>true) true fuel t cs=some (d,ps)→∃x,aD [] (old W) W (ea x) cs∧cs.length=P.cellsOf t∧sz x≤Rows.uptoBulk d
theorem GM{F:Nat}{P:Program}{t:TypeId}{k:IntKind}(ht:P.underlying t=some (.int k))(hc:P.cellsOf t=1):FA F P t (fun n:Int=>[.v (.int k n)]) (fun _=>1):=by
 intro H enc W fuel cs d ps _ h;obtain⟨n,rfl,e,hn⟩:=DataW.trod_int ht h;simp only[aak]at e;obtain⟨rfl,_⟩:=e;exact⟨n,by simp,by simp[hc],by simp[Rows.uptoBulk]⟩
theorem uD{F:Nat}{P:Program}{t:TypeId}(ht:P.underlying t=some .string)(hc:P.cellsOf t=1):FA F P t (fun s:List UInt8=>[.str s]) (fun s=>s.length+1):=by
 intro H enc W fuel cs d ps _ h;obtain⟨s,rfl,e,hs⟩:=DataW.trod_string ht h;simp only[aak]at e;obtain⟨rfl,_⟩:=e;exact⟨s.data.toList,by simpa using hs,by simp[hc],by simp[Rows.uptoBulk]⟩
theorem xu{H:Type}:∀a b:List (DataW H),Rows.uptoBulkAll (a++b)=Rows.uptoBulkAll a+Rows.uptoBulkAll b
 | [],b=>by simp[Rows.uptoBulkAll]
 | x:: a,b=>by rw[aaQ,Rows.uptoBulkAll,Rows.uptoBulkAll,xu a b];omega
theorem wa{F:Nat}{P:Program}{t e:TypeId}{X:Type}{ea:X→List AV}{sz:X→Nat}(ht:P.underlying t=some (.slice e))(hc:P.cellsOf t=1)(hpos:0<P.cellsOf e)(hx:FA F P e ea sz):
 FA F P t (fun l:List X=>[.sl (P.cellsOf e) (l.map ea)]) (fun l=>(l.map sz).sum+1):=by
 intro H enc W fuel cs d ps hF h;obtain⟨rfl,e1⟩|⟨a,len,cap,elems,rest,n,rfl,rfl,e1,_,hlc,hcm,hlen,hel,_,_⟩:=DataW.trod_slice ht h
 ·simp only[aak]at e1;obtain⟨rfl,_⟩:=e1;refine⟨[], ?_,by simp[hc],by simp[Rows.uptoBulk]⟩;simp only[List.map_nil,bL,di,and_true];rw[ax];exact⟨none,0,rfl,aS _,aao _,.inl rfl⟩
 ·simp only[aak]at e1;obtain⟨rfl,_⟩:=e1;have key:∀i,(hi:i<elems.length)→∃x,sz x≤Rows.uptoBulk (elems[i]).1∧∃us:List Value,aD [] (old W) W (ea x) us∧us.length=P.cellsOf e∧∀j,j<us.length→W.cell? ((a.add (i*P.cellsOf e)).add j)=us[j]?:=by
   intro i hi;have h0:=hel i (by omega);rw[bY hi]at h0;obtain⟨us,hus,hu⟩:=Option.bind_eq_some_iff.1 h0;obtain⟨_,hul,huc⟩:=World.cells?_some hus;obtain⟨x,h2,h3,h4⟩:=hx H enc W n us elems[i].1 elems[i].2 (by omega) hu;exact⟨x,h4,us,h2,h3,fun j hj=>huc j (by omega)⟩
  have hlist:∀k,k≤len→∃l:List X,l.length=k∧(l.map sz).sum≤Rows.uptoBulkAll ((elems.take k).map (·.1))∧∀i x,l[i]?=some x→∃us:List Value,aD [] (old W) W (ea x) us∧us.length=P.cellsOf e∧∀j,j<us.length→W.cell? ((a.add (i*P.cellsOf e)).add j)=us[j]?:=by
   intro k;induction k with
   | zero=>intro _;exact⟨[],rfl,by simp,by simp⟩
   | succ k ih =>
     intro hk;obtain⟨l,hl,hs,hi⟩:=ih (by omega);obtain⟨x,hx1,hx2⟩:=key k (by omega);refine⟨l++[x],by simp[hl], ?_,fun i y hy=>?_⟩
     ·rw[DO,bY (by omega),Option.toList_some];simp only[List.map_append,xu,List.sum_append,IF,List.map_nil,List.sum_cons,List.sum_nil,Rows.uptoBulkAll];omega
     rcases Nat.lt_trichotomy i k with q|q|q
     ·rw[gE (by omega)]at hy;exact hi i y hy
     ·subst q;rw[iD (by omega)]at hy;simp[hl]at hy;subst hy;exact hx2
     ·rw[lE (by simp;omega)]at hy;cases hy
  obtain⟨l,hl,hs,hi⟩:=hlist len (by omega);rw[Of (by omega)]at hs;refine⟨l, ?_,by simp[hc],by show (l.map sz).sum+1≤_;rw[Rows.uptoBulk];omega⟩;simp only[bL,di,and_true];rw[ax];refine⟨some a,cap,by simp[hl],by simpa[hl]using hlc,hcm, ?_⟩;cases l with
  | nil=>exact .inl rfl
  | cons x0 l0 =>
    right;obtain⟨us0,_,hu0,hu1⟩:=hi 0 x0 rfl;obtain⟨b,off,spot⟩:=a;have hsp:spot=none:=by
     have h1:=hu1 0 (by omega);rw[bY (by omega)]at h1;simpa[Addr.add]using World.cell?_spot h1
    subst hsp;refine⟨b,off,rfl,cg.mk fun i r hr=>?_⟩;rw[iS]at hr;cases hxi:(x0:: l0)[i]? with
    | none=>rw[hxi]at hr;cases hr
    | some x =>
      rw[hxi]at hr;cases hr;obtain⟨us,k1,k2,k3⟩:=hi i x hxi;refine⟨by rw[k1.length];exact k2,bI.mk fun j c ec=>?_⟩;obtain⟨u,e1,e2⟩:=k1.get j c ec;have h1:=k3 j (dO.1 e1).1;rw[e1,Aw.add_plain,Aw.add_plain]at h1;refine⟨u,h1, ?_,e2⟩;show b<W.heap.size;unfold World.cell? at h1;split at h1
      ·rename_i c1 c2 c3 hh;exact (By.1 hh).1
      ·cases h1
theorem MB{cs:List Value}(h:cs.length=1):∃c,cs=[c]:=by
 match cs,h with
 | [c],_=>exact⟨c,rfl⟩
def WS(a:Qt.ao×Qt.ao):Nat:=a.1.length+a.2.length
theorem MC(F:Nat):FA F p_ 69 eO WS:=by
 intro H enc W fuel cs d ps hF h;obtain⟨xs,n,rfl,e1,hl,hn,hf⟩:=DataW.trod_struct Tryz.underlying69 h
 match xs,hn with
 | [y0,y1],_ =>
   have h0:=hf 0 _ rfl;have h1:=hf 1 _ rfl;rw[show p_.cellsOf 69=2 by kernel_rfl]at hl
   match cs,hl with
   | [c0,c1],_ =>
     obtain⟨a,r0,_,z0⟩:=uD (F:=n) Tryz.underlying9 (by kernel_rfl) H enc W n _ y0.1 y0.2 (aS _) h0;obtain⟨b,r1,_,z1⟩:=uD (F:=n) Tryz.underlying9 (by kernel_rfl) H enc W n _ y1.1 y1.2 (aS _) h1;simp only[aak]at e1;obtain⟨rfl,_⟩:=e1;have r0:aD [] (old W) W [.str a] [c0]:=r0;have r1:aD [] (old W) W [.str b] [c1]:=r1;refine⟨(a,b),r0.append r1,by rw[show p_.cellsOf 69=2 by kernel_rfl];rfl, ?_⟩;simp only at z0 z1;unfold WS;rw[Rows.uptoBulk];simp only[IF,List.map_nil,Rows.uptoBulkAll];omega
theorem MD(F:Nat):FA F p_ 38 Qt.bx (fun n=>n.ch.length):=by
 intro H enc W fuel cs d ps hF h;obtain⟨xs,n,rfl,e1,hl,hn,hf⟩:=DataW.trod_struct Tryz.underlying38 h
 match xs,hn with
 | [y0,y1,y2,y3],_ =>
   have h0:=hf 0 _ rfl;have h1:=hf 1 _ rfl;have h2:=hf 2 _ rfl;have h3:=hf 3 _ rfl;rw[show p_.cellsOf 38=4 by kernel_rfl]at hl
   match cs,hl with
   | [c0,c1,c2,c3],_ =>
     obtain⟨g,r0,_,_⟩:=uD (F:=n) Tryz.underlying9 (by kernel_rfl) H enc W n _ y0.1 y0.2 (aS _) h0;obtain⟨a,r1,_,_⟩:=wa (F:=n) Tryz.underlying36 (by kernel_rfl) (nE (by kernel_rfl)) (MC n) H enc W n _ y1.1 y1.2 (aS _) h1;obtain⟨p,r2,_,_⟩:=GM (F:=n) Tryz.underlying3 (by kernel_rfl) H enc W n _ y2.1 y2.2 (aS _) h2;obtain⟨l,r3,_,z3⟩:=wa (F:=n) Tryz.underlying29 (by kernel_rfl) (nE (by kernel_rfl)) (GM (F:=n) Tryz.underlying3 (by kernel_rfl)) H enc W n _ y3.1 y3.2 (aS _) h3;simp only[aak]at e1;obtain⟨rfl,_⟩:=e1;have r0:aD [] (old W) W [.str g] [c0]:=r0;have r1:aD [] (old W) W [.sl 2 (a.map eO)] [c1]:=by
      rw[show p_.cellsOf 69=2 by kernel_rfl]at r1;exact r1
     have r2:aD [] (old W) W [i_ p] [c2]:=r2;have r3:aD [] (old W) W [.sl 1 (l.map fun c=>[i_ c])] [c3]:=by
      rw[show p_.cellsOf 3=1 by kernel_rfl]at r3;exact r3
     refine⟨⟨g,a,p,l⟩,((r0.append r1).append r2).append r3,by rw[show p_.cellsOf 38=4 by kernel_rfl];rfl, ?_⟩;have e:(l.map fun _=>1).sum=l.length:=by
      have:∀l:List Int,(l.map fun _=>1).sum=l.length:=fun l=>by
       induction l with
       | nil=>rfl
       | cons a l ih=>rw[IF,List.sum_cons,ih,aab];omega
      exact this l
     simp only[e]at z3;rw[Rows.uptoBulk];simp only[IF,List.map_nil,Rows.uptoBulkAll];omega
theorem G0{α:Type}{f:α→Nat}{x:α}:∀{l:List α},x∈l→f x≤(l.map f).sum
 | a:: l,h=>by
   rw[IF,List.sum_cons];rcases IS.1 h with e|h
   ·rw[e];omega
   ·have:=G0 (f:=f) h;omega
theorem P6{H:Type}{enc:TypeId×Value→H}{W:World}{v:Value}{d:DataW H}{ps:List MemPlace}(hv:∃cs,v=.agg cs)(h:DataW.Trod enc p_ W 0 (fun _=>true) true 24 v d ps):
 ∃t:bg,ax [] (old W) W (cV t) v∧∀n∈t,n.ch.length≤Rows.uptoBulk d:=by
 obtain⟨cs,rfl⟩:=hv;obtain⟨fuel,h⟩:=h;obtain⟨xs,n,rfl,e1,hl,hn,hf⟩:=DataW.trod_struct Tryz.underlying24 h
 match xs,hn with
 | [y0],_ =>
   have h0:=hf 0 _ rfl;rw[show p_.cellsOf 24=1 by kernel_rfl]at hl;obtain⟨c0,hc0⟩:=MB hl;rw[hc0]at h0;obtain⟨t,r0,_,z0⟩:=wa (F:=n) Tryz.underlying22 (by kernel_rfl) (nE (by kernel_rfl)) (MD n) H enc W n _ y0.1 y0.2 (aS _) h0;simp only[aak]at e1;obtain⟨rfl,_⟩:=e1;have r0:aD [] (old W) W [.sl 4 (t.map Qt.bx)] [c0]:=by
    rw[show p_.cellsOf 38=4 by kernel_rfl]at r0;exact r0
   refine⟨t, ?_,fun x hx=>?_⟩
   ·unfold cV;rw[ax];exact⟨[c0],by have:cs.toList=[c0]:=hc0;rw[←this],r0⟩
   ·have:=G0 (f:=fun n:Nd=>n.ch.length) hx;simp only at z0 this;rw[Rows.uptoBulk];simp only[IF,List.map_nil,Rows.uptoBulkAll];omega
end
section
open Go Go.Aw Go.ChangeShapes Go.WideShapes Go.ChangeAt Go.RowKit
def MF:ownKnob p_.godebug=none:=by kernel_rfl
def Mi:laidOutB p_=true:=by kernel_rfl
abbrev nm:List (String×DataW Unit):=Rows.queryLinksRow.laid
def Ky(os:Os)(args:Array Value):laidMetH p_ nm ((World.laidAll p_ os nm).forCall (fun _ _=>0) ⟨#[],args,[]⟩).memory:=by
 rw[MakeChecks.laidMetH_plain _ _ _ (by kernel_rfl)];exact laidMet_laidAll _ (by kernel_rfl) (by kernel_rfl)
def EO(os:Os)(args:Array Value):((World.laidAll p_ os nm).forCall (fun _ _=>0) ⟨#[],args,[]⟩).Shaped p_:=World.shaped_of_ZipB (by kernel_rfl) (by kernel_rfl)
def Me{H:Type}{enc:TypeId×Value→H}{P:Program}{w:World}{base fuel:Nat}{spare:Nat→Bool}{held:Bool}{t:TypeId}{cs:List Value}{x:DataW H×List MemPlace}{i:Array (String×TypeId)}(ht:P.underlying t=some (.interface i))(h:DataW.trod enc P w base spare held fuel t cs=some x):cs=[.nilIface]∨∃u v,cs=[.iface u v]:=by
 cases fuel with
 | zero=>simp[DataW.trod]at h
 | succ n =>
   rw[DataW.trod.eq_def]at h;dsimp only at h;rw[ht]at h;split at h<;>first|exact .inl rfl|exact .inr ⟨_,_,rfl⟩|simp_all
def So{W:World}(h:laidMetH p_ nm W):∃er:Value,(er=.nilIface∨∃te pe,er=.iface te pe)∧W.cell? ⟨4,0,none⟩=some er∧∃ty,W.shape? 4=some (ty,1):=by
 rw[MakeChecks.laidMetH_plain _ _ _ (by kernel_rfl)]at h;obtain⟨ps,⟨_,_,_,_,_,_,_,_,_,_,⟨_,_,_,_,_,_,_,_,_,_,⟨_,_,_,_,_,_,_,_,_,_,⟨_,_,_,_,_,_,_,_,_,_,⟨g,t,cs,fuel,p,q,hg,ht,hv,hd,_,_⟩,_⟩,_⟩,_⟩,_⟩,_⟩:=h;obtain rfl:=GO ((show p_.globalNamed "strconv.ErrRange" = some 4 by kernel_rfl).symm.trans hg);obtain rfl:=GO ((show (p_.globals[4]?).map (·.type)=some 371 by kernel_rfl).symm.trans ht);unfold World.var? at hv;rw[hg,Option.bind_some]at hv;split at hv
 ·rename_i c ty fz hh;cases hv;have one:∀er,cs.toList=[er]→W.cell? ⟨4,0,none⟩=some er∧∃ty,W.shape? 4=some (ty,1):=fun er e=>by
   have ec:cs=#[er]:=Array.ext' (by simpa using e);subst ec;exact⟨by unfold World.cell?;rw[hh];rfl,ty,by unfold World.shape?;rw[hh];rfl⟩
  rcases Me Tryz.underlying371 hd with e|⟨u,v,e⟩
  ·exact⟨_,.inl rfl,one _ e⟩
  ·exact⟨_,.inr ⟨u,v,rfl⟩,one _ e⟩
 ·cases hv
def Ic:List Int:=[1,10,100,1000,10000,100000,1000000,10000000,100000000,1000000000,10000000000,100000000000,1000000000000,10000000000000,100000000000000,1000000000000000,10000000000000000,100000000000000000,1000000000000000000,10000000000000000000]
def J9(h:laidMetH p_ nm W):Lib.TabIs p_ W "internal/strconv.uint64pow10" .u64 Ic:=by
 rw[MakeChecks.laidMetH_plain _ _ _ (by kernel_rfl)]at h;obtain⟨ps,⟨_,_,_,_,_,_,_,_,_,_,⟨_,_,_,_,_,_,_,_,_,_,⟨g,t,cs,fuel,p,q,hg,ht,hv,hd,_,_⟩,_⟩,_⟩,_⟩:=h;obtain rfl:=GO ((show p_.globalNamed "internal/strconv.uint64pow10" = some 5 by kernel_rfl).symm.trans hg);obtain rfl:=GO ((show (p_.globals[5]?).map (·.type)=some 396 by kernel_rfl).symm.trans ht);unfold Lib.TabIs;rw[hv,←Lib.cells_of_tab (zs:=Ic) Tryz.underlying396 Tryz.underlying376 (by kernel_rfl) (by kernel_rfl) hd]
def CM:List Int:=[0,1,56,2,57,49,28,3,61,58,42,50,38,29,17,4,62,47,59,36,45,43,51,22,53,39,33,30,24,18,12,5,63,55,48,27,60,41,37,16,46,35,44,21,52,32,23,11,54,26,40,15,34,20,31,10,25,14,19,9,13,8,7,6]
def FV(h:laidMetH p_ nm W):Lib.TabIs p_ W "math/bits.deBruijn64tab" .u8 CM:=by
 rw[MakeChecks.laidMetH_plain _ _ _ (by kernel_rfl)]at h;obtain⟨ps,⟨_,_,_,_,_,_,_,_,_,_,⟨g,t,cs,fuel,p,q,hg,ht,hv,hd,_,_⟩,_⟩,_⟩:=h;obtain rfl:=GO ((show p_.globalNamed "math/bits.deBruijn64tab" = some 7 by kernel_rfl).symm.trans hg);obtain rfl:=GO ((show (p_.globals[7]?).map (·.type)=some 401 by kernel_rfl).symm.trans ht);unfold Lib.TabIs;rw[hv,←Lib.cells_of_tab (zs:=CM) Tryz.underlying401 Tryz.underlying5 (by kernel_rfl) (by kernel_rfl) hd]
def EJ{name:String}{zs:List Int}(h:Lib.TabIs P W name k zs)(hg:P.globalNamed name=some g):∃ty,W.shape? g=some (ty,zs.length):=by
 unfold Lib.TabIs World.var? at h;rw[hg,Option.bind_some]at h;split at h
 ·rename_i c t f hh;simp only[ON]at h;subst h;exact⟨t,by unfold World.shape?;rw[hh];simp⟩
 ·cases h
def JH{W:World}(h:W.ShapedOpen p_):∃m:Int,W.cell? ⟨0,0,none⟩=some (.int .i64 m)∧∃ty,W.shape? 0=some (ty,1):=by
 obtain⟨m,hm⟩:=laysM143.s1_3 W h;refine⟨m,hm, ?_⟩;obtain⟨cs,hh,hs,_⟩:=h.1 0 #[.int .i64 0] 3 (uP (by kernel_rfl)) (by kernel_rfl);exact⟨3,by unfold World.shape?;rw[hh];simp only[hs];rfl⟩
def Sw[bB](h:laidMetH p_ nm W)(hm:W.cell? ⟨0,0,none⟩=some (.int .i64 bB.m))(hs:∃ty,W.shape? 0=some (ty,1))(he:W.cell? ⟨4,0,none⟩=some bB.er)(hes:∃ty,W.shape? 4=some (ty,1)):BA (old W) W:=by
 intro g cs e;have e:Ik g=some cs:=e;unfold Ik at e;split at e
 ·cases e;exact⟨bI.ints (W:=W) (g:=5) (k:=.u64) (zs:=Ic) (fun i hi=>(J9 h).cell (by kernel_rfl) i hi),by simpa[Ic,M3]using EJ (J9 h) (g:=5) (by kernel_rfl)⟩
 ·cases e;exact⟨bI.ints (W:=W) (g:=0) (k:=.i64) (zs:=[bB.m]) (fun i hi=>by
   obtain rfl:i=0:=by simpa using hi
   exact hm),by simpa using hs⟩
 ·cases e;refine⟨bI.mk fun i c ec=>?_,by simpa using hes⟩;obtain⟨rfl,rfl⟩:i=0∧c=.v bB.er:=by
   cases i with
   | zero=>simp at ec;exact⟨rfl,ec.symm⟩
   | succ i=>simp at ec
  refine⟨bB.er,he, ?_,by simp⟩;show 4<W.heap.size;unfold World.cell? at he;split at he
  ·rename_i c1 c2 c3 hh;exact (By.1 hh).1
  ·cases he
 ·cases e;exact⟨bI.ints (W:=W) (g:=7) (k:=.u8) (zs:=CM) (fun i hi=>(FV h).cell (by kernel_rfl) i hi),by simpa[CM,T4]using EJ (FV h) (g:=7) (by kernel_rfl)⟩
 ·cases e
theorem vo{H:Type}{enc:TypeId×Value→H}{a:Assume}{C:Checked}{os:Os}{f:FuncId}{fn:Func}{s:OpenSpec}{F:Stop.Interp}{k:(H:Type)→List (DataW H)→Bool}(hk:s.cond=some k){conds:List PathCond}{apart fresh handsOn again:Bool}{X:World→Array Value→Prop}
 (hX:∀(w w':World) (args:Array Value),w.heap=w'.heap→X w args→X w' args)
 (own:ownKnob C.prog.godebug=none) (started:os.Started) (noInit:C.prog.inits.idxOf? f=none) (hfn:C.prog.funcs[f]?=some fn)
 (witness:∃(w:World) (tape:Tape) (i:Input),w.os=os∧(w.forCall tape i).Shaped C.prog∧i.vars=[]∧Input.okWide C.prog (w.forCall tape i) .any w.heap.size f i ∧
  ((s.pre enc C.prog fn conds apart (w.forCall tape i).memory i.args∧X (w.forCall tape i).memory i.args)∧sizedMet enc C.prog fn s apart (w.forCall tape i).memory i.args)∧a.holds C.prog (lone (Frame.enter C.prog f i.args .normal) [] (w.forCall tape i)))
 (contract:∀(W:World) (base:Nat) (args:Array Value) (ds gs:List (DataW H)) (before:List MemPlace),
  (∀(j:Nat) t v,fn.params[j]?=some t→args[j]?=some v→Value.okWide C.prog W .any base t v) →
  DataW.Whole enc C.prog fn.params.toList s.vars apart W args.toList ds gs before→k H (ds++gs)=true→X W args→W.ShapedOpen C.prog →
  Calls C.prog f args W fun e W' => ∃v,e=.returned v∧(s.at F).post enc C.prog fn apart fresh handsOn again W args v W') :
 ReturnsInHanded a C os f .any (fun w args=>(s.pre enc C.prog fn conds apart w args∧X w args)∧sizedMet enc C.prog fn s apart w args) ((s.at F).post enc C.prog fn apart fresh handsOn again):=by
 refine returnsInHanded_of_calls own started noInit witness ?_;intro w tape i _ hsh _ ba hpre _;obtain⟨_,_,_,fn',hfn',_,_,_,_,hval⟩:=ba;obtain rfl:fn'=fn:=GO (hfn'.symm.trans hfn);obtain⟨⟨h0,hx⟩,_⟩:=hpre;obtain⟨ds,gs,before,hw,_,hkk⟩:=(OpenSpec.pre_some hk conds apart _ _).1 h0;refine (contract (w.forCall tape i) w.heap.size i.args ds gs before hval (DataW.Whole.of_heap (w':=w.forCall tape i) (by rfl) hw) hkk (hX _ _ _ (by rfl) hx) hsh).mono fun e W' ⟨v,he,hp⟩=>?_;subst he;exact ChangeSpec.post_blind hp
theorem E1{H:Type}{enc:TypeId×Value→H}{C:Checked}{os:Os}{f:FuncId}{fn:Func}{s:OpenSpec}{k:(H:Type)→List (DataW H)→Bool}(hk:s.cond=some k){conds:List PathCond}{apart:Bool}{X:World→Array Value→Prop}(modest:Bool)(w0:World)(args:Array Value)(fuel:Nat)(hos:w0.os=os)
 (hsh:(w0.forCall (fun _ _=>0) ⟨#[],args,[]⟩).Shaped C.prog)
 (ba:Input.okWideB C.prog (w0.forCall (fun _ _=>0) ⟨#[],args,[]⟩) f ⟨#[],args,[]⟩=true)
 {x:List (DataW H)×List (DataW H)×List MemPlace} (hx:DataW.whole enc C.prog (w0.forCall (fun _ _=>0) ⟨#[],args,[]⟩).memory fn.params.toList s.vars apart args.toList fuel=some x)
 (hconds:conds.all (PathCond.test C.prog ⟨fn.params.toList,x.1,s.bare.plain.varTypes C.prog,x.2.1⟩)=true) (hkk:k H (x.1++x.2.1)=true)
 (hsz:s.bare.sizedB enc C.prog fn apart (w0.forCall (fun _ _=>0) ⟨#[],args,[]⟩).memory args fuel=true)
 (hX:X (w0.forCall (fun _ _=>0) ⟨#[],args,[]⟩).memory args) :
 ∃(w:World) (tape:Tape) (i:Input),w.os=os∧(w.forCall tape i).Shaped C.prog∧i.vars=[]∧Input.okWide C.prog (w.forCall tape i) .any w.heap.size f i ∧
  ((s.pre enc C.prog fn conds apart (w.forCall tape i).memory i.args∧X (w.forCall tape i).memory i.args)∧sizedMet enc C.prog fn s apart (w.forCall tape i).memory i.args)∧({ modest:=modest }:Assume).holds C.prog (lone (Frame.enter C.prog f i.args .normal) [] (w.forCall tape i)):=
 ⟨w0,fun _ _=>0,⟨#[],args,[]⟩,hos,hsh,(Input.okWide_of_okWideB (base:=0) ba).1,(Input.okWide_of_okWideB ba).2,
  ⟨⟨(OpenSpec.pre_some hk conds apart _ _).2 ⟨x.1,x.2.1,x.2.2,DataW.Whole_of_whole hx,hconds,hkk⟩,hX⟩,sizedMet_of_sizedB hsz⟩,by
  simp only[Assume.holds];exact⟨by simp,by simp,fun _=>Modest.zero,by simp,by simp⟩⟩
end
section
open Go Go.Aw Go.jh Go.RowKit
open Go.bE hiding u1 ao
def uM(s:List (Tok×List Vl)):Int:=match s with|[]=>0|(o,_):: _=>dE o.k
def J0(h1:s≠[]→t.k≠uM s)(h2:dE t.k=0):gb t c s=some (c++[lD t []],s):=by
 cases s with
 | nil=>rw[gb,if_neg (by simpa using h2)]
 | cons x s =>
   obtain⟨o,b⟩:=x;rw[gb,if_neg (show ¬t.k=dE o.k from h1 (by simp)),if_neg (by simpa using h2)]
def J1(h1:s≠[]→t.k≠uM s)(h2:dE t.k≠0)(h3:s.length<16):gb t c s=some ([],(t,c):: s):=by
 cases s with
 | nil=>rw[gb,if_pos h2]
 | cons x s =>
   obtain⟨o,b⟩:=x;rw[gb,if_neg (show ¬t.k=dE o.k from h1 (by simp)),if_pos h2,if_neg (by simp at h3;omega)]
def J2(h:t.k=dE o.k):gb t c ((o,b):: s)=some (b++[lD o c],s):=by
 rw[gb,if_pos h]
mutual
theorem YY:∀(v:Vl) (c:List Vl) (s:List (Tok×List Vl)) (r:List Tok),(s≠[]→uM s≠0)→Dn (uM s) v=false→s.length+ui v≤16→gr (zF v++r) c s=gr r (c++[v]) s
 | .mk k t n u f l,c,s,r,ho,hb,hd=>by
   rw[Dn,aaS]at hb;obtain⟨hb1,hb2⟩:=hb;have h1:s≠[]→k≠uM s:=by
    intro hs e;have h0:=ho hs;simp[h0,e]at hb1
   rw[ui]at hd;rw[zF]
   by_cases hc:dE k=0
   ·rw[if_pos hc]at hb2 hd ⊢;have hl:l=[]:=by simpa using hb2
    subst hl;rw[aaQ,List.nil_append,gr,J0 (t:=⟨k,t,n,u,f⟩) h1 hc];rfl
   ·rw[if_neg hc]at hb2 hd ⊢;rw[aaQ,TO,gr,J1 (t:=⟨k,t,n,u,f⟩) h1 hc (by omega)];dsimp only;rw[Ib l [] ((⟨k,t,n,u,f⟩,c):: s) _ (fun _=>hc) hb2 (by simp;omega),List.nil_append,aaQ,List.nil_append,gr,J2 (o:=⟨k,t,n,u,f⟩) rfl];rfl
theorem Ib:∀(l:List Vl) (c:List Vl) (s:List (Tok×List Vl)) (r:List Tok),(s≠[]→uM s≠0)→fc (uM s) l=false→s.length+dr l≤16→gr (dV l++r) c s=gr r (c++l) s
 | [],c,s,r,_,_,_=>by rw[dV];simp
 | v:: l,c,s,r,ho,hb,hd=>by
   rw[fc,aaS]at hb;rw[dr]at hd;rw[dV,TO,YY v c s _ ho hb.1 (by omega),Ib l (c++[v]) s r ho hb.2 (by omega)];simp
end
def JX(l:List Vl)(hb:fc 0 l=false)(hd:dr l≤16)(hn:cT l≤1500):jB (dV l)=(l,0):=by
 have h:=Ib l [] [] [] (fun z=>absurd rfl z) hb (by simpa using hd);rw[aal,List.nil_append,gr]at h;unfold jB;rw[mC,if_neg (by omega),h];show (if 1500<cT l+([]:List (Tok×List Vl)).length then (([]:List Vl),(4:Int)) else (pH l [],0))=_;rw[if_neg (by simp;omega)];rfl
def Od(l:List Vl)(hb:fc 0 l=false)(hd:dr l≤16)(hn:cT l≤1500):ic l=0:=by
 unfold ic;rw[if_neg (by omega),if_neg (by omega),hb];rfl
end
section
open Go Go.Aw
variable [Laid]
end
section
open Go Go.Aw Go.bE
def de(b:UInt8):Bool:=decide (48≤(b.toNat:Int))&&decide ((b.toNat:Int)≤57)
def WQ(b:UInt8):Int:=dn .or .u8 (b.toNat:Int) 32
def fN(b:UInt8):Bool:=decide (97≤WQ b)&&decide (WQ b≤122)&&decide ((b.toNat:Int)<128)
def fK(b:UInt8):Bool:=fN b||de b||decide ((b.toNat:Int)=95)||decide ((b.toNat:Int)=45)||decide (128≤(b.toNat:Int))
def oa:List UInt8:=[48,49,50,51,52,53,54,55,56,57,97,98,99,100,101,102,103,104,105,106,107,108,109,110,111,112,113,114,115,116,117,118,119,120,121,122]
def D0(b:UInt8):List UInt8:=if 16≤b.toNat then [oa.getD (b.toNat/16) 0,oa.getD (b.toNat%16) 0] else [oa.getD b.toNat 0]
def Ev(b:UInt8):Bool:=decide (32<(b.toNat:Int))&&decide ((b.toNat:Int)<127)&&!de b&&!fN b
def dP(b:UInt8):List UInt8:=if Ev b then [92,b] else [92]++D0 b++[32]
section
variable [Laid]
end
variable [bB]
end
section
open Go Go.Aw Go.bE
variable [bB]
end
section
open Go Go.Aw Go.bE
def pD(s:ao):Nat:=if s.take 1=[45] then 2 else 1
def oo(s:ao)(fr i:Nat)(c:UInt8):Bool:=fK c&&(decide ((fr:Int)≤(i:Int))||!de c)&&(decide ((fr:Int)=0)||!decide (s=[45]))
def so(s:ao)(fr i:Nat)(c:UInt8):ao:=if oo s fr i c then [c] else dP c
def B8(s:ao)(fr k:Nat):ao:=(List.range k).flatMap fun i=>so s fr i (s.getD i 0)
def vf(s:ao):ao:=B8 s (pD s) s.length
def Mz(s:ao)(fr k:Nat):B8 s fr (k+1)=B8 s fr k++so s fr k (s.getD k 0):=by
 unfold B8;rw[List.range_succ,List.flatMap_append];simp
variable [bB]
end
section
open Go Go.Aw Go.bE
variable [bB]
omit [bB] in
def Di{K:AV→Prop}(ex:x=.str a)(ey:y=.str b)(hc:a++b=c)(hl:c.length≤maxLen)(q:K (.str c)):ag .add x y K:=by
 subst ex;subst ey;subst hc;exact⟨by simpa using hl,q⟩
def zza{K:AV→Prop}(hc:a++b=c)(hl:c.length≤maxLen)(q:K (.str c)):ag .add (.str a) (.str b) K:=Di rfl rfl hc hl q
end
section
open Go Go.Aw Go.bE
end
section
open Go Go.Aw
variable [Laid]
end
section
end
section
open Go Go.Aw Go.bE Go.RowKit
def rf_(n:Int):Bool:=decide (-1000000000≤n)&&decide (n≤1000000000)
variable [bB]
end
section
open Go Go.Aw Go.bE
mutual
def gX:Cx→Bool
 | .mk _ ps _=>WJ ps
def WJ:List Cp→Bool
 | []=>true
 | p:: l=>gP p&&WJ l
def gP:Cp→Bool
 | .mk _ ss=>WK ss
def WK:List Sm→Bool
 | []=>true
 | s:: l=>gS s&&WK l
def gS:Sm→Bool
 | .mk _ _ o _ _ _ _ _ l=>decide (0≤o)&&WL l
def WL:List Cx→Bool
 | []=>true
 | x:: l=>gX x&&WL l
end
def SU(ts:List ao):Nat:=(ts.map fun t=>t.length+3).sum
def kO(ts:List ao):ts.flatten.length≤SU ts:=by
 induction ts with
 | nil=>simp
 | cons t l ih=>unfold SU at *;simp only[aaM,BY,IF,List.sum_cons];omega
end
section
open Go Go.Aw Go.jh Go.RowKit
open Go.bE hiding u1 ao
def Tq(s:ao)(a:Nat)(l:List Tok)(b:Nat):Prop:=a≤b∧b≤s.length∧lK s (Rt.fI s a)=l++lK s (Rt.fI s b)
def Tq.trans(x:Tq s a l b)(y:Tq s b m c):Tq s a (l++m) c:=⟨aat x.1 y.1,y.2.1,by rw[x.2.2,y.2.2,TO]⟩
def Eu(h:Rt.aJ s b≠47):Rt.fI s b=b:=by
 rw[Rt.fI,dif_neg];rintro⟨h1,h2⟩;unfold Rt.hasB at h2;have h2:=uP h2;have h3:((s.drop b).take 2)[0]?=some 47:=by rw[show (s.drop b).take 2=[47,42] from h2];rfl
 rw[To,if_pos (by decide),aag,Nat.add_zero]at h3;apply h;unfold Rt.aJ;rw[nO,h3];rfl
def Tq.one(h:a<s.length)(e:jA s a=(t,b))(hp:Rt.aJ s a≠47):Tq s a [t] b:=by
 have h1:=xd h;rw[e]at h1;refine⟨by omega,h1.2, ?_⟩;rw[Eu hp,lK,dif_pos h,e];rfl
def nV(h:s.drop a=y)(i:Nat):Rt.aJ s (a+i)=y.getD i 0:=by
 subst h;unfold Rt.aJ;rw[nO,nO,aag]
def kH(h:s.drop a=y):Rt.aJ s a=y.getD 0 0:=nV h 0
def jc{s y:ao}{a:Nat}(h:s.drop a=y)(i:Nat):s[a+i]?=y[i]?:=by
 subst h;rw[aag]
def mM{s x r:ao}{a:Nat}(h:s.drop a=x++r):s.drop (a+x.length)=r:=by
 rw[←List.drop_drop,h,List.drop_left]
def lj{s r:ao}{c:UInt8}{a:Nat}(h:s.drop a=c:: r):a<s.length:=by
 have:=congrArg List.length h;simp at this;omega
/-! ### Escapes -/
def vJ(h:n<16):Rt.gK (oa.getD n 0)=n∧oa.getD n 0≠10:=by
 have:∀k:Fin 16,Rt.gK (oa.getD k.val 0)=(k.val:Int)∧oa.getD k.val 0≠10:=by decide
 exact this ⟨n,h⟩
def G5(h0:c≠0)(h:c.toNat<128):Rt.rE c.toNat=[c]:=by
 have h1:c.toNat≠0:=fun e=>h0 (UInt8.toNat_inj.1 (by simpa using e));unfold Rt.rE;rw[if_neg (by omega),if_pos h];simp
def BT(h:s[i]?=some c)(hc:Rt.gK c<0):Rt.ju s (k+1) i n=(n,i):=by
 rw[Rt.ju,h];dsimp only;rw[if_neg (by omega)]
def Al{i k n m:Nat}(h:s[i]?=some c)(hc:Rt.gK c=m):Rt.ju s (k+1) i n=Rt.ju s k (i+1) (16*n+m):=by
 rw[Rt.ju,h];dsimp only;rw[if_pos (by omega),hc];rfl
def DQ{s r:ao}{a:Nat}{c:UInt8}(h:s.drop a=dP c++r)(h0:c≠0)(h128:c.toNat<128):Rt.dP s a=true∧Rt.cP s a=([c],a+(dP c).length):=by
 unfold dP at h ⊢
 by_cases hp:Ev c=true
 ·rw[if_pos hp]at h ⊢;have e1:=jc h 1;have e0:=kH h;have e2:=nV h 1;simp at e1 e0 e2;have hx:Rt.gK c<0∧c≠10:=by
   have key:∀k:Fin 128,Ev (UInt8.ofNat k.val)=true→Rt.gK (UInt8.ofNat k.val)<0∧UInt8.ofNat k.val≠10:=by decide +kernel
   have:=key ⟨c.toNat,h128⟩;simpa using this (by simpa using hp)
  refine⟨?_, ?_⟩
  ·unfold Rt.dP;rw[e0,e2];simp[hx.2]
  ·unfold Rt.cP;rw[e1];dsimp only;rw[if_pos hx.1];rfl
 ·rw[if_neg hp]at h ⊢;have e0:Rt.aJ s a=92:=by rw[kH h];rfl
  have h32:Rt.gK 32<0:=by decide
  by_cases h16:16≤c.toNat
  ·have hh:D0 c=[oa.getD (c.toNat/16) 0,oa.getD (c.toNat%16) 0]:=by unfold D0;rw[if_pos h16]
   obtain⟨x1,y1⟩:=vJ (n:=c.toNat/16) (by omega);obtain⟨x2,y2⟩:=vJ (n:=c.toNat%16) (by omega);rw[hh]at h ⊢;generalize oa.getD (c.toNat/16) 0=d1 at h x1 y1;generalize oa.getD (c.toNat%16) 0=d2 at h x2 y2;have g1:s[a+1]?=some d1:=by rw[jc h 1];rfl
   have g2:s[a+2]?=some d2:=by rw[jc h 2];rfl
   have g3:s[a+3]?=some 32:=by rw[jc h 3];rfl
   have a1:Rt.aJ s (a+1)=d1:=by rw[nV h 1];rfl
   have a3:Rt.aJ s (a+3)=32:=by rw[nV h 3];rfl
   refine⟨by unfold Rt.dP;rw[e0,a1];simp[y1], ?_⟩;unfold Rt.cP;rw[g1];dsimp only;rw[if_neg (by omega),Al g1 x1,Al (i:=a+1+1) g2 x2,BT (i:=a+1+1+1) g3 h32];dsimp only;rw[show Rt.aJ s (a+1+1+1)=32 from a3,if_pos (by decide),show 16*(16*0+c.toNat/16)+c.toNat%16=c.toNat by omega,G5 h0 h128];rfl
  ·have hh:D0 c=[oa.getD c.toNat 0]:=by unfold D0;rw[if_neg h16]
   obtain⟨x1,y1⟩:=vJ (n:=c.toNat) (by omega);rw[hh]at h ⊢;generalize oa.getD c.toNat 0=d1 at h x1 y1;have g1:s[a+1]?=some d1:=by rw[jc h 1];rfl
   have g2:s[a+2]?=some 32:=by rw[jc h 2];rfl
   have a1:Rt.aJ s (a+1)=d1:=by rw[nV h 1];rfl
   have a2:Rt.aJ s (a+2)=32:=by rw[nV h 2];rfl
   refine⟨by unfold Rt.dP;rw[e0,a1];simp[y1], ?_⟩;unfold Rt.cP;rw[g1];dsimp only;rw[if_neg (by omega),Al g1 x1,BT (i:=a+1+1) g2 h32];dsimp only;rw[show Rt.aJ s (a+1+1)=32 from a2,if_pos (by decide),show 16*0+c.toNat=c.toNat by omega,G5 h0 h128];rfl
def mG{P:UInt8→Prop}(h:∀k:Fin 256,P (UInt8.ofNat k.val))(c:UInt8):P c:=by
 have:=h ⟨c.toNat,c.toNat_lt⟩;simpa using this
def GK:∀c:UInt8,fK c=Rt.fN c:=mG (by decide +kernel)
def DI:∀c:UInt8,de c=Rt.de c:=mG (by decide +kernel)
def N8:∀c:UInt8,128≤c.toNat→fK c=true∧de c=false:=mG (P:=fun c=>128≤c.toNat→fK c=true∧de c=false) (by decide +kernel)
def Iu(r:ao):Prop:=∀c,r.head?=some c→Rt.fN c=false∧c≠92
def Mx(h:s.drop a=r)(hr:Iu r):Rt.cW s a=([],a):=by
 rw[Rt.cW];split
 ·rename_i hi;have e:s.drop a=s[a]:: s.drop (a+1):=aaK hi;have hc:=hr s[a] (by rw[←h,e];rfl);have h92:Rt.aJ s a=s[a]:=by unfold Rt.aJ;rw[nO,bY hi];rfl
  rw[if_neg (by rw[hc.1];decide),if_neg];unfold Rt.dP;rw[h92];simp[hc.2]
 ·rfl
def My(h:s.drop a=c:: r)(hc:Rt.fN c=true):Rt.cW s a=(c:: (Rt.cW s (a+1)).1,(Rt.cW s (a+1)).2):=by
 have hi:=lj h;have e:s[a]=c:=by
  have:=jc h 0;simp at this;exact (dO.1 this).2
 rw[Rt.cW,dif_pos hi];rw[if_pos (by rw[e];exact hc),e]
def Mu(h:s.drop a=dP c++r)(h0:c≠0)(h128:c.toNat<128):Rt.cW s a=(c:: (Rt.cW s (a+(dP c).length)).1,(Rt.cW s (a+(dP c).length)).2):=by
 obtain⟨h1,h2⟩:=DQ h h0 h128;have hne:∃y,dP c=92:: y:=by unfold dP;split<;>exact⟨_,rfl⟩
 obtain⟨y,hy⟩:=hne;have hi:a<s.length:=lj (c:=92) (r:=y++r) (by rw[h,hy];rfl);have e:s[a]=92:=by
  have:=jc h 0;rw[hy]at this;simp at this;exact (dO.1 this).2
 rw[Rt.cW,dif_pos hi,if_neg (by rw[e];decide),if_pos h1,h2];rfl
def ra(n:ao)(fr i k:Nat):ao:=(List.range' i k).flatMap fun j=>so n fr j (n.getD j 0)
def Ia(n:ao)(fr:Nat):ra n fr 0 n.length=B8 n fr n.length:=by unfold ra B8;rw[List.range_eq_range']
def uB(n:ao)(fr i k:Nat):ra n fr i (k+1)=so n fr i (n.getD i 0)++ra n fr (i+1) k:=by unfold ra;rw[List.range'_succ];rfl
def Be{fr i:Nat}(hc:n.getD i 0=c)(hi:i<n.length)(h:oo n fr i c=false):c.toNat<128:=by
 rcases AS c.toNat 128 with k|k
 ·exact k
 ·exfalso;obtain⟨h1,h2⟩:=N8 c k;unfold oo at h;rw[h1,h2]at h;simp at h;obtain⟨_,rfl⟩:=h;simp at hi;subst hi;simp at hc;subst hc;simp at k
theorem ye(n:ao)(fr:Nat)(hz:∀c∈n,c≠0):∀(k i:Nat),i+k=n.length→∀(s r:ao) (a:Nat),s.drop a=ra n fr i k++r→Iu r→Rt.cW s a=(n.drop i,a+(ra n fr i k).length)
 | 0,i,hk,s,r,a,h,hr=>by
   rw[show ra n fr i 0=[] from rfl,List.nil_append]at h;rw[Mx h hr,List.drop_of_length_le (by omega)];rfl
 | k+1,i,hk,s,r,a,h,hr=>by
   have hi:i<n.length:=by omega
   obtain⟨c,hc⟩:∃c,n.getD i 0=c:=⟨_,rfl⟩;have hci:n[i]=c:=by rw[←hc,nO,bY hi];rfl
   have hd:n.drop i=c:: n.drop (i+1):=by rw[aaK hi,hci]
   have hc0:c≠0:=hz c (by rw[←hci];exact aaw hi);rw[uB,hc]at h ⊢;unfold so at h ⊢;cases hw:oo n fr i c with
   | true =>
     rw[hw,if_pos rfl,TO]at h;rw[if_pos rfl];have hl:Rt.fN c=true:=by
      unfold oo at hw;simp only[On]at hw;rw[←GK];exact hw.1.1
     have ih:=ye n fr hz k (i+1) (by omega) s r (a+1) (mM (x:=[c]) h) hr;rw[My (by simpa using h) hl,ih,hd];simp;omega
   | false =>
     rw[hw,if_neg (by decide),TO]at h;rw[if_neg (by decide)];have h128:=Be hc hi hw;have ih:=ye n fr hz k (i+1) (by omega) s r (a+(dP c).length) (mM h) hr;rw[Mu h hc0 h128,ih,hd];simp;omega
def JP(hz:∀c∈n,c≠0)(h:s.drop a=vf n++r)(hr:Iu r):Rt.cW s a=(n,a+(vf n).length):=by
 have:=ye n (pD n) hz n.length 0 (by omega) s r a (by rw[Ia];exact h) hr;rw[Ia,List.drop_zero]at this;exact this
def yf(n:ao)(fr j:Nat)(c:UInt8):∃b y,so n fr j c=b:: y∧((oo n fr j c=true∧b=c∧Rt.fN b=true)∨(oo n fr j c=false∧b=92)):=by
 unfold so;cases h:oo n fr j c with
 | true =>
   refine⟨c,[],by rw[if_pos rfl],.inl ⟨rfl,rfl, ?_⟩⟩;unfold oo at h;simp only[On]at h;rw[←GK];exact h.1.1
 | false =>
   rw[if_neg (by decide)];unfold dP;split
   ·exact⟨92,_,rfl,.inr ⟨rfl,rfl⟩⟩
   ·exact⟨92,_,rfl,.inr ⟨rfl,rfl⟩⟩
structure Ng(s:ao)(a:Nat):Prop where
 nam:Rt.jz s a=true
 num:Rt.lN s a=false
 cdc:Rt.hasB s a [45,45,62]=false
 b:Rt.fN (Rt.aJ s a)=true∨Rt.aJ s a=92
 d:Rt.de (Rt.aJ s a)=false
def B0:∀c:UInt8,Rt.fN c=true→Rt.de c=false→c≠45→Rt.uQ c=true:=mG (P:=fun c=>Rt.fN c=true→Rt.de c=false→c≠45→Rt.uQ c=true) (by decide +kernel)
def TT:∀c:UInt8,Rt.uQ c=true→c≠43∧c≠45∧c≠46∧Rt.de c=false:=mG (P:=fun c=>Rt.uQ c=true→c≠43∧c≠45∧c≠46∧Rt.de c=false) (by decide +kernel)
def L9(h:Rt.hasB s a [x,y,z]=true):s[a]?=some x∧s[a+1]?=some y∧s[a+2]?=some z:=by
 unfold Rt.hasB at h;have h:=uP h;have q:∀i,i<3→s[a+i]?=([x,y,z]:ao)[i]?:=fun i hi=>by
  rw[←h,To,if_pos (by simpa using hi),aag]
 exact⟨q 0 (by decide),q 1 (by decide),q 2 (by decide)⟩
def zk(h:Rt.aJ s a=b)(h1:b≠43)(h2:b≠45)(h3:b≠46)(h4:Rt.de b=false):Rt.lN s a=false:=by
 have e:(if Rt.aJ s a=43∨Rt.aJ s a=45 then a+1 else a)=a:=if_neg (fun z=>z.elim (fun z=>h1 (by rw[←h];exact z)) fun z=>h2 (by rw[←h];exact z));unfold Rt.lN;simp only[e];rw[if_neg (by rw[h];exact h3),h];exact h4
def Tc(h:Rt.aJ s a=45)(h1:Rt.aJ s (a+1)=b)(h3:b≠46)(h4:Rt.de b=false):Rt.lN s a=false:=by
 have e:(if Rt.aJ s a=43∨Rt.aJ s a=45 then a+1 else a)=a+1:=if_pos (.inr h);unfold Rt.lN;simp only[e];rw[if_neg (by rw[h1];exact h3),h1];exact h4
def IM(hz:∀c∈n,c≠0)(hn:n≠[])(h:s.drop a=vf n++r)(hr:r.head?≠some 62):Ng s a:=by
 cases n with
 | nil=>exact absurd rfl hn
 | cons c0 m =>
   have e0:vf (c0:: m)=so (c0:: m) (pD (c0:: m)) 0 c0++ra (c0:: m) (pD (c0:: m)) 1 m.length:=by
    show B8 _ _ _=_;rw[←Ia,aab,uB];rfl
   rw[e0]at h;obtain⟨b,y,hb,hcase⟩:=yf (c0:: m) (pD (c0:: m)) 0 c0;rw[hb,aaQ,aaQ]at h;have ha0:Rt.aJ s a=b:=by rw[kH h];rfl
   rcases hcase with⟨hraw,rfl,hl⟩|⟨hraw,rfl⟩
   ·-- it stands for itself
    have hraw2:=hraw;unfold oo at hraw;simp only[On,aaH,aaI,OF,decide_eq_false_iff_not]at hraw;have hfr:1≤pD (b:: m):=by unfold pD;split<;>decide
    have hd:Rt.de b=false:=by
     rw[←DI];rcases hraw.1.2 with z|z
     ·omega
     ·exact z
    have hy:y=[]:=by
     unfold so at hb;rw[if_pos hraw2]at hb;simpa using hb.symm
    subst hy
    by_cases h45:b=45
    ·subst h45;have hfr2:pD (45:: m)=2:=by unfold pD;rw[if_pos (by simp)]
     rw[hfr2]at h hraw;cases m with
     | nil =>
       exfalso;rcases hraw.2 with z|z
       ·omega
       ·exact z rfl
     | cons c1 m =>
       have e1:ra (45:: c1:: m) 2 1 (c1:: m).length=so (45:: c1:: m) 2 1 c1++ra (45:: c1:: m) 2 2 m.length:=by rw[aab,uB];rfl
       rw[e1]at h;obtain⟨b1,y1,hb1,hcase1⟩:=yf (45:: c1:: m) 2 1 c1;have hP1:=hb1;rw[hb1]at h;have ha1:Rt.aJ s (a+1)=b1:=by rw[nV h 1];rfl
       have hd1:Rt.de b1=false∧b1≠46:=by
        rcases hcase1 with⟨q1,rfl,q3⟩|⟨_,rfl⟩
        ·unfold oo at q1;simp only[On,aaH,aaI,OF]at q1;refine⟨?_,fun e=>by subst e;exact absurd q3 (by decide)⟩;rw[←DI];rcases q1.1.2 with z|z
         ·omega
         ·exact z
        ·exact⟨by decide,by decide⟩
       refine⟨?_, ?_, ?_,.inl (by rw[ha0];exact hl),by rw[ha0];exact hd⟩
       ·unfold Rt.jz;rw[ha0,if_pos rfl,ha1];rcases hcase1 with⟨q1,rfl,q3⟩|⟨q1,rfl⟩
        ·by_cases z:b1=45
         ·simp[z]
         ·rw[B0 _ q3 hd1.1 z];rfl
        ·have hc1:c1.toNat<128:=Be (n:=45:: c1:: m) (i:=1) rfl (by simp) q1;have hesc:s.drop (a+1)=dP c1++(ra (45:: c1:: m) 2 2 m.length++r):=by
          unfold so at hP1;rw[if_neg (by rw[q1];decide)]at hP1;have:=mM (x:=[45]) (r:=(92:: y1)++ra (45:: c1:: m) 2 2 m.length++r) (a:=a) (by simpa using h);rw[hP1,←TO];exact this
         rw[(DQ hesc (hz c1 (by simp)) hc1).1];simp
       ·exact Tc ha0 ha1 hd1.2 hd1.1
       ·cases hh:Rt.hasB s a [45,45,62] with
        | false=>rfl
        | true =>
          exfalso;obtain⟨_,g1,g2⟩:=L9 hh;rw[jc h 1]at g1;rw[jc h 2]at g2;have hb45:b1=45:=by simpa using g1
          subst hb45;rcases hcase1 with⟨q1,_,q3⟩|⟨_,q⟩
          ·have hy1:y1=[]:=by
            unfold so at hP1;rw[if_pos q1]at hP1;have:=(List.cons.inj hP1).2;exact this.symm
           subst hy1;cases m with
           | nil =>
             have e2:ra (45:: c1:: []) 2 2 ([]:List UInt8).length=[]:=rfl;rw[e2]at g2;simp at g2;cases r with
             | nil=>simp at g2
             | cons z r=>simp at g2;subst g2;exact hr rfl
           | cons c2 m =>
             rw[aab,uB]at g2;obtain⟨b2,y2,hb2,hcase2⟩:=yf (45:: c1:: c2:: m) 2 2 ((45:: c1:: c2:: m).getD 2 0);rw[hb2]at g2;simp at g2;subst g2;rcases hcase2 with⟨_,_,z⟩|⟨_,z⟩
             ·exact absurd z (by decide)
             ·exact absurd z (by decide)
          ·exact absurd q (by decide)
    ·have hst:=B0 b hl hd h45;obtain⟨n1,n2,n3,n4⟩:=TT b hst;refine⟨?_, ?_, ?_,.inl (by rw[ha0];exact hl),by rw[ha0];exact hd⟩
     ·unfold Rt.jz;rw[ha0,if_neg h45,hst];rfl
     ·exact zk ha0 n1 n2 n3 n4
     ·cases hh:Rt.hasB s a [45,45,62] with
      | false=>rfl
      | true =>
        exfalso;obtain⟨g0,_,_⟩:=L9 hh;have:Rt.aJ s a=45:=by unfold Rt.aJ;rw[nO,g0];rfl
        rw[ha0]at this;exact h45 this
   ·have hc0:c0.toNat<128:=Be (n:=c0:: m) (i:=0) rfl (by simp) hraw;have hesc:s.drop a=dP c0++(ra (c0:: m) (pD (c0:: m)) 1 m.length++r):=by
     have hb2:=hb;unfold so at hb2;rw[if_neg (by rw[hraw];decide)]at hb2;rw[h,hb2];simp
    refine⟨?_, ?_, ?_,.inr ha0,by rw[ha0];decide⟩
    ·unfold Rt.jz;rw[ha0,if_neg (by decide),(DQ hesc (hz c0 (by simp)) hc0).1];simp
    ·exact zk ha0 (by decide) (by decide) (by decide) (by decide)
    ·cases hh:Rt.hasB s a [45,45,62] with
     | false=>rfl
     | true =>
       exfalso;obtain⟨g0,_,_⟩:=L9 hh;have:Rt.aJ s a=45:=by unfold Rt.aJ;rw[nO,g0];rfl
       rw[ha0]at this;exact absurd this (by decide)
def YP(h:Rt.hasB s a (x:: y)=true):Rt.aJ s a=x:=by
 unfold Rt.hasB at h;have h:=uP h;have q:s[a+0]?=(x:: y)[0]?:=by
  rw[←h,To,if_pos (by simp),aag]
 unfold Rt.aJ;rw[nO];simp at q;rw[q];rfl
def DZ(h:Rt.aJ s a≠x):Rt.hasB s a (x:: y)=false:=by
 cases e:Rt.hasB s a (x:: y) with
 | false=>rfl
 | true=>exact absurd (YP e) h
def JB:∀c:UInt8,(Rt.fN c=true∨c=92)→Rt.je c=false∧c≠34∧c≠39∧c≠35∧c≠60∧c≠64∧c≠47:=mG (P:=fun c=>(Rt.fN c=true∨c=92)→Rt.je c=false∧c≠34∧c≠39∧c≠35∧c≠60∧c≠64∧c≠47) (by decide +kernel)
def GL(b:Ng s a):jA s a=pL s a:=by
 obtain⟨h1,h2,h3,h4,h5,h6,_⟩:=JB _ b.b;unfold jA;dsimp only;rw[if_neg (by rw[h1];decide),if_neg (fun z=>z.elim h2 h3),if_neg (fun z=>h4 z.1),if_neg (by rw[b.num];decide),if_neg (by rw[b.cdc];decide),if_neg (by rw[DZ h5];decide),if_neg (fun z=>h6 z.1),if_pos b.nam]
structure Nx(r:ao):Prop where
 s:Iu r
 g:r.head?≠some 62
def Ng.no(b:Ng s a):Rt.aJ s a≠47:=by
 obtain⟨_,_,_,_,_,_,h⟩:=JB _ b.b;exact h
def IL(h:s.drop a=x++r):Rt.aJ s (a+x.length)=r.getD 0 0:=kH (mM h)
def Uu{r:ao}{c:UInt8}(h:r.head?≠some c)(hc:c≠0):r.getD 0 0≠c:=by
 cases r with
 | nil=>simpa using hc.symm
 | cons x r=>simpa using h
def Md{n s r:ao}{a:Nat}(hz:∀c∈n,c≠0)(hn:n≠[])(h:s.drop a=vf n++r)(hr:Nx r)(h40:r.head?≠some 40):Tq s a [⟨1,n,0,[],false⟩] (a+(vf n).length):=by
 have hb:=IM hz hn h hr.g;have hnam:=JP hz h hr.s;have hlt:a<s.length:=by
  rcases AS a s.length with k|k
  ·exact k
  ·exfalso;have e:=hb.b;have:Rt.aJ s a=0:=by unfold Rt.aJ;rw[nO,lE k];rfl
   rw[this]at e;rcases e with e|e<;>exact absurd e (by decide)
 refine Tq.one hlt ?_ hb.no;rw[GL hb];unfold pL;dsimp only;rw[hnam];dsimp only;rw[if_pos (by rw[IL h];exact Uu h40 (by decide))]
def Pf(hz:∀c∈n,c≠0)(hn:n≠[])(hu:n.map bE.eI≠Rt.yy)(h:s.drop a=vf n++40:: r):Tq s a [⟨2,n,0,[],false⟩] (a+(vf n).length+1):=by
 have hS:Iu (40:: r):=fun c hc=>by cases hc;exact⟨by decide,by decide⟩
 have hb:=IM hz hn h (by simp);have hnam:=JP hz h hS;have hend:=IL h;have hd:=mM h;have hlt:a<s.length:=by have:=lj hd;omega
 refine Tq.one hlt ?_ hb.no;rw[GL hb];unfold pL;dsimp only;rw[hnam];dsimp only;rw[if_neg (by rw[hend];exact fun z=>z rfl),if_neg (fun z=>hu z.1)]
def Bj(c:UInt8):Bool:=!Rt.je c&&!decide (c=34)&&!decide (c=39)&&!decide (c=35)&&!decide (c=45)&&!decide (c=60)&&!decide (c=64)&&!Rt.uQ c&&!decide (c=92)&&!Rt.de c
def EM(h:Rt.aJ s a=c)(hc:Bj c=true)(hn:Rt.lN s a=false):jA s a=(if 0≤Lib.indexByte Rt.np c then (⟨16+Lib.indexByte Rt.np c,[],0,[],false⟩,a+1) else (⟨9,[c],0,[],false⟩,a+1)):=by
 unfold Bj at hc;simp only[On,aaI,decide_eq_false_iff_not]at hc;obtain⟨⟨⟨⟨⟨⟨⟨⟨⟨h1,h2⟩,h3⟩,h4⟩,h5⟩,h6⟩,h7⟩,h8⟩,h9⟩,_⟩:=hc;have hnam:Rt.jz s a=false:=by
  unfold Rt.jz;rw[h,if_neg h5,h8];unfold Rt.dP;rw[h];simp[h9]
 unfold jA;dsimp only;rw[h,if_neg (by rw[h1];decide),if_neg (fun z=>z.elim h2 h3),if_neg (fun z=>h4 z.1),if_neg (by rw[hn];decide),if_neg (by rw[DZ (by rw[h];exact h5)];decide),if_neg (by rw[DZ (by rw[h];exact h6)];decide),if_neg (fun z=>h7 z.1),if_neg (by rw[hnam];decide)]
def Pz{a k:Nat}(h:s.drop a=c:: r)(hc:Bj c=true)(hk:Lib.indexByte Rt.np c=k)(h43:c≠43)(h46:c≠46)(h47:c≠47):Tq s a [⟨16+(k:Int),[],0,[],false⟩] (a+1):=by
 have hat:Rt.aJ s a=c:=by rw[kH h];rfl
 have hsolo:=hc;unfold Bj at hc;simp only[On,aaI,decide_eq_false_iff_not]at hc;refine Tq.one (lj h) ?_ (by rw[hat];exact h47);rw[EM hat hsolo (zk hat h43 hc.1.1.1.1.1.2 h46 hc.2),hk,if_pos (by omega)]
def LN(h:s.drop a=c:: r)(hc:Bj c=true)(hk:Lib.indexByte Rt.np c=-1)(hn:Rt.lN s a=false)(h47:c≠47):Tq s a [⟨9,[c],0,[],false⟩] (a+1):=by
 have hat:Rt.aJ s a=c:=by rw[kH h];rfl
 refine Tq.one (lj h) ?_ (by rw[hat];exact h47);rw[EM hat hc hn,hk,if_neg (by decide)]
def MW(h:s.drop a=32:: r)(hs:∀c,r.head?=some c→Rt.je c=false):Tq s a [⟨13,[],0,[],false⟩] (a+1):=by
 have hat:Rt.aJ s a=32:=by rw[kH h];rfl
 refine Tq.one (lj h) ?_ (by rw[hat];decide);have he:Rt.dU s a=a+1:=by
  unfold Rt.dU;rw[h,List.takeWhile_cons,if_pos (by decide)];cases r with
  | nil=>rfl
  | cons x r=>rw[List.takeWhile_cons,if_neg (by rw[hs x rfl];decide)];rfl
 unfold jA;dsimp only;rw[hat,if_pos (by decide),he]
end
section
open Go Go.Aw Go.Qt Go.RowKit Go.jh
open Go.bE hiding u1 ao
def WB(s:ao):Prop:=∀c∈s,c≠0∧c≠12∧c≠13
theorem WB.app{a b:ao}(x:WB a)(y:WB b):WB (a++b):=fun c hc=>(IN.1 hc).elim (x c) (y c)
theorem FL:∀s:ao,WB s→dN s=s
 | [],_=>by rw[dN]
 | c:: s,h=>by
   have hc:=h c (aaJ ..);have e:ue c=[c]:=by
    unfold ue;rw[if_neg (fun e=>e.elim hc.2.2 hc.2.1),if_neg hc.1]
   rw[oV (fun e=>hc.2.2 e.1),e,FL s fun d hd=>h d (MK _ hd)];rfl
def TX(x:ao)(l:List Tok)(N:ao→Prop):Prop:=∀(s r:ao) (a:Nat),a≤s.length→s.drop a=x++r→N r→Tq s a l (a+x.length)
theorem TX.cat{x y:ao}{l m:List Tok}{N1 N:ao→Prop}(h1:TX x l N1)(h2:TX y m N)(hn:∀r,N r→N1 (y++r)):TX (x++y) (l++m) N:=by
 intro s r a ha h hr;rw[TO]at h;have t1:=h1 s (y++r) a ha h (hn r hr);have t2:=h2 s r (a+x.length) t1.2.1 (mM h) hr;rw[BY,←Nat.add_assoc];exact t1.trans t2
def pN(c:UInt8):Bool:=!Rt.fN c&&!decide (c=92)&&!decide (c=62)&&!decide (c=40)
def NX(r:ao):Prop:=∀c,r.head?=some c→pN c=true
abbrev Any(_:ao):Prop:=True
def NS(r:ao):Prop:=∀c,r.head?=some c→Rt.je c=false
theorem NX.nx{r:ao}(h:NX r):Nx r∧r.head?≠some 40:=by
 have key:∀c,r.head?=some c→Rt.fN c=false∧c≠92∧c≠62∧c≠40:=fun c hc=>by
  have:=h c hc;unfold pN at this;simp only[On,aaI,decide_eq_false_iff_not]at this;exact⟨this.1.1.1,this.1.1.2,this.1.2,this.2⟩
 exact⟨⟨fun c hc=>⟨(key c hc).1,(key c hc).2.1⟩,fun e=>(key 62 e).2.2.1 rfl⟩,fun e=>(key 40 e).2.2.2 rfl⟩
theorem NX.cons{c:UInt8}(r:ao)(h:pN c=true):NX (c:: r):=fun x hx=>by cases hx;exact h
theorem NS.cons{c:UInt8}(r:ao)(h:Rt.je c=false):NS (c:: r):=fun x hx=>by cases hx;exact h
def lf(k:Int)(t:ao):Vl:=.mk k t 0 [] false []
theorem yw{n:ao}(hz:∀c∈n,c≠0)(hn:n≠[])(e:vf n=n):TX n [⟨1,n,0,[],false⟩] NX:=fun s r a _ h hr=>by
 have:=Md (n:=n) hz hn (by rw[e];exact h) hr.nx.1 hr.nx.2;rw[e]at this;exact this
theorem G3{n:ao}(hz:∀c∈n,c≠0)(hn:n≠[])(e:vf n=n)(hu:n.map bE.eI≠Rt.yy):TX (n++[40]) [⟨2,n,0,[],false⟩] Any:=fun s r a _ h _=>by
 rw[BY,←Nat.add_assoc];have:=Pf (n:=n) (r:=r) hz hn hu (by rw[e,h];simp);rw[e]at this;exact this
theorem Bq{c:UInt8}{k:Nat}(hc:Bj c=true)(hk:Lib.indexByte Rt.np c=k)(h43:c≠43)(h46:c≠46)(h47:c≠47):TX [c] [⟨16+(k:Int),[],0,[],false⟩] Any:=fun _ _ _ _ h _=>Pz h hc hk h43 h46 h47
theorem P7:TX [42] [⟨9,[42],0,[],false⟩] Any:=fun s r a _ h _=>by
 have hat:Rt.aJ s a=42:=by rw[kH h];rfl
 exact LN h (by decide) (by decide) (zk hat (by decide) (by decide) (by decide) (by decide)) (by decide)
theorem yx:TX [32] [⟨13,[],0,[],false⟩] NS:=fun _ _ _ _ h hr=>MW h hr
theorem C1{s:ao}{v:List Vl}{l:List Cx}(w:WB s)(t:TX s (dV v) NX)(hb:fc 0 v=false)(hd:dr v≤16)(hl:s.length≤4000)(hc:cT v≤1500)(hr:iG 3 false v false false=(l,true))(h64:number l≤64):xG s=(l,0):=by
 have h:=t s [] 0 (aao _) (by rw[aal];rfl) (fun x hx=>by cases hx);have h1:Rt.fI s s.length=s.length:=Eu (by unfold Rt.aJ;rw[nO,lE (aS _)];decide);have t2:lK s (Rt.fI s 0)=dV v:=by rw[h.2.2,aaq,h1,lK.eq_def,dif_neg (Nat.lt_irrefl _),aal]
 have e:iu s=(dV v,0):=by
  unfold iu;rw[FL _ w,t2,mC,if_neg (by omega),if_neg (by omega)]
 unfold xG;rw[e];dsimp only;rw[if_pos rfl,JX _ hb hd (by omega),if_pos rfl];dsimp only;unfold JR;rw[if_pos (Od _ hb hd (by omega)),hr];dsimp only;rw[if_pos rfl,if_neg (by omega)]
/-! ### The tag -/
theorem fS{g:Qt.ao}(h:Qt.fK g=true):1≤g.length∧g.length≤64∧Qt.Jn g=true∧∀c∈g,Qt.cx c=true:=by
 unfold Qt.fK at h;simp only[On,OF,AT]at h;exact⟨h.1.1.1,h.1.1.2,h.1.2,h.2⟩
theorem tL:∀c:UInt8,Qt.cx c=true→fK c=true∧eI c=c∧(c == 0)=false:=by
 have key:∀n,n<256→(fun c:UInt8=>!Qt.cx c||(fK c&&decide (eI c=c)&&!(c == 0))) (UInt8.ofNat n)=true:=by decide +kernel
 intro c hc;have:=key c.toNat c.toNat_lt;rw[UInt8.ofNat_toNat]at this;simp only at this;rw[hc]at this;simpa[On,and_assoc]using this
theorem Qa:∀c:UInt8,Qt.cx c=true→c≠0∧c≠12∧c≠13:=by
 have key:∀n,n<256→(fun c:UInt8=>!Qt.cx c||(decide (c≠0)&&decide (c≠12)&&decide (c≠13))) (UInt8.ofNat n)=true:=by decide +kernel
 intro c hc;have:=key c.toNat c.toNat_lt;rw[UInt8.ofNat_toNat]at this;simp only at this;rw[hc]at this;simpa[On,and_assoc]using this
theorem Pk:∀c:UInt8,(decide ((97:Int)≤c.toNat)&&decide ((c.toNat:Int)≤122))=true→de c=false∧c≠45∧c≠42:=by
 have key:∀n,n<256→(fun c:UInt8=>!(decide ((97:Int)≤c.toNat)&&decide ((c.toNat:Int)≤122))||(!de c&&decide (c≠45)&&decide (c≠42))) (UInt8.ofNat n)=true:=by decide +kernel
 intro c hc;have:=key c.toNat c.toNat_lt;rw[UInt8.ofNat_toNat]at this;simp only at this;rw[hc]at this;simpa[On,and_assoc]using this
theorem ET{g:Qt.ao}(h:Qt.fK g=true):∃c r,g=c:: r∧de c=false∧c≠45∧c≠42:=by
 obtain⟨h1,_,h3,_⟩:=fS h;cases g with
 | nil=>simp at h1
 | cons c r=>exact⟨c,r,rfl,Pk c h3⟩
theorem nC{g:Qt.ao}(h:Qt.fK g=true):g≠[]∧g≠[42]:=by
 obtain⟨c,r,rfl,_,_,h42⟩:=ET h;exact⟨by simp,fun e=>h42 (by simpa using (List.cons.inj e).1)⟩
theorem P1{g:Qt.ao}(h:Qt.fK g=true):vf g=g:=by
 obtain⟨c,r,e,hd,h45,_⟩:=ET h;have hb:=(fS h).2.2.2;have hf:pD g=1:=by
  unfold pD;rw[e,List.take_succ_cons,List.take_zero,if_neg];intro q;exact h45 (List.cons.inj q).1
 have hg45:decide (g=[45])=false:=oF (by rw[e];intro q;exact h45 (List.cons.inj q).1);have key:∀k,k≤g.length→B8 g 1 k=g.take k:=by
  intro k;induction k with
  | zero=>intro _;rfl
  | succ k ih =>
    intro hk;have hk':k<g.length:=by omega
    have hgk:g[k]?=some (g.getD k 0):=by rw[nO,bY hk'];rfl
    rw[Mz,ih (by omega),DO,hgk]
    congr 1
    unfold so;have hm:=(tL _ (hb _ (eQ hgk))).1;have hr:oo g 1 k (g.getD k 0)=true:=by
     unfold oo;rw[hm,hg45]
     by_cases e0:k=0
     ·subst e0;have:g.getD 0 0=c:=by rw[e];rfl
      rw[this,hd];simp
     ·rw[tO (show ((1:Nat):Int)≤(k:Int) by omega)];simp
    rw[if_pos hr];rfl
 unfold vf;rw[hf,key _ (aS _),Gt]
theorem mV{g:Qt.ao}(h:Qt.fK g=true):small g=true:=by
 obtain⟨h1,h2,_,h4⟩:=fS h;have hz:pq g=true:=AT.2 fun c hc=>by rw[(tL c (h4 c hc)).2.2];rfl
 have hm:g.map eI=g:=by
  conv=>rhs;rw[←List.map_id g]
  exact List.map_congr_left fun c hc=>(tL c (h4 c hc)).2.1
 unfold small named;rw[hz,oF (nC h).1,tO (show (g.length:Int)≤64 by omega),tO hm];rfl
/-! ### The lists -/
def jy(k:Int)(l:List Cx):Sm:=.mk k [] 0 [] false 0 0 false l
def va(g:Qt.ao):List Cx:=[dw (fj g [5]),.mk 0 [.mk [] [jy 11 [dw (fj g [5])]],.mk [42] []] [1],dw (fj [] [5])]
def vb(g:Qt.ao):List Cx:=[dw (fj g [4])]
def vc(g:Qt.ao):List Cx:=[dw (.mk g [jy 13 [dw (fj [] [5])]])]
def vd(g:Qt.ao):List Cx:=[dw (fj g [])]
def KG(g:Qt.ao):Qt.ao:=g++[58,118,105,115,105,116,101,100,44,32,58,105,115,40]++g++[58,118,105,115,105,116,101,100,41,32,42,44,32,58,118,105,115,105,116,101,100]
def TY(g:Qt.ao):Qt.ao:=g++[58,108,105,110,107]
def TZ(g:Qt.ao):Qt.ao:=g++[58,110,111,116,40,58,118,105,115,105,116,101,100,41]
/-! ### Their values -/
def jY:ao:=[118,105,115,105,116,101,100]
def HV:ao:=[108,105,110,107]
def B6(g:Qt.ao):List Vl:=[lf 1 g,lf 16 [],lf 1 jY,lf 18 [],lf 13 [],lf 16 [],.mk 2 [105,115] 0 [] false [lf 1 g,lf 16 [],lf 1 jY],lf 13 [],lf 9 [42],lf 18 [],lf 13 [],lf 16 [],lf 1 jY]
def GB(g:Qt.ao):List Vl:=[lf 1 g,lf 16 [],lf 1 HV]
def B7(g:Qt.ao):List Vl:=[lf 1 g,lf 16 [],.mk 2 [110,111,116] 0 [] false [lf 16 [],lf 1 jY]]
def GC(g:Qt.ao):List Vl:=[lf 1 g]
theorem CY{n:ao}(h:n.all (fun c=>c != 0)=true):∀c∈n,c≠0:=fun c hc=>by have:=AT.1 h c hc;simpa using this
theorem C4:TX jY [⟨1,jY,0,[],false⟩] NX:=yw (CY (by decide)) (by decide) (by decide)
theorem U7:TX HV [⟨1,HV,0,[],false⟩] NX:=yw (CY (by decide)) (by decide) (by decide)
theorem uR:TX [58] [⟨16,[],0,[],false⟩] Any:=Bq (k:=0) (by decide) (by decide) (by decide) (by decide) (by decide)
theorem NR:TX [44] [⟨18,[],0,[],false⟩] Any:=Bq (k:=2) (by decide) (by decide) (by decide) (by decide) (by decide)
theorem NQ:TX [41] [⟨22,[],0,[],false⟩] Any:=Bq (k:=6) (by decide) (by decide) (by decide) (by decide) (by decide)
theorem Y9:TX [105,115,40] [⟨2,[105,115],0,[],false⟩] Any:=G3 (n:=[105,115]) (CY (by decide)) (by decide) (by decide) (by decide)
theorem U8:TX [110,111,116,40] [⟨2,[110,111,116],0,[],false⟩] Any:=G3 (n:=[110,111,116]) (CY (by decide)) (by decide) (by decide) (by decide)
theorem vV{c:UInt8}{y:ao}(h:pN c=true):∀r,NX r→NX (c:: y++r):=fun _ _=>NX.cons _ h
theorem lk{y:ao}{N:ao→Prop}:∀r,N r→Any (y++r):=fun _ _=>(by trivial)
theorem MN{c:UInt8}{y:ao}(h:Rt.je c=false):∀r,NX r→NS (c:: y++r):=fun _ _=>NS.cons _ h
theorem y4:nJ jY=(bare 5,true):=by kernel_rfl
theorem yZ:nJ HV=(bare 4,true):=by kernel_rfl
theorem YN(sub:Sub)(v:List Vl)(l:List Cx)(hs:sub 11 v false true=some (l,true)):kP sub [105,115] v=(jy 11 l,true):=by
 have e:jv iI (cq [105,115])=7:=by kernel_rfl
 unfold kP;simp only[e];rw[if_neg (by decide),if_neg (by decide)];show (match sub 11 v false true with|none=>_|some (l,b)=>_)=_;rw[hs];rfl
theorem Ur(sub:Sub)(v:List Vl)(l:List Cx)(hs:sub 13 v false false=some (l,true)):kP sub [110,111,116] v=(jy 13 l,true):=by
 have e:jv iI (cq [110,111,116])=9:=by kernel_rfl
 unfold kP;simp only[e];rw[if_neg (by decide),if_neg (by decide)];show (match sub 13 v false false with|none=>_|some (l,b)=>_)=_;rw[hs];rfl
theorem zO{n:ao}(e:n.all (fun c=>c != 0&&c != 12&&c != 13)=true):WB n:=fun c hc=>by
 have:=AT.1 e c hc;simpa[and_assoc]using this
section
variable {g:Qt.ao} (h:Qt.fK g=true)
include h
theorem xl:TX g [⟨1,g,0,[],false⟩] NX:=yw (fun c hc e=>by have:=(tL c ((fS h).2.2.2 c hc)).2.2;rw[e]at this;cases this) (nC h).1 (P1 h)
theorem wy:WB g:=fun c hc=>Qa c ((fS h).2.2.2 c hc)
theorem tD:cq g=g:=by
 unfold cq
 conv=>rhs;rw[←List.map_id g]
 exact List.map_congr_left fun c hc=>(tL c ((fS h).2.2.2 c hc)).2.1
theorem t_A:TX (KG g) (dV (B6 g)) NX:=by
 have w1:=TX.cat uR C4 lk;have w2:=TX.cat (xl h) w1 (vV (by decide));have w3:=TX.cat NQ (TX.cat yx (TX.cat P7 (TX.cat NR (TX.cat yx w1 (MN (by decide))) lk) lk) (MN (by decide))) lk;have w4:=TX.cat Y9 (TX.cat (xl h) (TX.cat uR (TX.cat C4 w3 (vV (by decide))) lk) (vV (by decide))) lk;have w5:=TX.cat (xl h) (TX.cat uR (TX.cat C4 (TX.cat NR (TX.cat yx (TX.cat uR w4 lk) (MN (by decide))) lk) (vV (by decide))) lk) (vV (by decide));have e1:g++([58]++(jY++([44]++([32]++([58]++([105,115,40]++(g++([58]++(jY++([41]++([32]++([42]++([44]++([32]++([58]++jY)))))))))))))))=KG g:=by simp[KG,jY]
 rw[e1]at w5;exact w5
theorem t_B:TX (TY g) (dV (GB g)) NX:=TX.cat (xl h) (TX.cat uR U7 lk) (vV (by decide))
theorem t_C:TX (TZ g) (dV (B7 g)) NX:=by
 have hx:TX [41] [⟨22,[],0,[],false⟩] NX:=fun s r a x y _=>NQ s r a x y (by trivial);exact TX.cat (xl h) (TX.cat uR (TX.cat U8 (TX.cat uR (TX.cat C4 hx (vV (by decide))) lk) lk) lk) (vV (by decide))
theorem r_D:iG 3 false (GC g) false false=(vd g,true):=by
 simp[GC,vd,iG,lf,fv,iJ,nN,jr,jG,iA,cR,eL,ef,gJ,y4,yZ,tD h,fi,nr,nq,jn,my,lh,jQ,mV h,(nC h).1,Vl.kind,Vl.text,Vl.list,bare,fj,dw,jy]
theorem r_B:iG 3 false (GB g) false false=(vb g,true):=by
 simp[GB,vb,iG,lf,fv,iJ,nN,jr,jG,iA,cR,eL,ef,gJ,y4,yZ,tD h,fi,nr,nq,jn,my,lh,jQ,mV h,(nC h).1,Vl.kind,Vl.text,Vl.list,bare,fj,dw,jy]
theorem r_v(k:Nat)(hk:k≤3):iG k false [lf 1 g,lf 16 [],lf 1 jY] false true=([dw (fj g [5])],true):=by
 cases k<;>simp[iG,lf,fv,iJ,nN,jr,jG,iA,cR,eL,ef,gJ,y4,yZ,tD h,fi,nr,nq,jn,my,lh,jQ,mV h,(nC h).1,Vl.kind,Vl.text,Vl.list,bare,fj,dw,jy]
omit h in
theorem r_u:iG 2 false [lf 16 [],lf 1 jY] false false=([dw (fj [] [5])],true):=by kernel_rfl
theorem r_C:iG 3 false (B7 g) false false=(vc g,true):=by
 obtain⟨S,hS⟩:∃S:Sub,S=fun kd v rel forg=>if false=true∧kd=14 then none else some (iG 2 (false||decide (kd=14)) v rel forg):=⟨_,rfl⟩
 have e3:iG 3 false (B7 g) false false=iJ (nN (kP S) (fi 0 false) false) false (fv (B7 g)) []:=by rw[hS];rfl
 have hs:S 13 [lf 16 [],lf 1 jY] false false=some ([dw (fj [] [5])],true):=by
  rw[hS];show (if false=true∧(13:Int)=14 then none else some (iG 2 false [lf 16 [],lf 1 jY] false false))=_;rw[if_neg (by simp),r_u]
 have e:=Ur S [lf 16 [],lf 1 jY] _ hs;clear hS hs;rw[e3];simp[lf]at e;simp[B7,vc,e,lf,fv,iJ,nN,jr,jG,iA,cR,eL,ef,gJ,y4,yZ,tD h,fi,nr,nq,mA,lF,rh,jn,my,lh,jQ,mV h,(nC h).1,Vl.kind,Vl.text,Vl.list,bare,fj,dw,jy]
theorem r_A:iG 3 false (B6 g) false false=(va g,true):=by
 obtain⟨S,hS⟩:∃S:Sub,S=fun kd v rel forg=>if false=true∧kd=14 then none else some (iG 2 (false||decide (kd=14)) v rel forg):=⟨_,rfl⟩
 have e3:iG 3 false (B6 g) false false=iJ (nN (kP S) (fi 0 false) false) false (fv (B6 g)) []:=by rw[hS];rfl
 have hs:S 11 [lf 1 g,lf 16 [],lf 1 jY] false true=some ([dw (fj g [5])],true):=by
  rw[hS];show (if false=true∧(11:Int)=14 then none else some (iG 2 false [lf 1 g,lf 16 [],lf 1 jY] false true))=_;rw[if_neg (by simp),r_v h 2 (by decide)]
 have e:=YN S [lf 1 g,lf 16 [],lf 1 jY] _ hs;clear hS hs;rw[e3];simp[lf]at e;simp[B6,va,e,lf,fv,iJ,nN,jr,jG,iA,cR,eL,ef,gJ,y4,yZ,tD h,fi,nr,nq,mA,lF,rh,jn,my,lh,jQ,mV h,(nC h).1,Vl.kind,Vl.text,Vl.list,bare,fj,dw,jy]
theorem Y1:xG (KG g)=(va g,0):=by
 have hl:=(fS h).2.1;have e1:fc 0 (B6 g)=false:=rfl;have e2:Nat.ble (dr (B6 g)) 16=true:=rfl;have e3:Nat.ble (cT (B6 g)) 1500=true:=rfl;have e4:Nat.ble (number (va g)) 64=true:=rfl;exact C1 ((((wy h).app (zO (by decide))).app (wy h)).app (zO (by decide))) (t_A h) e1 (nE e2) (by simp[KG];try omega) (nE e3) (r_A h) (nE e4)
theorem Y2:xG (TY g)=(vb g,0):=by
 have hl:=(fS h).2.1;have e1:fc 0 (GB g)=false:=rfl;have e2:Nat.ble (dr (GB g)) 16=true:=rfl;have e3:Nat.ble (cT (GB g)) 1500=true:=rfl;have e4:Nat.ble (number (vb g)) 64=true:=rfl;exact C1 ((wy h).app (zO (by decide))) (t_B h) e1 (nE e2) (by simp[TY];try omega) (nE e3) (r_B h) (nE e4)
theorem Y3:xG (TZ g)=(vc g,0):=by
 have hl:=(fS h).2.1;have e1:fc 0 (B7 g)=false:=rfl;have e2:Nat.ble (dr (B7 g)) 16=true:=rfl;have e3:Nat.ble (cT (B7 g)) 1500=true:=rfl;have e4:Nat.ble (number (vc g)) 64=true:=rfl;exact C1 ((wy h).app (zO (by decide))) (t_C h) e1 (nE e2) (by simp[TZ];try omega) (nE e3) (r_C h) (nE e4)
theorem Y4:xG (g)=(vd g,0):=by
 have hl:=(fS h).2.1;have e1:fc 0 (GC g)=false:=rfl;have e2:Nat.ble (dr (GC g)) 16=true:=rfl;have e3:Nat.ble (cT (GC g)) 1500=true:=rfl;have e4:Nat.ble (number (vd g)) 64=true:=rfl;exact C1 (v:=GC g) (wy h) (xl h) e1 (nE e2) (by omega) (nE e3) (r_D h) (nE e4)
end
end
end Go.Proofs.YtkfakehconamoaaGreatDoor
section
namespace Go.Qt
open Go Go.Aw
theorem pZ:∀{a b c:ao},Op.bytesLess a b=true→Op.bytesLess b c=true→Op.bytesLess a c=true
 | [],[],_,h,_=>by simp[Op.bytesLess]at h
 | [],_:: _,[],_,h=>by simp[Op.bytesLess]at h
 | [],_:: _,_:: _,_,_=>rfl
 | _:: _,[],_,h,_=>by simp[Op.bytesLess]at h
 | _:: _,_:: _,[],_,h=>by simp[Op.bytesLess]at h
 | x:: a,y:: b,z:: c,h1,h2=>by
   have ih:=@pZ a b c;simp only[Op.bytesLess,aaH,On,OF,beq_iff_eq]at h1 h2 ih ⊢;rcases h1 with h1|⟨rfl,h1⟩<;>rcases h2 with h2|⟨rfl,h2⟩
   ·exact .inl (UInt8.lt_trans h1 h2)
   ·exact .inl h1
   ·exact .inl h2
   ·exact .inr ⟨rfl,ih h1 h2⟩
theorem Dv:∀a b:ao,decide (Lib.compareBytes a b<0)=Op.bytesLess a b
 | [],[]=>rfl
 | [],_:: _=>rfl
 | _:: _,[]=>rfl
 | a:: as',b:: bs=>by
   have ih:=Dv as' bs;simp only[Lib.compareBytes,Op.bytesLess]
   by_cases h1:a<b
   ·simp[h1]
   ·by_cases h2:b<a
    ·have:¬a=b:=fun e=>by subst e;exact h1 h2
     simp[h1,h2,this]
    ·have e:a=b:=UInt8.le_antisymm (UInt8.not_lt.1 h2) (UInt8.not_lt.1 h1);subst e;simp only[h1,if_false,decide_false,Bool.false_or,beq_self_eq_true,Bool.true_and];exact ih
theorem FN:∀a b:ao,Lib.compareBytes a b=0↔a=b
 | [],[]=>by simp[Lib.compareBytes]
 | [],_:: _=>by simp[Lib.compareBytes]
 | _:: _,[]=>by simp[Lib.compareBytes]
 | a:: as',b:: bs=>by
   have ih:=FN as' bs;simp only[Lib.compareBytes]
   by_cases h1:a<b
   ·have:¬a=b:=fun e=>by subst e;exact UInt8.lt_irrefl _ h1
    simp[h1,this]
   ·by_cases h2:b<a
    ·have:¬a=b:=fun e=>by subst e;exact h1 h2
     simp[h1,h2,this]
    ·have e:a=b:=UInt8.le_antisymm (UInt8.not_lt.1 h2) (UInt8.not_lt.1 h1);subst e;simp[h1,ih]
def key(l:List (ao×ao))(i:Nat):ao:=(l.getD i ([],[])).1
theorem ub{l:List (ao×ao)}(h:gH l=true):∀q p:Nat,p<q→q<l.length→Op.bytesLess (key l p) (key l q)=true:=by
 unfold gH at h;rw[On,AT]at h;have step:∀k,k+1<l.length→Op.bytesLess (key l k) (key l (k+1))=true:=fun k hk=>by
  have:=h.1 (k+1) (ID.2 hk);unfold vY at this;simp only[On,aaH,OF]at this;rcases this.2 with e|e
  ·omega
  ·exact e
 intro q;induction q with
 | zero=>intro p hp;omega
 | succ q ih =>
   intro p hp hq
   by_cases e:p=q
   ·subst e;exact step p hq
   ·exact pZ (ih p (by omega) (by omega)) (step q hq)
theorem Ln{l:List (ao×ao)}(h:gH l=true)(s:ao):∀(n i j:Nat),i≤j→j≤l.length→j-i≤n→(∀p,p<i→u2 l s p<0)→(∀p,j≤p→p<l.length→¬u2 l s p<0) →
 (∀p,p<xt l s n i j→u2 l s p<0)∧(∀p,xt l s n i j≤p→p<l.length→¬u2 l s p<0):=by
 have hlt:∀p,u2 l s p<0↔Op.bytesLess (key l p) s=true:=fun p=>by
  have:=Dv (key l p) s;unfold u2;show Lib.compareBytes (key l p) s<0↔_;rw[←this,OF]
 intro n;induction n with
 | zero=>intro i j hij hj hn hi hj2;rw[xt];obtain rfl:i=j:=(by omega);exact⟨hi,hj2⟩
 | succ n ih =>
   intro i j hij hj hn hi hj2;rw[xt];split
   ·rename_i q;split
    ·rename_i z;refine ih _ _ (by omega) hj (by omega) (fun p hp=>?_) hj2
     by_cases e:p=(i+j)/2
     ·rw[e];exact z
     ·exact (hlt p).2 (pZ (ub h _ p (by omega) (by omega)) ((hlt _).1 z))
    ·rename_i z;refine ih _ _ (by omega) (by omega) (by omega) hi (fun p hp hl=>?_);intro hc
     by_cases e:p=(i+j)/2
     ·rw[e]at hc;exact z hc
     ·exact z ((hlt _).2 (pZ (ub h p _ (by omega) hl) ((hlt p).1 hc)))
   ·obtain rfl:i=j:=by omega
    exact⟨hi,hj2⟩
theorem N9{l:List (ao×ao)}(h:gH l=true)(s:ao):uZ l s=true↔∃m,m<l.length∧key l m=s:=by
 have sp:=Ln h s l.length 0 l.length (aao _) (aS _) (aS _) (fun p hp=>absurd hp (aap _)) (fun p h1 h2=>by omega);have e0:∀p,u2 l s p=0↔key l p=s:=fun p=>FN (key l p) s;unfold uZ;rw[On,OF,OF];constructor
 ·rintro⟨h1,h2⟩;exact⟨_,h1,(e0 _).1 h2⟩
 ·rintro⟨m,hm,hk⟩;have c0:=(e0 m).2 hk;have hle:td l s≤m:=Nat.le_of_not_lt fun q=>by have:=sp.1 m q;omega
  by_cases e:td l s=m
  ·rw[e];exact⟨hm,c0⟩
  ·have hlt:td l s<m:=by omega
   have hs:=ub h m _ hlt hm;rw[hk]at hs;have:=Dv (key l (td l s)) s;rw[hs,OF]at this;exact absurd this (sp.2 _ (aS _) (by omega))
end Go.Qt
namespace Go.Proofs.YtkfakehconamoaaGreatDoor
open Go Go.Aw Go.Qt
theorem Gg(l:List (Qt.ao×Qt.ao))(s:Qt.ao):∀n,n≤l.length→(0≤qP l s n↔∃m,l.length-n≤m∧m<l.length∧key l m=s)
 | 0,_=>by
   rw[qP];constructor
   ·intro h;omega
   ·rintro⟨m,h1,h2,_⟩;omega
 | n+1,hn=>by
   have ih:=Gg l s n (by omega);rw[qP];split
   ·rename_i e;exact⟨fun _=>⟨l.length-(n+1),aS _,by omega,e⟩,fun _=>by omega⟩
   ·rename_i e;rw[ih];constructor
    ·rintro⟨m,h1,h2,h3⟩;exact⟨m,by omega,h2,h3⟩
    ·rintro⟨m,h1,h2,h3⟩;refine⟨m, ?_,h2,h3⟩
     by_cases q:m=l.length-(n+1)
     ·subst q;exact absurd h3 e
     ·omega
theorem PK{t:bg}(h:cU t=true){c:Int}(c0:0≤c)(c1:c<t.length):gH (Qt.nd t c).dZ=true:=by
 have:=AT.1 (lW h) c.toNat (ID.2 (by omega));unfold rf at this;simp only[On]at this;rw[Int.toNat_of_nonneg c0]at this;exact this.1.2
theorem UB{t:bg}(h:cU t=true){i:Int}(h0:0≤i)(h1:i<t.length):SW t i=jd t i:=by
 have hb:=N9 (PK h h0 h1) oH;have hf:=Gg (Qt.nd t i).dZ oH _ (aS _);have hg:decide ((vI t i oH).2=0)=uZ (Qt.nd t i).dZ oH:=by
  unfold vI;rw[if_pos (sY h h0 h1)];cases uZ (Qt.nd t i).dZ oH<;>rfl
 unfold SW jd;rw[hg,Bool.and_comm]
 congr 1
 rw[Bool.eq_iff_iff,hb,OF,hf];constructor
 ·rintro⟨m,_,h2,h3⟩;exact⟨m,h2,h3⟩
 ·rintro⟨m,h2,h3⟩;exact⟨m,by omega,h2,h3⟩
end Go.Proofs.YtkfakehconamoaaGreatDoor
end
section
namespace Go.Qt
open Go Go.Aw Go.bE
theorem xO{t:bg}{f:Int→Bool}{i:Int}(h0:0≤i)(h1:i<t.length):(jM t f).getD i.toNat false=f i:=by
 rw[nO,N5 (by omega)];rw[Int.toNat_of_nonneg h0];rfl
section
variable {t:bg} (M:Sm→Int→Bool) (P:Int→Int→List Int) {i:Int} (h0:0≤i) (h1:i<t.length)
include h0 h1
theorem tE(l:List Cx):(mL t M P l).getD i.toNat false=l.any fun x=>(mX t M P x).getD i.toNat false:=by
 rw[mL,Cc,xO h0 h1,w7];unfold rj;rw[List.any_map];rfl
omit h0 h1 in
theorem qX(p:Cp):(mX t M P (dw p)).getD i.toNat false=(mP t M P p).getD i.toNat false:=by
 unfold dw;rw[mX,nQ,nQ];rfl
theorem JG(p:Cp):(mP t M P p).getD i.toNat false=vD t M (oq (vT t M P p.bo)) p i:=by
 cases p with
 | mk g ss=>rw[mP,xO h0 h1];rfl
theorem zh(g:ao)(s:Sm):(mP t M P (.mk g [s])).getD i.toNat false=(kT t i g&&(if gA s.kind then (mS t M P s).getD i.toNat false else M s i)):=by
 rw[JG M P h0 h1];unfold vD;show (kT t i g&&vk M _ i 0 [s])=_;rw[vk,vk,Bool.and_true,show Cp.bo (.mk g [s])=[s] from rfl,vT,vT];rfl
end
end Go.Qt
namespace Go.Proofs.YtkfakehconamoaaGreatDoor
open Go Go.Aw Go.Qt Go.RowKit
open Go.bE hiding u1 ao
theorem UC(t:bg)(M:Sm→Int→Bool)(P:Int→Int→List Int)(l:List Cx):mS t M P (jy 11 l)=mL t M P l:=by rw[wZ];exact if_pos (.inl rfl)
theorem UD(t:bg)(M:Sm→Int→Bool)(P:Int→Int→List Int)(l:List Cx):mS t M P (jy 13 l)=(mL t M P l).map not:=by rw[wZ];rfl
section
variable {t:bg} {i:Int} (h0:0≤i) (h1:i<t.length)
include h0 h1
abbrev zg(t:bg)(l:List Cx)(i:Int):Bool:=(mL t (kM t) (aP t) l).getD i.toNat false
omit h0 h1 in
theorem JQ{i:Int}(h:0≤i):decide (i=-1)=false:=oF (by omega)
theorem C6(g:Qt.ao):(mP t (kM t) (aP t) (fj g [5])).getD i.toNat false=false:=by
 unfold fj;rw[IF,List.map_nil,zh _ _ h0 h1];have:gA (bare 5).kind=false:=rfl;rw[this];show (kT t i g&&sh t 5 i)=false;unfold sh;rw[if_pos rfl,JQ h0,Bool.and_false]
theorem v_D(g:Qt.ao):zg t (vd g) i=kT t i g:=by
 unfold zg vd;rw[tE _ _ h0 h1,List.any_cons,List.any_nil,Bool.or_false,qX,JG _ _ h0 h1];unfold vD fj;show (kT t i g&&vk _ _ i 0 [])=_;rw[vk,Bool.and_true]
theorem v_B(g:Qt.ao):zg t (vb g) i=(kT t i g&&jd t i):=by
 unfold zg vb;rw[tE _ _ h0 h1,List.any_cons,List.any_nil,Bool.or_false,qX];unfold fj;rw[IF,List.map_nil,zh _ _ h0 h1];have:gA (bare 4).kind=false:=rfl;rw[this];show (kT t i g&&sh t 4 i)=_;unfold sh;rw[if_neg (by decide),if_pos rfl,JQ h0,Bool.not_false,Bool.and_true]
theorem v_C(g:Qt.ao):zg t (vc g) i=kT t i g:=by
 unfold zg vc;rw[tE _ _ h0 h1,List.any_cons,List.any_nil,Bool.or_false,qX,zh _ _ h0 h1];have:gA (jy 13 [dw (fj [] [5])]).kind=true:=rfl;rw[this,if_pos rfl,UD];have hl:=nn t (kM t) (aP t) [dw (fj [] [5])];have e:((mL t (kM t) (aP t) [dw (fj [] [5])]).map not).getD i.toNat false=!(mL t (kM t) (aP t) [dw (fj [] [5])]).getD i.toNat false:=by
  rw[nO,nO,iS,bY (by omega)];rfl
 rw[e,tE _ _ h0 h1];rw[List.any_cons,List.any_nil,Bool.or_false,qX,C6 h0 h1,Bool.not_false,Bool.and_true]
theorem v_A(ba:cU t=true)(g:Qt.ao):zg t (va g) i=false:=by
 unfold zg va;rw[tE _ _ h0 h1,List.any_cons,List.any_cons,List.any_cons,List.any_nil,qX,qX,C6 h0 h1,C6 h0 h1,Bool.or_false,Bool.or_false,Bool.false_or];have e:mX t (kM t) (aP t) (.mk 0 [.mk [] [jy 11 [dw (fj g [5])]],.mk [42] []] [1])=El t (aP t) 1 (mP t (kM t) (aP t) (.mk [42] [])) (mP t (kM t) (aP t) (.mk [] [jy 11 [dw (fj g [5])]])):=by
  rw[mX,nQ,nQ,nQ];rfl
 rw[e,El,xO h0 h1,Bool.and_eq_false_iff];right;rw[List.any_eq_false];intro p hp;have hpi:=(FF ba h0 h1).2 p hp;rw[zh _ _ hpi.1 hpi.2];have:gA (jy 11 [dw (fj g [5])]).kind=true:=rfl;rw[this,if_pos rfl,UC,tE _ _ hpi.1 hpi.2];rw[List.any_cons,List.any_nil,Bool.or_false,qX,C6 hpi.1 hpi.2,Bool.and_false];decide
end
def vx(t:bg)(f:Int→Bool)(i:Int):List Int:=((jT t i).drop 1).filter f
theorem Et{t:bg}(ba:cU t=true){i:Int}(h0:0≤i)(h1:i<t.length):∀k∈(jT t i).drop 1,0≤k∧k<t.length:=fun k hk=>by
 have eo:jT t i=gq t t.length i:=by unfold jT;rw[if_pos (sY ba h0 h1)]
 exact (oh ba _ i h0 h1 k (eo▸List.mem_of_mem_drop hk)).1
theorem yK{t:bg}(ba:cU t=true){i:Int}(h0:0≤i)(h1:i<t.length){l:List Cx}{f:Int→Bool}(hf:∀k:Int,0≤k→k<t.length→zg t l k=f k):Dq t (mL t (kM t) (aP t) l) i=vx t f i:=by
 unfold Dq vx;exact List.filter_congr fun k hk=>hf k (Et ba h0 h1 k hk).1 (Et ba h0 h1 k hk).2
end Go.Proofs.YtkfakehconamoaaGreatDoor
end
end
