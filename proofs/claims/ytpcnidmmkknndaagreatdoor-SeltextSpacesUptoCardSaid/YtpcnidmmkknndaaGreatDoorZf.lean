/-
 Names,texts without a byte 0,small letters,progressions: what the program's checks hand back.
 No conditions.
-/
import Derived.Lib.IndexLaws
import Derived.Test.YtpcnidmmkknndaaGreatDoorProg
import Derived.Tactics
import Derived.Tactics2
import Derived.Defers
import Derived.Laws.Pointers
import Derived.RegionTactic
import Derived.RegionCalls
import Derived.ChangeAlike
import Derived.KernelRfl
import Derived.WalkKit
import Derived.Laws.Externs
import Derived.Test.YtpcnidmmkknndaaGreatDoorZe
import Derived.Test.YtpcnidmmkknndaaGreatDoorZc
import Derived.Test.YtpcnidmmkknndaaGreatDoorZd
set_option linter.unusedVariables false
set_option linter.unusedSimpArgs false
set_option maxRecDepth 1000000
set_option maxHeartbeats 16000000
open Go.Proofs.Tryz renaming prog→p_
noncomputable section
namespace Go.Proofs.YtpcnidmmkknndaaGreatDoor
section
open Go Go.Aw Go.bG
theorem ov(l:af):decide (0≤Lib.indexByte l 0)=!gD l:=by
 induction l with
 | nil=>rfl
 | cons b l ih =>
   have h1:=Lib.indexByte_ge l 0;rw[Bool.eq_iff_iff]at ih ⊢;simp only[Lib.indexByte,gD,aa2,aa8,Bool.and_eq_false_iff,Of]at ih ⊢
   by_cases e:b=0
   ·subst e;simp
   ·have e2:(b == 0)=false:=by simpa using e
    simp only[e2,aaJ,if_false]
    by_cases q:Lib.indexByte l 0=-1
    ·simp[q];have:¬0≤Lib.indexByte l 0:=by omega
     simp only[this,false_iff]at ih;simpa[gD]using ih
    ·simp[q];have:0≤Lib.indexByte l 0:=by omega
     simp only[this,true_iff]at ih;constructor
     ·intro _;simpa[gD]using ih
     ·intro _;omega
variable [Laid]
theorem ua(s:af):bn p_ 72 [.str s,u8 0] (i_ (Lib.indexByte s 0)):=by
 refine iu (v:=.int .i64 (Lib.indexByte s 0)) (by simp) (by simp) (by simp) (fun w=>by simp) ?_;intro ι S w vs h1 _
 match vs,h1 with
 | [],h1=>simp at h1
 | [v],h1=>simp at h1
 | v:: u:: x:: vs,h1=>simp at h1
 | [v,u],h1 =>
   simp only[bO,dp,and_true,eA,cz]at h1;obtain⟨⟨rfl,_⟩,rfl⟩:=h1;refine (Any.strings_IndexByte lays137 ⟨s.toArray⟩ 0 w).mono ?_;rintro e w' ⟨rfl,rfl⟩;exact⟨by simp,Go.RowKit.Below.refl _ _⟩
theorem zv(s:af)(n:Int):bn p_ 112 [.str s,i_ n] (b_ (decide (n<s.length)||!gD s)):=by
 refine (YF _ _).bj (by simp) (by simp) ?_;unfold Sn;repeat' (first|(with_reducible apply aH)|((with_reducible first|apply fe|apply lJ);rfl;rfl)|((with_reducible apply aM);rfl)|((with_reducible apply aO);rfl)|((with_reducible apply lN);rfl;intro _)|(refine uCon (ua _) ?_)|((with_reducible apply cE);rfl)|(with_reducible intro _))
 all_goals refine .pure (by simp) ?_
 all_goals simp only[dU,gF,AV.v.injEq,Value.bool.injEq,Value.int.injEq,true_and]at *
 all_goals first
  | grind [ov]
  | (simp_all [ov];done)
  | (simp_all [ov];omega)
theorem wO(s:af):bn p_ 108 [.str s] (b_ (named s)):=by
 refine (YB _).bj (by simp) (by simp) ?_;unfold Sg;repeat' (first|(with_reducible apply aH)|((with_reducible apply jN);rfl;rfl)|((with_reducible apply dM);rfl)|((with_reducible apply aM);rfl)|((with_reducible apply aO);rfl)|((with_reducible apply fw);rfl)|(refine uCon (zv _ _) ?_)|((with_reducible apply cE);rfl)|(with_reducible intro _))
 all_goals refine .pure (by simp) ?_
 all_goals simp only[dU,gF,AV.v.injEq,Value.bool.injEq,Value.int.injEq,true_and]at *
 all_goals first
  | grind [named]
  | (simp_all [named];done)
  | (simp_all [named];omega)
theorem Jw(n:Int):bn p_ 121 [i_ n] (b_ (gu n)):=by
 refine (YJ _).bj (by simp) (by simp) ?_;unfold Sr;repeat' (first|(with_reducible apply aH)|((with_reducible apply gI);rfl;rfl)|((with_reducible apply aM);rfl)|((with_reducible apply aO);rfl)|((with_reducible apply cE);rfl)|(with_reducible intro _))
 all_goals refine .pure (by simp) ?_
 all_goals simp only[dU,gF,AV.v.injEq,Value.bool.injEq,Value.int.injEq,true_and]at *
 all_goals first
  | grind [gu]
  | (simp_all [gu];done)
  | (simp_all [gu];omega)
theorem om(a b:Int):bn p_ 86 [.agg [i_ a,i_ b]] (i_ (if gu a&&gu b then 0 else 8)):=by
 refine (V86 _).bj (by simp) (by simp) ?_;unfold Ya;repeat' (first|(with_reducible apply aH)|((with_reducible apply dM);rfl)|((with_reducible apply aM);rfl)|((with_reducible apply aO);rfl)|((with_reducible apply ax);rfl;first|rfl|assumption)|((with_reducible apply jl);rfl)|((with_reducible apply fw);rfl)|((with_reducible apply aK);rfl)|((with_reducible apply aF);rfl;rfl;rfl)|((with_reducible apply fq);first|rfl|simp)|(refine uCon (Jw _) ?_)|((with_reducible apply ct);rfl)|((with_reducible apply cE);rfl)|(with_reducible intro _))
 all_goals refine .pure (by simp) ?_
 all_goals simp only[dU,gF,AV.v.injEq,Value.bool.injEq,Value.int.injEq,true_and]at *
 all_goals first
  | grind []
  | (simp_all [];done)
  | (simp_all [];omega)
end
section
open Go Go.Aw Go.bG
theorem Uc(b:UInt8)(h1:65≤(b.toNat:Int))(h2:(b.toNat:Int)≤90):di .or .u8 (b.toNat:Int) 32=((dF b).toNat:Int):=by
 have:∀n:Fin 26,di .or .u8 (((65+n.val:Nat)):Int) 32=((dF (UInt8.ofNat (65+n.val))).toNat:Int):=by decide
 have hb:b=UInt8.ofNat (65+(b.toNat-65)):=by
  rw[show 65+(b.toNat-65)=b.toNat by omega];simp
 have h:=this ⟨b.toNat-65,by omega⟩;simp only[show 65+(b.toNat-65)=b.toNat by omega]at h;rw[h];simp
theorem Fj(b:UInt8)(h:¬(65≤(b.toNat:Int)∧(b.toNat:Int)≤90)):dF b=b:=by
 unfold dF;rw[if_neg];intro⟨h1,h2⟩;rw[UInt8.le_iff_toNat_le]at h1 h2;simp at h1 h2;omega
def eS(s:af)(k:Nat):List AV:=((s.take k).map dF++s.drop k).map bg
theorem w7{s:af}{k:Nat}{b:UInt8}(hb:s[k]?=some b):(eS s k)[k]?=some (bg b):=by
 have hk:=(eQ.1 hb).1;unfold eS;rw[iN,gT (by simp;omega)];simp[Nat.min_eq_left (Nat.le_of_lt hk),hb]
theorem nv{s:af}{k:Nat}{b:UInt8}(hb:s[k]?=some b):(eS s k).set k (bg (dF b))=eS s (k+1):=by
 have hk:=(eQ.1 hb).1;refine List.ext_getElem? fun j=>?_;unfold eS;rcases Nat.lt_trichotomy j k with q|q|q
 ·rw[iF (by omega),iN,iN,gO (by simp;omega),gO (by simp;omega)];simp[q,Nat.lt_succ_of_lt q]
 ·subst q;rw[iD (by simp;omega),iN,gO (by simp;omega)];simp[hb]
 ·rw[iF (by omega),iN,iN,gT (by simp;omega),gT (by simp;omega)];simp[Nat.min_eq_left (Nat.le_of_lt hk),Nat.min_eq_left hk]
  congr 2;omega
theorem w8(s:af)(k:Nat):(eS s k).length=s.length:=by
 unfold eS;simp;omega
variable [Laid]
theorem jf(s:af):bn p_ 76 [.str s] (.str (s.map dF)):=by
 refine (V76 _).bj (by simp) (by simp) ?_;unfold X1;rw[vh,uj];intro hlen;refine bc (α:=Nat) (fun k=>k≤s.length) (fun k=>[i_ k]) (fun k=>[.ah ⟨5,eS s k,true⟩]) (fun k=>s.length-k) 0 (by simp) (by simpa[eS]using Wk.refl _ _ _ (by simp)) ?_;intro k hk
 by_cases q:k<s.length
 ·obtain⟨b,hb⟩:∃b,s[k]?=some b:=⟨s[k],dO q⟩;have hc:=w7 hb;refine zzC (zzL (by simpa using q) (aH ?_));have idx:∀{K:AV→Prop},K (.op 0 k)→aQ 1 (.own 0 0 s.length 1) (nx [i_ k] 0) K:=fun q2=>by
   rw[dU,HD];exact⟨rfl,⟨by omega,by omega⟩,by simpa using q2⟩
  refine idx (zzU rfl hc ?_);have hin:aJ ((k:Int)+1):=by unfold maxLen at hlen;unfold aJ;omega
  refine zzD (aH ?_);refine cE rfl (fun h1=>?_) (fun h1=>?_)
  ·refine zzD (aq (zzR ?_));refine ct rfl (fun h2=>?_) (fun h2=>?_)
   ·refine idx (zzU rfl hc ?_);rw[show ae .or (bg b) (u8 32)=fun K=>K (u8 (di .or .u8 (b.toNat:Int) 32)) from by funext K;simp[bg]];refine idx ?_;refine dP rfl rfl rfl rfl ?_ rfl rfl ?_
    ·simp[w8];omega
    refine aq (zzP hin (aq ?_));have h1:65≤(b.toNat:Int):=by simpa using h1
    have h2:(b.toNat:Int)≤90:=by simpa using h2
    refine⟨k+1,by omega, ?_,by omega⟩;rw[Uc b h1 h2];have:=nv hb;rw[show bZ (eS s k) k (bl (u8 ((dF b).toNat:Int)))=eS s (k+1) from this];exact Wk.refl _ _ _ (by simp)
   ·refine aq (zzP hin (aq ?_));refine⟨k+1,by omega, ?_,by omega⟩;have h2:¬(b.toNat:Int)≤90:=by simpa using h2
    have:=nv hb;rw[Fj b (by omega),kn hc]at this;rw[←this];exact Wk.refl _ _ _ (by simp)
  ·refine aq (zzQ (sA rfl (aq (zzP hin (aq ?_)))));refine⟨k+1,by omega, ?_,by omega⟩;have h1:¬65≤(b.toNat:Int):=by simpa using h1
   have:=nv hb;rw[Fj b (by omega),kn hc]at this;rw[←this];exact Wk.refl _ _ _ (by simp)
 ·obtain rfl:k=s.length:=by omega
  refine zzC (zzK (by simp) (CI (id:=0) (b:=⟨5,eS s s.length,true⟩) (l:=s.map dF) (by simp) rfl (by simp[eS]) ?_));exact .pure (by simp) rfl
theorem wP(s:af):bn p_ 81 [.str s] (b_ (small s)):=by
 refine (V81 _).bj (by simp) (by simp) ?_;unfold X6;repeat' (first|(with_reducible apply aH)|((with_reducible apply gK);rfl;rfl)|((with_reducible apply aM);rfl)|((with_reducible apply aO);rfl)|(refine uCon (wO _) ?_)|(refine uCon (jf _) ?_)|((with_reducible apply cE);rfl)|(with_reducible intro _))
 all_goals refine .pure (by simp) ?_
 all_goals simp only[dU,gF,AV.v.injEq,Value.bool.injEq,Value.int.injEq,true_and]at *
 all_goals first
  | grind [small]
  | (simp_all [small];done)
  | (simp_all [small];omega)
end
section
open Go Go.Aw Go.RowKit
def pB(s:af)(i:Nat):Tok×Nat:=
 let r:=Rt.cY s i
 if Rt.aB s r.2≠40 then (⟨1,r.1,0,[],false⟩,r.2)
 else if r.1.map bG.dF=Rt.xv∧Rt.aB s (Rt.eO s (r.2+1))≠34∧Rt.aB s (Rt.eO s (r.2+1))≠39 then
  let u:=Rt.jd s (Rt.eO s (r.2+1))
  (sw u.1,u.2)
 else (⟨2,r.1,0,[],false⟩,r.2+1)
def iR(s:af)(i:Nat):Tok×Nat:=
 let c:=Rt.aB s i
 if Rt.eY c=true then (⟨13,[],0,[],false⟩,Rt.eO s i)
 else if c=34∨c=39 then (Gd (Rt.ic c s (i+1)).1,(Rt.ic c s (i+1)).2)
 else if c=35∧(Rt.eX (Rt.aB s (i+1))=true∨Rt.cC s (i+1)=true) then (⟨4,(Rt.cY s (i+1)).1,0,[],Rt.gM s (i+1)⟩,(Rt.cY s (i+1)).2)
 else if Rt.kD s i=true then ki s i
 else if Rt.hasB s i [45,45,62]=true then (⟨15,[],0,[],false⟩,i+3)
 else if Rt.hasB s i [60,33,45,45]=true then (⟨14,[],0,[],false⟩,i+4)
 else if c=64∧Rt.gM s (i+1)=true then (⟨3,(Rt.cY s (i+1)).1,0,[],false⟩,(Rt.cY s (i+1)).2)
 else if Rt.gM s i=true then pB s i
 else if 0≤Lib.indexByte Rt.lZ c then (⟨16+Lib.indexByte Rt.lZ c,[],0,[],false⟩,i+1)
 else (⟨9,[c],0,[],false⟩,i+1)
theorem xp{K:AV→Prop}{k:IntKind}{x y:AV}{a b c:Int}(hk:k≠.i64)(ex:x=.v (.int k a))(ey:y=.v (.int k b))(hc:k.wrap (a+b)=c)(q:K (.v (.int k c))):ae .add x y K:=by
 subst ex;subst ey;subst hc;refine⟨rfl, ?_⟩;unfold qo qD;cases k<;>first|exact q|exact absurd rfl hk
section
variable [Laid]
theorem sN(a b:af):bn p_ 101 [.str a,.str b] (Aw.b_ (decide (a.map bG.dF=b.map bG.dF))):=by
 refine (Yu _ _).bj (by simp) (by simp) ?_;unfold R9;refine uCon (jf a) (uCon (jf b) (zzI ?_));exact .pure (by simp) rfl
theorem VT{id a:Nat}{h:aa}{s:af}{y:AV}{K:AV→aa→Prop}(sc:Sc id h s a)(ey:y=.op id 0)(hs:s.length≤2^20)(ha:a≤s.length)(k:∀H,Mw id s (pB s a).2 h H→K (pB s a).1.av H):bz p_ (.fn (.func 71) [] []) [y] h K:=by
 subst ey;have hid:=sc.lt;obtain⟨R,hR⟩:∃R,pB s a=R:=⟨_,rfl⟩;rw[hR]at k;refine cB (by kernel_rfl) rfl (K0:=fun r H=>r=R.1.av∧Mw id s R.2 h H) ?_ (by rintro r H ⟨rfl,m⟩;exact k H m);refine (V71 _).bI ?_;unfold XX;refine bW (cs:=[u8 0,.str [],i_ 0,.str [],ff]) (n:=h.length) (h':=h++[cx 0 [] 0 [] false]) rfl (by simp[bQ]) rfl rfl ?_;obtain⟨hB,hhB⟩:∃hB,h++[cx 0 [] 0 [] false]=hB:=⟨_,rfl⟩;have hBl:hB.length=h.length+1:=by rw[←hhB];simp
 have scB':Sc id hB s a:=by rw[←hhB];exact sc.app _
 have hV:hB[h.length]?=some (cx 0 [] 0 [] false):=by rw[←hhB];simp
 have pre:∀{b H},Mw id s b hB H→Mw id s b h H:=fun m=>by rw[←hhB]at m;exact m.pre
 rw[hhB];have ret:∀(t:Tok) (b:Nat) (T:aa),Mw id s b hB T→R=(t,b)→ao 5 (.op h.length 0) t.av T fun g=>ak true 5 (.op h.length 0) g fun r=>∃r' h'',Wk h.length [r] g [r'] h''∧r'=R.1.av∧Mw id s R.2 h h'':=by
  intro t b T m e;refine qS (k:=t.k) (n:=t.n) (t:=t.t) (u:=t.u) (f:=t.f) (by rw[m.kq _ (by omega) (by omega)];exact hV) ?_;refine⟨_,_,Wk.refl _ _ _ (by have:=m.len;simp;omega),by rw[e], ?_⟩;rw[e];exact (pre m).ext hid (by simp) fun i hi=>iF (by omega)
 obtain⟨w,j,hw⟩:∃w j,Rt.cY s a=(w,j):=⟨_,_,rfl⟩;have hin:=pf s s.length a (by omega) ha;rw[hw]at hin;dsimp only at hin;have hRR:R=if Rt.aB s j≠40 then (⟨1,w,0,[],false⟩,j) else if w.map bG.dF=Rt.xv∧Rt.aB s (Rt.eO s (j+1))≠34∧Rt.aB s (Rt.eO s (j+1))≠39 then (sw (Rt.jd s (Rt.eO s (j+1))).1,(Rt.jd s (Rt.eO s (j+1))).2) else (⟨2,w,0,[],false⟩,j+1):=by
  rw[←hR];unfold pB;rw[hw]
 refine xP scB' rfl hs ha fun H m=>?_;rw[hw]at m ⊢;dsimp only at m ⊢;refine dx 0 m.sc rfl rfl (by omega) ?_;rw[Nat.add_zero];refine zzH ?_;rw[gi (c:=40) 40 rfl (by decide)]
 by_cases q:Rt.aB s j=40
 ·rw[if_neg (by simpa using q)]at hRR;have hlt:j<s.length:=at_lt (by rw[q];decide);refine zzK (by rw[oF q];rfl) (jR m.sc (by omega) rfl ?_);have m1:=m.set (j+1);obtain⟨H1,hH1⟩:∃H1,H.set id (ek s (j+1))=H1:=⟨_,rfl⟩;rw[hH1]at m1 ⊢;have hL1:=m1.len;refine cP (fun _ T=>Mw id s (j+1) hB T∧¬(w.map bG.dF=Rt.xv∧Rt.aB s (Rt.eO s (j+1))≠34∧Rt.aB s (Rt.eO s (j+1))≠39)) (fun _ T hT=>?_) fun F hF=>?_
  ·rw[if_neg hT.2]at hRR;refine bf rfl ?_;exact ret ⟨2,w,0,[],false⟩ (j+1) T hT.1 hRR
  ·refine uCon (sN w [117,114,108]) ?_;have eu:([117,114,108]:af).map bG.dF=Rt.xv:=by decide
   rw[eu]
   by_cases q2:w.map bG.dF=Rt.xv
   ·refine zzL (oF q2) (bx (zzV m1.sc (by simp) (bW (cs:=[.str [],i_ 0]) (n:=H1.length) (h':=H1++[ek [] 0]) rfl (by simp[bQ]) rfl rfl (aX (cs:=[.str s,i_ ((j+1:Nat):Int)]) (h':=H1++[ek s (j+1)]) rfl (b:=⟨101,[.str [],i_ 0],true⟩) (by simp) rfl rfl (by simp) rfl (by simp[bQ]) (by rw[IF _ _ (bY _)];simp[bZ]) ?_))));have sc3:Sc H1.length (H1++[ek s (j+1)]) s (j+1):=by unfold Sc;simp
    refine A9 sc3 rfl hlt hs ?_;have hsp:=rp (s:=s) (i:=j+1) hlt;obtain⟨e,he⟩:∃e,Rt.eO s (j+1)=e:=⟨_,rfl⟩;rw[he]at hsp hRR hF ⊢;have sc4:=sc3.set e;have m4:Mw id s (j+1) hB ((H1++[ek s (j+1)]).set H1.length (ek s e)):=m1.ext (by omega) (by simp) fun i hi=>by
     rw[iF (by omega),gO (by omega)]
    refine dx 0 sc4 rfl rfl (by omega) ?_;rw[Nat.add_zero];refine zzH ?_;rw[gi (c:=34) 34 rfl (by decide)];refine mq (decide (Rt.aB s e≠34∧Rt.aB s e≠39)) (b1:=!decide (Rt.aB s e=34)) rfl (fun z=>by simp at z;simp[z]) (fun z F hF=>?_) fun v hv=>?_
    ·refine zzH ?_;rw[gi (c:=39) 39 rfl (by decide)];have z:Rt.aB s e≠34:=by simpa using z
     have e2:(!decide (Rt.aB s e=39))=decide (Rt.aB s e≠34∧Rt.aB s e≠39):=by
      rw[Bool.eq_iff_iff];simp[z]
     rw[e2];exact aq hF
    refine lh hv ?_
    by_cases q3:Rt.aB s e≠34∧Rt.aB s e≠39
    ·refine zzL (oF q3) ?_;rw[if_pos ⟨q2,q3⟩]at hRR;refine T6 m4.sc rfl hs hlt fun H5 m5=>?_;rw[he]at m5 ⊢;exact ret _ _ H5 (m4.trans m5) hRR
    ·refine zzK (nO q3) ?_;exact aq (hF _ _ ⟨m4,fun z=>q3 z.2⟩)
   ·refine zzK (nO q2) ?_;exact aq (hF _ _ ⟨m1,fun z=>q2 z.1⟩)
 ·rw[if_pos q]at hRR;refine zzL (by rw[nO q];rfl) (bf rfl ?_);exact ret ⟨1,w,0,[],false⟩ j H m hRR
end
variable [bq]
theorem QJ{id a:Nat}{h:aa}{s:af}{y:AV}{K:AV→aa→Prop}(sc:Sc id h s a)(ey:y=.op id 0)(hs:s.length≤2^20)(ha:a<s.length)(k:∀H,Mw id s (iR s a).2 h H→K (iR s a).1.av H):bz p_ (.fn (.func 44) [] []) [y] h K:=by
 subst ey;have hid:=sc.lt;obtain⟨R,hR⟩:∃R,iR s a=R:=⟨_,rfl⟩;rw[hR]at k;refine cB (by kernel_rfl) rfl (K0:=fun r H=>r=R.1.av∧Mw id s R.2 h H) ?_ (by rintro r H ⟨rfl,m⟩;exact k H m);refine (V44 _).bI ?_;unfold XA;refine bW (cs:=[u8 0,.str [],i_ 0,.str [],ff]) (n:=h.length) (h':=h++[cx 0 [] 0 [] false]) rfl (by simp[bQ]) rfl rfl ?_;obtain⟨hB,hhB⟩:∃hB,h++[cx 0 [] 0 [] false]=hB:=⟨_,rfl⟩;have hBl:hB.length=h.length+1:=by rw[←hhB];simp
 have sc2:Sc id hB s a:=by rw[←hhB];exact sc.app _
 have hV:hB[h.length]?=some (cx 0 [] 0 [] false):=by rw[←hhB];simp
 have pre:∀{b H},Mw id s b hB H→Mw id s b h H:=fun m=>by rw[←hhB]at m;exact m.pre
 rw[hhB];have m0:=Mw.refl sc2;have ret:∀(t:Tok) (b:Nat) (T:aa),Mw id s b hB T→R=(t,b)→ao 5 (.op h.length 0) t.av T fun g=>ak true 5 (.op h.length 0) g fun r=>∃r' h'',Wk h.length [r] g [r'] h''∧r'=R.1.av∧Mw id s R.2 h h'':=by
  intro t b T m e;refine qS (k:=t.k) (n:=t.n) (t:=t.t) (u:=t.u) (f:=t.f) (by rw[m.kq _ (by omega) (by omega)];exact hV) ?_;refine⟨_,_,Wk.refl _ _ _ (by have:=m.len;simp;omega),by rw[e], ?_⟩;rw[e];exact (pre m).ext hid (by simp) fun i hi=>iF (by omega)
 have step:∀(n:Nat) (t:Tok),n≤4→R=(t,a+n)→∀{KK:aa→Prop},(∀T,Mw id s (a+n) hB T→KK T)→ca p_ (.op id 0) fun v1=>bp 1 v1 fun v2=>ak false 1 v2 hB fun v3=>ae .add v3 (i_ n) fun v4=>ca p_ (.op id 0) fun v5=>bp 1 v5 fun v6=>ao 1 v6 v4 hB fun g7=>KK g7:=by
  intro n t hn e KK kk;refine bx (zzA (zzU sc2 rfl (zzP (by unfold aJ;omega) (bx (zzA ?_)))));refine aX (cs:=[i_ ((a:Int)+n)]) (h':=hB.set id (ek s (a+n))) rfl sc2 rfl rfl (by simp) rfl rfl ?_ (kk _ (m0.set _));show _=List.set hB id (.ah ⟨101,[.str s,i_ ((a+n:Nat):Int)],true⟩);rw[show ((a+n:Nat):Int)=(a:Int)+n by omega];rfl
 refine⟨i_ (pk s a),dx 0 sc2 rfl rfl (by omega) ⟨rfl,rfl⟩, ?_⟩;refine bx (zzA (zzU sc2 rfl (bx (zzA (zzU sc2 rfl (nw (a:=a) (b:=s.length) (r:=s.drop a) rfl rfl rfl (by omega) (bY _) (by rw[BY]) (uCon (sQ _) ?_)))))));rw[Bp];show ag (Aw.b_ (Rt.eY (Rt.aB s a))) _ _;unfold iR at hR;have hat:=jn ha;obtain⟨c,hc⟩:∃c,Rt.aB s a=c:=⟨_,rfl⟩;have isc:∀{d:UInt8} (n:Int),n=(d.toNat:Int)→d≠0→decide (pk s a=n)=decide (c=d):=fun n hn hd=>by rw[gi n hn hd,hc]
 simp only[hc]at hR;rw[hc];cases q0:Rt.eY c with
 | true =>
   rw[if_pos q0]at hR;refine zzL rfl (A9 sc2 rfl (by omega) hs (bf rfl ?_));exact ret ⟨13,[],0,[],false⟩ _ _ (m0.set _) hR.symm
 | false =>
 rw[if_neg (by rw[q0];decide)]at hR;refine zzK rfl (zzG ?_);rw[isc (d:=34) 34 rfl (by decide)];refine mJ (decide (c=34∨c=39)) (b1:=decide (c=34)) rfl (fun z=>oF (.inl (oN z))) (fun z F hF=>?_) fun v hv=>?_
 ·refine zzG ?_;rw[isc (d:=39) 39 rfl (by decide)];have z:=tO z;simp only[z,false_or]at hF;exact aq hF
 refine lH hv ?_
 by_cases q1:c=34∨c=39
 ·rw[if_pos q1]at hR;refine zzL (oF q1) ?_;refine T4 sc2 rfl hs ha (by rw[hc];exact q1) fun H m=>?_;rw[hc]at m ⊢;exact ret _ _ H m hR.symm
 rw[if_neg q1]at hR;refine zzK (nO q1) (zzG ?_);rw[isc (d:=35) 35 rfl (by decide)]
 -- a hash
 have hash:∀b:Bool,b=decide (c=35∧(Rt.eX (Rt.aB s (a+1))=true∨Rt.cC s (a+1)=true))→∀{A B:Prop},(b=true→A)→(b=false→B)→ag (Aw.b_ b) A B:=fun b _ A B h1 h2=>by
  cases b with
  | true=>exact zzL rfl (h1 rfl)
  | false=>exact zzK rfl (h2 rfl)
 refine cP (fun v T=>T=hB∧((nx v 0=ff∧nx v 1=un∧c≠35)∨(nx v 0=tt∧nx v 1=Aw.b_ (Rt.eX (Rt.aB s (a+1)))∧c=35))) (fun v T hv=>?_) fun F hF=>?_;rotate_left
 ·by_cases q:c=35
  ·refine zzN (oF q) (dx 1 sc2 rfl rfl (by omega) (uCon (AL _) ?_));refine aq (hF _ _ ⟨rfl,.inr ⟨rfl, ?_,q⟩⟩);rw[←LL];rfl
  ·refine zzM (nO q) ?_;exact aq (hF _ _ ⟨rfl,.inl ⟨by rw[nO q];rfl,rfl,q⟩⟩)
 obtain⟨rfl,hv⟩:=hv;refine cP (fun w T2=>T2=T∧(nx v 0=tt→RY (Rt.eX (Rt.aB s (a+1))||Rt.cC s (a+1)) w)) (fun w T2 hw=>?_) fun F hF=>?_;rotate_left
 ·rcases hv with⟨h1,h2,h3⟩|⟨h1,h2,h3⟩
  ·rw[h2];refine dc rfl ?_;refine aq (hF _ _ ⟨rfl,fun z=>?_⟩);rw[h1]at z;cases z
  ·rw[h2];cases z:Rt.eX (Rt.aB s (a+1)) with
   | true =>
     refine zzM rfl ?_;exact aq (hF _ _ ⟨rfl,fun _=>.inl ⟨rfl,by rw[z];rfl⟩⟩)
   | false =>
     refine zzN rfl (xO 1 sc2 rfl rfl (by omega) ?_);rw[uf];exact aq (hF _ _ ⟨rfl,fun _=>.inr ⟨rfl,by rw[z];rfl⟩⟩)
 obtain⟨rfl,hw⟩:=hw;refine cP (fun u T=>T=T2∧MJ (decide (c=35∧(Rt.eX (Rt.aB s (a+1))=true∨Rt.cC s (a+1)=true))) u) (fun u T hu=>?_) fun F hF=>?_;rotate_left
 ·rcases hv with⟨h1,h2,h3⟩|⟨h1,h2,h3⟩
  ·rw[h1];refine zzM rfl ?_;exact aq (hF _ _ ⟨rfl,.inl ⟨rfl,nO fun z=>h3 z.1⟩⟩)
  ·have hw:=hw h1;rw[h1];refine zzN rfl (lH hw ?_);refine aq (hF _ _ ⟨rfl,.inr ⟨rfl, ?_⟩⟩);refine congrArg Aw.b_ ?_;rw[Bool.eq_iff_iff];simp[h3]
 obtain⟨rfl,hu⟩:=hu;refine lh hu ?_
 by_cases q2:c=35∧(Rt.eX (Rt.aB s (a+1))=true∨Rt.cC s (a+1)=true)
 ·rw[if_pos q2]at hR;refine zzL (oF q2) (A8 1 sc2 rfl rfl (by omega) ?_);rw[Bg];refine jR sc2 (by omega) rfl ?_;have m1:=m0.set (a+1);refine xP m1.sc rfl hs (by omega) fun H m=>?_;refine bf rfl ?_;exact ret ⟨4,_,0,[],_⟩ _ H (m1.trans m) hR.symm
 rw[if_neg q2]at hR;refine zzK (nO q2) (N6 sc2 rfl (by omega) ?_);rw[Uv];cases q3:Rt.kD s a with
 | true =>
   rw[if_pos q3]at hR;refine zzL rfl ?_;refine TZ sc2 rfl hs ha q3 fun H m=>?_;exact ret _ _ H m hR.symm
 | false =>
 rw[if_neg (by rw[q3];decide)]at hR;refine zzK rfl (uCon (rI _ _) ?_);rw[zB];cases q4:Rt.hasB s a [45,45,62] with
 | true =>
   rw[if_pos q4]at hR;refine zzL rfl ?_;refine step 3 _ (by decide) hR.symm fun T m=>?_;refine bf rfl ?_;exact ret ⟨15,[],0,[],false⟩ _ T m hR.symm
 | false =>
 rw[if_neg (by rw[q4];decide)]at hR;refine zzK rfl (uCon (rI _ _) ?_);rw[zB];cases q5:Rt.hasB s a [60,33,45,45] with
 | true =>
   rw[if_pos q5]at hR;refine zzL rfl ?_;refine step 4 _ (by decide) hR.symm fun T m=>?_;refine bf rfl ?_;exact ret ⟨14,[],0,[],false⟩ _ T m hR.symm
 | false =>
 rw[if_neg (by rw[q5];decide)]at hR;refine zzK rfl (zzG ?_);rw[isc (d:=64) 64 rfl (by decide)];refine mq (decide (c=64∧Rt.gM s (a+1)=true)) (b1:=decide (c=64)) rfl (fun z=>nO fun y=>tO z y.1) (fun z F hF=>?_) fun v hv=>?_
 ·refine A8 1 sc2 rfl rfl (by omega) ?_;rw[Bg];have z:=oN z;simp only[z,true_and,Bool.decide_eq_true]at hF;exact aq hF
 refine lh hv ?_
 by_cases q6:c=64∧Rt.gM s (a+1)=true
 ·rw[if_pos q6]at hR;refine zzL (oF q6) (jR sc2 (by omega) rfl ?_);have m1:=m0.set (a+1);refine xP m1.sc rfl hs (by omega) fun H m=>?_;refine bf rfl ?_;exact ret ⟨3,_,0,[],false⟩ _ H (m1.trans m) hR.symm
 rw[if_neg q6]at hR;refine zzK (nO q6) (A8 0 sc2 rfl rfl (by omega) ?_);rw[Nat.add_zero,Bg];cases q7:Rt.gM s a with
 | true =>
   rw[if_pos q7]at hR;refine zzL rfl ?_;refine VT sc2 rfl hs (by omega) fun H m=>?_;exact ret _ _ H m hR.symm
 | false =>
 rw[if_neg (by rw[q7];decide)]at hR;refine zzK rfl (jR sc2 (by omega) rfl ?_);have m1:=m0.set (a+1);refine fk (m:=(c.toNat:Int)) rfl (by rw[pK ha,hc,IntKind.wrap_u8];have:=c.toNat_lt;omega) (uCon (KE [58,59,44,91,93,40,41,123,125] c) (zzF ?_));have hib:Lib.indexByte Rt.lZ c<10:=by
  have key:((List.range 256).all fun n=>decide (Lib.indexByte Rt.lZ (UInt8.ofNat n)<10))=true:=by kernel_rfl
  have:=oW key c;rw[UInt8.ofNat_toNat]at this;exact oN this
 have hdef:Lib.indexByte [58,59,44,91,93,40,41,123,125] c=Lib.indexByte Rt.lZ c:=rfl;rw[hdef]
 by_cases q8:0≤Lib.indexByte Rt.lZ c
 ·rw[if_pos q8]at hR;refine zzL (oF q8) (fk (m:=Lib.indexByte Rt.lZ c) rfl (by rw[IntKind.wrap_u8];omega) (xp (c:=16+Lib.indexByte Rt.lZ c) (by decide) rfl rfl (by rw[IntKind.wrap_u8];omega) (bf rfl ?_)));exact ret ⟨16+Lib.indexByte Rt.lZ c,[],0,[],false⟩ _ _ m1 hR.symm
 ·rw[if_neg q8]at hR;refine zzK (nO q8) ?_;have hd:s.drop a=c:: s.drop (a+1):=by rw[aba ha,←hat,hc]
  refine nw (a:=0) (b:=1) (r:=[c]) rfl rfl rfl (by omega) (by rw[hd];simp) (by rw[hd];rfl) (bf rfl ?_);exact ret ⟨9,[c],0,[],false⟩ _ _ m1 hR.symm
end
section
open Go Go.Aw
variable [bq]
def Tb(T:aa):Prop:=9≤T.length∧∀i,i<9→T[i]?=(Ha 1 0)[i]?
omit [bq] in
theorem Tb.b3{T:aa}(t:Tb T):T[3]?=some (.ah ⟨252,rb,true⟩):=by rw[t.2 3 (by decide)];rfl
omit [bq] in
theorem Tb.b4{T:aa}(t:Tb T):T[4]?=some (.ah ⟨247,tb,true⟩):=by rw[t.2 4 (by decide)];rfl
def nd(v:List UInt8)(p:Int)(x:List UInt8)(n:AV):aL:=.ah ⟨250,[.str v,i_ p,.str x,n,.v (.slice none 0 0)],true⟩
omit [bq] in
theorem Tb.b5{T:aa}(t:Tb T):T[5]?=some (nd [10] 6 [10] (.op 6 0)):=by rw[t.2 5 (by decide)];rfl
omit [bq] in
theorem Tb.b6{T:aa}(t:Tb T):T[6]?=some (nd [10] 8 [] (.v (.pointer none))):=by rw[t.2 6 (by decide)];rfl
omit [bq] in
theorem Tb.b7{T:aa}(t:Tb T):T[7]?=some (nd [10] 4 [] (.v (.pointer none))):=by rw[t.2 7 (by decide)];rfl
omit [bq] in
theorem Tb.b8{T:aa}(t:Tb T):T[8]?=some (nd [239,191,189] 2 [] (.v (.pointer none))):=by rw[t.2 8 (by decide)];rfl
abbrev HU(v:List UInt8)(n:Nat)(f:Bool):AV:=.aA [.str v,i_ n,Aw.b_ f]
theorem Ub{T:aa}(t:Tb T):bV p_ 269 [.op 3 0,.str [],ff] T fun r hh=>r=HU [] 0 false∧hh=T:=by
 refine (Ef _ _ _).bI ?_;unfold BH;simp only[nI,rQ];refine bc (α:=Unit) (fun _=>True) (fun _=>[.str [],.str [],i_ 0,ff,i_ 0,.op 3 0,i_ 0]) (fun _=>T) (fun _=>0) () trivial (Wk.refl _ _ _ (by simp)) ?_;rintro - -;simp[sd,t.b3];exact Wk.refl _ _ _ (by simp)
omit [bq] in
theorem Pq(c:UInt8):rb.drop (6+c.toNat)=u8 (fu.getD c.toNat 0):: rb.drop (6+c.toNat+1):=UK _ c.toNat_lt
omit [bq] in
theorem Z3:tb.drop 2=.op 7 0:: tb.drop 3:=rfl
theorem VW{T:aa}(t:Tb T)(r:List UInt8):bV p_ 269 [.op 3 0,.str (12:: r),ff] T fun r hh=>r=HU [10] 1 true∧hh=T:=by
 refine (Ef _ _ _).bI ?_;unfold BH;simp only[nI,rQ];refine bc (α:=Bool) (fun _=>True) (fun b=>if b then [.str r,.str [],i_ 0,ff,i_ 0,.op 7 0,i_ 1] else [.str (12:: r),.str [],i_ 0,ff,i_ 0,.op 3 0,i_ 0]) (fun _=>T) (fun b=>if b then 0 else 1) false trivial (Wk.refl _ _ _ (by simp)) ?_;rintro (_|_) -
 ·have h1:=Pq 12;have e1:fu.getD (12:UInt8).toNat 0=2:=by kernel_rfl
  rw[e1]at h1;have e2:(12:UInt8).toNat=12:=rfl;rw[e2]at h1;have w2:IntKind.i64.wrap 2=2:=by decide
  have hn:aJ 1:=by unfold aJ;decide
  have hl:(1:Int)≤(r.length:Int)+1:=by omega
  simp[sd,tM,tN,t.b3,t.b4,h1,Z3,w2,hn,hl];exact Wk.refl _ _ _ (bY _)
 ·cases r with
  | nil =>
    simp[t.b7,nd];exact Wk.refl _ _ _ (by simp)
  | cons d r =>
    simp[t.b7,nd];exact Wk.refl _ _ _ (by simp)
theorem ZL{T:aa}(t:Tb T)(r:List UInt8):bV p_ 269 [.op 3 0,.str (0:: r),ff] T fun r hh=>r=HU [239,191,189] 1 true∧hh=T:=by
 refine (Ef _ _ _).bI ?_;unfold BH;simp only[nI,rQ];refine bc (α:=Bool) (fun _=>True) (fun b=>if b then [.str r,.str [],i_ 0,ff,i_ 0,.op 8 0,i_ 1] else [.str (0:: r),.str [],i_ 0,ff,i_ 0,.op 3 0,i_ 0]) (fun _=>T) (fun b=>if b then 0 else 1) false trivial (Wk.refl _ _ _ (by simp)) ?_;rintro (_|_) -
 ·have h1:=Pq 0;have e1:fu.getD (0:UInt8).toNat 0=0:=by kernel_rfl
  rw[e1]at h1;have e2:(0:UInt8).toNat=0:=rfl;rw[e2]at h1;have w2:IntKind.i64.wrap 0=0:=by decide
  have hn:aJ 1:=by unfold aJ;decide
  have hl:(1:Int)≤(r.length:Int)+1:=by omega
  simp[sd,tM,tN,t.b3,t.b4,h1,tb,w2,hn,hl];exact Wk.refl _ _ _ (bY _)
 ·cases r with
  | nil =>
    simp[t.b8,nd];exact Wk.refl _ _ _ (by simp)
  | cons d r =>
    simp[t.b8,nd];exact Wk.refl _ _ _ (by simp)
theorem VX{T:aa}(t:Tb T)(r:List UInt8)(hr:r.head?≠some 10):bV p_ 269 [.op 3 0,.str (13:: r),ff] T fun r hh=>r=HU [10] 1 true∧hh=T:=by
 refine (Ef _ _ _).bI ?_;unfold BH;simp only[nI,rQ];refine bc (α:=Bool) (fun _=>True) (fun b=>if b then [.str r,.str [],i_ 0,ff,i_ 0,.op 5 0,i_ 1] else [.str (13:: r),.str [],i_ 0,ff,i_ 0,.op 3 0,i_ 0]) (fun _=>T) (fun b=>if b then 0 else 1) false trivial (Wk.refl _ _ _ (by simp)) ?_;rintro (_|_) -
 ·have h1:=Pq 13;have e1:fu.getD (13:UInt8).toNat 0=3:=by kernel_rfl
  rw[e1]at h1;have e2:(13:UInt8).toNat=13:=rfl;rw[e2]at h1;have w2:IntKind.i64.wrap 3=3:=by decide
  have hn:aJ 1:=by unfold aJ;decide
  have hl:(1:Int)≤(r.length:Int)+1:=by omega
  simp[sd,tM,tN,t.b3,t.b4,h1,tb,w2,hn,hl];exact Wk.refl _ _ _ (bY _)
 ·cases r with
  | nil =>
    simp[t.b5,nd];exact Wk.refl _ _ _ (by simp)
  | cons d r =>
    have hd:¬d=10:=by simpa using hr
    simp[t.b5,nd];refine⟨by kernel_rfl,bV.mono ((rI (d:: r) [10]).call (K:=fun v hh=>v=Aw.b_ (decide (([10]:List UInt8).length≤(d:: r).length)&&decide ((d:: r).take ([10]:List UInt8).length=[10]))∧hh=T) ⟨rfl,rfl⟩) ?_⟩;rintro v hh ⟨rfl,rfl⟩;simp[hd];exact Wk.refl _ _ _ (by simp)
theorem QO{T:aa}(t:Tb T)(r:List UInt8):bV p_ 269 [.op 3 0,.str (13:: 10:: r),ff] T fun r hh=>r=HU [10] 2 true∧hh=T:=by
 refine (Ef _ _ _).bI ?_;unfold BH;simp only[nI,rQ];refine bc (α:=Nat) (fun n=>n≤2) (fun b=>if b=0 then [.str (13:: 10:: r),.str [],i_ 0,ff,i_ 0,.op 3 0,i_ 0] else if b=1 then [.str (10:: r),.str [],i_ 0,ff,i_ 0,.op 5 0,i_ 1] else [.str r,.str [10],i_ 1,tt,i_ 6,.op 6 0,i_ 2]) (fun _=>T) (fun b=>2-b) 0 (by decide) (Wk.refl _ _ _ (by simp)) ?_;intro n hn3;have hn:aJ 1:=by unfold aJ;decide
 have hn2:aJ 2:=by unfold aJ;decide
 match n,hn3 with
 | 0,_ =>
   have h1:=Pq 13;have e1:fu.getD (13:UInt8).toNat 0=3:=by kernel_rfl
   rw[e1]at h1;have e2:(13:UInt8).toNat=13:=rfl;rw[e2]at h1;have w2:IntKind.i64.wrap 3=3:=by decide
   have hl:(1:Int)≤(r.length:Int)+1+1:=by omega
   have ht:((r.length:Int)+1+1).toNat=r.length+1+1:=by omega
   simp[sd,tM,tN,t.b3,t.b4,h1,tb,w2,hn,hl,ht];exact⟨by omega,1,by decide,Wk.refl _ _ _ (bY _),by decide⟩
 | 1,_ =>
   have hl:(1:Int)≤(r.length:Int)+1:=by omega
   simp[t.b5,nd];refine⟨by kernel_rfl,bV.mono ((rI (10:: r) [10]).call (K:=fun v hh=>v=Aw.b_ (decide (([10]:List UInt8).length≤(10:: r).length)&&decide ((10:: r).take ([10]:List UInt8).length=[10]))∧hh=T) ⟨rfl,rfl⟩) ?_⟩;rintro v hh ⟨rfl,rfl⟩;simp[t.b5,nd,hn2,hl,maxLen];exact⟨2,by decide,Wk.refl _ _ _ (bY _),by decide⟩
 | 2,_ =>
   cases r with
   | nil =>
     simp[t.b6,nd];exact Wk.refl _ _ _ (by simp)
   | cons d r =>
     simp[t.b6,nd];exact Wk.refl _ _ _ (by simp)
end
section
set_option maxHeartbeats 4000000
open Go Go.RowKit
theorem Vz(b o:Nat)(w:World)(ad:Option Addr)(cap:Nat)(h0:w.cell? ⟨b,o,none⟩=some (.slice ad 0 cap))(hz:w.frozen? ⟨b,o,none⟩=false):
 Calls p_ 282 #[.pointer (some ⟨b,o,none⟩),.string ⟨#[]⟩] w fun e w' => e=.returned (.tuple #[.int .i64 0,.nilIface])∧w'=w.setCell ⟨b,o,none⟩ (.slice ad 0 cap):=by
 cases ad with
 | none =>
   go_enter Tryz.func282,Tryz.ntmps282
   go_wp2
   go_ret2
   exact⟨rfl,rfl⟩
 | some x =>
   go_enter Tryz.func282,Tryz.ntmps282
   go_wp2
   go_ret2
   exact⟨rfl,rfl⟩
end
section
open Go Go.Aw
def uU(c:UInt8):List UInt8:=if c=13∨c=12 then [10] else if c=0 then Rt.lG else [c]
def eP:List UInt8→List UInt8
 | []=>[]
 | [c]=>uU c
 | c:: d:: r=>if c=13∧d=10 then 10:: eP r else uU c++eP (d:: r)
theorem pY{c:UInt8}{r:List UInt8}(h:¬(c=13∧r.head?=some 10)):eP (c:: r)=uU c++eP r:=by
 cases r with
 | nil=>simp[eP]
 | cons d r =>
   rw[eP,if_neg (by simpa using h)]
theorem Ky(r:List UInt8):eP (13:: 10:: r)=10:: eP r:=by rw[eP,if_pos ⟨rfl,rfl⟩]
theorem Es(c:UInt8):(uU c).length≤3:=by
 unfold uU;split
 ·simp
 ·split<;>simp[Rt.lG]
theorem rH:∀n (l:List UInt8),l.length≤n→(eP l).length≤3*l.length
 | 0,l,h=>by have:=List.length_eq_zero_iff.1 (Nat.le_zero.1 h);subst this;simp[eP]
 | n+1,l,h=>by
   match l,h with
   | [],_=>simp[eP]
   | [c],_=>have:=Es c;simp only[eP,aaB,abd];omega
   | c:: d:: r,h =>
     rw[eP];simp only[aaB]at h ⊢;split
     ·have:=rH n r (by omega);simp only[aaB];omega
     ·have:=rH n (d:: r) (by simp;omega);have:=Es c;simp only[AT,aaB]at *;omega
variable [bq]
def Wr(T:aa)(w:List UInt8):Prop:=Tb T∧11≤T.length∧∃b cells,T[10]?=some (.ah ⟨320,[.own b 0 w.length 1],true⟩)∧b≠10∧9≤b∧T[b]?=some (.ah ⟨5,cells,true⟩)∧cells.take w.length=w.map bg∧w.length≤cells.length
omit [bq] in
theorem Z8[Laid]{T:aa}{b:Nat}(hx:T[10]?=some (.ah ⟨320,[.own b 0 0 1],true⟩)):bV p_ 282 [.op 10 0,.str []] T fun r hh=>r=.aA [i_ 0,.v .nilIface]∧hh=T:=by
 intro base ι S w vs h1 h2
 match vs,h1 with
 | [],h1=>simp at h1
 | [v],h1=>simp at h1
 | v:: u:: x:: vs,h1=>simp at h1
 | [v,u],h1 =>
   simp only[bO,dp,and_true,eA]at h1;obtain⟨r1,rfl,_⟩:=h1;rw[au]at r1;obtain⟨bb,hb,rfl⟩:=r1;obtain⟨v0,g0,q0,z0⟩:=cell_of h2 hx hb (o:=0) (c:=.own b 0 0 1) rfl;obtain⟨cap,ad,e0⟩:∃cap ad,v0=.slice ad 0 cap:=by
    have q1:=q0;rw[au]at q1;obtain⟨_,a',cap',_,_,_,evx,_⟩:=q1;exact⟨cap',a',evx⟩
   subst e0;obtain⟨hE1,hH1⟩:=h2.set hx rfl hb (o:=0) (by simp) (c:=.own b 0 0 1) (v:=.slice ad 0 cap) q0;have hs:T.set 10 (.ah ⟨320,[AV.own b 0 0 1].set 0 (.own b 0 0 1),true⟩)=T:=kn hx;refine (Vz bb 0 w ad cap g0 z0).mono ?_;rintro e w' ⟨rfl,rfl⟩;refine⟨_,ι,S,.aA [i_ 0,.v .nilIface],T,rfl,hE1.mono ?_ (bY _), ?_, ?_,bY _,rfl,rfl⟩
   ·rw[h2.len];exact bY _
   ·rw[au];exact⟨[.int .i64 0,.nilIface],rfl,by simp⟩
   ·rw[←hs];exact hH1
theorem Vv{T:aa}{w:List UInt8}(wr:Wr T w)(m:List UInt8)(hm:0<w.length+m.length)(hl:w.length+m.length≤2^30):bV p_ 282 [.op 10 0,.str m] T fun r hh=>r=.aA [i_ m.length,.v .nilIface]∧Wr hh (w++m)∧T.length≤hh.length:=by
 obtain⟨tb,hT,b,cells,h10,hb10,hb9,hb,hc,hcl⟩:=wr;have hbl:=(eQ.1 hb).1;refine (Zm _ _).bI ?_;unfold S7;simp only[nI,uk,h10,lF,List.drop_zero,Qz,Ct,NZ,hb];refine⟨?_,⟨by simp;omega,by simpa using hm, ?_, ?_⟩⟩
 ·rw[List.all_map];exact At.2 fun x _=>by simp[dk,bQ,bg]
 ·unfold jF maxLen;simp;omega
 have h10':(T.set b .dead++[aL.ah ⟨5,cells.take (w.length*1)++(m.map fun b=>[bg b]).flatten,true⟩])[10]?=some (.ah ⟨320,[.own b 0 w.length 1],true⟩):=by
  rw[gO (by simp;omega),iF hb10];exact h10
 have fm:∀l:List UInt8,(l.map fun b=>[bg b]).flatten=l.map bg:=qK;simp only[zD,aaC];rw[h10'];refine⟨⟨rfl,by simp,by simp,by simp[bQ]⟩, ?_⟩;simp only[BW];intro hmx;refine⟨_,_,Wk.refl _ _ _ (by simp),rfl, ?_,by simp⟩;refine⟨⟨by simp;omega,fun i hi=>?_⟩,by simp;omega,T.length,w.map bg++m.map bg, ?_,by omega,by omega, ?_, ?_,by simp⟩
 ·rw[iF (by omega),gO (by simp;omega),iF (by omega)];exact tb.2 i hi
 ·rw[iD (by simp;omega)];simp[bZ]
 ·rw[iF (by omega),gT (by simp),fm];simp[hc]
 ·rw[MK (by simp)];simp
end
section
open Go Go.Aw
variable [bq]
omit [bq] in
theorem QR(n:Nat)(h:n<256):(fu.getD n 0=4∨fu.getD n 0=1)∧n≠0∧n≠12∧n≠13∨(n=0∨n=12∨n=13):=by
 by_cases h0:n=0
 ·exact .inr (.inl h0)
 ·by_cases h1:n=12
  ·exact .inr (.inr (.inl h1))
  ·by_cases h2:n=13
   ·exact .inr (.inr (.inr h2))
   ·exact .inl ⟨Ug n h h0 h1 h2,h0,h1,h2⟩
theorem Oc{T:aa}(t:Tb T){s:List UInt8}{i:Nat}(hi:i<s.length)(hc:s[i].toNat=0∨s[i].toNat=12∨s[i].toNat=13):∃(v:List UInt8) (kl:Nat),v≠[]∧0<kl∧i+kl≤s.length∧v.length≤3∧eP (s.drop i)=v++eP (s.drop (i+kl))∧bV p_ 269 [.op 3 0,.str (s.drop i),ff] T fun r hh=>r=HU v kl true∧hh=T:=by
 have hd:s.drop i=s[i]:: s.drop (i+1):=aba hi;have hl:(s.drop (i+1)).length=s.length-(i+1):=by simp
 rcases hc with hc|hc|hc
 ·have e:s[i]=0:=UInt8.toNat_inj.1 hc;rw[e]at hd;refine⟨[239,191,189],1,by simp,by decide,hi,by simp, ?_,by rw[hd];exact ZL t _⟩;rw[hd,pY (by simp)];rfl
 ·have e:s[i]=12:=UInt8.toNat_inj.1 hc;rw[e]at hd;refine⟨[10],1,by simp,by decide,hi,by simp, ?_,by rw[hd];exact VW t _⟩;rw[hd,pY (by simp)];rfl
 ·have e:s[i]=13:=UInt8.toNat_inj.1 hc;rw[e]at hd
  by_cases q:(s.drop (i+1)).head?=some 10
  ·obtain⟨r,hr⟩:∃r,s.drop (i+1)=10:: r:=by
    cases z:s.drop (i+1) with
    | nil=>rw[z]at q;simp at q
    | cons a b=>rw[z]at q;simp at q;exact⟨b,by rw[q]⟩
   have hr2:s.drop (i+2)=r:=by
    have:s.drop (i+1+1)=(s.drop (i+1)).drop 1:=by rw[List.drop_drop]
    rw[show i+2=i+1+1 from rfl,this,hr];rfl
   have hlen:0<(s.drop (i+1)).length:=by rw[hr];simp
   refine⟨[10],2,by simp,by decide,by omega,by simp, ?_,by rw[hd,hr];exact QO t _⟩;rw[hd,hr,Ky,hr2];rfl
  ·refine⟨[10],1,by simp,by decide,hi,by simp, ?_,by rw[hd];exact VX t _ q⟩;rw[hd,pY (by simpa using q)];rfl
omit [bq] in
theorem Jc{c:UInt8}(h0:c.toNat≠0)(h1:c.toNat≠12)(h2:c.toNat≠13):uU c=[c]:=by
 unfold uU;rw[if_neg (by rintro (e|e)<;>rw[e]at h1 h2<;>simp at h1 h2),if_neg (by intro e;rw[e]at h0;simp at h0)]
theorem xw{T:aa}{w:List UInt8}(wr:Wr T w)(m:List UInt8)(hl:w.length+m.length≤2^30):bV p_ 282 [.op 10 0,.str m] T fun r hh=>r=.aA [i_ m.length,.v .nilIface]∧Wr hh (w++m)∧T.length≤hh.length:=by
 by_cases h:0<w.length+m.length
 ·exact Vv wr m h hl
 ·have h1:w=[]:=List.length_eq_zero_iff.1 (by omega);have h2:m=[]:=List.length_eq_zero_iff.1 (by omega);subst h1;subst h2;obtain⟨tb,hT,b,cells,h10,r⟩:=wr;refine (Z8 h10).mono ?_;rintro v hh ⟨rfl,rfl⟩;exact⟨rfl,⟨tb,hT,b,cells,h10,r⟩,bY _⟩
theorem VD(s:List UInt8)(hl:s.length≤4000){T0:aa}(w0:Wr T0 []):bV p_ 267 [.op 3 0,.gV 321 (.op 10 0),.str s] T0 fun r hh=>Wr hh (eP s)∧T0.length≤hh.length:=by
 refine (Zk _ _ _).bI ?_;unfold S5;have ms:pd p_ "WriteString" 321=some 282:=QU;refine⟨by kernel_rfl,(Zn T0).mono ?_⟩;rintro r hh ⟨rfl,rfl⟩;have hcl:=rH s.length s (bY _);refine bc (α:=Nat×Nat×List UInt8×aa) (fun p=>p.1≤s.length+1∧p.2.1≤s.length∧p.2.1≤p.1∧Wr p.2.2.2 p.2.2.1∧hh.length≤p.2.2.2.length∧(p.2.2.1=[]→p.2.1=0)∧p.2.2.1++(s.take p.1).drop p.2.1++eP (s.drop p.1)=eP s) (fun p=>[i_ p.2.2.1.length,.v .nilIface,i_ p.2.1,ff,i_ p.1]) (fun p=>p.2.2.2) (fun p=>s.length+1-p.1) (0,0,[],hh) ⟨by simp,by simp,by simp,w0,bY _,fun _=>rfl,by simp⟩ (Wk.refl _ _ _ (by simp)) ?_;rintro⟨k,last,w,T⟩ ⟨hk,hla,hlk,wr,hT,hw0,he⟩;dsimp only at hk hla hlk wr hT hw0 he ⊢;have t:=wr.1;have g3:=t.b3;have g4:=t.b4;have hwl:w.length≤12000:=by
  have:=congrArg List.length he;simp only[AT]at this;omega
 have hk3:k<s.length∨k=s.length∨k=s.length+1:=by omega
 rcases hk3 with hk1|rfl|rfl
 ·have hne:k≠s.length:=by omega
  have hle:k≤s.length:=by omega
  have hni:¬(k:Int)=(s.length:Int):=by omega
  have hlt:s[k].toNat<256:=s[k].toNat_lt;have hr:=UK _ hlt;have hlti:(s[k].toNat:Int)<256:=by omega
  have w4:IntKind.i64.wrap 4=4:=by decide
  have w1:IntKind.i64.wrap 1=1:=by decide
  have hin:aJ ((k:Int)+1):=by unfold aJ;omega
  rcases QR _ hlt with⟨hm,o1,o2,o3⟩|hc
  ·have hnx:(s.take (k+1)).drop last=(s.take k).drop last++[s[k]]:=by
    rw[List.take_succ_eq_append_getElem hk1,List.drop_append_of_le_length (by simp;omega)]
   have hcl2:eP (s.drop k)=s[k]:: eP (s.drop (k+1)):=by
    rw[aba hk1,pY (by intro z;rw[z.1]at o3;exact o3 rfl),Jc o1 o2 o3];rfl
   have fin:∃y:Nat×Nat×List UInt8×aa,(y.1≤s.length+1∧y.2.1≤s.length∧y.2.1≤y.1∧Wr y.2.2.2 y.2.2.1∧hh.length≤y.2.2.2.length∧(y.2.2.1=[]→y.2.1=0)∧y.2.2.1++(s.take y.1).drop y.2.1++eP (s.drop y.1)=eP s)∧Wk (List.length hh) [i_ w.length,AV.v Value.nilIface,i_ last,ff,AV.v (Value.int IntKind.i64 (↑k+1))] T [i_ y.2.2.1.length,AV.v Value.nilIface,i_ y.2.1,ff,i_ y.1] y.2.2.2∧s.length+1-y.1<s.length+1-k:=
    ⟨(k+1,last,w,T),⟨by dsimp only;omega,hla,by dsimp only;omega,wr,hT,hw0,by dsimp only;rw[hnx,←he,hcl2];simp⟩,by simpa using Wk.refl _ _ _ hT,by dsimp only;omega⟩
   rcases hm with hm|hm
   ·rw[hm]at hr;simp[hne,hni,hle,hk1,g3,g4,sd,tM,tN,hr,hlti,w4];obtain⟨⟨ya,yb,yc,yd⟩,f1,f2,f3⟩:=fin;exact fun _=>⟨hin,ya,yb,yc,yd,by simpa using f1,f2,f3⟩
   ·rw[hm]at hr;simp[hne,hni,hle,hk1,g3,g4,sd,tM,tN,hr,hlti,w1,Z4];obtain⟨⟨ya,yb,yc,yd⟩,f1,f2,f3⟩:=fin;exact fun _=>⟨hin,ya,yb,yc,yd,by simpa using f1,f2,f3⟩
  ·obtain⟨v,kl,hv,hk0,hkl,hvl,hce,A⟩:=Oc t hk1 hc;have hb:dr p_ 269=true:=by kernel_rfl
   have w0:IntKind.i64.wrap 0=0:=by decide
   have w2:IntKind.i64.wrap 2=2:=by decide
   have w3:IntKind.i64.wrap 3=3:=by decide
   have hkl0:¬(kl:Int)=0:=by omega
   have hkl1:kl≠0:=by omega
   have hml:((s.take k).drop last).length≤4000:=by simp;omega
   have fin2:∀T2:aa,Wr T2 (w++(s.take k).drop last++v)→hh.length≤T2.length→∃y:Nat×Nat×List UInt8×aa,(y.1≤s.length+1∧y.2.1≤s.length∧y.2.1≤y.1∧Wr y.2.2.2 y.2.2.1∧hh.length≤y.2.2.2.length∧(y.2.2.1=[]→y.2.1=0)∧y.2.2.1++(s.take y.1).drop y.2.1++eP (s.drop y.1)=eP s)∧Wk (List.length hh) [i_ ((w.length:Int)+((s.take k).drop last).length+v.length),AV.v Value.nilIface,i_ ((k:Int)+kl),ff,i_ ((k:Int)+kl)] T2 [i_ y.2.2.1.length,AV.v Value.nilIface,i_ y.2.1,ff,i_ y.1] y.2.2.2∧s.length+1-y.1<s.length+1-k:=by
    intro T2 w2 h2;refine⟨(k+kl,k+kl,w++(s.take k).drop last++v,T2),⟨by dsimp only;omega,by dsimp only;omega,bY _,w2,h2,fun z=>?_, ?_⟩, ?_,by dsimp only;omega⟩
    ·exact absurd (List.append_eq_nil_iff.1 z).2 hv
    ·dsimp only;have z:(s.take (k+kl)).drop (k+kl)=[]:=List.drop_eq_nil_of_le (by simp;omega);rw[z,←he,hce];simp
    ·have e:[i_ ((w.length:Int)+((s.take k).drop last).length+v.length),AV.v Value.nilIface,i_ ((k:Int)+kl),ff,i_ ((k:Int)+kl)]=[i_ (((w++(s.take k).drop last++v).length:Nat):Int),AV.v Value.nilIface,i_ ((k+kl:Nat):Int),ff,i_ ((k+kl:Nat):Int)]:=by
      rw[AT,AT];simp only[Int.natCast_add]
     rw[e];exact Wk.refl _ _ _ h2
   have i1:aJ ((w.length:Int)+((s.take k).drop last).length):=by unfold aJ;omega
   have i2:aJ ((w.length:Int)+((s.take k).drop last).length+v.length):=by unfold aJ;omega
   have i3:aJ ((k:Int)+kl):=by unfold aJ;omega
   obtain⟨m,hm⟩:∃m,(s.take k).drop last=m:=⟨_,rfl⟩;rw[hm]at hml fin2 i1 i2;have W1:=xw wr m (by omega);rcases hc with hc|hc|hc
   ·have hm0:fu.getD s[k].toNat 0=0:=by rw[hc];kernel_rfl
    rw[hm0]at hr;simp[hne,hni,hle,hk1,g3,g4,sd,tM,tN,hr,hlti,w0,tb];refine fun _=>⟨hb,A.mono ?_⟩;rintro r h' ⟨rfl,rfl⟩;simp[hkl1,hlk,ms,hm];refine W1.mono ?_;rintro r T1 ⟨rfl,wr1,hT1⟩;simp[i1];refine (xw wr1 v (by simp;omega)).mono ?_;rintro r T2 ⟨rfl,wr2,hT2⟩;simp[i2,i3];obtain⟨⟨ya,yb,yc,yd⟩,f1,f2,f3⟩:=fin2 T2 wr2 (by omega);exact⟨ya,yb,yc,yd,by simpa using f1,f2,f3⟩
   ·have hm0:fu.getD s[k].toNat 0=2:=by rw[hc];kernel_rfl
    rw[hm0]at hr;simp[hne,hni,hle,hk1,g3,g4,sd,tM,tN,hr,hlti,w2,tb];refine fun _=>⟨hb,A.mono ?_⟩;rintro r h' ⟨rfl,rfl⟩;simp[hkl1,hlk,ms,hm];refine W1.mono ?_;rintro r T1 ⟨rfl,wr1,hT1⟩;simp[i1];refine (xw wr1 v (by simp;omega)).mono ?_;rintro r T2 ⟨rfl,wr2,hT2⟩;simp[i2,i3];obtain⟨⟨ya,yb,yc,yd⟩,f1,f2,f3⟩:=fin2 T2 wr2 (by omega);exact⟨ya,yb,yc,yd,by simpa using f1,f2,f3⟩
   ·have hm0:fu.getD s[k].toNat 0=3:=by rw[hc];kernel_rfl
    rw[hm0]at hr;simp[hne,hni,hle,hk1,g3,g4,sd,tM,tN,hr,hlti,w3,tb];refine fun _=>⟨hb,A.mono ?_⟩;rintro r h' ⟨rfl,rfl⟩;simp[hkl1,hlk,ms,hm];refine W1.mono ?_;rintro r T1 ⟨rfl,wr1,hT1⟩;simp[i1];refine (xw wr1 v (by simp;omega)).mono ?_;rintro r T2 ⟨rfl,wr2,hT2⟩;simp[i2,i3];obtain⟨⟨ya,yb,yc,yd⟩,f1,f2,f3⟩:=fin2 T2 wr2 (by omega);exact⟨ya,yb,yc,yd,by simpa using f1,f2,f3⟩
 ·have hin:aJ ((s.length:Int)+1):=by unfold aJ;omega
  have hb:dr p_ 269=true:=by kernel_rfl
  simp[g3,g4,sd,tM,tN];intro _;refine⟨hb,(Ub t).mono ?_⟩;rintro r h' ⟨rfl,rfl⟩;simp[hin];refine⟨s.length+1,last,w,h',⟨by omega,hla,by omega,wr,hT,hw0, ?_⟩,Wk.refl _ _ _ hT,by omega⟩;have hd:s.drop (s.length+1)=[]:=List.drop_of_length_le (by omega);have ht:s.take (s.length+1)=s:=MK (by omega);rw[hd,ht];rw[BY,List.drop_length]at he;simpa using he
 ·have hgt:¬((s.length:Int)+1≤(s.length:Int)):=by omega
  have hd:s.drop (s.length+1)=[]:=List.drop_of_length_le (by omega);have ht:s.take (s.length+1)=s:=MK (by omega);rw[hd,ht]at he;refine zzZ fun _=>?_;refine zzD (zzK (nO (by omega)) ?_);refine zzZ fun _=>?_;refine zzH ?_
  by_cases hs:last=s.length
  ·refine zzK (by simp[hs]) ?_;refine⟨_,_,Wk.refl _ _ _ hT, ?_,hT⟩;rw[←he,hs,List.drop_length];simpa[eP]using wr
  ·refine zzL (by simp;omega) (nw (a:=last) (b:=s.length) (r:=s.drop last) rfl rfl rfl (by omega) (bY _) (by rw[BY]) ?_);simp only[QE,ms,K4,Option.isSome_some,true_and];refine (xw wr (s.drop last) (by simp;omega)).mono ?_;rintro r T2 ⟨rfl,wr2,hT2⟩;refine bo rfl rfl (bo rfl rfl (zzP (by unfold aJ;simp;omega) ?_));refine⟨_,_,Wk.refl _ _ _ (by omega), ?_,by omega⟩;rw[←he];simpa[eP]using wr2
end
section
open Go Go.Aw
variable [bq]
theorem VC(s:List UInt8)(hl:s.length≤4000):bV p_ 266 [.op 3 0,.str s] (Ha 1 0) fun r hh=>r=.str (eP s)∧9≤hh.length:=by
 refine (Zj _ _).bI ?_;unfold S4;have hb:dr p_ 267=true:=by kernel_rfl
 have hH:∀x y:aL,Ha 1 0++[x]++[y]=G x y:=fun x y=>rfl;have hL:(Ha 1 0).length=9:=rfl;have hL1:∀x:aL,(Ha 1 0++[x]).length=10:=fun _=>rfl;have hi:∀x y:aL,(Ha 1 0++[x]++[y])[10]?=some y:=fun _ _=>rfl;have hs:∀x y z:aL,(Ha 1 0++[x]++[y]).set 10 z=G x z:=fun _ _ _=>rfl;simp only[BW,QD,TS,bl,zD,TR,hL,hL1,hi,hs,bZ,List.set,Mk,Int.toNat_zero];have w0:Wr (G (.ah ⟨5,gQ s.length [u8 0],true⟩) (.ah ⟨320,[.own 9 0 0 1],true⟩)) []:=by
  refine⟨⟨by rw[O3];decide,fun i hi=>?_⟩,by rw[O3];decide,9,_,rfl,by decide,by decide,rfl,rfl,aaO _⟩;rcases (by omega:i=0∨i=1∨i=2∨i=3∨i=4∨i=5∨i=6∨i=7∨i=8) with rfl|rfl|rfl|rfl|rfl|rfl|rfl|rfl|rfl<;>rfl
 refine fun _=>⟨⟨by omega,by omega,by omega,by omega⟩,by simp[bQ],⟨by simp[bQ],hb,(VD s hl w0).mono ?_⟩⟩;rintro r h' ⟨wr,hh⟩;obtain⟨tb,hT,b,cells,h10,hb10,hb9,hbk,hc,hcl⟩:=wr;have hf:=je 1 (eP s).length cells (by omega);simp only[uk,h10,lF,List.drop_zero,cJ,F8,hbk,Nat.mul_one,aaQ,hcl,and_self,if_true,Option.bind_some,hf.1,true_and];rw[hc,nN_];exact⟨_,_,Wk.refl _ _ _ (by omega),rfl,by omega⟩
theorem Zo(s:List UInt8)(hl:s.length≤4000):bV p_ 58 [.op 2 0,.str s] (Hb 0) fun r hh=>r=.str (eP s):=by
 refine (V58 _ _).bI ?_;unfold XM;simp only[nI,rQ];refine⟨by kernel_rfl,MS.mono ?_⟩;rintro r hh ⟨rfl,rfl⟩;have h2:(Ha 1 0)[2]?=some (.ah (tq 1 0 (.gV 212 (.op 3 0)) (.v (.slice none 0 0)))):=rfl;simp only[uk,h2,tq,aaQ,List.drop_succ_cons,List.drop_zero,lF,K4,QT];refine (VC s hl).mono ?_;rintro r hh ⟨rfl,hq⟩;exact⟨_,_,Wk.refl _ _ _ (aaT (by decide) hq),rfl⟩
theorem Jm(s:List UInt8)(hl:s.length≤4000):bn p_ 42 [.str s] (.aA [.str (eP s),i_ 0]):=by
 refine (WU _).bj (by simp) (by simp) ?_;unfold S8;have hn:¬(4000:Int)<(s.length:Int):=by omega
 simp[hn];refine fun _=>⟨by kernel_rfl,PU.mono ?_⟩;rintro r hh ⟨rfl,rfl⟩;refine⟨by kernel_rfl,(Zo s hl).mono ?_⟩;rintro r hh rfl;exact .pure (by simp) rfl
end
section
open Go Go.Aw Go.RowKit
theorem yg(m:UInt8)(s:af):∀n j,s.length-j≤n→j≤s.length→j≤(Rt.ic m s j).2∧(Rt.ic m s j).2≤s.length
 | 0,j,hn,hj=>by rw[Rt.ic,dif_neg (by omega)];exact⟨bY _,hj⟩
 | n+1,j,hn,hj=>by
   by_cases h:j<s.length
   ·rw[Rt.ic,dif_pos h];split
    ·dsimp only;omega
    ·split
     ·dsimp only;omega
     ·split
      ·split
       ·dsimp only;omega
       ·split
        ·have:=yg m s n (j+2) (by omega) (by omega);omega
        ·show j≤(Rt.ic m s (Rt.cU s j).2).2∧_≤_;have h1:=Rt.gd s j;have h2:=lr h;have:=yg m s n (Rt.cU s j).2 (by omega) h2;exact⟨by omega,this.2⟩
      ·show j≤(Rt.ic m s (j+1)).2∧_≤_;have:=yg m s n (j+1) (by omega) h;exact⟨by omega,this.2⟩
   ·rw[Rt.ic,dif_neg h];exact⟨bY _,hj⟩
theorem xB(s:af):∀n i,s.length-i≤n→i≤s.length→i≤Rt.mT s i
 | 0,i,hn,hi=>by rw[Rt.mT,dif_neg (by omega)];omega
 | n+1,i,hn,hi=>by
   rw[Rt.mT];split
   ·rename_i h;split
    ·omega
    ·split
     ·have:=Rt.gd s i;have:=xB s n _ (by omega) (lr h);omega
     ·have:=xB s n (i+1) (by omega) h;omega
   ·omega
theorem CC(s:af):∀n j,s.length-j≤n→j≤s.length→j≤(Rt.jd s j).2∧(Rt.jd s j).2≤s.length
 | 0,j,hn,hj=>by rw[Rt.jd,dif_neg (by omega)];dsimp only;omega
 | n+1,j,hn,hj=>by
   by_cases h:j<s.length
   ·have hsp:=rp hj;rw[Rt.jd,dif_pos h];split
    ·dsimp only;omega
    ·split
     ·split
      ·have:=uS s s.length (Rt.eO s j) (by omega) hsp.2;have:=xB s s.length (Rt.eO s j) (by omega) hsp.2;dsimp only;omega
      ·dsimp only;omega
     ·split
      ·have:=uS s s.length j (by omega) hj;have:=xB s s.length j (by omega) hj;dsimp only;omega
      ·split
       ·show j≤(Rt.jd s (Rt.cU s j).2).2∧_≤_;have h1:=Rt.gd s j;have h2:=lr h;have:=CC s n (Rt.cU s j).2 (by omega) h2;exact⟨by omega,this.2⟩
       ·show j≤(Rt.jd s (j+1)).2∧_≤_;have:=CC s n (j+1) (by omega) h;exact⟨by omega,this.2⟩
   ·rw[Rt.jd,dif_neg h];dsimp only;omega
theorem Rq{s:af}{i:Nat}(h:Rt.eY (Rt.aB s i)=true):i<Rt.eO s i:=by
 have he:=Cq (p:=uA) (by decide) s i;rw[It,Bp]at he;rcases uP i (Rt.eO s i) with q|q
 ·exact q
 ·have:Rt.eO s i=i:=by unfold Rt.eO at q ⊢;omega
  rw[this,h]at he;cases he
theorem QX{s:af}{i:Nat}(hi:i<s.length)(h:Rt.gM s i=true):i<(Rt.cY s i).2:=by
 have hat:=jn hi;rw[Rt.cY,dif_pos hi];split
 ·have:=(pf s s.length (i+1) (by omega) hi).1;dsimp only;omega
 ·rename_i q;have e:Rt.cC s i=true:=by
   have q:Rt.eX s[i]=false:=by simpa using q
   unfold Rt.eX at q;simp only[abi,decide_eq_false_iff_not]at q;unfold Rt.gM at h;rw[hat]at h;rw[if_neg q.2,q.1.1]at h;simpa using h
  rw[if_pos e];have h1:=Rt.gd s i;have:=(pf s s.length (Rt.cU s i).2 (by omega) (lr hi)).1;dsimp only;omega
theorem RO{s:af}{i:Nat}(hi:i<s.length)(h:Rt.gM s i=true):i<(pB s i).2∧(pB s i).2≤s.length:=by
 have h1:=QX hi h;have h2:=(pf s s.length i (by omega) (by omega)).2;unfold pB;dsimp only;split
 ·exact⟨h1,h2⟩
 ·rename_i q;have q':Rt.aB s (Rt.cY s i).2=40:=by
   by_cases q2:Rt.aB s (Rt.cY s i).2=40
   ·exact q2
   ·exact absurd q2 q
  have h3:(Rt.cY s i).2<s.length:=at_lt (by rw[q'];decide);split
  ·have h4:=rp (s:=s) (i:=(Rt.cY s i).2+1) h3;have:=CC s s.length (Rt.eO s ((Rt.cY s i).2+1)) (by omega) h4.2;dsimp only;omega
  ·dsimp only;omega
theorem Q1{s:af}{i:Nat}(hi:i<s.length)(h:Rt.kD s i=true):i<(ki s i).2∧(ki s i).2≤s.length:=by
 have h0:=(Bh hi h).1;have h4:=(Cf (s:=s) (i:=i) (by omega)).2;unfold ki;dsimp only;split
 ·have:=pf s s.length (Rt.iz s i).1 (by omega) h4;dsimp only;omega
 ·split
  ·rename_i q;have:(Rt.iz s i).1<s.length:=at_lt (by rw[q];decide);dsimp only;omega
  ·dsimp only;omega
theorem xZ{s:af}{i:Nat}(hi:i<s.length):i<(iR s i).2∧(iR s i).2≤s.length:=by
 unfold iR;dsimp only;split
 ·rename_i q;exact⟨Rq q,(rp (by omega)).2⟩
 ·split
  ·have:=yg (Rt.aB s i) s s.length (i+1) (by omega) hi;dsimp only;omega
  ·split
   ·have:=pf s s.length (i+1) (by omega) hi;dsimp only;omega
   ·split
    ·rename_i q;exact Q1 hi q
    ·split
     ·rename_i q;have:=rO (x:=[45,45,62]) q (by decide);simp at this;dsimp only;omega
     ·split
      ·rename_i q;have:=rO (x:=[60,33,45,45]) q (by decide);simp at this;dsimp only;omega
      ·split
       ·have:=pf s s.length (i+1) (by omega) hi;dsimp only;omega
       ·split
        ·rename_i q;exact RO hi q
        ·split<;>(dsimp only;omega)
def lS(s:af)(i:Nat):List Tok:=
 if h:i<s.length then (iR s i).1:: lS s (Rt.gr s (iR s i).2) else []
termination_by s.length-i
decreasing_by
 have h1:=xZ h;have:=uv s s.length (iR s i).2 (by omega) h1.2;omega
def jC(s:af):List Tok×Int:=if 4000<s.length then ([],28) else if 1500<(lS (eP s) (Rt.gr (eP s) 0)).length then ([],4) else (lS (eP s) (Rt.gr (eP s) 0),0)
def za(l:List Tok):AV:=if l=[] then .v (.slice none 0 0) else .sl 5 (cQ l)
section
variable [Laid]
def sE(cap:Nat)(H:aa)(done:List Tok):Prop:=
 (done=[]∧H[cap]?=some (.ah ⟨51,[.v (.slice none 0 0)],true⟩))∨∃tid,done≠[]∧H[cap]?=some (.ah ⟨51,[.sb tid 5 (cQ done)],true⟩)∧H[tid]?=some (aL.tok 70 5 done.length)
omit [Laid] in
theorem sE.other{cap:Nat}{H H':aa}{done:List Tok}(c:sE cap H done)(hc:H'[cap]?=H[cap]?)(ho:∀(tid n:Nat),H[tid]?=some (aL.tok 70 5 n)→H'[tid]?=some (aL.tok 70 5 n)):sE cap H' done:=by
 rcases c with⟨h1,h2⟩|⟨tid,hd,h1,h2⟩
 ·exact .inl ⟨h1,by rw[hc];exact h2⟩
 ·exact .inr ⟨tid,hd,by rw[hc];exact h1,ho _ _ h2⟩
omit [Laid] in
theorem sE.app{cap:Nat}{H:aa}{done:List Tok}(c:sE cap H done)(j:aa):sE cap (H++j) done:=by
 have hl:∀{i:Nat} {x:aL},H[i]?=some x→(H++j)[i]?=some x:=fun h=>by
  rw[gO (eQ.1 h).1];exact h
 rcases c with⟨h1,h2⟩|⟨tid,hd,h1,h2⟩
 ·exact .inl ⟨h1,hl h2⟩
 ·exact .inr ⟨tid,hd,hl h1,hl h2⟩
omit [Laid] in
theorem sE.mv{cap id b:Nat}{s:af}{H H':aa}{a:Nat}{done:List Tok}(c:sE cap H done)(sc:Sc id H s a)(hne:cap≠id)(m:Mv id s b H H'):sE cap H' done:=by
 have hl:cap<H.length:=by rcases c with⟨_,h2⟩|⟨_,_,h2,_⟩<;>exact (eQ.1 h2).1
 refine c.other (m.other hl hne) fun tid n ht=>?_;rw[m.other (eQ.1 ht).1 (fun q=>by subst q;unfold Sc at sc;rw[ht]at sc;cases sc)];exact ht
omit [Laid] in
theorem G1{x:Tok}{K:AV→Prop}(q:K (.sl 5 [x.row])):br 1 5 (.agg [(u8 0),(.str []),(i_ 0),(.str []),ff]) [(0,5,x.av)] K:=by
 have e:dQ (gQ 1 (bl (.agg [(u8 0),(.str []),(i_ 0),(.str []),ff]))) [(0,5,x.av)]=some x.row:=by simp[dQ,gQ,bl,bZ,bQ]
 unfold br;rw[e];exact q
theorem T5{cap id:Nat}{H:aa}{s:af}{a:Nat}{done:List Tok}{t:Tok}{y z:AV}{K:AV→aa→Prop}(c:sE cap H done)(sc:Sc id H s a)(hne:cap≠id)(hn:done.length≤2^20)
 (k:∀H',sE cap H' (done++[t])→Sc id H' s a→H.length≤H'.length→K (.aA []) H'):bz p_ (.fn (.func 28) [] [.op cap 0]) [t.av,y,z] H K:=by
 have hb:dr p_ 28=true:=by kernel_rfl
 refine⟨hb, ?_⟩;show bV _ _ ([]++[t.av,y,z]++[.op cap 0]) _ _;have hl:cap<H.length:=by rcases c with⟨_,h2⟩|⟨_,_,h2,_⟩<;>exact (eQ.1 h2).1
 refine bV.mono (K:=fun v H' => v=.aA []∧sE cap H' (done++[t])∧Sc id H' s a∧H.length≤H'.length) ?_ (by rintro _ H' ⟨rfl,h1,h2,h3⟩;exact k H' h1 h2 h3);refine (V28 t.av y z (.op cap 0)).bI ?_;unfold Xl;refine bW (cs:=t.row) (n:=H.length) (h':=H++[.ah ⟨70,t.row,true⟩]) rfl (by simp[bQ]) rfl rfl ?_;have hV:(H++[aL.ah ⟨70,t.row,true⟩])[H.length]?=some (.ah ⟨70,t.row,true⟩):=by simp
 have scA:=sc.app [aL.ah ⟨70,t.row,true⟩];rcases c.app [aL.ah ⟨70,t.row,true⟩] with⟨rfl,h2⟩|⟨tid,hdn,h1,h2⟩
 ·refine zzU h2 rfl (zzV hV (by simp) (G1 ?_));have ap:∀{KH:AV→aa→Prop},KH (.sb (H++[aL.ah ⟨70,t.row,true⟩]).length 5 [t.row]) (H++[aL.ah ⟨70,t.row,true⟩]++[aL.tok 70 5 1])→bP false 70 5 56 (.v (.slice none 0 0)) (.sl 5 [t.row]) (H++[aL.ah ⟨70,t.row,true⟩]) KH:=by
   intro KH q;unfold bP eE;rw[fP];exact⟨pq [t],⟨by simp[maxLen],by simp⟩,q⟩
  refine ap ?_;have hlt:cap<(H++[aL.ah ⟨70,t.row,true⟩]++[aL.tok 70 5 1]).length:=by simp;omega
  refine aX (cs:=[.sb (H++[aL.ah ⟨70,t.row,true⟩]).length 5 [t.row]]) (h':=(H++[aL.ah ⟨70,t.row,true⟩]++[aL.tok 70 5 1]).set cap (.ah ⟨51,[.sb (H++[aL.ah ⟨70,t.row,true⟩]).length 5 [t.row]],true⟩)) rfl (by rw[gO (by simp;omega)];exact h2) rfl rfl (by simp) rfl rfl rfl ?_;refine⟨_,_,Wk.refl _ _ _ (by simp),rfl,.inr ⟨_,by simp,iD hlt, ?_⟩, ?_,by simp⟩
  ·rw[iF (by simp;omega),gT (bY _)];simp
  ·unfold Sc;rw[iF hne];exact scA.app _
 ·refine zzU h1 rfl (zzV hV (by simp) (G1 ?_));have htc:tid≠cap:=fun q=>by subst q;rw[h2]at h1;cases h1
  have hti:tid≠id:=fun q=>by subst q;unfold Sc at scA;rw[h2]at scA;cases scA
  have hl2:=(eQ.1 h2).1;refine xa (rows:=[t.row]) (k:=done.length) rfl h2 (by simp) fP (pq [t]) ⟨by unfold maxLen;simp;omega,by simp;omega⟩ rfl ?_;refine aX (cs:=[.sb tid 5 (cQ done++[t.row])]) (h':=((H++[aL.ah ⟨70,t.row,true⟩]).set tid (aL.tok 70 5 (done.length+[t.row].length))).set cap (.ah ⟨51,[.sb tid 5 (cQ done++[t.row])],true⟩)) rfl (by rw[iF htc];exact h1) rfl rfl (by simp) rfl rfl rfl ?_;refine⟨_,_,Wk.refl _ _ _ (by simp),rfl,.inr ⟨tid,by simp, ?_, ?_⟩, ?_,by simp⟩
  ·rw[iD (by simp;omega)];simp
  ·rw[iF (Ne.symm htc),iD hl2];simp
  ·unfold Sc;rw[iF hne,iF hti];exact scA
end
variable [bq]
theorem GC(s:af):bn p_ 17 [.str s] (.aA [za (jC s).1,i_ (jC s).2]):=by
 refine (V17 _).bj (by simp) ?_ ?_
 ·simp only[Aw.Pure,aV,and_true];unfold za;split
  ·simp
  ·exact kP _
 unfold Xb;refine bW (cs:=[.v (.slice none 0 0)]) (n:=0) (h':=[.ah ⟨51,[.v (.slice none 0 0)],true⟩]) rfl rfl rfl rfl ?_;have read:bV p_ 27 [.str s,.fn (.func 28) [] [.op 0 0]] [.ah ⟨51,[.v (.slice none 0 0)],true⟩] fun v H=>v=i_ (jC s).2∧((jC s).2=0→sE 0 H (jC s).1):=by
  refine (V27 _ _).bI ?_;unfold Xk
  by_cases q:4000<s.length
  ·have e:jC s=([],28):=by unfold jC;rw[if_pos q]
   rw[e];refine uCon (Jf s q) (bo rfl rfl (bo rfl rfl (zzH (zzL rfl ?_))));exact⟨_,_,Wk.refl _ _ _ (bY _),rfl,fun z=>by cases z⟩
  refine uCon (Jm s (by omega)) ?_;obtain⟨c,hc⟩:∃c,eP s=c:=⟨_,rfl⟩;have hcl:c.length≤12000:=by have:=rH s.length s (bY _);rw[hc]at this;omega
  have he:jC s=if 1500<(lS c (Rt.gr c 0)).length then ([],4) else (lS c (Rt.gr c 0),0):=by unfold jC;rw[if_neg q,hc]
  rw[hc];obtain⟨L,hL⟩:∃L,lS c (Rt.gr c 0)=L:=⟨_,rfl⟩;rw[hL]at he;refine bo rfl rfl (bo rfl rfl (zzH (zzK rfl (bf rfl (bW (cs:=[.str c,i_ 0]) (n:=1) (h':=[.ah ⟨51,[.v (.slice none 0 0)],true⟩,ek c 0]) rfl rfl rfl rfl ?_)))));have sc0:Sc 1 [aL.ah ⟨51,[.v (.slice none 0 0)],true⟩,ek c 0] c 0:=rfl;refine HJ sc0 rfl (by omega) (aaO _) ?_;have hp0:=uv c c.length 0 (by omega) (aaO _);refine bc (α:=List Tok×Nat×aa) (fun x=>L=x.1++lS c x.2.1∧x.1.length≤1500∧x.2.1≤c.length∧Sc 1 x.2.2 c x.2.1∧sE 0 x.2.2 x.1∧2≤x.2.2.length) (fun x=>[i_ x.1.length]) (fun x=>x.2.2) (fun x=>c.length-x.2.1) ([],Rt.gr c 0,[aL.ah ⟨51,[.v (.slice none 0 0)],true⟩,ek c (Rt.gr c 0)]) ⟨by rw[hL];rfl,by simp,hp0.2,rfl,.inl ⟨rfl,rfl⟩,bY _⟩ (Wk.refl _ _ _ (bY _)) ?_;rintro⟨done,a,H⟩ ⟨el,hdl,ha,sc,cp,hH⟩;dsimp only at el hdl ha sc cp hH ⊢;refine bx (zzA (zzU sc rfl ?_));refine zzZ fun _=>?_;refine zzC ?_;rw[lS]at el
  by_cases h:a<c.length
  ·rw[dif_pos h]at el;have hlen:=congrArg List.length el;simp only[AT,aaB]at hlen;refine zzL (oF (by omega)) (zzP (by unfold aJ;omega) (zzE ?_))
   by_cases h2:done.length=1500
   ·rw[if_pos (by omega)]at he;rw[he];refine zzL (oF (by omega)) ?_;exact⟨_,_,Wk.refl _ _ _ (by simp;omega),rfl,fun z=>by cases z⟩
   refine zzK (nO (by omega)) (bx (zzA (zzU sc rfl ?_)));have hin:=xZ h;obtain⟨t,b,ht⟩:∃t b,iR c a=(t,b):=⟨_,_,rfl⟩;refine QJ sc rfl (by omega) h fun H1 m=>?_;rw[ht]at hin el m ⊢;dsimp only at hin el m ⊢;have sc1:=m.sc;have hid:1<H.length:=by omega
   have cp1:=cp.mv sc (by decide) (m.mv hid);have hH1:=m.len;refine bW (cs:=[u8 0,.str [],i_ 0,.str [],ff]) (n:=H1.length) (h':=H1++[cx 0 [] 0 [] false]) rfl (by simp[bQ]) rfl rfl ?_;have hV:(H1++[cx 0 [] 0 [] false])[H1.length]?=some (cx 0 [] 0 [] false):=by simp
   refine aX (cs:=t.row) (h':=H1++[.ah ⟨70,t.row,true⟩]) rfl hV rfl rfl (by simp) rfl (by simp[bQ]) (by rw[IF _ _ (bY _)];simp) (zzV (b:=⟨70,t.row,true⟩) (by simp) (by simp) ?_);have sc2:=sc1.app [aL.ah ⟨70,t.row,true⟩];have cp2:=cp1.app [aL.ah ⟨70,t.row,true⟩];refine bx (zzA (zzU sc2 rfl ?_));refine T5 (t:=t) cp2 sc2 (by decide) (by omega) fun H3 cp3 sc3 hl3=>?_;have hpb:=uv c c.length b (by omega) hin.2;refine HJ sc3 rfl (by omega) hin.2 ?_;have hid3:1<H3.length:=by simp at hl3;omega
   have m4:=Mv.set 1 c (Rt.gr c b) H3;refine⟨rfl,(done++[t],Rt.gr c b,H3.set 1 (ek c (Rt.gr c b))),⟨by rw[el];simp,by simp;omega,hpb.2,sc3.set _,cp3.mv sc3 (by decide) m4,by show 2≤(List.set H3 1 _).length;simp;omega⟩, ?_,by dsimp only;omega⟩;simp only[AT,aaB,abd];exact Wk.refl _ _ _ (by simp at hl3;simp;omega)
  ·rw[dif_neg h,aaL]at el;subst el;rw[if_neg (by omega)]at he;rw[he];refine zzK (nO (by omega)) ?_;exact⟨_,_,Wk.refl _ _ _ (by simp;omega),rfl,fun _=>cp⟩
 refine cB (by kernel_rfl) rfl read ?_;rintro _ H ⟨rfl,cp⟩;refine zzH ?_
 by_cases z:(jC s).2=0
 ·have cp:=cp z;rw[z];refine zzK rfl ?_;rcases cp with⟨h1,h2⟩|⟨tid,hdn,h1,h2⟩
  ·refine zzU h2 rfl ?_;rw[h1];exact .pure (by simp[Aw.Pure,aV]) rfl
  ·refine zzU h1 rfl (dK.of ?_);simp only[tl,eM,nM,aaP,if_false];rw[Ak _ _ _ _ (kP _)];unfold za;rw[if_neg hdn];exact Le.refl _
 ·have hn:(jC s).1=[]:=by
   unfold jC at z ⊢;split
   ·rfl
   ·split
    ·rfl
    ·rename_i h1 h2;rw[if_neg h1,if_neg h2]at z;exact absurd rfl z
  rw[hn];refine zzL (by simpa using z) ?_;exact .pure (by simp[Aw.Pure,aV]) rfl
end
section
open Go Go.Aw Go.fg Go.RowKit
abbrev bF:AV:=.v (.slice none 0 0)
mutual
def tH:Vl→List AV
 | .mk k t n u f l=>[u1 k,.str t,i_ n,.str u,b_ f,match l with|[]=>bF|v:: l=>.sl 6 (tH v:: qH l)]
def qH:List Vl→List (List AV)
 | []=>[]
 | v:: l=>tH v:: qH l
end
def wz(l:List Vl):AV:=match l with|[]=>bF|v:: l=>.sl 6 (tH v:: qH l)
theorem BN(k:Int)(t:af)(n:Int)(u:af)(f:Bool)(l:List Vl):tH (.mk k t n u f l)=[u1 k,.str t,i_ n,.str u,b_ f,wz l]:=by cases l<;>simp[tH,wz]
mutual
theorem JR:∀x:Vl,aV (tH x)
 | .mk k t n u f []=>by simp[tH,aV,Aw.Pure]
 | .mk k t n u f (v:: l)=>by simp[tH,aV,Aw.Pure,cF,JR v,FM l]
theorem FM:∀l:List Vl,cF (qH l)
 | []=>by simp[qH,cF]
 | v:: l=>by simp[qH,cF,JR v,FM l]
end
theorem ET(l:List Vl):Aw.Pure (wz l):=by
 cases l with
 | nil=>simp[wz,Aw.Pure]
 | cons v l=>simp[wz,Aw.Pure,cF,JR,FM]
mutual
theorem NQ:∀v:Vl,kv (tH v) (jt v)
 | .mk k t n u f []=>by
   rw[BN,jt];exact .cons (.refl _) (.cons (.refl _) (.cons (.refl _) (.cons (.refl _) (.cons (.refl _) (.cons (.nil 6) .nil)))))
 | .mk k t n u f (v:: l)=>by
   rw[BN,jt];exact .cons (.refl _) (.cons (.refl _) (.cons (.refl _) (.cons (.refl _) (.cons (.refl _) (.cons (.sl (.cons (NQ v) (Jx l))) .nil)))))
theorem Jx:∀l:List Vl,nV (qH l) (cA l)
 | []=>.nil
 | v:: l=>.cons (NQ v) (Jx l)
end
theorem Qx(l:List Vl):Ap (wz l) (.sl 6 (cA l)):=by
 cases l with
 | nil=>exact .nil 6
 | cons v l=>exact .sl (.cons (NQ v) (Jx l))
/-! ### In memory -/
mutual
def VV(F:Nat→Prop)(H:aa):List AV→Vl→Prop
 | r,.mk k t n u f l=>∃a,r=[u1 k,.str t,i_ n,.str u,b_ f,a]∧((l=[]∧a=bF)∨(l≠[]∧∃X rows,a=.own X 0 l.length 6∧F X∧H[X]?=some (.ah ⟨74,rows.flatten,true⟩)∧VR F H rows l))
def VR(F:Nat→Prop)(H:aa):List (List AV)→List Vl→Prop
 | rows,[]=>rows=[]
 | rows,v:: l=>∃r rs,rows=r:: rs∧VV F H r v∧VR F H rs l
end
section
variable {F F':Nat→Prop} {H H':aa}
mutual
theorem VV.mono(hF:∀X,F X→F' X∧H'[X]?=H[X]?):∀(v:Vl) (r:List AV),VV F H r v→VV F' H' r v
 | .mk k t n u f l,r,h=>by
   rw[VV]at h ⊢;obtain⟨a,rfl,h⟩:=h;refine⟨a,rfl, ?_⟩;rcases h with h|⟨h0,X,rows,rfl,h1,h2,h3⟩
   ·exact .inl h
   ·exact .inr ⟨h0,X,rows,rfl,(hF X h1).1,by rw[(hF X h1).2];exact h2,VR.mono hF l rows h3⟩
theorem VR.mono(hF:∀X,F X→F' X∧H'[X]?=H[X]?):∀(l:List Vl) (rows:List (List AV)),VR F H rows l→VR F' H' rows l
 | [],rows,h=>by rw[VR]at h ⊢;exact h
 | v:: l,rows,h=>by
   rw[VR]at h ⊢;obtain⟨r,rs,rfl,h1,h2⟩:=h;exact⟨r,rs,rfl,VV.mono hF v r h1,VR.mono hF l rs h2⟩
end
theorem VV.row{r:List AV}{v:Vl}(h:VV F H r v):dk 6 r=true:=by
 cases v;rw[VV]at h;obtain⟨a,rfl,h⟩:=h;rcases h with⟨_,rfl⟩|⟨_,X,rows,rfl,_⟩<;>rfl
theorem VR.len:∀{l:List Vl} {rows:List (List AV)},VR F H rows l→rows.length=l.length
 | [],rows,h=>by rw[VR]at h;subst h;rfl
 | v:: l,rows,h=>by
   rw[VR]at h;obtain⟨r,rs,rfl,_,h2⟩:=h;simp[h2.len]
theorem VR.rows:∀{l:List Vl} {rows:List (List AV)},VR F H rows l→rows.all (dk 6)=true
 | [],rows,h=>by rw[VR]at h;subst h;rfl
 | v:: l,rows,h=>by
   rw[VR]at h;obtain⟨r,rs,rfl,h1,h2⟩:=h;rw[aa2,h1.row,h2.rows];rfl
theorem VR.snoc{r:List AV}{v:Vl}(hv:VV F H r v):∀{l:List Vl} {rows:List (List AV)},VR F H rows l→VR F H (rows++[r]) (l++[v])
 | [],rows,h=>by
   rw[VR]at h;subst h;rw[List.nil_append,List.nil_append,VR];exact⟨r,[],rfl,hv,by rw[VR]⟩
 | w:: l,rows,h=>by
   rw[VR]at h;obtain⟨r',rs,rfl,h1,h2⟩:=h;rw[abg,abg,VR];exact⟨r',_,rfl,h1,h2.snoc hv⟩
theorem Dk{sz:Nat}{r:List AV}(h:dk sz r=true):r.length=sz:=by
 simp only[dk,NO,beq_iff_eq]at h;exact h.1
theorem kI{sz:Nat}:∀{rows:List (List AV)},rows.all (dk sz)=true→rows.flatten.length=rows.length*sz
 | [],_=>by simp
 | r:: rows,h=>by
   simp only[aa2,NO]at h;rw[abc,AT,Dk h.1,kI h.2,aaB,Nat.succ_mul];omega
mutual
theorem VV.tl:∀(v:Vl) (r:List AV) (d:Nat),VV F H r v→zV v≤d+1→r.map (tl 0 H d)=tH v
 | .mk k t n u f l,r,d,h,hz=>by
   rw[VV]at h;obtain⟨a,rfl,h⟩:=h;rw[BN];have e:tl 0 H d a=wz l:=by
    rcases h with⟨rfl,rfl⟩|⟨h0,X,rows,rfl,h1,h2,h3⟩
    ·exact kV (by simp[Aw.Pure])
    ·have hl:=h3.len;rw[zV]at hz;have hzl:=mM l;obtain⟨d,rfl⟩:∃e,d=e+1:=⟨d-1,by have:0<l.length:=List.length_pos_iff.2 h0;omega⟩;rw[Gm h2 rfl (by rw[kI h3.rows,hl];exact bY _),←hl,pH _ h3.rows,VR.tl l rows d h3 (by omega)];cases l with
     | nil=>exact absurd rfl h0
     | cons v l=>rfl
   simp only[GO,List.map_nil,e];rw[kV (by simp),kV (by simp),kV (by simp),kV (by simp),kV (by simp)]
theorem VR.tl:∀(l:List Vl) (rows:List (List AV)) (d:Nat),VR F H rows l→bU l≤d+1→rows.map (List.map (tl 0 H d))=qH l
 | [],rows,d,h,hz=>by rw[VR]at h;subst h;rfl
 | v:: l,rows,d,h,hz=>by
   rw[VR]at h;obtain⟨r,rs,rfl,h1,h2⟩:=h;rw[bU]at hz;rw[qH,GO,VV.tl v r d h1 (by omega),VR.tl l rs d h2 (by omega)]
end
end
def HL(F:Nat→Prop)(H:aa)(a:AV)(l:List Vl):Prop:=(l=[]∧a=bF)∨(l≠[]∧∃X rows,a=.own X 0 l.length 6∧¬F X∧H[X]?=some (.ah ⟨74,rows.flatten,true⟩)∧VR F H rows l)
section
variable [Laid]
theorem Wk.Ww{n d:Nat}{s:List AV}{h:aa}(hn:n≤h.length):Wk n s h (s.map (tl n h d)) (si n h):=
 ⟨by simp[si];omega,by simp,fun base ι S w vs r k=>by
  obtain⟨e,k'⟩:=k.told hn;refine⟨_,_,e, ?_,k'⟩;cases d with
  | zero =>
    have:=aE.eM (L:=n) (f:=fun _=>.any) k (fun _ _ _=>by simp) s vs r
    rwa [px]at this
  | succ d =>
    have:=aE.eM (L:=n) (f:=tl n h d) k (au.tl k d) s vs r
    rwa [px]at this⟩
theorem dK.Yp{r r':AV}{h':aa}(d:Nat)(q:tl 0 h' d r'=r):dK r r' h':=⟨_,_,Wk.Ww (d:=d) (aaO _),q⟩
omit [Laid] in
theorem HL.told{F:Nat→Prop}{H:aa}{a:AV}{l:List Vl}(d:Nat)(hd:bU l≤d+1)(h:HL F H a l):tl 0 H (d+1) a=wz l:=by
 rcases h with⟨rfl,rfl⟩|⟨h0,X,rows,rfl,h1,h2,h3⟩
 ·exact kV (by simp[Aw.Pure])
 ·have hl:=h3.len;rw[Gm h2 rfl (by rw[kI h3.rows,hl];exact bY _),←hl,pH _ h3.rows,VR.tl l rows d h3 hd];cases l with
  | nil=>exact absurd rfl h0
  | cons v l=>rfl
theorem HL.bj{F:Nat→Prop}{H:aa}{a:AV}{l:List Vl}{e:Int}(h:HL F H a l):dK (.aA [wz l,i_ e]) (.aA [a,i_ e]) H:=by
 refine dK.Yp (bU l+1) ?_;show AV.aA [Aw.tl 0 H (bU l+1) a,i_ e]=_;rw[h.told _ (by omega)]
end
/-! ### The state -/
structure PS(a b:Nat)(F:Nat→Prop)(H:aa)(N:Nat)(ls:List (List Vl))(os:List Tok)(hs:List AV)(Lb:Nat)(e1:List AV)(ho:AV):Prop where
 la:H[a]?=some (.ah ⟨72,[.own Lb 0 ls.length 1],true⟩)
 lb:H[Lb]?=some (.ah ⟨54,hs++e1,true⟩)
 hl:hs.length=ls.length
 hd:∀(i:Nat) (l:List Vl),ls[i]?=some l→l.length≤N∧∃x,hs[i]?=some x∧HL F H x l
 inj:∀(i j X m m':Nat),hs[i]?=some (.own X 0 m 6)→hs[j]?=some (.own X 0 m' 6)→i=j
 ob:H[b]?=some (.ah ⟨51,[ho],true⟩)
 ol:(os=[]∧ho=bF)∨∃Ob e2,ho=.own Ob 0 os.length 5∧H[Ob]?=some (.ah ⟨70,(cQ os).flatten++e2,true⟩)
 fr:∀X,F X→∃cs,H[X]?=some (.ah ⟨74,cs,true⟩)
section
variable {a b N Lb:Nat} {F F':Nat→Prop} {H H':aa} {ls:List (List Vl)} {os:List Tok} {hs e1:List AV} {ho:AV}
theorem HL.mono{x:AV}{l:List Vl}(h:HL F H x l)(hF:∀X,F X→F' X∧H'[X]?=H[X]?)(hx:∀X m,x=.own X 0 m 6→¬F' X∧H'[X]?=H[X]?):HL F' H' x l:=by
 rcases h with h|⟨h0,X,rows,rfl,h1,h2,h3⟩
 ·exact .inl h
 ·exact .inr ⟨h0,X,rows,rfl,(hx X _ rfl).1,by rw[(hx X _ rfl).2];exact h2,h3.mono hF⟩
theorem PS.app(p:PS a b F H N ls os hs Lb e1 ho)(j:aa):PS a b F (H++j) N ls os hs Lb e1 ho:=by
 have hl:∀{i:Nat} {x:aL},H[i]?=some x→(H++j)[i]?=some x:=fun h=>by
  rw[gO (eQ.1 h).1];exact h
 refine⟨hl p.la,hl p.lb,p.hl,fun i l q=>?_,p.inj,hl p.ob, ?_,fun X hX=>(p.fr X hX).imp fun _=>hl⟩
 ·obtain⟨hn,x,hx,hh⟩:=p.hd i l q;refine⟨hn,x,hx, ?_⟩;rcases hh with h|⟨h0,X,rows,rfl,h1,h2,h3⟩
  ·exact .inl h
  ·exact .inr ⟨h0,X,rows,rfl,h1,hl h2,h3.mono fun X hX=>⟨hX,by obtain⟨cs,e⟩:=p.fr X hX;rw[e];exact hl e⟩⟩
 ·rcases p.ol with h|⟨Ob,e2,h1,h2⟩
  ·exact .inl h
  ·exact .inr ⟨Ob,e2,h1,hl h2⟩
theorem PS.put{c:List Vl}{v:Vl}{r:List AV}{rows:List (List AV)}{base:List (List Vl)}{hb:List AV}{x:AV}(p:PS a b F H N (base++[c]) os (hb++[x]) Lb e1 ho)(hc:c.length+1≤N+1)
 (hr:VR F H rows c) (hv:VV F H r v)
 (h1:H'[H.length]?=some (.ah ⟨74,(rows++[r]).flatten,true⟩))
 (h2:H'[Lb]?=some (.ah ⟨54,hb++[.own H.length 0 (c.length+1) 6]++e1,true⟩))
 (h3:∀id,id<H.length→id≠Lb→(∀m,x≠.own id 0 m 6)→H'[id]?=H[id]?) :
 PS a b F H' (N+1) (base++[c++[v]]) os (hb++[.own H.length 0 (c.length+1) 6]) Lb e1 ho:=by
 have hlen:hb.length=base.length:=by have:=p.hl;simp at this;exact this
 have lt:∀{i:Nat} {x:aL},H[i]?=some x→i<H.length:=fun h=>(eQ.1 h).1;have hxX:∀X m,x=.own X 0 m 6→¬F X∧∃cs,H[X]?=some (.ah ⟨74,cs,true⟩):=by
  intro X m e;obtain⟨_,y,hy,hh⟩:=p.hd base.length c (by simp);rw[←hlen,gT (bY _)]at hy;simp at hy;subst hy;rcases hh with⟨_,hh⟩|⟨_,X',rows',e',g1,g2,_⟩
  ·rw[e]at hh;cases hh
  ·rw[e]at e';cases e';exact⟨g1,_,g2⟩
 have fB:∀{id:Nat} {e:aL},H[id]?=some e→id≠Lb→(∀m,x≠.own id 0 m 6)→H'[id]?=some e:=fun h q1 q2=>by rw[h3 _ (lt h) q1 q2];exact h
 have keepT:∀{id t:Nat} {cs:List AV},H[id]?=some (.ah ⟨t,cs,true⟩)→t≠54→t≠74→H'[id]?=some (.ah ⟨t,cs,true⟩):=fun {id t cs} h q1 q2=>by
  refine fB h (fun e=>?_) fun m e=>?_
  ·subst e;rw[p.lb]at h;cases h;exact q1 rfl
  ·obtain⟨_,cs',g⟩:=hxX _ _ e;rw[g]at h;cases h;exact q2 rfl
 have hF:∀X,F X→F X∧H'[X]?=H[X]?:=fun X hX=>by
  obtain⟨cs,e⟩:=p.fr X hX;refine⟨hX,h3 X (lt e) (fun q=>?_) fun m q=>(hxX X m q).1 hX⟩;subst q;rw[p.lb]at e;cases e
 refine⟨?_,h2,by simp[hlen], ?_, ?_,keepT p.ob (by decide) (by decide), ?_,fun X hX=>?_⟩
 ·have:=keepT p.la (by decide) (by decide);simpa using this
 ·intro i l q;rcases Nat.lt_trichotomy i base.length with k|k|k
  ·rw[gO k]at q;obtain⟨hn,y,hy,hh⟩:=p.hd i l (by rw[gO k];exact q);refine⟨by omega,y,by rw[gO (by omega)]at hy ⊢;exact hy,hh.mono hF fun X m e=>?_⟩;subst e;rcases hh with⟨_,e⟩|⟨_,X',rows',e',g1,g2,_⟩
   ·cases e
   ·cases e';refine⟨g1,h3 X (lt g2) (fun q=>?_) fun m' q=>?_⟩
    ·subst q;rw[p.lb]at g2;cases g2
    ·subst q;have:=p.inj i hb.length X _ m' hy (by simp);omega
  ·subst k;simp at q;subst q;refine⟨by simp;omega,.own H.length 0 (c.length+1) 6,by rw[←hlen];simp,.inr ⟨by simp,H.length,rows++[r],by simp,fun z=>?_,h1,(hr.mono hF).snoc (hv.mono hF)⟩⟩;obtain⟨cs,e⟩:=p.fr _ z;have:=lt e;omega
  ·rw[iS (by simp;omega)]at q;cases q
 ·intro i j X m m' q1 q2;have old:∀{i m:Nat},i<hb.length→(hb++[AV.own H.length 0 (c.length+1) 6])[i]?=some (.own X 0 m 6)→hb[i]?=some (.own X 0 m 6)∧X<H.length:=by
   intro i m k q;rw[gO k]at q;refine⟨q, ?_⟩;obtain⟨l,hl⟩:∃l,base[i]?=some l:=⟨_,dO (by omega)⟩;obtain⟨_,y,hy,hh⟩:=p.hd i l (by rw[gO (by omega)];exact hl);rw[gO k,q]at hy;cases hy;rcases hh with⟨_,e⟩|⟨_,X',rows',e',g1,g2,_⟩
   ·cases e
   ·cases e';exact lt g2
  have new:∀{i m:Nat},¬i<hb.length→(hb++[AV.own H.length 0 (c.length+1) 6])[i]?=some (.own X 0 m 6)→i=hb.length∧X=H.length:=by
   intro i m k q;have hi:i=hb.length:=by
    have:=(eQ.1 q).1;simp at this;omega
   subst hi;simp at q;exact⟨rfl,q.1.symm⟩
  by_cases k1:i<hb.length<;>by_cases k2:j<hb.length
  ·exact p.inj i j X m m' (by rw[gO k1];exact (old k1 q1).1) (by rw[gO k2];exact (old k2 q2).1)
  ·have:=(old k1 q1).2;have:=(new k2 q2).2;omega
  ·have:=(old k2 q2).2;have:=(new k1 q1).2;omega
  ·rw[(new k1 q1).1,(new k2 q2).1]
 ·rcases p.ol with h|⟨Ob,e2,g1,g2⟩
  ·exact .inl h
  ·exact .inr ⟨Ob,e2,g1,keepT g2 (by decide) (by decide)⟩
 ·rw[(hF X hX).2];exact p.fr X hX
end
section
variable {a b N Lb:Nat} {F F':Nat→Prop} {H H':aa} {ls:List (List Vl)} {os:List Tok} {hs e1:List AV} {ho:AV}
theorem PS.lt{i:Nat}{x:aL}(h:H[i]?=some x):i<H.length:=(eQ.1 h).1
theorem PS.drop{base:List (List Vl)}{c:List Vl}{ob:List Tok}{o:Tok}{hb:List AV}{x ho':AV}(p:PS a b F H N (base++[c]) (ob++[o]) (hb++[x]) Lb e1 ho)
 (h1:H'[a]?=some (.ah ⟨72,[.own Lb 0 base.length 1],true⟩))
 (h2:H'[b]?=some (.ah ⟨51,[ho'],true⟩)) (hho:∀Ob m,ho=.own Ob 0 m 5→ho'=.own Ob 0 ob.length 5)
 (h3:∀id,id≠a→id≠b→id<H.length→H'[id]?=H[id]?) :
 ∃F',PS a b F' H' N base ob hb Lb (x:: e1) ho'∧VV F' H' [u8 o.k,.str o.t,i_ o.n,.str o.u,b_ o.f,x] (iy o c):=by
 have hlen:hb.length=base.length:=by have:=p.hl;simp at this;exact this
 have keepT:∀{id t:Nat} {cs:List AV},H[id]?=some (.ah ⟨t,cs,true⟩)→t≠72→t≠51→H'[id]?=some (.ah ⟨t,cs,true⟩):=fun {id t cs} h q1 q2=>by
  rw[h3 id (fun e=>?_) (fun e=>?_) (PS.lt h)]
  ·exact h
  ·subst e;rw[p.la]at h;cases h;exact q1 rfl
  ·subst e;rw[p.ob]at h;cases h;exact q2 rfl
 obtain⟨hcn,y,hy,hh⟩:=p.hd base.length c (by simp);rw[←hlen,gT (bY _)]at hy;simp at hy;subst hy;have hlast:(hb++[x])[hb.length]?=some x:=by simp
 have hF:∀X,F X→(F X∨∃m,x=.own X 0 m 6)∧H'[X]?=H[X]?:=fun X hX=>by
  obtain⟨cs,e⟩:=p.fr X hX;exact⟨.inl hX,by rw[keepT e (by decide) (by decide),e]⟩
 refine⟨fun X=>F X∨∃m,x=.own X 0 m 6,⟨h1, ?_,hlen, ?_, ?_,h2, ?_, ?_⟩, ?_⟩
 ·have:=keepT p.lb (by decide) (by decide);simpa using this
 ·intro i l q;have k:i<base.length:=(eQ.1 q).1;obtain⟨hn,y,hy,hy2⟩:=p.hd i l (by rw[gO k];exact q);have hy1:=hy;rw[gO (by omega)]at hy;refine⟨hn,y,hy,hy2.mono hF fun X m e=>?_⟩;subst e;rcases hy2 with⟨_,e⟩|⟨_,X',rows',e',g1,g2,_⟩
  ·cases e
  ·cases e';refine⟨fun z=>?_,by rw[keepT g2 (by decide) (by decide),g2]⟩;rcases z with z|⟨m',z⟩
   ·exact g1 z
   ·subst z;have:=p.inj i hb.length X _ _ hy1 hlast;omega
 ·intro i j X m m' q1 q2;have k1:=(eQ.1 q1).1;have k2:=(eQ.1 q2).1;exact p.inj i j X m m' (by rw[gO k1];exact q1) (by rw[gO k2];exact q2)
 ·rcases p.ol with⟨h,_⟩|⟨Ob,e2,g1,g2⟩
  ·exact absurd h (by simp)
  ·refine .inr ⟨Ob,o.row++e2,hho _ _ g1, ?_⟩;have:=keepT g2 (by decide) (by decide);simpa using this
 ·rintro X (z|⟨m,z⟩)
  ·rw[(hF X z).2];exact p.fr X z
  ·subst z;rcases hh with⟨_,e⟩|⟨_,X',rows',e',g1,g2,_⟩
   ·cases e
   ·cases e';exact⟨_,keepT g2 (by decide) (by decide)⟩
 ·show VV _ _ _ (.mk o.k o.t o.n o.u o.f c);rw[VV];refine⟨x,rfl, ?_⟩;rcases hh with h|⟨h0,X,rows,rfl,g1,g2,g3⟩
  ·exact .inl h
  ·exact .inr ⟨h0,X,rows,rfl,.inr ⟨_,rfl⟩,keepT g2 (by decide) (by decide),g3.mono hF⟩
theorem PS.push{t:Tok}{L2 O2:Nat}(p:PS a b F H N ls os hs Lb e1 ho)
 (h1:H'[a]?=some (.ah ⟨72,[.own L2 0 (ls.length+1) 1],true⟩)) (h2:H'[L2]?=some (.ah ⟨54,hs++[bF],true⟩))
 (h3:H'[b]?=some (.ah ⟨51,[.own O2 0 (os.length+1) 5],true⟩)) (h4:H'[O2]?=some (.ah ⟨70,(cQ (os++[t])).flatten,true⟩))
 (h5:∀(id:Nat) (cs:List AV),H[id]?=some (aL.ah ⟨74,cs,true⟩)→H'[id]?=H[id]?):PS a b F H' N (ls++[[]]) (os++[t]) (hs++[bF]) L2 [] (.own O2 0 (os.length+1) 5):=by
 have hF:∀X,F X→F X∧H'[X]?=H[X]?:=fun X hX=>by
  obtain⟨cs,e⟩:=p.fr X hX;exact⟨hX,h5 X cs e⟩
 have hl:=p.hl;refine⟨by simpa using h1,by simpa using h2,by simp[hl], ?_, ?_,h3,.inr ⟨O2,[],by simp,by simpa using h4⟩,fun X hX=>?_⟩
 ·intro i l q
  by_cases k:i<ls.length
  ·rw[gO k]at q;obtain⟨hn,y,hy,hh⟩:=p.hd i l q;refine⟨hn,y,by rw[gO (by omega)];exact hy,hh.mono hF fun X m e=>?_⟩;subst e;rcases hh with⟨_,e⟩|⟨_,X',rows',e',g1,g2,_⟩
   ·cases e
   ·cases e';exact⟨g1,h5 _ _ g2⟩
  ·have hi:i=ls.length:=by have:=(eQ.1 q).1;simp at this;omega
   subst hi;simp at q;subst q;exact⟨aaO _,bF,by rw[←hl];simp,.inl ⟨rfl,rfl⟩⟩
 ·intro i j X m m' q1 q2;have old:∀{i m:Nat},(hs++[bF])[i]?=some (.own X 0 m 6)→hs[i]?=some (.own X 0 m 6):=by
   intro i m q
   by_cases k:i<hs.length
   ·rw[gO k]at q;exact q
   ·have hi:i=hs.length:=by have:=(eQ.1 q).1;simp at this;omega
    subst hi;simp at q
  exact p.inj i j X m m' (old q1) (old q2)
 ·rw[(hF X hX).2];exact p.fr X hX
end
section
variable [Laid]
omit [Laid] in
theorem Ms{g:aa}{K1 K2:AV→aa→Prop}(q1:K1 (b_ false) (g++[.ah ⟨4,[b_ false],true⟩]))(q2:K2 (b_ true) (g++[.ah ⟨4,[b_ true],true⟩])):
 aW 4 ff g fun v g1=>(ao 1 v tt g1 fun g2=>ao 1 v ff g2 fun g3=>ak false 1 v g3 fun w=>K1 w g3)∧(ao 1 v ff g1 fun g2=>ao 1 v tt g2 fun g3=>ak false 1 v g3 fun w=>K2 w g3):=by
 have st:∀{b c:Bool} {K:aa→Prop},K (g++[.ah ⟨4,[b_ c],true⟩])→ao 1 (.op g.length 0) (b_ c) (g++[.ah ⟨4,[b_ b],true⟩]) K:=fun {b c K} q =>
  aX (id:=g.length) (b:=⟨4,[b_ b],true⟩) (cs:=[b_ c]) rfl (by simp) rfl rfl (by simp) rfl rfl (by simp[bZ]) q
 have ld:∀{c:Bool} {K:AV→Prop},K (b_ c)→ak false 1 (.op g.length 0) (g++[.ah ⟨4,[b_ c],true⟩]) K:=fun {c K} q=>aF (b:=⟨4,[b_ c],true⟩) rfl (by simp) rfl q;refine bW (cs:=[b_ false]) rfl rfl rfl rfl ⟨?_, ?_⟩
 ·exact st (st (ld q1))
 ·exact st (st (ld q2))
omit [Laid] in
theorem lp{sz:Nat}{z v:AV}{cs:List AV}{K:AV→Prop}(hv:bl v=cs)(hl:cs.length=sz)(hz:(bl z).length=sz)(hs:cs.all bQ=true)(q:K (.sl sz [cs])):br 1 sz z [(0,sz,v)] K:=by
 subst hv;have:dQ (gQ 1 (bl z)) [(0,sz,v)]=some (bl v):=by
  simp only[dQ,gQ,aaL];rw[if_pos ⟨hl,by omega,hs⟩,kQ (by omega)]
 unfold br;rw[this];simp only[chunks];rw[MK (by omega)];exact q
abbrev zeroV:List AV:=[u8 0,.str [],i_ 0,.str [],ff,bF]
variable {a b N Lb:Nat} {F F':Nat→Prop} {H H':aa} {os:List Tok} {e1:List AV} {ho:AV}
omit [Laid] in
theorem Pm{x:AV}{c:List Vl}{r:List AV}{K:AV→aa→Prop}(h:HL F H x c)(hr:dk 6 r=true)(hc:c.length<2^20)
 (k:∀H1 rows,VR F H rows c→H1.length=H.length+1→H1[H.length]?=some (.ah ⟨74,(rows++[r]).flatten,true⟩)→(∀id,id<H.length→(∀m,x≠.own id 0 m 6)→H1[id]?=H[id]?)→K (.own H.length 0 (c.length+1) 6) H1) :
 bP true 74 6 80 x (.sl 6 [r]) H K:=by
 rcases h with⟨rfl,rfl⟩|⟨h0,X,rows,rfl,h1,h2,h3⟩
 ·unfold bP eE;rw[fP];refine⟨by rw[aa2,hr];rfl,by simp,⟨by simp[maxLen],by simp⟩, ?_⟩;exact k _ [] (by rw[VR]) (by simp) (by simp) fun id hid _=>by rw[gO hid]
 ·have hl:=h3.len;refine Lr (n:=H.length) rfl h2 (by rw[kI h3.rows,hl];exact bY _) (List.length_pos_iff.2 h0) fP (by rw[aa2,hr];rfl) ⟨by unfold maxLen;simp;omega,by simp;omega⟩ rfl rfl ?_;refine k _ rows h3 (by simp) ?_ fun id hid hne=>?_
  ·rw[gT (by simp)];simp;rw[MK (by rw[kI h3.rows,hl];exact bY _)]
  ·rw[gO (by simpa using hid),iF (fun e=>hne _ (by rw[e]))]
omit [Laid] in
theorem K7{nb:Nat}{base:List (List Vl)}{c:List Vl}{v:Vl}{r hb:List AV}{x:AV}{K:aa→Prop}(p:PS a b F H N (base++[c]) os (hb++[x]) Lb e1 ho)(hnb:base.length=nb)(hN:N<2^20)(hv:VV F H r v)
 (k:∀H',PS a b F H' (N+1) (base++[c++[v]]) os (hb++[.own H.length 0 (c.length+1) 6]) Lb e1 ho→H.length≤H'.length→K H') :
 bP true 74 6 80 x (.sl 6 [r]) H fun v89 g90=>aQ 1 (.own Lb 0 (nb+1) 1) (i_ nb) fun v91=>ao 1 v91 v89 g90 K:=by
 subst hnb;have hlen:hb.length=base.length:=by have:=p.hl;simp at this;exact this
 obtain⟨hcn,y,hy,hh⟩:=p.hd base.length c (by simp);rw[←hlen,gT (bY _)]at hy;simp at hy;subst hy;refine Pm hh hv.row (by omega) fun H1 rows hr hl hn ho=>?_;have hLb:=PS.lt p.lb;have hxl:∀m,x≠.own Lb 0 m 6:=fun m e=>by
  subst e;rcases hh with⟨_,e⟩|⟨_,X',rows',e',g1,g2,_⟩
  ·cases e
  ·cases e';rw[p.lb]at g2;cases g2
 refine jm rfl rfl (by omega) ?_;refine aX (b:=⟨54,hb++[x]++e1,true⟩) (cs:=[.own H.length 0 (c.length+1) 6]) (h':=H1.set Lb (.ah ⟨54,hb++[.own H.length 0 (c.length+1) 6]++e1,true⟩)) rfl (by rw[ho Lb hLb hxl];exact p.lb) rfl rfl (by simp;omega) rfl rfl ?_ ?_
 ·congr 3
  simp only[bZ];rw[show 0+base.length*1=hb.length by omega,To,IF _ _ (bY _)];simp
 ·refine k _ (p.put (by omega) hr hv ?_ ?_ ?_) (by simp;omega)
  ·rw[iF (by omega)];exact hn
  ·rw[iD (by omega)]
  ·intro id h1 h2 h3;rw[iF (Ne.symm h2)];exact ho id h1 h3
omit [Laid] in
theorem K8{nb:Nat}{base:List (List Vl)}{c:List Vl}{v:Vl}{r hb:List AV}{x y:AV}{K:aa→Prop}(p:PS a b F H N (base++[c]) os (hb++[x]) Lb e1 ho)(hnb:base.length=nb)(hN:N<2^20)(hv:VV F H r v)(hy:bl y=r)
 (k:∀H',PS a b F H' (N+1) (base++[c++[v]]) os (hb++[.own H.length 0 (c.length+1) 6]) Lb e1 ho→H.length≤H'.length→K H') :
 bP true 74 6 80 x (.sl 6 [zeroV]) H fun v75 g76=>aQ 1 (.own Lb 0 (nb+1) 1) (i_ nb) fun v77=>ao 1 v77 v75 g76 fun g78=>aQ 6 v75 (i_ c.length) fun v79=>ao 6 v79 y g78 K:=by
 subst hnb;have hlen:hb.length=base.length:=by have:=p.hl;simp at this;exact this
 obtain⟨hcn,z,hz,hh⟩:=p.hd base.length c (by simp);rw[←hlen,gT (bY _)]at hz;simp at hz;subst hz;refine Pm hh rfl (by omega) fun H1 rows hr hl hn ho=>?_;have hLb:=PS.lt p.lb;have hxl:∀m,x≠.own Lb 0 m 6:=fun m e=>by
  subst e;rcases hh with⟨_,e⟩|⟨_,X',rows',e',g1,g2,_⟩
  ·cases e
  ·cases e';rw[p.lb]at g2;cases g2
 have hrl:=hr.len;have hro:=Dk hv.row;have hfl:=kI hr.rows;refine jm rfl rfl (by omega) ?_;refine aX (b:=⟨54,hb++[x]++e1,true⟩) (cs:=[.own H.length 0 (c.length+1) 6]) (h':=H1.set Lb (.ah ⟨54,hb++[.own H.length 0 (c.length+1) 6]++e1,true⟩)) rfl (by rw[ho Lb hLb hxl];exact p.lb) rfl rfl (by simp;omega) rfl rfl ?_ ?_
 ·congr 3
  simp only[bZ];rw[show 0+base.length*1=hb.length by omega,To,IF _ _ (bY _)];simp
 ·refine jm rfl rfl (by omega) ?_;refine aX (b:=⟨74,(rows++[zeroV]).flatten,true⟩) (cs:=r) (h':=(H1.set Lb (.ah ⟨54,hb++[.own H.length 0 (c.length+1) 6]++e1,true⟩)).set H.length (.ah ⟨74,(rows++[r]).flatten,true⟩)) rfl (by rw[iF (by omega)];exact hn) rfl hy (by simp only[List.flatten_append,AT,hfl,hrl];simp;omega) hro (by have:=hv.row;simp only[dk,NO]at this;exact this.2) ?_ ?_
  ·congr 3
   show bZ (rows++[zeroV]).flatten (0+c.length*6) r=_;rw[show 0+c.length*6=rows.flatten.length by omega];simp only[List.flatten_append,abc,List.flatten_nil,aaL];exact vI r rows.flatten zeroV (by rw[hro];rfl)
  ·refine k _ (p.put (by omega) hr hv ?_ ?_ ?_) (by simp;omega)
   ·rw[iD (by simp;omega)]
   ·rw[iF (by omega),iD (by omega)]
   ·intro id h1 h2 h3;rw[iF (by omega),iF (Ne.symm h2)];exact ho id h1 h3
end
end
section
open Go Go.Aw Go.fg Go.RowKit
variable [Laid]
variable{base:List (List Vl)}{ob:List Tok}
theorem oo(k:Int):bn p_ 30 [u1 k] (u1 (cG k)):=by
 refine (V30 _).bj (by simp) (by simp) ?_;unfold Xn;rcases (by omega:k=2∨k=19∨k=21∨k=23∨(k≠2∧k≠19∧k≠21∧k≠23)) with rfl|rfl|rfl|rfl|⟨h1,h2,h3,h4⟩
 ·simp;exact .pure (by simp) rfl
 ·simp;exact .pure (by simp) rfl
 ·simp;exact .pure (by simp) rfl
 ·simp;exact .pure (by simp) rfl
 ·simp[h1,h2,h3,h4];exact .pure (by simp) (by simp[cG,h1,h2,h3,h4])
omit [Laid] in
theorem Rw{o:Tok}{e2:List AV}:(((cQ (ob++[o])).flatten++e2).drop (ob.length*5)).take 5=o.row:=by
 have h:((cQ ob).flatten).length=ob.length*5:=by rw[kI (pq ob)];simp
 have e:(cQ (ob++[o])).flatten++e2=(cQ ob).flatten++(o.row++e2):=by simp
 rw[e,←h,List.drop_left];rfl
omit [Laid] in
theorem sj{l:List Tok}:((cQ l).flatten).length=l.length*5:=by rw[kI (pq l)];simp
omit [Laid] in
theorem kW{b:Bool}{X:Prop}(h:b=true)(q:X):cM b X:=by subst h;exact q
omit [Laid] in
theorem Ko{m id len n:Nat}{x y:AV}{K:AV→Prop}(ex:x=.own id 0 len m)(ey:y=i_ n)(hn:n≤len)(q:K (.own id 0 n m)):lg m x none (some y) K:=by
 subst ex;subst ey;rw[VS];simp only[eT];refine⟨trivial,⟨by omega,by omega,by omega⟩, ?_⟩;simpa using q
omit [Laid] in
theorem qi{d i o:Nat}(h:i≠d):qF d (.op i o)=true:=by
 unfold qF;cases e:Nat.beq i d with
 | false=>simp[e]
 | true=>exact absurd (lE e) h
omit [Laid] in
theorem PS.free{a b N Lb:Nat}{F:Nat→Prop}{H:aa}{g:List Vl}{os:List Tok}{hg e1:List AV}{y ho:AV}(p:PS a b F H N (base++[g]) os (hg++[y]) Lb e1 ho):∃d,qF d (.op a 0)=true∧vD d y=true:=by
 have hgl:hg.length=base.length:=by have:=p.hl;simp at this;omega
 obtain⟨_,z,hz,hh⟩:=p.hd base.length g (by simp);rw[←hgl]at hz;simp at hz;subst hz;rcases hh with⟨_,rfl⟩|⟨_,X,rows,rfl,_,h2,_⟩
 ·exact⟨a+1,qi (by omega),rfl⟩
 ·refine⟨X, ?_,by simp[vD]⟩;have:a≠X:=fun e=>by subst e;have:=p.la;rw[h2]at this;cases this
  exact qi this
def PX(a b:Nat)(H:aa)(N:Nat)(ls:List (List Vl))(os:List Tok):Prop:=∃F hs Lb e1 ho,PS a b F H N ls os hs Lb e1 ho
theorem Lc{a b N:Nat}{H:aa}{g c:List Vl}{o:Tok}{K:AV→aa→Prop}(p:PX a b H N (base++[g]++[c]) (ob++[o]))(hN:N<2^20)(hob:ob.length=base.length)(hbl:base.length<2^20)
 (k:∀H',PX a b H' (N+1) (base++[g++[iy o c]]) ob→H.length≤H'.length→K (.aA []) H'):bz p_ (.fn (.func 29) [] [.op b 0,.op a 0]) [] H K:=by
 have hb:dr p_ 29=true:=by kernel_rfl
 refine⟨hb, ?_⟩;show bV _ _ ([]++[]++[.op b 0,.op a 0]) _ _;refine bV.mono (K:=fun v H' => v=.aA []∧PX a b H' (N+1) (base++[g++[iy o c]]) ob∧H.length≤H'.length) ?_ (by rintro _ H' ⟨rfl,h1,h2⟩;exact k H' h1 h2);obtain⟨F,hs,Lb,e1,ho,p⟩:=p;have hal:=PS.lt p.la;have hbl2:=PS.lt p.ob;have hll:=PS.lt p.lb;have hab:a≠b:=fun e=>by subst e;have:=p.la;rw[p.ob]at this;cases this
 obtain⟨hb,x,rfl⟩:∃hb x,hs=hb++[x]:=by
  have h0:hs≠[]:=fun e=>by have:=p.hl;rw[e]at this;simp at this
  exact⟨hs.dropLast,hs.getLast h0,(List.dropLast_concat_getLast h0).symm⟩
 obtain⟨hg,y,rfl⟩:∃hg y,hb=hg++[y]:=by
  have h0:hb≠[]:=fun e=>by have:=p.hl;rw[e]at this;simp at this
  exact⟨hb.dropLast,hb.getLast h0,(List.dropLast_concat_getLast h0).symm⟩
 have hgl:hg.length=base.length:=by have:=p.hl;simp at this;omega
 obtain⟨Ob,e2,rfl,hO⟩:∃Ob e2,ho=.own Ob 0 (ob.length+1) 5∧H[Ob]?=some (.ah ⟨70,(cQ (ob++[o])).flatten++e2,true⟩):=by
  rcases p.ol with⟨e,_⟩|⟨Ob,e2,q1,q2⟩
  ·exact absurd e (by simp)
  ·exact⟨Ob,e2,by simpa using q1,q2⟩
 refine (V29 _ _).bI ?_;unfold Xm;have cI:∀m:Nat,m<2^21→aJ (m:Int):=fun m hm=>by unfold aJ;omega
 refine zzU p.ob rfl ?_;rw[uj];intro _;refine zze (by unfold aJ;omega) ?_;rw[show ((ob.length+1:Nat):Int)-1=(base.length:Nat) by omega];refine zzU p.ob rfl (jm rfl rfl (by omega) ?_);rw[show 0+base.length*5=ob.length*5 by omega];refine zzV hO (by simp only[List.length_drop,AT,sj,aaB,abd];omega) ?_;rw[Rw];refine zzU p.la rfl (zzP (by unfold aJ;omega) ?_);rw[show ((base.length:Nat):Int)+1=((base.length+1:Nat):Int) by omega];refine jm rfl rfl (by simp) ?_;refine zzU (c:=x) p.lb (by simp;rw[gT (by omega)];simp[hgl]) ?_;have hxs:bQ x=true:=by
  obtain⟨_,z,hz,hh⟩:=p.hd (base.length+1) c (by simp);rw[gT (by simp;omega)]at hz;simp[hgl]at hz;subst hz;rcases hh with⟨_,rfl⟩|⟨_,X,rows,rfl,_⟩<;>rfl
 refine bf (cs:=[u8 o.k,.str o.t,i_ o.n,.str o.u,b_ o.f,x]) (by
  cases x<;>first|(simp[dQ,bl,bZ,bQ]at hxs ⊢;done)|(simp[bQ]at hxs;done)|(simp[dQ,bl,bZ,bQ]at hxs ⊢;assumption)) ?_
 obtain⟨R,hR⟩:∃R:List AV,R=[u8 o.k,.str o.t,i_ o.n,.str o.u,b_ o.f,x]:=⟨_,rfl⟩;have hRs:R.all bQ=true:=by rw[hR];simp only[aa2,List.all_nil,hxs];rfl
 have hRl:R.length=6:=by rw[hR];rfl
 rw[←hR];refine aX (id:=H.length+1+0) (b:=⟨74,zeroV,true⟩) (cs:=R) (h':=H++[.dead]++[.ah ⟨74,R,true⟩]) rfl (by rw[gT (by simp)];simp) rfl rfl (by rw[hRl];simp) hRl hRs (by rw[IF _ _ (by simp)];simp[kQ (a:=zeroV) (b:=R) (by rw[hRl];rfl)]) ?_;have p3:=(p.app [.dead]).app [aL.ah ⟨74,R,true⟩];obtain⟨H3,h3⟩:∃H3,H3=H++[.dead]++[aL.ah ⟨74,R,true⟩]:=⟨_,rfl⟩;rw[←h3]at p3 ⊢;have l3:H3.length=H.length+2:=by rw[h3];simp
 have hv3:H3[H.length+1+0]?=some (.ah ⟨74,R,true⟩):=by rw[h3,gT (by simp)];simp
 refine⟨a, ?_⟩;refine zzU p3.la rfl (zzP (by unfold aJ;omega) ?_);rw[show ((base.length:Nat):Int)+1=((base.length+1:Nat):Int) by omega];refine Ko rfl rfl (by simp) (kW (qi (Ne.symm hab)) (zzU p3.ob rfl (Ko rfl rfl (by omega) (kW (by simp[xo]) (aX (b:=⟨72,_,true⟩) (cs:=[.own Lb 0 (base.length+1) 1]) (h':=H3.set a (.ah ⟨72,[.own Lb 0 (base.length+1) 1],true⟩)) rfl p3.la rfl rfl (by simp) rfl rfl rfl ?_)))));refine aX (b:=⟨51,_,true⟩) (cs:=[.own Ob 0 base.length 5]) (h':=(H3.set a (.ah ⟨72,[.own Lb 0 (base.length+1) 1],true⟩)).set b (.ah ⟨51,[.own Ob 0 base.length 5],true⟩)) rfl (by rw[iF hab];exact p3.ob) rfl rfl (by simp) rfl rfl rfl ?_;obtain⟨H5,h5⟩:∃H5,H5=(H3.set a (.ah ⟨72,[.own Lb 0 (base.length+1) 1],true⟩)).set b (.ah ⟨51,[.own Ob 0 base.length 5],true⟩):=⟨_,rfl⟩;rw[←h5];have l5:H5.length=H.length+2:=by rw[h5];simp[l3]
 obtain⟨F',p5,hv⟩:=p3.drop (H':=H5) (ho':=.own Ob 0 base.length 5) (by rw[h5,iF (Ne.symm hab),iD (by omega)];simp) (by rw[h5,iD (by simp;omega)]) (fun Ob' m e=>by cases e;rw[hob]) fun id q1 q2 q3=>by rw[h5,iF (Ne.symm q2),iF (Ne.symm q1)]
 rw[←hR]at hv;have hv5:H5[H.length+1+0]?=some (.ah ⟨74,R,true⟩):=by rw[h5,iF (by omega),iF (by omega)];exact hv3
 have hvm:∀j,VV F' (H5++j) R (iy o c):=fun j=>hv.mono fun X hX=>⟨hX,by obtain⟨cs,e⟩:=p5.fr X hX;rw[gO (PS.lt e)]⟩;have hy6:∀j:aa,(H5++j)[H.length+1+0]?=some (.ah ⟨74,R,true⟩):=fun j=>by rw[gO (by omega)];exact hv5
 refine aH ?_;refine Ms ?_ ?_
 ·have p6:=p5.app [aL.ah ⟨4,[b_ false],true⟩];refine aq (zzK rfl ?_);obtain⟨d,hd1,hd2⟩:=p6.free;refine⟨d,kW hd1 ?_⟩;refine zzU p6.la rfl (zzU p6.la rfl (jm rfl rfl (by simp) ?_));refine zzU (c:=y) p6.lb (by simp;rw[gT (by omega)];simp[hgl]) ?_;refine zzV (hy6 _) (by simp[hRl]) (lp (cs:=R) (by simp only[List.drop_zero,bl];rw[MK (by omega)]) hRl rfl hRs (kW hd2 ?_));simp only[AT,aaB,abd,aaQ];refine K7 p6 rfl hN (hvm _) fun H' p7 hl=>?_;exact⟨_,_,Wk.refl _ _ _ (by simp at hl;omega),rfl,⟨_,_,_,_,_,p7⟩,by simp at hl;omega⟩
 ·have p6:=p5.app [aL.ah ⟨4,[b_ true],true⟩];refine aq (zzL rfl (zzU p6.la rfl (jm rfl rfl (by simp) ?_)));refine zzU (c:=y) p6.lb (by simp;rw[gT (by omega)];simp[hgl]) ?_;refine zzV (hy6 _) (by simp[hRl]) ?_;have hlq:∀{K:AV→Prop},K (i_ g.length)→ja y K:=by
   obtain⟨_,z,hz,hh⟩:=p6.hd base.length g (by simp);rw[←hgl]at hz;simp at hz;subst hz;intro K q;rcases hh with⟨rfl,rfl⟩|⟨_,X,rows,rfl,_⟩
   ·exact q
   ·exact q
  refine hlq (lp (cs:=zeroV) rfl rfl rfl rfl ?_);simp only[AT,aaB,abd,aaQ];refine K8 p6 rfl hN (hvm _) (by simp only[List.drop_zero,bl];rw[MK (by omega)]) fun H' p7 hl=>?_;exact⟨_,_,Wk.refl _ _ _ (by simp at hl;omega),rfl,⟨_,_,_,_,_,p7⟩,by simp at hl;omega⟩
end
section
open Go Go.Aw Go.fg
variable [Laid]
variable{K:AV→Prop}{a b:Int}
omit [Laid] in
theorem Kl{x y:AV}(ex:x=i_ a)(ey:y=i_ b)(q:K (i_ (max a b))):kr x y K:=by
 subst ex;subst ey;refine⟨rfl, ?_⟩;rw[show (if a<b then b else a)=max a b by omega];exact q
omit [Laid] in
theorem zzc(q:K (i_ (max a b))):kr (i_ a) (i_ b) K:=Kl rfl rfl q
def xR(c:Int)(l:List Vl):AV:=.agg [i_ (dw l),i_ (dh l),b_ (fh c l)]
def RW(n:Nat):Prop:=∀(l:List Vl) (c:Int),bU l≤n→bn p_ 45 [.sl 6 (cA l),u1 c] (xR c l)
theorem QP{n:Nat}(hn:n<2^40)(hP:∀n',n'<n→RW n'):RW n:=by
 intro l c hz;refine (V45 _ _).bj (by simp[lj]) (by simp[xR]) ?_;unfold XB;have hlen:(cA l).length=l.length:=by simp[eg]
 have hll:=mM l;refine fq (by simp) (fq (by simp) ?_);refine zzf (n:=l.length) hlen fun _=>?_;refine bc (α:=Nat) (fun k=>k≤l.length) (fun k=>[i_ k]) (fun k=>[.ah ⟨104,[i_ 0,i_ 0,ff],true⟩,.ah ⟨104,[i_ (dw (l.take k)),i_ (dh (l.take k)),b_ (fh c (l.take k))],true⟩]) (fun k=>l.length-k) 0 (by simp) (by simpa[dw,dh,fh]using Wk.refl _ _ _ (by simp)) ?_;intro k hk;refine zzC ?_;rcases uP k l.length with q|q
 ·obtain⟨⟨kd,tx,nu,un',fl,l2⟩,hx⟩:∃x,l[k]?=some x:=⟨l[k],dO q⟩;have hin:aJ ((k:Int)+1):=by unfold aJ;omega
  have hzv:=uH (gE hx);rw[zV]at hzv;have hrec:=hP (bU l2) (by omega) l2 (cG kd) (bY _);have d1:=GI hx;have d2:=Jd hx;have d3:=Ja c hx;rw[pJ]at d1;rw[uV]at d2;rw[wJ]at d3;have b1:=sR (l.take k);have b2:=uW (l.take k);have b0:=pU l k;have b3:=sR l2;have b4:=uW l2;have h2len:(cA l2).length=l2.length:=by simp[eg]
  obtain⟨D,hD⟩:∃D,dw (l.take k)=D:=⟨_,rfl⟩;obtain⟨C,hC⟩:∃C,dh (l.take k)=C:=⟨_,rfl⟩;obtain⟨B,hB⟩:∃B,fh c (l.take k)=B:=⟨_,rfl⟩;obtain⟨D2,hD2⟩:∃D,dw l2=D:=⟨_,rfl⟩;obtain⟨C2,hC2⟩:∃C,dh l2=C:=⟨_,rfl⟩;obtain⟨B2,hB2⟩:∃B,fh (cG kd) l2=B:=⟨_,rfl⟩;rw[xR,hD2,hC2,hB2]at hrec;rw[hD]at d1 b1 ⊢;rw[hC]at d2 b2 ⊢;rw[hB]at d3 ⊢;rw[hD2]at d1 b3;rw[hC2]at d2 b4;rw[hB2]at d3;have i1:aJ ((C:Int)+1):=by unfold aJ;omega
  have i2:aJ ((D2:Int)+1):=by unfold aJ;omega
  have i3:aJ ((C:Int)+1+C2):=by unfold aJ;omega
  have i4:aJ ((C:Int)+1+C2+1):=by unfold aJ;omega
  have he:(l2=[])↔l2.length=0:=List.length_eq_zero_iff.symm;refine zzL (by simpa using q) (aH (zzb (eg l) rfl hx (zzY (by simp[lq]) (fq rfl ?_))));rw[jt];refine dP (cs:=[u1 kd,.str tx,i_ nu,.str un',b_ fl,.sl 6 (cA l2)]) rfl rfl rfl rfl (bY _) rfl rfl ?_
  by_cases hc0:cG kd=0
  ·have g0:decide (cG kd=0)=true:=by simpa using hc0
   rw[if_pos hc0]at d1 d2 d3;repeat' (first|(with_reducible first|apply aH|apply aq)|((with_reducible first|apply fe|apply bR|apply dG);rfl;rfl)|((with_reducible apply cg);rfl;rfl;first|assumption|(unfold aJ;omega))|((with_reducible apply aM);rfl)|((with_reducible apply aO);rfl)|((with_reducible apply ax);rfl;first|rfl|assumption)|((with_reducible apply bt);rfl;first|rfl|assumption)|((with_reducible apply bw);rfl;first|rfl|assumption)|((with_reducible apply dc);rfl)|((with_reducible apply fw);rfl)|((with_reducible apply aK);rfl)|((with_reducible apply aF);rfl;rfl;rfl)|((with_reducible apply dP);rfl;rfl;rfl;rfl;(first|exact bY _|simp);(first|rfl|simp);(first|rfl|simp))|((with_reducible apply dz);rfl;(first|rfl|simp);intro _)|(refine uCon (oo kd) ?_)|((with_reducible apply ct);rfl)|((with_reducible apply cE);rfl)|(with_reducible intro _))
   all_goals
    refine⟨k+1,q,Wk.back (M:=2) (by simp) (by simp) ?_ rfl (by simp[rM];exact⟨kK _ _ (by simp),kK _ _ (by simp)⟩) (by simp[Bd]),by omega⟩;rw[d1,d2,d3];simp[bZ]
    grind
  ·have g0:decide (cG kd=0)=false:=by simpa using hc0
   rw[if_neg hc0]at d1 d2 d3;repeat' (first|((with_reducible apply Kl);rfl;rfl)|(with_reducible first|apply aH|apply aq)|((with_reducible first|apply bR|apply dG);rfl;rfl)|((with_reducible apply cg);rfl;rfl;first|assumption|(unfold aJ;omega))|((with_reducible apply aM);rfl)|((with_reducible apply aO);rfl)|((with_reducible apply ax);rfl;first|rfl|assumption)|((with_reducible apply ay);rfl;first|rfl|assumption)|((with_reducible apply bt);rfl;first|rfl|assumption)|((with_reducible apply bw);rfl;first|rfl|assumption)|((with_reducible apply dc);rfl)|((with_reducible apply fw);rfl)|((with_reducible apply aK);rfl)|((with_reducible apply aF);rfl;rfl;rfl)|((with_reducible apply fq);first|rfl|simp)|((with_reducible apply dP);rfl;rfl;rfl;rfl;(first|exact bY _|simp);(first|rfl|simp);(first|rfl|simp))|((with_reducible apply bf);rfl)|(refine uCon (oo kd) ?_)|(refine uCon (hrec) ?_)|((with_reducible apply cE);rfl)|(with_reducible intro _))
   all_goals
    refine⟨k+1,q,Wk.back (M:=2) (by simp) (by simp) ?_ rfl (by simp[rM];exact⟨kK _ _ (by simp),kK _ _ (by simp)⟩) (by simp[Bd]),by omega⟩;rw[d1,d2,d3];simp[bZ]
    grind
 ·have hk:k=l.length:=by omega
  subst hk;rw[BY];refine zzK (by simp) (zzV rfl (by simp) (dP (cs:=[i_ (dw l),i_ (dh l),b_ (fh c l)]) rfl rfl rfl rfl (by simp) (by simp) (by simp) (zzV rfl (by simp) ?_)));exact .pure (by simp) (by simp[xR])
theorem Ua:∀n,n<2^40→RW n:=by
 intro n;induction n using Nat.strongRecOn with
 | _ n ih=>exact fun hn=>QP hn fun n' h=>ih n' h (by omega)
theorem Np(l:List Vl)(c:Int)(hz:bU l<2^40):bn p_ 45 [.sl 6 (cA l),u1 c] (xR c l):=Ua _ hz l c (bY _)
theorem AM(l:List Vl)(hz:bU l<2^40):bn p_ 31 [.sl 6 (cA l)] (i_ (jr l)):=by
 refine (V31 _).bj (by simp[lj]) (by simp) ?_;unfold Xo;have hL:=Np l 0 hz;rw[xR]at hL;repeat' (first|((with_reducible apply fe);rfl;rfl)|((with_reducible apply aK);rfl)|((with_reducible apply aF);rfl;rfl;rfl)|((with_reducible apply fq);first|rfl|simp)|((with_reducible apply dP);rfl;rfl;rfl;rfl;(first|exact bY _|simp);(first|rfl|simp);(first|rfl|simp))|(refine uCon (hL) ?_)|((with_reducible apply ct);rfl)|(with_reducible intro _))
 all_goals
  refine .pure (by simp) ?_;simp only[AV.v.injEq,Value.int.injEq,true_and];simp[bZ]at *;unfold jr;repeat' split
  all_goals first|rfl|omega|simp_all
end
section
open Go Go.Aw
variable [Laid]
def X0(x0 x1:AV)(h:aa)(K:AV→aa→Prop):Prop:=
 aW 70 (.agg [u8 0,.str [],i_ 0,.str [],ff]) h fun b a=>qLd p_ x0 1 a fun e=>ae .add e x1 fun f=>qLd p_ x0 0 a fun g=>ja g fun i=>ae .lss f i fun j=>ag j (qLd p_ x0 0 a fun k=>qLd p_ x0 1 a fun l=>ae .add l x1 fun m=>aQ 6 k m fun n=>iFL 0 true 5 n a fun o=>ao 5 b o a fun c=>ak true 5 b c fun r23=>K r23 c) (aY (.agg [u8 0,.str [],i_ 0,.str [],ff]) [] fun p=>ao 5 b p a fun d=>ak true 5 b d fun r26=>K r26 d)
theorem V75(x0 x1:AV):fv p_ 75 [x0,x1] (X0 x0 x1):=mkM Tryz.func75 (sn (.seq (.seq (.draw 12 (oR 0 12 []) [] []) (.two (.seq (.draw 13 (oR 0 13 []) [.op 13 false] []) .nil) .nil)) .nil)) 31 [.cell 4 70]
def Sd(x0 x1:AV)(h:aa)(K:AV→aa→Prop):Prop:=
 qLd p_ x0 0 h fun a=>qLd p_ x0 1 h fun b=>ae .add b x1 fun c=>aQ 6 a c fun d=>iFL 5 false 1 d h fun e=>K e h
theorem Yx(x0 x1:AV):fv p_ 105 [x0,x1] (Sd x0 x1):=mkM Tryz.func105 (sn (.seq (.draw 14 (oR 0 14 []) [] []) .nil)) 18 [.tmp 4]
def X4(x0:AV)(h:aa)(K:AV→aa→Prop):Prop:=
 qLd p_ x0 1 h fun a=>qLd p_ x0 0 h fun b=>ja b fun c=>ae .eql a c fun d=>K d h
theorem V79(x0:AV):fv p_ 79 [x0] (X4 x0):=mkM Tryz.func79 (sn (.seq (.draw 11 (oR 0 11 []) [] []) .nil)) 13 [.tmp 2]
def XY(x0:AV)(h:aa)(K:AV→aa→Prop):Prop:=
 qLd p_ x0 1 h fun b=>bL [] h fun c n d =>
 iC p_ 75 [x0,i_ 0] d fun e a=>rR false 0 1 e fun f=>ae .eql f (u8 13) fun g=>ag g (qLd p_ x0 1 a fun i=>qBe .add i 1 fun j=>qSt p_ x0 1 j a fun k=>eC [x0,b] (c [] k)) (qLd p_ x0 1 a fun l=>ae .gtr l b fun m=>K m a)
theorem V73(x0:AV):fv p_ 73 [x0] (XY x0):=mkM Tryz.func73 (sn (sn (.seq (.one (.loop [0,3] [] .nil)) .nil))) 25 [.tmp 2]
def X2(x0 x1:AV)(h:aa)(K:AV→aa→Prop):Prop:=
 iC p_ 75 [x0,i_ 0] h fun d e=>aW 70 (.agg [u8 0,.str [],i_ 0,.str [],ff]) e fun b f=>ao 5 b d f fun a=>iFL 0 false 1 b a fun g=>ae .neq g (u8 9) fun i=>qJo i [x0] a (fun j=>iFL 1 false 1 b a fun k=>ae .neq k x1 fun l=>j l a) fun m c=>ag m (K ff c) (qLd p_ x0 1 c fun n=>qBe .add n 1 fun o=>qSt p_ x0 1 o c fun p=>K tt p)
theorem V77(x0 x1:AV):fv p_ 77 [x0,x1] (X2 x0 x1):=mkM Tryz.func77 (sn (sn (.seq (.seq (.aR (oR 0 4 (.aD 3 false (fR 4 4) [0] [11,15]::.op 8 false::[]))) .nil) .nil))) 24 [.tmp 4]
def XZ(x0:AV)(h:aa)(K:AV→aa→Prop):Prop:=
 bL [i_ 0] h fun d a b =>
 qBe .lss (nx a 0) 3 fun e=>ag e (qBe .add (nx a 0) 1 fun f=>eN (.str [62,43,126]) (some (nx a 0)) (some f) fun g=>iC p_ 77 [x0,g] b fun i c=>ag i (iC p_ 73 [x0] c fun n j=>cy .u8 (nx a 0) fun k=>ae .add (u8 2) k fun l=>K l j) (qBe .add (nx a 0) 1 fun m=>eC [x0] (d [m] c))) (K (u8 0) b)
theorem V74(x0:AV):fv p_ 74 [x0] (XZ x0):=mkM Tryz.func74 (sn (.seq (sn (.one (.loop [0] [4] .nil))) .nil)) 19 [.tmp 2]
def X3(x0 x1:AV)(h:aa)(K:AV→aa→Prop):Prop:=
 aW 80 x1 h fun c v=>bL [qNs] v fun w d x =>
 aY (.agg [u8 0,.str [],u8 0,.str [],ff,i_ 0,i_ 0,ff,qNs]) [] fun y=>aW 46 (.agg [u8 0,.str [],u8 0,.str [],ff,i_ 0,i_ 0,ff,qNs]) x fun a z=>ao 9 a y z fun A=>iC p_ 75 [x0,i_ 1] A fun B C=>aW 70 (.agg [u8 0,.str [],i_ 0,.str [],ff]) C fun g D=>ao 5 g B D fun E=>aw (fun i=>iC p_ 75 [x0,i_ 0] E fun F G=>aW 70 (.agg [u8 0,.str [],i_ 0,.str [],ff]) G fun e H=>ao 5 e F H fun f=>iFL 0 false 1 e f fun I=>ae .eql I (u8 4) fun J=>ag J ((∃d24:Nat,iFL 1 false 1 e f fun L=>aY (.agg [u8 0,.str [],u8 0,.str [],ff,i_ 0,i_ 0,ff,qNs]) [(0,1,(u8 1)),(1,1,L)] fun M=>bp 4 e fun l=>cM (qF d24 l) (ak false 1 l f fun N=>cM (xo d24 a) (ao 9 a M f fun m=>qLd p_ x0 1 m fun O=>qBe .add O 1 fun P=>qSt p_ x0 1 P m fun Q=>eC [x0,c,nx d 0,a] (i [N] Q))))) (iFL 0 false 1 e f fun R=>ae .eql R (u8 9) fun S=>qJa S [x0,c,nx d 0,a,ff,g,e] f (fun T=>iFL 1 false 1 e f fun U=>ae .eql U (.str [46]) fun V=>T V f) fun W b=>ag W ((∃d48:Nat,iFL 1 false 1 g b fun X=>aY (.agg [u8 0,.str [],u8 0,.str [],ff,i_ 0,i_ 0,ff,qNs]) [(0,1,(u8 2)),(1,1,X)] fun Y=>bp 0 g fun n=>cM (qF d48 n) (ak false 1 n b fun Z=>ae .eql Z (u8 1) fun a0=>cM (xo d48 a) (ao 9 a Y b fun o=>qLd p_ x0 1 o fun a1=>qBe .add a1 2 fun a2=>qSt p_ x0 1 a2 o fun a3=>eC [x0,c,nx d 0,a] (i [a0] a3))))) (iFL 0 false 1 e b fun a4=>ae .eql a4 (u8 19) fun a5=>ag a5 (iC p_ 105 [x0,i_ 0] b fun a6 a7=>iC p_ 104 [a6] a7 fun p a8=>aU 0 p fun a9=>aU 1 p fun b0=>ao 9 a a9 a8 fun q=>qLd p_ x0 1 q fun b1=>qBe .add b1 1 fun b2=>qSt p_ x0 1 b2 q fun b3=>eC [x0,c,nx d 0,a] (i [b0] b3)) (iFL 0 false 1 e b fun b4=>ae .eql b4 (u8 16) fun b5=>ag b5 (aw (fun j=>iFL 0 false 1 g b fun r=>ae .eql r (u8 1) fun b6=>ag b6 (iFL 1 false 1 g b fun b7=>iC p_ 106 [b7] b fun s b8=>aU 0 s fun b9=>aU 1 s fun c0=>ao 9 a b9 b8 fun c1=>eC [x0,c,nx d 0,a] (j [c0] c1)) (ae .eql r (u8 2) fun c2=>ag c2 (iFL 1 false 1 g b fun c3=>iQ p_ 105 [x0,i_ 1] b fun c4=>ak true 2 c b fun c5=>iQ p_ 107 [c3,c4,c5] b fun t=>aU 0 t fun c6=>aU 1 t fun c7=>ao 9 a c6 b fun c8=>eC [x0,c,nx d 0,a] (j [c7] c8)) (eC [x0,c,nx d 0,a] (j [ff] b)))) fun c9 u=>qLd p_ x0 1 u fun d0=>qBe .add d0 2 fun d1=>qSt p_ x0 1 d1 u fun d2=>eC [x0,c,nx d 0,a] (i [nx c9 0] d2)) (K (.aA [nx d 0,tt]) b))))) fun d3 k=>cq (nx d3 0) fun d4=>ag d4 (K (.aA [qNs,ff]) k) (ak true 9 a k fun d5=>br 1 9 (.agg [u8 0,.str [],u8 0,.str [],ff,i_ 0,i_ 0,ff,qNs]) [(0,9,d5)] fun d6=>bP false 46 9 104 (nx d 0) d6 k fun d7 d8=>eC [x0,c] (w [d7] d8))
theorem V78(x0 x1:AV):fv p_ 78 [x0,x1] (X3 x0 x1):=mkM Tryz.func78 (sn (sn (.one (.loop [0,3] [6] (.one (sn (sn (.join [0,3,6,7] [8] (sn (.one (sn (.two (.seq (.two (.jQ [(0,0,false),(1,1,false),(2,0,false),(3,0,false),(4,3,false),(5,4,false),(6,0,false)]) .nil) .nil) (.seq (.aR (oR 0 4 (.aD 3 true (fR 4 3) [0,3,6,7,8,9,10] [37,40]::oR 7 2 []))) (.two (.seq (.two (.jQ [(0,0,false),(1,1,false),(2,0,false),(3,0,false),(4,3,false),(5,0,false),(6,4,false),(7,0,false)]) .nil) .nil) (sn (.two .nil (sn (.two (.join [0,3,6,7] [8] (sn (.one (sn (.two .nil (sn (.two (.jQ [(0,0,false),(1,1,false),(2,0,false),(3,1,false),(4,1,false),(5,1,false),(6,0,false),(7,0,false),(8,0,false),(9,2,false),(10,0,false)]) .nil)))))) .nil) .nil)))))))))) (sn (.aR (oR 0 2 (.op 2 true::oR 3 2 [])))))))))))) 110 [.tmp 4,.tmp 5]
def Se(x0:AV)(h:aa)(K:AV→aa→Prop):Prop:=
 aW 46 (.agg [u8 0,.str [],u8 0,.str [],ff,i_ 0,i_ 0,ff,qNs]) h fun a k=>iC p_ 76 [x0] k fun d b=>ae .eql d (.str [102,105,114,115,116,45,99,104,105,108,100]) fun l=>ag l (aY (.agg [i_ 0,i_ 0]) [(1,1,(i_ 1))] fun m=>aY (.agg [u8 0,.str [],u8 0,.str [],ff,i_ 0,i_ 0,ff,qNs]) [(0,1,(u8 9)),(5,2,m)] fun n=>ao 9 a n b fun e=>ak true 9 a e fun r9=>K (.aA [r9,tt]) e) (ae .eql d (.str [108,97,115,116,45,99,104,105,108,100]) fun o=>ag o (aY (.agg [i_ 0,i_ 0]) [(1,1,(i_ 1))] fun p=>aY (.agg [u8 0,.str [],u8 0,.str [],ff,i_ 0,i_ 0,ff,qNs]) [(0,1,(u8 10)),(5,2,p)] fun q=>ao 9 a q b fun f=>ak true 9 a f fun r14=>K (.aA [r14,tt]) f) (iC p_ 53 [] b fun r s=>iC p_ 76 [x0] s fun t u=>iC p_ 143 [r,t] u fun c g=>kr c (i_ 0) fun v=>cy .u8 v fun w=>ae .add (u8 4) w fun x=>aY (.agg [u8 0,.str [],u8 0,.str [],ff,i_ 0,i_ 0,ff,qNs]) [(0,1,x)] fun i=>qBe .geq c 0 fun y=>qJa y [a,i] g (fun z=>qBe .lss c 5 fun A=>z A g) fun B C=>ao 9 a i C fun j=>ak true 9 a j fun r32=>K (.aA [r32,B]) j))
theorem Yy(x0:AV):fv p_ 106 [x0] (Se x0):=mkM Tryz.func106 (sn (sn (sn (.seq (.aR (oR 0 8 (.aD 7 true (fR 8 2) [2,23] [26,28]::oR 10 3 []))) .nil)))) 30 [.cell 2 46,.tmp 3]
def S9(h:aa)(K:AV→aa→Prop):Prop:=
 br 11 1 (.str []) [(0,1,(.str [108,105,110,107])),(1,1,(.str [118,105,115,105,116,101,100])),(2,1,(.str [97,110,121,45,108,105,110,107])),(3,1,(.str [114,111,111,116])),(4,1,(.str [101,109,112,116,121])),(5,1,(.str [110,116,104,45,99,104,105,108,100])),(6,1,(.str [110,116,104,45,108,97,115,116,45,99,104,105,108,100])),(7,1,(.str [105,115])),(8,1,(.str [119,104,101,114,101])),(9,1,(.str [110,111,116])),(10,1,(.str [104,97,115]))] fun a=>K a h
theorem WV:fv p_ 53 [] (S9):=mkM Tryz.func53 (sn (.seq (.aR [.op 0 true,.op 1 false]) .nil)) 2 [.tmp 0]
def SF(x0 x1 x2:AV)(h:aa)(K:AV→aa→Prop):Prop:=
 aW 46 x0 h fun a t=>aW 80 x2 t fun u v=>aW 46 (.agg [u8 0,.str [],u8 0,.str [],ff,i_ 0,i_ 0,ff,qNs]) v fun b w=>iC p_ 174 [x1,.fn (.func 175) [] []] w fun c d=>aw (fun i=>qBe .geq c 0 fun x=>ag x (ak true 2 u d fun y=>iFL 0 false 1 a d fun z=>iC p_ 110 [y,z] d fun j A=>aU 0 j fun B=>aU 1 j fun C=>aW 80 (.agg [i_ 0,ff]) A fun k D=>ao 2 k B D fun e=>qBe .add c 1 fun E=>lg 6 x1 (some E) none fun F=>ak true 2 k e fun G=>iQ p_ 32 [F,G,ff,ff] e fun l=>aU 0 l fun m=>aU 1 l fun H=>cq C fun I=>qJo I [x1,a,b,c,m] e (fun J=>cq H fun L=>J L e) fun M f=>ag M (ak true 9 a f fun N=>ao 9 b N f fun n=>ak true 9 b n fun r35=>K (.aA [r35,ff]) n) (lg 6 x1 none (some c) fun O=>bp 7 a fun P=>ao 1 P tt f fun Q=>bp 8 a fun R=>ao 1 R m Q fun S=>eC [a,b] (i [O] S))) (eC [a,b] (i [x1] d))) fun T U=>iC p_ 176 [nx T 0] U fun o g=>aU 0 o fun V=>aU 1 o fun W=>qBe .neq W 0 fun X=>ag X (ak true 9 a g fun Y=>ao 9 b Y g fun p=>ak true 9 b p fun r50=>K (.aA [r50,ff]) p) (iC p_ 177 [V] g fun q Z=>aU 0 q fun a0=>aU 1 q fun a1=>bp 5 a fun a2=>ao 2 a2 a0 Z fun r=>ak true 9 a r fun a3=>qBe .eql a1 0 fun a4=>ao 9 b a3 r fun s=>ak true 9 b s fun r60=>K (.aA [r60,a4]) s)
theorem YX(x0 x1 x2:AV):fv p_ 144 [x0,x1,x2] (SF x0 x1 x2):=mkM Tryz.func144 (sn (sn (.join [3,6] [1] (sn (.two (sn (.seq (.draw 11 (oR 0 11 []) [] []) (.seq (.seq (.aR (oR 0 3 (.aD 2 false (fR 3 2) [1,3,6,8,11] [37,39]::.op 5 false::[]))) .nil) (.jQ [(0,0,false),(1,0,false),(2,0,false),(3,0,false),(4,0,false),(5,2,false),(6,0,false),(7,2,false),(8,0,false)])))) .nil)) .nil))) 65 [.cell 6 46,.tmp 7]
def SP(x0:AV)(h:aa)(K:AV→aa→Prop):Prop:=
 aW 74 x0 h fun b a=>bp 0 b fun c=>iFL 0 false 1 c a fun d=>ae .eql d (u8 1) fun e=>qKa e a (fun f=>bp 0 b fun g=>iFL 1 false 1 g a fun i=>iC p_ 101 [i,.str [111,102]] a f) fun j k=>K j k
theorem Y7(x0:AV):fv p_ 175 [x0] (SP x0):=mkM Tryz.func175 (sn (.seq (.aR (oR 0 5 (.aD 4 true (fR 5 4) [] [7,11]::oR 9 2 []))) .nil)) 13 [.tmp 2]
def Sf(x0 x1 x2:AV)(h:aa)(K:AV→aa→Prop):Prop:=
 aW 80 x2 h fun e r=>aW 46 (.agg [u8 0,.str [],u8 0,.str [],ff,i_ 0,i_ 0,ff,qNs]) r fun b s=>iC p_ 53 [] s fun t u=>iC p_ 76 [x0] u fun v w=>iC p_ 143 [t,v] w fun f g=>qBe .lss f 5 fun x=>ag x (aY (.agg [u8 0,.str [],u8 0,.str [],ff,i_ 0,i_ 0,ff,qNs]) [] fun y=>ao 9 b y g fun i=>ak true 9 b i fun r14=>K (.aA [r14,ff]) i) (cy .u8 f fun z=>ae .add (u8 4) z fun A=>aY (.agg [u8 0,.str [],u8 0,.str [],ff,i_ 0,i_ 0,ff,qNs]) [(0,1,A)] fun B=>aW 46 (.agg [u8 0,.str [],u8 0,.str [],ff,i_ 0,i_ 0,ff,qNs]) g fun a C=>ao 9 a B C fun c=>iFL 0 false 1 a c fun D=>ae .leq D (u8 10) fun E=>ag E (ak true 9 a c fun F=>ak true 2 e c fun G=>iC p_ 144 [F,x1,G] c fun j H=>aU 0 j fun I=>aU 1 j fun J=>ao 9 b I H fun k=>ak true 9 b k fun r31=>K (.aA [r31,J]) k) (ak true 2 e c fun L=>iFL 0 false 1 a c fun M=>iC p_ 110 [L,M] c fun l N=>aU 0 l fun O=>aU 1 l fun P=>aW 80 (.agg [i_ 0,ff]) N fun m Q=>ao 2 m O Q fun d=>cq P fun R=>ag R (ak true 9 a d fun S=>ao 9 b S d fun n=>ak true 9 b n fun r45=>K (.aA [r45,ff]) n) (ak true 2 m d fun T=>iFL 0 false 1 a d fun U=>ae .eql U (u8 14) fun V=>iFL 0 false 1 a d fun W=>ae .leq W (u8 12) fun X=>iC p_ 32 [x1,T,V,X] d fun o Y=>aU 0 o fun Z=>aU 1 o fun a0=>bp 8 a fun a1=>ao 1 a1 Z Y fun p=>ak true 9 a p fun a2=>ao 9 b a2 p fun q=>ak true 9 b q fun r61=>K (.aA [r61,a0]) q)))
theorem Yz(x0 x1 x2:AV):fv p_ 107 [x0,x1,x2] (Sf x0 x1 x2):=mkM Tryz.func107 .nil 57 [.cell 6 46,.tmp 7]
def Xp(x0 x1 x2 x3:AV)(h:aa)(K:AV→aa→Prop):Prop:=
 aW 80 x1 h fun b m=>bu x0 fun n=>qBe .add n 1 fun c=>bL [qNs,i_ 0,i_ 0] m fun o a d =>
 ae .lss (nx a 2) c fun p=>ag p (aw (fun g=>bu x0 fun q=>ae .lss (nx a 2) q fun r=>qJa r [x0,x2,x3,b,nx a 0,nx a 1,nx a 2,c,nx a 2] d (fun s=>aQ 6 x0 (nx a 2) fun t=>bp 0 t fun u=>iFL 0 false 1 u d fun v=>ae .neq v (u8 18) fun w=>s w d) fun x f=>ag x (eC [x0,x2,x3,b,c,nx a 2] (g [nx a 0,nx a 1] f)) (aw (fun i=>lg 6 x0 (some (nx a 1)) (some (nx a 2)) fun y=>ak true 2 b f fun z=>wU p_ (.fn (.func 46) [] []) [y,z,x2] [] fun j=>aU 0 j fun A=>aU 1 j fun B=>aW 39 (.agg [u8 0,qNs,qNs]) f fun k C=>ao 3 k A C fun e=>ag B (ak true 3 k e fun D=>br 1 3 (.agg [u8 0,qNs,qNs]) [(0,3,D)] fun E=>bP false 39 3 56 (nx a 0) E e fun F G=>eC [x0,x2,x3,b,nx a 2,c,nx a 2] (i [F] G)) (cq x3 fun H=>ag H (K (.aA [qNs,ff]) e) (eC [x0,x2,x3,b,nx a 2,c,nx a 2] (i [nx a 0] e)))) fun I J=>qBe .add (nx a 2) 1 fun L=>eC [x0,x2,x3,b,c,nx a 2] (g [nx I 0,L] J))) fun l M=>qBe .add (nx a 2) 1 fun N=>eC [x0,x2,x3,b,c] (o [nx l 0,nx l 1,N] M)) (K (.aA [nx a 0,tt]) d)
theorem V32(x0 x1 x2 x3:AV):fv p_ 32 [x0,x1,x2,x3] (Xp x0 x1 x2 x3):=mkM Tryz.func32 (sn (sn (sn (.seq (sn (.one (.loop [0,2,3,5,17] [10,11,18] (sn (sn (.join [0,2,3,5,17,18] [10,11] (.one (sn (.seq (.seq (.aR (oR 0 5 (.aD 4 true (fR 5 7) [0,2,3,5,10,11,12,17,18] [25,32]::.op 12 false::[]))) .nil) (.join [0,2,3,5,12,17,18] [10] (.seq (.jQ [(0,0,false),(1,0,false),(2,0,false),(3,0,false),(4,3,false),(5,0,false),(6,0,false),(7,0,false),(8,0,false),(9,0,false),(10,2,false),(11,2,false),(12,0,false)]) (sn (.two (.aR (oR 0 2 (.op 2 true::oR 3 2 []))) .nil))) .nil)))) .nil)))))) .nil)))) 55 [.tmp 8,.tmp 9]
def Xd(x0:AV)(h:aa)(K:AV→aa→Prop):Prop:=
 iC p_ 31 [x0] h fun a b=>qBe .neq a 0 fun g=>ag g (K (.aA [qNs,a]) b) (aY (.agg [i_ 0,ff]) [] fun i=>iC p_ 32 [x0,i,ff,ff] b fun c d=>aU 0 c fun e=>aU 1 c fun j=>cq j fun k=>ag k (K (.aA [qNs,i_ 12]) d) (iC p_ 26 [e] d fun l f=>qBe .gtr l 64 fun m=>ag m (K (.aA [qNs,i_ 4]) f) (K (.aA [e,i_ 0]) f)))
theorem V19(x0:AV):fv p_ 19 [x0] (Xd x0):=mkM Tryz.func19 .nil 26 [.tmp 2,.tmp 3]
def W8(x0:AV)(h:aa)(K:AV→aa→Prop):Prop:=
 iC p_ 17 [x0] h fun a b=>aU 0 a fun i=>aU 1 a fun c=>qBe .neq c 0 fun j=>ag j (K (.aA [qNs,c]) b) (iC p_ 18 [i] b fun d e=>aU 0 d fun k=>aU 1 d fun f=>qBe .neq f 0 fun l=>ag l (K (.aA [qNs,f]) e) (iC p_ 19 [k] e fun g m=>aU 0 g fun n=>aU 1 g fun o=>K (.aA [n,o]) m))
theorem V8(x0:AV):fv p_ 8 [x0] (W8 x0):=mkM Tryz.func8 .nil 27 [.tmp 2,.tmp 3]
def SQ(x0:AV)(h:aa)(K:AV→aa→Prop):Prop:=
 iC p_ 31 [x0] h fun a b=>qBe .neq a 0 fun c=>ag c (K (.aA [qNs,a]) b) (iC p_ 198 [qNs,x0] b fun d e=>K (.aA [d,i_ 0]) e)
theorem Y8(x0:AV):fv p_ 176 [x0] (SQ x0):=mkM Tryz.func176 .nil 12 [.tmp 2,.tmp 3]
def SW(x0 x1:AV)(h:aa)(K:AV→aa→Prop):Prop:=
 bu x1 fun b=>bL [x0,i_ 0] h fun l a d =>
 ae .lss (nx a 1) b fun m=>ag m (aw (fun f=>aQ 6 x1 (nx a 1) fun n=>ak true 6 n d fun o=>aW 74 (.agg [u8 0,.str [],i_ 0,.str [],ff,qNs]) d fun c p=>ao 6 c o p fun g=>iFL 0 true 5 c g fun q=>br 1 5 (.agg [u8 0,.str [],i_ 0,.str [],ff]) [(0,5,q)] fun r=>bP false 70 5 56 (nx a 0) r g fun i j=>bp 0 c fun s=>iFL 0 false 1 s j fun t=>iC p_ 30 [t] j fun k e=>ae .neq k (u8 0) fun u=>ag u (iFL 5 false 1 c e fun v=>iC p_ 198 [i,v] e fun w x=>aY (.agg [u8 0,.str [],i_ 0,.str [],ff]) [(0,1,k)] fun y=>br 1 5 (.agg [u8 0,.str [],i_ 0,.str [],ff]) [(0,5,y)] fun z=>bP false 70 5 56 w z x fun A B=>eC [x1,b,nx a 1] (f [A] B)) (eC [x1,b,nx a 1] (f [i] e))) fun C D=>qBe .add (nx a 1) 1 fun E=>eC [x1,b] (l [nx C 0,E] D)) (K (nx a 0) d)
theorem Zd(x0 x1:AV):fv p_ 198 [x0,x1] (SW x0 x1):=mkM Tryz.func198 (sn (.seq (sn (.one (.loop [8,9] [0,10] (sn (sn (.join [8,9,10] [0] (.one (sn (.seq (.aR (oR 0 3 (.op 3 true::oR 4 2 []))) (sn (sn (.two (.aR (oR 0 6 (.op 6 true::oR 7 2 []))) .nil)))))) .nil)))))) .nil)) 35 [.tmp 4]
def SX(x0:AV)(h:aa)(K:AV→aa→Prop):Prop:=
 bL [] h fun c q a =>
 qLd p_ x0 0 a fun d=>bu d fun e=>qBe .gtr e 0 fun f=>qJa f [x0] a (fun g=>qLd p_ x0 0 a fun i=>aQ 5 i (i_ 0) fun j=>iFL 0 false 1 j a fun k=>ae .eql k (u8 13) fun l=>g l a) fun m b=>ag m (qLd p_ x0 0 b fun n=>lg 5 n (some (i_ 1)) none fun o=>qSt p_ x0 0 o b fun p=>eC [x0] (c [] p)) (K (.aA []) b)
theorem Ze(x0:AV):Body p_ 199 [x0] (SX x0):=bB Tryz.func199 (.one (.loop [0] [] (.seq (.seq (.aR (oR 0 7 (.aD 6 true (fR 7 8) [0] [8,16]::.op 15 false::[]))) .nil) .nil))) 26 []
def MP(x0 x1:AV)(h:aa)(K:AV→aa→Prop):Prop:=
 aW 70 (.agg [u8 0,.str [],i_ 0,.str [],ff]) h fun a b=>qLd p_ x0 0 b fun j=>bu j fun k=>qBe .eql k 0 fun l=>qJo l [x0,a] b (fun m=>qLd p_ x0 0 b fun n=>aQ 5 n (i_ 0) fun o=>iFL 0 false 1 o b fun p=>ae .neq p x1 fun q=>m q b) fun r c=>ag r (aY (.agg [u8 0,.str [],i_ 0,.str [],ff]) [] fun s=>ao 5 a s c fun d=>ak true 5 a d fun r21=>K (.aA [r21,ff]) d) (qLd p_ x0 0 c fun t=>aQ 5 t (i_ 0) fun u=>ak true 5 u c fun v=>aW 70 (.agg [u8 0,.str [],i_ 0,.str [],ff]) c fun e w=>ao 5 e v w fun f=>qLd p_ x0 0 f fun x=>lg 5 x (some (i_ 1)) none fun y=>qSt p_ x0 0 y f fun g=>ak true 5 e g fun z=>ao 5 a z g fun i=>ak true 5 a i fun r39=>K (.aA [r39,tt]) i)
theorem R7(x0 x1:AV):Body p_ 215 [x0,x1] (MP x0 x1):=bB Tryz.func215 (sn (.seq (.seq (.aR (oR 0 7 (.aD 6 false (fR 7 9) [0,4] [13,22]::.op 16 false::[]))) .nil) .nil)) 40 [.cell 4 70,.tmp 5]
def I4(x0:AV)(h:aa)(K:AV→aa→Prop):Prop:=
 qLd p_ x0 0 h fun e=>bu e fun f=>qBe .eql f 0 fun g=>qJo g [x0] h (fun i=>qLd p_ x0 0 h fun j=>aQ 5 j (i_ 0) fun k=>iFL 0 false 1 k h fun l=>ae .neq l (u8 9) fun m=>i m h) fun n b=>ag n (K (i_ 0) b) (qLd p_ x0 0 b fun o=>aQ 5 o (i_ 0) fun p=>iFL 1 false 1 p b fun q=>iC p_ 60 [.str [45,32,43],q] b fun r a=>qBe .sub r 1 fun d=>qLd p_ x0 0 a fun s=>aQ 5 s (i_ 0) fun t=>iFL 1 false 1 t a fun u=>ae .eql u (.str [43]) fun v=>qJo v [x0,d] a (fun w=>qLd p_ x0 0 a fun x=>aQ 5 x (i_ 0) fun y=>iFL 1 false 1 y a fun z=>ae .eql z (.str [45]) fun A=>w A a) fun B c=>ag B (qLd p_ x0 0 c fun C=>lg 5 C (some (i_ 1)) none fun D=>qSt p_ x0 0 D c fun E=>K d E) (K (i_ 0) c))
theorem MM(x0:AV):Body p_ 218 [x0] (I4 x0):=bB Tryz.func218 (sn (.seq (.seq (.aR (oR 0 7 (.aD 6 false (fR 7 8) [0] [10,18]::.op 15 false::[]))) .nil) (sn (.seq (.seq (.aR (oR 0 9 (.aD 8 false (fR 9 8) [0,3] [37,45]::.op 17 false::[]))) .nil) .nil)))) 56 [.tmp 2]
def S0(x0:AV)(h:aa)(K:AV→aa→Prop):Prop:=
 iC p_ 215 [x0,u8 10] h fun c m=>aU 0 c fun n=>aU 1 c fun d=>aW 70 (.agg [u8 0,.str [],i_ 0,.str [],ff]) m fun b o=>ao 5 b n o fun a=>iFL 2 false 1 b a fun p=>qBe .quo p 1000 fun q=>aw (fun e=>ar d true (bp 4 b fun f=>ak false 1 f a fun r=>e [f,r] a) (e [un,un] a)) fun s _=>aI d (nx s 1) ff fun g=>aw (fun i=>ar g true (bp 2 b fun j=>ak false 1 j a fun k=>qBe .rem k 1000 fun l=>qBe .eql l 0 fun t=>i [j,k,l,t] a) (i [un,un,un,un] a)) fun u _=>aI g (nx u 3) ff fun v=>K (.aA [q,v]) a
theorem Zh(x0:AV):Body p_ 214 [x0] (S0 x0):=bB Tryz.func214 (sn (sn (.seq (.draw 16 (oR 0 5 (.aD 4 true (fR 5 2) [] [16,17]::oR 7 2 (.aD 8 true (fR 9 4) [] [20,21,22,23]::oR 13 3 []))) [] []) .nil))) 25 [.tmp 2,.tmp 3]
def S3(x0 x1:AV)(h:aa)(K:AV→aa→Prop):Prop:=
 aw (fun f=>ae .eql x1 (.str [45]) fun s=>ag s (eC [x0] (f [i_ (-1)] h)) (ae .neq x1 (.str []) fun t=>ag t (iC p_ 216 [x1,.str [45]] h fun g i=>aU 0 g fun a=>aU 1 g fun u=>cq u fun v=>qJo v [a] i (fun w=>iC p_ 228 [a,.str [48,49,50,51,52,53,54,55,56,57]] i fun x y=>ae .neq x (.str []) fun z=>w z y) fun A j=>ag A (K (.aA [i_ 0,ff]) j) (iC p_ 229 [a,i_ 10,i_ 64] j fun k l=>aU 0 k fun b=>aU 1 k fun B=>aw (fun m=>kB true (vu B) fun C=>qJo C [b] l (fun D=>qBe .gtr b 1000000000 fun E=>D E l) fun F n=>ag F (m [i_ 1000000000] n) (m [b] n)) fun G H=>pb (nx G 0) fun I=>K (.aA [I,tt]) H)) (iC p_ 199 [x0] h fun W c=>qLd p_ x0 0 c fun J=>bu J fun L=>qBe .eql L 0 fun M=>ag M (K (.aA [i_ 0,tt]) c) (iC p_ 218 [x0] c fun N O=>eC [x0] (f [N] O))))) fun o P=>iC p_ 199 [x0] P fun X Q=>iC p_ 214 [x0] Q fun p d=>aU 0 p fun e=>aU 1 p fun q=>qBe .eql (nx o 0) 0 fun R=>ag R (K (.aA [e,q]) d) (ae .mul (nx o 0) e fun r=>qJa q [r] d (fun S=>qBe .geq e 0 fun T=>S T d) fun U V=>K (.aA [r,U]) V)
theorem Zi(x0 x1:AV):Body p_ 217 [x0,x1] (S3 x0 x1):=bB Tryz.func217 (sn (sn (.join [0] [6] (.one (sn (.two .nil (sn (.two (sn (.seq (.seq (.aR (oR 0 3 (.aD 2 false (fR 3 3) [7] [36,39]::.op 6 false::[]))) .nil) (sn (.join [] [9] (.seq (.aR (oR 0 3 (.aD 2 false (fR 3 2) [9] [48,50]::.op 5 false::[]))) .nil) .nil)))) .nil))))) (sn (sn (sn (.seq (.aR (oR 0 5 (.aD 4 true (fR 5 2) [67] [69,71]::oR 7 3 []))) .nil))))))) 73 [.tmp 4,.tmp 5]
def SY(x0:AV)(h:aa)(K:AV→aa→Prop):Prop:=
 aW 44 (.agg [i_ 0,i_ 0]) h fun a L=>iC p_ 214 [x0] L fun n o=>aU 0 n fun M=>aU 1 n fun N=>ag N (aY (.agg [i_ 0,i_ 0]) [(1,1,M)] fun O=>ao 2 a O o fun p=>ak true 2 a p fun r9=>K (.aA [r9,tt]) p) (iC p_ 215 [x0,u8 12] o fun q P=>aU 0 q fun Q=>aU 1 q fun R=>aW 70 (.agg [u8 0,.str [],i_ 0,.str [],ff]) P fun b S=>ao 5 b Q S fun e=>ag R (iFL 3 false 1 b e fun T=>iC p_ 76 [T] e fun U V=>iC p_ 216 [U,.str [110]] V fun r f=>aU 0 r fun g=>aU 1 r fun W=>cq W fun X=>qJo X [x0,a,b,g] f (fun Y=>iFL 4 false 1 b f fun Z=>cq Z fun a0=>Y a0 f) fun a1 i=>qJo a1 [x0,a,b,g] i (fun a2=>iFL 2 false 1 b i fun a3=>qBe .rem a3 1000 fun a4=>qBe .neq a4 0 fun a5=>a2 a5 i) fun a6 s=>ag a6 (aY (.agg [i_ 0,i_ 0]) [] fun a7=>ao 2 a a7 s fun t=>ak true 2 a t fun r43=>K (.aA [r43,ff]) t) (iC p_ 217 [x0,g] s fun u v=>aU 0 u fun a8=>aU 1 u fun a9=>iFL 2 false 1 b v fun b0=>qBe .quo b0 1000 fun b1=>aY (.agg [i_ 0,i_ 0]) [(0,1,b1),(1,1,a8)] fun b2=>ao 2 a b2 v fun w=>ak true 2 a w fun r53=>K (.aA [r53,a9]) w)) (iC p_ 218 [x0] e fun j b3=>iC p_ 215 [x0,u8 1] b3 fun x b4=>aU 0 x fun b5=>aU 1 x fun b6=>aW 70 (.agg [u8 0,.str [],i_ 0,.str [],ff]) b4 fun k b7=>ao 5 k b5 b7 fun y=>cq b6 fun b8=>qJo b8 [x0,a,j,k] y (fun b9=>qBe .lss j 0 fun c0=>b9 c0 y) fun c1 l=>ag c1 (aY (.agg [i_ 0,i_ 0]) [] fun c2=>ao 2 a c2 l fun z=>ak true 2 a z fun r71=>K (.aA [r71,ff]) z) (iFL 1 false 1 k l fun c3=>iC p_ 76 [c3] l fun c d=>aw (fun m=>qBe .eql j 0 fun c4=>ag c4 (ae .eql c (.str [111,100,100]) fun c5=>ag c5 (aY (.agg [i_ 0,i_ 0]) [(0,1,(i_ 2)),(1,1,(i_ 1))] fun c6=>ao 2 a c6 d fun A=>ak true 2 a A fun r81=>K (.aA [r81,tt]) A) (ae .eql c (.str [101,118,101,110]) fun c7=>ag c7 (aY (.agg [i_ 0,i_ 0]) [(0,1,(i_ 2))] fun c8=>ao 2 a c8 d fun B=>ak true 2 a B fun r85=>K (.aA [r85,tt]) B) (iC p_ 216 [c,.str [45]] d fun C D=>aU 0 C fun c9=>aU 1 C fun d0=>ag d0 (eC [x0,a] (m [c9,i_ (-1)] D)) (eC [x0,a] (m [c,i_ 1] D))))) (eC [x0,a] (m [c,i_ 1] d))) fun E d1=>iC p_ 216 [nx E 0,.str [110]] d1 fun F G=>aU 0 F fun d2=>aU 1 F fun d3=>cq d3 fun d4=>ag d4 (aY (.agg [i_ 0,i_ 0]) [] fun d5=>ao 2 a d5 G fun H=>ak true 2 a H fun r99=>K (.aA [r99,ff]) H) (iC p_ 217 [x0,d2] G fun I d6=>aU 0 I fun d7=>aU 1 I fun d8=>aY (.agg [i_ 0,i_ 0]) [(0,1,(nx E 1)),(1,1,d7)] fun d9=>ao 2 a d9 d6 fun J=>ak true 2 a J fun r106=>K (.aA [r106,d8]) J))))
theorem Zf(x0:AV):Body p_ 200 [x0] (SY x0):=bB Tryz.func200 (sn (sn (.seq (sn (sn (.two (sn (.seq (.seq (.aR (oR 0 3 (.aD 2 false (fR 3 3) [0,2,6,8] [46,49]::oR 6 2 (.aD 7 false (fR 8 4) [0,2,6,8] [51,55]::.op 12 false::[])))) .nil) .nil)) .nil))) (sn (sn (.seq (.seq (.aR (oR 0 3 (.aD 2 false (fR 3 2) [0,2,12,13] [79,81]::.op 5 false::[]))) .nil) (sn (.join [0,2] [15,16] .nil .nil)))))))) 121 [.cell 2 44,.tmp 3]
def SR(x0:AV)(h:aa)(K:AV→aa→Prop):Prop:=
 aW 44 (.agg [i_ 0,i_ 0]) h fun a k=>aY (.agg [qNs]) [(0,1,x0)] fun l=>aW 261 l k fun c m=>iC p_ 199 [c] m fun H n=>iC p_ 200 [c] n fun g o=>aU 0 g fun p=>aU 1 g fun q=>aW 44 (.agg [i_ 0,i_ 0]) o fun b r=>ao 2 b p r fun s=>iC p_ 199 [c] s fun I d=>cq q fun t=>qJo t [a,b] d (fun u=>qLd p_ c 0 d fun v=>bu v fun w=>qBe .gtr w 0 fun x=>u x d) fun y e=>qJo y [a,b] e (fun z=>ak true 2 b e fun A=>iC p_ 86 [A] e fun B C=>qBe .neq B 0 fun D=>z D C) fun E f=>ag E (aY (.agg [i_ 0,i_ 0]) [] fun F=>ao 2 a F f fun i=>ak true 2 a i fun r37=>K (.aA [r37,i_ 12]) i) (ak true 2 b f fun G=>ao 2 a G f fun j=>ak true 2 a j fun r40=>K (.aA [r40,i_ 0]) j)
theorem Y9(x0:AV):Body p_ 177 [x0] (SR x0):=bB Tryz.func177 (sn (sn (sn (sn (sn (.seq (.seq (.aR (oR 0 3 (.aD 2 false (fR 3 6) [2,5] [21,27]::oR 9 2 (.aD 10 false (fR 11 3) [2,5] [29,32]::.op 14 false::[])))) .nil) .nil)))))) 36 [.cell 2 44,.tmp 3]
end
section
open Go Go.Aw Go.RowKit
abbrev mR(l:List Tok):aL:=.ah ⟨261,[.sl 5 (cQ l)],true⟩
def Rd(id:Nat)(h:aa)(l:List Tok):Prop:=h[id]?=some (mR l)
theorem Rd.lt{id:Nat}{h:aa}{l:List Tok}(r:Rd id h l):id<h.length:=(eQ.1 r).1
theorem Rd.set{id:Nat}{h:aa}{l:List Tok}(r:Rd id h l)(m:List Tok):Rd id (h.set id (mR m)) m:=iD r.lt
theorem Rd.app{id:Nat}{h:aa}{l:List Tok}(r:Rd id h l)(j:aa):Rd id (h++j) l:=by
 unfold Rd;rw[gO r.lt];exact r
def Mr(id:Nat)(l:List Tok)(h h':aa):Prop:=∃j,h'=h.set id (mR l)++j
theorem Mr.len{id:Nat}{l:List Tok}{h h':aa}(g:Mr id l h h'):h.length≤h'.length:=by obtain⟨j,rfl⟩:=g;simp
theorem Mr.rd{id:Nat}{l l0:List Tok}{h h':aa}(r:Rd id h l0)(g:Mr id l h h'):Rd id h' l:=by
 obtain⟨j,rfl⟩:=g;exact (r.set l).app j
theorem Mr.trans{id:Nat}{l m:List Tok}{h h' h'':aa}(hl:id<h.length)(x:Mr id l h h')(y:Mr id m h' h''):Mr id m h h'':=by
 obtain⟨j,rfl⟩:=x;obtain⟨k,rfl⟩:=y;exact⟨j++k,by rw[IN _ _ (by simpa using hl),aaM,To]⟩
theorem Mr.other{id:Nat}{l:List Tok}{h h':aa}(g:Mr id l h h'){i:Nat}(hi:i<h.length)(hne:i≠id):h'[i]?=h[i]?:=by
 obtain⟨j,rfl⟩:=g;rw[gO (by simpa using hi),iF (Ne.symm hne)]
theorem Mr.set(id:Nat)(l:List Tok)(h:aa):Mr id l h (h.set id (mR l)):=⟨[],by simp⟩
theorem Mr.tail{id:Nat}{l:List Tok}{h h':aa}(g:Mr id l h h')(k:aa):Mr id l h (h'++k):=by
 obtain⟨j,rfl⟩:=g;exact⟨j++k,by rw[To]⟩
theorem Mr.refl{id:Nat}{l:List Tok}{h:aa}(r:Rd id h l):Mr id l h h:=⟨[],by rw[kn r];simp⟩
theorem Mr.vK{id T:Nat}{l:List Tok}{h H:aa}(m:Mr id l h H)(hT:h.length≤T)(e:aL):Mr id l h (H.set T e):=by
 obtain⟨j,rfl⟩:=m;exact⟨j.set (T-h.length) e,by rw[IF _ _ (by simpa using hT)];simp⟩
theorem Mr.new{id:Nat}{l:List Tok}{h k H:aa}(hid:id<h.length)(m:Mr id l (h++k) H):Mr id l h H:=by
 obtain⟨j,rfl⟩:=m;exact⟨k++j,by rw[IN _ _ hid,To]⟩
theorem Mh{k:IntKind}{x y:AV}{a b c:Int}{K:AV→Prop}(ex:x=.v (.int k a))(ey:y=.v (.int k b))(h0:b≠0)(hc:a.tmod b=c)(q:K (.v (.int k c))):ae .rem x y K:=by
 subst ex;subst ey;subst hc;exact⟨rfl,h0,q⟩
theorem Gg{k:IntKind}{x y:AV}{a b c:Int}{K:AV→Prop}(ex:x=.v (.int k a))(ey:y=.v (.int k b))(h0:b≠0)(hc:k.wrap (a.tdiv b)=c)(q:K (.v (.int k c))):ae .quo x y K:=by
 subst ex;subst ey;subst hc;exact⟨rfl,h0,q⟩
theorem tD{t:Tok}{l:List Tok}{x:AV}{K:AV→Prop}(ex:x=.sl 5 (cQ (t:: l)))(q:K (.ip t.row)):aQ 5 x (i_ 0) K:=by
 refine Vs (n:=0) ex rfl (by simp) ?_;exact q
theorem MR{t:Tok}{l:List Tok}{x:AV}{K:AV→Prop}(ex:x=.sl 5 (cQ (t:: l)))(q:K (.sl 5 (cQ l))):lg 5 x (some (i_ 1)) none K:=by
 refine VG ex (by simp) ?_;exact q
def Pt(k:Int):List Tok→Prop
 | []=>True
 | t:: _=>t.k≠k
variable [Laid]
theorem N7{id:Nat}{h:aa}{sp l:List Tok}{x:AV}{K:AV→aa→Prop}(r:Rd id h (sp++l))(ex:x=.op id 0)(hs:∀t∈sp,t.k=13)(hl:Pt 13 l)(hn:sp.length+l.length≤2^20)(k:K (.aA []) (h.set id (mR l))):
 bz p_ (.fn (.func 199) [] []) [x] h K:=by
 subst ex;refine cB (by kernel_rfl) rfl (K0:=fun v h' => v=.aA []∧h'=h.set id (mR l)) ?_ ?_
 ·refine (Ze _).bI ?_;unfold SX;refine bc (α:=List Tok×List Tok) (fun x=>sp=x.1++x.2) (fun _=>[]) (fun x=>h.set id (mR (x.2++l))) (fun x=>x.2.length) ([],sp) rfl (by rw[kn r];exact Wk.refl _ _ _ (bY _)) ?_;rintro⟨p,q⟩ e;have e:sp=p++q:=e;have r':=r.set (q++l);show ca _ _ _;refine bx (zzA (zzU r' rfl (qm rfl (zzE (aH ?_)))));cases q with
  | cons t q =>
    have ht:t.k=13:=hs t (by rw[e];simp);refine zzN (oF (by simp<;>omega)) (bx (zzA (zzU r' rfl (tD rfl (zzX (zzW (zzG (aq (zzR (zzL (oF ht) (bx (zzA (zzU r' rfl ?_)))))))))))));refine MR rfl (bx (zzA (aX (cs:=[.sl 5 (cQ (q++l))]) (h':=h.set id (mR (q++l))) rfl r' rfl rfl (by simp) rfl rfl (by rw[aaM];rfl) (aq ?_))));exact⟨(p++[t],q),by rw[e];simp,Wk.refl _ _ _ (by simp),by simp⟩
  | nil =>
    have fin:∃r' h'',Wk h.length [AV.aA []] (h.set id (mR ([]++l))) [r'] h''∧r'=.aA []∧h''=h.set id (mR l):=⟨_,_,Wk.refl _ _ _ (by simp),rfl,rfl⟩;cases l with
    | nil =>
      refine zzM rfl (aq (zzQ (zzK rfl ?_)));exact fin
    | cons t l =>
      refine zzN (oF (by simp<;>omega)) (bx (zzA (zzU r' rfl (tD rfl (zzX (zzW (zzG (aq (zzR (zzK (nO hl) ?_))))))))));exact fin
 ·rintro _ _ ⟨rfl,rfl⟩;exact k
theorem QL{id:Nat}{h:aa}{t:Tok}{l:List Tok}{x:AV}{kd:Int}{K:AV→aa→Prop}(r:Rd id h (t:: l))(ex:x=.op id 0)(ht:t.k=kd)(hn:l.length≤2^20)(k:∀H,Mr id l h H→K (.aA [t.av,tt]) H):
 bz p_ (.fn (.func 215) [] []) [x,u8 kd] h K:=by
 subst ex;have hid:=r.lt;refine cB (by kernel_rfl) rfl (K0:=fun v h' => v=.aA [t.av,tt]∧Mr id l h h') ?_ ?_
 ·refine (R7 _ _).bI ?_;unfold MP;refine bW (cs:=[u8 0,.str [],i_ 0,.str [],ff]) (n:=h.length) (h':=h++[cx 0 [] 0 [] false]) rfl (by simp[bQ]) rfl rfl ?_;have r2:=r.app [cx 0 [] 0 [] false];have hV:(h++[cx 0 [] 0 [] false])[h.length]?=some (cx 0 [] 0 [] false):=by simp
  have hL:(h++[cx 0 [] 0 [] false]).length=h.length+1:=by simp
  have m0:∀{H m},Mr id m (h++[cx 0 [] 0 [] false]) H→Mr id m h H:=fun m=>m.new hid;generalize h++[cx 0 [] 0 [] false]=H at r2 hV hL m0;refine bx (zzA (zzU r2 rfl (qm rfl (zzG (aH (zzN (nO (by simp<;>omega)) (bx (zzA (zzU r2 rfl (tD rfl (zzX (zzW (zzH ?_)))))))))))));refine aq (zzQ (zzK (by simp[ht]) (bx (zzA (zzU r2 rfl (tD rfl (zzY rfl (bW (cs:=[u8 0,.str [],i_ 0,.str [],ff]) (n:=H.length) (h':=H++[cx 0 [] 0 [] false]) rfl (by simp[bQ]) rfl rfl (aX (cs:=t.row) (h':=H++[aL.ah ⟨70,t.row,true⟩]) rfl (b:=⟨70,[u8 0,.str [],i_ 0,.str [],ff],true⟩) (by simp) rfl rfl (by simp) rfl (by simp[bQ]) (by rw[IF _ _ (bY _)];simp) ?_)))))))));have r3:=r2.app [aL.ah ⟨70,t.row,true⟩];refine bx (zzA (zzU r3 rfl (MR rfl (bx (zzA (aX (cs:=[.sl 5 (cQ l)]) (h':=(H++[aL.ah ⟨70,t.row,true⟩]).set id (mR l)) rfl r3 rfl rfl (by simp) rfl rfl rfl ?_))))));refine zzV (b:=⟨70,t.row,true⟩) (by rw[iF (by omega)];simp) (by simp) ?_;refine qS (k:=t.k) (t:=t.t) (n:=t.n) (u:=t.u) (f:=t.f) (K:=fun r39 g38=>∃r' h'',Wk h.length [.aA [r39,tt]] g38 [r'] h''∧r'=.aA [t.av,tt]∧Mr id l h h'') (k0:=0) (t0:=[]) (n0:=0) (u0:=[]) (f0:=false) (by rw[iF (by omega),gO (by omega)];exact hV) ?_;have m1:Mr id l h ((H++[aL.ah ⟨70,t.row,true⟩]).set id (mR l)):=m0 ⟨[aL.ah ⟨70,t.row,true⟩],by rw[IN _ _ (by omega)]⟩;exact⟨_,_,Wk.refl _ _ _ (by simp;omega),rfl,m1.vK (bY _) _⟩
 ·rintro _ H ⟨rfl,m⟩;exact k H m
theorem HO{id:Nat}{h:aa}{l:List Tok}{x:AV}{kd:Int}{K:AV→aa→Prop}(r:Rd id h l)(ex:x=.op id 0)(ht:Pt kd l)(hn:l.length≤2^20)(k:∀H,Mr id l h H→K (.aA [vW 0 [] 0 [] false,ff]) H):
 bz p_ (.fn (.func 215) [] []) [x,u8 kd] h K:=by
 subst ex;have hid:=r.lt;refine cB (by kernel_rfl) rfl (K0:=fun v h' => v=.aA [vW 0 [] 0 [] false,ff]∧Mr id l h h') ?_ ?_
 ·refine (R7 _ _).bI ?_;unfold MP;refine bW (cs:=[u8 0,.str [],i_ 0,.str [],ff]) (n:=h.length) (h':=h++[cx 0 [] 0 [] false]) rfl (by simp[bQ]) rfl rfl ?_;have r2:=r.app [cx 0 [] 0 [] false];have hV:(h++[cx 0 [] 0 [] false])[h.length]?=some (cx 0 [] 0 [] false):=by simp
  have m1:Mr id l h (h++[cx 0 [] 0 [] false]):=(Mr.refl r).tail _;have fin:ao 5 (.op h.length 0) (vW 0 [] 0 [] false) (h++[cx 0 [] 0 [] false]) fun g20=>ak true 5 (.op h.length 0) g20 fun r21=>∃r' h'',Wk h.length [.aA [r21,ff]] g20 [r'] h''∧r'=.aA [vW 0 [] 0 [] false,ff]∧Mr id l h h'':=by
   refine qS hV ?_;exact⟨_,_,Wk.refl _ _ _ (by simp),rfl,m1.vK (bY _) _⟩
  refine bx (zzA (zzU r2 rfl (qm rfl (zzG (aH ?_)))));cases l with
  | nil =>
    refine zzM rfl (aq (zzR (zzL rfl (bf rfl ?_))));exact fin
  | cons t l =>
    refine zzN (nO (by simp<;>omega)) (bx (zzA (zzU r2 rfl (tD rfl (zzX (zzW (zzH (aq (zzQ ?_)))))))));have ht:¬t.k=kd:=ht;refine zzL (by simp[ht]) (bf rfl ?_);exact fin
 ·rintro _ H ⟨rfl,m⟩;exact k H m
end
section
open Go Go.Aw Go.RowKit
theorem EN(l:af):∀a,a≤l.foldl (fun n b=>10*n+oP b) a:=by
 induction l with
 | nil=>intro a;exact bY _
 | cons b l ih=>intro a;rw[List.foldl_cons];exact aaT (by omega) (ih _)
theorem zi:∀(l:af) (a:Nat),(∀b∈l,48≤b.toNat∧b.toNat≤57)→a≤2^64-1→Lib.parseUintM (2^64-1) a l=if l.foldl (fun n b=>10*n+oP b) a≤2^64-1 then .ok (l.foldl (fun n b=>10*n+oP b) a) else .range
 | [],a,_,ha=>by rw[Lib.parseUintM,List.foldl_nil,if_pos ha]
 | b:: l,a,hd,ha=>by
   have hb:=hd b (aa9 ..);rw[List.foldl_cons];have hg:=EN l (10*a+oP b);have e:a*10+(b.toNat-48)=10*a+oP b:=by unfold oP;omega
   rw[Lib.parseUintM,if_pos hb,e]
   by_cases h1:1844674407370955162≤a
   ·rw[if_pos h1,if_neg (by omega)]
   ·rw[if_neg h1]
    by_cases h2:2^64-1<10*a+oP b
    ·rw[if_pos h2,if_neg (by omega)]
    ·rw[if_neg h2];exact zi l _ (fun x hx=>hd x (Lt _ hx)) (by omega)
theorem GP{d:af}(hd:qn d):Lib.parseIntB 64 d=if ie d<2^63 then .ok (ie d) else .range:=by
 obtain⟨hn,hd⟩:=hd;cases d with
 | nil=>exact absurd rfl hn
 | cons c r =>
   have hc:=hd c (aa9 ..);unfold Lib.parseIntB;have h1:¬(c.toNat=43∨c.toNat=45):=by omega
   have h2:¬c.toNat=45:=by omega
   simp only[if_neg h1];unfold Lib.parseUintB;rw[if_neg hn,zi (c:: r) 0 hd (by omega)];have h4:(c:: r).foldl (fun n b=>10*n+oP b) 0=ie (c:: r):=rfl;rw[h4]
   by_cases h3:ie (c:: r)<2^63
   ·rw[if_pos (by omega),if_pos h3];simp only[h2];rw[if_neg (by omega)];simp
   ·rw[if_neg h3]
    by_cases h5:ie (c:: r)≤2^64-1
    ·rw[if_pos h5];simp only[h2];rw[if_pos ⟨by simp,by omega⟩]
    ·rw[if_neg h5]
theorem drop_nil{p:UInt8→Bool}:∀{l:af},l.dropWhile p=[]→∀b∈l,p b=true
 | [],_,b,hb=>by cases hb
 | x:: l,h,b,hb=>by
   rw[List.dropWhile_cons]at h
   by_cases q:p x=true
   ·rw[if_pos q]at h;rcases ID.1 hb with rfl|hb
    ·exact q
    ·exact drop_nil h b hb
   ·rw[if_neg q]at h;cases h
theorem OL{d:af}(h:Lib.trimS d jK=[]):∀b∈d,48≤b.toNat∧b.toNat≤57:=by
 unfold Lib.trimS Lib.trimRightS Lib.trimLeftS at h;have hin:∀b:UInt8,jK.contains b=true→48≤b.toNat∧b.toNat≤57:=fun b hb=>by
  have:b∈jK:=by simpa using hb
  simp[jK]at this;rcases this with rfl|rfl|rfl|rfl|rfl|rfl|rfl|rfl|rfl|rfl<;>decide
 have hall:=drop_nil h;have hnil:d.reverse.dropWhile (fun x=>jK.contains x)=[]:=by
  cases e:d.reverse.dropWhile (fun x=>jK.contains x) with
  | nil=>rfl
  | cons x r =>
    have h1:=hall x (by rw[e];simp);have h2:=List.head_dropWhile_not (fun x=>jK.contains x) (l:=d.reverse) (by rw[e];simp);simp only[e,List.head_cons]at h2;rw[h1]at h2;cases h2
 intro b hb;exact hin b (drop_nil hnil b (by simpa using hb))
variable [bq]
theorem DF(l:af)(hl:l.length≤2^31)(h:Lib.parseIntB 64 l=.range):bn p_ 229 [.str l,i_ 10,i_ 64] (.aA [i_ (Lib.intSat 64 l),.gV 296 .any]):=by
 refine⟨by simp[aV],by simp[aV,Aw.Pure], ?_⟩;intro base ι S w vs h1 h2;have hg:=(h2.gl 7 [.v bq.er] rfl).1.get 0 (.v bq.er) rfl;obtain⟨u,hu,_,hr⟩:=hg;rw[cz]at hr;subst hr;rw[aaQ]at hu
 match vs,h1 with
 | [],h1=>simp at h1
 | [v],h1=>simp at h1
 | [v,u],h1=>simp at h1
 | v:: u:: x:: y:: vs,h1=>simp at h1
 | [v,u,x],h1 =>
   simp only[bO,dp,and_true,eA,cz]at h1;obtain⟨⟨rfl,_⟩,rfl,rfl⟩:=h1;refine (Any.strconv_ParseInt_10_at64_range laysC174 ⟨l.toArray⟩ (by simp[ByteArray.size];omega) (by simpa using h) bq.er w hu bq.TE).mono ?_;rintro e w' ⟨N,rfl,_,_,hB⟩;have hE:bS ι.length w.heap.size ι S w ι S w':=⟨fun _ _=>fX.refl _,fun _ _ q=>q,fun _ _ q=>.inl q,fun b o q=>hB.cell (h2.iM b o q),fun b x hx=>by
    unfold World.shape? at hx ⊢;have hb:b<w.heap.size:=by
     rcases uP b w.heap.size with k|k
     ·exact k
     ·rw[abj k]at hx;cases hx
    rw[hB.block b hb];exact hx,hB⟩
   refine⟨_,ι,S,_,[],rfl,hE.mono (by rw[h2.len];exact bY _) h2.kx, ?_,h2.over hE (fun b o q=>Up (h2.iM b o q) hB.size),bY _,rfl⟩;simp[au]
   kernel_rfl
end
section
open Go Go.Aw Go.RowKit
variable{K:AV→aa→Prop}{l:List Tok}{id:Nat}
theorem Jo[Laid](s:af)(c:UInt8):bn p_ 60 [.str s,.str [c]] (i_ (Lib.indexByte s c)):=by
 refine iu (v:=.int .i64 (Lib.indexByte s c)) (by simp[aV]) (by simp) (by simp) (fun w=>by simp) ?_;intro ι S w vs h1 hg
 match vs,h1 with
 | [],h1=>simp at h1
 | [v],h1=>simp at h1
 | v:: u:: x:: vs,h1=>simp at h1
 | [v,u],h1 =>
   simp only[bO,dp,and_true,eA]at h1;obtain⟨⟨rfl,_⟩,rfl,_⟩:=h1;refine (Any.strings_Index_one lays143 ⟨s.toArray⟩ c w).mono ?_;rintro e w' ⟨rfl,rfl⟩;exact⟨rfl,Below.refl _ _⟩
theorem HM[Laid]{h:aa}{x:AV}(r:Rd id h l)(ex:x=.op id 0)(ht:Pt 9 l)(k:K (i_ 0) h):
 bz p_ (.fn (.func 218) [] []) [x] h K:=by
 subst ex;refine cB (by kernel_rfl) rfl (K0:=fun v h' => v=i_ 0∧h'=h) ?_ ?_
 ·refine (MM _).bI ?_;unfold I4;have fin:∃r' h'',Wk h.length [i_ 0] h [r'] h''∧r'=i_ 0∧h''=h:=⟨_,_,Wk.refl _ _ _ (bY _),rfl,rfl⟩;refine bx (zzA (zzU r rfl (qm rfl (zzG (aH ?_)))));cases l with
  | nil =>
    refine zzM rfl (aq (zzR (zzL rfl ?_)));exact fin
  | cons t l =>
    refine zzN (nO (by simp<;>omega)) (bx (zzA (zzU r rfl (tD rfl (zzX (zzW (zzH (aq (zzQ ?_)))))))));have ht:¬t.k=9:=ht;refine zzL (by simp[ht]) ?_;exact fin
 ·rintro _ _ ⟨rfl,rfl⟩;exact k
theorem HN[Laid]{h:aa}{c:UInt8}{n:Int}{u:af}{f:Bool}{x:AV}(r:Rd id h (⟨9,[c],n,u,f⟩:: l))(ex:x=.op id 0)(hc:c=43∨c=45)(k:K (i_ (if c=43 then 1 else -1)) (h.set id (mR l))):
 bz p_ (.fn (.func 218) [] []) [x] h K:=by
 subst ex;refine cB (by kernel_rfl) rfl (K0:=fun v h' => v=i_ (if c=43 then 1 else -1)∧h'=h.set id (mR l)) ?_ ?_
 ·refine (MM _).bI ?_;unfold I4;have hd:∀{K:AV→Prop},K (.str [c])→ca p_ (.op id 0) fun v17=>bp 0 v17 fun v18=>ak false 1 v18 h fun v19=>aQ 5 v19 (i_ 0) fun v20=>bp 1 v20 fun v21=>ak false 1 v21 h K:=by
   intro K q;refine bx (zzA (zzU r rfl (tD rfl (zzX ?_))));exact zzW q
  refine bx (zzA (zzU r rfl (qm rfl (zzG (aH (zzN (nO (by simp<;>omega)) (bx (zzA (zzU r rfl (tD rfl (zzX (zzW (zzH ?_)))))))))))));refine aq (zzQ (zzK rfl (hd (uCon (Jo _ c) ?_))));have hib:Lib.indexByte [45,32,43] c-1=(if c=43 then 1 else -1):=by rcases hc with rfl|rfl<;>decide
  refine zze (by rw[hib];split<;>(unfold aJ;decide)) ?_;rw[hib];have fin:ca p_ (.op id 0) fun v44=>bp 0 v44 fun v45=>ak false 1 v45 h fun v46=>lg 5 v46 (some (i_ 1)) none fun v47=>ca p_ (.op id 0) fun v48=>bp 0 v48 fun v49=>ao 1 v49 v47 h fun g50=>∃r' h'',Wk h.length [i_ (if c=43 then 1 else -1)] g50 [r'] h''∧r'=i_ (if c=43 then 1 else -1)∧h''=h.set id (mR l):=by
   refine bx (zzA (zzU r rfl (MR rfl (bx (zzA (aX (cs:=[.sl 5 (cQ l)]) (h':=h.set id (mR l)) rfl r rfl rfl (by simp) rfl rfl rfl ?_))))));exact⟨_,_,Wk.refl _ _ _ (by simp),rfl,rfl⟩
  refine hd (zzI (aH ?_));rcases hc with rfl|rfl
  ·refine zzM rfl (aq (zzR (zzL rfl ?_)));exact fin
  ·refine zzN rfl (hd (zzI (aq (zzQ (zzL rfl ?_)))));exact fin
 ·rintro _ _ ⟨rfl,rfl⟩;exact k
end
section
open Go Go.Aw Go.RowKit
theorem Dp(l:List Tok):∃sp,l=sp++dI l∧(∀t∈sp,t.k=13)∧Pt 13 (dI l):=by
 induction l with
 | nil=>exact⟨[],rfl,by simp,trivial⟩
 | cons t r ih =>
   rw[dI]
   by_cases h:t.k=13
   ·rw[if_pos h];obtain⟨sp,h1,h2,h3⟩:=ih;refine⟨t:: sp, ?_, ?_,h3⟩
    ·rw[abg,←h1]
    ·intro x hx;rcases ID.1 hx with rfl|hx
     ·exact h
     ·exact h2 x hx
   ·rw[if_neg h];exact⟨[],rfl,by simp,h⟩
theorem index_le:∀(s p:af),-1≤Lib.index s p∧Lib.index s p≤s.length:=by
 intro s p;induction s with
 | nil=>unfold Lib.index;split<;>simp
 | cons b s ih =>
   unfold Lib.index;split
   ·simp;omega
   ·split
    ·simp;omega
    ·simp;omega
def pV(l:List Tok):Prop:=l.length≤2^16∧∀t∈l,(-10^15≤t.n∧t.n≤10^15)∧t.t.length≤2^20∧t.u.length≤2^20
theorem pV.sub{l m:List Tok}(h:pV l)(hs:m.Sublist l):pV m:=⟨aaT hs.length_le h.1,fun t ht=>h.2 t (hs.subset ht)⟩
theorem rn(l:List Tok):(dI l).Sublist l:=by
 obtain⟨sp,h,_⟩:=Dp l;have:=List.sublist_append_right sp (dI l);rw[←h]at this;exact this
theorem kU{kd:Int}{l l':List Tok}{t:Tok}(h:kT kd l=some (t,l')):l=t:: l'∧t.k=kd:=by
 cases l with
 | nil=>cases h
 | cons x r =>
   rw[kT]at h;split at h
   ·cases h;exact⟨rfl,by assumption⟩
   ·cases h
theorem vM(l:List Tok):(iH l).2.Sublist l:=by
 cases l with
 | nil=>exact List.Sublist.refl _
 | cons t r =>
   rw[iH];split
   ·exact List.sublist_cons_self ..
   ·split
    ·exact List.sublist_cons_self ..
    ·exact List.Sublist.refl _
theorem OB(l:List Tok):(iH l).1=0∨(iH l).1=1∨(iH l).1=-1:=by
 cases l with
 | nil=>exact .inl rfl
 | cons t r =>
   rw[iH];split
   ·exact .inr (.inl rfl)
   ·split
    ·exact .inr (.inr rfl)
    ·exact .inl rfl
theorem nD(l:List Tok):(cV l).2.Sublist l:=by
 unfold cV;cases h:kT 10 l with
 | none=>exact List.Sublist.refl _
 | some x =>
   obtain⟨t,r⟩:=x;rw[(kU h).1];exact List.sublist_cons_self ..
theorem Cy{n:Int}(h:-10^15≤n∧n≤10^15):-10^12≤n.tdiv 1000∧n.tdiv 1000≤10^12:=by
 have h1:=Int.tdiv_mul_le n (b:=1000) (by decide);rcases Int.le_total 0 n with k|k
 ·rw[Int.tdiv_eq_ediv_of_nonneg k];omega
 ·have:n=-(-n):=by omega
  rw[this,Int.neg_tdiv,Int.tdiv_eq_ediv_of_nonneg (by omega)];omega
theorem RL{l:List Tok}(h:pV l):-10^12≤(cV l).1.1∧(cV l).1.1≤10^12:=by
 unfold cV;cases e:kT 10 l with
 | none=>simp
 | some x =>
   obtain⟨t,r⟩:=x;exact Cy (h.2 t (by rw[(kU e).1];simp)).1
section
variable [Laid]
theorem td{id:Nat}{h:aa}{l:List Tok}{x:AV}{K:AV→aa→Prop}(r:Rd id h l)(ex:x=.op id 0)(hn:l.length≤2^20)(k:K (.aA []) (h.set id (mR (dI l)))):
 bz p_ (.fn (.func 199) [] []) [x] h K:=by
 obtain⟨sp,h1,h2,h3⟩:=Dp l;have hl:=congrArg List.length h1;simp at hl;exact N7 (by rw[←h1];exact r) ex h2 h3 (by omega) k
theorem B1{id:Nat}{h:aa}{l:List Tok}{x:AV}{kd:Int}{K:AV→aa→Prop}(r:Rd id h l)(ex:x=.op id 0)(hn:l.length≤2^20)
 (k1:∀t l',kT kd l=some (t,l')→∀H,Mr id l' h H→K (.aA [t.av,tt]) H) (k2:kT kd l=none→∀H,Mr id l h H→K (.aA [vW 0 [] 0 [] false,ff]) H) :
 bz p_ (.fn (.func 215) [] []) [x,u8 kd] h K:=by
 cases l with
 | nil=>exact HO r ex trivial hn (k2 rfl)
 | cons t l =>
   by_cases hk:t.k=kd
   ·exact QL r ex hk (by simp at hn;omega) (k1 t l (by rw[kT,if_pos hk]))
   ·exact HO r ex hk hn (k2 (by rw[kT,if_neg hk]))
theorem E7{id:Nat}{h:aa}{l:List Tok}{x:AV}{K:AV→aa→Prop}(r:Rd id h l)(ex:x=.op id 0)(hl:pV l)(k:∀H,Mr id (cV l).2 h H→K (.aA [i_ (cV l).1.1,b_ (cV l).1.2]) H):
 bz p_ (.fn (.func 214) [] []) [x] h K:=by
 subst ex;refine cB (by kernel_rfl) rfl (K0:=fun v h' => v=.aA [i_ (cV l).1.1,b_ (cV l).1.2]∧Mr id (cV l).2 h h') ?_ (by rintro _ H ⟨rfl,m⟩;exact k H m);refine (Zh _).bI ?_;unfold S0;have hn:=hl.1;refine B1 r rfl (by omega) (fun t l' e H m1=>?_) (fun e H m1=>?_)
 ·have hb:=hl.2 t (by rw[(kU e).1];simp);have hd:=Cy hb.1;have ew:cV l=((t.n.tdiv 1000,t.f&&decide (t.n.tmod 1000=0)),l'):=by unfold cV;rw[e]
  rw[ew];refine bo rfl rfl (bo rfl rfl (bW (cs:=[u8 0,.str [],i_ 0,.str [],ff]) (n:=H.length) (h':=H++[cx 0 [] 0 [] false]) rfl (by simp[bQ]) rfl rfl (aX (cs:=t.row) (h':=H++[.ah ⟨70,t.row,true⟩]) rfl (b:=⟨70,[u8 0,.str [],i_ 0,.str [],ff],true⟩) (by simp) rfl rfl (by simp) rfl (by simp[bQ]) (by rw[IF _ _ (bY _)];simp) ?_)));have hV:(H++[aL.ah ⟨70,t.row,true⟩])[H.length]?=some (.ah ⟨70,t.row,true⟩):=by simp
  refine zzA (zzU hV rfl (Gg (c:=t.n.tdiv 1000) rfl rfl (by decide) (by rw[IntKind.wrap_i64];omega) ?_));have fin:∀b,b=(t.f&&decide (t.n.tmod 1000=0))→∃r' h'',Wk h.length [AV.aA [i_ (t.n.tdiv 1000),b_ b]] (H++[aL.ah ⟨70,t.row,true⟩]) [r'] h''∧r'=.aA [i_ (t.n.tdiv 1000),b_ (t.f&&decide (t.n.tmod 1000=0))]∧Mr id l' h h'':=by
   rintro _ rfl;exact⟨_,_,Wk.refl _ _ _ (by have:=m1.len;simp;omega),rfl,m1.tail _⟩
  refine aH (zzN rfl (zzA (zzU hV rfl (zzR (aH ?_)))));cases hf:t.f with
  | true =>
    rw[hf]at fin;refine zzN rfl (zzA (zzU hV rfl (Mh rfl rfl (by decide) rfl (zzG (zzR ?_)))));exact fin _ (by simp)
  | false =>
    rw[hf]at fin;refine zzM rfl (zzQ ?_);exact fin _ rfl
 ·have ew:cV l=((0,false),l):=by unfold cV;rw[e]
  rw[ew];refine bo rfl rfl (bo rfl rfl (bW (cs:=[u8 0,.str [],i_ 0,.str [],ff]) (n:=H.length) (h':=H++[cx 0 [] 0 [] false]) rfl (by simp[bQ]) rfl rfl (aX (cs:=[u8 0,.str [],i_ 0,.str [],ff]) (h':=H++[cx 0 [] 0 [] false]) rfl (b:=⟨70,[u8 0,.str [],i_ 0,.str [],ff],true⟩) (by simp) rfl rfl (by simp) rfl (by simp[bQ]) (by rw[IF _ _ (bY _)];simp) ?_)));have hV:(H++[cx 0 [] 0 [] false])[H.length]?=some (cx 0 [] 0 [] false):=by simp
  refine zzA (zzU hV rfl (Gg (c:=0) rfl rfl (by decide) (by decide) (aH (zzM rfl (zzQ (aH (zzM rfl (zzQ ?_))))))));exact⟨_,_,Wk.refl _ _ _ (by have:=m1.len;simp;omega),rfl,m1.tail _⟩
end
variable [bq]
theorem HK{id:Nat}{h:aa}{l:List Tok}{x:AV}{K:AV→aa→Prop}(r:Rd id h l)(ex:x=.op id 0)(hl:pV l)(k:∀H,Mr id (iH l).2 h H→K (i_ (iH l).1) H):
 bz p_ (.fn (.func 218) [] []) [x] h K:=by
 cases l with
 | nil=>exact HM r ex trivial (k h (Mr.refl r))
 | cons t l =>
   by_cases hk:t.k=9
   ·by_cases h1:t.t=[43]
    ·obtain⟨tk,tt',tn,tu,tf⟩:=t;subst hk;subst h1;exact HN (c:=43) r ex (.inl rfl) (k _ (Mr.set _ _ _))
    by_cases h2:t.t=[45]
    ·obtain⟨tk,tt',tn,tu,tf⟩:=t;subst hk;subst h2;exact HN (c:=45) r ex (.inr rfl) (k _ (Mr.set _ _ _))
    have e:iH (t:: l)=(0,t:: l):=by rw[iH,if_neg (by simp[h1]),if_neg (by simp[h2])]
    rw[e]at k;subst ex;refine cB (by kernel_rfl) rfl (K0:=fun v h' => v=i_ 0∧h'=h) ?_ (by rintro _ _ ⟨rfl,rfl⟩;exact k _ (Mr.refl r));refine (MM _).bI ?_;unfold I4;have hd:∀{K:AV→Prop},K (.str t.t)→ca p_ (.op id 0) fun v17=>bp 0 v17 fun v18=>ak false 1 v18 h fun v19=>aQ 5 v19 (i_ 0) fun v20=>bp 1 v20 fun v21=>ak false 1 v21 h K:=by
     intro K q;refine bx (zzA (zzU r rfl (tD rfl (zzX ?_))));exact zzW q
    refine bx (zzA (zzU r rfl (qm rfl (zzG (aH (zzN (nO (by simp<;>omega)) (bx (zzA (zzU r rfl (tD rfl (zzX (zzW (zzH ?_)))))))))))));refine aq (zzQ (zzK (by simp[hk]) (hd (cB (by kernel_rfl) rfl (BK [45,32,43] t.t (by simp) h) ?_))));rintro _ _ ⟨rfl,rfl⟩;have hi:=index_le [45,32,43] t.t;simp at hi;refine zze (by unfold aJ;omega) (hd (zzI (aH (zzN (nO h1) (hd (zzI (aq (zzQ (zzK (nO h2) ?_)))))))));exact⟨_,_,Wk.refl _ _ _ (bY _),rfl,rfl⟩
   ·have e:iH (t:: l)=(0,t:: l):=by rw[iH,if_neg (by simp[hk]),if_neg (by simp[hk])]
    rw[e]at k;exact HM r ex hk (k h (Mr.refl r))
end
section
open Go Go.Aw Go.RowKit
variable [bq]
def Dn(sg:Int)(l:List Tok):(Int×Bool)×List Tok:=if sg=0 then cV (dI l) else ((sg*(cV (dI l)).1.1,(cV (dI l)).1.2&&decide (0≤(cV (dI l)).1.1)),(cV (dI l)).2)
omit [bq] in
theorem pW(l:List Tok):fQ [] l=match dI l with|[]=>((0,true),[])|t:: r=>Dn (iH (t:: r)).1 (iH (t:: r)).2:=by
 unfold fQ Em;rw[if_neg (by decide),if_neg (by decide),if_neg (by simp)];cases dI l with
 | nil=>rfl
 | cons t r=>rfl
theorem C8{id:Nat}{h:aa}{l:List Tok}{w:af}{x:AV}{K:AV→aa→Prop}(r:Rd id h l)(ex:x=.op id 0)(hl:pV l)(hw:w.length≤2^20)(k:∀H,Mr id (fQ w l).2 h H→K (.aA [i_ (fQ w l).1.1,b_ (fQ w l).1.2]) H):
 bz p_ (.fn (.func 217) [] []) [x,.str w] h K:=by
 subst ex;have hid:=r.lt;refine cB (by kernel_rfl) rfl (K0:=fun v h' => v=.aA [i_ (fQ w l).1.1,b_ (fQ w l).1.2]∧Mr id (fQ w l).2 h h') ?_ (by rintro _ H ⟨rfl,m⟩;exact k H m);refine (Zi _ _).bI ?_;unfold S3;refine cP (fun s H=>∃sg l1,s=[i_ sg]∧(sg=0∨sg=1∨sg=-1)∧pV l1∧Mr id l1 h H∧fQ w l=Dn sg l1) ?_ ?_
 ·rintro _ H ⟨sg,l1,rfl,hsg,ol1,m1,e⟩;rw[e];have r1:=m1.rd r;refine td r1 rfl (by have:=ol1.1;omega) ?_;have o2:pV (dI l1):=ol1.sub (rn l1);have r2:=r1.set (dI l1);refine E7 r2 rfl o2 fun H2 m2=>?_;have hwi:=RL o2;have m:Mr id (cV (dI l1)).2 h H2:=m1.trans hid ((Mr.set id (dI l1) H).trans (by have:=m1.len;omega) m2);have hH2:=m.len;refine bo rfl rfl (bo rfl rfl (zzG ?_))
  by_cases hz:sg=0
  ·refine zzL (oF hz) ?_;have e2:Dn sg l1=cV (dI l1):=if_pos hz;rw[e2];exact⟨_,_,Wk.refl _ _ _ hH2,rfl,m⟩
  ·refine zzK (nO hz) ?_;have e2:Dn sg l1=((sg*(cV (dI l1)).1.1,(cV (dI l1)).1.2&&decide (0≤(cV (dI l1)).1.1)),(cV (dI l1)).2):=if_neg hz;rw[e2];refine J6 rfl rfl (by unfold aJ;rcases hsg with rfl|rfl|rfl<;>omega) (aH ?_);have fin:∀b,b=((cV (dI l1)).1.2&&decide (0≤(cV (dI l1)).1.1))→∃r' h'',Wk h.length [AV.aA [i_ (sg*(cV (dI l1)).1.1),b_ b]] H2 [r'] h''∧r'=.aA [i_ (sg*(cV (dI l1)).1.1),b_ ((cV (dI l1)).1.2&&decide (0≤(cV (dI l1)).1.1))]∧Mr id (cV (dI l1)).2 h h'':=by
    rintro _ rfl;exact⟨_,_,Wk.refl _ _ _ hH2,rfl,m⟩
   cases hb:(cV (dI l1)).1.2 with
   | true =>
     rw[hb]at fin;refine zzN rfl (zzF (aq (zzR ?_)));exact fin _ (by simp)
   | false =>
     rw[hb]at fin;refine zzM rfl (aq (zzQ ?_));exact fin _ (by simp)
 ·intro F hF;refine zzI ?_
  by_cases h1:w=[45]
  ·refine zzL (oF h1) (aq ?_);refine hF _ _ ⟨-1,l,rfl,.inr (.inr rfl),hl,Mr.refl r, ?_⟩;unfold fQ;rw[if_pos h1];rfl
  refine zzK (nO h1) (zzJ ?_)
  by_cases h2:w=[]
  ·subst h2;refine zzK rfl (td r rfl (by have:=hl.1;omega) ?_);have o2:pV (dI l):=hl.sub (rn l);have r2:=r.set (dI l);rw[pW];rw[pW]at hF;refine bx (zzA (zzU r2 rfl (qm rfl (zzG ?_))));cases hs:dI l with
   | nil =>
     rw[hs]at hF;refine zzL rfl ?_;exact⟨_,_,Wk.refl _ _ _ (by simp),rfl,Mr.set _ _ _⟩
   | cons t q =>
     rw[hs]at hF r2 o2;refine zzK (nO (by simp<;>omega)) ?_;refine HK r2 rfl o2 fun H m=>?_;refine aq ?_;exact hF _ _ ⟨_,_,rfl,OB _,o2.sub (vM _),(Mr.set id _ h).trans hid m,rfl⟩
  ·refine zzL (by simp[h2]) ?_;have hM:fQ w l=(if Lib.hasPrefix w [45]=false∨Lib.trimS (Lib.trimPrefix w [45]) jK≠[] then ((0,false),l) else ((-((min (ie (Lib.trimPrefix w [45])) 1000000000:Nat):Int),true),l)):=by
    unfold fQ Em;rw[if_neg h1,if_neg h1,if_pos h2]
   have hlen:(Lib.trimPrefix w [45]).length≤2^20:=by
    unfold Lib.trimPrefix;split
    ·rw[List.length_drop];omega
    ·exact hw
   refine uCon (uX w [45] (by omega)) ?_;obtain⟨d,hd⟩:∃d,Lib.trimPrefix w [45]=d:=⟨_,rfl⟩;rw[hd]at hM hlen ⊢;refine bo rfl rfl (bo rfl rfl (zzO (aH ?_)));have bad:fQ w l=((0,false),l)→∃r' h'',Wk h.length [AV.aA [i_ 0,ff]] h [r'] h''∧r'=.aA [i_ (fQ w l).1.1,b_ (fQ w l).1.2]∧Mr id (fQ w l).2 h h'':=by
    intro e;rw[e];exact⟨_,_,Wk.refl _ _ _ (bY _),rfl,Mr.refl r⟩
   by_cases h3:Lib.hasPrefix w [45]=false
   ·rw[if_pos (.inl h3)]at hM;refine zzM (by simp[h3]) (aq (aM (by simp[h3]) (zzL rfl ?_)));exact bad hM
   have h3:Lib.hasPrefix w [45]=true:=by simpa using h3
   refine zzN (by simp[h3]) ?_;have hle:(Lib.trimS d jK).length≤d.length:=by
    unfold Lib.trimS Lib.trimLeftS Lib.trimRightS;have e1:=(List.dropWhile_sublist (fun x=>jK.contains x) (l:=(d.reverse.dropWhile (fun x=>jK.contains x)).reverse)).length_le;have e2:=(List.dropWhile_sublist (fun x=>jK.contains x) (l:=d.reverse)).length_le;simp at e1 e2 ⊢;omega
   refine uCon (KF d jK (by omega) (by decide) (fun b hb=>by simp[jK]at hb;rcases hb with rfl|rfl|rfl|rfl|rfl|rfl|rfl|rfl|rfl|rfl<;>decide) (by omega)) (zzJ (aq (zzQ ?_)))
   by_cases h4:Lib.trimS d jK=[]
   ·refine zzK (by simp[h4]) ?_;rw[if_neg (fun z=>z.elim (fun z=>by rw[h3]at z;cases z) fun z=>z h4)]at hM;have hdg:qn d:=by
     refine⟨fun e=>?_,OL h4⟩;subst e;unfold Lib.trimPrefix at hd;rw[if_pos h3]at hd;unfold Lib.hasPrefix at h3;cases w with
     | nil=>exact h2 rfl
     | cons a w =>
       simp[List.isPrefixOf]at h3 hd;subst h3;subst hd;exact h1 rfl
    have fin:∀v:Int,v=((min (ie d) 1000000000:Nat):Int)→pb (nx [i_ v] 0) fun v29=>∃r' h'',Wk h.length [AV.aA [v29,tt]] h [r'] h''∧r'=.aA [i_ (fQ w l).1.1,b_ (fQ w l).1.2]∧Mr id (fQ w l).2 h h'':=by
     rintro _ rfl;rw[dU,EZ,hM];refine⟨by unfold aJ;omega, ?_⟩;exact⟨_,_,Wk.refl _ _ _ (bY _),by rw[Int.zero_sub],Mr.refl r⟩
    have hp:=GP hdg
    by_cases h5:ie d<2^63
    ·rw[if_pos h5]at hp;refine uCon (EB d _ (by omega) hp) (bo rfl rfl (bo rfl rfl (aH ?_)));show kB true (some true) _;rw[C4];refine aH (zzN rfl (zzE (aq (zzQ ?_))))
     by_cases h6:(1000000000:Int)<ie d
     ·refine zzL (oF h6) ?_;exact fin _ (by omega)
     ·refine zzK (nO h6) ?_;exact fin _ (by omega)
    ·rw[if_neg h5]at hp;refine uCon (DF d (by omega) hp) (bo rfl rfl (bo rfl rfl (aH ?_)));show kB true (some false) _;rw[C4];refine aH (zzM rfl (aq (zzR (zzL rfl ?_))));exact fin _ (by omega)
   ·refine zzL (by simp[h4]) ?_;rw[if_pos (.inr h4)]at hM;exact bad hM
end
section
open Go Go.Aw Go.RowKit
abbrev kG(a b:Int):aL:=.ah ⟨44,[i_ a,i_ b],true⟩
theorem E6{B:Nat}{H:aa}{a b a0 b0:Int}{K:AV→aa→Prop}(hV:H[B]?=some (kG a0 b0))(k:K (.agg [i_ a,i_ b]) (H.set B (kG a b))):
 ao 2 (.op B 0) (.agg [i_ a,i_ b]) H fun g=>ak true 2 (.op B 0) g fun r=>K r g:=by
 refine aX (cs:=[i_ a,i_ b]) (h':=H.set B (kG a b)) rfl hV rfl rfl (by simp) rfl rfl rfl ?_;refine zzV (b:=⟨44,[i_ a,i_ b],true⟩) (iD (eQ.1 hV).1) (by simp) ?_;exact k
theorem jx{t:Tok}{H:aa}{F:AV→aa→Prop}(k:F (.op H.length 0) (H++[.ah ⟨70,t.row,true⟩])):
 aW 70 (.agg [(u8 0),(.str []),(i_ 0),(.str []),ff]) H fun v g=>ao 5 v t.av g fun g2=>F v g2:=by
 refine bW (cs:=[u8 0,.str [],i_ 0,.str [],ff]) (n:=H.length) (h':=H++[cx 0 [] 0 [] false]) rfl (by simp[bQ]) rfl rfl ?_;exact aX (cs:=t.row) (h':=H++[.ah ⟨70,t.row,true⟩]) rfl (b:=⟨70,[u8 0,.str [],i_ 0,.str [],ff],true⟩) (by simp) rfl rfl (by simp) rfl (by simp[bQ]) (by rw[IF _ _ (bY _)];simp) k
theorem xt(w p:af):(Lib.trimPrefix w p).length≤w.length:=by unfold Lib.trimPrefix;split<;>simp
variable [bq]
theorem QK{id:Nat}{h:aa}{l:List Tok}{x:AV}{K:AV→aa→Prop}(r:Rd id h l)(ex:x=.op id 0)(hl:pV l)(k:∀H,Mr id (gN l).2 h H→K (.aA [.agg [i_ (gN l).1.1.1,i_ (gN l).1.1.2],b_ (gN l).1.2]) H):
 bz p_ (.fn (.func 200) [] []) [x] h K:=by
 subst ex;have hid:=r.lt;refine cB (by kernel_rfl) rfl (K0:=fun v h' => v=.aA [.agg [i_ (gN l).1.1.1,i_ (gN l).1.1.2],b_ (gN l).1.2]∧Mr id (gN l).2 h h') ?_ (by rintro _ H ⟨rfl,m⟩;exact k H m);refine (Zf _).bI ?_;unfold SY;refine bW (cs:=[i_ 0,i_ 0]) (n:=h.length) (h':=h++[kG 0 0]) rfl rfl rfl rfl ?_;have r0:Rd id (h++[kG 0 0]) l:=r.app _;have hB0:(h++[kG 0 0])[h.length]?=some (kG 0 0):=by simp
 -- what is handed back
 have ret:∀(H:aa) (a b:Int) (c:Bool) (q:List Tok),gN l=(((a,b),c),q)→Mr id q (h++[kG 0 0]) H→H[h.length]?=some (kG 0 0) →
  ao 2 (.op h.length 0) (.agg [i_ a,i_ b]) H fun g8=>ak true 2 (.op h.length 0) g8 fun r9=>∃r' h'',Wk h.length [AV.aA [r9,b_ c]] g8 [r'] h''∧r'=.aA [.agg [i_ (gN l).1.1.1,i_ (gN l).1.1.2],b_ (gN l).1.2]∧Mr id (gN l).2 h h'':=by
  intro H a b c q e m hb;rw[e];refine E6 (K:=fun r9 g8=>∃r' h'',Wk h.length [AV.aA [r9,b_ c]] g8 [r'] h''∧r'=.aA [.agg [i_ a,i_ b],b_ c]∧Mr id q h h'') hb ?_;have:=m.len;simp at this;exact⟨_,_,Wk.refl _ _ _ (by simp;omega),rfl,(m.new hid).vK (bY _) _⟩
 have fB:∀{H H':aa} {q:List Tok},Mr id q H H'→h.length<H.length→H[h.length]?=some (kG 0 0)→H'[h.length]?=some (kG 0 0):=fun m q1 q2=>by rw[m.other q1 (by omega)];exact q2
 refine E7 r0 rfl hl fun H1 m1=>?_;have rd1:=m1.rd r0;have hb1:=fB m1 (by simp) hB0;have hl1:=m1.len;simp at hl1;have ow:=hl.sub (nD l);refine bo rfl rfl (bo rfl rfl ?_);cases hw:(cV l).1.2 with
 | true =>
   refine zzL rfl (bf rfl ?_);exact ret H1 0 (cV l).1.1 true (cV l).2 (by unfold gN;dsimp only;rw[if_pos hw]) m1 hb1
 | false =>
   refine zzK rfl ?_;have hT:∀{H:aa} {t:Tok},(H++[aL.ah ⟨70,t.row,true⟩])[H.length]?=some (.ah ⟨70,t.row,true⟩):=by simp
   have happ:∀{H j:aa} {i:Nat} {e:aL},H[i]?=some e→(H++j)[i]?=some e:=fun h=>by rw[gO (eQ.1 h).1];exact h
   refine B1 rd1 rfl (by have:=ow.1;omega) (fun t l2 e H2 m2=>?_) (fun e H2 m2=>?_)
   ·-- a dimension
    have ht:=hl.2 t ((nD l).subset (by rw[(kU e).1];simp));have o2:pV l2:=ow.sub (by rw[(kU e).1];exact List.sublist_cons_self ..);have hl2:=m2.len;have hb2:=fB m2 (by omega) hb1;have rd2:=m2.rd rd1;refine bo rfl rfl (bo rfl rfl (jx (zzL rfl (zzA (zzU hT rfl (uCon (jf _) ?_))))));have hlow:(bT t.u).length≤2^20:=by unfold bT;simp;exact ht.2.2
    have hr0:gN l=if Lib.hasPrefix (bT t.u) [110]=true∧t.f=true∧t.n.tmod 1000=0 then (let b:=fQ (Lib.trimPrefix (bT t.u) [110]) l2;(((t.n.tdiv 1000,b.1.1),b.1.2),b.2)) else (((0,0),false),l2):=by
     unfold gN;dsimp only;rw[if_neg (by rw[hw];decide),e]
    have em:t.u.map bG.dF=bT t.u:=rfl;rw[em];refine uCon (uX _ _ (by omega)) (bo rfl rfl (bo rfl rfl (zzO ?_)));have m2':Mr id l2 (h++[kG 0 0]) (H2++[aL.ah ⟨70,t.row,true⟩]):=(m1.trans (by simp;omega) m2).tail _;have bad:¬(Lib.hasPrefix (bT t.u) [110]=true∧t.f=true∧t.n.tmod 1000=0)→_:=fun z=>ret (H2++[aL.ah ⟨70,t.row,true⟩]) 0 0 false l2 (by rw[hr0,if_neg z]) m2' (happ hb2);refine aH ?_
    by_cases c1:Lib.hasPrefix (bT t.u) [110]=true
    ·refine zzN (by simp[c1]) (zzA (zzU hT rfl (zzO (aq (zzQ (aH ?_))))))
     by_cases c2:t.f=true
     ·refine zzN (by simp[c2]) (zzA (zzU hT rfl (Mh rfl rfl (by decide) rfl (zzH (aq (zzQ ?_))))))
      by_cases c3:t.n.tmod 1000=0
      ·refine zzK (by simp[c3]) ?_;rw[if_pos ⟨c1,c2,c3⟩]at hr0;have htl:(Lib.trimPrefix (bT t.u) [110]).length≤2^20:=aaT (xt _ _) hlow;refine C8 (rd2.app _) rfl o2 htl fun H3 m3=>?_;have hl3:=m3.len;simp at hl3;refine bo rfl rfl (bo rfl rfl (zzA (zzU (by rw[m3.other (by simp) (by omega)];exact hT) rfl ?_)));have htd:=Cy ht.1;refine Gg (c:=t.n.tdiv 1000) rfl rfl (by decide) (by rw[IntKind.wrap_i64];omega) (bf rfl ?_);exact ret H3 _ _ _ _ hr0 (m2'.trans (by simp;omega) m3) (fB m3 (by simp;omega) (happ hb2))
      ·refine zzL (by simp[c3]) (bf rfl ?_);exact bad fun z=>c3 z.2.2
     ·refine zzM (by simp[c2]) (aq (aM (by simp[c2]) (zzL rfl (bf rfl ?_))));exact bad fun z=>c2 z.2.1
    ·refine zzM (by simp[c1]) (aq (aM (by simp[c1]) (aH (zzM rfl (aq (zzR (zzL rfl (bf rfl ?_))))))));exact bad fun z=>c1 z.1
   ·-- none
    have hl2:=m2.len;have hb2:=fB m2 (by omega) hb1;have rd2:=m2.rd rd1;have m12:=m1.trans (by simp;omega) m2;refine bo rfl rfl (bo rfl rfl (jx (t:=⟨0,[],0,[],false⟩) (zzK rfl ?_)));refine HK (rd2.app _) rfl ow fun H3 m3=>?_;have hl3:=m3.len;simp at hl3;have m13:=(m12.tail [aL.ah ⟨70,Tok.row ⟨0,[],0,[],false⟩,true⟩]).trans (by simp;omega) m3;have hb3:=fB m3 (by simp;omega) (happ hb2);have rd3:=m3.rd (rd2.app _);have os:=ow.sub (vM (cV l).2);have hr1:gN l=(let s:=iH (cV l).2
     match kT 1 s.2 with
     | none=>(((0,0),false),s.2)
     | some (t,r)=>if s.1<0 then (((0,0),false),r) else
       let m:=bT t.t
       if s.1=0∧m=[111,100,100] then (((2,1),true),r)
       else if s.1=0∧m=[101,118,101,110] then (((2,0),true),r)
       else
        let neg:Bool:=decide (s.1=0)&&Lib.hasPrefix m [45]
        let q:=if neg=true then Lib.trimPrefix m [45] else m
        if Lib.hasPrefix q [110]=true then (let b:=fQ (Lib.trimPrefix q [110]) r;((((if neg=true then -1 else 1:Int),b.1.1),b.1.2),b.2)) else (((0,0),false),r)):=by
     unfold gN;dsimp only;rw[if_neg (by rw[hw];decide),e];rfl
    obtain⟨sg,hsg⟩:∃sg,iH (cV l).2=sg:=⟨_,rfl⟩;rw[hsg]at hr1 rd3 os m13;rw[hsg];dsimp only at hr1;refine B1 rd3 rfl (by have:=os.1;omega) (fun t l4 e4 H4 m4=>?_) (fun e4 H4 m4=>?_)
    ·rw[e4]at hr1;dsimp only at hr1;have ht:=os.2 t (by rw[(kU e4).1];simp);have o4:pV l4:=os.sub (by rw[(kU e4).1];exact List.sublist_cons_self ..);have hl4:=m4.len;have hb4:=fB m4 (by omega) hb3;have rd4:=m4.rd rd3;refine bo rfl rfl (bo rfl rfl (jx ?_));obtain⟨H5,h5⟩:∃H5,H5=H4++[aL.ah ⟨70,t.row,true⟩]:=⟨_,rfl⟩;have hT5:H5[H4.length]?=some (.ah ⟨70,t.row,true⟩):=by rw[h5];exact hT
     have hb5:H5[h.length]?=some (kG 0 0):=by rw[h5];exact happ hb4
     have rd5:Rd id H5 l4:=by rw[h5];exact rd4.app _
     have m15:Mr id l4 (h++[kG 0 0]) H5:=by rw[h5];exact (m13.trans (by simp;omega) m4).tail _
     have hl5:H5.length=H4.length+1:=by rw[h5];simp
     rw[←h5];clear h5;refine zzO (aH (zzN rfl (zzC (aq (zzQ ?_)))))
     by_cases c1:sg.1<0
     ·rw[if_pos c1]at hr1;refine zzL (oF c1) (bf rfl ?_);exact ret _ 0 0 false _ hr1 m15 hb5
     rw[if_neg c1]at hr1;refine zzK (nO c1) (zzA (zzU hT5 rfl (uCon (jf _) ?_)));have em:t.t.map bG.dF=bT t.t:=rfl;rw[em];obtain⟨m,hm⟩:∃m,bT t.t=m:=⟨_,rfl⟩;have hml:m.length≤2^20:=by rw[←hm];unfold bT;simp;exact ht.2.1
     rw[hm]at hr1 ⊢;refine cP (fun s H=>∃(q:af) (a:Int),s=[.str q,i_ a]∧H=H5∧q.length≤2^20∧gN l=if Lib.hasPrefix q [110]=true then (((a,(fQ (Lib.trimPrefix q [110]) l4).1.1),(fQ (Lib.trimPrefix q [110]) l4).1.2),(fQ (Lib.trimPrefix q [110]) l4).2) else (((0,0),false),l4)) ?_ ?_
     ·rintro _ _ ⟨q,a,rfl,rfl,hq,hr⟩;refine uCon (uX _ _ (by show q.length≤_;omega)) (bo rfl rfl (bo rfl rfl (zzO ?_)))
      by_cases c2:Lib.hasPrefix q [110]=true
      ·rw[if_pos c2]at hr;refine zzK (by simp[c2]) ?_;refine C8 rd5 rfl o4 (aaT (xt _ _) hq) fun H6 m6=>?_;refine bo rfl rfl (bo rfl rfl (bf rfl ?_));exact ret H6 _ _ _ _ hr (m15.trans (by simp;omega) m6) (fB m6 (by omega) hb5)
      ·rw[if_neg c2]at hr;refine zzL (by simp[c2]) (bf rfl ?_);exact ret _ 0 0 false _ hr m15 hb5
     ·intro F hF;refine zzG ?_
      by_cases c2:sg.1=0
      ·refine zzL (oF c2) (zzI ?_)
       by_cases c3:m=[111,100,100]
       ·rw[if_pos ⟨c2,c3⟩]at hr1;refine zzL (oF c3) (bf rfl ?_);exact ret _ 2 1 true _ hr1 m15 hb5
       rw[if_neg (fun z=>c3 z.2)]at hr1;refine zzK (nO c3) (zzI ?_)
       by_cases c4:m=[101,118,101,110]
       ·rw[if_pos ⟨c2,c4⟩]at hr1;refine zzL (oF c4) (bf rfl ?_);exact ret _ 2 0 true _ hr1 m15 hb5
       rw[if_neg (fun z=>c4 z.2)]at hr1;refine zzK (nO c4) (uCon (uX _ _ (by omega)) (bo rfl rfl (bo rfl rfl ?_)));simp only[c2,decide_true,Bool.true_and]at hr1
       by_cases c5:Lib.hasPrefix m [45]=true
       ·refine zzL c5 (aq ?_);refine hF _ _ ⟨_,-1,rfl,rfl,aaT (xt _ _) hml, ?_⟩;rw[hr1];simp only[c5,if_true]
       ·have c5:Lib.hasPrefix m [45]=false:=by simpa using c5
        refine zzK c5 (aq ?_);refine hF _ _ ⟨_,1,rfl,rfl,hml, ?_⟩;rw[hr1];simp only[c5];rfl
      ·refine zzK (nO c2) (aq ?_);refine hF _ _ ⟨_,1,rfl,rfl,hml, ?_⟩;rw[hr1,if_neg (fun z=>c2 z.1),if_neg (fun z=>c2 z.1)];simp only[c2,decide_false,Bool.false_and];rfl
    ·rw[e4]at hr1;have hl4:=m4.len;refine bo rfl rfl (bo rfl rfl (jx (t:=⟨0,[],0,[],false⟩) (zzO (aH (zzM rfl (aq (zzR (zzL rfl (bf rfl ?_)))))))));exact ret _ 0 0 false _ hr1 ((m13.trans (by simp;omega) m4).tail _) (happ (fB m4 (by omega) hb3))
end
section
open Go Go.Aw Go.RowKit
theorem Iy(sg:Int)(l:List Tok):(Dn sg l).2.Sublist l:=by
 unfold Dn;split
 ·exact (nD _).trans (rn l)
 ·exact (nD _).trans (rn l)
theorem El(w:af)(l:List Tok):(fQ w l).2.Sublist l:=by
 by_cases h1:w=[45]
 ·have e:fQ w l=Dn (-1) l:=by unfold fQ;rw[if_pos h1];rfl
  rw[e];exact Iy _ _
 by_cases h2:w=[]
 ·subst h2;rw[pW];cases e:dI l with
  | nil=>simp
  | cons t r=>exact ((Iy _ _).trans (vM _)).trans (by rw[←e];exact rn l)
 ·unfold fQ Em;rw[if_neg h1,if_neg h1,if_pos h2];split<;>exact List.Sublist.refl _
theorem Oq(l:List Tok):(gN l).2.Sublist l:=by
 unfold gN;dsimp only;split
 ·exact nD l
 ·cases e:kT 12 (cV l).2 with
  | some x =>
    obtain⟨t,r⟩:=x;dsimp only;have hr:r.Sublist l:=List.Sublist.trans (by rw[(kU e).1];exact List.sublist_cons_self ..) (nD l);split
    ·exact (El _ _).trans hr
    ·exact hr
  | none =>
    dsimp only;have hs:(iH (cV l).2).2.Sublist l:=(vM _).trans (nD l);cases e:kT 1 (iH (cV l).2).2 with
    | none=>exact hs
    | some x =>
      obtain⟨t,r⟩:=x;dsimp only;have hr:r.Sublist l:=List.Sublist.trans (by rw[(kU e).1];exact List.sublist_cons_self ..) hs;repeat' split
      all_goals first|exact hr|exact (El _ _).trans hr
variable [bq]
def qy(l:List Tok):AV×Int:=match wo l with|some (a,b)=>(.agg [i_ a,i_ b],0)|none=>(.agg [i_ 0,i_ 0],12)
theorem Hc(l:List Tok)(hl:pV l):bn p_ 177 [.sl 5 (cQ l)] (.aA [(qy l).1,i_ (qy l).2]):=by
 refine (Y9 _).bj (by simp only[aV,Aw.Pure,and_true];exact kP l) (by unfold qy;cases wo l<;>simp[aV,Aw.Pure]) ?_;unfold SR;refine bW (cs:=[i_ 0,i_ 0]) (n:=0) (h':=[kG 0 0]) rfl rfl rfl rfl (bf rfl (bW (cs:=[.sl 5 (cQ l)]) (n:=1) (h':=[kG 0 0,mR l]) rfl rfl rfl rfl ?_));have r0:Rd 1 [kG 0 0,mR l] l:=rfl;refine td r0 rfl (by have:=hl.1;omega) ?_;have o1:pV (dI l):=hl.sub (rn l);refine QK (r0.set _) rfl o1 fun H1 m1=>?_;have hl1:=m1.len;simp at hl1;have rd1:=m1.rd (r0.set _);have hb1:H1[0]?=some (kG 0 0):=by rw[m1.other (by simp) (by decide)];rfl
 obtain⟨R,hR⟩:∃R,gN (dI l)=R:=⟨_,rfl⟩;have hF:wo l=if R.1.2=true∧dI R.2=[]∧kj R.1.1.1=true∧kj R.1.1.2=true then some R.1.1 else none:=by unfold wo;rw[hR]
 rw[hR]at rd1 m1 ⊢;refine bo rfl rfl (bo rfl rfl (bW (cs:=[i_ 0,i_ 0]) (n:=H1.length) (h':=H1++[kG 0 0]) rfl rfl rfl rfl (aX (cs:=[i_ R.1.1.1,i_ R.1.1.2]) (h':=H1++[kG R.1.1.1 R.1.1.2]) rfl (b:=⟨44,[i_ 0,i_ 0],true⟩) (by simp) rfl rfl (by simp) rfl rfl (by rw[IF _ _ (bY _)];simp) ?_)));have o2:R.2.length≤2^20:=by have:=(hR▸Oq (dI l)).length_le;have:=o1.1;omega
 refine td (rd1.app _) rfl o2 ?_;have rd2:=(rd1.app [kG R.1.1.1 R.1.1.2]).set (dI R.2);have hA:((H1++[kG R.1.1.1 R.1.1.2]).set 1 (mR (dI R.2)))[H1.length]?=some (kG R.1.1.1 R.1.1.2):=by rw[iF (by omega)];simp
 have hb2:((H1++[kG R.1.1.1 R.1.1.2]).set 1 (mR (dI R.2)))[0]?=some (kG 0 0):=by rw[iF (by decide),gO (by omega)];exact hb1
 obtain⟨H2,h2⟩:∃H2,H2=(H1++[kG R.1.1.1 R.1.1.2]).set 1 (mR (dI R.2)):=⟨_,rfl⟩;rw[←h2]at hA hb2 rd2 ⊢;have bad:wo l=none→ao 2 (.op 0 0) (.agg [i_ 0,i_ 0]) H2 fun g=>ak true 2 (.op 0 0) g fun r=>dK (.aA [(qy l).1,i_ (qy l).2]) (.aA [r,i_ 12]) g:=by
  intro e;refine E6 (K:=fun r g=>dK (.aA [(qy l).1,i_ (qy l).2]) (.aA [r,i_ 12]) g) hb2 ?_;unfold qy;rw[e];exact .pure (by simp[aV,Aw.Pure]) rfl
 have good:wo l=some R.1.1→ao 2 (.op 0 0) (.agg [i_ R.1.1.1,i_ R.1.1.2]) H2 fun g=>ak true 2 (.op 0 0) g fun r=>dK (.aA [(qy l).1,i_ (qy l).2]) (.aA [r,i_ 0]) g:=by
  intro e;refine E6 (K:=fun r g=>dK (.aA [(qy l).1,i_ (qy l).2]) (.aA [r,i_ 0]) g) hb2 ?_;unfold qy;rw[e];exact .pure (by simp[aV,Aw.Pure]) rfl
 refine zzO (aH ?_)
 by_cases c1:R.1.2=true
 ·refine zzN (by simp[c1]) (bx (zzA (zzU rd2 rfl (qm rfl (zzE (aq (zzQ (aH ?_))))))))
  by_cases c2:dI R.2=[]
  ·refine zzN (by simp[c2]) (zzV hA (by simp) (uCon (om R.1.1.1 R.1.1.2) (zzH (aq (zzQ ?_)))));have e9:∀n,kj n=bG.gu n:=fun n=>by unfold kj bG.gu;simp
   by_cases c3:kj R.1.1.1=true∧kj R.1.1.2=true
   ·rw[if_pos ⟨c1,c2,c3⟩]at hF;refine zzK (by rw[e9,e9]at c3;simp[c3]) (zzV hA (by simp) ?_);exact good hF
   ·rw[if_neg (fun z=>c3 z.2.2)]at hF;refine zzL (by rw[e9,e9]at c3;revert c3;cases bG.gu R.1.1.1<;>cases bG.gu R.1.1.2<;>simp) (bf rfl ?_);exact bad hF
  ·rw[if_neg (fun z=>c2 z.2.1)]at hF;have:0<(dI R.2).length:=List.length_pos_iff.2 c2;refine zzM (by simp;omega) (aq (aM (by simp<;>omega) (zzL rfl (bf rfl ?_))));exact bad hF
 ·rw[if_neg (fun z=>c1 z.1)]at hF;refine zzM (by simp[c1]) (aq (aM (by simp[c1]) (aH (zzM rfl (aq (zzR (zzL rfl (bf rfl ?_))))))));exact bad hF
end
end Go.Proofs.YtpcnidmmkknndaaGreatDoor
end
