/-
 A writer's bytes,length and text;tokens.
 No conditions.
-/
import Derived.Test.YtpcnidmmkknndaaGreatDoorZi
import Derived.Test.YtpcnidmmkknndaaGreatDoorZh
import Derived.Test.YtpcnidmmkknndaaGreatDoorZf
import Derived.Test.YtpcnidmmkknndaaGreatDoorZd
set_option linter.unusedVariables false
set_option linter.unusedSimpArgs false
set_option maxRecDepth 1000000
set_option maxHeartbeats 16000000
open Go.Proofs.Tryz renaming prog→p_
noncomputable section
namespace Go.Proofs.YtpcnidmmkknndaaGreatDoor
section
open Go Go.Aw Go.bG
variable [bq]
theorem Tp{id:Nat}{h:aa}{t:af}(b:Bl id h t)(c:UInt8)(hl:t.length+1≤2^41):
 bV p_ 37 [.op id 0,bg c] h fun _ h' => Bl id h' (t++[c])∧Fr id h h':=by
 obtain⟨x,h1,h2,h3,h4⟩:=b;refine (V37 _ _).bI ?_;unfold Xu;have hid:=iW h1;rcases h4 with⟨h4,rfl⟩|⟨tid,h4,h5⟩
 ·refine eB (by kernel_rfl) rfl (CJ h1 h2 h3 (by rw[h4];rfl) (by rw[h4];decide)) ?_;rintro _ _ ⟨rfl,rfl⟩;refine enil (zzA ?_);have e1:(h.set id (.ah { x with cells:=x.cells.set 0 (.op id 0) }))[id]?=some (.ah ⟨63,[.op id 0,.v (.slice none 0 0)],true⟩):=by
   rw[iD hid,h4];obtain⟨ty,cells,wr⟩:=x;simp only at h2 h3;subst h2;subst h3;rfl
  generalize hH:h.set id (.ah { x with cells:=x.cells.set 0 (.op id 0) })=H at e1;have fH:Fr id h H:=by rw[←hH];exact Fr.set _ _
  refine zzU e1 rfl (nZ (EO [c] rfl rfl (by simp) (enil (zzA ?_))));have hid2:=iW e1;refine dP (cs:=[.sb H.length 1 (eI [c])]) rfl (by rw[gO hid2];exact e1) rfl rfl (by simp) rfl rfl ?_;refine⟨_,_,Wk.refl _ _ _ (by have:=fH.1;simp;omega),⟨⟨63,[.op id 0,.sb H.length 1 (eI [c])],true⟩, ?_,rfl,rfl,.inr ⟨H.length,by simp, ?_⟩⟩, ?_⟩
  ·rw[iD (by simp;omega)];rfl
  ·rw[iF (by omega)];simp
  ·exact fH.trans ((Fr.app id H _).trans (Fr.set _ _))
 ·refine eB (by kernel_rfl) rfl (Ei h1 (by rw[h4];rfl)) ?_;rintro _ _ ⟨rfl,rfl⟩;refine enil (zzA (zzU (c:=.sb tid 1 (eI t)) h1 (by rw[h4];rfl) (nZ (ve [c] rfl rfl (by rw[h5];simp) (by simp;omega) (enil (zzA ?_))))));have hne:tid≠id:=fun q=>by subst q;rw[h1]at h5;cases h5
  have ht:=iW h5;refine dP (cs:=[.sb tid 1 (eI (t++[c]))]) rfl (by rw[iF hne];exact h1) h2 (by simp[bl]) (by rw[h4];simp) rfl rfl ?_;refine⟨_,_,Wk.refl _ _ _ (by simp),⟨⟨x.ty,[.op id 0,.sb tid 1 (eI (t++[c]))],x.wr⟩, ?_,h2,h3,.inr ⟨tid,rfl, ?_⟩⟩, ?_⟩
  ·rw[iD (by simp;omega),h4];rfl
  ·rw[iF (Ne.symm hne),iD ht];simp
  ·exact (Fr.tok h5 _).trans (Fr.set _ _)
theorem MY{id:Nat}{h:aa}{t:af}(b:Bl id h t):bV p_ 22 [.op id 0] h fun r h' => r=i_ t.length∧h'=h:=by
 obtain⟨x,h1,h2,h3,h4⟩:=b;refine (V22 _).bI ?_;unfold Xg;refine enil (zzA ?_);rcases h4 with⟨h4,rfl⟩|⟨tid,h4,h5⟩
 ·refine zzU (c:=.v (.slice none 0 0)) h1 (by rw[h4];rfl) ?_;exact⟨_,_,Wk.refl _ _ _ (bY _),rfl,rfl⟩
 ·refine zzU (c:=.sb tid 1 (eI t)) h1 (by rw[h4];rfl) ?_;rw[TN];intro _;exact⟨_,_,Wk.refl _ _ _ (bY _),by simp,rfl⟩
theorem MZ{id:Nat}{h:aa}{t:af}(b:Bl id h t)(h0:t≠[]):bV p_ 23 [.op id 0] h fun r h' => r=.str t∧h.length≤h'.length:=by
 obtain⟨x,h1,h2,h3,h4⟩:=b;rcases h4 with⟨h4,rfl⟩|⟨tid,h4,h5⟩
 ·exact absurd rfl h0
 ·refine (I7 (n:=t.length) (rows:=eI t) (l:=t) h1 (by rw[h4];rfl) h5 (by simp) rfl h0).mono ?_;rintro r h' ⟨rfl,rfl⟩;exact⟨rfl,by simp⟩
theorem Kt{id:Nat}{h:aa}{t:af}(b:Bl id h t)(k:Int)(s:af)(f:Bool)(ok:Bw k s f)(hz:gD s=true)(hs:s.length≤2^35)(hl:t.length+(jA k s).length≤2^41):
 bV p_ 38 [.op id 0,vV k s f] h fun r h' => r=.aA []∧Bl id h' (t++jA k s)∧Fr id h h':=by
 refine (V38 _ _).bI ?_;unfold Xv;refine bW (h':=h++[.ah ⟨70,[u8 k,.str s,i_ 0,.str [],b_ f],true⟩]) (n:=h.length) (cs:=[u8 k,.str s,i_ 0,.str [],b_ f]) rfl rfl rfl rfl (zzV (b:=⟨70,[u8 k,.str s,i_ 0,.str [],b_ f],true⟩) (by simp) (bY _) (uCon (P5 k s f ok hz hs) (zzB rfl (zzB rfl (enil (zzA (eB (by kernel_rfl) rfl (Ku (b.app _) (jA k s) hl) ?_)))))));rintro _ h' ⟨b',f'⟩;have f2:=(Fr.app id h _).trans f';exact⟨_,_,Wk.refl _ _ _ f2.1,rfl,b',f2⟩
end
section
open Go Go.Aw Go.bG
theorem Kj{m:Nat}{x i:AV}{rows:List (List AV)}{k:IntKind}{n:Nat}{r:List AV}{K:AV→Prop}(e:x=.sl m rows)(ei:i=.v (.int k n))(hr:rows[n]?=some r)(q:K (.ip r)):aQ m x i K:=by
 subst e;subst ei;have hn:=(eQ.1 hr).1;refine⟨rfl,⟨by omega,by omega⟩, ?_⟩;rw[Mk,nE,hr];exact q
theorem IU{k:Int}(n:af)(o:Int)(v:af)(f:Bool){a b:Int}(w:Bool)(l:List Cx)(hk:9≤k)(hf:kf k a b w=false)(hn:eK k=true)(ha:oQ a=true∧oQ b=true):
 jI (.mk k n o v f a b w l)=w5.getD (k-4).toNat []++(mS a b++if w then [32,111,102,32] else [])++fc l++[41]:=by
 rw[jI,if_neg (by omega),if_neg (by omega),if_neg (by omega),hf,if_neg (by decide),if_neg (by omega),tL,hn,ha.1,ha.2];rfl
theorem Ry{k:Int}(n:af)(o:Int)(v:af)(f:Bool)(a b:Int)(w:Bool)(l:List Cx)(hk:11≤k):jI (.mk k n o v f a b w l)=w5.getD (k-4).toNat []++fc l++[41]:=by
 have hn:eK k=false:=by unfold eK;rw[nO (by omega),nO (by omega)];rfl
 rw[jI,if_neg (by omega),if_neg (by omega),if_neg (by omega),kf,hn,Bool.false_and,Bool.false_and,Bool.false_and,if_neg (by decide),if_neg (by omega),tL,hn];simp[fc]
theorem OM{k:Int}(n:af)(o:Int)(v:af)(f:Bool)(a b:Int)(w:Bool)(l:List Cx)(hk:4≤k)(h8:k≤8):jI (.mk k n o v f a b w l)=w5.getD (k-4).toNat []:=by
 have hn:eK k=false:=by unfold eK;rw[nO (by omega),nO (by omega)];rfl
 rw[jI,if_neg (by omega),if_neg (by omega),if_neg (by omega),kf,hn,Bool.false_and,Bool.false_and,Bool.false_and,if_neg (by decide),if_pos h8]
theorem OO{k:Int}(n:af)(o:Int)(v:af)(f:Bool){a b:Int}{w:Bool}(l:List Cx)(hk:9≤k)(hf:kf k a b w=true):jI (.mk k n o v f a b w l)=CZ.getD (k-9).toNat []:=by
 rw[jI,if_neg (by omega),if_neg (by omega),if_neg (by omega),if_pos hf]
variable [bq]
end
section
open Go Go.Aw Go.bG
theorem Ax{α:Type}{m:Nat}{x i:AV}{l:List α}{rows:List (List AV)}{f:α→List AV}{k:IntKind}{j:Int}{n:Nat}{a:α}{K:AV→Prop}(e:x=.sl m rows)(hr:rows=l.map f)(ei:i=.v (.int k j))(hj:j=n)(ha:l[n]?=some a)(q:K (.ip (f a))):aQ m x i K:=by
 subst hj;subst hr;exact Kj e ei (by rw[iN,ha];rfl) q
theorem rD{α:Type}{p:α→Bool}{l:List α}{i:Nat}{x:α}(h:l.all p=true)(hx:l[i]?=some x):p x=true:=
 At.1 h x (gE hx)
variable [bq]
def qV(l:List Cx):AV:=if fD l=0 then (if (fc l).length≤4000 then .aA [.str (fc l),i_ 0] else .aA [.str [],i_ 28]) else .aA [.str [],i_ (fD l)]
omit [bq] in
theorem zu{l:List Cx}(h:fD l=0):dD 0 false false l=true:=by
 unfold fD at h;split at h
 ·rename_i e;simp only[NO]at e;exact e.2
 ·exact absurd h (by decide)
omit [bq] in
theorem J1(l:List Cx):Aw.Pure (qV l):=by unfold qV;(repeat' split)<;>simp
end
section
open Go Go.Aw Go.bG
def xc:List af:=[[108,105,110,107],[118,105,115,105,116,101,100],[97,110,121,45,108,105,110,107],[114,111,111,116],[101,109,112,116,121],[110,116,104,45,99,104,105,108,100],[110,116,104,45,108,97,115,116,45,99,104,105,108,100],[105,115],[119,104,101,114,101],[110,111,116],[104,97,115]]
theorem Ur(j:Nat)(h:j≤10):(xc.map fun s=>[AV.str s])[j]?=some [.str (xc.getD j [])]:=by
 match j,h with
 | 0,_|1,_|2,_|3,_|4,_|5,_|6,_|7,_|8,_|9,_|10,_=>rfl
theorem QN(j:Nat)(h:j≤4):w5.getD j []=[58]++xc.getD j []:=by
 match j,h with
 | 0,_|1,_|2,_|3,_|4,_=>rfl
theorem E8(j:Nat)(h5:5≤j)(h:j≤10):w5.getD j []=[58]++xc.getD j []++[40]:=by
 match j,h5,h with
 | 5,_,_|6,_,_|7,_,_|8,_,_|9,_,_|10,_,_=>rfl
theorem ZJ(o:Nat)(h:o≤6):([.str [],.str [61],.str [126,61],.str [124,61],.str [94,61],.str [36,61],.str [42,61]]:List AV)[o]?=some (.str (Bj.getD o [])):=by
 match o,h with
 | 0,_|1,_|2,_|3,_|4,_|5,_|6,_=>rfl
theorem ZI(o:Nat)(h:o≤1):([.str [58,102,105,114,115,116,45,99,104,105,108,100],.str [58,108,97,115,116,45,99,104,105,108,100]]:List AV)[o]?=some (.str (CZ.getD o [])):=by
 match o,h with
 | 0,_|1,_=>rfl
theorem PE(k c:Int)(h:c≤k)(h2:k≤14)(h0:0≤c):IntKind.wrap .u8 (k-c)=(((k-c).toNat:Nat):Int):=by
 rw[IntKind.wrap_u8];omega
theorem fU{P:Program}{x:AV}{id o:Nat}{K:AV→Prop}(e:x=.op id o)(q:K (.op id o)):ca P x K:=by subst e;exact q
theorem Q3(n:Nat):(xc.getD n []).length≤14:=by
 match n with
 | 0|1|2|3|4|5|6|7|8|9|10=>decide
 | n+11=>simp[xc]
theorem Ki{len:Nat}{x i:AV}{cs:List AV}{k:IntKind}{n:Nat}{c:AV}{K:AV→Prop}(ex:x=.agg cs)(ei:i=.v (.int k n))(hn:n<len)(hc:cs[n]?=some c)(q:K c):mI false 1 len x i K:=by
 subst ex;subst ei;refine⟨⟨by omega,by omega⟩, ?_⟩;have e:cs.drop (((n:Nat):Int).toNat*1)=c:: cs.drop (n+1):=by
  rw[Mk,Nat.mul_one];obtain⟨h1,h2⟩:=eQ.1 hc;rw[aba h1,h2]
 rw[e];exact q
variable [bq]
theorem Nq:bn p_ 53 [] (.sl 1 (xc.map fun s=>[.str s])):=by
 refine (WV).bj (by simp) (by simp[xc]) ?_;unfold S9;unfold br;simp[dQ,gQ,bl,bZ,bQ,chunks];exact .pure (by simp) rfl
theorem tJ{id:Nat}{h0 H:aa}{u:af}(b:Bl id H u)(f:Fr id h0 H)(s:af)(hl:u.length+s.length≤2^41){args:List AV}(e:args=[.op id 0,.str s]){K:AV→aa→Prop}(k:∀r H',Bl id H' (u++s)→Fr id h0 H'→K r H'):bz p_ (.fn (.func 36) [] []) args H K:=
 eB (by kernel_rfl) e (Ku b s hl) fun r H' ⟨b',f'⟩=>k r H' b' (f.trans f')
theorem rT{id:Nat}{h0 H:aa}{u:af}(b:Bl id H u)(f:Fr id h0 H)(c:UInt8)(hl:u.length+1≤2^41){args:List AV}(e:args=[.op id 0,bg c]){K:AV→aa→Prop}(k:∀r H',Bl id H' (u++[c])→Fr id h0 H'→K r H'):bz p_ (.fn (.func 37) [] []) args H K:=
 eB (by kernel_rfl) e (Tp b c hl) fun r H' ⟨b',f'⟩=>k r H' b' (f.trans f')
theorem Ba{id:Nat}{h0 H:aa}{u:af}(b:Bl id H u)(f:Fr id h0 H)(k:Int)(s:af)(fl:Bool)(ok:Bw k s fl)(hz:gD s=true)(hs:s.length≤2^35)(hl:u.length+(jA k s).length≤2^41){args:List AV}(e:args=[.op id 0,vV k s fl]){K:AV→aa→Prop}(q:∀r H',Bl id H' (u++jA k s)→Fr id h0 H'→K r H'):bz p_ (.fn (.func 38) [] []) args H K:=
 eB (by kernel_rfl) e (Kt b k s fl ok hz hs hl) fun r H' ⟨_,b',f'⟩=>q r H' b' (f.trans f')
def Td(n:Nat):Prop:=∀l,cD l≤n→ju l=true→∀d has rel,dD d has rel l=true→∀id h t,Bl id h t→t.length+100*cD l≤2^40 →
 bV p_ 21 [.op id 0,.sl 3 (bC l)] h fun r h' => r=.aA []∧Bl id h' (t++fc l)∧Fr id h h'
def O6(n:Nat):Prop:=∀s,zS s≤n→gS s=true→∀d has,jz d has s=true→∀id h t,Bl id h t→t.length+100*zS s≤2^40 →
 bV p_ 39 [.op id 0,.agg (ft s)] h fun r h' => r=.aA []∧Bl id h' (t++jI s)∧Fr id h h'
omit [bq] in
theorem tj{s:af}(h:named s=true):s≠[]∧gD s=true:=by
 unfold named at h;simp only[NO,aa8,decide_eq_false_iff_not]at h;exact⟨h.1.1,h.2⟩
theorem OY{n:Nat}(hn:n≤2^28)(hL:Td n):O6 (n+1):=by
 intro s hz hg d has ok id h t b hb;have hlen:=IT s;obtain⟨k,na,o,v,f,a,bb,w,l⟩:=s;rw[zS]at hz hb hlen;rw[gS,NO,Of]at hg;rw[jz,NO]at ok;obtain⟨ok,okl⟩:=ok;have hid:id<h.length:=by obtain⟨x,h1,_⟩:=b;exact iW h1
 have h3:=uu na;refine (V39 _ _).bI ?_;unfold Xw ft;refine bW (h':=h++[.ah ⟨46,[u1 k,.str na,u1 o,.str v,b_ f,i_ a,i_ bb,b_ w,.sl 3 (bC l)],true⟩]) (n:=h.length) (cs:=[u1 k,.str na,u1 o,.str v,b_ f,i_ a,i_ bb,b_ w,.sl 3 (bC l)]) rfl rfl rfl rfl (zzA (zzU (b:=⟨46,[u1 k,.str na,u1 o,.str v,b_ f,i_ a,i_ bb,b_ w,.sl 3 (bC l)],true⟩) (by simp) rfl (bf rfl (bW (h':=h++[.ah ⟨46,[u1 k,.str na,u1 o,.str v,b_ f,i_ a,i_ bb,b_ w,.sl 3 (bC l)],true⟩,.ah ⟨70,[u8 0,.str [],i_ 0,.str [],ff],true⟩]) (n:=h.length+1) (cs:=[u8 0,.str [],i_ 0,.str [],ff]) rfl rfl (by simp) (by simp) ?_))));refine aX (b:=⟨70,[u8 0,.str [],i_ 0,.str [],ff],true⟩) (cs:=[u8 1,.str na,i_ 0,.str [],ff]) (h':=h++[.ah ⟨46,[u1 k,.str na,u1 o,.str v,b_ f,i_ a,i_ bb,b_ w,.sl 3 (bC l)],true⟩,.ah ⟨70,[u8 1,.str na,i_ 0,.str [],ff],true⟩]) rfl (by rw[gT (by omega)];simp) rfl rfl (by simp) rfl rfl (by rw[IF _ _ (by omega)];simp[bZ]) ?_;have hX:(h++[aL.ah ⟨46,[u1 k,.str na,u1 o,.str v,b_ f,i_ a,i_ bb,b_ w,.sl 3 (bC l)],true⟩,aL.ah ⟨70,[u8 1,.str na,i_ 0,.str [],ff],true⟩])[h.length]?=some (.ah ⟨46,[u1 k,.str na,u1 o,.str v,b_ f,i_ a,i_ bb,b_ w,.sl 3 (bC l)],true⟩):=by simp
 have hN:(h++[aL.ah ⟨46,[u1 k,.str na,u1 o,.str v,b_ f,i_ a,i_ bb,b_ w,.sl 3 (bC l)],true⟩,aL.ah ⟨70,[u8 1,.str na,i_ 0,.str [],ff],true⟩])[h.length+1]?=some (.ah ⟨70,[u8 1,.str na,i_ 0,.str [],ff],true⟩):=by
  rw[gT (by omega)];simp
 have b2:=b.app [aL.ah ⟨46,[u1 k,.str na,u1 o,.str v,b_ f,i_ a,i_ bb,b_ w,.sl 3 (bC l)],true⟩,aL.ah ⟨70,[u8 1,.str na,i_ 0,.str [],ff],true⟩];have f2:=Fr.app id h [aL.ah ⟨46,[u1 k,.str na,u1 o,.str v,b_ f,i_ a,i_ bb,b_ w,.sl 3 (bC l)],true⟩,aL.ah ⟨70,[u8 1,.str na,i_ 0,.str [],ff],true⟩];generalize h++[aL.ah ⟨46,[u1 k,.str na,u1 o,.str v,b_ f,i_ a,i_ bb,b_ w,.sl 3 (bC l)],true⟩,aL.ah ⟨70,[u8 1,.str na,i_ 0,.str [],ff],true⟩]=h2 at hX hN b2 f2 ⊢;have g2:=Fr.refl id h2;refine zzA (zzU hX rfl (zzG ?_));have done:∀{H:aa} {u:af},u=t++jI (.mk k na o v f a bb w l)→Bl id H u→Fr id h2 H→∃r' h'',Wk h.length [.aA []] H [r'] h''∧r'=.aA []∧Bl id h'' (t++jI (.mk k na o v f a bb w l))∧Fr id h h'':=by
  intro H u e bH fH;subst e;have:=f2.trans fH;exact⟨_,_,Wk.refl _ _ _ this.1,rfl,bH,this⟩
 by_cases h1:k=1
 ·subst h1;rw[jo,if_pos (.inl rfl)]at ok;simp only[NO]at ok;have hnm:=tj ok.1.1.1.1.1.1;refine zzL rfl (zzA (zzU hX rfl (bf rfl ?_)));refine Ba b2 g2 4 na true (.inr (.inl ⟨rfl,rfl,hnm.1⟩)) hnm.2 (by omega) (by simp[jA];omega) rfl fun _ H b3 f3=>?_;exact done (by rw[jI,if_pos rfl];rfl) b3 f3
 refine zzK (nO h1) (zzG ?_)
 by_cases h4:k=2
 ·subst h4;rw[jo,if_pos (.inr rfl)]at ok;simp only[NO]at ok;have hnm:=tj ok.1.1.1.1.1.1;refine zzL rfl (fU rfl (zzA ?_));refine rT b2 g2 46 (by omega) rfl fun _ H b3 f3=>?_;refine zzV (f3.ah hN (by omega)) (lT rfl) ?_;refine Ba b3 f3 1 na false (.inl ⟨rfl,rfl,hnm.1⟩) hnm.2 (by omega) (by simp[jA];omega) rfl fun _ H b4 f4=>?_;exact done (by rw[jI,if_neg (by decide),if_pos rfl];simp[jA]) b4 f4
 refine zzK (nO h4) (zzG ?_);rw[jo,if_neg (by omega)]at ok
 by_cases h5:k=3
 ·subst h5;rw[if_pos rfl]at ok;simp only[NO,Of,small]at ok;have hnm:=tj ok.1.1.1.1.1.1.1.1;have hv:=Io v;have hov:=Ih o.toNat;have hzv:=ok.1.1.1.1.1.2;obtain⟨o',rfl⟩:=Int.eq_ofNat_of_zero_le hg.1;have ho6:o'≤6:=by have:=ok.1.1.1.1.1.1.2;omega
  rw[Mk]at hov;have e1:jA 1 na=eW na:=by simp[jA]
  have e5:jA 5 v=ux v:=by simp[jA]
  refine zzL rfl (fU rfl (zzA ?_));refine rT b2 g2 91 (by omega) rfl fun _ H b3 f3=>?_;refine zzV (f3.ah hN (by omega)) (lT rfl) ?_;refine Ba b3 f3 1 na false (.inl ⟨rfl,rfl,hnm.1⟩) hnm.2 (by omega) (by rw[e1];simp only[AT,aaB,abd];omega) rfl fun _ H b4 f4=>?_;rw[e1]at b4;refine aH (zzA (zzU (f4.ah hX (by omega)) rfl (zzH ?_)));refine ct rfl (fun eo=>?_) fun eo=>?_
  ·have eo:¬((o':Nat):Int)=0:=by simpa using eo
   refine fU rfl (zzA (bf rfl (zzA (zzU (f4.ah hX (by omega)) rfl (Ki rfl rfl (by omega) (ZJ o' ho6) ?_)))));refine tJ b4 f4 (Bj.getD o' []) (by simp only[AT,aaB,abd];omega) rfl fun _ H b5 f5=>?_;refine zzA (zzU (f5.ah hX (by omega)) rfl (bf rfl ?_));refine Ba b5 f5 5 v false (.inr (.inr ⟨rfl,rfl⟩)) hzv (by omega) (by rw[e5];simp only[AT,aaB,abd];omega) rfl fun _ H b6 f6=>?_;rw[e5]at b6;refine aq (aH (zzA (zzU (f6.ah hX (by omega)) rfl ?_)));refine ct rfl (fun ef=>?_) fun ef=>?_
   ·refine fU rfl (zzA ?_);refine tJ b6 f6 [32,105] (by simp only[AT,aaB,abd]at *;omega) rfl fun _ H b8 f8=>?_;refine aq (fU rfl (zzA ?_));refine rT b8 f8 93 (by simp only[AT,aaB,abd]at *;omega) rfl fun _ H b9 f9=>?_;exact done (by rw[jI,if_neg (by decide),if_neg (by decide),if_pos rfl,sJ,ef,if_neg eo,Mk];simp[jA]) b9 f9
   ·refine aq (fU rfl (zzA ?_));refine rT b6 f6 93 (by simp only[AT,aaB,abd]at *;omega) rfl fun _ H b9 f9=>?_;exact done (by rw[jI,if_neg (by decide),if_neg (by decide),if_pos rfl,sJ,ef,if_neg eo,Mk];simp[jA]) b9 f9
  ·have eo:((o':Nat):Int)=0:=by simpa using eo
   refine aq (aH (zzA (zzU (f4.ah hX (by omega)) rfl ?_)));refine ct rfl (fun ef=>?_) fun ef=>?_
   ·refine fU rfl (zzA ?_);refine tJ b4 f4 [32,105] (by simp only[AT,aaB,abd]at *;omega) rfl fun _ H b8 f8=>?_;refine aq (fU rfl (zzA ?_));refine rT b8 f8 93 (by simp only[AT,aaB,abd]at *;omega) rfl fun _ H b9 f9=>?_;exact done (by rw[jI,if_neg (by decide),if_neg (by decide),if_pos rfl,sJ,ef,if_pos eo];simp[jA]) b9 f9
   ·refine aq (fU rfl (zzA ?_));refine rT b4 f4 93 (by simp only[AT,aaB,abd]at *;omega) rfl fun _ H b9 f9=>?_;exact done (by rw[jI,if_neg (by decide),if_neg (by decide),if_pos rfl,sJ,ef,if_pos eo];simp[jA]) b9 f9
 refine zzK (nO h5) ?_;rw[if_neg h5]at ok;simp only[NO,Of]at ok;obtain⟨⟨⟨⟨⟨rfl,rfl⟩,rfl⟩,hf⟩,hk⟩,ha⟩:=ok;simp only[abd]at hz hb hlen;have hwl:=RM l;have hlist:∀{H:aa} {u:af},Bl id H u→u.length+100*cD l≤2^40→bV p_ 21 [.op id 0,.sl 3 (bC l)] H fun r h' => r=.aA []∧Bl id h' (u++fc l)∧Fr id H h':=by
  intro H u bH hH
  by_cases e:gw k w=true
  ·rw[if_pos e]at okl;simp only[NO]at okl;exact hL l (by omega) hg.2 _ _ _ okl.2 _ _ _ bH hH
  ·rw[if_neg e]at okl;obtain rfl:l=[]:=List.isEmpty_iff.1 okl;exact hL [] (by simp[cD]) (by simp[ju]) 0 false false (by simp[dD]) _ _ _ bH hH
 have nth:eK k=true↔k=9∨k=10:=by unfold eK;simp
 refine zzA (zzU hX rfl (zzO (aH ?_)))
 by_cases hfr:kf k a bb w=true
 ·have hfr0:=hfr;simp only[kf,NO,aa8,Of]at hfr;obtain⟨⟨⟨hn9,rfl⟩,rfl⟩,rfl⟩:=hfr;have h910:=nth.1 hn9;have hfc:=Hv (k-9).toNat;refine zzN rfl (zzA (zzV hX (lT rfl) (bf rfl (xx rfl rfl rfl (aq (zzR (aH (zzN rfl (zzA (zzU hX rfl (zzD (aq (zzR ?_)))))))))))));refine zzL (oF (by omega)) (fU rfl (zzA (bf rfl (zzA (zzU hX rfl (Eh (by decide) rfl rfl (PE k 9 (by omega) (by omega) (by omega)) (Ki rfl rfl (by omega) (ZI (k-9).toNat (by omega)) ?_)))))));refine tJ b2 g2 (CZ.getD (k-9).toNat []) (by omega) rfl fun _ H b3 f3=>?_;exact done (by rw[OO _ _ _ _ _ (by omega) hfr0]) b3 f3
 have hj:(k-4).toNat≤10:=by omega
 have hnl:=Q3 (k-4).toNat;cases w
 case' true =>
  refine zzM rfl (aq (zzQ (aH (zzM rfl (aq (zzQ (zzK rfl ?_)))))))
 case' false =>
  have he:(decide (a=0)&&(decide (bb=1)&&true))=false:=by
   by_cases hn9:eK k=true
   ·simp only[kf,hn9,Bool.not_false,Bool.true_and,Bool.and_true]at hfr;simpa using hfr
   ·rw[if_neg hn9]at ha;simp only[NO,Of]at ha;simp;omega
  refine zzN rfl (zzA (zzV hX (lT rfl) (bf rfl (xx rfl rfl rfl (aq (zzR (aH (zzM he (aq (zzQ (zzK rfl ?_)))))))))))
 all_goals
  refine fU rfl (zzA (zzT (by kernel_rfl) Nq (zzA (zzU hX rfl (Eh (by decide) rfl rfl (PE k 4 (by omega) (by omega) (by omega)) (Kj rfl rfl (Ur _ hj) (zzW (zza rfl (by rw[AT];unfold maxLen;simp only[aaB,abd];omega) ?_))))))));refine tJ b2 g2 _ (by simp only[AT,aaB,abd]at *;omega) rfl fun _ H b3 f3=>?_;refine zzA (zzU (f3.ah hX (by omega)) rfl (zzD ?_));refine ct rfl (fun e8=>?_) fun e8=>?_
  ·have e8:=oN e8;exact done (by rw[OM _ _ _ _ _ _ _ _ (by omega) e8,QN _ (by omega)]) b3 f3
  have e8:=tO e8;refine fU rfl (zzA ?_);refine rT b3 f3 40 (by simp only[AT,aaB,abd]at *;omega) rfl fun _ H b4 f4=>?_;refine aH (zzA (zzU (f4.ah hX (by omega)) rfl (zzD ?_)));refine ct rfl (fun e10=>?_) fun e10=>?_
  ·have e10:=oN e10;have hn9:eK k=true:=nth.2 (by omega);have hab:oQ a=true∧oQ bb=true:=by
    rw[if_pos hn9,NO]at ha;rw[Bi,Bi];exact ha
   have hal:=Ej a bb hab.1 hab.2;have hfr:kf k a bb _=false:=Bool.eq_false_iff.2 hfr;refine zzA (zzV (f4.ah hX (by omega)) (lT rfl) (uCon (Nw a bb hab.1 hab.2) (zzB rfl (zzB rfl (fU rfl (zzA ?_))))));refine tJ b4 f4 (mS a bb) (by simp only[AT,aaB,abd]at *;omega) rfl fun _ H b5 f5=>?_;refine zzA (zzU (f5.ah hX (by omega)) rfl ?_);first
    | refine zzK rfl ?_
      refine aq (zzA (zzU (f5.ah hX (by omega)) rfl (eB (by kernel_rfl) rfl (hlist b5 (by simp only[AT,aaB,abd]at *;omega)) ?_)));rintro _ H ⟨rfl,b8,f8⟩;have f8:=f5.trans f8;refine fU rfl (zzA ?_);refine rT b8 f8 41 (by have:=hwl;simp only[AT,aaB,abd]at *;omega) rfl fun _ H b9 f9=>?_;exact done (by rw[IU _ _ _ _ _ _ (by omega) hfr hn9 hab,E8 _ (by omega) (by omega)];simp) b9 f9
    | refine zzL rfl ?_
      refine fU rfl (zzA ?_);refine tJ b5 f5 [32,111,102,32] (by simp only[AT,aaB,abd]at *;omega) rfl fun _ H b6 f6=>?_;refine aq (zzA (zzU (f6.ah hX (by omega)) rfl (eB (by kernel_rfl) rfl (hlist b6 (by simp only[AT,aaB,abd]at *;omega)) ?_)));rintro _ H ⟨rfl,b8,f8⟩;have f8:=f6.trans f8;refine fU rfl (zzA ?_);refine rT b8 f8 41 (by have:=hwl;simp only[AT,aaB,abd]at *;omega) rfl fun _ H b9 f9=>?_;exact done (by rw[IU _ _ _ _ _ _ (by omega) hfr hn9 hab,E8 _ (by omega) (by omega)];simp) b9 f9
  ·have e10:=tO e10;refine aq (zzA (zzU (f4.ah hX (by omega)) rfl (eB (by kernel_rfl) rfl (hlist b4 (by simp only[AT,aaB,abd]at *;omega)) ?_)));rintro _ H ⟨rfl,b8,f8⟩;have f8:=f4.trans f8;refine fU rfl (zzA ?_);refine rT b8 f8 41 (by have:=hwl;simp only[AT,aaB,abd]at *;omega) rfl fun _ H b9 f9=>?_;exact done (by rw[Ry _ _ _ _ _ _ _ _ (by omega),E8 _ (by omega) (by omega)];simp) b9 f9
end
section
open Go Go.Aw Go.bG
theorem yq{k:(List AV→aa→Prop)→Prop}{f:List AV→aa→Prop}(s:List AV)(R:aa→Prop)(hk:∀F:List AV→aa→Prop,(∀H,R H→F s H)→k F)(q:∀H,R H→f s H):aw k f:=hk f q
theorem D3{H:aa}{ty sz:Nat}{z v:AV}{zs cs:List AV}{K:AV→aa→Prop}(hz:bl z=zs)(hzs:zs.all bQ=true)(hv:bl v=cs)(hl:zs.length=sz)(hc:cs.length=sz)(hs:cs.all bQ=true)(q:K (.op H.length 0) (H++[.ah ⟨ty,cs,true⟩])):
 aW ty z H fun v1 g=>ao sz v1 v g fun g2=>K v1 g2:=by
 refine bW (h':=H++[.ah ⟨ty,zs,true⟩]) (n:=H.length) (cs:=zs) hz hzs rfl rfl ?_;refine aX (b:=⟨ty,zs,true⟩) (cs:=cs) (h':=H++[.ah ⟨ty,cs,true⟩]) rfl (by simp) rfl hv (show 0+cs.length≤zs.length by omega) hc hs ?_ q;have e:bZ zs 0 cs=cs:=kQ (by omega);rw[IF _ _ (bY _),Nat.sub_self];simp only[e];rfl
theorem Yo(o:Nat)(h:o≤4):([.str [],.str [32],.str [32,62,32],.str [32,43,32],.str [32,126,32]]:List AV)[0+o*1]?=some (.str (qE.getD o [])):=by
 match o,h with
 | 0,_|1,_|2,_|3,_|4,_=>rfl
theorem G0{len sz id o:Nat}{x i:AV}{K:AV→Prop}{k:IntKind}{n:Nat}(ex:x=.op id o)(ei:i=.v (.int k n))(hn:n<len)(q:K (.op id (o+n*sz))):eR len sz x i K:=by
 subst ex;subst ei;exact⟨⟨by omega,by omega⟩,by rw[Mk];exact q⟩
theorem zXt{l:List Cx}{i:Nat}{x:Cx}(h:l[i]?=some x):cD (l.take i)+zX x≤cD l:=by
 induction l generalizing i with
 | nil=>simp at h
 | cons a l ih =>
   rw[cD];cases i with
   | zero=>simp at h;subst h;simp[cD]
   | succ i=>have:=ih (i:=i) (by simpa using h);rw[List.take_succ_cons,cD];omega
theorem WE(l:List Cx)(i:Nat):lY ((de l).take i)≤100*cD (l.take i):=by
 have:=sq (l.take i)
 rwa [su,←List.map_take,←su]
theorem zPt{l:List Cp}{i:Nat}{x:Cp}(h:l[i]?=some x):gh (l.take i)+zP x≤gh l:=by
 induction l generalizing i with
 | nil=>simp at h
 | cons a l ih =>
   rw[gh];cases i with
   | zero=>simp at h;subst h;simp[gh]
   | succ i=>have:=ih (i:=i) (by simpa using h);rw[List.take_succ_cons,gh];omega
theorem WC(l:List Cp)(i:Nat):lY ((dE l).take i)≤100*gh (l.take i):=by
 have:=vZ (l.take i)
 rwa [py,←List.map_take,←py]
theorem Z9{l:List Sm}{i:Nat}{x:Sm}(h:l[i]?=some x):gH (l.take i)+zS x≤gH l:=by
 induction l generalizing i with
 | nil=>simp at h
 | cons a l ih =>
   rw[gH];cases i with
   | zero=>simp at h;subst h;simp[gH]
   | succ i=>have:=ih (i:=i) (by simpa using h);rw[List.take_succ_cons,gH];omega
theorem WD(l:List Sm)(i:Nat):lY ((fC l).take i)≤100*gH (l.take i):=by
 have:=wa (l.take i)
 rwa [so,←List.map_take,←so]
theorem OJ:eW []=[]:=rfl
variable [bq]
theorem MA{n:Nat}(hn:n≤2^28)(hS:O6 n):Td n:=by
 intro l hz hg d has rel ok id h t b hb;rw[xL]at hg;rw[km]at ok;have hxs:=sq l;have hlen:(de l).length=l.length:=by rw[su,aaC]
 have hid:id<h.length:=by obtain⟨x,h1,_⟩:=b;exact iW h1
 refine (V21 _ _).bI ?_;unfold Xf;refine zzf (n:=l.length) (by simp[ck]) fun hml=>?_;refine bc (α:=Nat×aa) (fun p=>p.1≤l.length∧Bl id p.2 (t++fj fS (de l) p.1)∧Fr id h p.2) (fun p=>[i_ p.1]) (fun p=>p.2) (fun p=>l.length-p.1) (0,h) ⟨by simp,by simpa[fj]using b,Fr.refl _ _⟩ (Wk.refl _ _ _ (bY _)) ?_;rintro⟨i,H⟩ ⟨hi,bH,fH⟩;simp only at hi bH fH;have hji:(fj fS (de l) i).length≤100*cD (l.take i):=aaT (ta vH (de l) i (by omega)) (WE l i)
 by_cases q:i<l.length
 ·obtain⟨x,hx⟩:∃x,l[i]?=some x:=⟨l[i],dO q⟩;obtain⟨ld,ps,cs⟩:=x;have okx:=rD ok hx;have gx:=rD hg hx;have zx:=zXt hx;rw[eL]at okx;rw[gX,xJ]at gx;rw[zX]at zx;simp only[NO,Of]at okx;obtain⟨⟨⟨⟨⟨_,okl⟩,okc⟩,okp⟩,okcs⟩,okps⟩:=okx;rw[mf]at okps;have hps:=vZ ps;have hpl:(dE ps).length=ps.length:=by rw[py,aaC]
  have hs3:=vH i;have hin:aJ ((i:Int)+1):=by unfold aJ maxLen at *;omega
  have hidH:id<H.length:=Up hid fH.1;refine zzC (zzL (oF (by omega)) (Ax rfl (ck l) rfl rfl hx (zzY rfl (D3 (zs:=[u8 0,.v (.slice none 0 0),.v (.slice none 0 0)]) (cs:=[u1 ld,.sl 2 (du ps),.sl 1 (cs.map fun c=>[u1 c])]) rfl rfl rfl rfl rfl rfl ?_))));have hV8:(H++[aL.ah ⟨39,[u1 ld,.sl 2 (du ps),.sl 1 (cs.map fun c=>[u1 c])],true⟩])[H.length]?=some (.ah ⟨39,[u1 ld,.sl 2 (du ps),.sl 1 (cs.map fun c=>[u1 c])],true⟩):=by simp
  have b1:=bH.app [aL.ah ⟨39,[u1 ld,.sl 2 (du ps),.sl 1 (cs.map fun c=>[u1 c])],true⟩];have f1:=fH.trans (Fr.app id H [aL.ah ⟨39,[u1 ld,.sl 2 (du ps),.sl 1 (cs.map fun c=>[u1 c])],true⟩]);generalize H++[aL.ah ⟨39,[u1 ld,.sl 2 (du ps),.sl 1 (cs.map fun c=>[u1 c])],true⟩]=H1 at hV8 b1 f1 ⊢;refine yq [] (fun H' => Bl id H' (t++fj fS (de l) i++fS i)∧Fr id H1 H') (fun F hF=>?_) ?_
  ·refine zzE ?_;refine ct rfl (fun e=>?_) fun e=>?_
   ·have e:i≠0:=by have:=oN e;omega
    refine fU rfl (zzA ?_);refine tJ b1 (Fr.refl _ _) [44,32] (by simp only[AT,aaB,abd];omega) rfl fun _ H' b' f' => ?_;refine aq ?_;refine hF H' ⟨?_,f'⟩;rw[fS,if_neg e];exact b'
   ·have e:i=0:=by have:=tO e;omega
    refine aq ?_;refine hF H1 ⟨?_,Fr.refl _ _⟩;rw[fS,if_pos e,aaL];exact b1
  rintro H2 ⟨b2,f2⟩;have hV8:=f2.ah hV8 (by omega);have f2:=f1.trans f2;refine bf rfl (D3 (zs:=[.str [],.str [],.str [],.str [],.str []]) (cs:=[.str [],.str [32],.str [32,62,32],.str [32,43,32],.str [32,126,32]]) rfl rfl rfl rfl rfl rfl ?_);have hidH2:id<H2.length:=Up hid f2.1;have hV20:(H2++[aL.ah ⟨89,[.str [],.str [32],.str [32,62,32],.str [32,43,32],.str [32,126,32]],true⟩])[H2.length]?=some (.ah ⟨89,[.str [],.str [32],.str [32,62,32],.str [32,43,32],.str [32,126,32]],true⟩):=by simp
  have b3:=b2.app [aL.ah ⟨89,[.str [],.str [32],.str [32,62,32],.str [32,43,32],.str [32,126,32]],true⟩];have f3:=f2.trans (Fr.app id H2 [aL.ah ⟨89,[.str [],.str [32],.str [32,62,32],.str [32,43,32],.str [32,126,32]],true⟩]);have hV8:=(Fr.app id H2 [aL.ah ⟨89,[.str [],.str [32],.str [32,62,32],.str [32,43,32],.str [32,126,32]],true⟩]).ah hV8 (by omega);generalize H2++[aL.ah ⟨89,[.str [],.str [32],.str [32,62,32],.str [32,43,32],.str [32,126,32]],true⟩]=H3 at hV8 hV20 b3 f3 ⊢;have hld:=B8 ld.toNat;refine yq [] (fun H' => Bl id H' (t++fj fS (de l) i++fS i++(if 1<ld then (qE.getD ld.toNat []).drop 1 else []))∧Fr id H3 H') (fun F hF=>?_) ?_
  ·refine zzA (zzU hV8 rfl (zzE ?_));refine ct rfl (fun e=>?_) fun e=>?_
   ·have e:1<ld:=by simpa using e
    obtain⟨c,rfl⟩:=Int.eq_ofNat_of_zero_le (show 0≤ld by omega);refine fU rfl (zzA (zzA (zzU hV8 rfl (G0 (n:=c) rfl rfl (by omega) (zzU hV20 (Yo c (by omega)) ?_)))));have hmk:1≤(qE.getD c []).length:=by
     match c,e,okl with
     | 2,_,_|3,_,_|4,_,_=>decide
     | 0,h,_|1,h,_=>exact absurd h (by decide)
     | c+5,_,h=>exact absurd h (by omega)
    refine nw (a:=1) (b:=(qE.getD c []).length) rfl rfl rfl hmk (bY _) (by rw[BY]) ?_;refine tJ b3 (Fr.refl _ _) _ (by simp only[AT,List.length_drop,Mk]at *;omega) rfl fun _ H' b' f' => ?_;refine aq ?_;refine hF H' ⟨?_,f'⟩;rw[if_pos e];exact b'
   ·have e:¬1<ld:=by simpa using e
    refine aq ?_;refine hF H3 ⟨?_,Fr.refl _ _⟩;rw[if_neg e,aaL];exact b3
  rintro H4 ⟨b4,f34⟩;have hA:(t++fj fS (de l) i++fS i++(if 1<ld then (qE.getD ld.toNat []).drop 1 else [])).length≤t.length+100*cD (l.take i)+6:=by
   rw[AT,AT,AT];split
   ·rw[List.length_drop];omega
   ·simp only[abd];omega
  have hfin:t++fj fS (de l) (i+1)=(t++fj fS (de l) i++fS i++(if 1<ld then (qE.getD ld.toNat []).drop 1 else []))++gR (ga cs) (dE ps):=by
   have:(de l).getD i []=oU (.mk ld ps cs):=by rw[su,nE,iN,hx];rfl
   rw[qQ,this,oU];simp only[To]
  generalize t++fj fS (de l) i++fS i++(if 1<ld then (qE.getD ld.toNat []).drop 1 else [])=A at b4 hA hfin;have hV8:=f34.ah hV8 (by omega);have hV20:=f34.ah hV20 (by omega);have f4:=f3.trans f34;refine zzA (zzU hV8 rfl ?_);refine zzf (n:=ps.length) (by simp[dq]) fun hpm=>?_;refine bc (α:=Nat×aa) (fun p=>p.1≤ps.length∧Bl id p.2 (A++fj (ga cs) (dE ps) p.1)∧Fr id H4 p.2) (fun p=>[i_ p.1]) (fun p=>p.2) (fun p=>ps.length-p.1) (0,H4) ⟨by simp,by simpa[fj]using b4,Fr.refl _ _⟩ (Wk.refl _ _ _ (bY _)) ?_;rintro⟨k,H⟩ ⟨hk,bK,fK⟩;simp only at hk bK fK;have hjk:(fj (ga cs) (dE ps) k).length≤100*gh (ps.take k):=aaT (ta (Ag cs) (dE ps) k (by omega)) (WC ps k);refine zzC ?_
  by_cases q2:k<ps.length
  ·obtain⟨p,hp⟩:∃p,ps[k]?=some p:=⟨ps[k],dO q2⟩;obtain⟨tg,ss⟩:=p;have okp2:=rD okps hp;have gp:=rD gx hp;have zp:=zPt hp;rw[cZ]at okp2;rw[gP,xK]at gp;rw[zP]at zp;simp only[NO]at okp2;have okss:=okp2.2;have oktg:=okp2.1.1.1;rw[kN]at okss;have hss:=wa ss;have hsl:(fC ss).length=ss.length:=by rw[so,aaC]
   have hin2:aJ ((k:Int)+1):=by unfold aJ maxLen at *;omega
   have hin3:aJ ((k:Int)-1):=by unfold aJ maxLen at *;omega
   have hsp:=Ag cs k;have hnm:=uu tg;have hV8k:=fK.ah hV8 (by omega);have hV20k:=fK.ah hV20 (by omega);refine zzL (oF (by omega)) (Ax rfl (dq ps) rfl rfl hp (zzY rfl (D3 (zs:=[.str [],.v (.slice none 0 0)]) (cs:=[.str tg,.sl 9 (dT ss)]) rfl rfl rfl rfl rfl rfl ?_)));have hidK:id<H.length:=Up (Up hid f4.1) fK.1;have hV47:(H++[aL.ah ⟨42,[.str tg,.sl 9 (dT ss)],true⟩])[H.length]?=some (.ah ⟨42,[.str tg,.sl 9 (dT ss)],true⟩):=by simp
   have b5:=bK.app [aL.ah ⟨42,[.str tg,.sl 9 (dT ss)],true⟩];have fa:=Fr.app id H [aL.ah ⟨42,[.str tg,.sl 9 (dT ss)],true⟩];have f5:=fK.trans fa;have hV8k:=fa.ah hV8k (by omega);have hV20k:=fa.ah hV20k (by omega);generalize H++[aL.ah ⟨42,[.str tg,.sl 9 (dT ss)],true⟩]=H5 at hV47 b5 f5 hV8k hV20k ⊢;refine yq [] (fun H' => Bl id H' (A++fj (ga cs) (dE ps) k++ga cs k)∧Fr id H5 H') (fun F hF=>?_) ?_
   ·refine zzE ?_;refine ct rfl (fun e=>?_) fun e=>?_
    ·have e:k≠0:=by have:=oN e;omega
     obtain⟨c,hc⟩:∃c,cs[k-1]?=some c:=⟨cs[k-1]'(by omega),dO (by omega)⟩;have hc14:=rD okcs hc;simp only[Of]at hc14;obtain⟨c',rfl⟩:=Int.eq_ofNat_of_zero_le (show 0≤c by omega);refine fU rfl (zzA (zzA (zzU hV8k rfl (zze hin3 (Ax (n:=k-1) rfl rfl rfl (by omega) hc (zzW (G0 (n:=c') rfl rfl (by omega) (zzU hV20k (Yo c' (by omega)) ?_))))))));have es:ga cs k=qE.getD c' []:=by
      have:cs.getD (k-1) 0=((c':Nat):Int):=by rw[nE,hc];rfl
      rw[ga,if_neg e,this];rfl
     rw[es]at hF hsp;refine tJ b5 (Fr.refl _ _) _ (by rw[AT];omega) rfl fun _ H' b' f' => ?_;refine aq ?_;exact hF H' ⟨b',f'⟩
    ·have e:k=0:=by have:=tO e;omega
     refine aq ?_;refine hF H5 ⟨?_,Fr.refl _ _⟩;rw[ga,if_pos e,aaL];exact b5
   rintro H6 ⟨b6,f56⟩;have hV47:=f56.ah hV47 (by omega);have f6:=f5.trans f56;refine yq [] (fun H' => Bl id H' (A++fj (ga cs) (dE ps) k++ga cs k++(if tg=[42] then [42] else eW tg))∧Fr id H6 H') (fun F hF=>?_) ?_
   ·refine zzA (zzU hV47 rfl (zzI ?_));refine ct rfl (fun e0=>?_) fun e0=>?_
    ·have e0:=oN e0;subst e0;refine aq ?_;refine hF H6 ⟨?_,Fr.refl _ _⟩;rw[if_neg (by decide),OJ,aaL];exact b6
    ·have e0:=tO e0;refine zzI ?_;refine ct rfl (fun e=>?_) fun e=>?_
     ·have e:=oN e;refine fU rfl (zzA ?_);refine rT b6 (Fr.refl _ _) 42 (by rw[AT,AT];omega) rfl fun _ H' b' f' => ?_;refine aq ?_;refine hF H' ⟨?_,f'⟩;rw[if_pos e];exact b'
     ·have e:=tO e;have hsm:small tg=true:=by
       rw[aa7,aa7,Of,Of]at oktg;rcases oktg with (h|h)|h
       ·exact absurd h e0
       ·exact absurd h e
       ·exact h
      rw[small,NO]at hsm;have hnm2:=tj hsm.1;have e1:jA 1 tg=eW tg:=by simp[jA]
      refine zzA (zzU hV47 rfl (bf rfl ?_));refine Ba b6 (Fr.refl _ _) 1 tg false (.inl ⟨rfl,rfl,e0⟩) hnm2.2 (by omega) (by rw[e1,AT,AT];omega) rfl fun _ H' b' f' => ?_;refine aq ?_;refine hF H' ⟨?_,f'⟩;rw[if_neg e,←e1];exact b'
   rintro H7 ⟨b7,f67⟩;have hV47:=f67.ah hV47 (by omega);have f7:=f6.trans f67;have hB:(A++fj (ga cs) (dE ps) k++ga cs k++(if tg=[42] then [42] else eW tg)).length≤t.length+100*cD (l.take i)+100*gh (ps.take k)+10+4*tg.length:=by
    rw[AT,AT,AT];split
    ·simp only[aaB,abd];omega
    ·omega
   have hfin2:A++fj (ga cs) (dE ps) (k+1)=(A++fj (ga cs) (dE ps) k++ga cs k++(if tg=[42] then [42] else eW tg))++(fC ss).flatten:=by
    have:(dE ps).getD k []=oI (.mk tg ss):=by rw[py,nE,iN,hp];rfl
    rw[qQ,this,oI];simp only[To]
   generalize A++fj (ga cs) (dE ps) k++ga cs k++(if tg=[42] then [42] else eW tg)=B at hB hfin2 b7;refine zzA (zzU hV47 rfl ?_);refine zzf (n:=ss.length) (by simp[dA]) fun hsm=>?_;refine bc (α:=Nat×aa) (fun p=>p.1≤ss.length∧Bl id p.2 (B++((fC ss).take p.1).flatten)∧Fr id H7 p.2) (fun p=>[i_ p.1]) (fun p=>p.2) (fun p=>ss.length-p.1) (0,H7) ⟨by simp,by simpa using b7,Fr.refl _ _⟩ (Wk.refl _ _ _ (bY _)) ?_;rintro⟨m,H⟩ ⟨hm,bM,fM⟩;simp only at hm bM fM;have hfm:(((fC ss).take m).flatten).length≤100*gH (ss.take m):=aaT (ke _) (WD ss m);refine zzC ?_
   by_cases q3:m<ss.length
   ·obtain⟨y,hy⟩:∃y,ss[m]?=some y:=⟨ss[m],dO q3⟩;have oky:=rD okss hy;have gy:=rD gp hy;have zy:=Z9 hy;have hin4:aJ ((m:Int)+1):=by unfold aJ maxLen at *;omega
    refine zzL (oF (by omega)) (Ax rfl (dA ss) rfl rfl hy (zzY (by cases y;rfl) (D3 (zs:=[u8 0,.str [],u8 0,.str [],ff,i_ 0,i_ 0,ff,.v (.slice none 0 0)]) (cs:=ft y) rfl rfl rfl rfl (by cases y;rfl) (by cases y;rfl) (zzV (b:=⟨46,ft y,true⟩) (by simp) (by cases y;exact bY _) ?_))));have e9:(List.drop 0 (ft y)).take 9=ft y:=by cases y;rfl
    have fb:=Fr.app id H [aL.ah ⟨46,ft y,true⟩];refine eB (by kernel_rfl) (by simp only[e9]) (hS y (by omega) gy d has oky id _ _ (bM.app _) (by rw[AT];omega)) ?_;rintro _ H' ⟨rfl,b',f'⟩;refine zzP hin4 (And.intro rfl ?_);have fE:=fM.trans (fb.trans f');refine⟨(m+1,H'),⟨by simp only;omega, ?_,fE⟩,Wk.refl _ _ _ fE.1,by simp only;omega⟩;have ey:(fC ss)[m]?=some (jI y):=by rw[so,iN,hy];rfl
    simp only;rw[By,ey,List.flatten_append];simp only[Option.toList_some,abc,List.flatten_nil,aaL,←To];exact b'
   ·obtain rfl:m=ss.length:=by omega
    refine zzK (nO (by omega)) (zzP hin2 (And.intro rfl ?_));have fE:=f7.trans fM;refine⟨(k+1,H),⟨by simp only;omega, ?_,fE⟩,Wk.refl _ _ _ fE.1,by simp only;omega⟩;simp only;rw[hfin2];have e3:(fC ss).take ss.length=fC ss:=by rw[←hsl,BY]
    rw[e3]at bM;exact bM
  ·obtain rfl:k=ps.length:=by omega
   refine zzK (nO (by omega)) (zzP hin (And.intro rfl ?_));have fE:=f4.trans fK;refine⟨(i+1,H),⟨by simp only;omega, ?_,fE⟩,Wk.refl _ _ _ fE.1,by simp only;omega⟩;rw[hfin,gR,hpl];exact bK
 ·obtain rfl:i=l.length:=by omega
  refine zzC (zzK (nO (by omega)) ?_);refine⟨_,_,Wk.refl _ _ _ fH.1,rfl, ?_,fH⟩;rw[fc,gR,hlen];exact bH
end
end Go.Proofs.YtpcnidmmkknndaaGreatDoor
section
namespace Go.bG
open Go Go.Aw
mutual
def kS(lim n:Nat):List Cx→Nat
 | []=>n
 | x:: l=>if n≤lim then kS lim (Dx lim n x) l else n
def Dx(lim n:Nat):Cx→Nat
 | .mk _ ps cs=>qw lim (n+(1+cs.length)) ps
def qw(lim n:Nat):List Cp→Nat
 | []=>n
 | p:: l=>if n≤lim then qw lim (Dv lim n p) l else n
def Dv(lim n:Nat):Cp→Nat
 | .mk t ss=>qx lim (n+(1+t.length)) ss
def qx(lim n:Nat):List Sm→Nat
 | []=>n
 | s:: l=>if n≤lim then qx lim (Dw lim n s) l else n
def Dw(lim n:Nat):Sm→Nat
 | .mk _ na _ v _ _ _ _ l=>n+(1+na.length+v.length+kS (lim-n) 0 l)
end
mutual
theorem Cv(lim n:Nat):∀l,kS lim n l≤n+cD l∧(kS lim n l≤lim→kS lim n l=n+cD l)∧n≤kS lim n l
 | []=>by rw[kS,cD];omega
 | x:: l=>by
   have h1:=Vi lim n x;have h2:=Cv lim (Dx lim n x) l;rw[kS,cD];split<;>omega
theorem Vi(lim n:Nat):∀x,Dx lim n x≤n+zX x∧(Dx lim n x≤lim→Dx lim n x=n+zX x)∧n≤Dx lim n x
 | .mk _ ps cs=>by
   have:=II lim (n+(1+cs.length)) ps;rw[Dx,zX];omega
theorem II(lim n:Nat):∀l,qw lim n l≤n+gh l∧(qw lim n l≤lim→qw lim n l=n+gh l)∧n≤qw lim n l
 | []=>by rw[qw,gh];omega
 | x:: l=>by
   have h1:=Vg lim n x;have h2:=II lim (Dv lim n x) l;rw[qw,gh];split<;>omega
theorem Vg(lim n:Nat):∀x,Dv lim n x≤n+zP x∧(Dv lim n x≤lim→Dv lim n x=n+zP x)∧n≤Dv lim n x
 | .mk t ss=>by
   have:=IJ lim (n+(1+t.length)) ss;rw[Dv,zP];omega
theorem IJ(lim n:Nat):∀l,qx lim n l≤n+gH l∧(qx lim n l≤lim→qx lim n l=n+gH l)∧n≤qx lim n l
 | []=>by rw[qx,gH];omega
 | x:: l=>by
   have h1:=Vh lim n x;have h2:=IJ lim (Dw lim n x) l;rw[qx,gH];split<;>omega
theorem Vh(lim n:Nat):∀x,Dw lim n x≤n+zS x∧(Dw lim n x≤lim→Dw lim n x=n+zS x)∧n≤Dw lim n x
 | .mk _ na _ v _ _ _ _ l=>by
   have:=Cv (lim-n) 0 l;rw[Dw,zS];omega
end
theorem drop_cons{α:Type}{l:List α}{k:Nat}{x:α}(h:l[k]?=some x):l.drop k=x:: l.drop (k+1):=by
 obtain⟨hk,rfl⟩:=eQ.1 h;exact aba hk
end Go.bG
namespace Go.Proofs.YtpcnidmmkknndaaGreatDoor
open Go Go.Aw Go.bG
theorem PR{x:AV}{l:List UInt8}{K:AV→Prop}(e:x=.str l)(q:K (i_ l.length)):kZ x K:=by subst e;exact q
variable [Laid]
def Te(m:Nat):Prop:=∀l:List Cx,cD l<m→∀lim:Nat,lim<2^60→bn p_ 14 [.sl 3 (bC l),i_ lim] (i_ (kS lim 0 l))
theorem RQ{m:Nat}(hm:m<2^60)(hC:Te m):Te (m+1):=by
 intro l hz lim hlim;refine (V14 _ _).bj (by simp[fG]) (by simp) ?_;unfold W3;have hlen:(bC l).length=l.length:=by simp[ck]
 have hxl:=nQ l;refine bc (α:=Nat×Nat) (fun p=>p.2≤l.length∧kS lim p.1 (l.drop p.2)=kS lim 0 l∧p.1+cD (l.drop p.2)≤cD l) (fun p=>[i_ p.1,i_ p.2]) (fun _=>[]) (fun p=>l.length-p.2) (0,0) (by simp) (Wk.refl _ _ _ (by simp)) ?_;rintro⟨n,k⟩ ⟨hk,hI,hB⟩;simp only[eC]at hk hI hB ⊢;rcases uP k l.length with q|q
 ·obtain⟨⟨le,ps,cs⟩,hx⟩:∃x,l[k]?=some x:=⟨l[k],dO q⟩;have hd:=drop_cons hx;have q':decide ((k:Int)<((bC l).length:Int))=true:=by rw[hlen];simpa using q
  rw[hd,kS]at hI;rw[hd,cD,zX]at hB
  by_cases c:n≤lim
  ·have c':decide ((n:Int)≤(lim:Int))=true:=by simpa using c
   rw[if_pos c,Dx]at hI;have h1:aJ (1+((cs.map fun c=>[u1 c]).length:Int)):=by rw[aaC];unfold aJ;omega
   have h2:aJ ((n:Int)+(1+((cs.map fun c=>[u1 c]).length:Int))):=by rw[aaC];unfold aJ;omega
   have h3:aJ ((k:Int)+1):=by unfold aJ;omega
   repeat' (first|(with_reducible first|apply aH|refine And.intro True.intro ?_)|((with_reducible first|apply cK|apply gI);rfl;rfl)|((with_reducible apply cg);rfl;rfl;first|assumption|(unfold aJ;omega))|((with_reducible apply aM);rfl)|((with_reducible apply ax);rfl;first|rfl|assumption)|((with_reducible apply bt);rfl;first|rfl|assumption)|((with_reducible apply ik);rfl)|((with_reducible apply dY);rfl)|((with_reducible apply dz);rfl;(first|rfl|simp);intro _)|(refine zzb (ck l) rfl hx ?_))
   have hpl:(du ps).length=ps.length:=by simp[dq]
   have hpl2:=rA ps;refine bc (α:=Nat×Nat) (fun p=>p.2≤ps.length∧qw lim p.1 (ps.drop p.2)=qw lim (n+(1+cs.length)) ps∧p.1+gh (ps.drop p.2)≤n+(1+cs.length)+gh ps) (fun p=>[i_ p.1,i_ p.2]) (fun _=>[]) (fun p=>ps.length-p.2) (n+(1+cs.length),0) (by simp) (by simpa using Wk.refl _ _ _ (by simp)) ?_;rintro⟨n2,k2⟩ ⟨hk2,hI2,hB2⟩;simp only[eC]at hk2 hI2 hB2 ⊢;rcases uP k2 ps.length with q2|q2
   ·obtain⟨⟨t,ss⟩,hx2⟩:∃x,ps[k2]?=some x:=⟨ps[k2],dO q2⟩;have hd2:=drop_cons hx2;have q2':decide ((k2:Int)<((du ps).length:Int))=true:=by rw[hpl];simpa using q2
    rw[hd2,qw]at hI2;rw[hd2,gh,zP]at hB2
    by_cases c2:n2≤lim
    ·have c2':decide ((n2:Int)≤(lim:Int))=true:=by simpa using c2
     rw[if_pos c2,Dv]at hI2;have h4:aJ (1+(t.length:Int)):=by unfold aJ;omega
     have h5:aJ ((n2:Int)+(1+(t.length:Int))):=by unfold aJ;omega
     have h6:aJ ((k2:Int)+1):=by unfold aJ;omega
     repeat' (first|(with_reducible first|apply aH|refine And.intro True.intro ?_)|((with_reducible first|apply cK|apply gI);rfl;rfl)|((with_reducible apply cg);rfl;rfl;first|assumption|(unfold aJ;omega))|((with_reducible apply aM);rfl)|((with_reducible apply ax);rfl;first|rfl|assumption)|((with_reducible apply bt);rfl;first|rfl|assumption)|((with_reducible apply ik);rfl)|((with_reducible apply dY);rfl)|((with_reducible apply lN);rfl;intro _)|((with_reducible apply dz);rfl;(first|rfl|simp);intro _)|(refine zzb (ck l) rfl hx ?_)|(refine zzb (dq ps) rfl hx2 ?_))
     have hsl:(dT ss).length=ss.length:=by simp[dA]
     have hsl2:=pD ss;refine bc (α:=Nat×Nat) (fun p=>p.2≤ss.length∧qx lim p.1 (ss.drop p.2)=qx lim (n2+(1+t.length)) ss∧p.1+gH (ss.drop p.2)≤n2+(1+t.length)+gH ss) (fun p=>[i_ p.1,i_ p.2]) (fun _=>[]) (fun p=>ss.length-p.2) (n2+(1+t.length),0) (by simp) (by simpa using Wk.refl _ _ _ (by simp)) ?_;rintro⟨n3,k3⟩ ⟨hk3,hI3,hB3⟩;simp only[eC]at hk3 hI3 hB3 ⊢;rcases uP k3 ss.length with q3|q3
     ·obtain⟨⟨kd,na,o,v,f,a,b,w,l2⟩,hx3⟩:∃x,ss[k3]?=some x:=⟨ss[k3],dO q3⟩;have hd3:=drop_cons hx3;have q3':decide ((k3:Int)<((dT ss).length:Int))=true:=by rw[hsl];simpa using q3
      rw[hd3,qx]at hI3;rw[hd3,gH,zS]at hB3
      by_cases c3:n3≤lim
      ·have c3':decide ((n3:Int)≤(lim:Int))=true:=by simpa using c3
       rw[if_pos c3,Dw]at hI3;have hle:=Cv (lim-n3) 0 l2;have h7:aJ (1+(na.length:Int)):=by unfold aJ;omega
       have h8:aJ (1+(na.length:Int)+(v.length:Int)):=by unfold aJ;omega
       have h9:aJ ((lim:Int)-(n3:Int)):=by unfold aJ;omega
       have h10:aJ (1+(na.length:Int)+(v.length:Int)+((kS (lim-n3) 0 l2:Nat):Int)):=by unfold aJ;omega
       have h11:aJ ((n3:Int)+(1+(na.length:Int)+(v.length:Int)+((kS (lim-n3) 0 l2:Nat):Int))):=by unfold aJ;omega
       have h12:aJ ((k3:Int)+1):=by unfold aJ;omega
       have hs:i_ ((lim:Int)-(n3:Int))=i_ ((lim-n3:Nat):Int):=by rw[show ((lim:Int)-(n3:Int))=((lim-n3:Nat):Int) by omega]
       have hcon:=hC l2 (by omega) (lim-n3) (by omega);repeat' (first|(with_reducible first|apply aH|refine And.intro True.intro ?_)|((with_reducible first|apply cK|apply gI);rfl;rfl)|((with_reducible apply cg);rfl;rfl;first|assumption|(unfold aJ;omega))|((with_reducible apply nR);rfl;rfl;first|assumption|(unfold aJ;omega))|((with_reducible apply aM);rfl)|((with_reducible apply ax);rfl;first|rfl|assumption)|((with_reducible apply bt);rfl;first|rfl|assumption)|((with_reducible apply ik);rfl)|((with_reducible apply dY);rfl)|((with_reducible apply dz);rfl;(first|rfl|simp);intro _)|(refine zzb (dA ss) rfl hx3 ?_)|((with_reducible apply PR);rfl)|(refine pA (by rw[hs]) (by kernel_rfl) hcon ?_))
       refine⟨(n3+(1+na.length+v.length+kS (lim-n3) 0 l2),k3+1),⟨by simp;omega,hI3,by simp;omega⟩,by simpa using Wk.refl _ _ _ (by simp),by simp;omega⟩
      ·have c3':decide ((n3:Int)≤(lim:Int))=false:=by simpa using c3
       rw[if_neg c3]at hI3;have h6:aJ ((k2:Int)+1):=by unfold aJ;omega
       repeat' (first|(with_reducible first|apply aH|refine And.intro True.intro ?_)|((with_reducible first|apply cK|apply gI);rfl;rfl)|((with_reducible apply cg);rfl;rfl;first|assumption|(unfold aJ;omega))|((with_reducible apply aM);rfl)|((with_reducible apply ay);rfl;first|rfl|assumption)|((with_reducible apply bt);rfl;first|rfl|assumption)|((with_reducible apply dz);rfl;(first|rfl|simp);intro _))
       refine⟨(n3,k2+1),⟨by simp;omega,by simp only;rw[hI3];exact hI2,by simp;omega⟩,by simpa using Wk.refl _ _ _ (by simp),by simp;omega⟩
     ·have hk:k3=ss.length:=by omega
      subst hk;have q3':decide ((ss.length:Int)<((dT ss).length:Int))=false:=by rw[hsl];simp
      rw[List.drop_length,qx]at hI3;rw[List.drop_length,gH]at hB3;repeat' (first|(with_reducible first|apply aH|refine And.intro True.intro ?_)|((with_reducible apply cK);rfl;rfl)|((with_reducible apply cg);rfl;rfl;first|assumption|(unfold aJ;omega))|((with_reducible apply aO);rfl)|((with_reducible apply ay);rfl;first|rfl|assumption)|((with_reducible apply bw);rfl;first|rfl|assumption)|((with_reducible apply dz);rfl;(first|rfl|simp);intro _))
      refine⟨(n3,k2+1),⟨by simp;omega,by simp only;rw[hI3];exact hI2,by simp;omega⟩,by simpa using Wk.refl _ _ _ (by simp),by simp;omega⟩
    ·have c2':decide ((n2:Int)≤(lim:Int))=false:=by simpa using c2
     rw[if_neg c2]at hI2;repeat' (first|(with_reducible first|apply aH|refine And.intro True.intro ?_)|((with_reducible first|apply cK|apply gI);rfl;rfl)|((with_reducible apply cg);rfl;rfl;first|assumption|(unfold aJ;omega))|((with_reducible apply aM);rfl)|((with_reducible apply ay);rfl;first|rfl|assumption)|((with_reducible apply bt);rfl;first|rfl|assumption)|((with_reducible apply ik);rfl)|((with_reducible apply dY);rfl)|((with_reducible apply dz);rfl;(first|rfl|simp);intro _)|(refine zzb (ck l) rfl hx ?_))
     refine⟨(n2,k+1),⟨by simp;omega,by simp only;rw[hI2];exact hI,by simp;omega⟩,by simpa using Wk.refl _ _ _ (by simp),by simp;omega⟩
   ·have hk:k2=ps.length:=by omega
    subst hk;have q2':decide ((ps.length:Int)<((du ps).length:Int))=false:=by rw[hpl];simp
    rw[List.drop_length,qw]at hI2;rw[List.drop_length,gh]at hB2;repeat' (first|(with_reducible first|apply aH|refine And.intro True.intro ?_)|((with_reducible apply cK);rfl;rfl)|((with_reducible apply cg);rfl;rfl;first|assumption|(unfold aJ;omega))|((with_reducible apply aO);rfl)|((with_reducible apply ay);rfl;first|rfl|assumption)|((with_reducible apply bw);rfl;first|rfl|assumption)|((with_reducible apply ik);rfl)|((with_reducible apply dY);rfl)|((with_reducible apply dz);rfl;(first|rfl|simp);intro _)|(refine zzb (ck l) rfl hx ?_))
    refine⟨(n2,k+1),⟨by simp;omega,by simp only;rw[hI2];exact hI,by simp;omega⟩,by simpa using Wk.refl _ _ _ (by simp),by simp;omega⟩
  ·have c':decide ((n:Int)≤(lim:Int))=false:=by simpa using c
   rw[if_neg c]at hI;repeat' (first|(with_reducible first|apply aH|refine And.intro True.intro ?_)|((with_reducible first|apply cK|apply gI);rfl;rfl)|((with_reducible apply aM);rfl)|((with_reducible apply ay);rfl;first|rfl|assumption)|((with_reducible apply bt);rfl;first|rfl|assumption)|((with_reducible apply dz);rfl;(first|rfl|simp);intro _))
   exact .pure (by simp) (by rw[dU,hI])
 ·have hk:k=l.length:=by omega
  subst hk;have q':decide ((l.length:Int)<((bC l).length:Int))=false:=by rw[hlen];simp
  rw[List.drop_length,kS]at hI;repeat' (first|(with_reducible first|apply aH|refine And.intro True.intro ?_)|((with_reducible apply cK);rfl;rfl)|((with_reducible apply aO);rfl)|((with_reducible apply ay);rfl;first|rfl|assumption)|((with_reducible apply bw);rfl;first|rfl|assumption)|((with_reducible apply dz);rfl;(first|rfl|simp);intro _))
  exact .pure (by simp) (by rw[dU,hI])
theorem MI:∀n,n<2^60→Te n
 | 0,_=>fun l hz=>by omega
 | n+1,hn=>RQ (by omega) (MI n (by omega))
theorem Nv(l:List Cx)(hz:cD l<2^59):bn p_ 14 [.sl 3 (bC l),i_ 600] (i_ (kS 600 0 l)):=
 MI (cD l+1) (by omega) l (by omega) 600 (by omega)
theorem CQ(l:List Cx)(hz:cD l<2^59):bn p_ 6 [.sl 3 (bC l)] (b_ (decide (600<kS 600 0 l))):=by
 refine (V6 _).bj (by simp[fG]) (by simp) ?_;unfold W6;repeat' (first|((with_reducible apply fe);rfl;rfl)|(refine uCon (Nv l hz) ?_))
 refine .pure (by simp) ?_;simp only[AV.v.injEq,Value.bool.injEq];exact decide_eq_decide.2 (by omega)
end Go.Proofs.YtpcnidmmkknndaaGreatDoor
end
namespace Go.Proofs.YtpcnidmmkknndaaGreatDoor
section
open Go Go.Aw Go.bG
variable [bq]
def ub(l:List Cx):AV:=if fD l=0 then .aA [i_ (number l),i_ 0] else .aA [i_ 0,i_ (fD l)]
theorem CP(l:List Cx)(hz:cD l<2^59):bn p_ 12 [.sl 3 (bC l)] (ub l):=by
 refine (V12 _).bj (by simp[fG]) (by unfold ub;split<;>simp) ?_;unfold W0;refine uCon (CO l hz) (zzH ?_);refine ct rfl (fun e=>?_) fun e=>?_
 ·have e:¬fD l=0:=by simpa using e
  exact .pure (by simp) (by rw[ub,if_neg e])
 ·have e:fD l=0:=by simpa using e
  refine uCon (wM l hz) ?_;exact .pure (by simp) (by rw[ub,if_pos e])
end
section
open Go Go.Aw Go.bG
theorem Un{s:af}(h:s≠[]):1≤(eW s).length:=by
 obtain⟨n,hn⟩:∃n,s.length=n+1:=by
  cases s with
  | nil=>exact absurd rfl h
  | cons a r=>exact⟨r.length,rfl⟩
 unfold eW;rw[hn,vw,AT];have:1≤(il s (gY s) n (s.getD n 0)).length:=by
  unfold il cC;split
  ·simp
  ·split<;>simp
 omega
theorem C6(sep:Nat→af)(a:af)(r:List af):∀k,0<k→a.length≤(fj sep (a:: r) k).length
 | 0,h=>absurd h (by omega)
 | k+1,_=>by
   rw[qQ,AT]
   by_cases e:k=0
   ·subst e;simp only[List.getD_cons_zero,AT];omega
   ·have:=C6 sep a r k (by omega);omega
theorem C7(sep:Nat→af)(a:af)(r:List af):a.length≤(gR sep (a:: r)).length:=C6 sep a r _ (by simp)
theorem Vn{d:Nat}{has:Bool}{s:Sm}(ok:jz d has s=true):1≤(jI s).length:=by
 obtain⟨k,na,o,v,f,a,b,w,l⟩:=s;rw[jz,NO]at ok;obtain⟨ok,_⟩:=ok;rw[jI]
 by_cases h1:k=1
 ·rw[if_pos h1];simp
 rw[if_neg h1]
 by_cases h2:k=2
 ·rw[if_pos h2];simp
 rw[if_neg h2]
 by_cases h3:k=3
 ·rw[if_pos h3];simp[sJ]
 rw[if_neg h3];rw[jo,if_neg (by omega),if_neg h3]at ok;simp only[NO,Of]at ok;have hk:=ok.1.2;have hkd:∀j:Nat,j≤10→1≤(w5.getD j []).length:=fun j hj=>by
  match j,hj with
  | 0,_|1,_|2,_|3,_|4,_|5,_|6,_|7,_|8,_|9,_|10,_=>decide
 have hfc:∀j:Nat,j≤1→1≤(CZ.getD j []).length:=fun j hj=>by
  match j,hj with
  | 0,_|1,_=>decide
 split
 ·rename_i hf;simp only[kf,NO,eK,aa7,Of]at hf;exact hfc _ (by omega)
 ·have:=hkd (k-4).toNat (by omega);split
  ·exact this
  ·simp only[AT];omega
theorem Vm{d:Nat}{has:Bool}{p:Cp}(ok:cZ d has p=true):1≤(oI p).length:=by
 obtain⟨t,ss⟩:=p;rw[cZ]at ok;simp only[NO,aa8,Bool.and_eq_false_iff,decide_eq_false_iff_not]at ok;rw[oI,AT]
 by_cases ht:t=[]
 ·rcases ok.1.2 with h|h
  ·exact absurd ht h
  ·cases ss with
   | nil=>simp at h
   | cons s r =>
     have:=ok.2;rw[mV,NO]at this;have:=Vn this.1;rw[fC,abc,AT];omega
 ·split
  ·simp
  ·have:=Un ht;omega
theorem Vo{d:Nat}{has rel:Bool}{x:Cx}(ok:eL d has rel x=true):1≤(oU x).length:=by
 obtain⟨l,ps,cs⟩:=x;rw[eL]at ok;simp only[NO,Of]at ok;rw[oU,AT];cases ps with
 | nil=>have:=ok.1.1.1.2;simp at this
 | cons p r =>
   have:=ok.2;rw[me,NO]at this;have h1:=Vm this.1;have h2:=C7 (ga cs) (oI p) (dE r);rw[dE];omega
theorem My{l:List Cx}(h:fD l=0):fc l≠[]:=by
 have ok:=zu h;cases l with
 | nil=>simp[fD]at h
 | cons x r =>
   rw[dD,NO]at ok;have h1:=Vo ok.1;have h2:=C7 fS (oU x) (de r);intro e;unfold fc at e;rw[de]at e;rw[e]at h2;simp only[abd]at h2;omega
variable [bq]
theorem MB:∀n,n≤2^28→O6 n∧Td n
 | 0,_=>by
   have h0:O6 0:=fun s hz=>by
    obtain⟨k,na,o,v,f,a,b,w,l⟩:=s;rw[zS]at hz;omega
   exact⟨h0,MA (by decide) h0⟩
 | n+1,h=>by
   have ih:=(MB n (by omega)).2;have hs:=OY (by omega) ih;exact⟨hs,MA h hs⟩
theorem wL(l:List Cx)(hz:cD l≤2^28)(hg:ju l=true):bn p_ 9 [.sl 3 (bC l)] (qV l):=by
 refine (V9 _).bj (by simp[fG]) (J1 l) ?_;unfold W9;refine uCon (CO l (by omega)) (zzH ?_);refine ct rfl (fun e=>?_) fun e=>?_
 ·have e:¬fD l=0:=by simpa using e
  exact .pure (by simp) (by rw[qV,if_neg e])
 have e:fD l=0:=by simpa using e
 refine bW (h':=[.ah ⟨63,[.v (.pointer none),.v (.slice none 0 0)],true⟩]) (n:=0) (cs:=[.v (.pointer none),.v (.slice none 0 0)]) rfl rfl rfl rfl ?_;have b0:Bl 0 [.ah ⟨63,[.v (.pointer none),.v (.slice none 0 0)],true⟩] []:=⟨_,rfl,rfl,rfl,.inl ⟨rfl,rfl⟩⟩;refine eB (by kernel_rfl) rfl ((MB (2^28) (bY _)).2 l hz hg 0 false false (zu e) 0 _ [] b0 (by simp only[abd];omega)) ?_;rintro _ H ⟨rfl,b1,f1⟩;rw[List.nil_append]at b1;refine zzA (eB (by kernel_rfl) rfl (MY b1) ?_);rintro _ _ ⟨rfl,rfl⟩;refine zzE ?_;refine ct rfl (fun e2=>?_) fun e2=>?_
 ·have e2:¬(fc l).length≤4000:=by have:=oN e2;omega
  exact .pure (by simp) (by rw[qV,if_pos e,if_neg e2])
 ·have e2:(fc l).length≤4000:=by have:=tO e2;omega
  refine zzA (eB (by kernel_rfl) rfl (MZ b1 (My e)) ?_);rintro _ H2 ⟨rfl,_⟩;exact .pure (by simp) (by rw[qV,if_pos e,if_pos e2])
end
section
open Go Go.Aw Go.fg Go.RowKit
open Go.bG hiding u1 af
variable{A:(List AV→aa→Prop)→Prop}{l m:List Cx}{B:List AV→aa→(List AV→aa→Prop)→Prop}{f:AV→aa→Prop}{s t t':af}{E2:List AV→Prop}{c:UInt8}{b1 b2 b p q:Bool}{x:AV}{H:aa}{E:Prop}{L:List af}{v:List Vl}
def WB(s:af):Prop:=∀c∈s,c≠0∧c≠12∧c≠13
theorem WB.app{a b:af}(x:WB a)(y:WB b):WB (a++b):=fun c hc=>(Is.1 hc).elim (x c) (y c)
theorem WB.nil:WB []:=fun _ h=>absurd h (List.not_mem_nil)
theorem P1(h:c≠0∧c≠12∧c≠13):uU c=[c]:=by
 unfold uU;rw[if_neg (fun e=>e.elim h.2.2 h.2.1),if_neg h.1]
theorem G7:∀s:af,WB s→eP s=s
 | [],_=>by rw[eP]
 | c:: s,h=>by
   have hc:=h c (aa9 ..);rw[pY (fun e=>hc.2.2 e.1),P1 hc,G7 s fun d hd=>h d (Lt _ hd)];rfl
def sB(c:UInt8):Bool:=c != 0&&c != 12&&c != 13
theorem fy(h:s.all sB=true):WB s:=fun c hc=>by
 have:=At.1 h c hc;simpa[sB,and_assoc]using this
theorem TF:∀c:UInt8,(cC c).all sB=true:=dZ (P:=fun c=>(cC c).all sB=true) (by decide +kernel)
theorem UI:∀c:UInt8,c≠0→(iG c).all sB=true:=dZ (P:=fun c=>c≠0→(iG c).all sB=true) (by decide +kernel)
theorem Ul:∀c:UInt8,zf c=true→sB c=true:=dZ (P:=fun c=>zf c=true→sB c=true) (by decide +kernel)
theorem Um(n:af)(fr i:Nat)(c:UInt8):WB (il n fr i c):=by
 unfold il
 by_cases h:kO n fr i c=true
 ·rw[if_pos h];unfold kO at h;simp only[NO]at h;exact fy (by simp[Ul c h.1.1])
 ·rw[if_neg h];exact fy (TF c)
theorem WB.flat{α:Type}{l:List α}{f:α→af}(h:∀x∈l,WB (f x)):WB (l.flatMap f):=fun c hc=>by
 obtain⟨x,hx,h2⟩:=List.mem_flatMap.1 hc;exact h x hx c h2
theorem D4(n:af):WB (eW n):=WB.flat fun _ _=>Um _ _ _ _
theorem WR(h:∀c∈s,c≠0):WB (ux s):=by
 unfold ux;exact ((fy (by decide)).app (WB.flat fun c hc=>fy (UI c (h c hc)))).app (fy (by decide))
theorem WB.at(h:∀s∈L,WB s)(k:Nat):WB (L.getD k []):=by
 rw[nE];cases e:L[k]? with
 | none=>exact WB.nil
 | some x=>exact h x (gE e)
theorem uG(h:L.all (fun s=>s.all sB)=true)(k:Nat):WB (L.getD k []):=WB.at (fun s hs=>fy (At.1 h s hs)) k
theorem WB.drop{s:af}(h:WB s)(k:Nat):WB (s.drop k):=fun c hc=>h c (List.mem_of_mem_drop hc)
theorem WQ{n:af}{o:Int}{v:af}{f:Bool}(hv:∀c∈v,c≠0):WB (sJ n o v f):=by
 unfold sJ;refine ((((fy (by decide)).app (D4 n)).app ?_).app ?_).app (fy (by decide))
 ·split
  ·exact WB.nil
  ·exact (uG (by decide) _).app (WR hv)
 ·split
  ·exact fy (by decide)
  ·exact WB.nil
theorem yu{sep:Nat→af}{ts:List af}(h1:∀k,WB (sep k))(h2:∀t∈ts,WB t):WB (gR sep ts):=by
 unfold gR fj;exact WB.flat fun i _=>(h1 i).app (WB.at h2 i)
theorem CG(k:Nat):WB (fS k):=by unfold fS;split;exact WB.nil;exact fy (by decide)
theorem RJ(cs:List Int)(k:Nat):WB (ga cs k):=by unfold ga;split;exact WB.nil;exact uG (by decide) _
theorem TB:∀c:UInt8,Rt.cn c=true→sB c=true:=dZ (P:=fun c=>Rt.cn c=true→sB c=true) (by decide +kernel)
theorem Mx(k:Nat):WB (Lib.decDigits k):=fy (At.2 fun b hb=>TB b (qa (oX k) b hb))
theorem I2(B:Int):WB (Lib.itoa B):=by
 by_cases h:B<0
 ·rw[vt h];exact (fy (s:=[45]) (by decide)).app (Mx _)
 ·rw[FI h];exact Mx _
theorem Vt(A B:Int):WB (mS A B):=by
 have h1:∀c:UInt8,sB c=true→WB [c]:=fun c h=>fy (by simp[h]);have hc:∀(c:UInt8) (x:af),sB c=true→WB x→WB (c:: x):=fun c x h hx=>(h1 c h).app hx;unfold mS;repeat' first|exact I2 _|exact WB.nil|exact fy (by decide)|exact hc _ _ (by decide) (I2 _)|refine WB.app ?_ ?_|split
theorem Vu(k a b:Int)(w:Bool):WB (tL k a b w):=by
 unfold tL;split
 ·refine (Vt a b).app ?_;split
  ·exact fy (by decide)
  ·exact WB.nil
 ·exact WB.nil
theorem WB.flt{l:List af}(h:∀t∈l,WB t):WB l.flatten:=fun c hc=>by
 obtain⟨x,hx,h2⟩:=List.mem_flatten.1 hc;exact h x hx c h2
mutual
theorem Z6(d:Nat)(has:Bool):∀s:Sm,jz d has s=true→WB (jI s)
 | .mk k n o v f a b w l,ok=>by
   rw[jz,NO]at ok;obtain⟨ob,ol⟩:=ok;rw[jI]
   by_cases k1:k=1
   ·rw[if_pos k1];exact (fy (by decide)).app (D4 n)
   rw[if_neg k1]
   by_cases k2:k=2
   ·rw[if_pos k2];exact (fy (by decide)).app (D4 n)
   rw[if_neg k2]
   by_cases k3:k=3
   ·rw[if_pos k3];rw[jo,if_neg (by omega),if_pos k3]at ob;simp only[NO]at ob;exact WQ (MH ob.1.1.1.1.1.2)
   rw[if_neg k3]
   by_cases fr:kf k a b w=true
   ·rw[if_pos fr];exact uG (by decide) _
   rw[if_neg fr]
   by_cases k8:k≤8
   ·rw[if_pos k8];exact uG (by decide) _
   ·rw[if_neg k8];refine (((uG (by decide) _).app (Vu k a b w)).app ?_).app (fy (by decide))
    by_cases hL:gw k w=true
    ·rw[if_pos hL]at ol;simp only[NO]at ol;exact yu CG (Kb _ _ _ l ol.2)
    ·rw[if_neg hL]at ol;rw[List.isEmpty_iff.1 ol,de];exact yu CG fun t h=>absurd h (List.not_mem_nil)
theorem PL(d:Nat)(has:Bool):∀l:List Sm,mV d has l=true→∀t∈fC l,WB t
 | [],_=>by rw[fC];exact fun t h=>absurd h (List.not_mem_nil)
 | s:: l,ok=>by
   rw[mV,NO]at ok;rw[fC];exact List.forall_mem_cons.2 ⟨Z6 d has s ok.1,PL d has l ok.2⟩
theorem Z5(d:Nat)(has:Bool):∀p:Cp,cZ d has p=true→WB (oI p)
 | .mk t ss,ok=>by
   rw[cZ,NO]at ok;rw[oI];refine WB.app ?_ (WB.flt (PL d has ss ok.2))
   by_cases h:t=[42]
   ·rw[if_pos h];exact fy (by decide)
   ·rw[if_neg h];exact D4 t
theorem PK(d:Nat)(has:Bool):∀l:List Cp,me d has l=true→∀t∈dE l,WB t
 | [],_=>by rw[dE];exact fun t h=>absurd h (List.not_mem_nil)
 | p:: l,ok=>by
   rw[me,NO]at ok;rw[dE];exact List.forall_mem_cons.2 ⟨Z5 d has p ok.1,PK d has l ok.2⟩
theorem Z7(d:Nat)(has rel:Bool):∀x:Cx,eL d has rel x=true→WB (oU x)
 | .mk l ps cs,ok=>by
   rw[eL,NO]at ok;rw[oU];refine WB.app ?_ (yu (RJ cs) (PK d has ps ok.2))
   by_cases h:1<l
   ·rw[if_pos h];exact WB.drop (uG (by decide) _) 1
   ·rw[if_neg h];exact WB.nil
theorem Kb(d:Nat)(has rel:Bool):∀l:List Cx,dD d has rel l=true→∀t∈de l,WB t
 | [],_=>by rw[de];exact fun t h=>absurd h (List.not_mem_nil)
 | x:: l,ok=>by
   rw[dD,NO]at ok;rw[de];exact List.forall_mem_cons.2 ⟨Z7 d has rel x ok.1,Kb d has rel l ok.2⟩
end
theorem Ka(ok:dD 0 false false l=true):WB (fc l):=yu CG (Kb 0 false false l ok)
theorem JS(w:WB s)(t:lS s (Rt.gr s 0)=bJ v)(hb:fh 0 v=false)(hd:dw v≤16):ql s=if 4000<s.length then ([],28) else if 1500<dh v then ([],4) else (let r:=nL 3 false v false false
 if r.2=true then (if 64<number r.1 then ([],4) else (r.1,0)) else ([],12)):=by
 have e:jC s=if 4000<s.length then ([],28) else if 1500<dh v then ([],4) else (bJ v,0):=by
  unfold jC;rw[G7 _ w,t,mg]
 unfold ql;rw[e]
 by_cases h1:4000<s.length
 ·rw[if_pos h1,if_pos h1];rfl
 rw[if_neg h1,if_neg h1]
 by_cases h2:1500<dh v
 ·rw[if_pos h2,if_pos h2];rfl
 rw[if_neg h2,if_neg h2];dsimp only;rw[if_pos rfl,LF _ hb hd (by omega),if_pos rfl];dsimp only;unfold Lx;rw[if_pos (G6 _ hb hd (by omega))]
theorem xu{x:af}(hx:x≠[])(ha:∀c∈x,Rt.eY c=true):TX x (iI cH) Ns:=by
 intro s r a hle h hr;rw[D0];cases x with
 | nil=>exact absurd rfl hx
 | cons c x =>
   have hc:=ha c (aa9 ..);have hat:Rt.aB s a=c:=by rw[cX h];rfl
   refine Tq.one (ep (by rw[h];rfl)) ?_ (by rw[hat];intro e;rw[e]at hc;exact absurd hc (by decide));have he:Rt.eO s a=a+(c:: x).length:=by
    unfold Rt.eO;rw[h,List.takeWhile_append_of_pos ha,AT];have:(r.takeWhile Rt.eY).length=0:=by
     cases r with
     | nil=>rfl
     | cons y r=>rw[List.takeWhile_cons,if_neg (by rw[show Rt.eY y=false from hr];decide)];rfl
    rw[this];rfl
   unfold iR;dsimp only;rw[hat,if_pos hc,he]
def yX:af:=[47,42,32,99,32,42,47]
theorem WH:TX yX [] Any:=fun s r a hle h _=>by
 have hl:=Bb hle h;have h7:yX.length=7:=rfl;have hg:∀(i:Nat) (y:af),i≤7→Rt.hasB s (a+i) y=decide (((yX.drop i)++r).take y.length=y):=fun i y hi=>by
  unfold Rt.hasB;rw[←List.drop_drop,h,List.drop_append_of_le_length (by rw[h7];exact hi)]
 have e:Rt.kb s (a+2)=a+7:=by
  have st:∀i,i<5→2≤i→Rt.kb s (a+i)=Rt.kb s (a+(i+1)):=fun i hi h2=>by
   rw[Rt.kb,dif_pos (by omega),if_neg,Nat.add_assoc];rw[hg i _ (by omega)];rcases (by omega:i=2∨i=3∨i=4) with rfl|rfl|rfl<;>simp[yX]
  rw[st 2 (by decide) (by decide),st 3 (by decide) (by decide),st 4 (by decide) (by decide),Rt.kb,dif_pos (by omega),if_pos];rw[hg 5 _ (by decide)];simp[yX]
 refine⟨by omega,hl, ?_⟩;rw[Rt.gr,dif_pos ⟨by omega,by have:=hg 0 [47,42] (by decide);rw[Nat.add_zero]at this;rw[this];simp[yX]⟩,e,h7,List.nil_append]
theorem OP(ok:dD 0 false false l=true)(g:ju l=true):TX (fc l) (bJ (vL l)) NX:=yo (uE 0 false false l ok g)
theorem Gj{N:af→Prop}(h:TX s (bJ v) N)(hn:N []):lS s (Rt.gr s 0)=bJ v:=by
 have h:=h s [] 0 (aaO _) (by rw[aaL];rfl) hn;rw[h.2.2,aaQ];have h1:Rt.gr s s.length=s.length:=FH (by unfold Rt.aB;rw[nE,iS (bY _)];decide);rw[h1,lS.eq_def,dif_neg (Nat.lt_irrefl _),aaL]
theorem Us(ok:dD 0 false false l=true)(g:ju l=true)(hn:l≠[])(r:af):Ns (fc l++r):=by
 cases l with
 | nil=>exact absurd rfl hn
 | cons x l =>
   have h:=(uE 0 false false (x:: l) ok g 0 (by rw[de];simp)).2;unfold fc;rw[de]at h ⊢;exact Ce rfl r h
theorem Mn(ok:dD 0 false false l=true)(g:ju l=true)(hn:l≠[]):TX ([32,10]++(fc l++(yX++[32]))) (bJ ([cH]++(vL l++[cH]))) Ns:=by
 have h1:TX [32,10] (iI cH) Ns:=xu (by simp) (by decide);have h2:=WH.cat wc fun _ _=>trivial;have h3:=(OP ok g).cat h2 fun r _=>NX.cons _ (by decide);refine (h1.cat h3 fun r _=>?_).of rfl ?_
 ·rw[To];exact Us ok g hn _
 ·rw[fo,fo,cf,dm,aaL,List.nil_append]
theorem RB(okl:dD 0 false false l=true)(gl:ju l=true)(okm:dD 0 false false m=true)(gm:ju m=true)(hm:m≠[]):TX (fc l++([9,44,10]++fc m)) (bJ (vL l++(cH:: oO:: cH:: vL m))) NX:=by
 have h1:TX [9] (iI cH) Ns:=xu (by simp) (by decide);have h2:TX [10] (iI cH) Ns:=xu (by simp) (by decide);have h3:=h2.cat (OP okm gm) fun r _=>Us okm gm hm r;have h4:=PH.cat h3 fun _ _=>trivial;have h5:=h1.cat h4 fun r _=>show Rt.eY 44=false by decide
 refine ((OP okl gl).cat h5 fun r _=>NX.cons _ (by decide)).of rfl ?_;rw[fo,cf,cf,cf]
/-! ### Parts with spaces around -/
abbrev Pd:=List Vl×Cx×List Vl
def sK(y:Pd):List Vl:=y.1++(vX y.2.1++y.2.2)
def mC:List Pd→List Vl
 | []=>[]
 | [y]=>sK y
 | y:: z:: l=>sK y++oO:: mC (z:: l)
def lC(o:List Vl):List Vl→List Cx→List Pd
 | _,[]=>[]
 | q,[x]=>[(q,x,o)]
 | q,x:: y:: l=>(q,x,[]):: lC o [cH] (y:: l)
theorem yZ:∀(A B:List Pd),A≠[]→B≠[]→mC (A++B)=mC A++oO:: mC B
 | [],_,h,_=>absurd rfl h
 | [y],[],_,h=>absurd rfl h
 | [y],z:: B,_,_=>rfl
 | y:: z:: A,B,_,h=>by
   show sK y++oO:: mC (z:: A++B)=(sK y++oO:: mC (z:: A))++oO:: mC B;rw[yZ (z:: A) B (by simp) h];simp only[To,abg]
theorem DT(o:List Vl):∀(q:List Vl) (l:List Cx),(lC o q l).map (fun y=>y.2.1)=l
 | _,[]=>rfl
 | _,[x]=>rfl
 | q,x:: y:: l=>by
   show x:: (lC o [cH] (y:: l)).map _=_;rw[DT o [cH] (y:: l)]
theorem xe{o q:List Vl}:∀{l:List Cx},l≠[]→lC o q l≠[]
 | [],h=>absurd rfl h
 | [x],_=>by simp[lC]
 | x:: y:: l,_=>by simp[lC]
theorem uZ(o:List Vl):∀(q:List Vl) (l:List Cx),l≠[]→mC (lC o q l)=q++(vL l++o)
 | _,[],h=>absurd rfl h
 | q,[x],_=>by
   show sK (q,x,o)=_;unfold sK;rw[uF,oH,aaL]
 | q,x:: y:: l,_=>by
   have ih:=uZ o [cH] (y:: l) (by simp);have e:mC (lC o q (x:: y:: l))=sK (q,x,[])++oO:: mC (lC o [cH] (y:: l)):=by
    rw[lC];cases h:lC o [cH] (y:: l) with
    | nil=>exact absurd h (xe (by simp))
    | cons z L=>rfl
   rw[e,ih,uF x,oH,uF y];unfold sK;simp only[To,abg,aaL,List.singleton_append,List.nil_append]
def BG(y:Pd):Prop:=eL 0 false false y.2.1=true∧gX y.2.1=true∧hX y.2.1=true∧Po y.1∧Po y.2.2
theorem Bm{o:List Vl}(ho:Po o):∀(q:List Vl) (l:List Cx),Po q→dD 0 false false l=true→ju l=true→ot l=true→∀y∈lC o q l,BG y
 | _,[],_,_,_,_=>fun y h=>by rw[lC]at h;cases h
 | q,[x],hq,ok,g,h=>fun y hy=>by
   rw[lC,TO]at hy;subst hy;rw[dD,NO]at ok;rw[ju,NO]at g;rw[ot,NO]at h;exact⟨ok.1,g.1,h.1,hq,ho⟩
 | q,x:: z:: l,hq,ok,g,h=>fun y hy=>by
   rw[dD,NO]at ok;rw[ju,NO]at g;rw[ot,NO]at h;rw[lC]at hy;rcases ID.1 hy with rfl|hy
   ·exact⟨ok.1,g.1,h.1,hq,Or.inl rfl⟩
   ·exact Bm ho [cH] (z:: l) (Or.inr rfl) ok.2 g.2 h.2 y hy
theorem Po.nc{o:List Vl}(h:Po o):NC o:=by
 rcases h with rfl|rfl
 ·exact fun _ h=>absurd h (List.not_mem_nil)
 ·exact mb (show (13:Int)≠18 by decide)
theorem BG.nc{y:Pd}(h:BG y):NC (sK y):=h.2.2.2.1.nc.app ((Og h.1).app h.2.2.2.2.nc)
theorem Ds:∀L:List Pd,L≠[]→(∀y∈L,BG y)→eZ (mC L)=L.map sK
 | [],h,_=>absurd rfl h
 | [y],_,h=>vQ _ (h y (by simp)).nc
 | y:: z:: L,_,h=>by
   show eZ (sK y++oO:: mC (z:: L))=_;rw[Cs _ _ (h y (by simp)).nc,Ds (z:: L) (by simp) fun u hu=>h u (Lt _ hu)];rfl
theorem FL:∀(L:List Pd) (acc:List Cx),(∀y∈L,BG y)→ib (mO (mP (eV 0 false)) (cZ 0 false) false) false (L.map sK) acc=(acc++L.map (fun y=>y.2.1),true)
 | [],acc,_=>by rw[List.map_nil,ib,List.map_nil,aaL]
 | y:: L,acc,h=>by
   obtain⟨h1,h2,h3,h4,h5⟩:=h y (by simp);rw[GO,ib];unfold sK;rw[Zz h1 h2 h3 _ _ h4 h5,if_pos rfl];have:=FL L (acc++[y.2.1]) fun u hu=>h u (Lt _ hu);unfold sK at this;rw[this,To];rfl
theorem Ip{L:List Pd}(hn:L≠[])(h:∀y∈L,BG y):nL 3 false (mC L) false false=(L.map (fun y=>y.2.1),true):=by
 rw[se (d:=0) (by decide),Ds L hn h,FL L [] h];rfl
theorem DY(m:Nat):Sh m [cH]:=pO m
theorem VN(m:Nat):Sh m [oO]:=jW m (by decide) (by decide) (by decide)
theorem JT(ok:dD 0 false false l=true)(g:ju l=true)(h:ot l=true)(hn:l≠[])(h64:¬64<number l)(h4:(fc l).length≤3900)(hs:s=[32,10]++(fc l++(yX++[32]))):ql s=(l,0)∨ql s=([],4):=by
 subst hs;have hS:Sh 16 ([cH]++(vL l++[cH])):=(DY 16).app (((JU ok).mono (by decide)).app (DY 16));have w:WB ([32,10]++(fc l++(yX++[32]))):=(fy (by decide)).app ((Ka ok).app (fy (by decide)));have r:=Ip (L:=lC [cH] [cH] l) (xe hn) (Bm (Or.inr rfl) _ l (Or.inr rfl) ok g h);rw[uZ _ _ _ hn,DT]at r;have h7:(yX++[32]).length=8:=rfl;rw[JS w (Gj (Mn ok g hn) (by decide)) (hS.1 0 (Or.inl rfl)) hS.2,if_neg (by simp only[AT,aaB,abd,h7];omega),r];dsimp only;rw[if_pos rfl,if_neg h64];split
 ·right;rfl
 ·left;rfl
theorem Oo(okl:dD 0 false false l=true)(gl:ju l=true)(hl:ot l=true)(nl:l≠[])(okm:dD 0 false false m=true)(gm:ju m=true)(hm:ot m=true)(nm:m≠[])(h4:(fc l).length+(fc m).length≤3900)(hs:s=fc l++([9,44,10]++fc m)):
 (ql s=(l++m,0)∧¬64<number (l++m))∨ql s=([],4):=by
 subst hs;have hS:Sh 16 (vL l++(cH:: oO:: cH:: vL m)):=((JU okl).mono (by decide)).app ((DY 16).cons ((VN 16).cons ((DY 16).cons ((JU okm).mono (by decide)))));have w:WB (fc l++([9,44,10]++fc m)):=(Ka okl).app ((fy (by decide)).app (Ka okm));have r:=Ip (L:=lC [cH] [] l++lC [] [cH] m) (by simp[xe nl]) fun y hy=>(Is.1 hy).elim (Bm (Or.inr rfl) _ l (Or.inl rfl) okl gl hl y) (Bm (Or.inl rfl) _ m (Or.inr rfl) okm gm hm y);rw[yZ _ _ (xe nl) (xe nm),uZ _ _ _ nl,uZ _ _ _ nm,List.map_append,DT,DT]at r;have ev:vL l++(cH:: oO:: cH:: vL m)=[]++(vL l++[cH])++oO:: ([cH]++(vL m++[])):=by simp
 rw[JS w (Gj (RB okl gl okm gm nm) NX.nil) (hS.1 0 (Or.inl rfl)) hS.2,if_neg (by simp only[AT,aaB,abd];omega),ev,r];dsimp only;rw[if_pos rfl];split
 ·right;rfl
 ·split
  ·right;rfl
  ·rename_i q;left;exact⟨rfl,q⟩
theorem qR(sep:Nat→af)(ts:List af):∃R,∀t:af,gR sep (t:: ts)=sep 0++(t++R):=by
 refine⟨(List.range ts.length).flatMap fun i=>sep (i+1)++ts.getD i [],fun t=>?_⟩;unfold gR fj;rw[List.length_cons,List.range_succ_eq_map,List.flatMap_cons,List.flatMap_map,List.append_assoc];rfl
theorem GL(sep:Nat→List Vl)(ts:List (List Vl)):∃R,∀t:List Vl,gq sep (t:: ts)=sep 0++(t++R):=⟨_,fun t=>vm sep t ts⟩
def Cw(t:af)(ss:List Sm)(ps:List Cp)(cs:List Int)(l:List Cx):List Cx:=.mk 0 (.mk t ss:: ps) cs:: l
theorem Vw(ss:List Sm)(ps:List Cp)(cs:List Int)(l:List Cx):∃R,∀t,t≠[42]→fc (Cw t ss ps cs l)=eW t++((fC ss).flatten++R):=by
 obtain⟨R1,h1⟩:=qR (ga cs) (dE ps);obtain⟨R2,h2⟩:=qR fS (de l);refine⟨R1++R2,fun t ht=>?_⟩;unfold fc Cw;rw[de,h2,oU,if_neg (by decide),dE,h1,oI,if_neg ht];simp only[fS,ga,if_true,List.nil_append,List.append_assoc]
theorem WN(ss:List Sm)(ps:List Cp)(cs:List Int)(l:List Cx):∃V,∀t,t≠[42]→t≠[]→vL (Cw t ss ps cs l)=lf 1 t false:: V:=by
 obtain⟨R1,h1⟩:=GL (qU cs) (ml ps);refine⟨mn ss++(R1++oH l),fun t h42 h0=>?_⟩;unfold Cw;rw[uF,vX,if_neg (by decide),ml,h1,vP,if_neg h42,if_neg h0];simp only[qU,if_true,List.nil_append,List.append_assoc,List.singleton_append,List.cons_append]
theorem Hf{fn:af→List Vl→Sm×Bool}{ok:Cp→Bool}(h:bT t'=bT t)(r:List Vl):mO fn ok false (lf 1 t' false:: r)=mO fn ok false (lf 1 t false:: r):=by
 have e:∀t,eF (lf 1 t false:: r)=(bT t,r):=fun t=>by rw[eF,if_pos (show (lf 1 t false).kind=1 from rfl),xQ]
 have s:∀t,cv (lf 1 t false:: r)=lf 1 t false:: r:=fun t=>oC (by rw[nJ];decide);unfold mO;rw[s,s];dsimp only;rw[if_neg (by decide),if_neg (by decide),js.eq_def,js.eq_def fn ok 0 ((lf 1 t false:: r).length+1)];dsimp only[List.length_cons];rw[e,e,h]
theorem UL(h:bT t'=bT t)(V:List Vl):nL 3 false (lf 1 t' false:: V) false false=nL 3 false (lf 1 t false:: V) false false:=by
 rw[se (d:=0) (by decide),se (d:=0) (by decide),eZ,eZ,if_neg (show ¬(lf 1 t' false).kind=18 by rw[nJ];decide),if_neg (show ¬(lf 1 t false).kind=18 by rw[nJ];decide)];cases eZ V with
 | nil=>simp only[ib,Hf h]
 | cons a b=>simp only[ib,Hf h]
theorem QZ{t:af}(h:t≠[]):∃c q,eW t=c:: q:=by
 cases t with
 | nil=>exact absurd rfl h
 | cons c0 m =>
   obtain⟨b,y,hb,_⟩:=pg (c0:: m) (gY (c0:: m)) 0 c0;refine⟨b,y++nK (c0:: m) (gY (c0:: m)) 1 m.length, ?_⟩;show jy _ _ _=_;rw[←xX,List.length_cons,nA];show il _ _ 0 c0++_=_;rw[hb];rfl
def az(c:UInt8):Prop:=97≤c.toNat∧c.toNat≤122
instance (c:UInt8):Decidable (az c):=inferInstanceAs (Decidable (_∧_))
theorem Kw:∀c:UInt8,az c→Rt.eX c=true∧c≠92∧zf (c-32)=true∧cn (c-32)=false∧c-32≠45∧c≠45∧c-32≠0∧sB (c-32)=true∧bG.dF (c-32)=bG.dF c∧c-32≠42:=
 dZ (P:=fun c=>az c→Rt.eX c=true∧c≠92∧zf (c-32)=true∧cn (c-32)=false∧c-32≠45∧c≠45∧c-32≠0∧sB (c-32)=true∧bG.dF (c-32)=bG.dF c∧c-32≠42) (by decide +kernel)
theorem Uq{t:af}{r:af}(hc:az c)(h:eW t=c:: r):∃t1,t=c:: t1∧eW ((c-32):: t1)=(c-32):: r:=by
 obtain⟨h1,h2,h3,h4,h5,h6,_⟩:=Kw c hc;cases t with
 | nil=>cases h
 | cons c0 m =>
   have e0:∀d:UInt8,eW (d:: m)=il (d:: m) (gY (d:: m)) 0 d++nK (d:: m) (gY (d:: m)) 1 m.length:=fun d=>by
    show jy _ _ _=_;rw[←xX,List.length_cons,nA];rfl
   have f1:∀d:UInt8,d≠45→gY (d:: m)=1:=fun d hd=>by
    unfold gY;rw[if_neg (by intro e;exact hd (List.head_eq_of_cons_eq (show [d]=[45] from e)))]
   obtain⟨b,y,hb,hh⟩:=pg (c0:: m) (gY (c0:: m)) 0 c0;rw[e0,hb,List.cons_append]at h;obtain⟨hbc,hr⟩:=List.cons.inj h;rcases hh with⟨raw,e,_⟩|⟨_,e⟩
   ·obtain rfl:c0=c:=by rw[←e];exact hbc
    refine⟨m,rfl, ?_⟩;have hy:y=[]:=by
     unfold il at hb;rw[if_pos raw]at hb;exact (List.cons.inj hb).2.symm
    subst hy;rw[f1 _ h6,List.nil_append]at hr;rw[e0,f1 _ h5];have e1:il ((c0-32):: m) 1 0 (c0-32)=[c0-32]:=by
     unfold il kO;rw[h3,h4,if_pos];simp only[Bool.not_false,Bool.or_true,Bool.and_true,Bool.true_and];rw[Bool.or_eq_true];right;simp only[Bool.not_eq_true',decide_eq_false_iff_not];intro e;exact h5 (List.head_eq_of_cons_eq e)
    rw[e1,←hr];show (c0-32):: nK _ 1 1 m.length=_
    congr 1
    unfold nK;simp only[List.flatMap_def]
    congr 1
    refine List.map_congr_left fun j hj=>?_;obtain⟨i,hi,rfl⟩:=List.mem_range'.1 hj;have g:((c0-32):: m).getD (1+1*i) 0=(c0:: m).getD (1+1*i) 0:=by
     rw[Nat.one_mul,Nat.add_comm];rfl
    rw[g];unfold il kO;have n1:decide ((c0-32):: m=[45])=false:=decide_eq_false fun e=>h5 (List.head_eq_of_cons_eq e);have n2:decide (c0:: m=[45])=false:=decide_eq_false fun e=>h6 (List.head_eq_of_cons_eq e);rw[n1,n2]
   ·exact absurd (e.symm.trans hbc).symm h2
theorem Rg(ok:dD 0 false false l=true)(g:ju l=true)(h:ot l=true)(hn:l≠[])(h64:¬64<number l)(h4:(fc l).length≤3900){r:af}(e:fc l=c:: r)(hc:az c):ql ((c-32):: r)=(l,0)∨ql ((c-32):: r)=([],4):=by
 cases l with
 | nil=>exact absurd rfl hn
 | cons x l =>
   obtain⟨ld,ps,cs⟩:=x;obtain⟨c1,c2,_,_,_,_,c0,cw,cl,Tw⟩:=Kw c hc;have okx:=ok;rw[dD,Bool.and_eq_true,eL]at okx;simp only[Bool.and_eq_true,decide_eq_true_eq,beq_iff_eq]at okx;obtain⟨⟨⟨⟨⟨⟨hr,l4⟩,hlen⟩,h64'⟩,hcs⟩,ops⟩,okl⟩:=okx;have hcs2:∀c∈cs,1≤c∧c≤4:=fun c hc=>of_decide_eq_true (List.all_eq_true.1 hcs c hc);obtain rfl:ld=0:=by simpa using hr
   have gx:=g;rw[ju,Bool.and_eq_true,gX]at gx;obtain⟨gps,gl⟩:=gx;cases ps with
   | nil=>simp at hlen
   | cons p ps =>
     obtain⟨t,ss⟩:=p;rw[me,Bool.and_eq_true]at ops;rw[uh,Bool.and_eq_true,gP]at gps;obtain⟨op,ops⟩:=ops;have hsome:=vA op;rw[cZ]at op;simp only[Bool.and_eq_true,Bool.or_eq_true,decide_eq_true_eq]at op;obtain⟨⟨⟨ht,_⟩,_⟩,hs⟩:=op;obtain⟨b1,b2,b3⟩:=Gq 0 false ss hs gps.1;obtain⟨R,hR⟩:=Vw ss ps cs l;obtain⟨V,hV⟩:=WN ss ps cs l;have n42:t≠[42]:=by
      rintro rfl;obtain⟨R1,h1⟩:=qR (ga cs) (dE ps);obtain⟨R2,h2⟩:=qR fS (de l);unfold fc at e;rw[de,h2,oU,if_neg (by decide),dE,h1,oI,if_pos rfl]at e;have:=(List.cons.inj (show 42:: _=c:: r from e)).1;subst this;exact absurd hc (by decide)
     have e':eW t++((fC ss).flatten++R)=c:: r:=by rw[←hR t n42];exact e
     have n0:t≠[]:=by
      rintro rfl;have hne:ss≠[]:=hsome.resolve_left fun z=>z rfl;cases ss with
      | nil=>exact hne rfl
      | cons s ss =>
        rw[mV,Bool.and_eq_true]at hs;rw[wv,Bool.and_eq_true]at gps;have h2:=(PI 0 false s hs.1 gps.1.1).2.1 ((fC ss).flatten++R);rw[show eW []=[] from rfl,List.nil_append,fC,List.flatten_cons,List.append_assoc]at e';rw[e']at h2;have:=h2.nx.1.1 c rfl;rw[c1]at this;exact absurd this.1 (by decide)
     obtain⟨q,eq⟩:∃q,eW t=c:: q:=by
      obtain⟨d,q,hq⟩:=QZ n0;rw[hq]at e';have:=(List.cons.inj e').1;exact⟨q,by rw[hq,this]⟩
     have er:r=q++((fC ss).flatten++R):=by rw[eq]at e';exact (List.cons.inj e').2.symm
     obtain⟨t1,rfl,et⟩:=Uq hc eq;have hsm:bG.small (c:: t1)=true:=ht.resolve_left fun z=>z.elim n0 n42;unfold bG.small at hsm;rw[Bool.and_eq_true]at hsm;have hz:∀d∈(c-32):: t1,d≠0:=fun d hd=>(List.mem_cons.1 hd).elim (fun e=>by rw[e];exact c0) fun h=>(uq hsm.1).1 d (List.mem_cons_of_mem _ h);have m42:(c-32):: t1≠[42]:=fun e=>Tw (List.head_eq_of_cons_eq e);have es:fc (Cw ((c-32):: t1) ss ps cs l)=(c-32):: r:=by rw[hR _ m42,et,er];rfl
     have hT:TX ((c-32):: r) (bJ (lf 1 ((c-32):: t1) false:: V)) NX:=by
      rw[←es,←hV _ m42 (by simp)];refine yo fun i hi=>?_;unfold Cw at hi ⊢;rw[de]at hi ⊢;rw[jj];cases i with
      | succ i=>exact uE 0 false false l okl gl i (by simpa using hi)
      | zero =>
        refine PG (by decide) (by simpa using hlen) hcs2 fun i hi=>?_;rw[dE]at hi ⊢;rw[ml];cases i with
        | succ i=>exact Gp 0 false ps ops gps.2 i (by simpa using hi)
        | zero=>exact WG hz (by simp) m42 ⟨b1,b2⟩
     have w:WB ((c-32):: r):=by
      have w0:=Ka ok;rw[e]at w0;exact (fy (s:=[c-32]) (by rw[List.all_cons,cw];rfl)).app fun d hd=>w0 d (List.mem_cons_of_mem _ hd)
     have hS:=(JU ok).mono (show 4≤16 by decide);have ev:vL (.mk 0 (.mk (c:: t1) ss:: ps) cs:: l)=lf 1 (c:: t1) false:: V:=hV _ n42 n0;rw[ev]at hS;have hS':Sh 16 (lf 1 ((c-32):: t1) false:: V):=by
      refine (jW 16 (t:=(c-32):: t1) (by decide) (by decide) (by decide)).cons ⟨fun k hk=>?_, ?_⟩
      ·have h:=hS.1 k hk;rw[←List.singleton_append,od,Bool.or_eq_false_iff]at h;exact h.2
      ·have h:=hS.2;rw[←List.singleton_append,nn]at h;exact Nat.le_trans (Nat.le_max_right _ _) h
     have rd:=ZR ok g h hn [] (Or.inl rfl);rw[List.nil_append,ev]at rd;have low:bT ((c-32):: t1)=bT (c:: t1):=by unfold bT;rw[List.map_cons,List.map_cons,cl]
     have hl:((c-32):: r).length=(fc (.mk 0 (.mk (c:: t1) ss:: ps) cs:: l)).length:=by rw[e];rfl
     rw[JS w (Gj hT NX.nil) (hS'.1 0 (Or.inl rfl)) hS'.2,if_neg (by rw[hl];omega),UL low,rd];dsimp only;rw[if_pos rfl,if_neg h64];split
     ·right;rfl
     ·left;rfl
theorem yr(e:x=b_ b1)(hE:E)(ha:∀F:List AV→aa→Prop,F [ff,b_ b2] H→A F)(q:f (b_ (b1||b2)) H):
 aw (fun J=>ar x false (A J) (E∧J [aN false x,un] H)) fun s h=>aI (nx s 0) tt (nx s 1) fun v=>f v h:=by
 subst e;refine aH ?_;cases b1 with
 | true=>exact zzM rfl ⟨hE,aM rfl q⟩
 | false=>exact zzN rfl (ha _ (zzQ q))
theorem Bz(e:x=b_ b1)(hE:E)(ha:b1=true→∀F:List AV→aa→Prop,F [tt,b_ b2] H→A F)(q:f (b_ (b1&&b2)) H):
 aw (fun J=>ar x true (A J) (E∧J [aN true x,un] H)) fun s h=>aI (nx s 0) (nx s 1) ff fun v=>f v h:=by
 subst e;refine aH ?_;cases b1 with
 | true=>exact zzN rfl (ha rfl _ (zzR q))
 | false=>exact zzM rfl ⟨hE,aO rfl q⟩
theorem J9{E E3:Prop}(e:x=b_ b)(hE:E)(h2:∀s,E2 s)(h3:E3)(ha:∀F:List AV→aa→Prop,F [ff,b_ p] H→A F)
 (hb:p=true→∀s,∀F:List AV→aa→Prop,F [tt,b_ q] H→B s H F) (k:f (b_ (b||(p&&q))) H) :
 aw (fun J=>ar x false (A J) (E∧J [aN false x,un] H)) fun s g=>aw (fun J=>ar (nx s 1) true (B s g J) (E2 s∧J [aN true (nx s 1),un] g)) fun s2 g2=>aw (fun J=>ar (nx s 0) false (aI (nx s2 0) (nx s2 1) ff fun v=>E3∧J [ff,v] g2) (E3∧J [aN false (nx s 0),un] g2)) fun s4 g4=>aI (nx s4 0) tt (nx s4 1) fun v=>f v g4:=by
 subst e;refine aH ?_;cases b with
 | true=>exact zzM rfl ⟨hE,aH (dc rfl ⟨h2 _,aH (zzM rfl ⟨h3,aM rfl k⟩)⟩)⟩
 | false =>
   refine zzN rfl (ha _ (aH ?_));cases p with
   | true=>exact zzN rfl (hb rfl _ _ (aH (zzN rfl (zzR ⟨h3,aO rfl k⟩))))
   | false=>exact zzM rfl ⟨h2 _,aH (zzN rfl (zzQ ⟨h3,aO rfl k⟩))⟩
theorem WO(e:x=b_ b)(hE:E)(h2:∀s,E2 s)(ha:∀F:List AV→aa→Prop,F [ff,b_ p] H→A F)
 (hb:p=true→∀s,∀F:List AV→aa→Prop,F [tt,b_ q] H→B s H F) (k:f (b_ (b||(p&&q))) H) :
 aw (fun J=>ar x false (A J) (E∧J [aN false x,un] H)) fun s g=>aw (fun J=>ar (nx s 1) true (B s g J) (E2 s∧J [aN true (nx s 1),un] g)) fun s2 g2=>aw (fun J=>ar (nx s 0) false (aI (nx s2 0) (nx s2 1) ff fun v=>J [ff,v] g2) (J [aN false (nx s 0),un] g2)) fun s4 g4=>aI (nx s4 0) tt (nx s4 1) fun v=>f v g4:=by
 subst e;refine aH ?_;cases b with
 | true=>exact zzM rfl ⟨hE,aH (dc rfl ⟨h2 _,aH (zzM rfl (zzR k))⟩)⟩
 | false =>
   refine zzN rfl (ha _ (aH ?_));cases p with
   | true=>exact zzN rfl (hb rfl _ _ (aH (zzN rfl (zzR (zzQ k)))))
   | false=>exact zzM rfl ⟨h2 _,aH (zzN rfl (zzQ (zzQ k)))⟩
section
variable [bq]
theorem tZ{s:af}{l:List Cx}{e:Int}(h:ql s=(l,e)):bn p_ 8 [.str s] (.aA [.sl 3 (bC l),i_ e]):=by
 have c:=P6 s;rw[h]at c;refine c.qB (.aA (.cons (ui (xV l)) (.cons (.refl _) .nil))) ?_;simp[Aw.Pure,aV,fG]
theorem sO{s t:af}{l:List Cx}(h:ql s=(l,0))(hw:fc l=t)(hc:fD l=0)(h4:(fc l).length≤4000)(hz:cD l≤2^28)(hg:ju l=true):bn p_ 15 [.str s,.str t] tt:=by
 refine (V15 _ _).bj (by simp) (by simp) ?_;unfold W5;refine uCon (tZ h) (zzB rfl (zzB rfl ?_));have c:=wL l hz hg;rw[qV,if_pos hc,if_pos h4,hw]at c;refine uCon c (zzB rfl (zzB rfl (zzG (Bz rfl rfl (fun _ F k=>bR rfl rfl ⟨rfl,k⟩) (aH (zzN rfl (zzI (zzR ?_))))))));exact .pure (by simp) (by simp)
theorem Nr{s:af}{l:List Cx}(h:ql s=(l,12)):bn p_ 16 [.str s] tt:=by
 refine (V16 _).bj (by simp) (by simp) ?_;unfold Xa;refine uCon (tZ h) (zzB rfl (zzB rfl (zzG ?_)));exact .pure (by simp) (by simp)
def aS(k:Int)(n:af):Sm:=dt k n
def Ue(k:Int)(l:List Cx):Sm:=.mk k [] 0 [] false 0 0 false l
def Ci(t:af)(ss:List Sm):Cx:=.mk 0 [.mk t ss] []
theorem AI:bn p_ 7 [] tt:=by
 refine (V7).bj (by simp) (by simp) ?_;unfold W7;refine uCon (sO (l:=[.mk 0 [.mk [97] [aS 2 [120]],.mk [98] []] [2],Ci [] [Ue 11 [Ci [112] [],.mk 0 [.mk [113] [],.mk [114] []] [1]]]]) (by kernel_rfl) (by kernel_rfl) (by kernel_rfl) (by decide +kernel) (by decide +kernel) (by kernel_rfl)) (aH (zzN rfl (uCon (sO (l:=[Ci [] [.mk 3 [104,114,101,102] 4 [120] true 0 0 false []]]) (by kernel_rfl) (by kernel_rfl) (by kernel_rfl) (by decide +kernel) (by decide +kernel) (by kernel_rfl)) (zzR (aH (zzN rfl (uCon (sO (l:=[Ci [] [.mk 9 [] 0 [] false 0 1 false []]]) (by kernel_rfl) (by kernel_rfl) (by kernel_rfl) (by decide +kernel) (by decide +kernel) (by kernel_rfl)) (zzR (aH (zzN rfl (uCon (Nr (l:=[]) (by kernel_rfl)) (zzR (aH ?_)))))))))))));refine zzN rfl (uCon (sO (l:=[Ci [97] [Ue 11 [Ci [98] [Ue 14 [.mk 1 [.mk [99] []] []]]]]]) (by kernel_rfl) (by kernel_rfl) (by kernel_rfl) (by decide +kernel) (by decide +kernel) (by kernel_rfl)) (zzR ?_));exact .pure (by simp) rfl
end
theorem Be:∀l m:List Cx,bG.dN (l++m)=bG.dN l+bG.dN m
 | [],m=>by simp[bG.dN]
 | x:: l,m=>by rw[abg,bG.dN,bG.dN,Be l m];omega
theorem DH(l m:List Cx):number (l++m)=number l+number m:=by unfold number;rw[AT,Be];omega
theorem BD:∀l m:List Cx,cD (l++m)=cD l+cD m
 | [],m=>by simp[cD]
 | x:: l,m=>by rw[abg,cD,cD,BD l m];omega
theorem zg{d:Nat}{has rel:Bool}(h:dD d has rel l=true)(k:dD d has rel m=true):dD d has rel (l++m)=true:=by
 rw[km]at *;rw[List.all_append,h,k];rfl
theorem Eo(h:fD l=0):dD 0 false false l=true∧l≠[]∧¬64<number l:=by
 have ok:=zu h;unfold fD at h;rw[ok,Bool.and_true]at h;cases l with
 | nil=>simp at h
 | cons x l =>
   rw[if_pos (by simp)]at h;refine⟨ok,by simp,fun z=>?_⟩;rw[if_neg (by omega)]at h;exact absurd h (by decide)
theorem IM(h:fD l=0):∃t e,qV l=.aA [.str t,i_ e]∧(e=0∧t=fc l∧(fc l).length≤4000∨e=28)∧t.length≤4000:=by
 unfold qV;rw[if_pos h];split
 ·rename_i q;exact⟨_,_,rfl,.inl ⟨rfl,rfl,q⟩,q⟩
 ·exact⟨_,_,rfl,.inr rfl,by decide⟩
theorem FR(h:ql s=(l,0)∨ql s=([],4)):∃x e,ql s=(x,e)∧(e=0∧x=l∨e=4∧x=[]):=h.elim (fun h=>⟨_,_,h,.inl ⟨rfl,rfl⟩⟩) fun h=>⟨_,_,h,.inr ⟨rfl,rfl⟩⟩
section
variable [bq]
theorem Jh{l m:List Cx}(zl:cD l≤2^28)(gl:ju l=true)(hl:ot l=true)(zm:cD m≤2^28)(gm:ju m=true)(hm:ot m=true):bn p_ 4 [.sl 3 (bC l),.sl 3 (bC m)] tt:=by
 refine (V4 _ _).bj (by simp[fG,aV,Aw.Pure]) (by simp) ?_;unfold W4;have al:∀H,bz p_ (.fn (.func 7) [] []) [] H fun v h=>dK tt v h:=fun H=>uCon AI (.pure (by simp) rfl);refine uCon (CQ l (by omega)) (yr (b2:=decide (600<kS 600 0 m)) rfl rfl (fun F k=>uCon (CQ m (by omega)) ⟨rfl,k⟩) (yr (b2:=!decide (fD l=0)) rfl rfl (fun F k=>uCon (AN l (by omega)) (zzH ⟨rfl,k⟩)) (yr (b2:=!decide (fD m=0)) rfl rfl (fun F k=>uCon (AN m (by omega)) (zzH ⟨rfl,k⟩)) ?_)));refine ct rfl (fun _=>al _) fun e=>?_;simp only[abi,Bool.not_eq_false',Of]at e;obtain⟨⟨_,cl⟩,cm⟩:=e;obtain⟨okl,nl,l64⟩:=Eo cl;obtain⟨okm,nm,m64⟩:=Eo cm;obtain⟨t1,e1,ht1,h1,b1⟩:=IM cl;obtain⟨t2,e2,ht2,h2,b2⟩:=IM cm;have c1:=wL l zl gl;have c2:=wL m zm gm;rw[ht1]at c1;rw[ht2]at c2;refine uCon c1 (zzB rfl (zzB rfl (uCon c2 (zzB rfl (zzB rfl (zzH (yr (b2:=!decide (e2=0)) rfl rfl (fun F k=>dG rfl rfl ⟨rfl,k⟩) (yr (b2:=decide ((3900:Int)<(t1.length:Int)+(t2.length:Int))) rfl rfl (fun F k=>lN rfl fun q1=>lN rfl fun q2=>cg rfl rfl (by unfold aJ;omega) (zzE ⟨rfl,k⟩)) ?_))))))));refine ct rfl (fun _=>al _) fun e=>?_;simp only[abi,Bool.not_eq_false',Of,decide_eq_false_iff_not]at e;obtain⟨⟨rfl,rfl⟩,h39⟩:=e;obtain⟨_,rfl,l4⟩:=h1.resolve_right (by decide);obtain⟨_,rfl,m4⟩:=h2.resolve_right (by decide);refine tU rfl rfl (by simp only[aaB,abd];omega) (tU rfl rfl (by simp only[AT,aaB,abd];omega) ?_);have r1:=JT okl gl hl nl l64 (by omega) (s:=[32,10]++fc l++[47,42,32,99,32,42,47,32]) (by rw[To];rfl);obtain⟨x,e1,hx,hx2⟩:=FR r1;refine uCon (tZ hx) (zzB rfl (zzB rfl (tU rfl rfl (by simp only[aaB,abd];omega) (tU rfl rfl (by simp only[AT,aaB,abd];omega) ?_))));have r2:=Oo okl gl hl nl okm gm hm nm (by omega) (s:=fc l++[9,44,10]++fc m) (by rw[To]);obtain⟨y,e2,hy,hy2⟩:∃y e,ql (fc l++[9,44,10]++fc m)=(y,e)∧(e=0∧y=l++m∧¬64<number (l++m)∨e=4∧y=[]):=r2.elim (fun h=>⟨_,_,h.1,.inl ⟨rfl,rfl,h.2⟩⟩) fun h=>⟨_,_,h,.inr ⟨rfl,rfl⟩⟩;refine uCon (tZ hy) (zzB rfl (zzB rfl ?_));have ll:=nQ l;have lm:=nQ m;have hel:(bC l).length=l.length:=by simp[ck]
 have hem:(bC m).length=m.length:=by simp[ck]
 have ra:∀l,(bC l).all (dk 3)=true:=fun l=>by rw[ck];exact yj (fun x=>by rw[iL];exact⟨rfl,by simp[bQ]⟩) l
 refine PT (Lq (n:=0) (k:=l.length) (h':=[.tok 39 3 l.length]) rfl fP (ra l) hel ⟨by unfold maxLen;omega,by omega⟩ rfl rfl (xa (k:=l.length) (h':=[.tok 39 3 (l.length+m.length)]) rfl rfl hel.symm fP (ra m) ⟨by rw[hem];unfold maxLen;omega,by rw[hem];omega⟩ (by rw[hem];rfl) ?_));have eapp:bC l++bC m=bC (l++m):=by simp only[ck,List.map_append]
 rw[eapp];have zlm:=BD l m;have sl:bn p_ 11 [.sl 3 (bC l),.sl 3 (bC l)] tt:=by
  have:=Ew (a:=l) (b:=l) (by omega) (by omega) ⟨_,_,_,okl⟩ ⟨_,_,_,okl⟩
  rwa [qJ rfl]at this
 have slm:bn p_ 11 [.sl 3 (bC (l++m)),.sl 3 (bC (l++m))] tt:=by
  have:=Ew (a:=l++m) (b:=l++m) (by omega) (by omega) ⟨_,_,_,zg okl okm⟩ ⟨_,_,_,zg okl okm⟩
  rwa [qJ rfl]at this
 refine zzG ?_;refine Bz (b2:=false) rfl rfl (fun h F k=>?_) ?_
 ·obtain⟨_,rfl⟩:=hx2.resolve_right fun z=>by rw[z.1]at h;exact absurd h (by decide)
  exact uCon sl (zzO ⟨rfl,k⟩)
 refine J9 (p:=!decide (e1=0)) (q:=!decide (e1=4)) rfl rfl (fun _=>rfl) rfl (fun F k=>dG rfl rfl ⟨rfl,k⟩) (fun _ s F k=>dG rfl rfl ⟨rfl,k⟩) ?_;refine J9 (p:=decide (e2=0)) (q:=false) rfl rfl (fun _=>rfl) rfl (fun F k=>bR rfl rfl ⟨rfl,k⟩) (fun h s F k=>?_) ?_
 ·obtain⟨_,rfl,_⟩:=hy2.resolve_right fun z=>by rw[z.1]at h;exact absurd h (by decide)
  refine rP (by kernel_rfl) slm ?_ (by simp[Flat]) (zzO ⟨rfl,k⟩);rw[GO,GO,List.map_nil,IQ (fG _),kV (by simp[Aw.Pure,fG])];exact⟨Le.refl _,Le.refl _,trivial⟩
 refine J9 (p:=!decide (e2=0)) (q:=!decide (e2=4)) rfl rfl (fun _=>rfl) rfl (fun F k=>dG rfl rfl ⟨rfl,k⟩) (fun _ s F k=>dG rfl rfl ⟨rfl,k⟩) (zzK (by rcases hx2 with⟨rfl,_⟩|⟨rfl,_⟩<;>rcases hy2 with⟨rfl,_⟩|⟨rfl,_⟩<;>rfl) ?_);have d1:=CP l (by omega);have d2:=CP m (by omega);rw[ub,if_pos cl]at d1;rw[ub,if_pos cm]at d2;refine uCon d1 (zzB rfl (zzB rfl (uCon d2 (zzB rfl (zzB rfl (zzH (yr (b2:=false) rfl rfl (fun F k=>dG rfl rfl ⟨rfl,k⟩) (zzK rfl (zzG (Bz (b2:=decide ((64:Int)<(number l:Int)+(number m:Int))) rfl rfl (fun _ F k=>cg rfl rfl (by unfold aJ;omega) (zzE ⟨rfl,k⟩)) ?_))))))))));refine zzK (by
  rcases hy2 with⟨rfl,_,h⟩|⟨rfl,_⟩
  ·rw[DH]at h;simp;omega
  ·rfl) ?_
 obtain⟨c,r,hw⟩:∃c r,fc l=c:: r:=by
  cases h:fc l with
  | nil=>exact absurd h (My cl)
  | cons c r=>exact⟨c,r,rfl⟩
 have ix:∀{K:AV→Prop},K (bg c)→dH (.str (fc l)) (i_ 0) K:=fun k=>Av (n:=0) rfl rfl (by rw[hw];simp) (by rw[hw];exact k);refine ix (zzF (Bz (b2:=decide ((c.toNat:Int)≤122)) rfl rfl (fun _ F k=>ix (zzD ⟨rfl,k⟩)) ?_));refine ct rfl (fun e=>?_) fun _=>al _;simp only[NO,Of]at e;have hc:az c:=⟨by omega,by omega⟩;refine ix (Mi (c:=((c.toNat-32:Nat):Int)) (by decide) rfl rfl (by rw[IntKind.wrap_u8];omega) ?_);have mk:∀{K:AV→Prop} {v:Int},K (.sl 1 ([v].map fun c=>[u1 c]))→br 1 1 (u8 0) [(0,1,u1 v)] K:=fun k=>k;refine mk (I6 rfl ?_);have e32:vU [((c.toNat-32:Nat):Int)]=[c-32]:=by
  unfold vU;rw[GO,Mk]
  congr 1
  have:(c-32).toNat=c.toNat-32:=by rw[UInt8.toNat_sub_of_le _ _ (by show 32≤c.toNat;omega)];rfl
  rw[←this];exact UInt8.ofNat_toNat
 rw[e32];refine nw (a:=1) (b:=(fc l).length) (r:=r) rfl rfl rfl (by rw[hw];simp) (bY _) (by rw[BY,hw];rfl) (tU rfl rfl (by have:(fc l).length=r.length+1:= (by rw[hw]; rfl); simp only[aaB,abd]; omega) ?_);obtain⟨z,e3,hz,hz2⟩:=FR (Rg okl gl hl nl l64 (by omega) hw hc);refine zzT (by kernel_rfl) (tZ hz) (zzB rfl (zzB rfl (zzG ?_)));refine WO (p:=decide (e3=0)) (q:=true) rfl rfl (fun _=>rfl) (fun F k=>bR rfl rfl ⟨rfl,k⟩) (fun h s F k=>?_) ?_
 ·obtain⟨_,rfl⟩:=hz2.resolve_right fun z=>by rw[z.1]at h;exact absurd h (by decide)
  exact uCon sl ⟨rfl,k⟩
 have e4:(decide (e3=4)||decide (e3=0)&&true)=true:=by rcases hz2 with⟨rfl,_⟩|⟨rfl,_⟩<;>rfl
 refine aH (zzN e4 (uCon AI (zzR ?_)));exact .pure (by simp) rfl
end
end
section
open Go Go.Aw Go.bG Go.ChangeShapes Go.WideShapes Go.ChangeAt Go.RowKit
set_option maxRecDepth 100000 in
theorem vG(os:Os)(started:os.Started)(H:Type)(enc:TypeId×Value→H)(F:Stop.Interp):
 ReturnsInHanded {} Tryz.checked os 4 .any (fun w args=>((Rows.OpenSpec.upto Rows.seltextSpacesSpec).pre enc p_ Tryz.f4 Rows.seltextSpacesUptoRow.domain false w args∧laidMetH p_ ox w)∧sizedMet enc p_ Tryz.f4 (Rows.OpenSpec.upto Rows.seltextSpacesSpec) false w args)
  (((Rows.OpenSpec.upto Rows.seltextSpacesSpec).at F).post enc p_ Tryz.f4 false true false false):=by
 refine wH (C:=Tryz.checked) (k:=Rows.uptoSmall) rfl (X:=fun w _=>laidMetH p_ ox w) (fun _ _ _ hh h=>h.of_heap hh) Ok started (by kernel_rfl) Tryz.func4
  (Gx (enc:=enc) (C:=Tryz.checked) (os:=os) (k:=Rows.uptoSmall) rfl (X:=fun w _=>laidMetH p_ ox w) false (World.laidAll p_ os ox) #[.slice none 0 0,.slice none 0 0] 8 (World.laidAll_os _ _ _) (Ga os _) (by kernel_rfl) (x:=([.nil,.nil],[],[])) (by kernel_rfl) (by kernel_rfl) (by kernel_rfl) (by kernel_rfl) (Mf os _)) ?_
 intro W base args ds gs before hval0 hW hkk hL hsh;have hval:∀(j:Nat) t v,Tryz.f4.params[j]?=some t→args[j]?=some v→Value.okWide p_ W .any base t v:=hval0;have hW':=hW;obtain⟨p,q,hA0,hV,rfl,hfz,hnd⟩:=hW;have hA:DataW.TrodAll enc p_ W 0 (fun _=>true) true Tryz.f4.params.toList args.toList ds p:=hA0;rw[Tryz.params4]at hA hval;obtain⟨v0,vs,d0,ds',p0,p1,ea,rfl,rfl,h0,h1⟩:=trodAll_cons hA;obtain⟨v1,vs1,d1,ds1,p2,p3,ea1,rfl,rfl,h2,h3⟩:=trodAll_cons h1;obtain⟨rfl,rfl,rfl⟩:=trodAll_nil h3;have ea:args=#[v0,v1]:=by apply Array.ext';simpa[ea1]using ea
 subst ea;obtain⟨rfl,rfl⟩:=trodVars_none hV;have hv:=hval 0 22 v0 rfl rfl;have hu:=hval 1 22 v1 rfl rfl;obtain⟨l,rl,hz,gl,hl⟩:=Fh (fun cs e=>by subst e;simp[Value.okWide,Cell.okWide,Cell.ok,Tryz.underlying22]at hv) (fun cs e=>by subst e;simp[Value.okWide,Cell.okWide,Cell.ok,Tryz.underlying22]at hv) h0;obtain⟨l2,rl2,hz2,gl2,hl2⟩:=Fh (fun cs e=>by subst e;simp[Value.okWide,Cell.okWide,Cell.ok,Tryz.underlying22]at hu) (fun cs e=>by subst e;simp[Value.okWide,Cell.okWide,Cell.ok,Tryz.underlying22]at hu) h2;have hb:Rows.uptoBulk d0+Rows.uptoBulk d1≤1048576:=by
  simp only[Rows.uptoSmall,aaL,Rows.uptoBulkAll,Of]at hkk;omega
 obtain⟨m,hm,hs⟩:=Ll hsh;obtain⟨er,TE,he,hes⟩:=TD hL
 letI:bq:=⟨m,er,TE⟩
 refine ((Jh (l:=l) (m:=l2) (by omega) gl hl (by omega) gl2 hl2).calls (W:=W) (vs:=[v0,v1]) (TJ hL hm hs he hes) (by simpa using⟨rl,rl2⟩)).mono fun e W' ⟨he,hb⟩=>?_;exact⟨_,he,LN N8 (by kernel_rfl) (by kernel_rfl) (by kernel_rfl) Tryz.underlying4 hW' rfl hb⟩
end
end Go.Proofs.YtpcnidmmkknndaaGreatDoor
end
