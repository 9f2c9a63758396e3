/-
 A progression out of any tokens.
 No conditions.
-/
import Derived.Test.YtkfakehconamoaaGreatDoorProg
import Derived.KernelRfl
import Derived.Shelf.Small.Strs
import Derived.Test.YtkfakehconamoaaGreatDoorZf
import Derived.Test.YtkfakehconamoaaGreatDoorZd
import Derived.Test.YtkfakehconamoaaGreatDoorZc
import Derived.Test.YtkfakehconamoaaGreatDoorZe
set_option linter.unusedVariables false
set_option linter.unusedSimpArgs false
set_option linter.unusedSectionVars false
set_option linter.defProp false
set_option autoImplicit true
set_option maxRecDepth 1000000
set_option maxHeartbeats 16000000
open Go.Proofs.Tryz renaming prog→p_
noncomputable section
namespace Go.Proofs.YtkfakehconamoaaGreatDoor
section
open Go Go.Aw Go.RowKit
abbrev jF(a b:Int):aY:=.ak ⟨97,[i_ a,i_ b],true⟩
def D5{K:AV→aa→Prop}(hV:H[B]?=some (jF a0 b0))(k:K (.agg [i_ a,i_ b]) (H.set B (jF a b))):
 ah 2 (.op B 0) (.agg [i_ a,i_ b]) H fun g=>ae true 2 (.op B 0) g fun r=>K r g:=by
 refine aM (cs:=[i_ a,i_ b]) (h':=H.set B (jF a b)) rfl hV rfl rfl (by simp) rfl rfl rfl ?_;refine zzV (b:=⟨97,[i_ a,i_ b],true⟩) (iF (dO.1 hV).1) (by simp) ?_;exact k
def il{t:Tok}{H:aa}{F:AV→aa→Prop}(k:F (.op H.length 0) (H++[.ak ⟨83,t.row,true⟩])):
 aB 83 (.agg [(u8 0),(.str []),(i_ 0),(.str []),ff]) H fun v g=>ah 5 v t.av g fun g2=>F v g2:=by
 refine bq (cs:=[u8 0,.str [],i_ 0,.str [],ff]) (n:=H.length) (h':=H++[cm 0 [] 0 [] false]) rfl (by simp[bw]) rfl rfl ?_;exact aM (cs:=t.row) (h':=H++[.ak ⟨83,t.row,true⟩]) rfl (b:=⟨83,[u8 0,.str [],i_ 0,.str [],ff],true⟩) (by simp) rfl rfl (by simp) rfl (by simp[bw]) (by rw[Lt _ _ (aS _)];simp) k
def wq(w p:ao):(Lib.trimPrefix w p).length≤w.length:=by unfold Lib.trimPrefix;split<;>simp
variable [bB]
theorem Pu{id:Nat}{h:aa}{l:List Tok}{x:AV}{K:AV→aa→Prop}(r:Rd id h l)(ex:x=.op id 0)(hl:oU l)(k:∀H,Mr id (ir l).2 h H→K (.aw [.agg [i_ (ir l).1.1.1,i_ (ir l).1.1.2],b_ (ir l).1.2]) H):
 bA p_ (.fn (.func 290) [] []) [x] h K:=by
 subst ex;have hid:=r.lt;refine cu (by kernel_rfl) rfl (K0:=fun v h' => v=.aw [.agg [i_ (ir l).1.1.1,i_ (ir l).1.1.2],b_ (ir l).1.2]∧Mr id (ir l).2 h h') ?_ (by rintro _ H ⟨rfl,m⟩;exact k H m);refine (Yu _).bR ?_;unfold RY;refine bq (cs:=[i_ 0,i_ 0]) (n:=h.length) (h':=h++[jF 0 0]) rfl rfl rfl rfl ?_;have r0:Rd id (h++[jF 0 0]) l:=r.app _;have hB0:(h++[jF 0 0])[h.length]?=some (jF 0 0):=by simp
 -- what is handed back
 have ret:∀(H:aa) (a b:Int) (c:Bool) (q:List Tok),ir l=(((a,b),c),q)→Mr id q (h++[jF 0 0]) H→H[h.length]?=some (jF 0 0) →
  ah 2 (.op h.length 0) (.agg [i_ a,i_ b]) H fun g8=>ae true 2 (.op h.length 0) g8 fun r9=>∃r' h'',Wk h.length [AV.aw [r9,b_ c]] g8 [r'] h''∧r'=.aw [.agg [i_ (ir l).1.1.1,i_ (ir l).1.1.2],b_ (ir l).1.2]∧Mr id (ir l).2 h h'':=by
  intro H a b c q e m hb;rw[e];refine D5 (K:=fun r9 g8=>∃r' h'',Wk h.length [AV.aw [r9,b_ c]] g8 [r'] h''∧r'=.aw [.agg [i_ a,i_ b],b_ c]∧Mr id q h h'') hb ?_;have:=m.len;simp at this;exact⟨_,_,Wk.refl _ _ _ (by simp;omega),rfl,(m.new hid).uK (aS _) _⟩
 have eT:∀{H H':aa} {q:List Tok},Mr id q H H'→h.length<H.length→H[h.length]?=some (jF 0 0)→H'[h.length]?=some (jF 0 0):=fun m q1 q2=>by rw[m.other q1 (by omega)];exact q2
 refine D6 r0 rfl hl fun H1 m1=>?_;have rd1:=m1.rd r0;have hb1:=eT m1 (by simp) hB0;have hl1:=m1.len;simp at hl1;have ow:=hl.sub (mD l);refine br rfl rfl (br rfl rfl ?_);cases hw:(dm l).1.2 with
 | true =>
   refine zzL rfl (bp rfl ?_);exact ret H1 0 (dm l).1.1 true (dm l).2 (by unfold ir;dsimp only;rw[if_pos hw]) m1 hb1
 | false =>
   refine zzK rfl ?_;have hT:∀{H:aa} {t:Tok},(H++[aY.ak ⟨83,t.row,true⟩])[H.length]?=some (.ak ⟨83,t.row,true⟩):=by simp
   have happ:∀{H j:aa} {i:Nat} {e:aY},H[i]?=some e→(H++j)[i]?=some e:=fun h=>by rw[gE (dO.1 h).1];exact h
   refine Ay rd1 rfl (by have:=ow.1;omega) (fun t l2 e H2 m2=>?_) (fun e H2 m2=>?_)
   ·-- a dimension
    have ht:=hl.2 t ((mD l).subset (by rw[(jX e).1];simp));have o2:oU l2:=ow.sub (by rw[(jX e).1];exact List.sublist_cons_self ..);have hl2:=m2.len;have hb2:=eT m2 (by omega) hb1;have rd2:=m2.rd rd1;refine br rfl rfl (br rfl rfl (il (zzL rfl (zzA (zzU hT rfl (uCon (gW _) ?_))))));have hlow:(cq t.u).length≤2^20:=by unfold cq;simp;exact ht.2.2
    have hr0:ir l=if Lib.hasPrefix (cq t.u) [110]=true∧t.f=true∧t.n.tmod 1000=0 then (let b:=fC (Lib.trimPrefix (cq t.u) [110]) l2;(((t.n.tdiv 1000,b.1.1),b.1.2),b.2)) else (((0,0),false),l2):=by
     unfold ir;dsimp only;rw[if_neg (by rw[hw];decide),e]
    have em:t.u.map bE.eI=cq t.u:=rfl;rw[em];refine uCon (uh _ _ (by omega)) (br rfl rfl (br rfl rfl (zzO ?_)));have m2':Mr id l2 (h++[jF 0 0]) (H2++[aY.ak ⟨83,t.row,true⟩]):=(m1.trans (by simp;omega) m2).tail _;have bad:¬(Lib.hasPrefix (cq t.u) [110]=true∧t.f=true∧t.n.tmod 1000=0)→_:=fun z=>ret (H2++[aY.ak ⟨83,t.row,true⟩]) 0 0 false l2 (by rw[hr0,if_neg z]) m2' (happ hb2);refine aK ?_
    by_cases c1:Lib.hasPrefix (cq t.u) [110]=true
    ·refine zzN (by simp[c1]) (zzA (zzU hT rfl (zzO (ar (zzQ (aK ?_))))))
     by_cases c2:t.f=true
     ·refine zzN (by simp[c2]) (zzA (zzU hT rfl (KC rfl rfl (by decide) rfl (zzH (ar (zzQ ?_))))))
      by_cases c3:t.n.tmod 1000=0
      ·refine zzK (by simp[c3]) ?_;rw[if_pos ⟨c1,c2,c3⟩]at hr0;have htl:(Lib.trimPrefix (cq t.u) [110]).length≤2^20:=aat (wq _ _) hlow;refine BW (rd2.app _) rfl o2 htl fun H3 m3=>?_;have hl3:=m3.len;simp at hl3;refine br rfl rfl (br rfl rfl (zzA (zzU (by rw[m3.other (by simp) (by omega)];exact hT) rfl ?_)));have htd:=Bm ht.1;refine ES (c:=t.n.tdiv 1000) rfl rfl (by decide) (by rw[IntKind.wrap_i64];omega) (bp rfl ?_);exact ret H3 _ _ _ _ hr0 (m2'.trans (by simp;omega) m3) (eT m3 (by simp;omega) (happ hb2))
      ·refine zzL (by simp[c3]) (bp rfl ?_);exact bad fun z=>c3 z.2.2
     ·refine zzM (by simp[c2]) (ar (bu (by simp[c2]) (zzL rfl (bp rfl ?_))));exact bad fun z=>c2 z.2.1
    ·refine zzM (by simp[c1]) (ar (bu (by simp[c1]) (aK (zzM rfl (ar (zzR (zzL rfl (bp rfl ?_))))))));exact bad fun z=>c1 z.1
   ·-- none
    have hl2:=m2.len;have hb2:=eT m2 (by omega) hb1;have rd2:=m2.rd rd1;have m12:=m1.trans (by simp;omega) m2;refine br rfl rfl (br rfl rfl (il (t:=⟨0,[],0,[],false⟩) (zzK rfl ?_)));refine Gr (rd2.app _) rfl ow fun H3 m3=>?_;have hl3:=m3.len;simp at hl3;have m13:=(m12.tail [aY.ak ⟨83,Tok.row ⟨0,[],0,[],false⟩,true⟩]).trans (by simp;omega) m3;have hb3:=eT m3 (by simp;omega) (happ hb2);have rd3:=m3.rd (rd2.app _);have os:=ow.sub (uL (dm l).2);have hr1:ir l=(let s:=jD (dm l).2
     match nD 1 s.2 with
     | none=>(((0,0),false),s.2)
     | some (t,r)=>if s.1<0 then (((0,0),false),r) else
       let m:=cq t.t
       if s.1=0∧m=[111,100,100] then (((2,1),true),r)
       else if s.1=0∧m=[101,118,101,110] then (((2,0),true),r)
       else
        let neg:Bool:=decide (s.1=0)&&Lib.hasPrefix m [45]
        let q:=if neg=true then Lib.trimPrefix m [45] else m
        if Lib.hasPrefix q [110]=true then (let b:=fC (Lib.trimPrefix q [110]) r;((((if neg=true then -1 else 1:Int),b.1.1),b.1.2),b.2)) else (((0,0),false),r)):=by
     unfold ir;dsimp only;rw[if_neg (by rw[hw];decide),e];rfl
    obtain⟨sg,hsg⟩:∃sg,jD (dm l).2=sg:=⟨_,rfl⟩;rw[hsg]at hr1 rd3 os m13;rw[hsg];dsimp only at hr1;refine Ay rd3 rfl (by have:=os.1;omega) (fun t l4 e4 H4 m4=>?_) (fun e4 H4 m4=>?_)
    ·rw[e4]at hr1;dsimp only at hr1;have ht:=os.2 t (by rw[(jX e4).1];simp);have o4:oU l4:=os.sub (by rw[(jX e4).1];exact List.sublist_cons_self ..);have hl4:=m4.len;have hb4:=eT m4 (by omega) hb3;have rd4:=m4.rd rd3;refine br rfl rfl (br rfl rfl (il ?_));obtain⟨H5,h5⟩:∃H5,H5=H4++[aY.ak ⟨83,t.row,true⟩]:=⟨_,rfl⟩;have hT5:H5[H4.length]?=some (.ak ⟨83,t.row,true⟩):=by rw[h5];exact hT
     have hb5:H5[h.length]?=some (jF 0 0):=by rw[h5];exact happ hb4
     have rd5:Rd id H5 l4:=by rw[h5];exact rd4.app _
     have m15:Mr id l4 (h++[jF 0 0]) H5:=by rw[h5];exact (m13.trans (by simp;omega) m4).tail _
     have hl5:H5.length=H4.length+1:=by rw[h5];simp
     rw[←h5];clear h5;refine zzO (aK (zzN rfl (zzC (ar (zzQ ?_)))))
     by_cases c1:sg.1<0
     ·rw[if_pos c1]at hr1;refine zzL (tO c1) (bp rfl ?_);exact ret _ 0 0 false _ hr1 m15 hb5
     rw[if_neg c1]at hr1;refine zzK (oF c1) (zzA (zzU hT5 rfl (uCon (gW _) ?_)));have em:t.t.map bE.eI=cq t.t:=rfl;rw[em];obtain⟨m,hm⟩:∃m,cq t.t=m:=⟨_,rfl⟩;have hml:m.length≤2^20:=by rw[←hm];unfold cq;simp;exact ht.2.1
     rw[hm]at hr1 ⊢;refine cL (fun s H=>∃(q:ao) (a:Int),s=[.str q,i_ a]∧H=H5∧q.length≤2^20∧ir l=if Lib.hasPrefix q [110]=true then (((a,(fC (Lib.trimPrefix q [110]) l4).1.1),(fC (Lib.trimPrefix q [110]) l4).1.2),(fC (Lib.trimPrefix q [110]) l4).2) else (((0,0),false),l4)) ?_ ?_
     ·rintro _ _ ⟨q,a,rfl,rfl,hq,hr⟩;refine uCon (uh _ _ (by show q.length≤_;omega)) (br rfl rfl (br rfl rfl (zzO ?_)))
      by_cases c2:Lib.hasPrefix q [110]=true
      ·rw[if_pos c2]at hr;refine zzK (by simp[c2]) ?_;refine BW rd5 rfl o4 (aat (wq _ _) hq) fun H6 m6=>?_;refine br rfl rfl (br rfl rfl (bp rfl ?_));exact ret H6 _ _ _ _ hr (m15.trans (by simp;omega) m6) (eT m6 (by omega) hb5)
      ·rw[if_neg c2]at hr;refine zzL (by simp[c2]) (bp rfl ?_);exact ret _ 0 0 false _ hr m15 hb5
     ·intro F hF;refine zzG ?_
      by_cases c2:sg.1=0
      ·refine zzL (tO c2) (zzI ?_)
       by_cases c3:m=[111,100,100]
       ·rw[if_pos ⟨c2,c3⟩]at hr1;refine zzL (tO c3) (bp rfl ?_);exact ret _ 2 1 true _ hr1 m15 hb5
       rw[if_neg (fun z=>c3 z.2)]at hr1;refine zzK (oF c3) (zzI ?_)
       by_cases c4:m=[101,118,101,110]
       ·rw[if_pos ⟨c2,c4⟩]at hr1;refine zzL (tO c4) (bp rfl ?_);exact ret _ 2 0 true _ hr1 m15 hb5
       rw[if_neg (fun z=>c4 z.2)]at hr1;refine zzK (oF c4) (uCon (uh _ _ (by omega)) (br rfl rfl (br rfl rfl ?_)));simp only[c2,decide_true,Bool.true_and]at hr1
       by_cases c5:Lib.hasPrefix m [45]=true
       ·refine zzL c5 (ar ?_);refine hF _ _ ⟨_,-1,rfl,rfl,aat (wq _ _) hml, ?_⟩;rw[hr1];simp only[c5,if_true]
       ·have c5:Lib.hasPrefix m [45]=false:=by simpa using c5
        refine zzK c5 (ar ?_);refine hF _ _ ⟨_,1,rfl,rfl,hml, ?_⟩;rw[hr1];simp only[c5];rfl
      ·refine zzK (oF c2) (ar ?_);refine hF _ _ ⟨_,1,rfl,rfl,hml, ?_⟩;rw[hr1,if_neg (fun z=>c2 z.1),if_neg (fun z=>c2 z.1)];simp only[c2,decide_false,Bool.false_and];rfl
    ·rw[e4]at hr1;have hl4:=m4.len;refine br rfl rfl (br rfl rfl (il (t:=⟨0,[],0,[],false⟩) (zzO (aK (zzM rfl (ar (zzR (zzL rfl (bp rfl ?_)))))))));exact ret _ 0 0 false _ hr1 ((m13.trans (by simp;omega) m4).tail _) (happ (eT m4 (by omega) hb3))
end
section
open Go Go.Aw Go.RowKit
def GX(sg:Int)(l:List Tok):(EI sg l).2.Sublist l:=by
 unfold EI;split
 ·exact (mD _).trans (qp l)
 ·exact (mD _).trans (qp l)
def Dp(w:ao)(l:List Tok):(fC w l).2.Sublist l:=by
 by_cases h1:w=[45]
 ·have e:fC w l=EI (-1) l:=by unfold fC;rw[if_pos h1];rfl
  rw[e];exact GX _ _
 by_cases h2:w=[]
 ·subst h2;rw[vw];cases e:dT l with
  | nil=>simp
  | cons t r=>exact ((GX _ _).trans (uL _)).trans (by rw[←e];exact qp l)
 ·unfold fC Hi;rw[if_neg h1,if_neg h1,if_pos h2];split<;>exact List.Sublist.refl _
def MI(l:List Tok):(ir l).2.Sublist l:=by
 unfold ir;dsimp only;split
 ·exact mD l
 ·cases e:nD 12 (dm l).2 with
  | some x =>
    obtain⟨t,r⟩:=x;dsimp only;have hr:r.Sublist l:=List.Sublist.trans (by rw[(jX e).1];exact List.sublist_cons_self ..) (mD l);split
    ·exact (Dp _ _).trans hr
    ·exact hr
  | none =>
    dsimp only;have hs:(jD (dm l).2).2.Sublist l:=(uL _).trans (mD l);cases e:nD 1 (jD (dm l).2).2 with
    | none=>exact hs
    | some x =>
      obtain⟨t,r⟩:=x;dsimp only;have hr:r.Sublist l:=List.Sublist.trans (by rw[(jX e).1];exact List.sublist_cons_self ..) hs;repeat' split
      all_goals first|exact hr|exact (Dp _ _).trans hr
variable [bB]
def pO(l:List Tok):AV×Int:=match yH l with|some (a,b)=>(.agg [i_ a,i_ b],0)|none=>(.agg [i_ 0,i_ 0],12)
def FQ(l:List Tok)(hl:oU l):aV p_ 268 [.sl 5 (cM l)] (.aw [(pO l).1,i_ (pO l).2]):=by
 refine (Yp _).aQ (by simp only[aq,Aw.Pure,and_true];exact jU l) (by unfold pO;cases yH l<;>simp[aq,Aw.Pure]) ?_;unfold RT;refine bq (cs:=[i_ 0,i_ 0]) (n:=0) (h':=[jF 0 0]) rfl rfl rfl rfl (bp rfl (bq (cs:=[.sl 5 (cM l)]) (n:=1) (h':=[jF 0 0,lG l]) rfl rfl rfl rfl ?_));have r0:Rd 1 [jF 0 0,lG l] l:=rfl;refine se r0 rfl (by have:=hl.1;omega) ?_;have o1:oU (dT l):=hl.sub (qp l);refine Pu (r0.set _) rfl o1 fun H1 m1=>?_;have hl1:=m1.len;simp at hl1;have rd1:=m1.rd (r0.set _);have hb1:H1[0]?=some (jF 0 0):=by rw[m1.other (by simp) (by decide)];rfl
 obtain⟨R,hR⟩:∃R,ir (dT l)=R:=⟨_,rfl⟩;have hF:yH l=if R.1.2=true∧dT R.2=[]∧vZ R.1.1.1=true∧vZ R.1.1.2=true then some R.1.1 else none:=by unfold yH;rw[hR]
 rw[hR]at rd1 m1 ⊢;refine br rfl rfl (br rfl rfl (bq (cs:=[i_ 0,i_ 0]) (n:=H1.length) (h':=H1++[jF 0 0]) rfl rfl rfl rfl (aM (cs:=[i_ R.1.1.1,i_ R.1.1.2]) (h':=H1++[jF R.1.1.1 R.1.1.2]) rfl (b:=⟨97,[i_ 0,i_ 0],true⟩) (by simp) rfl rfl (by simp) rfl rfl (by rw[Lt _ _ (aS _)];simp) ?_)));have o2:R.2.length≤2^20:=by have:=(hR▸MI (dT l)).length_le;have:=o1.1;omega
 refine se (rd1.app _) rfl o2 ?_;have rd2:=(rd1.app [jF R.1.1.1 R.1.1.2]).set (dT R.2);have hA:((H1++[jF R.1.1.1 R.1.1.2]).set 1 (lG (dT R.2)))[H1.length]?=some (jF R.1.1.1 R.1.1.2):=by rw[iN (by omega)];simp
 have hb2:((H1++[jF R.1.1.1 R.1.1.2]).set 1 (lG (dT R.2)))[0]?=some (jF 0 0):=by rw[iN (by decide),gE (by omega)];exact hb1
 obtain⟨H2,h2⟩:∃H2,H2=(H1++[jF R.1.1.1 R.1.1.2]).set 1 (lG (dT R.2)):=⟨_,rfl⟩;rw[←h2]at hA hb2 rd2 ⊢;have bad:yH l=none→ah 2 (.op 0 0) (.agg [i_ 0,i_ 0]) H2 fun g=>ae true 2 (.op 0 0) g fun r=>cf (.aw [(pO l).1,i_ (pO l).2]) (.aw [r,i_ 12]) g:=by
  intro e;refine D5 (K:=fun r g=>cf (.aw [(pO l).1,i_ (pO l).2]) (.aw [r,i_ 12]) g) hb2 ?_;unfold pO;rw[e];exact .pure (by simp[aq,Aw.Pure]) rfl
 have good:yH l=some R.1.1→ah 2 (.op 0 0) (.agg [i_ R.1.1.1,i_ R.1.1.2]) H2 fun g=>ae true 2 (.op 0 0) g fun r=>cf (.aw [(pO l).1,i_ (pO l).2]) (.aw [r,i_ 0]) g:=by
  intro e;refine D5 (K:=fun r g=>cf (.aw [(pO l).1,i_ (pO l).2]) (.aw [r,i_ 0]) g) hb2 ?_;unfold pO;rw[e];exact .pure (by simp[aq,Aw.Pure]) rfl
 refine zzO (aK ?_)
 by_cases c1:R.1.2=true
 ·refine zzN (by simp[c1]) (bD (zzA (zzU rd2 rfl (pA rfl (zzE (ar (zzQ (aK ?_))))))))
  by_cases c2:dT R.2=[]
  ·refine zzN (by simp[c2]) (zzV hA (by simp) (uCon (qI R.1.1.1 R.1.1.2) (zzH (ar (zzQ ?_)))));have e9:∀n,vZ n=bE.ma n:=fun n=>by unfold vZ bE.ma;simp
   by_cases c3:vZ R.1.1.1=true∧vZ R.1.1.2=true
   ·rw[if_pos ⟨c1,c2,c3⟩]at hF;refine zzK (by rw[e9,e9]at c3;simp[c3]) (zzV hA (by simp) ?_);exact good hF
   ·rw[if_neg (fun z=>c3 z.2.2)]at hF;refine zzL (by rw[e9,e9]at c3;revert c3;cases bE.ma R.1.1.1<;>cases bE.ma R.1.1.2<;>simp) (bp rfl ?_);exact bad hF
  ·rw[if_neg (fun z=>c2 z.2.1)]at hF;have:0<(dT R.2).length:=List.length_pos_iff.2 c2;refine zzM (by simp;omega) (ar (bu (by simp<;>omega) (zzL rfl (bp rfl ?_))));exact bad hF
 ·rw[if_neg (fun z=>c1 z.1)]at hF;refine zzM (by simp[c1]) (ar (bu (by simp[c1]) (aK (zzM rfl (ar (zzR (zzL rfl (bp rfl ?_))))))));exact bad hF
end
section
open Go Go.Aw Go.jh Go.RowKit
variable [Laid]
def aV.arg{args args':List AV}(c:aV P f args' r)(d:gG args args')(p:aq args):aV P f args r:=by
 obtain⟨pa,pr,c⟩:=c;exact⟨p,pr,fun base ι S w vs h1 h2=>c base ι S w vs (aD.pP d vs h1) h2⟩
abbrev B5(c:List Vl)(s:List (Tok×List Vl)):List (List Vl):=(s.map (·.2)).reverse++[c]
abbrev nR(s:List (Tok×List Vl)):List Tok:=(s.map (·.1)).reverse
section
variable {a b N Lb:Nat} {F:Nat→Prop} {H:aa} {ls:List (List Vl)} {os:List Tok} {hs e1:List AV} {ho:AV}
omit [Laid] in
theorem PS.aU(p:PS a b F H N ls os hs Lb e1 ho){K:AV→Prop}(q:K (i_ os.length)):aU ho K:=by
 rcases p.ol with⟨rfl,rfl⟩|⟨Ob,e2,rfl,_⟩
 ·exact q
 ·rw[tz];exact fun _=>q
omit [Laid] in
def PS.ab(p:PS a b F H N ls os hs Lb e1 ho):a≠b∧b≠Lb∧a≠Lb:=by
 refine⟨fun e=>?_,fun e=>?_,fun e=>?_⟩
 ·subst e;have:=p.la;rw[p.ob]at this;cases this
 ·subst e;have:=p.ob;rw[p.lb]at this;cases this
 ·subst e;have:=p.la;rw[p.lb]at this;cases this
omit [Laid] in
def PD{h h':aa}{K:AV→aa→Prop}{own:Bool}{e sz bytes id len:Nat}{cells:List AV}{rows:List (List AV)}(ex:x=.own id 0 len sz)(hb:h[id]?=some (.ak ⟨e,cells,true⟩))(hl:len*sz≤cells.length)(hp:0<len+rows.length)(hs:iL h sz y=some rows)(hr:rows.all (da sz)=true)(hm:gM bytes (len+rows.length))(hn:h.length=n)
 (hh:h.set id .dead++[.ak ⟨e,cells.take (len*sz)++rows.flatten,true⟩]=h') (q:K (.own n 0 (len+rows.length) sz) h'):bN own e sz bytes x y h K:=by
 subst ex;subst hn;subst hh;unfold bN ep;rw[hs];refine⟨hr, ?_⟩;simp only[xD];rw[hb];exact⟨by simp[hl],hp,hm,q⟩
omit [Laid] in
def SN{KN:aa→Prop}(p:PS a b F H N ls os hs Lb e1 ho)(hT:H[T]?=some (.ak ⟨83,t.row,true⟩))(hn:ls.length<2^20)(hno:os.length<2^20)(hls:0<ls.length)
 (k:∀H',PX a b H' N (ls++[[]]) (os++[t])→H.length≤H'.length→KN H') :
 ∃d45:Nat,ae false 1 (.op a 0) H fun v46=>bz 1 1 (.v (.slice none 0 0)) [(0,1,(.v (.slice none 0 0)))] fun v47=>cG (pQ d45 (.op b 0)) (ae false 1 (.op b 0) H fun v48=>cG (pQ d45 (.op T 0)) (ae true 5 (.op T 0) H fun v49=>bz 1 5 (.agg [(u8 0),(.str []),(i_ 0),(.str []),ff]) [(0,5,v49)] fun v50=>cG (uE d45 v46) (bN true 61 1 24 v46 v47 H fun v51 g52=>bN true 83 5 56 v48 v50 g52 fun v53 g54=>ah 1 (.op a 0) v51 g54 fun g55=>ah 1 (.op b 0) v53 g55 KN))):=by
 obtain⟨hab,hbL,haL⟩:=p.ab;have hl:=p.hl;have ha:=PS.lt p.la;have hb:=PS.lt p.ob;have hL:=PS.lt p.lb;have hTL:T≠Lb:=fun e=>by subst e;rw[p.lb]at hT;cases hT
 refine⟨Lb, ?_⟩;refine zzU p.la rfl (km (cs:=[bC]) rfl rfl rfl rfl (jZ (po hbL) (zzU p.ob rfl (jZ (po hTL) (zzV hT (by simp) (km (cs:=t.row) (by simp[bl]) rfl rfl (by simp[bw]) (jZ (by simp[uE]) ?_)))))));have hl1:hs.length=ls.length:=hl;refine JO (n:=H.length) (h':=H.set Lb .dead++[.ak ⟨61,hs++[bC],true⟩]) rfl p.lb (by simp;omega) hls fT rfl ⟨by unfold maxLen;simp;omega,by simp;omega⟩ rfl (by rw[Nat.mul_one,←hl,List.take_left];rfl) ?_;obtain⟨g,hg⟩:∃g,g=H.set Lb .dead++[aY.ak ⟨61,hs++[bC],true⟩]:=⟨_,rfl⟩;have gl:g.length=H.length+1:=by rw[hg];simp
 have gn:g[H.length]?=some (.ak ⟨61,hs++[bC],true⟩):=by rw[hg,iD (by simp)];simp
 have go:∀id,id<H.length→id≠Lb→g[id]?=H[id]?:=fun id h1 h2=>by rw[hg,gE (by simpa using h1),iN (Ne.symm h2)]
 rw[←hg];have fin:∀g2:aa,g2.length=H.length+2→g2[H.length]?=some (.ak ⟨61,hs++[bC],true⟩)→g2[H.length+1]?=some (.ak ⟨83,(cM (os++[t])).flatten,true⟩)→(∀(id t:Nat) (cs:List AV),H[id]?=some (aY.ak ⟨t,cs,true⟩)→t≠61→t≠83→g2[id]?=H[id]?) →
  ah 1 (.op a 0) (.own H.length 0 (ls.length+1) 1) g2 fun g55=>ah 1 (.op b 0) (.own (H.length+1) 0 (os.length+1) 5) g55 KN:=by
  intro g2 l2 q1 q2 q3;refine aM (b:=⟨85,_,true⟩) (cs:=[.own H.length 0 (ls.length+1) 1]) (h':=g2.set a (.ak ⟨85,[.own H.length 0 (ls.length+1) 1],true⟩)) rfl (by rw[q3 _ _ _ p.la (by decide) (by decide)];exact p.la) rfl rfl (by simp) rfl rfl rfl ?_;refine aM (b:=⟨58,_,true⟩) (cs:=[.own (H.length+1) 0 (os.length+1) 5]) (h':=(g2.set a (.ak ⟨85,[.own H.length 0 (ls.length+1) 1],true⟩)).set b (.ak ⟨58,[.own (H.length+1) 0 (os.length+1) 5],true⟩)) rfl (by rw[iN hab,q3 _ _ _ p.ob (by decide) (by decide)];exact p.ob) rfl rfl (by simp) rfl rfl rfl ?_;refine k _ ⟨_,_,_,_,_,p.push (L2:=H.length) (O2:=H.length+1) ?_ ?_ ?_ ?_ fun id cs h=>?_⟩ (by simp;omega)
  ·rw[iN (Ne.symm hab),iF (by omega)]
  ·rw[iN (by omega),iN (by omega)];exact q1
  ·rw[iF (by simp;omega)]
  ·rw[iN (by omega),iN (by omega)];exact q2
  ·have e1:id≠a:=fun e=>by subst e;rw[p.la]at h;cases h
   have e2:id≠b:=fun e=>by subst e;rw[p.ob]at h;cases h
   rw[iN (Ne.symm e2),iN (Ne.symm e1)];exact q3 id _ cs h (by decide) (by decide)
 have gk:∀(id t:Nat) (cs:List AV),H[id]?=some (aY.ak ⟨t,cs,true⟩)→t≠61→g[id]?=H[id]?:=fun id t cs h q=>go id (PS.lt h) fun e=>by subst e;rw[p.lb]at h;cases h;exact q rfl
 rcases p.ol with⟨rfl,rfl⟩|⟨Ob,e2,rfl,hO⟩
 ·unfold bN ep;rw[fT];refine⟨ot [t],by simp,⟨by simp[maxLen],by simp⟩, ?_⟩;have:=fin (g++[.ak ⟨83,t.row,true⟩]) (by simp[gl]) (by rw[gE (by omega)];exact gn) (by rw[iD (by omega),gl];simp) fun id t cs h q1 q2=>by
   have:=PS.lt h;rw[gE (by omega)];exact gk id t cs h q1
  rw[←gl]at this;exact this
 ·have hOL:Ob≠Lb:=fun e=>by subst e;rw[p.lb]at hO;cases hO
  refine PD (n:=H.length+1) (h':=g.set Ob .dead++[.ak ⟨83,(cM (os++[t])).flatten,true⟩]) (rows:=[t.row]) rfl (by rw[gk _ _ _ hO (by decide)];exact hO) (by simp only[BY,rC];omega) (by simp) fT (ot [t]) ⟨by unfold maxLen;simp;omega,by simp;omega⟩ gl (by
   congr 4
   rw[aaO (by rw[rC];exact aS _),Of (by rw[rC];exact aS _)];simp) ?_
  ·have hOl:=PS.lt hO;refine fin _ (by simp[gl]) ?_ ?_ fun id t cs h q1 q2=>?_
   ·rw[gE (by simp;omega),iN (by omega)];exact gn
   ·rw[iD (by simp;omega)];simp[gl]
   ·have e1:id≠Ob:=fun e=>by subst e;rw[hO]at h;cases h;exact q2 rfl
    have:=PS.lt h;rw[gE (by simp;omega),iN (Ne.symm e1)];exact gk id t cs h q1
end
omit [Laid] in
def VV.leaf{F:Nat→Prop}(t:Tok):VV F H [u8 t.k,.str t.t,i_ t.n,.str t.u,b_ t.f,bC] (lD t []):=by
 show VV _ _ _ (.mk _ _ _ _ _ []);rw[VV];exact⟨bC,rfl,.inl ⟨rfl,rfl⟩⟩
omit [Laid] in
def PX.app{ls:List (List Vl)}{os:List Tok}(p:PX a b H N ls os)(j:aa):PX a b (H++j) N ls os:=by
 obtain⟨F,hs,Lb,e1,ho,p⟩:=p;exact⟨F,hs,Lb,e1,ho,p.app j⟩
omit [Laid] in
def PS.YV{a b N Lb nb:Nat}{F:Nat→Prop}{base:List (List Vl)}{os:List Tok}{hg e1:List AV}{y ho:AV}(p:PS a b F H N (base++[g]) os (hg++[y]) Lb e1 ho)(hb:base.length=nb){K:AV→Prop}(q:K (i_ g.length)):dX y K:=by
 have hgl:hg.length=base.length:=by have:=p.hl;simp at this;omega
 obtain⟨_,z,hz,hh⟩:=p.hd base.length g (by simp);rw[←hgl]at hz;simp at hz;subst hz;rcases hh with⟨rfl,rfl⟩|⟨_,X,rows,rfl,_⟩
 ·exact q
 ·exact q
def Ds(t:Tok):List (Tok×List Vl)→Bool
 | []=>false
 | (o,_):: _=>decide (t.k=dE o.k)
def BE(l:List Tok):aV p_ 29 [.sl 5 (cM l)] (.aw [u6 (jB l).1,i_ (jB l).2]):=by
 refine (ZU _).aQ (by simp only[aq,Aw.Pure,and_true];exact jU l) (by simp only[aq,Aw.Pure,and_true];exact DV _) ?_;unfold Vy;have hrl:(cM l).length=l.length:=by simp
 refine zzg (n:=l.length) hrl fun _=>?_;refine zzE ?_
 by_cases q0:1500<l.length
 ·refine zzL (tO (by omega)) ?_;rw[show jB l=([],4) by unfold jB;rw[if_pos q0]];exact .pure (by simp[Aw.Pure,aq]) rfl
 refine zzK (oF (by omega)) ?_;have hpf:jB l=match gr l [] [] with|none=>([],20)|some (c,s)=>if 1500<l.length+s.length then ([],4) else (pH c s,0):=by unfold jB;rw[if_neg q0];rfl
 refine⟨by decide, ?_⟩;refine bq (cs:=[bC]) (n:=1) (h':=[.ak ⟨61,[bC],true⟩,.ak ⟨85,[bC],true⟩]) rfl rfl rfl rfl (bq (cs:=[bC]) (n:=2) (h':=[.ak ⟨61,[bC],true⟩,.ak ⟨85,[bC],true⟩,.ak ⟨58,[bC],true⟩]) rfl rfl rfl rfl (aM (cs:=[.own 0 0 1 1]) (h':=[.ak ⟨61,[bC],true⟩,.ak ⟨85,[.own 0 0 1 1],true⟩,.ak ⟨58,[bC],true⟩]) rfl rfl rfl rfl (by simp) rfl rfl rfl (aM (cs:=[bC]) (h':=[.ak ⟨61,[bC],true⟩,.ak ⟨85,[.own 0 0 1 1],true⟩,.ak ⟨58,[bC],true⟩]) rfl rfl rfl rfl (by simp) rfl rfl rfl ?_)));have p0:PX 1 2 [.ak ⟨61,[bC],true⟩,.ak ⟨85,[.own 0 0 1 1],true⟩,.ak ⟨58,[bC],true⟩] 0 [[]] []:=by
  refine⟨fun _=>False,[bC],0,[],bC,⟨rfl,rfl,rfl,fun i l q=>?_,fun i j X m m' q=>?_,rfl,.inl ⟨rfl,rfl⟩,fun X z=>z.elim⟩⟩
  ·have hi:i=0:=by have:=(dO.1 q).1;simp at this;omega
   subst hi;simp at q;subst q;exact⟨aao _,bC,rfl,.inl ⟨rfl,rfl⟩⟩
  ·have hi:i=0:=by have:=(dO.1 q).1;simp at this;omega
   subst hi;simp at q
 refine zzg (n:=l.length) hrl fun _=>?_;refine aG (α:=Nat×List Vl×List (Tok×List Vl)×aa×Nat) (fun x=>x.1≤l.length∧gr l [] []=gr (l.drop x.1) x.2.1 x.2.2.1∧x.2.2.1.length≤16∧PX 1 2 x.2.2.2.1 x.2.2.2.2 (B5 x.2.1 x.2.2.1) (nR x.2.2.1)∧x.2.2.2.2≤x.1∧3≤x.2.2.2.1.length) (fun x=>[i_ x.1]) (fun x=>x.2.2.2.1) (fun x=>l.length-x.1) (0,[],[],[.ak ⟨61,[bC],true⟩,.ak ⟨85,[.own 0 0 1 1],true⟩,.ak ⟨58,[bC],true⟩],0) ⟨aao _,rfl,aao _,p0,aS _,aS _⟩ (Wk.refl _ _ _ (aS _)) ?_;rintro⟨i,c,s,H,N⟩ ⟨hi,hp,hs,p,hN,hH⟩;dsimp only at hi hp hs p hN hH ⊢;refine zzC ?_;rcases AS i l.length with q|q
 ·obtain⟨t,hx⟩:∃x,l[i]?=some x:=⟨l[i],bY q⟩;have hdr:l.drop i=t:: l.drop (i+1):=by rw[aaK q];rw[(dO.1 hx).2]
  rw[hdr,gr]at hp;refine zzL (by simpa using q) (aK (zzc (f:=Tok.row) rfl rfl hx (zzY (by simp) (bq (cs:=[u8 0,.str [],i_ 0,.str [],ff]) (n:=H.length) (h':=H++[.ak ⟨83,[u8 0,.str [],i_ 0,.str [],ff],true⟩]) rfl (by simp[bw]) rfl rfl (aM (cs:=t.row) (h':=H++[.ak ⟨83,t.row,true⟩]) (b:=⟨83,[u8 0,.str [],i_ 0,.str [],ff],true⟩) rfl (by simp) rfl rfl (by simp) rfl (by simp[bw]) (by rw[Lt _ _ (aS _)];simp[bU]) ?_)))));have p1:=p.app [aY.ak ⟨83,t.row,true⟩];obtain⟨H1,h1⟩:∃H1,H1=H++[aY.ak ⟨83,t.row,true⟩]:=⟨_,rfl⟩;have hT:H1[H.length]?=some (.ak ⟨83,t.row,true⟩):=by rw[h1];simp
  have hH1:H1.length=H.length+1:=by rw[h1];simp
  rw[←h1]at p1 ⊢;have ps:=p1;obtain⟨F,hz,Lb,e1,ho,ps⟩:=ps
  -- what comes behind
  have next:∀(c':List Vl) (s':List (Tok×List Vl)) (H':aa) (N':Nat),gb t c s=some (c',s')→s'.length≤16→PX 1 2 H' N' (B5 c' s') (nR s')→N'≤i+1→3≤H'.length →
   ag .add (i_ i) (i_ 1) fun v95=>[AV.sl 5 (cM l),.op 1 0,.op 2 0,.fn (.func 45) [] [.op 2 0,.op 1 0],.sl 5 (cM l),i_ l.length]=[AV.sl 5 (cM l),.op 1 0,.op 2 0,.fn (.func 45) [] [.op 2 0,.op 1 0],.sl 5 (cM l),i_ l.length] ∧
    (∃y:Nat×List Vl×List (Tok×List Vl)×aa×Nat,(y.1≤l.length∧gr l [] []=gr (l.drop y.1) y.2.1 y.2.2.1∧y.2.2.1.length≤16∧PX 1 2 y.2.2.2.1 y.2.2.2.2 (B5 y.2.1 y.2.2.1) (nR y.2.2.1)∧y.2.2.2.2≤y.1∧3≤y.2.2.2.1.length)∧Wk [aY.ak ⟨61,[bC],true⟩,.ak ⟨85,[.own 0 0 1 1],true⟩,.ak ⟨58,[bC],true⟩].length [v95] H' [i_ y.1] y.2.2.2.1∧l.length-y.1<l.length-i):=by
   intro c' s' H' N' e1 e2 e3 e4 e5;refine zzP (by unfold aZ;omega) ?_;rw[e1]at hp;refine⟨rfl,(i+1,c',s',H',N'),⟨q,hp,e2,e3,e4,e5⟩,Wk.refl _ _ _ e5,by dsimp only;omega⟩
  have hosl:(nR s).length=s.length:=by simp
  refine zzU ps.ob rfl (ps.aU ?_);rw[hosl];refine zzE ?_;refine cL (fun v _=>∀K:AV→Prop,K (b_ (Ds t s))→bG (.v (.bool (decide ((0:Int)<(s.length:Int))))) (nx v 9) ff K) (fun v _ hv=>?_) (fun J hJ=>?_)
  ·refine hv _ ?_
   by_cases hc:Ds t s=true
   ·-- it closes what is open
    obtain⟨o,g,s',rfl,hk⟩:∃o g s',s=(o,g):: s'∧t.k=dE o.k:=by
     cases s with
     | nil=>cases hc
     | cons x s' => exact⟨x.1,x.2,s',rfl,by simpa[Ds]using hc⟩
    rw[hc];refine zzL rfl ?_;refine Jx (base:=(s'.map (·.2)).reverse) (g:=g) (c:=c) (ob:=nR s') (o:=o) (N:=N) (by simpa[B5,nR]using p1) (by omega) (by simp) (by simp at hs ⊢;omega) fun H' p2 hl=>?_;refine ar ?_;exact next (g++[lD o c]) s' H' (N+1) (by simp[gb,hk]) (by simp at hs;omega) p2 (by omega) (by omega)
   ·have hc:Ds t s=false:=by simpa using hc
    rw[hc];refine zzK rfl (zzA (zzU hT rfl (uCon (nj t.k) (zzH ?_))))
    by_cases hk:dE t.k=0
    ·refine zzK (by simp[hk]) ?_;have hst:gb t c s=some (c++[lD t []],s):=by
      cases s with
      | nil=>simp[gb,hk]
      | cons x s' =>
        have hcl:¬t.k=dE x.1.k:=by simpa[Ds]using hc
        simp only[gb];rw[if_neg hcl,if_neg (by simpa using hk)]
     obtain⟨hb,x,rfl⟩:∃hb x,hz=hb++[x]:=by
      have h0:hz≠[]:=fun e=>by have:=ps.hl;rw[e]at this;simp at this
      exact⟨hz.dropLast,hz.getLast h0,(List.dropLast_concat_getLast h0).symm⟩
     have hbl:hb.length=s.length:=by have:=ps.hl;simp at this;exact this
     have hT6:∀j:aa,(H1++j)[H.length]?=some (.ak ⟨83,t.row,true⟩):=fun j=>by rw[gE (by omega)];exact hT
     have hll:(B5 c s).length=s.length+1:=by simp
     have hbs:((s.map (·.2)).reverse).length=s.length:=by simp
     refine aK ?_;refine KJ ?_ ?_
     ·have p6:=ps.app [aY.ak ⟨4,[b_ false],true⟩];refine ar (zzK rfl ?_);obtain⟨d,hd1,hd2⟩:=p6.free;refine⟨d,jZ hd1 ?_⟩;refine zzU p6.la rfl (zzU p6.la rfl (dY rfl rfl (by omega) (zzU (c:=x) p6.lb (by simp[←hbl]) (zzV (hT6 _) (by simp) (bp (cs:=[u8 t.k,.str t.t,i_ t.n,.str t.u,b_ t.f,bC]) (by simp[dD,bl,bU,bw]) (km (cs:=[u8 t.k,.str t.t,i_ t.n,.str t.u,b_ t.f,bC]) rfl rfl rfl (by simp[bw]) (jZ hd2 ?_)))))));rw[hll];refine Jt (v:=lD t []) p6 hbs (by omega) (.leaf t) fun H' p7 hl=>?_;refine ar ?_;exact next (c++[lD t []]) s H' (N+1) hst hs ⟨_,_,_,_,_,p7⟩ (by omega) (by simp at hl;omega)
     ·have p6:=ps.app [aY.ak ⟨4,[b_ true],true⟩];refine ar (zzL rfl (zzU p6.la rfl (dY rfl rfl (by omega) (zzU (c:=x) p6.lb (by simp[←hbl]) (zzV (hT6 _) (by simp) (bp (cs:=[u8 t.k,.str t.t,i_ t.n,.str t.u,b_ t.f,bC]) (by simp[dD,bl,bU,bw]) (p6.YV hbs (km (cs:=zeroV) rfl rfl rfl rfl ?_))))))));rw[hll];refine Ju (v:=lD t []) p6 hbs (by omega) (.leaf t) rfl fun H' p7 hl=>?_;refine ar ?_;exact next (c++[lD t []]) s H' (N+1) hst hs ⟨_,_,_,_,_,p7⟩ (by omega) (by simp at hl;omega)
    ·refine zzL (by simpa using hk) (zzG ?_)
     by_cases h16:s.length=16
     ·refine zzL (by simp;omega) ?_;have hn:gb t c s=none:=by
       cases s with
       | nil=>simp at h16
       | cons x s' =>
         have hcl:¬t.k=dE x.1.k:=by simpa[Ds]using hc
         simp only[gb];rw[if_neg hcl,if_pos hk,if_pos (by simpa using h16)]
      rw[hn]at hp;rw[hpf,hp];exact .pure (by simp[Aw.Pure,aq]) rfl
     ·refine zzK (by simp;omega) ?_;refine SN ps hT (by simp;omega) (by simp;omega) (by simp) fun H' p2 hl=>?_;refine ar ?_;refine next [] ((t,c):: s) H' N ?_ (by simp;omega) (by simpa[B5,nR]using p2) (by omega) (by omega)
      cases s with
      | nil=>simp[gb,hk]
      | cons x s' =>
        have hcl:¬t.k=dE x.1.k:=by simpa[Ds]using hc
        simp only[gb];rw[if_neg hcl,if_pos hk,if_neg (by simpa using h16)]
  ·cases s with
   | nil =>
     refine iZ rfl ?_;exact hJ _ _ fun K q=>bt rfl q
   | cons x s' =>
     obtain⟨o,g⟩:=x;refine gZ (by simp) (zzA (zzU hT rfl (zzU ps.ob rfl (zzf (by simp at hs;unfold aZ;simp;omega) ?_))));obtain⟨Ob,e2,rfl,hO⟩:∃Ob e2,ho=.own Ob 0 (s'.length+1) 5∧H1[Ob]?=some (.ak ⟨83,(cM (nR s'++[o])).flatten++e2,true⟩):=by
      rcases ps.ol with⟨e,_⟩|⟨Ob,e2,q1,q2⟩
      ·exact absurd e (by simp)
      ·exact⟨Ob,e2,by simpa using q1,by simpa using q2⟩
     refine dY (n:=s'.length) rfl (by simp) (by omega) (zzA ?_);have hkc:((cM (nR s'++[o])).flatten++e2)[0+s'.length*5+0]?=some (u8 o.k):=by
      have h:((cM (nR s')).flatten).length=s'.length*5:=by rw[rC];simp
      have e:(cM (nR s'++[o])).flatten++e2=(cM (nR s')).flatten++(o.row++e2):=by simp
      rw[e,iD (by omega),show 0+s'.length*5+0-((cM (nR s')).flatten).length=0 by omega];rfl
     refine zzU hO hkc ?_;refine⟨_,uCon (nj o.k) ⟨rfl,rfl⟩, ?_⟩;refine zzG ?_;exact hJ _ _ fun K q=>bu (by simp) q
 ·have hil:i=l.length:=by omega
  subst hil;rw[List.drop_length,gr]at hp;rw[hp]at hpf;dsimp only at hpf;refine zzK (by simp) ?_;obtain⟨F,hz,Lb,e1,ho,ps⟩:=id p;have hosl:(nR s).length=s.length:=by simp
  refine zzg (n:=l.length) hrl fun _=>?_;refine zzU ps.ob rfl (ps.aU ?_);rw[hosl];refine zzP (by unfold aZ;omega) (zzE ?_)
  by_cases hm:1500<l.length+s.length
  ·rw[if_pos hm]at hpf;rw[hpf];refine zzL (tO (by omega)) ?_;exact .pure (by simp[Aw.Pure,aq]) rfl
  rw[if_neg hm]at hpf;rw[hpf];refine zzK (oF (by omega)) (aG (α:=List Vl×List (Tok×List Vl)×aa×Nat) (fun x=>pH x.1 x.2.1=pH c s∧x.2.1.length≤16∧PX 1 2 x.2.2.1 x.2.2.2 (B5 x.1 x.2.1) (nR x.2.1)∧x.2.2.2+x.2.1.length≤2000∧H.length≤x.2.2.1.length) (fun _=>[]) (fun x=>x.2.2.1) (fun x=>x.2.1.length) (c,s,H,N) ⟨rfl,hs,p,by dsimp only;omega,aS _⟩ (Wk.refl _ _ _ (aS _)) ?_);rintro⟨c1,s1,H1,N1⟩ ⟨hp1,hs1,p1,hN1,hl1⟩;dsimp only at hp1 hs1 p1 hN1 hl1 ⊢;obtain⟨F1,hz1,Lb1,e11,ho1,ps1⟩:=id p1;have hosl1:(nR s1).length=s1.length:=by simp
  refine zzU ps1.ob rfl (ps1.aU ?_);rw[hosl1];refine zzE ?_;cases s1 with
  | nil =>
    refine zzK rfl (zzU ps1.la rfl (dY rfl rfl (by simp) ?_));obtain⟨_,z,hz,hh⟩:=ps1.hd 0 c1 rfl;refine zzU (c:=z) ps1.lb (by
     have:=(dO.1 hz).1;rw[gE (by omega)];exact hz) ?_
    rw[←hp1];exact hh.aQ
  | cons x s' =>
    obtain⟨o,g⟩:=x;refine zzL (by simp) ?_;refine Jx (base:=(s'.map (·.2)).reverse) (g:=g) (c:=c1) (ob:=nR s') (o:=o) (N:=N1) (by simpa[B5,nR]using p1) (by omega) (by simp) (by simp at hs1 ⊢;omega) fun H' p2 hl=>?_;refine ar ?_;exact⟨(g++[lD o c1],s',H',N1+1),⟨by rw[←hp1];rfl,by simp at hs1;dsimp only;omega,p2,by simp at hN1;dsimp only;omega,by dsimp only;omega⟩,Wk.refl _ _ _ (by omega),by simp⟩
end
section
open Go Go.Aw Go.jh Go.RowKit
def jE(e sz:Nat)(x:AV)(H:aa)(rows:List (List AV)):Prop:=(rows=[]∧x=bC)∨(rows≠[]∧∃id,x=.sb id sz rows∧H[id]?=some (.tok e sz rows.length))
def jE.app{e sz:Nat}{rows:List (List AV)}(g:jE e sz x H rows)(j:aa):jE e sz x (H++j) rows:=by
 rcases g with g|⟨h,id,rfl,h2⟩
 ·exact .inl g
 ·exact .inr ⟨h,id,rfl,by rw[gE (dO.1 h2).1];exact h2⟩
def jE.set{e sz i:Nat}{rows:List (List AV)}(g:jE e sz x H rows)(hi:H[i]?=some (.ak b)):jE e sz x (H.set i (.ak b')) rows:=by
 rcases g with g|⟨h,id,rfl,h2⟩
 ·exact .inl g
 ·exact .inr ⟨h,id,rfl,by rw[iN (fun q=>by subst q;rw[h2]at hi;cases hi)];exact h2⟩
def gw(H H':aa):Prop:=H.length≤H'.length∧∀(j:Nat) (b:jl),H[j]?=some (.ak b)→H'[j]?=some (.ak b)
def gw.refl(H:aa):gw H H:=⟨aS _,fun _ _ h=>h⟩
def gw.trans(x:gw a b)(y:gw b c):gw a c:=⟨aat x.1 y.1,fun j k h=>y.2 j k (x.2 j k h)⟩
def gw.app(H j:aa):gw H (H++j):=⟨by simp,fun i b h=>by rw[gE (dO.1 h).1];exact h⟩
def mQ{e sz bytes:Nat}{rows:List (List AV)}(g:jE e sz x H rows)(hr:da sz r=true)(hb:bytes≤1000)(hl:rows.length<2^20){K:AV→aa→Prop}(q:∀x' H',jE e sz x' H' (rows++[r])→gw H H'→K x' H'):bN false e sz bytes x (.sl sz [r]) H K:=by
 have hall:[r].all (da sz)=true:=by rw[aaC,hr];rfl
 rcases g with⟨rfl,rfl⟩|⟨hne,id,rfl,ht⟩
 ·unfold bN ep;rw[fT];refine⟨hall,⟨by simp[maxLen],by simp;omega⟩, ?_⟩;exact q _ _ (.inr ⟨by simp,_,rfl,by simp⟩) (gw.app _ _)
 ·refine Dj rfl ht rfl fT hall ⟨by unfold maxLen;simp;omega,by
   simp only[aab,aaN,aaq]
   calc (rows.length+1)*bytes≤(2^20)*1000:=Nat.mul_le_mul (by omega) hb
    _≤_:=by decide⟩ ?_
  have hlt:=(dO.1 ht).1;refine q _ _ (.inr ⟨by simp,id,rfl,by rw[iF hlt];simp⟩) ⟨by simp,fun j b hj=>?_⟩;rw[iN (fun z=>by subst z;rw[ht]at hj;cases hj)];exact hj
def jE.told{e sz:Nat}{rows:List (List AV)}(g:jE e sz x H rows)(p:aX rows)(d:Nat):tl 0 H d x=if rows=[] then bC else .sl sz rows:=by
 rcases g with⟨rfl,rfl⟩|⟨h,id,rfl,_⟩
 ·rw[if_pos rfl];exact jf (by simp[Aw.Pure])
 ·rw[if_neg h];exact G2 p
theorem sT:∀a b:List Vl,dV (a++b)=dV a++dV b
 | [],b=>by simp[dV]
 | v:: a,b=>by simp[dV,sT a b]
mutual
theorem P3:∀v,(zF v).length=uf v
 | .mk k t n u f l=>by
   rw[zF,uf];split
   ·rfl
   ·simp[mC l]
theorem mC:∀l,(dV l).length=cT l
 | []=>by simp[dV,cT]
 | v:: l=>by simp[dV,cT,P3 v,mC l]
end
def fU{id o n:Nat}{cs:List AV}{K:AV→Prop}(e:x=.op id o)(hb:h[id]?=some (.ak b))(hn:n≤(b.cells.drop o).length)(hc:(b.cells.drop o).take n=cs)(q:K (.agg cs)):ae true n x h K:=by
 subst hc;exact cK e hb hn q
variable [Laid]
def Qj(n:Nat):Prop:=∀(v:List Vl),bP v≤n→∀(H:aa) (a:AV) (R:List (List AV)),jE 83 5 a H R→R.length+cT v<2^20→bP v<2^40 →
 ∀K:AV→aa→Prop,(∀a' H',jE 83 5 a' H' (R++cM (dV v))→gw H H'→K a' H')→bA p_ (.fn (.func 288) [] []) [a,.sl 6 (ct v)] H K
def Pe(hP:∀n',n'<n→Qj n'):Qj n:=by
 intro v hz H a R hg hn hbig K k;refine cu (by kernel_rfl) rfl (K0:=fun a' H' => jE 83 5 a' H' (R++cM (dV v))∧gw H H') ?_ (fun a' H' h=>k a' H' h.1 h.2);refine (Ys _ _).bR ?_;unfold RW;have hlen:(ct v).length=v.length:=by simp[dz]
 have hll:=lA v;refine zzg (n:=v.length) hlen fun _=>?_;refine aG (α:=Nat×AV×aa) (fun x=>x.1≤v.length∧jE 83 5 x.2.1 x.2.2 (R++cM (dV (v.take x.1)))∧gw H x.2.2) (fun x=>[x.2.1,i_ x.1]) (fun x=>x.2.2) (fun x=>v.length-x.1) (0,a,H) ⟨aao _,by simpa[dV]using hg,gw.refl _⟩ (Wk.refl _ _ _ (aS _)) ?_;rintro⟨j,b,H1⟩ ⟨hj,hgj,hB⟩;dsimp only at hj hgj hB ⊢;refine zzC ?_;rcases AS j v.length with q|q
 ·obtain⟨⟨kd,tx,nu,un',fl,l2⟩,hx⟩:∃x,v[j]?=some x:=⟨v[j],bY q⟩;have htk:v.take (j+1)=v.take j++[Vl.mk kd tx nu un' fl l2]:=by rw[DO,hx];rfl
  have hzv:=tR (eQ hx);have hzt:bP (v.take j)+zV (Vl.mk kd tx nu un' fl l2)≤bP v:=by
   have h1:=oT v (j+1);rw[htk,lz]at h1;simpa[bP]using h1
  have hRl:(cM (dV (v.take j))).length=cT (v.take j):=by simp only[aac,mC]
  have hct:cT (v.take j)+uf (Vl.mk kd tx nu un' fl l2)≤cT v:=by
   have h1:cT (v.take (j+1))+cT (v.drop (j+1))=cT v:=by rw[←ni,List.take_append_drop]
   rw[htk,ni]at h1;simp only[cT]at h1;omega
  rw[uf]at hct;rw[zV]at hzv hzt;have hc1:1≤(if dE kd=0 then 1 else cT l2+2):=by split<;>omega
  have next:∀b2 H2,jE 83 5 b2 H2 (R++cM (dV (v.take (j+1))))→gw H1 H2→ag .add (i_ j) (i_ 1) fun v33=>[AV.sl 6 (ct v),i_ v.length]=[AV.sl 6 (ct v),i_ v.length] ∧
   ∃y:Nat×AV×aa,(y.1≤v.length∧jE 83 5 y.2.1 y.2.2 (R++cM (dV (v.take y.1)))∧gw H y.2.2)∧Wk H.length [b2,v33] H2 [y.2.1,i_ y.1] y.2.2∧v.length-y.1<v.length-j:=by
   intro b2 H2 g2 k2;refine zzP (by unfold aZ;omega) ?_;exact⟨rfl,(j+1,b2,H2),⟨q,g2,hB.trans k2⟩,Wk.refl _ _ _ (hB.trans k2).1,by dsimp only;omega⟩
  refine zzL (by simpa using q) (aK (zzc (dz v) rfl hx (zzY (by simp[kn]) ?_)));obtain⟨row,hrow⟩:∃row,row=[u1 kd,.str tx,i_ nu,.str un',b_ fl,AV.sl 6 (ct l2)]:=⟨_,rfl⟩;have he:ig (Vl.mk kd tx nu un' fl l2)=row:=by rw[ig,hrow]
  rw[he];refine bq (cs:=zeroV) (n:=H1.length) (h':=H1++[.ak ⟨87,zeroV,true⟩]) rfl (by simp[bw]) rfl rfl (aM (cs:=row) (h':=H1++[.ak ⟨87,row,true⟩]) rfl (b:=⟨87,zeroV,true⟩) (by simp) rfl (by rw[hrow];rfl) (by rw[hrow];simp) (by rw[hrow];rfl) (by rw[hrow];simp[bw]) (by rw[Lt _ _ (aS _)];simp[fY (a:=zeroV) (b:=row) (by rw[hrow];rfl)]) ?_);have hV:(H1++[aY.ak ⟨87,row,true⟩])[H1.length]?=some (.ak ⟨87,row,true⟩):=by simp
  have g1:=hgj.app [aY.ak ⟨87,row,true⟩];have k1:=gw.app H1 [aY.ak ⟨87,row,true⟩];refine zzA (fU (cs:=Tok.row ⟨kd,tx,nu,un',fl⟩) rfl hV (by rw[hrow];simp) (by rw[hrow];rfl) (km (cs:=Tok.row ⟨kd,tx,nu,un',fl⟩) rfl rfl rfl (by simp[bw]) ?_));refine mQ g1 (by simp[da,bw]) (by decide) (by simp only[BY];omega) fun b2 H2 g2 k2=>?_;refine zzA (zzA (zzU (k2.2 _ _ hV) (by rw[hrow];rfl) (uCon (nj kd) (zzH ?_))))
  by_cases hc:dE kd=0
  ·refine zzK (by simp[hc]) (ar ?_);refine next b2 H2 ?_ (k1.trans k2)
   rw[htk,sT];simpa[dV,zF,hc]using g2
  ·refine zzL (by simp[hc]) ?_;rw[if_neg hc]at hct;refine zzA (zzU (k2.2 _ _ hV) (by rw[hrow];rfl) ?_);refine hP (bP l2) (by omega) l2 (aS _) H2 b2 _ g2 (by simp only[BY,aab,aaN];omega) (by omega) _ fun b3 H3 g3 k3=>?_;have hR3:(cM (dV l2)).length=cT l2:=by simp only[aac,mC]
   refine bp (cs:=Tok.row ⟨dE kd,[],0,[],false⟩) rfl (km (cs:=Tok.row ⟨dE kd,[],0,[],false⟩) rfl rfl rfl (by simp[bw]) ?_);refine mQ g3 (by simp[da,bw]) (by decide) (by simp only[BY,aab,aaN];omega) fun b4 H4 g4 k4=>?_;refine ar ?_;refine next b4 H4 ?_ (((k1.trans k2).trans k3).trans k4)
   rw[htk,sT];simpa[dV,zF,hc]using g4
 ·obtain rfl:j=v.length:=by omega
  rw[Gt]at hgj;refine zzK (by simp) ?_;exact⟨_,_,Wk.refl _ _ _ hB.1,hgj,hB⟩
def Su:∀n,Qj n:=by
 intro n;induction n using Nat.strongRecOn with
 | _ n ih=>exact Pe fun n' h=>ih n' h
def DR(v:List Vl):AV×Int:=if ic v=0 then (xy (dV v),0) else (bC,ic v)
def Lv(v:List Vl)(hz:bP v<2^40):aV p_ 267 [.sl 6 (ct v)] (.aw [(DR v).1,i_ (DR v).2]):=by
 have hp:Aw.Pure (DR v).1:=by
  unfold DR xy;split
  ·dsimp only;split
   ·simp[Aw.Pure]
   ·exact jU _
  ·simp[Aw.Pure]
 refine (Yo _).aQ (by simp[ki]) (by simp only[aq,Aw.Pure,and_true];exact hp) ?_;unfold RS;refine uCon (yQ v (by omega)) (zzH ?_)
 by_cases h:ic v=0
 ·refine zzK (by simp[h]) ?_;have hc15:cT v≤1500:=by
   unfold ic at h;split at h
   ·cases h
   ·split at h
    ·cases h
    ·omega
  refine Su _ v (aS _) [] bC [] (.inl ⟨rfl,rfl⟩) (by simp;omega) (by omega) _ fun a' H' g _=>?_;refine cf.sq 1 ?_;show AV.aw [Aw.tl 0 H' 1 a',i_ 0]=_;rw[g.told (by simpa using jU _)];unfold DR xy;rw[if_pos h];simp
 ·refine zzL (by simp[h]) ?_;unfold DR;rw[if_neg h];exact .pure (by simp[aq,Aw.Pure]) rfl
end
section
open Go Go.Aw Go.Qt
def gI(l:List Int):AV:=if l=[] then bC else .sl 1 (dI l)
theorem zu(l:List Int):aX (dI l):=eJ (fun c=>by simp[aq,Aw.Pure]) _
theorem tI(l:List Int):Aw.Pure (gI l):=by
 unfold gI;split
 ·simp[Aw.Pure]
 ·exact zu l
theorem Ak{x:AV}{H:aa}{l:List Int}{e:Nat}(g:jE e 1 x H (dI l))(d:Nat):tl 0 H d x=gI l:=by
 rw[g.told (zu l)];unfold gI
 by_cases h:l=[]
 ·rw[if_pos h,if_pos (by rw[h];rfl)]
 ·rw[if_neg h,if_neg (by simpa[dI]using h)]
variable [Laid]
theorem IV{t:bg}(hs:eH t)(i:Int):aV p_ 16 [cV t,i_ i] (.aw [gI (vq t i),i_ (ie t i).2]):=by
 refine (ZJ _ _).aQ (by simp only[aq,Aw.Pure,and_true];exact dh t) (by simp only[aq,Aw.Pure,and_true];exact tI _) ?_;unfold Vn;obtain⟨B,hB⟩:∃B:aY,B=.ak ⟨24,[.sl 4 (t.map Qt.bx)],true⟩:=⟨_,rfl⟩;refine bq (cs:=[.sl 4 (t.map Qt.bx)]) (h':=[B]) rfl (by simp[bw]) rfl (by rw[hB];rfl) (zzV (b:=⟨24,[.sl 4 (t.map Qt.bx)],true⟩) (by rw[hB];rfl) (aS 1) (uCon (yR hs i) (zzH ?_)));refine aW rfl (fun z=>?_) fun z=>?_
 ·have z:¬(ie t i).2=0:=by simpa using z
  have z2:¬fB t [i]=0:=fun h=>z (by unfold ie;rw[if_pos h]);refine .pure (by simp[aq,Aw.Pure]) ?_;unfold vq;rw[if_neg z2];rfl
 have z:(ie t i).2=0:=by simpa using z
 have za:fB t [i]=0:=Classical.byContradiction fun h=>h (by unfold ie at z;rw[if_neg h]at z;exact z);obtain⟨ba,h0,h1⟩:=vu za;obtain⟨l1,l64⟩:=gD ba;rw[z];have hp:∀{c:Int},0≤c→c<t.length→-1≤(Qt.nd t c).par∧(Qt.nd t c).par<t.length:=fun a b=>ri (lW ba) a b;have ld:∀{H:aa} {c:Int} {K:AV→Prop},H[0]?=some B→0≤c→c<t.length→K (i_ (Qt.nd t c).par)→aN 0 (.op 0 0) fun a=>ae false 1 a H fun b=>au 4 b (i_ c) fun d=>aN 2 d fun e=>ae false 1 e H K:=fun {H c K} hb c0 c1 k =>
  zzA (zzU (by rw[hb,hB]) rfl (zzc (n:=c.toNat) (l:=t) (f:=Qt.bx) rfl (by rw[Int.toNat_of_nonneg c0]) (kA c0 c1) (zzX (zzW k))))
 refine ld rfl h0 h1 (aG (α:=List Int×Int×Nat×AV×aa) (fun p=>jE 3 1 p.2.2.2.1 p.2.2.2.2 (dI p.1)∧p.2.2.2.2[0]?=some B∧p.1.length+p.2.2.1≤64∧-1≤p.2.1∧p.2.1<t.length∧fy t p.2.2.1 p.2.1=true∧p.1++qy t p.2.2.1 p.2.1=qy t (t.length-1) (Qt.nd t i).par) (fun p=>[p.2.2.2.1,i_ p.2.1]) (fun p=>p.2.2.2.2) (fun p=>p.2.2.1) ([],(Qt.nd t i).par,t.length-1,bC,[B]) ⟨.inl ⟨rfl,rfl⟩,rfl,by simp only[aaN];omega,(hp h0 h1).1,(hp h0 h1).2,Es ba h0 h1,List.nil_append _⟩ (Wk.refl _ _ _ (aS _)) ?_);rintro⟨out,k,m,x,H⟩ ⟨hg,hH,hm,k1,k2,hu,hd⟩;simp only at hg hH hm k1 k2 hu hd ⊢;refine zzF ?_;refine aW rfl (fun y=>?_) fun y=>?_
 ·have y:0≤k:=uP y;cases m with
  | zero=>rw[fy]at hu;have:=uP hu;omega
  | succ m =>
    rw[fy,if_neg (by omega)]at hu;rw[qy,if_neg (by omega)]at hd;have mk:∀{K:AV→Prop},K (.sl 1 [[i_ k]])→bz 1 1 (i_ 0) [(0,1,i_ k)] K:=fun q=>q;refine mk ?_;refine mQ hg rfl (by decide) (by simp only[dI,aac];omega) fun x' H' g' b' => ?_;have hH':H'[0]?=some B:=by rw[hB];exact b'.2 0 _ (by rw[hH,hB])
    refine ld hH' y k2 ?_;have hk:=hp y k2;refine⟨(by trivial),(out++[k],(Qt.nd t k).par,m,x',H'),⟨by simpa[dI]using g',hH',by simp only[BY,aab,aaN];omega,hk.1,hk.2,hu,by simp only[TO,List.singleton_append];exact hd⟩,Wk.refl _ _ _ (by have:=(dO.1 hH').1;simp only[aab,aaN];omega),by simp only;omega⟩
 ·have y:¬0≤k:=At y;have e0:qy t m k=[]:=by
   cases m with
   | zero=>rfl
   | succ m=>rw[qy,if_pos (by omega)]
  rw[e0,aal]at hd;refine cf.sq 1 ?_;show AV.aw [Aw.tl 0 H 1 x,i_ 0]=_;rw[Ak hg];unfold vq;rw[if_pos za,hd]
end
section
open Go Go.Aw Go.Qt
variable [Laid]
abbrev Ud:List AV:=[.op 1 0,.op 0 0,.op 2 0]
abbrev NV(t:bg):aY:=.ak ⟨24,[.sl 4 (t.map Qt.bx)],true⟩
abbrev WU:aY:=.ak ⟨65,[.fn (.func 31) [] Ud],true⟩
structure Iw(t:bg)(H:aa)(x:AV)(R:List Int):Prop where
 g:jE 3 1 x H (dI R)
 b:H[0]?=some (NV t)
 o:H[1]?=some (.ak ⟨29,[x],true⟩)
 f:H[2]?=some WU
theorem JT{t:bg}(hc:eH t):∀(n:Nat) (k:Int),DJ t n k=true→∀(H:aa) (x:AV) (R:List Int),Iw t H x R→R.length+(gq t n k).length<2^20 →
 ∀K:AV→aa→Prop,(∀x' H',Iw t H' x' (R++gq t n k)→H.length≤H'.length→K (.aw []) H')→bA p_ (.fn (.func 31) [] Ud) [i_ k] H K
 | 0,k,hd,_,_,_,_,_,_,_=>by rw[DJ]at hd;cases hd
 | n+1,k,hd,H,x,R,w,hb,K,q=>by
   rw[DJ,On]at hd;obtain⟨hi,hch⟩:=hd;unfold iE at hi;simp only[On,OF]at hi;refine⟨by kernel_rfl,cw.mono (K:=fun r H' => r=.aw []∧∃x',Iw t H' x' (R++gq t (n+1) k)∧H.length≤H'.length) ?_ (fun r H' h=>by obtain⟨rfl,x',h1,h2⟩:=h;exact q x' H' h1 h2)⟩;refine (ZW _ _ _ _).bR ?_;unfold VA;have ld:∀{H:aa} {K:AV→Prop},H[0]?=some (NV t)→K (.sl 1 (dI (Qt.nd t k).ch))→aN 0 (.op 0 0) fun a=>ae false 1 a H fun b=>au 4 b (i_ k) fun d=>aN 3 d fun e=>ae false 1 e H K:=fun {H K} hb q =>
    zzA (zzU hb rfl (zzc (n:=k.toNat) (l:=t) (f:=Qt.bx) rfl (by rw[Int.toNat_of_nonneg hi.1]) (kA hi.1 hi.2) (zzX (zzW q))))
   refine zzU w.o rfl ?_;have mk:∀{K:AV→Prop},K (.sl 1 [[i_ k]])→bz 1 1 (i_ 0) [(0,1,i_ k)] K:=fun q=>q;refine mk ?_;have hlen:(gq t (n+1) k).length=1+((Qt.nd t k).ch.flatMap (gq t n)).length:=by rw[gq,aab];omega
   refine mQ w.g rfl (by decide) (by simp only[dI,aac];omega) fun x1 H1 g1 b1=>?_;have o1:=b1.2 1 _ w.o;have sc1:bw x1=true:=by
    rcases g1 with⟨_,rfl⟩|⟨_,id,rfl,_⟩
    ·rfl
    ·rfl
   refine aM (cs:=[x1]) rfl o1 rfl (by cases x1<;>first|rfl|(exact absurd sc1 (by simp[bw]))) (aS 1) rfl (by rw[aaC,sc1];rfl) rfl ?_;have w1:Iw t (H1.set 1 (.ak ⟨29,[x1],true⟩)) x1 (R++[k]):=by
    refine⟨jE.set (by simpa[dI]using g1) o1, ?_, ?_, ?_⟩
    ·rw[iN (by decide)];exact b1.2 0 _ w.b
    ·rw[iF (dO.1 o1).1]
    ·rw[iN (by decide)];exact b1.2 2 _ w.f
   have l1:H.length≤(H1.set 1 (.ak ⟨29,[x1],true⟩)).length:=by rw[aan];exact b1.1
   refine ld w1.b ?_;refine zzg (n:=(Qt.nd t k).ch.length) (by simp[dI]) fun _=>?_;have hcc:=hc k;refine aG (α:=Nat×AV×aa) (fun p=>p.1≤(Qt.nd t k).ch.length∧Iw t p.2.2 p.2.1 (R++k:: ((Qt.nd t k).ch.take p.1).flatMap (gq t n))∧(H1.set 1 (.ak ⟨29,[x1],true⟩)).length≤p.2.2.length) (fun p=>[i_ p.1]) (fun p=>p.2.2) (fun p=>(Qt.nd t k).ch.length-p.1) (0,x1,_) ⟨aao _,by simpa using w1,aS _⟩ (Wk.refl _ _ _ (aS _)) ?_;rintro⟨j,x2,H2⟩ ⟨hj,w2,l2⟩;simp only at hj w2 l2 ⊢;refine zzC ?_;refine aW rfl (fun z=>?_) fun z=>?_
   ·have z:j<(Qt.nd t k).ch.length:=by have:=uP z;omega
    obtain⟨c,hcj⟩:∃c,(Qt.nd t k).ch[j]?=some c:=⟨_,bY z⟩;have htk:(Qt.nd t k).ch.take (j+1)=(Qt.nd t k).ch.take j++[c]:=by rw[DO,hcj];rfl
    have hdc:DJ t n c=true:=AT.1 hch c (eQ hcj);have hsplit:((Qt.nd t k).ch.flatMap (gq t n)).length=(((Qt.nd t k).ch.take (j+1)).flatMap (gq t n)).length+(((Qt.nd t k).ch.drop (j+1)).flatMap (gq t n)).length:=by
     rw[←BY,←List.flatMap_append,List.take_append_drop]
    rw[htk,List.flatMap_append,List.flatMap_singleton,BY]at hsplit;refine zzc (l:=(Qt.nd t k).ch) (f:=fun c=>[i_ c]) rfl rfl hcj (zzW (zzU w2.f rfl ?_));refine JT hc n c hdc H2 x2 _ w2 (by simp only[BY,aab];omega) _ fun x3 H3 w3 l3=>?_;refine zzP (by unfold aZ;omega) ?_;refine⟨(by trivial),(j+1,x3,H3),⟨z, ?_,aat l2 l3⟩,Wk.refl _ _ _ (aat l2 l3),by simp only;omega⟩;simp only;rw[htk,List.flatMap_append,List.flatMap_singleton];rw[TO,aaQ]at w3;exact w3
   ·have z:¬j<(Qt.nd t k).ch.length:=fun h=>by have:=At z;omega
    obtain rfl:j=(Qt.nd t k).ch.length:=by omega
    rw[Gt]at w2;refine⟨_,_,Wk.refl _ _ _ (aat l1 l2),rfl,x2, ?_,aat l1 l2⟩;rw[gq];exact w2
end
end Go.Proofs.YtkfakehconamoaaGreatDoor
namespace Go.Qt
section
open Go Go.Aw
theorem FX{t:bg}:∀(m:Nat) (k:Int),fy t m k=true→nk t (m+1) k=nk t m k
 | 0,k,h=>by
   rw[fy]at h;show (if k<0 then 0 else 1+nk t 0 (nd t k).par)=0;rw[if_pos (uP h)]
 | m+1,k,h=>by
   rw[fy]at h
   by_cases q:k<0
   ·show (if k<0 then 0 else 1+nk t (m+1) (nd t k).par)=if k<0 then 0 else 1+nk t m (nd t k).par
    rw[if_pos q,if_pos q]
   ·rw[if_neg q]at h;show (if k<0 then 0 else 1+nk t (m+1) (nd t k).par)=if k<0 then 0 else 1+nk t m (nd t k).par
    rw[if_neg q,if_neg q,FX m _ h]
theorem Nr(t:bg):∀(m:Nat) (k:Int),nk t m k≤m
 | 0,_=>aS 0
 | m+1,k=>by
   rw[nk];split
   ·exact aao _
   ·have:=Nr t m (nd t k).par;omega
def dep(t:bg)(k:Int):Nat:=nk t (t.length-1) (nd t k).par
theorem Sj{t:bg}(h:cU t=true)(k:Int):dep t k<t.length:=by
 have:=Nr t (t.length-1) (nd t k).par;have:=(gD h).1;unfold dep;omega
theorem Ae{t:bg}(h:cU t=true){c:Int}(c0:0≤c)(c1:c<t.length)(hp:0≤(nd t c).par):dep t c=dep t (nd t c).par+1:=by
 have hu:=Es h c0 c1;obtain⟨m,hm⟩:∃m,t.length-1=m+1:=by
  cases e:t.length-1 with
  | zero=>rw[e,fy]at hu;have:=uP hu;omega
  | succ m=>exact⟨m,rfl⟩
 rw[hm,fy,if_neg (by omega)]at hu;unfold dep;rw[hm,FX m _ hu,nk,if_neg (by omega)];omega
theorem yj{t:bg}(h:cU t=true){k:Int}(k0:0≤k)(k1:k<t.length):∀c∈(nd t k).ch,0≤c∧c<t.length∧(nd t c).par=k:=by
 intro c hc;have:=AT.1 (lW h) k.toNat (ID.2 (by omega));unfold rf vS at this;simp only[On]at this;rw[Int.toNat_of_nonneg k0]at this;obtain⟨j,hj,e⟩:=List.mem_iff_getElem.1 hc;have hj2:=AT.1 this.2.2 j (ID.2 hj);unfold zn iE at hj2;rw[nO,bY hj,e]at hj2;simp only[Option.getD_some,On,OF]at hj2;rw[Int.toNat_of_nonneg k0]at hj2;exact⟨hj2.1.1.1,hj2.1.1.2,hj2.2⟩
theorem Nq{t:bg}(h:cU t=true):∀(n:Nat) (k:Int),0≤k→k<t.length→t.length≤n+dep t k→DJ t n k=true
 | 0,k,k0,k1,hn=>by have:=Sj h k;omega
 | n+1,k,k0,k1,hn=>by
   rw[DJ,On];refine⟨by unfold iE;rw[tO k0,tO k1];rfl,AT.2 fun c hc=>?_⟩;obtain⟨c0,c1,cp⟩:=yj h k0 k1 c hc;have hd:=Ae h c0 c1 (by omega);rw[cp]at hd;exact Nq h n c c0 c1 (by omega)
def up(t:bg):Nat→Int→Int
 | 0,x=>x
 | j+1,x=>up t j (nd t x).par
theorem G4(t:bg):∀(j:Nat) (x:Int),up t (j+1) x=(nd t (up t j x)).par
 | 0,_=>rfl
 | j+1,x=>by rw[up,G4 t j,up]
theorem oh{t:bg}(h:cU t=true):∀(n:Nat) (k:Int),0≤k→k<t.length→∀x∈gq t n k,(0≤x∧x<t.length)∧dep t k≤dep t x∧up t (dep t x-dep t k) x=k
 | 0,_,_,_,x,hx=>by rw[gq]at hx;cases hx
 | n+1,k,k0,k1,x,hx=>by
   rw[gq]at hx;rcases IS.1 hx with rfl|hx
   ·exact⟨⟨k0,k1⟩,aS _,by rw[Nat.sub_self,up]⟩
   ·obtain⟨c,hc,hx⟩:=List.mem_flatMap.1 hx;obtain⟨c0,c1,cp⟩:=yj h k0 k1 c hc;have hd:=Ae h c0 c1 (by omega);rw[cp]at hd;obtain⟨hr,h1,h2⟩:=oh h n c c0 c1 x hx;refine⟨hr,by omega, ?_⟩;rw[show dep t x-dep t k=(dep t x-dep t c)+1 by omega,G4,h2,cp]
theorem Lp{t:bg}(h:cU t=true){k:Int}(k0:0≤k)(k1:k<t.length):(nd t k).ch.Nodup:=by
 have:=AT.1 (lW h) k.toNat (ID.2 (by omega));unfold rf vS at this;simp only[On]at this;rw[Int.toNat_of_nonneg k0]at this;rw[List.Nodup,List.pairwise_iff_getElem];intro i j hi hj hij e;have hj2:=AT.1 this.2.2 j (ID.2 hj);unfold zn at hj2;rw[nO,bY hj]at hj2;simp only[Option.getD_some,On,aaI]at hj2;have hm:(nd t k).ch[j]∈(nd t k).ch.take j:=by
  rw[←e];exact List.mem_iff_getElem.2 ⟨i,by simp;omega,by simp⟩
 rw[List.contains_iff_mem.2 hm]at hj2;exact absurd hj2.1.2 (by decide)
theorem zj{f:Int→List Int}:∀cs:List Int,cs.Nodup→(∀c∈cs,(f c).Nodup)→(∀c∈cs,∀d∈cs,c≠d→∀x∈f c,x∉f d)→(cs.flatMap f).Nodup
 | [],_,_,_=>List.nodup_nil
 | c:: cs,h,h1,h2=>by
   rw[List.flatMap_cons,List.nodup_append];obtain⟨ha,hb⟩:=List.nodup_cons.1 h;refine⟨h1 c (aaJ ..),zj cs hb (fun d hd=>h1 d (MK _ hd)) fun a ha b hb' => h2 a (MK _ ha) b (MK _ hb'),fun x hx y hy e=>?_⟩;subst e;obtain⟨d,hd,hy⟩:=List.mem_flatMap.1 hy;exact h2 c (aaJ ..) d (MK _ hd) (fun e=>ha (e▸hd)) x hx hy
theorem Cd{t:bg}(h:cU t=true):∀(n:Nat) (k:Int),0≤k→k<t.length→(gq t n k).Nodup
 | 0,_,_,_=>by rw[gq];exact List.nodup_nil
 | n+1,k,k0,k1=>by
   have hc:=yj h k0 k1;have hd:∀c∈(nd t k).ch,dep t c=dep t k+1:=fun c hm=>by
    obtain⟨c0,c1,cp⟩:=hc c hm;have:=Ae h c0 c1 (by omega);rw[cp]at this;exact this
   rw[gq,List.nodup_cons];refine⟨fun hx=>?_,zj _ (Lp h k0 k1) (fun c hm=>Cd h n c (hc c hm).1 (hc c hm).2.1) fun c hm d hm2 ne x hx hy=>?_⟩
   ·obtain⟨c,hm,hx⟩:=List.mem_flatMap.1 hx;have:=(oh h n c (hc c hm).1 (hc c hm).2.1 k hx).2.1;have:=hd c hm;omega
   ·have e1:=(oh h n c (hc c hm).1 (hc c hm).2.1 x hx).2.2;have e2:=(oh h n d (hc d hm2).1 (hc d hm2).2.1 x hy).2.2;rw[hd c hm]at e1;rw[hd d hm2]at e2;exact ne (e1.symm.trans e2)
theorem vW:∀(n:Nat) (l:List Int),l.Nodup→(∀x∈l,0≤x∧x<n)→l.length≤n
 | 0,[],_,_=>aS 0
 | 0,x:: l,_,h=>by have:=h x (aaJ ..);omega
 | n+1,l,hn,h=>by
   by_cases q:(n:Int)∈l
   ·have:=vW n (l.erase n) (hn.erase _) fun x hx=>by
     have h1:=h x (List.mem_of_mem_erase hx);have h2:x≠n:=fun e=>by rw[e]at hx;exact (List.Nodup.not_mem_erase hn) hx
     omega
    rw[List.length_erase_of_mem q]at this;omega
   ·have:=vW n l hn fun x hx=>by
     have h1:=h x hx;have h2:x≠n:=fun e=>q (e▸hx);omega
    omega
theorem Bb{t:bg}(h:cU t=true)(n:Nat){k:Int}(k0:0≤k)(k1:k<t.length):(gq t n k).length≤t.length:=
 vW _ _ (Cd h n k k0 k1) fun x hx=>(oh h n k k0 k1 x hx).1
end
end Go.Qt
namespace Go.Proofs.YtkfakehconamoaaGreatDoor
section
open Go Go.Aw Go.Qt
variable [Laid]
theorem IX{t:bg}(hs:eH t)(i:Int):aV p_ 19 [cV t,i_ i] (.aw [gI (jT t i),i_ (ie t i).2]):=by
 refine (ZL _ _).aQ (by simp only[aq,Aw.Pure,and_true];exact dh t) (by simp only[aq,Aw.Pure,and_true];exact tI _) ?_;unfold Vp;refine bq (cs:=[.sl 4 (t.map Qt.bx)]) (h':=[NV t]) rfl (by simp[bw]) rfl rfl (zzV (b:=⟨24,[.sl 4 (t.map Qt.bx)],true⟩) rfl (aS 1) (uCon (yR hs i) (zzH ?_)));refine aW rfl (fun z=>?_) fun z=>?_
 ·have z:¬(ie t i).2=0:=by simpa using z
  have z2:¬fB t [i]=0:=fun h=>z (by unfold ie;rw[if_pos h]);refine .pure (by simp[aq,Aw.Pure]) ?_;unfold jT;rw[if_neg z2];rfl
 have z:(ie t i).2=0:=by simpa using z
 have za:fB t [i]=0:=Classical.byContradiction fun h=>h (by unfold ie at z;rw[if_neg h]at z;exact z);obtain⟨ba,h0,h1⟩:=vu za;rw[z];refine bq (cs:=[bC]) rfl (by simp[bw]) rfl rfl (bq (cs:=[.v .nilFunc]) rfl (by simp[bw]) rfl rfl (aM (cs:=[.fn (.func 31) [] Ud]) (h':=[NV t,.ak ⟨29,[bC],true⟩,WU]) rfl rfl rfl rfl (aS 1) rfl rfl rfl (zzU rfl rfl ?_)));have hl:=Bb ba t.length h0 h1;have l64:=(gD ba).2;refine JT hs t.length i (Nq ba _ i h0 h1 (Nat.le_add_right _ _)) _ bC [] ⟨.inl ⟨rfl,rfl⟩,rfl,rfl,rfl⟩ (by simp only[aaN];omega) _ fun x' H' w' _=>?_;refine zzU w'.o rfl (cf.sq 1 ?_);show AV.aw [Aw.tl 0 H' 1 x',i_ 0]=_;rw[Ak w'.g,List.nil_append];unfold jT;rw[if_pos za]
end
section
open Go Go.Aw
variable [Laid]
def Q8(g e:AV)(h:aa)(K:AV→aa→Prop):Prop:=
 aB 24 g h fun b c=>ae true 1 b c fun i=>iC p_ 67 [i] c fun d a=>qBe .neq d 0 fun j=>af j (K d a) (qBe .lss e 0 fun k=>qKo k a (fun l=>iFL 0 false 1 b a fun m=>aU m fun n=>ag .geq e n fun o=>l o a) fun p f=>af p (K (i_ 2) f) (K (i_ 0) f))
def XJ(a b:AV):Body p_ 160 [a,b] (Q8 a b):=mkB Tryz.func160 (sn (sn (.seq (.seq (.aO (oR 0 3 (.aA 2 false (fR 3 5) [] [13,18]::.op 8 false::[]))) .nil) .nil))) 20 [.tmp 4]
def Q9(b c:AV)(h:aa)(K:AV→aa→Prop):Prop:=
 iC p_ 218 [b,c,.fn (.func 219) [] []] h fun a d=>ay 0 a fun e=>ay 1 a fun f=>K (.aw [e,f]) d
def XK(a b:AV):Body p_ 161 [a,b] (Q9 a b):=mkB Tryz.func161 .nil 11 [.tmp 4,.tmp 5]
def RH(b e:AV)(h:aa)(K:AV→aa→Prop):Prop:=
 aB 69 b h fun c a=>iFL 0 false 1 c a fun d=>iC p_ 220 [d,e] a fun f g=>K f g
def Ye(a b:AV):Body p_ 219 [a,b] (RH a b):=mkB Tryz.func219 .nil 9 [.tmp 4]
def QB(i d o:AV)(h:aa)(K:AV→aa→Prop):Prop:=
 aB 24 i h fun c e=>ae true 1 c e fun j=>iC p_ 160 [j,d] e fun f b=>qBe .neq f 0 fun k=>af k (K (.aw [.str [],f]) b) (iFL 0 false 1 c b fun l=>au 4 l d fun m=>iFL 1 false 1 m b fun n=>iC p_ 161 [n,o] b fun g a=>ay 0 g fun p=>ay 1 g fun q=>bT q fun r=>af r (K (.aw [.str [],i_ 6]) a) (iFL 0 false 1 c a fun s=>au 4 s d fun t=>iFL 1 false 1 t a fun u=>au 2 u p fun v=>iFL 1 false 1 v a fun w=>K (.aw [w,i_ 0]) a))
def Xc(a b c:AV):Body p_ 111 [a,b,c] (QB a b c):=mkB Tryz.func111 .nil 40 [.tmp 6,.tmp 7]
def RG(b f e:AV)(h:aa)(K:AV→aa→Prop):Prop:=
 aU b fun d=>bc [i_ 0,d] h fun i a c =>
 ag .lss (nx a 0) (nx a 1) fun k=>af k (ag .add (nx a 0) (nx a 1) fun l=>cH .u64 l fun m=>ag .shr m (.v (.int .u64 1)) fun n=>cH .i64 n fun g=>au 2 b g fun o=>ae true 2 o c fun p=>bA p_ e [p,f] c fun q j=>qBe .lss q 0 fun r=>af r (qBe .add g 1 fun s=>eC [b,f,e,d] (i [s,nx a 1] j)) (eC [b,f,e,d] (i [nx a 0,g] j))) (ag .lss (nx a 0) d fun t=>qJa t [nx a 0] c (fun u=>au 2 b (nx a 0) fun w=>ae true 2 w c fun x=>bA p_ e [x,f] c fun y z=>qBe .eql y 0 fun A=>u A z) fun B C=>K (.aw [nx a 0,B]) C)
def Yd(a b c:AV):Body p_ 218 [a,b,c] (RG a b c):=mkB Tryz.func218 (sn (sn (sn (.seq (.one (.loop [0,1,2,8] [9,10] .nil)) (.seq (.aO (oR 0 5 (.aA 4 true (fR 5 8) [35] [39,47]::oR 13 3 []))) .nil))))) 49 [.tmp 6,.tmp 7]
def Q7(f d:AV)(h:aa)(K:AV→aa→Prop):Prop:=
 aB 24 f h fun b c=>ae true 1 b c fun g=>iC p_ 111 [g,d,.str [104,114,101,102]] c fun e a=>ay 0 e fun r=>ay 1 e fun i=>qBe .eql i 0 fun j=>qKa j a (fun k=>iFL 0 false 1 b a fun l=>au 4 l d fun m=>iFL 0 false 1 m a fun n=>ag .eql n (.str [97]) fun o=>k o a) fun p q=>K p q
def XI(a b:AV):Body p_ 159 [a,b] (Q7 a b):=mkB Tryz.func159 (sn (sn (.seq (.aO (oR 0 3 (.aA 2 true (fR 3 7) [] [15,22]::oR 10 2 []))) .nil))) 24 [.tmp 4]
def Qz(g d:AV)(h:aa)(K:AV→aa→Prop):Prop:=
 aB 24 g h fun b c=>ae true 1 b c fun i=>iC p_ 32 [i,d] c fun e a=>ay 0 e fun n=>ay 1 e fun f=>qBe .neq f 0 fun j=>af j (K (.aw [ff,f]) a) (ae true 1 b a fun k=>iC p_ 159 [k,d] a fun l m=>K (.aw [l,i_ 0]) m)
def Xa(a b:AV):Body p_ 109 [a,b] (Qz a b):=mkB Tryz.func109 .nil 20 [.tmp 4,.tmp 5]
end
section
open Go Go.Aw Go.Qt
variable [Laid]
theorem E9{t:bg}(hs:eH t)(i:Int):aV p_ 160 [cV t,i_ i] (i_ (fB t [i])):=by
 refine (XJ _ _).aQ (by simp only[aq,Aw.Pure,and_true];exact dh t) (by simp) ?_;unfold Q8;refine bq (cs:=[.sl 4 (t.map Qt.bx)]) rfl (by simp[bw]) rfl rfl (zzV (b:=⟨24,[.sl 4 (t.map Qt.bx)],true⟩) rfl (aS 1) (uCon (pS hs) (zzH ?_)));cases hk:cU t with
 | false =>
   have e:lR t=8:=by unfold lR;rw[hk];rfl
   rw[e];refine zzL rfl (.pure (by simp) ?_);unfold fB;rw[hk];rfl
 | true =>
   have e:lR t=0:=by unfold lR;rw[hk];rfl
   rw[e];refine zzK rfl ?_;have ea:fB t [i]=if iE t i then 0 else 2:=by unfold fB;rw[hk];simp
   refine zzC (CS (b2:=decide ((t.length:Int)≤i)) rfl (fun _ F k=>aR rfl (zzU (b:=⟨24,[.sl 4 (t.map Qt.bx)],true⟩) rfl rfl (zzg (n:=t.length) (by simp) fun _=>fk rfl rfl k))) ?_);have ei:iE t i=!(decide (i<0)||decide ((t.length:Int)≤i)):=by
    unfold iE;rw[show decide (0≤i)=!decide (i<0) by rw[Bool.eq_iff_iff];simp,show decide (i<t.length)=!decide ((t.length:Int)≤i) by rw[Bool.eq_iff_iff];simp];cases decide (i<0)<;>cases decide ((t.length:Int)≤i)<;>rfl
   refine aW rfl (fun z=>.pure (by simp) ?_) fun z=>.pure (by simp) ?_
   ·rw[ea,ei,z];rfl
   ·rw[ea,ei,z];rfl
end
section
open Go Go.Aw Go.Qt Go.RowKit
theorem uSo0{α:Type}{a b:α}(h:a=b:=by kernel_rfl):some a=some b:=congrArg some h
def lays106_ren:Go.Shelf.Ren:=⟨fun|106=>220|213=>270|265=>291|n=>n,fun|9=>9|3=>3|n=>n,fun|n=>n⟩
theorem lays106:Go.Proofs.Lays.n106 p_ lays106_ren:={
 mixed:=by kernel_rfl
 f106:=Tryz.func220.trans uSo0
 f213:=Tryz.func270.trans uSo0
 f265:=Tryz.func291.trans uSo0
 t3:=Tryz.underlying3
 a3:=Tryz.isAgg3
 z3:=Tryz.sizeOf3
 v3:=Tryz.zeroValue3
 t9:=Tryz.underlying9
 a9:=Tryz.isAgg9
 z9:=Tryz.sizeOf9
 v9:=Tryz.zeroValue9 }
theorem E6[Laid](a b:Qt.ao):aV p_ 220 [.str a,.str b] (i_ (Lib.compareBytes a b)):=by
 refine gV (v:=.int .i64 (Lib.compareBytes a b)) (by simp[aq,Aw.Pure]) (by simp) (by simp) (fun w=>by simp) ?_;intro ι S w vs h1 hg
 match vs,h1 with
 | [],h1=>simp at h1
 | [v],h1=>simp at h1
 | v:: u:: x:: vs,h1=>simp at h1
 | [v,u],h1 =>
   simp only[bL,di,and_true,dG]at h1;obtain⟨⟨rfl,_⟩,rfl,_⟩:=h1;refine (Any.strings_Compare lays106 ⟨a.toArray⟩ ⟨b.toArray⟩ w).mono ?_;rintro e w' ⟨rfl,rfl⟩;exact⟨by simp,Below.refl _ _⟩
variable [Laid]
theorem BG(a:Qt.ao×Qt.ao)(s:Qt.ao):aV p_ 219 [.agg (eO a),.str s] (i_ (Lib.compareBytes a.1 s)):=by
 refine (Ye _ _).aQ (by simp only[aq,Aw.Pure,and_true];exact xf a) (by simp) ?_;unfold RH;refine bq (cs:=eO a) rfl (by simp[eO,bw]) rfl rfl ?_;refine zzA (zzU (b:=⟨69,eO a,true⟩) rfl rfl ?_);refine uCon (E6 _ _) ?_;exact .pure (by simp) rfl
end
end Go.Proofs.YtkfakehconamoaaGreatDoor
section
namespace Go.Qt
open Go Go.Aw
def u2(l:List (ao×ao))(s:ao)(i:Nat):Int:=Lib.compareBytes (l.getD i ([],[])).1 s
def xt(l:List (ao×ao))(s:ao):Nat→Nat→Nat→Nat
 | 0,i,_=>i
 | n+1,i,j=>if i<j then (if u2 l s ((i+j)/2)<0 then xt l s n ((i+j)/2+1) j else xt l s n i ((i+j)/2)) else i
def td(l:List (ao×ao))(s:ao):Nat:=xt l s l.length 0 l.length
def uZ(l:List (ao×ao))(s:ao):Bool:=decide (td l s<l.length)&&decide (u2 l s (td l s)=0)
theorem Hg{l:List (ao×ao)}{i:Nat}(h:i<l.length):l[i]?=some (l.getD i ([],[])):=by rw[nO,bY h];rfl
end Go.Qt
namespace Go.Proofs.YtkfakehconamoaaGreatDoor
open Go Go.Aw Go.Qt Go.RowKit
variable [Laid]
theorem Ok(l:List (Qt.ao×Qt.ao))(s:Qt.ao)(hl:l.length<2^40):aV p_ 218 [.sl 2 (l.map eO),.str s,.fn (.func 219) [] []] (.aw [i_ (td l s),b_ (uZ l s)]):=by
 refine (Yd _ _ _).aQ (by simp only[aq,Aw.Pure,and_true];exact eJ xf _) (by simp[aq,Aw.Pure]) ?_;unfold RG;refine zzg (n:=l.length) (by simp) fun _=>?_;refine aG (α:=Nat×Nat×Nat) (fun p=>p.1≤p.2.1∧p.2.1≤l.length∧p.2.1-p.1≤p.2.2∧xt l s p.2.2 p.1 p.2.1=td l s) (fun p=>[i_ p.1,i_ p.2.1]) (fun _=>[]) (fun p=>p.2.1-p.1) (0,l.length,l.length) ⟨aao _,aS _,Nat.sub_le _ _,rfl⟩ (Wk.refl _ _ _ (by simp)) ?_;rintro⟨i,j,n⟩ ⟨hij,hj,hn,he⟩;simp only at hij hj hn he ⊢;refine zzC ?_;rcases AS i j with q|q
 ·cases n with
  | zero=>omega
  | succ n =>
    rw[xt,if_pos q]at he;have hsum:aZ ((i:Int)+j):=by unfold aZ;omega
    have w1:IntKind.u64.wrap ((i:Int)+j)=(i:Int)+j:=by rw[IntKind.wrap_u64];omega
    have eh:(((i:Int)+j).fdiv (2^(min (1:Int).toNat IntKind.u64.bits)))=(((i+j)/2:Nat):Int):=by
     have:min (1:Int).toNat IntKind.u64.bits=1:=rfl;rw[this];simp[Int.fdiv_eq_ediv_of_nonneg]
    have w2:IntKind.i64.wrap ((((i+j)/2:Nat):Int))=(((i+j)/2:Nat):Int):=by rw[IntKind.wrap_i64];omega
    obtain⟨m,hm⟩:∃m,(i+j)/2=m:=⟨_,rfl⟩;rw[hm]at eh w2 he;have m1:i≤m:=by omega
    have m2:m<j:=by omega
    refine zzL (by simpa using q) (zzP hsum ?_);refine⟨_,_,rfl, ?_⟩;rw[w1];refine⟨by omega, ?_⟩;simp only;rw[eh];refine⟨_,_,rfl, ?_⟩;rw[w2];refine zzc (l:=l) (f:=eO) rfl rfl (Hg (by omega)) (jb rfl (aS 2) (uCon (BG _ s) (zzC ?_)));refine aW rfl (fun hc=>?_) (fun hc=>?_)
    ·have hc:u2 l s m<0:=uP hc;rw[if_pos hc]at he;refine zzP (by unfold aZ;omega) ?_;exact⟨(by trivial),(m+1,j,n),⟨by simp only;omega,hj,by simp only;omega,he⟩,Wk.refl _ _ _ (by simp),by simp only;omega⟩
    ·have hc:¬u2 l s m<0:=At hc;rw[if_neg hc]at he;exact⟨(by trivial),(i,m,n),⟨by simp only;omega,by simp only;omega,by simp only;omega,he⟩,Wk.refl _ _ _ (by simp),by simp only;omega⟩
 ·have e:i=td l s:=by
   rw[←he];cases n with
   | zero=>rfl
   | succ n=>rw[xt,if_neg (by omega)]
  refine zzK (by simp;omega) (zzC ?_);refine jR (b2:=decide (u2 l s i=0)) rfl (by trivial) (fun h F k=>?_) ?_
  ·have h:i<l.length:=by have:=uP h;omega
   refine zzc (l:=l) (f:=eO) rfl rfl (Hg h) (jb rfl (aS 2) ?_);exact uCon (BG _ s) (zzG ⟨(by trivial),k⟩)
  refine .pure (by simp[aq,Aw.Pure]) ?_;unfold uZ;rw[←e];simp
end Go.Proofs.YtkfakehconamoaaGreatDoor
end
section
namespace Go.Qt
open Go Go.Aw
def vI(t:bg)(i:Int)(s:ao):ao×Int:=
 if fB t [i]=0 then (if uZ (nd t i).dZ s then (((nd t i).dZ.getD (td (nd t i).dZ s) ([],[])).2,0) else ([],6)) else ([],fB t [i])
def oH:ao:=[104,114,101,102]
def jd(t:bg)(i:Int):Bool:=decide ((vI t i oH).2=0)&&decide ((nd t i).tag=[97])
def A3(t:bg)(i:Int):Bool×Int:=if fB t [i]=0 then (jd t i,0) else (false,fB t [i])
theorem JS{t:bg}(h:cU t=true){c:Int}(c0:0≤c)(c1:c<t.length):(nd t c).dZ.length≤16:=by
 have:=AT.1 (lW h) c.toNat (ID.2 (by omega));unfold rf gH at this;simp only[On,OF]at this;rw[Int.toNat_of_nonneg c0]at this;exact this.1.2.2
end Go.Qt
namespace Go.Proofs.YtkfakehconamoaaGreatDoor
open Go Go.Aw Go.Qt Go.RowKit
variable [Laid]
theorem IY(l:List (Qt.ao×Qt.ao))(s:Qt.ao)(hl:l.length<2^40):aV p_ 161 [.sl 2 (l.map eO),.str s] (.aw [i_ (td l s),b_ (uZ l s)]):=by
 refine (XK _ _).aQ (by simp only[aq,Aw.Pure,and_true];exact eJ xf _) (by simp[aq,Aw.Pure]) ?_;unfold Q9;refine uCon (Ok l s hl) (zzB rfl (zzB rfl ?_));exact .pure (by simp[aq,Aw.Pure]) rfl
theorem Og{t:bg}(hs:eH t)(i:Int)(s:Qt.ao):aV p_ 111 [cV t,i_ i,.str s] (.aw [.str (vI t i s).1,i_ (vI t i s).2]):=by
 refine (Xc _ _ _).aQ (by simp only[aq,Aw.Pure,and_true];exact dh t) (by simp[aq,Aw.Pure]) ?_;unfold QB;refine bq (cs:=[.sl 4 (t.map Qt.bx)]) rfl (by simp[bw]) rfl rfl (zzV (b:=⟨24,[.sl 4 (t.map Qt.bx)],true⟩) rfl (aS 1) (uCon (E9 hs i) (zzH ?_)));refine aW rfl (fun z=>?_) fun z=>?_
 ·have z:¬fB t [i]=0:=by simpa using z
  refine .pure (by simp[aq,Aw.Pure]) ?_;unfold vI;rw[if_neg z]
 have za:fB t [i]=0:=by simpa using z
 obtain⟨ba,h0,h1⟩:=vu za;have hg:vI t i s=if uZ (Qt.nd t i).dZ s then (((Qt.nd t i).dZ.getD (td (Qt.nd t i).dZ s) ([],[])).2,0) else ([],6):=by unfold vI;rw[if_pos za]
 have ld:∀{H:aa} {K:AV→Prop},H[0]?=some (.ak ⟨24,[.sl 4 (t.map Qt.bx)],true⟩)→K (.sl 2 ((Qt.nd t i).dZ.map eO))→aN 0 (.op 0 0) fun a=>ae false 1 a H fun b=>au 4 b (i_ i) fun d=>aN 1 d fun e=>ae false 1 e H K:=fun {H K} hb k =>
  zzA (zzU hb rfl (zzc (n:=i.toNat) (l:=t) (f:=Qt.bx) rfl (by rw[Int.toNat_of_nonneg h0]) (kA h0 h1) (zzX (zzW k))))
 refine ld rfl (uCon (IY _ s (by have:=JS ba h0 h1;omega)) (zzB rfl (zzB rfl (zzO ?_))));refine aW rfl (fun y=>?_) fun y=>?_
 ·have y:uZ (Qt.nd t i).dZ s=false:=by simpa using y
  rw[hg,y];exact .pure (by simp[aq,Aw.Pure]) rfl
 ·have y:uZ (Qt.nd t i).dZ s=true:=by simpa using y
  rw[hg,if_pos y];refine ld rfl ?_;have hb:td (Qt.nd t i).dZ s<(Qt.nd t i).dZ.length:=by
   unfold uZ at y;simp only[On,OF]at y;exact y.1
  refine zzc (l:=(Qt.nd t i).dZ) (f:=eO) rfl rfl (Hg hb) ?_;refine zzX (zzW ?_);exact .pure (by simp[aq,Aw.Pure]) rfl
theorem OL{t:bg}(hs:eH t){i:Int}(h0:0≤i)(h1:i<t.length):aV p_ 159 [cV t,i_ i] (b_ (jd t i)):=by
 refine (XI _ _).aQ (by simp only[aq,Aw.Pure,and_true];exact dh t) (by simp) ?_;unfold Q7;refine bq (cs:=[.sl 4 (t.map Qt.bx)]) rfl (by simp[bw]) rfl rfl (zzV (b:=⟨24,[.sl 4 (t.map Qt.bx)],true⟩) rfl (aS 1) (uCon (Og hs i oH) (zzB rfl (zzB rfl (zzG (ph (b2:=decide ((Qt.nd t i).tag=[97])) rfl (fun _ F k=>aR rfl (zzU (b:=⟨24,[.sl 4 (t.map Qt.bx)],true⟩) rfl rfl (zzc (n:=i.toNat) (l:=t) (f:=Qt.bx) rfl (by show i_ i=_;rw[Int.toNat_of_nonneg h0]) (kA h0 h1) (zzX (zzW (zzI k)))))) ?_))))));exact .pure (by simp) rfl
theorem FP{t:bg}(hs:eH t)(i:Int):aV p_ 109 [cV t,i_ i] (.aw [b_ (A3 t i).1,i_ (A3 t i).2]):=by
 refine (Xa _ _).aQ (by simp only[aq,Aw.Pure,and_true];exact dh t) (by simp[aq,Aw.Pure]) ?_;unfold Qz;refine bq (cs:=[.sl 4 (t.map Qt.bx)]) rfl (by simp[bw]) rfl rfl (zzV (b:=⟨24,[.sl 4 (t.map Qt.bx)],true⟩) rfl (aS 1) (uCon (oW hs i) (zzB rfl (zzB rfl (zzH ?_)))));refine aW rfl (fun z=>?_) fun z=>?_
 ·have z:¬(ie t i).2=0:=by simpa using z
  have z2:¬fB t [i]=0:=fun h=>z (by unfold ie;rw[if_pos h]);refine .pure (by simp[aq,Aw.Pure]) ?_;unfold A3 ie;rw[if_neg z2,if_neg z2]
 have z:(ie t i).2=0:=by simpa using z
 have za:fB t [i]=0:=Classical.byContradiction fun h=>h (by unfold ie at z;rw[if_neg h]at z;exact z);obtain⟨ba,h0,h1⟩:=vu za;refine zzV (b:=⟨24,[.sl 4 (t.map Qt.bx)],true⟩) rfl (aS 1) (uCon (OL hs h0 h1) (.pure (by simp[aq,Aw.Pure]) ?_));unfold A3;rw[if_pos za]
end Go.Proofs.YtkfakehconamoaaGreatDoor
end
section
namespace Go.Qt
open Go Go.Aw
def bare(k:Int):bE.Sm:=.mk k [] 0 [] false 0 0 false []
def sh(t:bg)(k:Int)(i:Int):Bool:=if k=5 then decide (i=-1) else if k=4 then jd t i&&!decide (i=-1) else if k=6 then jd t i else if k=7 then decide (i=0) else decide (((nd t i).ch.length:Int)=0)
end Go.Qt
namespace Go.Proofs.YtkfakehconamoaaGreatDoor
open Go Go.Aw Go.Qt Go.RowKit
open Go.bE hiding u1 ao
variable [Laid]
theorem yO{k:Int}(h:4≤k∧k≤8):aV p_ 110 [.agg (dv (bare k))] (i_ 0):=by
 refine (Xb _).aQ (by simp only[aq,Aw.Pure,and_true];exact p8 _) (by simp) ?_;have hk:k=4∨k=5∨k=6∨k=7∨k=8:=by omega
 unfold QA;rcases hk with rfl|rfl|rfl|rfl|rfl
 all_goals
  unfold bare dv;refine bq (cs:=_) rfl rfl rfl rfl ?_;repeat' (first|(with_reducible exact .pure (by simp) rfl)|(refine bq (n:=1) rfl rfl rfl rfl ?_)|(refine zzA ?_)|(refine zzU rfl rfl ?_)|(refine aK ?_)|(refine zzG ?_)|(refine zzI ?_)|(refine R7 rfl rfl ?_)|(refine zzZ fun _=>?_)|(refine zzF ?_)|(refine zzE ?_)|(refine zzL rfl ?_)|(refine zzK rfl ?_)|(refine zzN rfl ?_)|(refine zzM rfl ?_)|(refine zzO ?_)|(refine aM rfl rfl rfl rfl (by decide) rfl rfl rfl ?_)|(refine bp rfl ?_)|(refine zzV rfl (by decide) ?_)|(refine Hc rfl rfl rfl ?_)|(refine zzg (n:=0) rfl fun _=>?_)|(refine⟨rfl, ?_⟩)|(fail))
end Go.Proofs.YtkfakehconamoaaGreatDoor
end
section
namespace Go.Qt
open Go Go.Aw
def dH(l:List Bool):List (List AV):=l.map fun b=>[b_ b]
def gB(l:List Bool):AV:=if l=[] then .v (.slice none 0 0) else .sl 1 (dH l)
theorem lp(l:List Bool):aX (dH l):=eJ (fun c=>by simp[aq,Aw.Pure]) _
theorem GP(l:List Bool):Aw.Pure (gB l):=by
 unfold gB;split
 ·simp[Aw.Pure]
 ·exact lp l
def jM(t:bg)(f:Int→Bool):List Bool:=(List.range t.length).map fun (i:Nat)=>f (i:Int)
theorem qz(t:bg)(f:Int→Bool):(jM t f).length=t.length:=by simp[jM]
theorem FG{t:bg}(h:1≤t.length)(f:Int→Bool):jM t f≠[]:=fun e=>by have:=qz t f;rw[e]at this;simp at this;omega
theorem N5{t:bg}{f:Int→Bool}{i:Nat}(h:i<t.length):(jM t f)[i]?=some (f (i:Int)):=by simp[jM,iS,aah h]
def mg(f:Int→Bool)(k:Nat):List Bool:=(List.range k).map fun (i:Nat)=>f (i:Int)
theorem vr(f:Int→Bool)(k:Nat):mg f (k+1)=mg f k++[f (k:Int)]:=by simp[mg,List.range_succ]
end Go.Qt
namespace Go.Proofs.YtkfakehconamoaaGreatDoor
open Go Go.Aw Go.Qt Go.RowKit
open Go.bE hiding u1 ao
theorem Gh{x:AV}{H:aa}{l:List Bool}{e:Nat}(g:jE e 1 x H (dH l))(d:Nat):tl 0 H d x=gB l:=by
 rw[g.told (lp l)];unfold gB
 by_cases h:l=[]
 ·rw[if_pos h,if_pos (by rw[h];rfl)]
 ·rw[if_neg h,if_neg (by simpa[dH]using h)]
abbrev tB(t:bg):aY:=.ak ⟨24,[.sl 4 (t.map Qt.bx)],true⟩
abbrev sB(s:Sm):aY:=.ak ⟨99,dv s,true⟩
theorem db{t:bg}{H:aa}{id:Nat}{K:AV→Prop}(hb:H[id]?=some (tB t))(k:K (cV t)):ae true 1 (.op id 0) H K:=cK rfl hb (aS 1) k
theorem mn(s:Sm):(dv s).length=9:=by rw[ia];rfl
theorem BP(s:Sm):(dv s).all bw=true:=by rw[ia];rfl
theorem nI{s:Sm}{H:aa}{id:Nat}{K:AV→Prop}(hb:H[id]?=some (sB s))(k:K (.agg (dv s))):ae true 9 (.op id 0) H K:=
 zzV hb (by rw[List.drop_zero,mn];exact aS 9) (by rw[List.drop_zero,Of (by rw[mn];exact aS 9)];exact k)
theorem eE{t:bg}{H:aa}{n:Nat}{h':aa}{K:AV→aa→Prop}(hn:H.length=n)(hh:H++[tB t]=h')(k:K (.op n 0) h'):aB 24 (cV t) H K:=bq rfl rfl hn hh k
theorem tQ{s:Sm}{H:aa}{n:Nat}{h':aa}{K:AV→aa→Prop}(hn:H.length=n)(hh:H++[sB s]=h')(k:K (.op n 0) h'):aB 99 (.agg (dv s)) H K:=bq rfl (BP s) hn hh k
theorem wI{t:bg}(h:cU t=true):lR t=0:=by unfold lR;rw[h];rfl
theorem sY{t:bg}(h:cU t=true){i:Int}(h0:0≤i)(h1:i<t.length):fB t [i]=0:=by
 unfold fB;rw[if_pos h,if_pos];simp only[aaC,List.all_nil,Bool.and_true];unfold iE;rw[tO h0,tO h1];rfl
theorem DH{t:bg}(h:cU t=true){i:Int}(h0:0≤i)(h1:i<t.length):(ie t i).2=0:=by unfold ie;rw[if_pos (sY h h0 h1)]
variable [Laid]
theorem FR{t:bg}(hs:eH t){s:Sm}(hC:aV p_ 110 [.agg (dv s)] (i_ 0)):aV p_ 68 [cV t,.agg (dv s),i_ (-1)] (i_ (lR t)):=by
 refine (V68 _ _ _).aQ (by simp only[aq,Aw.Pure,and_true];exact⟨dh t,p8 s⟩) (by simp) ?_;unfold We;refine eE (h':=[tB t]) rfl rfl (tQ (h':=[tB t,sB s]) rfl rfl (db rfl (uCon (pS hs) (zzH ?_))));refine aW rfl (fun z=>.pure (by simp) rfl) fun z=>?_;have z:lR t=0:=by simpa using z
 refine db rfl ?_;have mx:∀{K:AV→Prop},K (i_ 0)→iy (i_ (-1)) (i_ 0) K:=fun k=>(Jq _ _ _ _).2 k;refine mx (uCon (FP hs 0) (zzB rfl (zzB rfl (zzH ?_))));refine aK (zzM rfl ⟨rfl, ?_⟩);refine aK (cX rfl ⟨rfl, ?_⟩);refine aK (zzM rfl ⟨rfl, ?_⟩);refine aK (cX rfl ⟨rfl, ?_⟩);refine aK (zzM rfl ⟨rfl, ?_⟩);refine zzQ (zzK rfl (nI rfl (uCon hC ?_)));exact .pure (by simp) (by rw[z])
theorem Hz{t:bg}(hs:eH t)(ba:cU t=true){i:Int}(h0:0≤i)(h1:i<t.length){k:Int}(hk:4≤k∧k≤8):aV p_ 69 [cV t,i_ i,.agg (dv (bare k)),i_ (-1)] (b_ (sh t k i)):=by
 refine (V69 _ _ _ _).aQ (by simp only[aq,Aw.Pure,and_true,true_and];exact⟨dh t,p8 _⟩) (by simp) ?_;unfold Wf;refine eE (h':=[tB t]) rfl rfl (tQ (h':=[tB t,sB (bare k)]) rfl rfl (db rfl (uCon (FP hs i) ?_)));have e:A3 t i=(jd t i,0):=by unfold A3;rw[if_pos (sY ba h0 h1)]
 rw[e];refine zzB rfl (zzB rfl (zzA (zzU (b:=⟨99,dv (bare k),true⟩) (c:=bE.u1 k) rfl (by unfold bare dv;rfl) ?_)));refine zzG (zzK (oF (by omega)) ?_);refine zzG (zzK (oF (by omega)) ?_);refine zzG (zzK (oF (by omega)) ?_);refine zzG (aW rfl (fun z=>?_) fun z=>?_)
 ·have z:=uP z;refine zzG (.pure (by simp) ?_);unfold sh;rw[if_pos z]
 have z5:=At z;refine zzG (aW rfl (fun z=>?_) fun z=>?_)
 ·have z:=uP z;refine ph (b2:=!decide (i=-1)) rfl (fun _ F k=>cz rfl rfl k) (.pure (by simp) ?_);unfold sh;rw[if_neg z5,if_pos z]
 have z4:=At z;refine zzG (aW rfl (fun z=>?_) fun z=>?_)
 ·have z:=uP z;refine .pure (by simp) ?_;unfold sh;rw[if_neg z5,if_neg z4,if_pos z]
 have z6:=At z;refine zzG (aW rfl (fun z=>?_) fun z=>?_)
 ·have z:=uP z;refine zzG (.pure (by simp) ?_);unfold sh;rw[if_neg z5,if_neg z4,if_neg z6,if_pos z]
 have z7:=At z;refine zzA (zzU rfl rfl (zzc (n:=i.toNat) (l:=t) (f:=Qt.bx) rfl (by rw[Int.toNat_of_nonneg h0]) (kA h0 h1) (zzX (zzW ?_))));refine zzg (n:=(Qt.nd t i).ch.length) (by simp) fun _=>bK rfl rfl (.pure (by simp) ?_);unfold sh;rw[if_neg z5,if_neg z4,if_neg z6,if_neg z7]
structure FB(t:bg)(M:Sm→Int→Bool)(s:Sm):Prop where
 ck:aV p_ 110 [.agg (dv s)] (i_ 0)
 mt:∀i:Int,0≤i→i<t.length→aV p_ 69 [cV t,i_ i,.agg (dv s),i_ (-1)] (b_ (M s i))
theorem Hp{t:bg}(hs:eH t)(ba:cU t=true){M:Sm→Int→Bool}{s:Sm}(o:FB t M s){i:Int}(h0:0≤i)(h1:i<t.length):aV p_ 233 [cV t,i_ i,.agg (dv s),i_ (-1)] (.aw [b_ (M s i),i_ 0]):=by
 refine (Yj _ _ _ _).aQ (by simp only[aq,Aw.Pure,and_true,true_and];exact⟨dh t,p8 _⟩) (by simp[aq,Aw.Pure]) ?_;unfold RN;refine eE (h':=[tB t]) rfl rfl (tQ (h':=[tB t,sB s]) rfl rfl (db rfl (uCon (oW hs i) ?_)));rw[DH ba h0 h1];refine zzB rfl (zzB rfl ?_);refine zzH (zzK rfl ?_);refine db rfl (nI rfl (uCon (FR hs o.ck) ?_));rw[wI ba];refine zzH (zzK rfl ?_);refine db rfl (nI rfl (uCon (o.mt i h0 h1) ?_));exact .pure (by simp[aq,Aw.Pure]) rfl
theorem Lx{t:bg}(hs:eH t){M:Sm→Int→Bool}{s:Sm}(hc:aV p_ 110 [.agg (dv s)] (i_ 0))(o:cU t=true→FB t M s):aV p_ 51 [cV t,.agg (dv s),i_ (-1)] (.aw [if cU t then gB (jM t (M s)) else bC,i_ (lR t)]):=by
 refine (V51 _ _ _).aQ (by simp only[aq,Aw.Pure,and_true];exact⟨dh t,p8 _⟩) (by simp only[aq,Aw.Pure,and_true];split;exact GP _;simp[Aw.Pure]) ?_;unfold VU;refine eE (h':=[tB t]) rfl rfl (tQ (h':=[tB t,sB s]) rfl rfl (db rfl (nI rfl (uCon (FR hs hc) ?_))));refine zzH (aW rfl (fun z=>?_) fun z=>?_)
 ·have z:¬lR t=0:=by simpa using z
  rw[if_neg (fun h=>z (wI h))];exact .pure (by simp[aq,Aw.Pure]) rfl
 have z:lR t=0:=by simpa using z
 have ba:cU t=true:=by unfold lR at z;by_cases h:cU t=true;exact h;rw[if_neg h]at z;cases z
 have o:=o ba;rw[if_pos ba,wI ba];have l64:=(gD ba).2;refine zzA (zzU rfl rfl (zzg (n:=t.length) (by simp) fun _=>?_));refine aG (α:=Nat×AV×aa) (fun p=>p.1≤t.length∧jE 4 1 p.2.1 p.2.2 (dH (mg (M s) p.1))∧gw [tB t,sB s] p.2.2) (fun p=>[p.2.1,i_ p.1]) (fun p=>p.2.2) (fun p=>t.length-p.1) (0,bC,[tB t,sB s]) ⟨aao _,.inl ⟨by simp[mg,dH],rfl⟩,gw.refl _⟩ (Wk.refl _ _ _ (aS _)) ?_;rintro⟨k,x,H⟩ ⟨hk,hg,hH⟩;simp only at hk hg hH ⊢;refine zzC (aW rfl (fun q=>?_) fun q=>?_)
 ·have q:k<t.length:=by have:=uP q;omega
  refine db (hH.2 0 _ rfl) (nI (hH.2 1 _ rfl) (uCon (o.mt k (by omega) (by omega)) ?_));have mk:∀{K:AV→Prop},K (.sl 1 [[b_ (M s k)]])→bz 1 1 ff [(0,1,b_ (M s k))] K:=fun q=>q;refine mk ?_;refine mQ hg rfl (by decide) (by simp only[dH,aac,mg,List.length_range];omega) fun x' H' g' b' => ?_;refine zzP (by unfold aZ;omega) ?_;refine⟨(by trivial),(k+1,x',H'),⟨q, ?_,hH.trans b'⟩,Wk.refl _ _ _ (hH.trans b').1,by simp only;omega⟩;simp only;rw[vr];simpa[dH]using g'
 ·have q:¬k<t.length:=fun h=>by have:=At q;omega
  obtain rfl:k=t.length:=by omega
  refine cf.sq 1 ?_;show AV.aw [Aw.tl 0 H 1 x,i_ 0]=_;rw[Gh hg];rfl
theorem EL{t:bg}(hs:eH t)(ba:cU t=true){k:Int}(hk:4≤k∧k≤8){M:Sm→Int→Bool}(hM:∀i,M (bare k) i=sh t k i):FB t M (bare k):=⟨yO hk,fun i h0 h1=>by rw[hM];exact Hz hs ba h0 h1 hk⟩
end Go.Proofs.YtkfakehconamoaaGreatDoor
end
namespace Go.Proofs.YtkfakehconamoaaGreatDoor
section
open Go Go.Aw
variable [Laid]
def Vm(n c p:AV)(h:aa)(K:AV→aa→Prop):Prop:=
 aB 24 n h fun b g=>Aq g (fun i=>ae true 1 b g fun o=>iC p_ 25 [o,c,p] g fun l d=>ay 0 l fun j=>ay 1 l fun m=>qBe .neq m 0 fun q=>af q (K (.aw [i_ 0,m]) d) (qBe .lss c 0 fun r=>qJo r [c,b,j] d (fun s=>au 1 j c fun t=>ae false 1 t d fun u=>s u d) fun v e=>af v (K (.aw [c,i_ 0]) e) (iFL 0 false 1 b e fun w=>au 4 w c fun x=>iFL 2 false 1 x e fun y=>eC [b] (i [y,j] e)))) fun i a k =>
 qBe .lss (nx a 0) 0 fun z=>qJo z [nx a 0,b,nx a 1] k (fun A=>au 1 (nx a 1) (nx a 0) fun B=>ae false 1 B k fun C=>A C k) fun D f=>af D (K (.aw [nx a 0,i_ 0]) f) (iFL 0 false 1 b f fun E=>au 4 E (nx a 0) fun F=>iFL 2 false 1 F f fun G=>eC [b] (i [G,nx a 1] f))
def ZI(a b c:AV):ej p_ 15 [a,b,c] (Vm a b c):=mkM Tryz.func15 (sn (.seq (.loop [0] [] .nil) (.join [3] [1,8] (sn (sn (sn (.seq (.seq (.aO (oR 0 3 (.aA 2 false (fR 3 4) [1,3,8] [22,26]::.op 7 false::[]))) .nil) .nil)))) (sn (.seq (.seq (.aO (oR 0 3 (.aA 2 false (fR 3 4) [1,3,8] [22,26]::.op 7 false::[]))) .nil) .nil))))) 35 [.tmp 6,.tmp 7]
def Vu(k m o:AV)(h:aa)(K:AV→aa→Prop):Prop:=
 aB 24 k h fun b c=>ae true 1 b c fun l=>iC p_ 32 [l,m] c fun d e=>ay 0 d fun v=>ay 1 d fun f=>qBe .neq f 0 fun n=>af n (K (.aw [qNs,f]) e) (iC p_ 18 [o] e fun g a=>ay 0 g fun p=>ay 1 g fun i=>qBe .neq i 0 fun q=>af q (K (.aw [qNs,i]) a) (ae true 1 b a fun r=>iC p_ 33 [r,p,i_ (-1)] a fun j s=>ay 0 j fun t=>ay 1 j fun u=>K (.aw [t,u]) s))
def ZQ(a b c:AV):Body p_ 25 [a,b,c] (Vu a b c):=mkB Tryz.func25 .nil 34 [.tmp 6,.tmp 7]
def Vi(p j r:AV)(h:aa)(K:AV→aa→Prop):Prop:=
 aB 24 p h fun g i=>ae true 1 g i fun q=>iC p_ 25 [q,j,r] i fun k f=>ay 0 k fun d=>ay 1 k fun l=>qBe .neq l 0 fun s=>af s (K (.aw [qNs,l]) f) (ae true 1 g f fun t=>iC p_ 19 [t,j] f fun m u=>ay 0 m fun v=>ay 1 m fun H=>iB 1 v (some (i_ 1)) none fun b=>aU b fun e=>bc [qNs,i_ 0] u fun w a c =>
 ag .lss (nx a 1) e fun x=>af x (aI (fun n=>au 1 b (nx a 1) fun y=>ae false 1 y c fun o=>au 1 d o fun z=>ae false 1 z c fun A=>af A (bz 1 1 (i_ 0) [(0,1,o)] fun B=>bN false 3 1 8 (nx a 0) B c fun C D=>eC [d,b,e,nx a 1] (n [C] D)) (eC [d,b,e,nx a 1] (n [nx a 0] c))) fun E F=>qBe .add (nx a 1) 1 fun G=>eC [d,b,e] (w [nx E 0,G] F)) (K (.aw [nx a 0,i_ 0]) c))
def ZF(a b c:AV):Body p_ 11 [a,b,c] (Vi a b c):=mkB Tryz.func11 (sn (sn (sn (sn (sn (.seq (sn (.one (.loop [8,32,33] [12,34] (sn (sn (.join [8,32,33,34] [12] (.one (sn (sn (.two (.aO (oR 0 2 (.op 2 true::oR 3 2 []))) .nil)))) .nil)))))) .nil)))))) 48 [.tmp 6,.tmp 7]
def VC(k i d:AV)(h:aa)(K:AV→aa→Prop):Prop:=
 aB 24 k h fun b c=>ae true 1 b c fun l=>bf (.agg [u8 0,.str [],u8 0,.str [],ff,i_ 0,i_ 0,ff,qNs]) [(0,1,(u8 7))] fun m=>iC p_ 51 [l,m,d] c fun e f=>ay 0 e fun t=>ay 1 e fun g=>qBe .neq g 0 fun n=>af n (K (.aw [qNs,g]) f) (iC p_ 52 [i] f fun j a=>qBe .neq j 0 fun o=>af o (K (.aw [qNs,j]) a) (ae true 1 b a fun p=>bf (.agg [qNs,i_ 0]) [(0,1,p),(1,1,d)] fun q=>iC p_ 53 [q,i] a fun r s=>K (.aw [r,i_ 0]) s))
def ZY(a b c:AV):Body p_ 33 [a,b,c] (VC a b c):=mkB Tryz.func33 .nil 31 [.tmp 6,.tmp 7]
def VW(a:AV)(h:aa)(K:AV→aa→Prop):Prop:=
 iC p_ 70 [a] h fun b c=>K b c
def V52(a:AV):Body p_ 52 [a] (VW a):=mkB Tryz.func52 .nil 5 [.tmp 2]
def VX(p e:AV)(h:aa)(K:AV→aa→Prop):Prop:=
 aB 102 p h fun d n=>ae true 2 d n fun q=>iC p_ 71 [q] n fun a r=>aU e fun i=>bc [i_ 0] r fun s f k =>
 ag .lss (nx f 0) i fun t=>af t (au 3 e (nx f 0) fun u=>ae true 3 u k fun v=>aB 118 (.agg [u8 0,qNs,qNs]) k fun l w=>ah 3 l v w fun b=>iFL 0 true 1 d b fun x=>iFL 2 false 1 l b fun y=>ae true 2 d b fun z=>ae true 3 l b fun A=>iQ p_ 73 [z,A] b fun B=>iQ p_ 72 [x,y,B] b fun o=>ay 0 o fun j=>ay 1 o fun Q=>aU j fun m=>bc [i_ 0] b fun C c g =>
 ag .lss (nx c 0) m fun D=>af D (au 1 j (nx c 0) fun E=>ae false 1 E g fun F=>au 1 a (nx c 0) fun G=>ae false 1 G g fun H=>qJo H [d,a,e,i,nx f 0,j,m,nx c 0,a,nx c 0] g (fun I=>I F g) fun J L=>au 1 a (nx c 0) fun M=>ah 1 M J L fun N=>qBe .add (nx c 0) 1 fun O=>eC [d,a,e,i,nx f 0,j,m] (C [O] N)) (qBe .add (nx f 0) 1 fun P=>eC [d,a,e,i] (s [P] g))) (K a k)
def V53(a b:AV):Body p_ 53 [a,b] (VX a b):=mkB Tryz.func53 (sn (sn (.seq (sn (.one (.loop [2,5,14,15] [16] (sn (sn (.seq (.one (sn (.seq (.draw 13 (oR 0 13 []) [] []) (sn (.one (.loop [2,5,14,15,16,31,32] [33] (sn (sn (.seq (.one (sn (.aO (oR 0 7 (.aA 6 false [(7,false)] [2,5,14,15,16,31,32,33,38,39] [44,45]::oR 8 3 []))))) .nil))))))))) .nil)))))) .nil))) 51 [.tmp 4]
def Wh(c:AV)(h:aa)(K:AV→aa→Prop):Prop:=
 aB 102 c h fun d a=>aN 0 d fun e=>iFL 0 false 1 e a fun f=>aU f fun b=>jO 4 1 1 ff b b a fun g i=>K g i
def V71(a:AV):Body p_ 71 [a] (Wh a):=mkB Tryz.func71 .nil 8 [.tmp 2]
def Wj(t v:AV)(h:aa)(K:AV→aa→Prop):Prop:=
 aB 102 t h fun c u=>aB 118 v u fun w m=>iFL 1 false 1 w m fun e=>aU e fun g=>bc [qNs,i_ 0] m fun x a i =>
 ag .lss (nx a 1) g fun y=>af y (au 2 e (nx a 1) fun z=>ae true 2 z i fun A=>aB 121 (.agg [.str [],qNs]) i fun d B=>ah 2 d A B fun n=>iFL 1 false 1 d n fun C=>aU C fun o=>jO 53 1 24 qNs o o n fun j p=>iFL 1 false 1 d p fun k=>aU k fun q=>bc [i_ 0] p fun D f b =>
 ag .lss (nx f 0) q fun E=>af E (au 9 k (nx f 0) fun F=>ae true 9 F b fun G=>aB 99 (.agg [u8 0,.str [],u8 0,.str [],ff,i_ 0,i_ 0,ff,qNs]) b fun r H=>ah 9 r G H fun l=>ae true 2 c l fun I=>ae true 9 r l fun J=>iC p_ 119 [I,J] l fun L M=>au 1 j (nx f 0) fun N=>ah 1 N L M fun O=>qBe .add (nx f 0) 1 fun P=>eC [c,nx a 0,d,j,e,g,nx a 1,k,q] (D [P] O)) (iFL 0 true 1 c b fun Q=>ae true 2 d b fun R=>iFL 1 false 1 c b fun S=>iC p_ 120 [Q,R,S,j] b fun s T=>ay 0 s fun U=>ay 1 s fun Z=>bz 1 1 qNs [(0,1,U)] fun V=>bN false 53 1 24 (nx a 0) V T fun W X=>qBe .add (nx a 1) 1 fun Y=>eC [c,e,g] (x [W,Y] X))) (K (nx a 0) i)
def V73(a b:AV):Body p_ 73 [a,b] (Wj a b):=mkB Tryz.func73 (sn (sn (.seq (sn (.one (.loop [2,14,15] [5,16] (sn (sn (.seq (.one (sn (sn (.seq (sn (.one (.loop [2,5,7,8,14,15,16,25,26] [27] .nil))) (sn (.aO (oR 0 2 (.op 2 true::oR 3 2 [])))))))) .nil)))))) .nil))) 55 [.tmp 4]
def QH(F H:AV)(h:aa)(K:AV→aa→Prop):Prop:=
 aB 102 F h fun a G=>aB 99 H G fun b u=>iFL 0 false 1 b u fun c=>aI (fun z=>ag .eql c (u8 11) fun I=>af I (eC [a,b,c] (z [tt] u)) (ag .eql c (u8 12) fun J=>eC [a,b,c] (z [J] u))) fun L d=>af (nx L 0) (ae true 2 a d fun M=>iFL 8 false 1 b d fun N=>iC p_ 53 [M,N] d fun O P=>K O P) (ag .eql c (u8 13) fun Q=>af Q (ae true 2 a d fun R=>iFL 8 false 1 b d fun S=>iC p_ 53 [R,S] d fun m T=>aU m fun A=>bc [i_ 0] T fun U q v =>
 ag .lss (nx q 0) A fun V=>af V (au 1 m (nx q 0) fun W=>ae false 1 W v fun X=>bT X fun Y=>au 1 m (nx q 0) fun Z=>ah 1 Z Y v fun a0=>qBe .add (nx q 0) 1 fun a1=>eC [m,A] (U [a1] a0)) (K m v)) (aI (fun B=>ag .eql c (u8 9) fun a2=>af a2 (eC [a,b,c] (B [tt] d)) (ag .eql c (u8 10) fun a3=>eC [a,b,c] (B [a3] d))) fun a4 k=>af (nx a4 0) (ae true 2 a k fun a5=>iFL 8 false 1 b k fun a6=>iC p_ 53 [a5,a6] k fun g a7=>aU g fun w=>bc [i_ 0] a7 fun a8 l e =>
 ag .lss (nx l 0) w fun a9=>af a9 (au 1 g (nx l 0) fun b0=>ae false 1 b0 e fun b1=>qJo b1 [a,b,g,w,nx l 0,g,nx l 0] e (fun b2=>iFL 7 false 1 b e fun b3=>bT b3 fun b4=>b2 b4 e) fun b5 b6=>au 1 g (nx l 0) fun b7=>ah 1 b7 b5 b6 fun b8=>qBe .add (nx l 0) 1 fun b9=>eC [a,b,g,w] (a8 [b9] b8)) (iFL 0 true 1 a e fun c0=>iFL 5 true 2 b e fun c1=>iFL 0 false 1 b e fun c2=>ag .eql c2 (u8 10) fun c3=>iC p_ 175 [c0,c1,c3,g] e fun C c4=>ay 0 C fun c5=>ay 1 C fun f2=>K c5 c4)) (ag .eql c (u8 14) fun c6=>af c6 (ae true 2 a k fun c7=>iC p_ 71 [c7] k fun i D=>iFL 8 false 1 b D fun n=>aU n fun r=>bc [i_ 0] D fun c8 o x =>
 ag .lss (nx o 0) r fun c9=>af c9 (au 3 n (nx o 0) fun d0=>ae true 3 d0 x fun d1=>aB 118 (.agg [u8 0,qNs,qNs]) x fun s d2=>ah 3 s d1 d2 fun f=>iFL 0 true 1 a f fun d3=>iFL 0 false 1 s f fun d4=>iFL 2 false 1 s f fun d5=>ae true 2 a f fun d6=>ae true 3 s f fun d7=>iQ p_ 73 [d6,d7] f fun d8=>iQ p_ 176 [d3,d4,d5,d8] f fun E=>ay 0 E fun t=>ay 1 E fun f3=>aU t fun y=>bc [i_ 0] f fun d9 j p =>
 ag .lss (nx j 0) y fun e0=>af e0 (au 1 t (nx j 0) fun e1=>ae false 1 e1 p fun e2=>au 1 i (nx j 0) fun e3=>ae false 1 e3 p fun e4=>qJo e4 [a,i,n,r,nx o 0,t,y,nx j 0,i,nx j 0] p (fun e5=>e5 e2 p) fun e6 e7=>au 1 i (nx j 0) fun e8=>ah 1 e8 e6 e7 fun e9=>qBe .add (nx j 0) 1 fun f0=>eC [a,i,n,r,nx o 0,t,y] (d9 [f0] e9)) (qBe .add (nx o 0) 1 fun f1=>eC [a,i,n,r] (c8 [f1] p))) (K i x)) (K qNs k))))
def Xj(a b:AV):Body p_ 119 [a,b] (QH a b):=mkB Tryz.func119 (sn (.seq (sn (.one (.join [2,3,19] [20] .nil (.two .nil (sn (.two (sn (.seq (sn (.one (.loop [5,34] [35] .nil))) .nil)) (.join [2,3,19] [48] .nil (.two (sn (.seq (sn (.one (.loop [2,3,7,56] [57] (sn (sn (.seq (.one (sn (.aO (oR 0 7 (.aA 6 false (fR 7 3) [2,3,7,56,57,60,61] [66,69]::oR 10 3 []))))) .nil)))))) .nil)) (sn (.two (sn (.seq (sn (.one (.loop [2,11,91,92] [93] (sn (sn (.seq (.one (sn (.seq (.draw 15 (oR 0 15 []) [] []) (sn (.one (.loop [2,11,91,92,93,110,111] [112] (sn (sn (.seq (.one (sn (.aO (oR 0 7 (.aA 6 false [(7,false)] [2,11,91,92,93,110,111,112,117,118] [123,124]::oR 8 3 []))))) .nil))))))))) .nil)))))) .nil)) .nil)))))))))) .nil)) 130 [.tmp 4]
def QF(r c a:AV)(h:aa)(K:AV→aa→Prop):Prop:=
 aB 24 r h fun b k=>ae true 1 b k fun s=>iC p_ 67 [s] k fun l g=>qBe .neq l 0 fun t=>af t (K l g) (aU a fun u=>qBe .lss u 1 fun v=>qJo v [c,a,b] g (fun w=>aU a fun x=>qBe .gtr x 64 fun y=>w y g) fun z m=>qJo z [c,a,b] m (fun A=>aU c fun B=>aU a fun C=>qBe .sub C 1 fun D=>ag .neq B D fun E=>A E m) fun F n=>af F (K (i_ 2) n) (aU c fun i=>bc [i_ 0] n fun G e f =>
 ag .lss (nx e 0) i fun H=>af H (au 1 c (nx e 0) fun I=>ae false 1 I f fun o=>ag .lss o (u8 1) fun J=>qJo J [a,b,c,i,nx e 0] f (fun L=>ag .gtr o (u8 4) fun M=>L M f) fun N p=>af N (K (i_ 2) p) (qBe .add (nx e 0) 1 fun O=>eC [a,b,c,i] (G [O] p))) (aU a fun q=>bc [i_ 0] f fun P j d =>
 ag .lss (nx j 0) q fun Q=>af Q (au 1 a (nx j 0) fun R=>ae false 1 R d fun S=>aU S fun T=>iFL 0 false 1 b d fun U=>aU U fun V=>ag .neq T V fun W=>af W (K (i_ 2) d) (qBe .add (nx j 0) 1 fun X=>eC [b,a,q] (P [X] d))) (K (i_ 0) d))))
def Xh(a b c:AV):Body p_ 117 [a,b,c] (QF a b c):=mkB Tryz.func117 (sn (sn (.seq (.seq (.aO (oR 0 4 (.aA 3 false (fR 4 3) [1,2,3] [20,23]::oR 7 2 (.aA 8 false (fR 9 6) [1,2,3] [25,31]::.op 15 false::[])))) .nil) (.seq (sn (.one (.loop [2,3,33,34] [35] (sn (sn (.seq (.one (sn (.seq (.aO (oR 0 3 (.aA 2 false (fR 3 2) [2,3,33,34,35] [41,43]::.op 5 false::[]))) .nil))) .nil)))))) (.seq (sn (.one (.loop [3,46,47] [48] .nil))) .nil))))) 59 [.tmp 6]
def Rg(p d a:AV)(h:aa)(K:AV→aa→Prop):Prop:=
 aB 24 p h fun c g=>aI (fun f=>aI (fun i=>ag .eql a (u8 1) fun q=>af q (eC [d,a,c,qNs] (i [tt] g)) (ag .eql a (u8 2) fun r=>eC [d,a,c,qNs] (i [r] g))) fun s b=>af (nx s 0) (ae true 1 c b fun t=>iC p_ 16 [t,d] b fun j u=>ay 0 j fun v=>ay 1 j fun O=>eC [a] (f [v] u)) (iFL 0 false 1 c b fun w=>au 4 w d fun x=>iFL 2 false 1 x b fun k=>qBe .geq k 0 fun y=>af y (iFL 0 false 1 c b fun z=>au 4 z k fun A=>iFL 3 false 1 A b fun l=>iC p_ 217 [l,d] b fun B C=>iB 1 l none (some B) fun D=>iC p_ 225 [D] C fun m E=>iC p_ 226 [m] E fun P F=>eC [a] (f [m] F)) (eC [a] (f [qNs] b)))) fun e n=>ag .eql a (u8 2) fun G=>qJo G [nx e 0] n (fun H=>ag .eql a (u8 3) fun I=>H I n) fun J o=>af J (aU (nx e 0) fun L=>kD L (i_ 1) fun M=>iB 1 (nx e 0) none (some M) fun N=>K N o) (K (nx e 0) o)
def XQ(a b c:AV):Body p_ 173 [a,b,c] (Rg a b c):=mkB Tryz.func173 (sn (sn (.join [2] [7] (sn (.one (.join [1,2,3,7] [33] .nil .nil))) (.seq (.seq (.aO (oR 0 3 (.aA 2 false (fR 3 2) [7] [44,46]::.op 5 false::[]))) .nil) .nil)))) 54 [.tmp 6]
def QG(r i g:AV)(h:aa)(K:AV→aa→Prop):Prop:=
 aB 24 r h fun f o=>au 1 g (i_ 0) fun s=>ae false 1 s o fun t=>iC p_ 171 [t] o fun u v=>dF 53 1 1 qNs [(0,1,u)] v fun w x=>aB 138 qNs x fun a y=>ah 1 a w y fun z=>aU i fun k=>bc [i_ 0] z fun A d l =>
 ag .lss (nx d 0) k fun B=>af B (au 1 i (nx d 0) fun C=>ae false 1 C l fun m=>aB 3 (i_ 0) l fun j D=>ah 1 j (nx d 0) D fun p=>iFL 0 false 1 f p fun E=>aU E fun q=>jO 4 1 1 ff q q p fun e F=>aU e fun n=>bc [i_ 0] F fun G c b =>
 ag .lss (nx c 0) n fun H=>af H (ae false 1 j b fun I=>qBe .add I 1 fun J=>au 1 g J fun L=>ae false 1 L b fun M=>au 1 M (nx c 0) fun N=>ae false 1 N b fun O=>qJa O [g,f,a,j,m,e,i,k,nx d 0,n,nx c 0,e,nx c 0] b (fun P=>ae true 1 f b fun Q=>iC p_ 173 [Q,nx c 0,m] b fun R S=>iC p_ 172 [R,(.fn (.func 174) [] [a,j])] S P) fun T U=>au 1 e (nx c 0) fun V=>ah 1 V T U fun W=>qBe .add (nx c 0) 1 fun X=>eC [g,f,a,j,m,e,i,k,nx d 0,n] (G [X] W)) (ae false 1 a b fun Y=>bz 1 1 qNs [(0,1,e)] fun Z=>bN false 53 1 24 Y Z b fun a0 a1=>ah 1 a a0 a1 fun a2=>qBe .add (nx d 0) 1 fun a3=>eC [g,f,a,i,k] (A [a3] a2))) (ae false 1 a l fun a4=>K a4 l)
def Xi(a b c:AV):Body p_ 118 [a,b,c] (QG a b c):=mkB Tryz.func118 (sn (sn (.seq (sn (.one (.loop [2,3,7,17,18] [19] (sn (sn (.seq (.one (sn (sn (.seq (sn (.one (.loop [2,3,7,8,9,10,17,18,19,29] [30] (sn (sn (.seq (.one (sn (.aO (oR 0 11 (.aA 10 true (fR 11 6) [2,3,7,8,9,10,17,18,19,29,30,33,34] [43,49]::oR 17 3 []))))) .nil)))))) (.aO (oR 0 2 (.op 2 true::oR 3 2 []))))))) .nil)))))) .nil))) 59 [.tmp 6]
def Rh(g a c:AV)(h:aa)(K:AV→aa→Prop):Prop:=
 ae false 1 a h fun b=>ae false 1 c h fun d=>au 1 b d fun e=>ae false 1 e h fun f=>au 1 f g fun i=>ae false 1 i h fun j=>K j h
def XR(a b c:AV):Body p_ 174 [a,b,c] (Rh a b c):=mkB Tryz.func174 .nil 12 [.tmp 4]
def Wi(i a e:AV)(h:aa)(K:AV→aa→Prop):Prop:=
 aB 24 i h fun c d=>ae true 1 c d fun j=>iC p_ 117 [j,a,e] d fun f b=>qBe .neq f 0 fun k=>af k (K (.aw [qNs,f]) b) (ae true 1 c b fun l=>iC p_ 118 [l,a,e] b fun m g=>aU a fun n=>au 1 m n fun o=>ae false 1 o g fun p=>K (.aw [p,i_ 0]) g)
def V72(a b c:AV):Body p_ 72 [a,b,c] (Wi a b c):=mkB Tryz.func72 .nil 24 [.tmp 6,.tmp 7]
def Rf(a b:AV)(h:aa)(K:AV→aa→Prop):Prop:=
 iC p_ 224 [a,b] h fun c d=>qBe .geq c 0 fun e=>K e d
def XP(a b:AV):Body p_ 172 [a,b] (Rf a b):=mkB Tryz.func172 .nil 9 [.tmp 4]
def RJ(b e:AV)(h:aa)(K:AV→aa→Prop):Prop:=
 aU b fun d=>bc [i_ 0] h fun g a c =>
 ag .lss (nx a 0) d fun i=>af i (au 1 b (nx a 0) fun j=>ae false 1 j c fun k=>bA p_ e [k] c fun l f=>af l (K (nx a 0) f) (qBe .add (nx a 0) 1 fun m=>eC [b,e,d] (g [m] f))) (K (i_ (-1)) c)
def Yg(a b:AV):Body p_ 224 [a,b] (RJ a b):=mkB Tryz.func224 (sn (.seq (sn (.one (.loop [0,1,7] [8] .nil))) .nil)) 19 [.tmp 4]
def Re(a:AV)(h:aa)(K:AV→aa→Prop):Prop:=
 iH false (sk a) fun b=>af b (K qNs h) (dF 4 0 1 ff [] h fun c d=>bN false 4 1 1 c a d fun e f=>K e f)
def XO(a:AV):Body p_ 171 [a] (Re a):=mkB Tryz.func171 .nil 8 [.tmp 2]
def Rj(c:AV)(h:aa)(K:AV→aa→Prop):Prop:=
 aB 99 c h fun b a=>iFL 0 false 1 b a fun d=>ag .geq d (u8 9) fun e=>qKa e a (fun f=>iFL 0 false 1 b a fun g=>ag .leq g (u8 14) fun i=>f i a) fun j k=>K j k
def XT(a:AV):Body p_ 178 [a] (Rj a):=mkB Tryz.func178 (sn (.seq (.aO (oR 0 4 (.aA 3 true (fR 4 3) [] [6,9]::oR 7 2 []))) .nil)) 11 [.tmp 2]
def RV(a:AV)(h:aa)(K:AV→aa→Prop):Prop:=
 cn a fun b=>qBe .gtr b 64 fun c=>af c (K (i_ 12) h) (K (i_ 0) h)
def Yr(a:AV):Body p_ 275 [a] (RV a):=mkB Tryz.func275 .nil 6 [.tmp 2]
def RL(v:AV)(h:aa)(K:AV→aa→Prop):Prop:=
 aB 121 v h fun a m=>iFL 0 false 1 a m fun w=>iC p_ 275 [w] m fun n b=>qBe .neq n 0 fun x=>af x (K n b) (iFL 1 false 1 a b fun y=>aU y fun z=>qBe .gtr z 64 fun o=>aI (fun p=>aL o false (iFL 0 false 1 a b fun A=>ag .eql A (.str []) fun B=>eC [a] (p [ff,B] b)) (eC [a] (p [bO false o,un] b))) fun c f=>aI (fun q=>aL (nx c 1) true (iFL 1 false 1 a f fun C=>aU C fun D=>qBe .eql D 0 fun E=>eC [a,nx c 0] (q [tt,E] f)) (eC [a,nx c 0] (q [(bO true (nx c 1)),un] f))) fun r s=>qJo (nx c 0) [a] s (fun F=>bG (nx r 0) (nx r 1) ff fun G=>F G s) fun H g=>af H (K (i_ 12) g) (iFL 1 false 1 a g fun d=>aU d fun i=>bc [i_ 0] g fun I e j =>
 ag .lss (nx e 0) i fun J=>af J (au 9 d (nx e 0) fun L=>ae true 9 L j fun M=>aB 99 (.agg [u8 0,.str [],u8 0,.str [],ff,i_ 0,i_ 0,ff,qNs]) j fun k N=>ah 9 k M N fun t=>ae true 9 k t fun O=>iC p_ 178 [O] t fun P l=>bT P fun Q=>qJa Q [d,i,nx e 0] l (fun R=>ae true 9 k l fun S=>iC p_ 110 [S] l fun T U=>qBe .neq T 0 fun V=>R V U) fun W u=>af W (K (i_ 12) u) (qBe .add (nx e 0) 1 fun X=>eC [d,i] (I [X] u))) (K (i_ 0) j)))
def Yh(a:AV):Body p_ 231 [a] (RL a):=mkB Tryz.func231 (sn (sn (.seq (.seq (.aO (oR 0 5 (.aA 4 false (fR 5 4) [1] [16,20]::.aA 8 true (fR 9 4) [1,16] [20,24]::.aA 4 false [(13,false)] [1] [16,25]::.op 14 false::[]))) .nil) (.seq (sn (.one (.loop [28,29] [30] (sn (sn (.seq (.one (sn (.seq (.aO (oR 0 4 (.aA 3 true (fR 4 3) [28,29,30] [37,40]::.op 7 false::[]))) .nil))) .nil)))))) .nil)))) 43 [.tmp 2]
def RM(l d a:AV)(h:aa)(K:AV→aa→Prop):Prop:=
 aB 24 l h fun c f=>ae true 1 c f fun m=>iC p_ 32 [m,d] f fun g i=>ay 0 g fun A=>ay 1 g fun j=>qBe .neq j 0 fun n=>af n (K (.aw [ff,j]) i) (iC p_ 275 [a] i fun k e=>qBe .neq k 0 fun o=>af o (K (.aw [ff,k]) e) (ag .eql a (.str []) fun p=>qJo p [d,a,c] e (fun q=>ag .eql a (.str [42]) fun r=>q r e) fun s b=>qKo s b (fun t=>iFL 0 false 1 c b fun u=>au 4 u d fun v=>iFL 0 false 1 v b fun w=>ag .eql a w fun x=>t x b) fun y z=>K (.aw [y,i_ 0]) z))
def Yi(a b c:AV):Body p_ 232 [a,b,c] (RM a b c):=mkB Tryz.func232 (sn (sn (sn (.seq (.aO (oR 0 3 (.aA 2 false (fR 3 2) [1,2,3] [27,29]::oR 5 2 (.aA 6 false (fR 7 8) [] [31,39]::oR 15 3 [])))) .nil)))) 41 [.tmp 6,.tmp 7]
def Ri(e i m:AV)(h:aa)(K:AV→aa→Prop):Prop:=
 aB 24 e h fun f g=>aB 121 i g fun j b=>ae true 1 f b fun k=>bf (.agg [u8 0,.str [],u8 0,.str [],ff,i_ 0,i_ 0,ff,qNs]) [(0,1,(u8 7))] fun l=>iC p_ 51 [k,l,m] b fun c a=>ay 0 c fun r=>ay 1 c fun d=>qBe .neq d 0 fun n=>af n (K d a) (ae true 2 j a fun o=>iC p_ 231 [o] a fun p q=>K p q)
def XS(a b c:AV):Body p_ 177 [a,b,c] (Ri a b c):=mkB Tryz.func177 .nil 21 [.tmp 6]
def Rk(s c u i g:AV)(h:aa)(K:AV→aa→Prop):Prop:=
 aB 24 s h fun b t=>aB 121 u t fun n j=>ae true 1 b j fun v=>iFL 0 false 1 n j fun w=>iC p_ 232 [v,c,w] j fun o p=>ay 0 o fun x=>ay 1 o fun Q=>iFL 1 false 1 n p fun d=>aU d fun e=>bc [x,i_ 0] p fun y a k =>
 ag .lss (nx a 1) e fun z=>af z (aI (fun q=>au 9 d (nx a 1) fun A=>ae true 9 A k fun B=>aB 99 (.agg [u8 0,.str [],u8 0,.str [],ff,i_ 0,i_ 0,ff,qNs]) k fun l C=>ah 9 l B C fun m=>bT (nx a 0) fun D=>af D (K ff m) (ae true 9 l m fun E=>iC p_ 178 [E] m fun F f=>af F (bA p_ g [nx a 1] f fun G H=>eC [c,i,g,b,d,e,nx a 1] (q [G] H)) (ae true 1 b f fun I=>ae true 9 l f fun J=>iC p_ 233 [I,c,J,i] f fun r L=>ay 0 r fun M=>ay 1 r fun R=>eC [c,i,g,b,d,e,nx a 1] (q [M] L)))) fun N O=>qBe .add (nx a 1) 1 fun P=>eC [c,i,g,b,d,e] (y [nx N 0,P] O)) (K (nx a 0) k)
def XU(a b c d e:AV):Body p_ 179 [a,b,c,d,e] (Rk a b c d e):=mkB Tryz.func179 (sn (sn (.seq (sn (.one (.loop [1,3,4,5,24,25] [11,26] (sn (sn (.join [1,3,4,5,24,25,26] [11] .nil .nil)))))) .nil))) 48 [.tmp 10]
def QI(C E i G:AV)(h:aa)(K:AV→aa→Prop):Prop:=
 aB 24 C h fun b D=>aB 121 E D fun c F=>aB 138 G F fun e l=>ae true 1 b l fun H=>ae true 2 c l fun I=>iC p_ 177 [H,I,i] l fun o d=>qBe .neq o 0 fun J=>af J (K (.aw [qNs,o]) d) (ae false 1 e d fun L=>aU L fun M=>iFL 1 false 1 c d fun N=>aU N fun O=>ag .neq M O fun P=>af P (K (.aw [qNs,i_ 2]) d) (iFL 1 false 1 c d fun m=>aU m fun p=>bc [i_ 0] d fun Q f j =>
 ag .lss (nx f 0) p fun R=>af R (au 9 m (nx f 0) fun S=>ae true 9 S j fun T=>aB 99 (.agg [u8 0,.str [],u8 0,.str [],ff,i_ 0,i_ 0,ff,qNs]) j fun q U=>ah 9 q T U fun a=>ae true 9 q a fun V=>iQ p_ 178 [V] a fun r=>aI (fun s=>aL r true (ae false 1 e a fun t=>au 1 t (nx f 0) fun u=>ae false 1 u a fun v=>dX v fun w=>aN 0 b fun x=>ae false 1 x a fun y=>dX y fun z=>ag .neq w z fun W=>s [t,nx f 0,u,v,w,x,y,z,W] a) (s [un,un,un,un,un,un,un,un,un] a)) fun X _=>bG r (nx X 8) ff fun Y=>af Y (K (.aw [qNs,i_ 2]) a) (qBe .add (nx f 0) 1 fun Z=>eC [i,b,c,e,m,p] (Q [Z] a))) (iFL 0 false 1 b j fun a0=>aU a0 fun A=>bc [qNs,i_ 0] j fun a1 g B =>
 ag .lss (nx g 1) A fun a2=>af a2 (aB 3 (i_ 0) B fun n a3=>ah 1 n (nx g 1) a3 fun k=>ae true 1 b k fun a4=>ae false 1 n k fun a5=>ae true 2 c k fun a6=>iC p_ 179 [a4,a5,a6,i,(.fn (.func 180) [] [e,n])] k fun a7 a8=>bz 1 1 ff [(0,1,a7)] fun a9=>bN false 4 1 1 (nx g 0) a9 a8 fun b0 b1=>qBe .add (nx g 1) 1 fun b2=>eC [i,b,c,e,A] (a1 [b0,b2] b1)) (K (.aw [nx g 0,i_ 0]) B))))
def Xk(a b c d:AV):Body p_ 120 [a,b,c,d] (QI a b c d):=mkB Tryz.func120 (sn (sn (sn (.seq (sn (.one (.loop [2,4,5,7,29,30] [31] (sn (sn (.seq (.one (sn (.seq (.draw 13 (oR 0 3 (.aA 2 true (fR 3 9) [] [39,40,41,42,43,44,45,46,47]::.op 12 false::[])) [] []) .nil))) .nil)))))) (sn (.seq (sn (.one (.loop [2,4,5,7,52] [13,53] (sn (sn (.seq (.one (sn (.aO (oR 0 7 (.op 7 true::oR 8 2 []))))) .nil)))))) .nil)))))) 67 [.tmp 8,.tmp 9]
def Rl(c a f:AV)(h:aa)(K:AV→aa→Prop):Prop:=
 ae false 1 a h fun b=>au 1 b c fun d=>ae false 1 d h fun e=>ae false 1 f h fun g=>au 1 e g fun i=>ae false 1 i h fun j=>K j h
def XV(a b c:AV):Body p_ 180 [a,b,c] (Rl a b c):=mkB Tryz.func180 (sn (.seq (.draw 8 (oR 0 8 []) [] []) .nil)) 12 [.tmp 4]
end
end Go.Proofs.YtkfakehconamoaaGreatDoor
namespace Go.Aw
section
open Go Go.RowKit
variable [Laid]
def cy.bound{base:Nat}(hh:cy base ι S w h):∀e∈h,mr h.length e:=by
 intro e he;obtain⟨id,hid⟩:=List.getElem?_of_mem he;have hl:ι.length≤h.length:=by rw[hh.len];exact aS _
 cases e with
 | ak b =>
   obtain⟨_,arr,_,_,_,_,_,_,hc,_⟩:=hh.live id b hid;show jg h.length b.cells;rw[sZ];intro a ha;obtain⟨i,hi⟩:=List.getElem?_of_mem ha;obtain⟨v,_,rv⟩:=hc i a hi;exact ax.bd hl a v rv
 | tok=>trivial
 | dead=>trivial
 | mp c es =>
   obtain⟨_,arr,_,_,_,_,hm⟩:=hh.im id _ hid;show jg h.length (xC es);have:∀(es:List (Nat×AV×AV)) (l:List MapEntry),pM ι S w es l→jg h.length (xC es):=by
    intro es;induction es with
    | nil=>intro _ _;simp[xC,jg]
    | cons p r ih =>
      obtain⟨n,k,c⟩:=p;intro l hm;rw[pM]at hm;obtain⟨e,l',rfl,_,h3,h4,h5⟩:=hm;simp only[xC,jg];exact⟨ax.bd hl k _ h3,ax.bd hl c _ h4,ih l' h5⟩
   exact this _ _ hm
 | it m s sn l =>
   obtain⟨_,bm,_,_,_,_,hm⟩:=hh.im id _ hid;have:=(dO.1 hm).1;show m<h.length;omega
def cw.bd{args:List AV}{K:AV→aa→Prop}(q:(∀e∈h,mr h.length e)→cw P f args h K):cw P f args h K:=
 fun base ι S w vs h1 h2=>q h2.bound base ι S w vs h1 h2
def Ex(P:Program)(f:FuncId)(args:List AV)(h:aa)(r:AV):Prop:=cJ P f=true∧cw P f args h fun v h' => v=r∧h'=h
def T7{args args':List AV}{K:AV→aa→Prop}(e:args=args')(c:Ex P f args' h r)(k:K r h):bA P (.fn (.func f) [] []) args h K:=by
 subst e;exact⟨c.1,by simpa using c.2.mono fun v h' ⟨a,b⟩=>by subst a;subst b;exact k⟩
def zzb{args:List AV}{K:AV→aa→Prop}(c:Ex P f args h r)(k:K r h):bA P (.fn (.func f) [] []) args h K:=T7 rfl c k
def Sr(hb:∀e∈h,mr h.length e)(hr:Bd h.length r)(ht:h'.take h.length=h):∃r' h'',Wk h.length [r] h' [r'] h''∧r'=r∧h''=h:=by
 have hl:h.length≤h'.length:=by have:=congrArg List.length ht;simp at this;omega
 exact⟨r,h,Wk.back (aS _) hl ht rfl hb (by simpa using hr),rfl,rfl⟩
def Body.ex{args:List AV}{W:aa→(AV→aa→Prop)→Prop}(b:Body P f args W)(q:(∀e∈h,mr h.length e)→W h fun r1 h1=>∃r' h'',Wk h.length [r1] h1 [r'] h''∧r'=r∧h''=h):Ex P f args h r:=
 ⟨b.hb,cw.bd fun hb=>b.bR (q hb)⟩
def NU{xs ys args args':List AV}{K:AV→aa→Prop}(e:xs++args++ys=args')(c:Ex P f args' h r)(k:K r h):bA P (.fn (.func f) xs ys) args h K:=by
 subst e;exact⟨c.1,c.2.mono fun v h' ⟨a,b⟩=>by subst a;subst b;exact k⟩
end
end Go.Aw
section
namespace Go.Qt
open Go Go.Aw
def gA(k:Int):Bool:=decide (9≤k)&&decide (k≤14)
def kT(t:bg)(i:Int)(g:ao):Bool:=(decide (g=[])||decide (g=[42]))||decide (g=(nd t i).tag)
def vk(M:bE.Sm→Int→Bool)(T:Nat→Int→Bool)(i:Int)(k:Nat):List bE.Sm→Bool
 | []=>true
 | s:: l=>(if gA s.kind then T k i else M s i)&&vk M T i (k+1) l
def vD(t:bg)(M:bE.Sm→Int→Bool)(T:Nat→Int→Bool)(p:bE.Cp)(i:Int):Bool:=kT t i p.tag&&vk M T i 0 p.bo
end Go.Qt
namespace Go.Proofs.YtkfakehconamoaaGreatDoor
open Go Go.Aw Go.Qt Go.RowKit
open Go.bE hiding u1 ao
theorem aV.Un[Laid]{P:Program}{f:FuncId}{a:AV}{xs ys rest:List AV}{r:AV}(c:aV P f (a:: .agg ys:: rest) r)(d:gG xs ys)(p:aq xs):aV P f (a:: .agg xs:: rest) r:=by
 obtain⟨pa,pr,c⟩:=c;refine⟨?_,pr,fun base ι S w vs h1 h2=>c base ι S w vs ?_ h2⟩
 ·simp only[aq,Aw.Pure]at pa ⊢;exact⟨pa.1,p,pa.2.2⟩
 ·rw[aD]at h1 ⊢;obtain⟨v,vs',rfl,h3,h4⟩:=h1;refine⟨v,vs',rfl,h3, ?_⟩;rw[aD]at h4 ⊢;obtain⟨v,vs',rfl,h3,h4⟩:=h4;refine⟨v,vs',rfl, ?_,h4⟩;rw[ax]at h3 ⊢;obtain⟨us,e,h5⟩:=h3;exact⟨us,e,aD.pP d _ h5⟩
structure Iv[Laid](t:bg)(M:Sm→Int→Bool)(p:Cp):Prop where
 tag:p.tag.length≤64
 len:p.bo.length≤64
 ne:¬(p.tag=[]∧p.bo=[])
 ck:∀s∈p.bo,gA s.kind=false→FB t M s
abbrev pB(p:Cp):aY:=.ak ⟨121,fD p,true⟩
theorem ml(p:Cp):(fD p).length=2:=by rw[kX];rfl
theorem BO(p:Cp):(fD p).all bw=true:=by rw[kX];rfl
theorem C7{p:Cp}{H:aa}{id:Nat}{K:AV→Prop}(hb:H[id]?=some (pB p))(k:K (.agg (fD p))):ae true 2 (.op id 0) H K:=
 zzV hb (by rw[List.drop_zero,ml];exact aS 2) (by rw[List.drop_zero,Of (by rw[ml];exact aS 2)];exact k)
theorem zN{p:Cp}{H:aa}{n:Nat}{h':aa}{K:AV→aa→Prop}(hn:H.length=n)(hh:H++[pB p]=h')(k:K (.op n 0) h'):aB 121 (.agg (fD p)) H K:=bq rfl (BO p) hn hh k
theorem EZ{p:Cp}{H:aa}{id:Nat}{K:AV→Prop}(hb:H[id]?=some (pB p))(k:K (.str p.tag)):aN 0 (.op id 0) fun a=>ae false 1 a H K:=
 zzA (zzU hb (by rw[kX];rfl) k)
theorem pz{p:Cp}{H:aa}{id:Nat}{K:AV→Prop}(hb:H[id]?=some (pB p))(k:K (.sl 9 (p.bo.map dv))):aN 1 (.op id 0) fun a=>ae false 1 a H K:=
 zzA (zzU hb (by rw[kX];rfl) k)
theorem wx{s:Sm}{H:aa}{x:AV}{l:List Sm}{k:Nat}(e:x=.sl 9 (l.map dv))(hk:l[k]?=some s){K:AV→aa→Prop}(q:K (.op H.length 0) (H++[sB s])):
 au 9 x (i_ (k:Int)) fun a=>ae true 9 a H fun b=>aB 99 (.agg [(.v (.int .u8 0)),(.str []),(.v (.int .u8 0)),(.str []),ff,(i_ 0),(i_ 0),ff,(.v (.slice none 0 0))]) H fun v g=>ah 9 v b g fun g' => K v g':=by
 refine cO (l:=l) (f:=dv) e rfl rfl hk (jb rfl (by rw[mn];exact aS 9) ?_);rw[Of (by rw[mn];exact aS 9)];refine bq rfl rfl rfl rfl ?_;exact aM (b:=⟨99,[(.v (.int .u8 0)),(.str []),(.v (.int .u8 0)),(.str []),ff,(i_ 0),(i_ 0),ff,(.v (.slice none 0 0))],true⟩) (cs:=dv s) (h':=H++[sB s]) rfl (by simp) rfl rfl (by rw[mn];exact aS 9) (mn s) (BP s) (by rw[fY (by rw[mn];rfl)];simp) q
variable [Laid]
theorem sL(s:Sm):aV p_ 178 [.agg (dv s)] (b_ (gA s.kind)):=by
 refine (XT _).aQ (by simp only[aq,Aw.Pure,and_true];exact p8 _) (by simp) ?_;unfold Rj;refine tQ (h':=[sB s]) rfl rfl ?_;have ld:∀{K:AV→Prop},K (bE.u1 s.kind)→aN 0 (.op 0 0) fun a=>ae false 1 a [sB s] K:=fun k=>aR rfl (zzU rfl (by rw[ia];rfl) k);refine ld (zzF ?_);exact ph (b2:=decide (s.kind≤14)) rfl (fun _ F k=>ld (zzD k)) (.pure (by simp) rfl)
theorem yS(g:Qt.ao)(h:g.length≤64):aV p_ 275 [.str g] (i_ 0):=by
 refine (Yr _).aQ (by simp) (by simp) ?_;unfold RV;refine zzZ fun _=>cS rfl rfl (zzK (oF (by omega)) (.pure (by simp) rfl))
theorem Hq{t:bg}{M:Sm→Int→Bool}{p:Cp}(o:Iv t M p):aV p_ 231 [.agg (fD p)] (i_ 0):=by
 refine (Yh _).aQ (by simp only[aq,Aw.Pure,and_true];exact uG _) (by simp) ?_;unfold RL;refine zN (h':=[pB p]) rfl rfl (EZ rfl (uCon (yS _ o.tag) ?_));refine zzH (zzK rfl ?_);refine pz rfl ?_;have hl:=o.len;refine zzg (n:=p.bo.length) (by simp) fun _=>?_;refine zzE (HQ (b:=decide ((64:Int)<p.bo.length)) (p:=decide (p.tag=[])) (q:=decide ((p.bo.length:Int)=0)) rfl rfl (fun _=>rfl) rfl (fun F k=>EZ rfl (zzI ⟨rfl,k⟩)) (fun _ s F k=>pz rfl (zzg (n:=p.bo.length) (by simp) fun _=>bK rfl rfl ⟨rfl,k⟩)) ?_);refine zzK ?_ ?_
 ·rw[oF (show ¬(64:Int)<p.bo.length by omega),Bool.false_or,Bool.and_eq_false_iff]
  by_cases h:p.tag=[]
  ·refine .inr (oF fun e=>o.ne ⟨h, ?_⟩);exact List.length_eq_zero_iff.1 (by omega)
  ·exact .inl (oF h)
 refine pz rfl ?_;refine zzg (n:=p.bo.length) (by simp) fun _=>?_;refine aG (α:=Nat×aa) (fun q=>q.1≤p.bo.length∧1≤q.2.length) (fun q=>[i_ q.1]) (fun q=>q.2) (fun q=>p.bo.length-q.1) (0,[pB p]) ⟨aao _,aS _⟩ (Wk.refl _ _ _ (aS _)) ?_;rintro⟨k,H⟩ ⟨hk,hH⟩;simp only at hk hH ⊢;refine zzC (aW rfl (fun q=>?_) fun q=>?_)
 ·have q:k<p.bo.length:=by have:=uP q;omega
  obtain⟨s,hsk⟩:∃s,p.bo[k]?=some s:=⟨_,bY q⟩;refine wx rfl hsk ?_;have hg:(H++[sB s])[H.length]?=some (sB s):=by simp
  refine nI hg (uCon (sL s) (zzO (jR (b2:=false) rfl (by trivial) (fun z F k=>nI hg (uCon (o.ck s (eQ hsk) (by simpa using z)).ck (zzH ⟨(by trivial),k⟩))) (zzK (Bool.and_false _) (zzP (by unfold aZ;omega) ?_)))));exact⟨(by trivial),(k+1,_),⟨q,by simp⟩,Wk.refl _ _ _ (by simp),by simp only;omega⟩
 ·exact .pure (by simp) rfl
theorem LA{t:bg}(hs:eH t)(ba:cU t=true){i:Int}(h0:0≤i)(h1:i<t.length)(g:Qt.ao)(h:g.length≤64):aV p_ 232 [cV t,i_ i,.str g] (.aw [b_ (kT t i g),i_ 0]):=by
 refine (Yi _ _ _).aQ (by simp only[aq,Aw.Pure,and_true];exact dh t) (by simp[aq,Aw.Pure]) ?_;unfold RM;refine eE (h':=[tB t]) rfl rfl (db rfl (uCon (oW hs i) ?_));rw[DH ba h0 h1];refine zzB rfl (zzB rfl ?_);refine zzH (zzK rfl ?_);refine uCon (yS _ h) ?_;refine zzH (zzK rfl ?_);refine zzI (dJ (b2:=decide (g=[42])) rfl rfl (fun _ F k=>gy rfl rfl ⟨rfl,k⟩) (CS (b2:=decide (g=(Qt.nd t i).tag)) rfl (fun _ F k=>aR rfl (zzU rfl rfl (zzc (n:=i.toNat) (l:=t) (f:=Qt.bx) rfl (by show i_ i=_;rw[Int.toNat_of_nonneg h0]) (kA h0 h1) (zzX (zzW (zzI k)))))) ?_));exact .pure (by simp[aq,Aw.Pure]) rfl
def zK(k:Int):AV:=.agg [bE.u1 k,.str [],bE.u1 0,.str [],ff,i_ 0,i_ 0,ff,.v (.slice none 0 0)]
theorem xw{t:bg}(hs:eH t):aV p_ 51 [cV t,zK 7,i_ (-1)] (.aw [if cU t then gB (jM t (sh t 7)) else .v (.slice none 0 0),i_ (lR t)]):=
 aV.Un (ys:=dv (bare 7)) (Lx hs (M:=fun s i=>sh t s.kind i) (yO (by omega)) fun h=>EL hs h (by omega) fun i=>rfl) (by unfold bare dv eR;exact .cons (.refl _) (.cons (.refl _) (.cons (.refl _) (.cons (.refl _) (.cons (.refl _) (.cons (.refl _) (.cons (.refl _) (.cons (.refl _) (.cons (.nil 3) .nil))))))))) (by simp[aq,Aw.Pure])
theorem Hr{t:bg}(hs:eH t)(ba:cU t=true){M:Sm→Int→Bool}{p:Cp}(o:Iv t M p):aV p_ 177 [cV t,.agg (fD p),i_ (-1)] (i_ 0):=by
 refine (XS _ _ _).aQ (by simp only[aq,Aw.Pure,and_true];exact⟨dh t,uG _⟩) (by simp) ?_;unfold Ri;refine eE (h':=[tB t]) rfl rfl (zN (h':=[tB t,pB p]) rfl rfl (db rfl (bp (cs:=[bE.u1 7,.str [],bE.u1 0,.str [],ff,i_ 0,i_ 0,ff,.v (.slice none 0 0)]) rfl (uCon (xw hs) ?_))));rw[wI ba];refine zzB rfl (zzB rfl ?_);refine zzH (zzK rfl ?_);refine C7 rfl (uCon (Hq o) ?_);exact .pure (by simp) rfl
end Go.Proofs.YtkfakehconamoaaGreatDoor
end
section
namespace Go.Aw
open Go
theorem SG{b1 b2:Bool}{x:AV}{H:aa}{A:(List AV→aa→Prop)→Prop}{us:List AV}{n:Nat}{f:AV→Prop}(e:x=b_ b1)(ha:b1=true→∀F:List AV→aa→Prop,(∀s,nx s n=b_ b2→F s H)→A F)(q:f (b_ (b1&&b2))):
 aI (fun J=>aL x true (A J) (J us H)) fun s _=>bG x (nx s n) ff fun v=>f v:=by
 subst e;refine aK ?_;cases b1 with
 | true=>exact zzN rfl (ha rfl _ fun s hs=>bu rfl (by rw[hs];exact q))
 | false=>exact zzM rfl (zzQ q)
end Go.Aw
namespace Go.Qt
open Go Go.Aw
def fe(l:List (List Bool)):List (List AV):=l.map fun b=>[.sl 1 (dH b)]
theorem rk(l:List (List Bool)):aX (fe l):=eJ (fun c=>by simp only[aq,Aw.Pure,and_true];exact lp c) _
def oq(L:List (List Bool))(k:Nat)(i:Int):Bool:=(L.getD k []).getD i.toNat false
theorem px{L:List (List Bool)}{k:Nat}(h:k<L.length):L[k]?=some (L.getD k []):=by rw[nO,bY h];rfl
theorem qj{l:List Bool}{i:Int}(h0:0≤i)(h:i<l.length):l[i.toNat]?=some (l.getD i.toNat false):=by rw[nO,bY (by omega)];rfl
theorem MT{M:bE.Sm→Int→Bool}{T:Nat→Int→Bool}{i:Int}{l:List bE.Sm}{k:Nat}{s:bE.Sm}(h:l[k]?=some s):vk M T i k (l.drop k)=((if gA s.kind then T k i else M s i)&&vk M T i (k+1) (l.drop (k+1))):=by
 obtain⟨hl,rfl⟩:=dO.1 h;rw[aaK hl,vk]
end Go.Qt
namespace Go.Proofs.YtkfakehconamoaaGreatDoor
open Go Go.Aw Go.Qt Go.RowKit
open Go.bE hiding u1 ao
structure Ql(t:bg)(p:Cp)(L:List (List Bool)):Prop where
 len:L.length=p.bo.length
 row:∀(k:Nat) (s:Sm),p.bo[k]?=some s→gA s.kind=true→(L.getD k []).length=t.length
variable [Laid]
theorem Us{H:aa}{a b:Nat}{ta tb:TypeId}{L:List (List Bool)}{i:Int}{k:Nat}(ha:H[a]?=some (.ak ⟨ta,[.sl 1 (fe L)],true⟩))(hb:H[b]?=some (.ak ⟨tb,[i_ i],true⟩))(hk:k<L.length)(h0:0≤i)(h1:i<(L.getD k []).length):
 Ex p_ 180 [i_ k,.op a 0,.op b 0] H (b_ (oq L k i)):=by
 refine (XV _ _ _).ex fun _=>?_;unfold Rl;refine zzU ha rfl ?_;refine zzc (l:=L) (f:=fun b=>[.sl 1 (dH b)]) rfl rfl (px hk) (zzW ?_);refine zzU hb rfl ?_;refine zzc (n:=i.toNat) (l:=L.getD k []) (f:=fun b=>[b_ b]) rfl (by rw[Int.toNat_of_nonneg h0]) (qj h0 h1) (zzW ?_);exact⟨_,_,Wk.refl _ _ _ (aS _),rfl,rfl⟩
theorem Jh{t:bg}(hs:eH t)(ba:cU t=true){M:Sm→Int→Bool}{p:Cp}(o:Iv t M p){L:List (List Bool)}(hL:Ql t p L){i:Int}(h0:0≤i)(h1:i<t.length){H:aa}{a b:Nat}{ta tb:TypeId}
 (ha:H[a]?=some (.ak ⟨ta,[.sl 1 (fe L)],true⟩)) (hb:H[b]?=some (.ak ⟨tb,[i_ i],true⟩)) :
 Ex p_ 179 [cV t,i_ i,.agg (fD p),i_ (-1),.fn (.func 180) [] [.op a 0,.op b 0]] H (b_ (vD t M (oq L) p i)):=by
 refine (XU _ _ _ _ _).ex fun hbd=>?_;unfold Rk;refine eE (h':=H++[tB t]) rfl rfl (zN (n:=H.length+1) (h':=H++tB t:: [pB p]) (by simp) (by simp) ?_);have gT:∀X:aa,(H++tB t:: pB p:: X)[H.length]?=some (tB t):=fun X=>by simp
 have gP:∀X:aa,(H++tB t:: pB p:: X)[H.length+1]?=some (pB p):=fun X=>by rw[iD (by omega)];simp
 have gO:∀(X:aa) (j:Nat) (e:aY),H[j]?=some e→(H++tB t:: pB p:: X)[j]?=some e:=fun X j e h=>by rw[gE (dO.1 h).1];exact h
 refine db (gT []) (EZ (gP []) (uCon (LA hs ba h0 h1 _ o.tag) (zzB rfl (zzB rfl (pz (gP []) ?_)))));have hl:=o.len;refine zzg (n:=p.bo.length) (by simp) fun _=>?_;refine aG (α:=Bool×Nat×aa) (fun q=>q.2.1≤p.bo.length∧(q.1&&vk M (oq L) i q.2.1 (p.bo.drop q.2.1))=vD t M (oq L) p i) (fun q=>[b_ q.1,i_ q.2.1]) (fun q=>H++tB t:: pB p:: q.2.2) (fun q=>p.bo.length-q.2.1) (kT t i p.tag,0,[]) ⟨aao _,rfl⟩ (Wk.refl _ _ _ (aS _)) ?_;rintro⟨c,k,X⟩ ⟨hk,hc⟩;simp only at hk hc ⊢;have fin:∀{Y:aa} {v:Bool},v=vD t M (oq L) p i→∃r' h'',Wk H.length [b_ v] (H++Y) [r'] h''∧r'=b_ (vD t M (oq L) p i)∧h''=H:=fun e=>by subst e;exact Sr hbd (by simp[Bd]) (by simp)
 refine zzC (aW rfl (fun q=>?_) fun q=>?_)
 ·have q:k<p.bo.length:=by have:=uP q;omega
  obtain⟨s,hsk⟩:∃s,p.bo[k]?=some s:=⟨_,bY q⟩;rw[MT hsk]at hc;cases c with
  | false =>
    rw[Bool.false_and]at hc;refine aK (wx rfl hsk (zzO (zzL rfl ?_)));rw[TO];exact fin hc
  | true =>
    rw[Bool.true_and]at hc;refine zL [b_ (if gA s.kind then oq L k i else M s i)] (H++tB t:: pB p:: (X++[sB s])) ?_ fun F hF=>?_
    ·refine zzP (by unfold aZ;omega) ?_;exact⟨(by trivial),((if gA s.kind then oq L k i else M s i),k+1,X++[sB s]),⟨q,hc⟩,Wk.refl _ _ _ (by simp),by simp only;omega⟩
    ·refine wx rfl hsk (zzO (zzK rfl ?_));have hE:(H++tB t:: pB p:: X)++[sB s]=H++tB t:: pB p:: (X++[sB s]):=by simp
     have gS:(H++tB t:: pB p:: (X++[sB s]))[(H++tB t:: pB p:: X).length]?=some (sB s):=by rw[←hE];simp
     rw[hE];refine nI gS (uCon (sL s) ?_);refine aW rfl (fun z=>?_) fun z=>?_
     ·rw[if_pos z]at hF;refine NU (args':=[i_ k,.op a 0,.op b 0]) rfl (Us (gO _ _ _ ha) (gO _ _ _ hb) (by rw[hL.len];exact q) h0 (by rw[hL.row k s hsk z];exact h1)) ?_;exact⟨(by trivial),hF⟩
     ·have z:gA s.kind=false:=z;rw[if_neg (by rw[z];decide)]at hF;refine db (gT _) (nI gS (uCon (Hp hs ba (o.ck s (eQ hsk) z) h0 h1) (zzB rfl (zzB rfl ?_))));exact⟨(by trivial),hF⟩
 ·have q:¬k<p.bo.length:=fun h=>by have:=At q;omega
  obtain rfl:k=p.bo.length:=by omega
  rw[List.drop_length,vk,Bool.and_true]at hc;exact fin hc
theorem Lz{t:bg}(hs:eH t)(ba:cU t=true){M:Sm→Int→Bool}{p:Cp}(o:Iv t M p){L:List (List Bool)}(hL:Ql t p L):aV p_ 120 [cV t,.agg (fD p),i_ (-1),.sl 1 (fe L)] (.aw [gB (jM t (vD t M (oq L) p)),i_ 0]):=by
 refine (Xk _ _ _ _).aQ (by simp only[aq,Aw.Pure,and_true,true_and];exact⟨dh t,uG _,rk _⟩) (by simp only[aq,Aw.Pure,and_true];exact GP _) ?_;unfold QI;obtain⟨l1,l64⟩:=gD ba;have hl:=o.len;refine eE (h':=[tB t]) rfl rfl (zN (n:=1) (h':=[tB t,pB p]) rfl rfl (bq (cs:=[.sl 1 (fe L)]) (n:=2) (h':=[tB t,pB p,.ak ⟨138,[.sl 1 (fe L)],true⟩]) rfl rfl rfl rfl ?_));obtain⟨B,hB⟩:∃B:aY,B=.ak ⟨138,[.sl 1 (fe L)],true⟩:=⟨_,rfl⟩;rw[←hB];refine db rfl (C7 rfl (uCon (Hr hs ba o) ?_));refine zzH (zzK rfl ?_);have ldL:∀{H:aa} {K:AV→Prop},H[2]?=some B→K (.sl 1 (fe L))→ae false 1 (.op 2 0) H K:=fun h k=>aE rfl (by rw[h,hB]) rfl k;refine ldL rfl (zzg (n:=L.length) (by simp[fe]) fun _=>?_);refine pz rfl (zzg (n:=p.bo.length) (by simp) fun _=>?_);refine zzH (zzK (by rw[hL.len];simp) ?_);refine pz rfl (zzg (n:=p.bo.length) (by simp) fun _=>?_);refine aG (α:=Nat×aa) (fun q=>q.1≤p.bo.length∧gw [tB t,pB p,B] q.2) (fun q=>[i_ q.1]) (fun q=>q.2) (fun q=>p.bo.length-q.1) (0,_) ⟨aao _,gw.refl _⟩ (Wk.refl _ _ _ (aS _)) ?_;rintro⟨k,H⟩ ⟨hk,hH⟩;simp only at hk hH ⊢;refine zzC (aW rfl (fun q=>?_) fun q=>?_)
 ·have q:k<p.bo.length:=by have:=uP q;omega
  obtain⟨s,hsk⟩:∃s,p.bo[k]?=some s:=⟨_,bY q⟩;refine wx rfl hsk ?_;have hH2:=hH.trans (gw.app H [sB s]);refine nI (s:=s) (by simp) (zzT (by kernel_rfl) (sL s) ?_);have bk:∀{H:aa} (j:Nat) (e:aY),gw [tB t,pB p,B] H→[tB t,pB p,B][j]?=some e→(∃b,e=.ak b)→H[j]?=some e:=fun j e h1 h2 ⟨b,h3⟩=>by subst h3;exact h1.2 j b h2
  refine SG (b1:=gA s.kind) (b2:=false) rfl (fun z F kF=>?_) ?_
  ·refine ldL (bk 2 _ hH2 rfl ⟨_,hB⟩) ?_;refine zzc (l:=L) (f:=fun b=>[.sl 1 (dH b)]) rfl rfl (px (by rw[hL.len];exact q)) (zzW ?_);refine (qm _ _ _).2 ?_;refine zzA (zzU (bk 0 _ hH2 rfl ⟨_,rfl⟩) rfl ((qm _ _ _).2 ?_));refine zzH (kF _ ?_);show b_ _=b_ _
   congr 1
   have hr:=hL.row k s hsk z;rw[nO]at hr;simp[dH,hr]
  refine zzK (Bool.and_false _) (zzP (by unfold aZ;omega) ?_);exact⟨(by trivial),(k+1,_),⟨q,hH2⟩,Wk.refl _ _ _ hH2.1,by simp only;omega⟩
 clear hk q;have bk:∀{H:aa} (j:Nat) (e:aY),gw [tB t,pB p,B] H→[tB t,pB p,B][j]?=some e→(∃b,e=.ak b)→H[j]?=some e:=fun j e h1 h2 ⟨b,h3⟩=>by subst h3;exact h1.2 j b h2
 refine zzA (zzU (bk 0 _ hH rfl ⟨_,rfl⟩) rfl (zzg (n:=t.length) (by simp) fun _=>?_));refine aG (α:=Nat×AV×aa) (fun q=>q.1≤t.length∧jE 4 1 q.2.1 q.2.2 (dH (mg (vD t M (oq L) p) q.1))∧gw H q.2.2) (fun q=>[q.2.1,i_ q.1]) (fun q=>q.2.2) (fun q=>t.length-q.1) (0,.v (.slice none 0 0),H) ⟨aao _,.inl ⟨by simp[mg,dH],rfl⟩,gw.refl _⟩ (Wk.refl _ _ _ (aS _)) ?_;rintro⟨k,x,H2⟩ ⟨hk,hg,h2⟩;simp only at hk hg h2 ⊢;refine zzC (aW rfl (fun q=>?_) fun q=>?_)
 ·have q:k<t.length:=by have:=uP q;omega
  have i1:(H2++[.ak ⟨3,[i_ (0:Nat)],true⟩])[H2.length]?=some (.ak ⟨3,[i_ (0:Nat)],true⟩):=by simp
  refine bq (cs:=[i_ (0:Nat)]) rfl rfl rfl rfl (aM (b:=⟨3,[i_ (0:Nat)],true⟩) (cs:=[i_ k]) (h':=H2++[.ak ⟨3,[i_ k],true⟩]) rfl i1 rfl rfl (aS 1) rfl rfl (by simp[bU]) ?_);have hH3:=(hH.trans h2).trans (gw.app H2 [.ak ⟨3,[i_ k],true⟩]);have i2:(H2++[.ak ⟨3,[i_ k],true⟩])[H2.length]?=some (.ak ⟨3,[i_ k],true⟩):=by simp
  refine db (bk 0 _ hH3 rfl ⟨_,rfl⟩) (zzU i2 rfl (C7 (bk 1 _ hH3 rfl ⟨_,rfl⟩) (zzb (Jh hs ba o hL (i:=k) (by omega) (by omega) (by rw[bk 2 _ hH3 rfl ⟨_,hB⟩,hB]) i2) ?_)));have mk:∀{K:AV→Prop} {b:Bool},K (.sl 1 [[b_ b]])→bz 1 1 ff [(0,1,b_ b)] K:=fun q=>q;refine mk ?_;refine mQ (hg.app _) rfl (by decide) (by simp only[dH,aac,mg,List.length_range];omega) fun x' H' g' b' => ?_;refine zzP (by unfold aZ;omega) ?_;refine⟨(by trivial),(k+1,x',H'),⟨q, ?_,(h2.trans (gw.app H2 _)).trans b'⟩,Wk.refl _ _ _ ((h2.trans (gw.app H2 _)).trans b').1,by simp only;omega⟩;simp only;rw[vr];simpa[dH]using g'
 ·have q:¬k<t.length:=fun h=>by have:=At q;omega
  obtain rfl:k=t.length:=by omega
  refine cf.sq 1 ?_;show AV.aw [Aw.tl 0 H2 1 x,i_ 0]=_;rw[Gh hg];rfl
end Go.Proofs.YtkfakehconamoaaGreatDoor
end
section
namespace Go.Aw
open Go Go.RowKit
variable [Laid]
theorem Ex.arg{P:Program}{f:FuncId}{args args':List AV}{h:aa}{r:AV}(c:Ex P f args' h r)(d:gG args args'):Ex P f args h r:=
 ⟨c.1,fun base ι S w vs h1 h2=>c.2 base ι S w vs (aD.pP d _ h1) h2⟩
end Go.Aw
namespace Go.Qt
open Go Go.Aw
structure It(t:bg)(cs:List Int)(L:List (List Bool)):Prop where
 len:L.length=cs.length+1
 le:L.length≤64
 cb:∀c∈cs,1≤c∧c≤4
 row:∀l∈L,l.length=t.length
def kN(q:Int→Bool):List Int→Int→Int
 | [],_=>-1
 | a:: l,k=>if q a then k else kN q l (k+1)
theorem y8(q:Int→Bool):∀(l:List Int) (k:Int),0≤k→decide (0≤kN q l k)=l.any q
 | [],k,_=>rfl
 | a:: l,k,hk=>by
   rw[kN,List.any_cons];cases q a with
   | true=>simp;exact hk
   | false=>simpa using y8 q l (k+1) (by omega)
theorem Fl(q:Int→Bool){l:List Int}{k:Nat}{x:Int}(h:l[k]?=some x):kN q (l.drop k) k=if q x then (k:Int) else kN q (l.drop (k+1)) ((k+1:Nat):Int):=by
 obtain⟨hl,rfl⟩:=dO.1 h;rw[aaK hl,kN];rfl
end Go.Qt
namespace Go.Proofs.YtkfakehconamoaaGreatDoor
open Go Go.Aw Go.Qt Go.RowKit
open Go.bE hiding u1 ao
abbrev DM(cs:List Int):List (List AV):=cs.map fun c=>[bE.u1 c]
variable [Laid]
theorem Fa{t:bg}(hs:eH t)(ba:cU t=true){cs:List Int}{L:List (List Bool)}(o:It t cs L):aV p_ 117 [cV t,.sl 1 (DM cs),.sl 1 (fe L)] (i_ 0):=by
 refine (Xh _ _ _).aQ (by simp only[aq,Aw.Pure,and_true];exact⟨dh t,su _,rk _⟩) (by simp) ?_;unfold QF;have hl:=o.len;have hle:=o.le;refine eE (h':=[tB t]) rfl rfl (db rfl (uCon (pS hs) ?_));rw[wI ba];refine zzH (zzK rfl ?_);have lnL:∀{K:AV→Prop},K (i_ L.length)→aU (.sl 1 (fe L)) K:=fun k=>cr (n:=L.length) rfl (by simp[fe]) fun _=>k;have lnC:∀{K:AV→Prop},K (i_ cs.length)→aU (.sl 1 (DM cs)) K:=fun k=>cr (n:=cs.length) rfl (by simp) fun _=>k;refine lnL (zzC ?_);refine dJ (b2:=decide ((64:Int)<L.length)) rfl rfl (fun _ F k=>lnL (zzE ⟨rfl,k⟩)) (dJ (b2:=!decide ((cs.length:Int)=L.length-1)) rfl rfl (fun _ F k=>lnC (lnL (zzf (by unfold aZ;omega) (zzH ⟨rfl,k⟩)))) ?_);refine zzK ?_ ?_
 ·rw[oF (by omega),oF (by omega),tO (by omega)];rfl
 refine lnC (aG (α:=Nat) (fun k=>k≤cs.length) (fun k=>[i_ k]) (fun _=>[tB t]) (fun k=>cs.length-k) 0 (aao _) (Wk.refl _ _ _ (aS _)) ?_);rintro k hk;refine zzC (aW rfl (fun q=>?_) fun q=>?_)
 ·have q:k<cs.length:=by have:=uP q;omega
  obtain⟨c,hc⟩:∃c,cs[k]?=some c:=⟨_,bY q⟩;have hc2:=o.cb c (eQ hc);refine zzc (l:=cs) (f:=fun c=>[bE.u1 c]) rfl rfl hc (zzW ?_);refine zzC (dJ (b2:=decide ((4:Int)<c)) rfl rfl (fun _ F k=>cS rfl rfl ⟨rfl,k⟩) (zzK (by rw[oF (by omega),oF (by omega)];rfl) (zzP (by unfold aZ;omega) ?_)));exact⟨rfl,k+1,q,Wk.refl _ _ _ (aS _),by omega⟩
 refine lnL (aG (α:=Nat) (fun k=>k≤L.length) (fun k=>[i_ k]) (fun _=>[tB t]) (fun k=>L.length-k) 0 (aao _) (Wk.refl _ _ _ (aS _)) ?_);rintro k hk;refine zzC (aW rfl (fun q=>?_) fun q=>?_)
 ·have q:k<L.length:=by have:=uP q;omega
  refine zzc (l:=L) (f:=fun b=>[.sl 1 (dH b)]) rfl rfl (px q) (zzW ?_);refine zzg (n:=(L.getD k []).length) (by simp[dH]) fun _=>?_;refine zzA (zzU rfl rfl (zzg (n:=t.length) (by simp) fun _=>?_));refine zzH (zzK (by rw[o.row _ (eQ (px q))];simp) ?_);refine zzP (by unfold aZ;omega) ?_;exact⟨rfl,k+1,q,Wk.refl _ _ _ (aS _),by omega⟩
 ·exact .pure (by simp) rfl
theorem LH{t:bg}(hs:eH t){i:Int}:aV p_ 173 [cV t,i_ i,bE.u1 1] (gI (vq t i)):=by
 refine (XQ _ _ _).aQ (by simp only[aq,Aw.Pure,and_true];exact dh t) (tI _) ?_;unfold Rg;refine eE (h':=[tB t]) rfl rfl ?_;refine aK (aK (zzG (zzL rfl ⟨rfl, ?_⟩)));refine zzL rfl (db rfl (uCon (IV hs i) (zzB rfl (zzB rfl ?_))));refine⟨rfl, ?_⟩;refine zzG (dJ (b2:=false) rfl rfl (fun _ F k=>bK rfl rfl ⟨rfl,k⟩) (zzK rfl ?_));exact .pure (tI _) rfl
theorem Pc{H:aa}{f:FuncId}{caps:List AV}{q:Int→Bool}{l:List Int}(hl:l.length<2^20)(hf:∀p∈l,Ex p_ f ([i_ p]++caps) H (b_ (q p))):
 Ex p_ 224 [gI l,.fn (.func f) [] caps] H (i_ (kN q l 0)):=by
 suffices h:Ex p_ 224 [.sl 1 (dI l),.fn (.func f) [] caps] H (i_ (kN q l 0)) by
  refine h.arg (.cons ?_ (.cons (.refl _) .nil));unfold gI;split
  ·rename_i e;rw[e];exact .nil 1
  ·exact .refl _
 refine (Yg _ _).ex fun _=>?_;unfold RJ;refine zzg (n:=l.length) (by simp[dI]) fun _=>?_;refine aG (α:=Nat) (fun k=>k≤l.length∧kN q (l.drop k) k=kN q l 0) (fun k=>[i_ k]) (fun _=>H) (fun k=>l.length-k) 0 ⟨aao _,rfl⟩ (Wk.refl _ _ _ (aS _)) ?_;rintro k ⟨hk,hf0⟩;refine zzC (aW rfl (fun z=>?_) fun z=>?_)
 ·have z:k<l.length:=by have:=uP z;omega
  obtain⟨p,hp⟩:∃p,l[k]?=some p:=⟨_,bY z⟩;rw[Fl q hp]at hf0;refine zzc (l:=l) (f:=fun c=>[i_ c]) rfl rfl hp (zzW ?_);refine NU (args':=[i_ p]++caps) rfl (hf p (eQ hp)) ?_;refine aW rfl (fun y=>?_) fun y=>?_
  ·rw[if_pos y]at hf0;exact⟨_,_,Wk.refl _ _ _ (aS _),by rw[←hf0];rfl,rfl⟩
  ·rw[if_neg (by rw[y];decide)]at hf0;refine zzP (by unfold aZ;omega) ?_;exact⟨rfl,k+1,⟨z,hf0⟩,Wk.refl _ _ _ (aS _),by omega⟩
 ·have z:¬k<l.length:=fun h=>by have:=At z;omega
  obtain rfl:k=l.length:=by omega
  rw[List.drop_length,kN]at hf0;exact⟨_,_,Wk.refl _ _ _ (aS _),by rw[←hf0],rfl⟩
theorem Pb{H:aa}{f:FuncId}{caps:List AV}{q:Int→Bool}{l:List Int}(hl:l.length<2^20)(hf:∀p∈l,Ex p_ f ([i_ p]++caps) H (b_ (q p))):
 Ex p_ 172 [gI l,.fn (.func f) [] caps] H (b_ (l.any q)):=by
 refine (XP _ _).ex fun _=>?_;unfold Rf;refine zzb (Pc hl hf) (zzF ?_);exact⟨_,_,Wk.refl _ _ _ (aS _),by rw[y8 q l 0 (Int.le_refl 0)],rfl⟩
end Go.Proofs.YtkfakehconamoaaGreatDoor
end
section
namespace Go.Qt
open Go Go.Aw
def El(t:bg)(P:Int→Int→List Int)(c:Int)(h r:List Bool):List Bool:=jM t fun i=>h.getD i.toNat false&&(P c i).any fun p=>r.getD p.toNat false
def iq(t:bg)(P:Int→Int→List Int)(cs:List Int)(L:List (List Bool)):Nat→List Bool
 | 0=>L.getD 0 []
 | k+1=>El t P (cs.getD k 0) (L.getD (k+1) []) (iq t P cs L k)
theorem yp{t:bg}{P:Int→Int→List Int}{cs:List Int}{L:List (List Bool)}(o:It t cs L):∀k,(iq t P cs L k).length=t.length
 | 0=>by
   have hl:=o.len;rw[iq];exact o.row _ (eQ (px (by omega)))
 | k+1=>by rw[iq,El,qz]
theorem N6(t:bg)(f:Int→Bool):jM t f=mg f t.length:=rfl
def tF(f:Int→Bool)(n i:Nat):List AV:=(mg f i).map (fun b=>b_ b)++List.replicate (n-i) ff
theorem PG(f:Int→Bool){n i:Nat}(h:i≤n):(tF f n i).length=n:=by simp[tF,mg];omega
theorem PH(f:Int→Bool){n i:Nat}(h:i<n):(tF f n i).set i (b_ (f (i:Int)))=tF f n (i+1):=by
 unfold tF;rw[Lt _ _ (by simp[mg]),vr];obtain⟨m,hm⟩:∃m,n-i=m+1:=⟨n-i-1,by omega⟩;rw[hm,show n-(i+1)=m by omega,List.replicate_succ];simp[mg]
end Go.Qt
namespace Go.Proofs.YtkfakehconamoaaGreatDoor
open Go Go.Aw Go.Qt Go.RowKit
open Go.bE hiding u1 ao
def Tw(H:aa)(a:AV)(l:List Bool):Prop:=a=.sl 1 (dH l)∨(l≠[]∧∃id,a=.own id 0 l.length 1∧H[id]?=some (.ak ⟨4,l.map (fun b=>b_ b),true⟩))
theorem Tw.mono{H H':aa}{a:AV}{l:List Bool}(h:Tw H a l)(q:∀(id:Nat) (cs:List AV),H[id]?=some (.ak ⟨4,cs,true⟩)→H'[id]?=some (.ak ⟨4,cs,true⟩)):Tw H' a l:=by
 rcases h with h|⟨h0,id,h1,h2⟩
 ·exact .inl h
 ·exact .inr ⟨h0,id,h1,q id _ h2⟩
theorem Tw.at{H:aa}{a:AV}{l:List Bool}(h:Tw H a l){i:Int}(h0:0≤i)(h1:i<l.length){K:AV→Prop}(k:K (b_ (l.getD i.toNat false))):au 1 a (i_ i) fun x=>ae false 1 x H K:=by
 have hb:=qj h0 h1;rcases h with rfl|⟨_,id,rfl,hc⟩
 ·exact zzc (n:=i.toNat) (l:=l) (f:=fun b=>[b_ b]) rfl (by rw[Int.toNat_of_nonneg h0]) hb (zzW k)
 ·refine dY (n:=i.toNat) rfl (by rw[Int.toNat_of_nonneg h0]) (by omega) (zzU hc ?_ k);rw[aaq,Nat.mul_one,iS,hb];rfl
theorem EW{H:aa}{d:Nat}:∀l:List Bool,(chunks 1 l.length (l.map fun b=>b_ b)).map (List.map (tl 0 H d))=dH l
 | []=>rfl
 | b:: l=>by
   have:=EW (H:=H) (d:=d) l;simp only[aab,IF,chunks,List.take_succ_cons,List.take_zero,List.drop_succ_cons,List.drop_zero,List.map_nil];rw[this];cases d<;>rfl
theorem Tw.tl{H:aa}{a:AV}{l:List Bool}(h:Tw H a l)(d:Nat):tl 0 H (d+1) a=.sl 1 (dH l):=by
 rcases h with rfl|⟨_,id,rfl,hc⟩
 ·exact jf (lp l)
 ·rw[oy hc rfl (by simp),EW]
def mF(H:aa):List AV→List (List Bool)→Prop
 | [],[]=>True
 | a:: xs,l:: ls=>Tw H a l∧mF H xs ls
 | _,_=>False
theorem mF.mono{H H':aa}(q:∀(id:Nat) (cs:List AV),H[id]?=some (.ak ⟨4,cs,true⟩)→H'[id]?=some (.ak ⟨4,cs,true⟩)):∀{xs:List AV} {ls:List (List Bool)},mF H xs ls→mF H' xs ls
 | [],[],_=>(by trivial)
 | a:: xs,l:: ls,h=>⟨h.1.mono q,mF.mono q h.2⟩
 | [],_:: _,h=>h.elim
 | _:: _,[],h=>h.elim
theorem mF.len{H:aa}:∀{xs:List AV} {ls:List (List Bool)},mF H xs ls→xs.length=ls.length
 | [],[],_=>rfl
 | a:: xs,l:: ls,h=>by simp[mF.len h.2]
 | [],_:: _,h=>h.elim
 | _:: _,[],h=>h.elim
theorem mF.at{H:aa}:∀{xs:List AV} {ls:List (List Bool)} {k:Nat} {l:List Bool},mF H xs ls→ls[k]?=some l→∃a,xs[k]?=some a∧Tw H a l
 | a:: xs,l:: ls,0,_,h,e=>by simp at e;subst e;exact⟨a,rfl,h.1⟩
 | a:: xs,l:: ls,k+1,_,h,e=>by simpa using mF.at h.2 (by simpa using e)
 | [],[],_,_,_,e=>by simp at e
 | [],_:: _,_,_,h,_=>h.elim
 | _:: _,[],_,_,h,_=>h.elim
theorem mF.snoc{H:aa}{a:AV}{l:List Bool}(t:Tw H a l):∀{xs:List AV} {ls:List (List Bool)},mF H xs ls→mF H (xs++[a]) (ls++[l])
 | [],[],_=>⟨t,(by trivial)⟩
 | a:: xs,l:: ls,h=>⟨h.1,mF.snoc t h.2⟩
 | [],_:: _,h=>h.elim
 | _:: _,[],h=>h.elim
theorem mF.tl{H:aa}(d:Nat):∀{xs:List AV} {ls:List (List Bool)},mF H xs ls→(chunks 1 xs.length xs).map (List.map (Aw.tl 0 H (d+1)))=fe ls
 | [],[],_=>rfl
 | a:: xs,l:: ls,h=>by
   have:=mF.tl d h.2;simp only[aab,chunks,List.take_succ_cons,List.take_zero,List.drop_succ_cons,List.drop_zero,IF,List.map_nil];rw[this,h.1.tl d];rfl
 | [],_:: _,h=>h.elim
 | _:: _,[],h=>h.elim
variable [Laid]
theorem Hv(l:List Bool)(hl:l.length<2^20)(h0:l≠[]):aV p_ 171 [.sl 1 (dH l)] (.sl 1 (dH l)):=by
 refine (XO _).aQ (by simp only[aq,Aw.Pure,and_true];exact lp l) (lp l) ?_;unfold Re;obtain⟨b,r,rfl⟩:=List.exists_cons_of_ne_nil h0;show iH false (some false) _;rw[vM];refine zzK rfl (N0 (Iy (rows:=dH (b:: r)) rfl fT (Bg (f:=fun b=>[b_ b]) (fun x=>⟨rfl,rfl⟩) _) (by unfold gM maxLen;simp[dH]at hl ⊢;omega) (cf.sq 1 ?_)));rw[G2 (lp _)]
theorem Ut{H:aa}{a b:Nat}{ta tb tc:TypeId}{B n k:Nat}{cells:List AV}{v:AV}{r:List Bool}{p:Int}(ha:H[a]?=some (.ak ⟨ta,[.own B 0 n 1],true⟩))(hb:H[b]?=some (.ak ⟨tb,[i_ k],true⟩))(hc:H[B]?=some (.ak ⟨tc,cells,true⟩))(hk:k<n)(hv:cells[k]?=some v)(tv:Tw H v r)(h0:0≤p)(h1:p<r.length):
 Ex p_ 174 [i_ p,.op a 0,.op b 0] H (b_ (r.getD p.toNat false)):=by
 refine (XR _ _ _).ex fun _=>?_;unfold Rh;refine zzU ha rfl (zzU hb rfl ?_);refine dY (n:=k) rfl rfl hk (zzU hc (by simpa using hv) ?_);refine tv.at h0 h1 ?_;exact⟨_,_,Wk.refl _ _ _ (aS _),rfl,rfl⟩
end Go.Proofs.YtkfakehconamoaaGreatDoor
end
namespace Go.Proofs.YtkfakehconamoaaGreatDoor
section
open Go Go.Aw Go.Qt Go.RowKit
open Go.bE hiding u1 ao
structure Ro(t:bg)(R:Nat→List Bool)(k B:Nat)(cells:List AV)(H:aa):Prop where
 t0:H[0]?=some (tB t)
 o:H[2]?=some (.ak ⟨138,[.own B 0 (k+1) 1],true⟩)
 b:H[B]?=some (.ak ⟨53,cells,true⟩)
 r:mF H cells ((List.range (k+1)).map R)
theorem Ro.app{t:bg}{R:Nat→List Bool}{k B:Nat}{cells:List AV}{H:aa}(h:Ro t R k B cells H)(X:aa):Ro t R k B cells (H++X):=by
 have q:∀{j:Nat} {e:aY},H[j]?=some e→(H++X)[j]?=some e:=fun hj=>by rw[gE (dO.1 hj).1];exact hj
 exact⟨q h.t0,q h.o,q h.b,h.r.mono fun _ _ hj=>q hj⟩
theorem Ro.Lu{t:bg}{R:Nat→List Bool}{k B:Nat}{cells:List AV}{H:aa}(h:Ro t R k B cells H):cells.length=k+1:=by rw[h.r.len];simp
variable [Laid]
def CL(t:bg)(P:Int→Int→List Int)(c:Int):Prop:=∀i:Int,0≤i→i<t.length→aV p_ 173 [cV t,i_ i,bE.u1 c] (gI (P c i))∧(P c i).length<2^20∧∀p∈P c i,0≤p∧p<t.length
theorem Ff{t:bg}(ba:cU t=true){P:Int→Int→List Int}{cs:List Int}{L:List (List Bool)}(o:It t cs L)(hP:∀c∈cs,CL t P c):aV p_ 118 [cV t,.sl 1 (DM cs),.sl 1 (fe L)] (.sl 1 (fe ((List.range (cs.length+1)).map (iq t P cs L)))):=by
 refine (Xi _ _ _).aQ (by simp only[aq,Aw.Pure,and_true];exact⟨dh t,su _,rk _⟩) (rk _) ?_;unfold QG;obtain⟨l1,l64⟩:=gD ba;have hl:=o.len;have hle:=o.le;have hr0:=yp (P:=P) o 0;refine eE (h':=[tB t]) rfl rfl ?_;refine zzc (n:=0) (l:=L) (f:=fun b=>[.sl 1 (dH b)]) rfl rfl (px (by omega)) (zzW ?_);refine uCon (Hv (L.getD 0 []) (by show (iq t P cs L 0).length<_;omega) (fun e=>by rw[iq,e]at hr0;simp at hr0;omega)) (GJ (cs:=[.sl 1 (dH (L.getD 0 []))]) (n:=1) (h':=[tB t,.ak ⟨53,[.sl 1 (dH (L.getD 0 []))],true⟩]) rfl rfl rfl rfl rfl rfl (bq (cs:=[.v (.slice none 0 0)]) (n:=2) rfl rfl rfl rfl (aM (cs:=[.own 1 0 1 1]) (h':=[tB t,.ak ⟨53,[.sl 1 (dH (L.getD 0 []))],true⟩,.ak ⟨138,[.own 1 0 1 1],true⟩]) rfl rfl rfl rfl (aS 1) rfl rfl rfl ?_)));have ro0:Ro t (iq t P cs L) 0 1 [.sl 1 (dH (L.getD 0 []))] [tB t,.ak ⟨53,[.sl 1 (dH (L.getD 0 []))],true⟩,.ak ⟨138,[.own 1 0 1 1],true⟩]:=⟨rfl,rfl,rfl,.inl rfl,(by trivial)⟩;refine zzg (n:=cs.length) (by simp) fun _=>?_;refine aG (α:=Nat×Nat×List AV×aa) (fun q=>q.1≤cs.length∧3≤q.2.2.2.length∧Ro t (iq t P cs L) q.1 q.2.1 q.2.2.1 q.2.2.2) (fun q=>[i_ q.1]) (fun q=>q.2.2.2) (fun q=>cs.length-q.1) (0,1,_,_) ⟨aao _,aS _,ro0⟩ (Wk.refl _ _ _ (aS _)) ?_;rintro⟨k,B,cells,H⟩ ⟨hk,hH,ro⟩;simp only at hk hH ro ⊢;refine zzC (aW rfl (fun q=>?_) fun q=>?_)
 ·have q:k<cs.length:=by have:=uP q;omega
  obtain⟨c,hc⟩:∃c,cs[k]?=some c:=⟨_,bY q⟩;have hcd:cs.getD k 0=c:=by rw[nO,hc];rfl
  have hPc:=hP c (eQ hc);refine zzc (l:=cs) (f:=fun c=>[bE.u1 c]) rfl rfl hc (zzW ?_);have i1:(H++[.ak ⟨3,[i_ (0:Nat)],true⟩])[H.length]?=some (.ak ⟨3,[i_ (0:Nat)],true⟩):=by simp
  refine bq (cs:=[i_ (0:Nat)]) rfl rfl rfl rfl ?_;obtain⟨C,hC⟩:∃C:aY,C=.ak ⟨3,[i_ k],true⟩:=⟨_,rfl⟩;refine aM (b:=⟨3,[i_ (0:Nat)],true⟩) (cs:=[i_ k]) (h':=H++[C]) rfl i1 rfl rfl (aS 1) rfl rfl (by simp[bU,hC]) ?_;refine zzA (zzU (ro.app _).t0 rfl (zzg (n:=t.length) (by simp) fun _=>?_));have mkM:∀{H:aa} {K:AV→aa→Prop},K (.own H.length 0 t.length 1) (H++[.ak ⟨4,List.replicate t.length ff,true⟩])→jO 4 1 1 ff (i_ t.length) (i_ t.length) H K:=fun {H K} kk=>by
   rw[wR];refine⟨by omega, ?_⟩;have e:eZ (t.length:Int).toNat (bl ff)=List.replicate t.length ff:=by
    rw[NO];have:∀n,eZ n (bl ff)=List.replicate n ff:=fun n=>by
     induction n with
     | zero=>rfl
     | succ n ih=>rw[List.replicate_succ,←ih];rfl
    exact this _
   rw[e,NO];exact kk
  refine mkM ?_;refine (tz _ _ _ _ _).2 fun _=>?_;obtain⟨f,hf⟩:∃f:Int→Bool,f=fun i=>(L.getD (k+1) []).getD i.toNat false&&(P c i).any fun p=>(iq t P cs L k).getD p.toNat false:=⟨_,rfl⟩;have e0:List.replicate t.length ff=tF f t.length 0:=by simp[tF,mg]
  have hL1:(H++[C]).length=H.length+1:=by simp
  refine aG (α:=Nat) (fun i=>i≤t.length) (fun i=>[i_ i]) (fun i=>H++[C]++[.ak ⟨4,tF f t.length i,true⟩]) (fun i=>t.length-i) 0 (aao _) (by rw[e0];exact Wk.refl _ _ _ (aS _)) ?_;rintro i hi;obtain⟨G,hG⟩:∃G:aa,G=H++[C]++[.ak ⟨4,tF f t.length i,true⟩]:=⟨_,rfl⟩;rw[←hG];have roG:Ro t (iq t P cs L) k B cells G:=by rw[hG];exact (ro.app _).app _
  have gC:G[H.length]?=some (.ak ⟨3,[i_ k],true⟩):=by rw[hG,←hC];simp
  have gN:G[(H++[C]).length]?=some (.ak ⟨4,tF f t.length i,true⟩):=by rw[hG];simp
  refine zzC (aW rfl (fun z=>?_) fun z=>?_)
  ·have z:i<t.length:=by have:=uP z;omega
   refine zzU gC rfl (zzP (by unfold aZ;omega) ?_);refine zzc (n:=k+1) (l:=L) (f:=fun b=>[.sl 1 (dH b)]) rfl rfl (px (by omega)) (zzW ?_);have hrow:(L.getD (k+1) []).length=t.length:=o.row _ (eQ (px (by omega)));have hb:=qj (l:=L.getD (k+1) []) (i:=(i:Int)) (by omega) (by omega);rw[NO]at hb;refine zzc (l:=L.getD (k+1) []) (f:=fun b=>[b_ b]) rfl rfl hb (zzW ?_);obtain⟨hp1,hp2,hp3⟩:=hPc i (by omega) (by omega);obtain⟨v,hv1,hv2⟩:=roG.r.at (k:=k) (l:=iq t P cs L k) (by rw[iS,aah (by omega)];rfl);refine jR (b2:=(P c i).any fun p=>(iq t P cs L k).getD p.toNat false) rfl (by trivial) (fun _ F kF=>?_) ?_
   ·refine db roG.t0 (uCon hp1 ?_);refine zzb (Pb (q:=fun p=>(iq t P cs L k).getD p.toNat false) hp2 fun p hp=>?_) ⟨(by trivial),kF⟩;exact Ut roG.o gC roG.b (by omega) hv1 hv2 (hp3 p hp).1 (by rw[yp o];exact (hp3 p hp).2)
   refine dY (n:=i) rfl rfl z ?_;have hfi:((L.getD (k+1) []).getD i false&&(P c i).any fun p=>(iq t P cs L k).getD p.toNat false)=f i:=by rw[hf];simp only[NO]
   rw[hfi];refine aM (cs:=[b_ (f i)]) (h':=H++[C]++[.ak ⟨4,tF f t.length (i+1),true⟩]) rfl gN rfl rfl (by rw[PG f hi];simp only[aab,aaN];omega) rfl rfl ?_ ?_
   ·rw[hG,Lt _ _ (aS _),Nat.sub_self,List.set_cons_zero,aaq,Nat.mul_one,←PH f z];have:∀(l:List AV) (n:Nat) (a:AV),bU l n [a]=l.set n a:=fun l n a=>rfl;rw[this]
   refine zzP (by unfold aZ;omega) ?_;exact⟨(by trivial),i+1,z,Wk.refl _ _ _ (by simp),by omega⟩
  ·have z:¬i<t.length:=fun h=>by have:=At z;omega
   obtain rfl:i=t.length:=by omega
   have hcl:=ro.Lu;have hcells:tF f t.length t.length=(jM t f).map fun b=>b_ b:=by simp[tF,N6]
   rw[hcells]at gN hG;have hR:iq t P cs L (k+1)=jM t f:=by rw[iq,El,hcd,hf]
   have hT:Tw G (.own (H++[C]).length 0 t.length 1) (iq t P cs L (k+1)):=by
    rw[hR];exact .inr ⟨FG l1 f,_,by rw[qz],gN⟩
   refine zzU roG.o rfl ?_;have mk:∀{K:AV→Prop} {id n:Nat},K (.sl 1 [[.own id 0 n 1]])→bz 1 1 (.v (.slice none 0 0)) [(0,1,.own id 0 n 1)] K:=fun q=>q;refine mk (Iz (rows:=[[.own (H++[C]).length 0 t.length 1]]) rfl roG.b (by omega) (by omega) fT rfl ⟨by unfold maxLen;simp only[aab,aaN];omega,by simp only[aab,aaN];omega⟩ ?_);have hne:∀{j:Nat} {ty:TypeId} {x:List AV},ty≠53→G[j]?=some (.ak ⟨ty,x,true⟩)→j≠B:=fun hty hj e=>by subst e;rw[roG.b]at hj;cases hj;exact hty rfl
   have hkeep:∀{j:Nat} {ty:TypeId} {x y:List AV},ty≠53→G[j]?=some (.ak ⟨ty,x,true⟩)→(G.set B aY.dead++[.ak ⟨53,y,true⟩])[j]?=some (.ak ⟨ty,x,true⟩):=fun hty hj=>by
    rw[gE (by rw[aan];exact (dO.1 hj).1),iN (fun e=>hne hty hj e.symm)];exact hj
   refine aM (cs:=[.own G.length 0 (k+1+1) 1]) rfl (hkeep (by decide) roG.o) rfl rfl (aS 1) rfl rfl rfl (zzP (by unfold aZ;omega) ?_);refine⟨(by trivial),(k+1,G.length,cells++[.own (H++[C]).length 0 t.length 1],_),⟨q, ?_, ?_⟩,Wk.refl _ _ _ ?_,by simp only;omega⟩
   ·have:=(dO.1 roG.o).1;simp only[aan,BY,aab,aaN];omega
   ·have hG2:=(dO.1 roG.o).1;have ho:=hkeep (y:=cells.take ((k+1)*1)++[[.own (H++[C]).length 0 t.length 1]].flatten) (by decide) roG.o;have mono:∀(id:Nat) (x:List AV),G[id]?=some (.ak ⟨4,x,true⟩)→((G.set B aY.dead++[aY.ak ⟨53,cells.take ((k+1)*1)++[[.own (H++[C]).length 0 t.length 1]].flatten,true⟩]).set 2 (aY.ak ⟨138,bU [.own B 0 (k+1) 1] 0 [.own G.length 0 (k+1+1) 1],true⟩))[id]?=some (.ak ⟨4,x,true⟩):=fun id x hx=>by
     rw[iN (fun e=>by subst e;rw[roG.o]at hx;cases hx)];exact hkeep (by decide) hx
    refine⟨?_, ?_, ?_, ?_⟩
    ·rw[iN (by decide)];exact hkeep (by decide) roG.t0
    ·rw[iF (dO.1 ho).1];rfl
    ·rw[iN (show 2≠G.length by omega),iD (by simp)];simp only[aan,Nat.sub_self,Nat.mul_one];rw[Of (by omega)];rfl
    ·rw[List.range_succ,List.map_append];exact mF.snoc (hT.mono mono) (roG.r.mono mono)
   ·have:=(dO.1 roG.o).1;simp only[aan,BY,aab,aaN]at this ⊢;omega
 ·have q:¬k<cs.length:=fun h=>by have:=At q;omega
  obtain rfl:k=cs.length:=by omega
  refine zzU ro.o rfl (cf.sq 3 ?_);rw[oy ro.b rfl (by rw[ro.Lu];omega)];have:=ro.r.tl 1;rw[ro.Lu]at this;rw[this]
theorem I0{t:bg}(hs:eH t)(ba:cU t=true){P:Int→Int→List Int}{cs:List Int}{L:List (List Bool)}(o:It t cs L)(hP:∀c∈cs,CL t P c):aV p_ 72 [cV t,.sl 1 (DM cs),.sl 1 (fe L)] (.aw [.sl 1 (dH (iq t P cs L cs.length)),i_ 0]):=by
 refine (V72 _ _ _).aQ (by simp only[aq,Aw.Pure,and_true];exact⟨dh t,su _,rk _⟩) (by simp only[aq,Aw.Pure,and_true];exact lp _) ?_;unfold Wi;refine eE (h':=[tB t]) rfl rfl (db rfl (uCon (Fa hs ba o) ?_));refine zzH (zzK rfl ?_);refine db rfl (uCon (Ff ba o hP) ?_);refine zzg (n:=cs.length) (by simp) fun _=>?_;refine cO (n:=cs.length) (l:=(List.range (cs.length+1)).map (iq t P cs L)) (f:=fun b=>[.sl 1 (dH b)]) (a:=iq t P cs L cs.length) rfl rfl rfl (by rw[iS,aah (by omega)];rfl) (zzW ?_);exact .pure (by simp only[aq,Aw.Pure,and_true];exact lp _) rfl
end
end Go.Proofs.YtkfakehconamoaaGreatDoor
namespace Go.Aw
section
open Go Go.RowKit
variable [Laid]
def xz(L:Nat)(h:aa):aa:=nG L h++List.replicate (h.length-L) .dead
omit [Laid] in
def Gi(hL:L≤h.length):(xz L h).length=h.length:=by simp[xz,nG];omega
omit [Laid] in
def rA:∀{a:AV},Aw.Pure a→tl L h d a=a:=fun {a} p=>by
 refine AV.rec (motive_1:=fun a=>Aw.Pure a→∀f,dt f L h a=a) (motive_2:=fun l=>aq l→∀f,lH f L h l=l) (motive_3:=fun r=>aX r→∀f,mY f L h r=r) ?_ ?_ ?_ ?_ ?_ ?_ ?_ ?_ ?_ ?_ ?_ ?_ ?_ ?_ ?_ ?_ ?_ ?_ a p |> fun q=>by cases d<;>exact q _
 all_goals intros
 all_goals simp_all [Aw.Pure,aq,aX,dt,lH,mY]
omit [Laid] in
def Jm(hi:i<L)(he:h[i]?=some e)(p:∀b,e=.ak b→aq b.cells)(q:∀c es,e≠.mp c es)(r:∀a b c d,e≠.it a b c d):(xz L h)[i]?=some e:=by
 have hl:=(dO.1 he).1;unfold xz;rw[gE (by simp[nG];omega),nG,iS,To,if_pos hi,he];show some (xI L h e)=some e;cases e with
 | ak b =>
   have:b.cells.map (tl L h 3)=b.cells:=by
    have:=p b rfl;have:∀l:List AV,aq l→l.map (tl L h 3)=l:=fun l=>by
     induction l with
     | nil=>exact fun _=>rfl
     | cons a l ih=>exact fun p=>by rw[aq]at p;rw[IF,rA p.1,ih p.2]
    exact this _ (p b rfl)
   simp only[xI,this]
 | tok=>rfl
 | dead=>rfl
 | mp c es=>exact absurd rfl (q c es)
 | it a b c d=>exact absurd rfl (r a b c d)
def cy.YX{base:Nat}(hL:L≤ι.length)(hh:cy base (ι.take L) S w h):cy base ι S w (h++List.replicate (ι.length-L) .dead):=by
 have hlen:h.length=L:=by rw[←hh.len];simp;omega
 have pre:∀{i:Nat},i<L→(ι.take L)[i]?=ι[i]?:=fun q=>by rw[To,if_pos q]
 have hE:bM (ι.take L).length base (ι.take L) S w ι S w:=⟨fun i hi=>eW.of_eq (pre (by simp at hi;omega)).symm,fun _ _ q=>q,fun _ _ q=>.inl q,fun _ _ _=>rfl,fun _ _ q=>q,Below.refl _ _⟩;have ent:∀{i:Nat} {x:aY},(h++List.replicate (ι.length-L) .dead)[i]?=some x→x=.dead∨(i<L∧h[i]?=some x):=by
  intro i x e;rcases AS i h.length with q|q
  ·rw[gE q]at e;exact .inr ⟨by omega,e⟩
  ·rw[iD q,List.getElem?_replicate]at e;split at e
   ·cases e;exact .inl rfl
   ·cases e
 have alv:∀{i:Nat},alive (h++List.replicate (ι.length-L) .dead)[i]?→i<L∧alive h[i]?:=by
  intro i ha;cases e:(h++List.replicate (ι.length-L) .dead)[i]? with
  | none=>rw[e]at ha;exact ha.elim
  | some x =>
    rcases ent e with rfl|⟨q,e1⟩
    ·rw[e]at ha;exact ha.elim
    ·refine⟨q, ?_⟩;rw[e1];rw[e]at ha;exact ha
 refine⟨by simp;omega,fun id x e=>?_,fun id t sz n e=>?_,fun id en e=>?_,fun i j b ai aj hi hj=>?_,hh.fV,hh.ji,hh.gl⟩
 ·rcases ent e with e|⟨q,e1⟩
  ·cases e
  obtain⟨b,arr,fz,h1,h2,h3,h4,h5,h6,h7⟩:=hh.live id x e1;refine⟨b,arr,fz,(pre q).symm.trans h1,h2,h3,h4,h5,fun i c ec=>?_,h7⟩;obtain⟨v,e3,r⟩:=h6 i c ec;exact⟨v,e3,ax.fq hE (aS _) c v r⟩
 ·rcases ent e with e|⟨q,e1⟩
  ·cases e
  obtain⟨v,h1,h2⟩:=hh.tok id t sz n e1;exact⟨v,(pre q).symm.trans h1,h2⟩
 ·rcases ent e with rfl|⟨q,e1⟩
  ·trivial
  ·exact (hh.im id en e1).step hE (aS _) (pre q).symm fun b _ hb=>⟨rfl,fun _ ho=>ho⟩
 ·obtain⟨q1,a1⟩:=alv ai;obtain⟨q2,a2⟩:=alv aj;rw[←pre q1]at hi;rw[←pre q2]at hj;exact hh.inj i j b a1 a2 hi hj
def HN{args args':List AV}{K:AV→aa→Prop}(L d:Nat)(hL:L≤h.length)(hb:cJ P f=true)(c:aV P f args' r)(hl:gG (args.map (tl L h (d+1))) args')(k:K r (xz L h)):bA P (.fn (.func f) [] []) args h K:=by
 refine⟨hb, ?_⟩;simp only[List.nil_append,aal];obtain⟨pa,pr,c⟩:=c;intro base ι S w vs h1 h2;obtain⟨hE0,hh0⟩:=h2.told hL;have hr:aD (ι.take L) (eU L ι S h) w args' vs:=by
  refine aD.pP hl vs ?_;have:=aD.dt (L:=L) (f:=tl L h d) h2 (ax.tl h2 d) args vs h1
  rwa [mW]at this
 refine (c w.heap.size [] (eU L ι S h) w vs (aD.pure _ _ pa hr) (cy.nil _ w hh0.fV hh0.gl)).mono ?_;rintro e w' ⟨v,ι',S',r',h',e1,e2,e3,e4,_,rfl⟩;have hpad:cy base ι (eU L ι S h) w (xz L h):=by
  have:=cy.YX (ι:=ι) (by rw[h2.len];exact hL) hh0;rw[h2.len]at this;exact this
 have hE:bM ι.length w.heap.size ι (eU L ι S h) w ι S' w':=⟨fun _ _=>eW.refl _,e2.sub,e2.new,e2.cell,e2.vj,e2.mI⟩;have hF:bM h.length base ι S w ι (eU L ι S h) w:=⟨fun _ _=>eW.refl _,hE0.sub,hE0.new,fun _ _ _=>rfl,fun _ _ q=>q,Below.refl _ _⟩;exact⟨v,ι,S',r',xz L h,e1,hF.trans (hE.mono (by rw[h2.len];exact aS _) h2.ji),ax.pure r' v pr e3,hpad.over hE e4.fV,by rw[Gi hL];exact aS _,k⟩
end
end Go.Aw
section
namespace Go.bE
open Go Go.Aw
def y5(k:Int):Bool:=!(jQ k||decide (k=13)||decide (k=14))
def kQ(d:Nat)(has:Bool)(k:Int):Bool:=!(decide (d=3)||has&&decide (k=14))
def ek{α:Type}(p:α→Bool):List α→Nat→Int
 | [],_=>-1
 | x:: l,k=>if p x then (k:Int) else ek p l (k+1)
theorem uq{α:Type}(p:α→Bool):∀(l:List α) (k:Nat),decide (0≤ek p l k)=l.any p
 | [],k=>by simp[ek]
 | x:: l,k=>by
   rw[ek,List.any_cons,←uq p l (k+1)];cases p x<;>simp
def xx{α:Type}(p:α→Bool){l:List α}{k:Nat}{x:α}(h:l[k]?=some x):ek p (l.drop k) k=if p x then (k:Int) else ek p (l.drop (k+1)) (k+1):=by
 have hk:=(dO.1 h);rw[aaK hk.1,ek,hk.2]
end Go.bE
namespace Go.Proofs.YtkfakehconamoaaGreatDoor
open Go Go.Aw Go.bE
variable [Laid]
def BH(k:Int)(n:ao)(o:Int)(v:ao)(f:Bool)(a b:Int)(w:Bool)(rows:List (List AV))(pr:aX rows):aV p_ 213 [.agg [u1 k,.str n,u1 o,.str v,b_ f,i_ a,i_ b,b_ w,.sl 3 rows]] (.aw [b_ (my k w),b_ (y5 k)]):=by
 refine (X8 _).aQ (by simp[pr]) (by simp) ?_;unfold RA;repeat' (first|(with_reducible apply aK)|(with_reducible apply ar)|((with_reducible apply bK);rfl;rfl)|((with_reducible apply aF);rfl;first|rfl|assumption)|((with_reducible apply aR);rfl)|((with_reducible apply aE);rfl;rfl;rfl)|((with_reducible apply gi);first|rfl|simp)|((with_reducible apply aW);rfl)|(with_reducible intro _))
 all_goals refine .pure (by simp) ?_
 all_goals simp_all [my,y5,jQ]
 all_goals grind
def yN(d:Nat)(has:Bool)(k:Int)(hd:d≤3):aV p_ 211 [.agg [i_ d,b_ has],u1 k] (.aw [.agg (if kQ d has k then [i_ (d+1),b_ (has||decide (k=14))] else [i_ 0,ff]),b_ (kQ d has k)]):=by
 refine (X6 _ _).aQ (by simp) (by split<;>simp) ?_;unfold Ry;have hin:aZ ((d:Int)+1):=by unfold aZ;omega
 repeat' (first|(with_reducible apply aK)|(with_reducible apply ar)|((with_reducible apply bK);rfl;rfl)|((with_reducible apply bQ);rfl;rfl;first|assumption|(unfold aZ;omega))|((with_reducible apply bu);rfl)|((with_reducible apply bt);rfl)|((with_reducible apply aF);rfl;first|rfl|assumption)|((with_reducible apply az);rfl;first|rfl|assumption)|((with_reducible apply cd);rfl;first|rfl|assumption)|((with_reducible apply bV);rfl;first|rfl|assumption)|((with_reducible apply cX);rfl)|((with_reducible apply aR);rfl)|((with_reducible apply aE);rfl;rfl;rfl)|((with_reducible apply cK);rfl;rfl;first|exact aS _|exact nE rfl)|((with_reducible apply gi);first|rfl|simp)|((with_reducible apply gd);rfl;rfl;rfl;rfl;(first|exact aS _|simp);(first|rfl|simp);(first|rfl|simp))|((with_reducible apply bp);rfl)|((with_reducible apply aW);rfl)|((with_reducible apply eG);rfl)|(with_reducible intro _))
 all_goals refine .pure (by simp) ?_
 all_goals simp_all [kQ,bU]
 all_goals grind
def Hy(xs:List Cx)(f:FuncId)(caps:List AV)(p:Cx→Bool)(pc:aq caps)(hb:cJ p_ f=true)(hf:∀x∈xs,aV p_ f ([.agg (fL x)]++caps) (b_ (p x))):
 aV p_ 168 [.sl 3 (eR xs),.fn (.func f) [] caps] (i_ (ek p xs 0)):=by
 refine (XL _ _).aQ (by simp[nv,pc]) (by simp) ?_;unfold Ra;refine zzg (n:=xs.length) (by simp[ga]) fun hm=>?_;refine aG (α:=Nat) (fun k=>k≤xs.length∧ek p xs 0=ek p (xs.drop k) k) (fun k=>[i_ k]) (fun _=>[]) (fun k=>xs.length-k) 0 (by simp) (Wk.refl _ _ _ (by simp)) ?_;rintro k ⟨hk,hI⟩;rcases AS k xs.length with q|q
 ·obtain⟨x,hx⟩:∃x,xs[k]?=some x:=⟨xs[k],bY q⟩;have hin:aZ ((k:Int)+1):=by unfold maxLen at hm;unfold aZ;omega
  rw[xx p hx]at hI;refine zzC (zzL (by simpa using q) (zzc (ga xs) rfl hx (zzY (by simp[iM]) ?_)));refine⟨hb, ?_⟩;refine (hf x (eQ hx)).call ?_;cases hp:p x
  ·refine zzK rfl (zzP hin (ar ?_));refine⟨k+1,⟨q,by rw[hI,hp];rfl⟩,Wk.refl _ _ _ (by simp),by omega⟩
  ·refine zzL rfl ?_;exact .pure (by simp) (by rw[hI,hp];rfl)
 ·refine zzC (zzK (by simpa using q) ?_);exact .pure (by simp) (by rw[hI,List.drop_eq_nil_of_le q];rfl)
def u3(xs:List Cx)(f:FuncId)(caps:List AV)(p:Cx→Bool)(pc:aq caps)(hb:cJ p_ f=true)(hf:∀x∈xs,aV p_ f ([.agg (fL x)]++caps) (b_ (p x))):
 aV p_ 114 [.sl 3 (eR xs),.fn (.func f) [] caps] (b_ (xs.any p)):=by
 refine (Xd _ _).aQ (by simp[nv,pc]) (by simp) ?_;unfold QC;refine uCon (Hy xs f caps p pc hb hf) (zzF ?_);rw[uq];exact .pure (by simp) rfl
def Hx(xs:List Cp)(f:FuncId)(caps:List AV)(p:Cp→Bool)(pc:aq caps)(hb:cJ p_ f=true)(hf:∀x∈xs,aV p_ f ([.agg (fD x)]++caps) (b_ (p x))):
 aV p_ 223 [.sl 2 (jk xs),.fn (.func f) [] caps] (i_ (ek p xs 0)):=by
 refine (Yf _ _).aQ (by simp[rm,pc]) (by simp) ?_;unfold RI;refine zzg (n:=xs.length) (by simp[kL]) fun hm=>?_;refine aG (α:=Nat) (fun k=>k≤xs.length∧ek p xs 0=ek p (xs.drop k) k) (fun k=>[i_ k]) (fun _=>[]) (fun k=>xs.length-k) 0 (by simp) (Wk.refl _ _ _ (by simp)) ?_;rintro k ⟨hk,hI⟩;rcases AS k xs.length with q|q
 ·obtain⟨x,hx⟩:∃x,xs[k]?=some x:=⟨xs[k],bY q⟩;have hin:aZ ((k:Int)+1):=by unfold maxLen at hm;unfold aZ;omega
  rw[xx p hx]at hI;refine zzC (zzL (by simpa using q) (zzc (kL xs) rfl hx (zzY (by simp[kX]) ?_)));refine⟨hb, ?_⟩;refine (hf x (eQ hx)).call ?_;cases hp:p x
  ·refine zzK rfl (zzP hin (ar ?_));refine⟨k+1,⟨q,by rw[hI,hp];rfl⟩,Wk.refl _ _ _ (by simp),by omega⟩
  ·refine zzL rfl ?_;exact .pure (by simp) (by rw[hI,hp];rfl)
 ·refine zzC (zzK (by simpa using q) ?_);exact .pure (by simp) (by rw[hI,List.drop_eq_nil_of_le q];rfl)
def Cq(xs:List Cp)(f:FuncId)(caps:List AV)(p:Cp→Bool)(pc:aq caps)(hb:cJ p_ f=true)(hf:∀x∈xs,aV p_ f ([.agg (fD x)]++caps) (b_ (p x))):
 aV p_ 169 [.sl 2 (jk xs),.fn (.func f) [] caps] (b_ (xs.any p)):=by
 refine (XM _ _).aQ (by simp[rm,pc]) (by simp) ?_;unfold Rb;refine uCon (Hx xs f caps p pc hb hf) (zzF ?_);rw[uq];exact .pure (by simp) rfl
end Go.Proofs.YtkfakehconamoaaGreatDoor
end
section
namespace Go.bE
open Go Go.Aw
theorem Bv:∀{l:List Cp},p∈l→zP p≤lZ l
 | x:: l,h=>by
   rcases IS.1 h with rfl|h
   ·rw[lZ];omega
   ·rw[lZ];have:=Bv h;omega
theorem Bx:∀{l:List Sm},p∈l→zS p≤nU l
 | x:: l,h=>by
   rcases IS.1 h with rfl|h
   ·rw[nU];omega
   ·rw[nU];have:=Bx h;omega
theorem xo:∀{l:List Cx},p∈l→zX p≤ft l
 | x:: l,h=>by
   rcases IS.1 h with rfl|h
   ·rw[ft];omega
   ·rw[ft];have:=xo h;omega
def K4(x:Cx):0<zX x:=by cases x;rw[zX];omega
def KY(x:Cp):0<zP x:=by cases x;rw[zP];omega
def KZ(x:Sm):0<zS x:=by cases x;rw[zS];omega
theorem G6:∀l:List Cp,l.length≤lZ l
 | []=>by simp
 | x:: l=>by rw[lZ];have:=G6 l;have:=KY x;simp;omega
theorem Bw:∀l:List Sm,l.length≤nU l
 | []=>by simp
 | x:: l=>by rw[nU];have:=Bw l;have:=KZ x;simp;omega
theorem G7:∀l:List Cx,l.length≤ft l
 | []=>by simp
 | x:: l=>by rw[ft];have:=G7 l;have:=K4 x;simp;omega
end Go.bE
namespace Go.Proofs.YtkfakehconamoaaGreatDoor
open Go Go.Aw Go.bE
variable [Laid]
def Iq(n:Nat):Prop:=∀x:Cx,zX x≤n→∀(d:Nat) (has rel:Bool),d≤3→aV p_ 116 [.agg (fL x),.agg [i_ d,b_ has],b_ rel] (b_ (lF d has rel x))
def Nh(n:Nat):Prop:=∀p:Cp,zP p≤n→∀(d:Nat) (has:Bool),d≤3→aV p_ 104 [.agg (fD p),.agg [i_ d,b_ has]] (b_ (fi d has p))
def Qh(n:Nat):Prop:=∀s:Sm,zS s≤n→∀(d:Nat) (has:Bool),d≤3→aV p_ 156 [.agg (dv s),.agg [i_ d,b_ has]] (b_ (nq d has s))
def HE(hP:Nh n)(p:Cp)(hz:zP p≤n)(d:Nat)(has:Bool)(hd:d≤3):aV p_ 170 [.agg (fD p),.ip [i_ d,b_ has]] (b_ (!fi d has p)):=by
 refine (XN _ _).aQ (by simp[uG]) (by simp) ?_;unfold Rc;refine gi (by rw[kX];rfl) (zzV rfl (by simp[kX]) (zzY rfl (wv (by simp[kX]) (by kernel_rfl) (hP p hz d has hd) (zzO ?_))));exact .pure (by simp) rfl
omit [Laid] in
def PJ(d:Nat)(has rel:Bool)(l:Int)(ps:List Cp)(cs:List Int)(h:¬((rel == !decide (l=0))=true∧l≤4∧cs.length+1=ps.length∧ps.length≤64)):lF d has rel (.mk l ps cs)=false:=by
 rw[lF];grind
def Ls(hn:n<2^60)(hP:Nh n):Iq (n+1):=by
 rintro⟨l,ps,cs⟩ hz d has rel hd;rw[zX]at hz;refine (Xf _ _ _).aQ (by simp[zx]) (by simp) ?_;unfold QE;rw[fL];have hc:aZ (((cs.map fun c=>[u1 c]).length:Int)+1):=by rw[aac];unfold aZ;omega
 have hlen:(jk ps).length=ps.length:=by simp[kL]
 repeat' (first|(with_reducible apply aK)|(with_reducible apply ar)|((with_reducible first|apply cS|apply cz);rfl;rfl)|((with_reducible apply R8);rfl;rfl)|((with_reducible apply bQ);rfl;rfl;first|assumption|(unfold aZ;omega))|((with_reducible apply bu);rfl)|((with_reducible apply bt);rfl)|((with_reducible apply aF);rfl;first|rfl|assumption)|((with_reducible apply bV);rfl;first|rfl|assumption)|((with_reducible apply jL);rfl)|((with_reducible apply aR);rfl)|((with_reducible apply aE);rfl;rfl;rfl)|((with_reducible apply gi);first|rfl|simp)|((with_reducible apply cr);rfl;(first|rfl|simp);intro _)|((with_reducible apply aW);rfl)|((with_reducible apply eG);rfl)|(with_reducible intro _))
 rotate_left
 -- the combinators,one by one
 ·rename_i a1 a2 a3 a4 a5 a6 a7 a8;have b1:(rel == !decide (l=0))=true:=by simpa using a1
  have b2:l≤4:=by simpa using a2
  have b3:cs.length+1=ps.length:=by rw[hlen]at a5;simp at a5;omega
  have b4:ps.length≤64:=by rw[hlen]at a7;simp at a7;omega
  refine aG (α:=Nat) (fun k=>k≤cs.length∧(cs.take k).all (fun c=>decide (1≤c∧c≤4))=true) (fun k=>[i_ k]) (fun _=>[.ak ⟨118,[u1 l,.sl 2 (jk ps),.sl 1 (cs.map fun c=>[u1 c])],true⟩,.ak ⟨93,[i_ d,b_ has],true⟩]) (fun k=>cs.length-k) 0 (by simp) (Wk.refl _ _ _ (by simp)) ?_;rintro k ⟨hk,hI⟩;rcases AS k cs.length with q|q
  ·obtain⟨c,hx⟩:∃c,cs[k]?=some c:=⟨cs[k],bY q⟩;have hin:aZ ((k:Int)+1):=by unfold aZ;omega
   have nxt:(cs.take (k+1)).all (fun c=>decide (1≤c∧c≤4))=decide (1≤c∧c≤4):=by
    rw[DO,hx,List.all_append,hI];simp
   have bad:¬(1≤c∧c≤4)→lF d has rel (.mk l ps cs)=false:=by
    intro hb;rw[lF];have:cs.all (fun c=>decide (1≤c∧c≤4))=false:=by
     rw[List.all_eq_false];exact⟨c,eQ hx,by simpa using hb⟩
    rw[this];simp
   refine zzC (zzL (by simpa using q) (zzc rfl rfl hx ?_));repeat' (first|(with_reducible apply aK)|(with_reducible apply ar)|((with_reducible first|apply bZ|apply cS);rfl;rfl)|((with_reducible apply bQ);rfl;rfl;first|assumption|(unfold aZ;omega))|((with_reducible apply bu);rfl)|((with_reducible apply bt);rfl)|((with_reducible apply aF);rfl;first|rfl|assumption)|((with_reducible apply cv);rfl)|((with_reducible apply aW);rfl)|((with_reducible apply eG);rfl)|(with_reducible intro _))
   all_goals first
    | exact .pure (by simp) (by rw[bad (by simp_all;try omega)])
    | exact⟨k+1,⟨q,by rw[nxt];simp_all;try omega⟩,Wk.refl _ _ _ (by simp),by omega⟩
  ·have hk:k=cs.length:=by omega
   subst hk;rw[Gt]at hI;refine zzC (zzK (by simp) (zzA (zzU rfl rfl (qR (by kernel_rfl) (Cq ps 170 [.ip [i_ d,b_ has]] (fun p=>!fi d has p) (by simp[aq,Aw.Pure]) (by kernel_rfl) (fun p hp=>HE hP p (by have:=Bv hp;omega) d has hd)) (by simp only[IF,List.map_nil,iz];exact⟨by rw[Bo _ _ _ _ (by simp[rm])];exact Le.refl _,by simp[tl,dt,lH],trivial⟩) (by simp) (zzO (.pure (by simp) ?_))))));rw[lF,Er,hI,b1];simp[b2,b3,b4,List.any_eq_not_all_not]
 all_goals refine .pure (by simp) ?_
 all_goals rw[PJ _ _ _ _ _ _ (by rw[aac,hlen]at *;grind)]
end Go.Proofs.YtkfakehconamoaaGreatDoor
end
section
namespace Go.Qt
open Go Go.Aw Go.bE
def rj(L:List (List Bool))(j:Nat):Bool:=L.any fun r=>r.getD j false
def Cc(t:bg)(L:List (List Bool)):List Bool:=jM t fun i=>rj L i.toNat
section
variable (t:bg) (M:Sm→Int→Bool) (P:Int→Int→List Int)
mutual
def mX:Cx→List Bool
 | .mk _ ps cs=>iq t P cs (nQ ps) cs.length
def nQ:List Cp→List (List Bool)
 | []=>[]
 | p:: l=>mP p:: nQ l
def mP:Cp→List Bool
 | .mk g ss=>jM t (vD t M (oq (vT ss)) (.mk g ss))
def vT:List Sm→List (List Bool)
 | []=>[]
 | s:: l=>mS s:: vT l
def mS:Sm→List Bool
 | .mk k _ _ _ _ _ _ _ l=>if k=11∨k=12 then Cc t (mU l) else if k=13 then (Cc t (mU l)).map not else []
def mU:List Cx→List (List Bool)
 | []=>[]
 | x:: l=>mX x:: mU l
end
def mL(l:List Cx):List Bool:=Cc t (mU t M P l)
theorem mT:∀l,nQ t M P l=l.map (mP t M P)
 | []=>by simp[nQ]
 | p:: l=>by simp[nQ,mT l]
theorem w6:∀l,vT t M P l=l.map (mS t M P)
 | []=>by simp[vT]
 | p:: l=>by simp[vT,w6 l]
theorem w7:∀l,mU t M P l=l.map (mX t M P)
 | []=>by simp[mU]
 | p:: l=>by simp[mU,w7 l]
end
def lS(o f:Nat→Bool)(n i:Nat):List AV:=(List.range n).map fun j=>b_ (if j<i then f j else o j)
theorem w8(o f:Nat→Bool)(n i:Nat):(lS o f n i).length=n:=by simp[lS]
theorem JJ(o f:Nat→Bool){n i:Nat}(h:i<n):(lS o f n i)[i]?=some (b_ (o i)):=by simp[lS,aah h]
theorem GD(o f:Nat→Bool){n i:Nat}(h:i<n):(lS o f n i).set i (b_ (f i))=lS o f n (i+1):=by
 apply List.ext_getElem?;intro j;rw[List.getElem?_set,w8]
 by_cases hj:j<n
 ·by_cases e:i=j
  ·subst e;rw[if_pos rfl,if_pos h];simp[lS,aah h]
  ·rw[if_neg e];simp only[lS,iS,aah hj,aaR]
   by_cases q:j<i
   ·rw[if_pos q,if_pos (by omega)]
   ·rw[if_neg q,if_neg (by omega)]
 ·have h1:∀i,(lS o f n i)[j]?=none:=fun i=>lE (by rw[w8];omega);rw[h1,h1,if_neg (by omega)]
theorem CW(o f:Nat→Bool)(n:Nat):lS o f n 0=(List.range n).map fun j=>b_ (o j):=by simp[lS]
theorem ND(o f:Nat→Bool)(n:Nat):lS o f n n=(List.range n).map fun j=>b_ (f j):=by
 unfold lS;apply List.map_congr_left;intro j hj;rw[if_pos (ID.1 hj)]
theorem yF(t:bg)(f:Int→Bool):(jM t f).map (fun b=>b_ b)=(List.range t.length).map fun (j:Nat)=>b_ (f (j:Int)):=by simp[jM]
theorem ME{L:List (List Bool)}{k:Nat}{r:List Bool}(h:L[k]?=some r)(j:Nat):rj (L.take (k+1)) j=(rj (L.take k) j||r.getD j false):=by
 unfold rj;rw[DO,h,List.any_append];simp
end Go.Qt
namespace Go.Proofs.YtkfakehconamoaaGreatDoor
open Go Go.Aw Go.Qt Go.RowKit
open Go.bE hiding u1 ao
def nY(t:bg):AV:=.agg [.sl 4 (t.map Qt.bx),i_ (-1)]
theorem Ie(t:bg):Aw.Pure (nY t):=by
 have:=dh t;unfold cV at this;unfold nY;simp only[Aw.Pure,aq,and_true]at this ⊢;exact this
abbrev eB(t:bg):aY:=.ak ⟨102,[.sl 4 (t.map Qt.bx),i_ (-1)],true⟩
abbrev xB(x:Cx):aY:=.ak ⟨118,fL x,true⟩
theorem mq(x:Cx):(fL x).length=3:=by rw[iM];rfl
theorem BQ(x:Cx):(fL x).all bw=true:=by rw[iM];rfl
theorem zM{t:bg}{H:aa}{n:Nat}{h':aa}{K:AV→aa→Prop}(hn:H.length=n)(hh:H++[eB t]=h')(k:K (.op n 0) h'):aB 102 (nY t) H K:=bq rfl rfl hn hh k
theorem Ua{x:Cx}{H:aa}{n:Nat}{h':aa}{K:AV→aa→Prop}(hn:H.length=n)(hh:H++[xB x]=h')(k:K (.op n 0) h'):aB 118 (.agg (fL x)) H K:=bq rfl (BQ x) hn hh k
theorem zJ{t:bg}{H:aa}{id:Nat}{K:AV→Prop}(hb:H[id]?=some (eB t))(k:K (nY t)):ae true 2 (.op id 0) H K:=cK rfl hb (aS 2) k
theorem KM{t:bg}{H:aa}{id:Nat}{K:AV→Prop}(hb:H[id]?=some (eB t))(k:K (cV t)):aN 0 (.op id 0) fun a=>ae true 1 a H K:=aR rfl (zzV hb (show 1≤2 by decide) k)
theorem T6{t:bg}{H:aa}{id:Nat}{K:AV→Prop}(hb:H[id]?=some (eB t))(k:K (i_ (-1))):aN 1 (.op id 0) fun a=>ae false 1 a H K:=aR rfl (zzU hb rfl k)
theorem Vd{x:Cx}{H:aa}{id:Nat}{K:AV→Prop}(hb:H[id]?=some (xB x))(k:K (.agg (fL x))):ae true 3 (.op id 0) H K:=
 zzV hb (by rw[List.drop_zero,mq];exact aS 3) (by rw[List.drop_zero,Of (by rw[mq];exact aS 3)];exact k)
theorem T8{x:Cx}{H:aa}{id:Nat}{K:AV→Prop}(hb:H[id]?=some (xB x))(k:K (.sl 2 (x.parts.map fD))):aN 1 (.op id 0) fun a=>ae false 1 a H K:=aR rfl (zzU hb (by rw[iM];rfl) k)
theorem T9{x:Cx}{H:aa}{id:Nat}{K:AV→Prop}(hb:H[id]?=some (xB x))(k:K (.sl 1 (DM x.rO))):aN 2 (.op id 0) fun a=>ae false 1 a H K:=aR rfl (zzU hb (by rw[iM];rfl) k)
theorem Uc{s:Cx}{H:aa}{x:AV}{l:List Cx}{k:Nat}(e:x=.sl 3 (l.map fL))(hk:l[k]?=some s){K:AV→aa→Prop}(q:K (.op H.length 0) (H++[xB s])):
 au 3 x (i_ (k:Int)) fun a=>ae true 3 a H fun b=>aB 118 (.agg [(.v (.int .u8 0)),(.v (.slice none 0 0)),(.v (.slice none 0 0))]) H fun v g=>ah 3 v b g fun g' => K v g':=by
 refine cO (l:=l) (f:=fL) e rfl rfl hk (jb rfl (by rw[mq];exact aS 3) ?_);rw[Of (by rw[mq];exact aS 3)];refine bq rfl rfl rfl rfl ?_;exact aM (b:=⟨118,[(.v (.int .u8 0)),(.v (.slice none 0 0)),(.v (.slice none 0 0))],true⟩) (cs:=fL s) (h':=H++[xB s]) rfl (by simp) rfl rfl (by rw[mq];exact aS 3) (mq s) (BQ s) (by rw[fY (by rw[mq];rfl)];simp) q
theorem Ub{s:Cp}{H:aa}{x:AV}{l:List Cp}{k:Nat}(e:x=.sl 2 (l.map fD))(hk:l[k]?=some s){K:AV→aa→Prop}(q:K (.op H.length 0) (H++[pB s])):
 au 2 x (i_ (k:Int)) fun a=>ae true 2 a H fun b=>aB 121 (.agg [(.str []),(.v (.slice none 0 0))]) H fun v g=>ah 2 v b g fun g' => K v g':=by
 refine cO (l:=l) (f:=fD) e rfl rfl hk (jb rfl (by rw[ml];exact aS 2) ?_);rw[Of (by rw[ml];exact aS 2)];refine bq rfl rfl rfl rfl ?_;exact aM (b:=⟨121,[(.str []),(.v (.slice none 0 0))],true⟩) (cs:=fD s) (h':=H++[pB s]) rfl (by simp) rfl rfl (by rw[ml];exact aS 2) (ml s) (BO s) (by rw[fY (by rw[ml];rfl)];simp) q
theorem JI(v:AV)(hv:bl v=[v]):∀n,eZ n (bl v)=List.replicate n v
 | 0=>rfl
 | n+1=>by rw[List.replicate_succ,←JI v hv n,eZ,hv];rfl
theorem KQ{e n b:Nat}{v:AV}{H:aa}{K:AV→aa→Prop}(hv:bl v=[v])(hn:n≤2^30)(hb:b≤1000)(k:K (.own H.length 0 n 1) (H++[.ak ⟨e,List.replicate n v,true⟩])):jO e 1 b v (i_ (n:Int)) (i_ (n:Int)) H K:=by
 rw[wR];refine⟨⟨by omega,Int.le_refl _, ?_,by omega⟩, ?_⟩
 ·have:b*n≤1000*2^30:=Nat.mul_le_mul hb hn;have:((b*n:Nat):Int)=(b:Int)*(n:Int):=Int.natCast_mul _ _;omega
 ·rw[NO,JI v hv];exact k
variable [Laid]
theorem SL{t:bg}(hl:t.length≤64){H:aa}{K:AV→aa→Prop}(k:K (.own (H.length+1) 0 t.length 1) (H++[eB t,.ak ⟨4,List.replicate t.length ff,true⟩])):bA p_ (.fn (.func 71) [] []) [nY t] H K:=by
 refine⟨by kernel_rfl, ?_⟩;refine (V71 _).bR ?_;unfold Wh;refine zM rfl rfl ?_;refine zzA (zzA (zzU (b:=⟨102,[.sl 4 (t.map Qt.bx),i_ (-1)],true⟩) (by simp) rfl ?_));refine zzg (n:=t.length) (by simp) fun _=>?_;refine KQ rfl (by omega) (by decide) ?_;rw[TO];refine⟨_,_,Wk.refl _ _ _ (by simp), ?_⟩;simpa using k
end Go.Proofs.YtkfakehconamoaaGreatDoor
end
end
