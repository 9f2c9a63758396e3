/-
 Statements that run in order,jumps back to a label among them.
 No conditions.
-/
import Derived.Test.YtpcnidmmkknndaaGreatDoorProg
import Derived.KernelRfl
import Derived.Shelf.LaysM
import Derived.Shelf.Strings.Search3
import Derived.Shelf.Strings.Shaped
import Derived.Lib.IndexLaws
import Derived.Tactics
import Derived.Tactics2
import Derived.Defers
import Derived.Laws.Pointers
import Derived.RegionTactic
import Derived.RegionCalls
import Derived.ChangeAlike
import Derived.WalkKit
import Derived.Laws.Externs
import Derived.Test.YtpcnidmmkknndaaGreatDoorZc
import Derived.Test.YtpcnidmmkknndaaGreatDoorZd
set_option linter.unusedVariables false
set_option linter.unusedSimpArgs false
set_option linter.unusedSectionVars false
set_option linter.defProp false
set_option autoImplicit true
set_option maxRecDepth 1000000
set_option maxHeartbeats 16000000
open Go.Proofs.Tryz renaming prog→p_
noncomputable section
namespace Go.Aw
section
open Go Go.RowKit
variable [Laid]
/-! ### Jumps back to a label -/
def DD(l:Nat)(J:St→Prop)(Q:Exit→St→Prop):Exit→St→Prop
 | .goto l',st=>cF (Nat.beq l' l) (J st)
 | e,st=>Q e st
def EO(h:aa)(first:(List AV→aa→Prop)→Prop)(body:(List AV→aa→Prop)→List AV→aa→Prop):Prop:=
 ∃(α:Type) (I:α→Prop) (f:α→List AV) (g:α→aa) (μ:α→Nat),first (fun s' h' => ∃y,I y∧Wk h.length s' h' (f y) (g y)) ∧
  ∀x,I x→body (fun s' h' => ∃y,I y∧Wk h.length s' h' (f y) (g y)∧μ y<μ x) (f x) (g x)
def Ht{α:Type}(I:α→Prop)(f:α→List AV)(g:α→aa)(μ:α→Nat){first:(List AV→aa→Prop)→Prop}{body:(List AV→aa→Prop)→List AV→aa→Prop}(h0:first (fun s' h' => ∃y,I y∧Wk h.length s' h' (f y) (g y)))
 (step:∀x,I x→body (fun s' h' => ∃y,I y∧Wk h.length s' h' (f y) (g y)∧μ y<μ x) (f x) (g x)):EO h first body:=⟨α,I,f,g,μ,h0,step⟩
def me(P:Program):Nat→Code→An→(Exit→St→Prop)→St→Prop
 | 0,_,_,_,_=>False
 | n+1,c,t,Q,st=>match c with
   | .skip=>Q .normal st
   | .ret=>Q .ret st
   | .exit id=>Q (.exit id) st
   | .label _=>Q .normal st
   | .goto l=>Q (.goto l) st
   | .seq a b=>(match t with
     | .join cs ms _ _=>aG (fun J=>me P n a t.l (iL (fun st' => cF (Nat.beq st'.n st.n) (jmp cs ms st.fr st'.fr st'.h J)) Q) st) fun s h=>me P n b t.r Q ⟨st.n,join cs ms st.fr s,h⟩
     | _=>me P n a t.l (iL (fun st=>me P n b t.r Q st) Q) st)
   | .block id c=>me P n c t.l (Af id Q) st
   | .cond c a b=>(match c with
     | .tmp x=>af (bB st.fr x) (me P n a t.l Q ⟨st.n,eY st.fr x (.v (.bool true)),st.h⟩) (me P n b t.r Q ⟨st.n,eY st.fr x (.v (.bool false)),st.h⟩)
     | c=>af (aE st.fr c) (me P n a t.l Q st) (me P n b t.r Q st))
   | .region id ops draw=>(match draw with
     | false=>mS P (.region id ops false) t Q st
     | true=>(match t with
       | .two (.draw _ l _ _) (.jX s)=>G9 P ops l s Q st
       | .two (.jX s) .nil=>G7 P ops s Q st
       | _=>mS P (.region id ops true) t Q st))
   | .loop c=>(match t with
     | .loop cs ms a=>bN (ek st.fr ms) st.h fun next s h=>me P n c a (iL (fun st' => cF (Nat.beq st'.n st.n) (jmp cs ms st.fr st'.fr st'.h next)) Q) ⟨st.n,join cs ms st.fr s,h⟩
     | _=>False)
   | .scope c=>(match t.l.j,t.r.j with
     | some ([l],_),some (cs,ms)=>(match findLabel c l with
       | some rest=>EO st.h (fun N=>me P n c t.r.l (DD l (fun st' => cF (Nat.beq st'.n st.n) (jmp cs ms st.fr st'.fr st'.h N)) Q) st)
        fun N s h=>me P n rest t.r.r (DD l (fun st' => cF (Nat.beq st'.n st.n) (jmp cs ms st.fr st'.fr st'.h N)) Q) ⟨st.n,join cs ms st.fr s,h⟩
       | none=>False)
     | _,_=>False)
   | _=>False
theorem PJ{P:Program}{Q:Exit→St→Prop}{c rest:Code}{st:St}{cs ms:List Nat}(hm:m≤st.h.length)(hl:findLabel c l=some rest)(first:(List AV→aa→Prop)→Prop)(body:(List AV→aa→Prop)→List AV→aa→Prop)
 (hf:∀next,first next→AW P st.h.length c (DD l (fun st' => cF (Nat.beq st'.n st.n) (jmp cs ms st.fr st'.fr st'.h next)) Q) st)
 (hb:∀next s h,st.h.length≤h.length→body next s h→AW P st.h.length rest (DD l (fun st' => cF (Nat.beq st'.n st.n) (jmp cs ms st.fr st'.fr st'.h next)) Q) ⟨st.n,join cs ms st.fr s,h⟩)
 (hs:EO st.h first body):AW P m (.scope c) Q st:=by
 obtain⟨α,I,f,g,μ,h0,round⟩:=hs;intro base ι S a w _ hr
 let Inv:α→Act→World→Prop:=fun x a' w' => I x∧∃ι' S',bS st.h.length base ι S w ι' S' w'∧st.h.length≤(g x).length∧bZ base ι' S' a' w' ⟨st.n,join cs ms st.fr (f x),g x⟩∧dH ι' S' w' (kb cs st.fr) a'.tmps
 have enter:∀{x:α} {a':Act} {w':World} {ι1:List Ix} {S1:aY} {s:List AV} {h':aa},bS st.h.length base ι S w ι1 S1 w'→a'.defers=[]→a'.tmps.size=st.n→cK base ι1 S1 w' h'→dH ι1 S1 w' (kb cs st.fr) a'.tmps→aB ι1 S1 w' s (ms.map fun t=>a'.tmps.getD t undef) →
  I x→Wk st.h.length s h' (f x) (g x)→Inv x a' w':=by
  intro x a' w' ι1 S1 s h' hE hdf hsz hp hc hs hI hw;obtain⟨hw1,hw2,hw3⟩:=hw;obtain⟨ι2,S2,hE2,hs2,hp2⟩:=hw3 base ι1 S1 w' _ hs hp;have hc2:dH ι2 S2 w' (kb cs st.fr) a'.tmps:=by
   intro t;have hbd:Bd st.h.length (bB (kb cs st.fr) t):=by
    rcases nG cs st.fr t with q|⟨_,q⟩
    ·rw[q];simp[Bd]
    ·rw[q];exact ar.bd (by rw[hr.hp.len];exact bY _) _ _ (hr.fr t)
   exact ar.ie hE2 _ _ hbd (hc t)
  exact⟨hI,ι2,S2,hE.trans hE2,hw1,⟨hdf,hsz,dH.mZ ms _ _ 0 hc2 fun i t e=>by rw[aa4];exact hs2.nx (by rw[iN,e];rfl),hp2⟩,hc2⟩
 refine Dy l (fun k a' w' => ∃x,μ x=k∧Inv x a' w') hl ?_ ?_
 ·refine wp_mono (hf _ h0 base ι S a w (bY _) hr) ?_;intro e a'' w'' k;obtain⟨ι'',S'',st'',h1,h2,h3,h4⟩:=k;have out:Q e st''→dz m base ι S w Q e a'' w'':=fun q=>⟨ι'',S'',st'',h1.mono hm (bY _),aa7 hm h2,h3,q⟩;cases e with
  | goto l' =>
    obtain⟨hll,h4⟩:=aX h4;obtain⟨hn,q⟩:=aX h4;obtain⟨e1,y,hy,hw⟩:=rj q;have hn:st''.n=st.n:=lE hn;exact⟨lE hll,_,y,rfl,enter h1 h3.df (by rw[←hn];exact h3.sz) h3.hp (h3.fr.fF e1) (aB.sI h3.fr ms) hy hw⟩
  | normal=>exact out h4
  | exit id=>exact out h4
  | ret=>exact out h4
  | panic ch=>exact out h4
  | outgrown=>exact out h4
 ·rintro k a' w' ⟨x,rfl,hx,ι',S',hE,hm',hr',_⟩;refine wp_mono (hb _ _ _ hm' (round x hx) base ι' S' a' w' hm' hr') ?_;intro e a'' w'' k;obtain⟨ι'',S'',st'',h1,h2,h3,h4⟩:=k;have out:Q e st''→dz m base ι S w Q e a'' w'':=fun q=>⟨ι'',S'',st'',(hE.trans h1).mono hm (bY _),aa7 hm h2,h3,q⟩;cases e with
  | goto l' =>
    obtain⟨hll,h4⟩:=aX h4;obtain⟨hn,q⟩:=aX h4;obtain⟨e1,y,hy,hw,hlt⟩:=rj q;have hn:st''.n=st.n:=lE hn;exact⟨lE hll,_,hlt,y,rfl,enter (hE.trans h1) h3.df (by rw[←hn];exact h3.sz) h3.hp (h3.fr.fF e1) (aB.sI h3.fr ms) hy hw⟩
  | normal=>exact out h4
  | exit id=>exact out h4
  | ret=>exact out h4
  | panic ch=>exact out h4
  | outgrown=>exact out h4
theorem Di:∀(n:Nat) (c:Code) (t:An) (Q:Exit→St→Prop) (st:St) (m:Nat),m≤st.h.length→me P n c t Q st→AW P m c Q st
 | 0,_,_,_,_,_,_,h=>h.elim
 | n+1,c,t,Q,st,m,hm,h=>by
   have ih:=Di (P:=P) n;cases c with
   | skip=>exact GI h
   | ret=>exact JW h
   | exit id=>exact GF h
   | label l=>exact DY h
   | goto l=>exact GG h
   | seq a b =>
     simp only[me]at h;split at h
     ·rename_i cs ms a' b';refine zQ (AW.DG (ih a _ _ st m hm h) fun e st' hm' k=>?_);cases e with
      | normal =>
        obtain⟨hn,q⟩:=aX k;obtain⟨e1,k⟩:=rj q;have hn:st'.n=st.n:=lE hn;intro base ι S ac w _ hr;exact ih b _ Q ⟨st.n,join cs ms st.fr (ek st'.fr ms),st'.h⟩ m hm' k base ι S ac w hm' ⟨hr.df,by rw[←hn];exact hr.sz,hr.fr.join e1,hr.hp⟩
      | _=>exact k
     ·refine zQ (AW.DG (ih a _ _ st m hm h) fun e st' hm' k=>?_);cases e with
      | normal=>exact ih b _ Q _ m hm' k
      | _=>exact k
   | block id c=>exact DW (ih c t.l _ st m hm h)
   | cond c a b =>
     intro base ι S ac w hm' hr;simp only[me]at h;have other:∀{x:AV},ar ι S w x (ac.eval c)→af x (me P n a t.l Q st) (me P n b t.r Q st)→(Code.cond c a b).wp P (dz m base ι S w Q) ac w:=by
      rintro x rx ⟨b',rfl,h1,h2⟩;rw[cz]at rx;cases b' with
      | true=>exact wp_cond_true rx (ih a t.l Q st m hm (h1 rfl) base ι S ac w hm hr)
      | false=>exact wp_cond_false rx (ih b t.r Q st m hm (h2 rfl) base ι S ac w hm hr)
     split at h
     ·rename_i x;have rv:=hr.get x;obtain⟨b',e,h1,h2⟩:=h;rw[e]at rv;have he:ac.eval (.tmp x)=.bool b':=by rw[cz]at rv;exact rv
      cases b' with
      | true=>exact wp_cond_true he (ih a t.l Q ⟨st.n,eY st.fr x (.v (.bool true)),st.h⟩ m hm (h1 rfl) base ι S ac w hm ⟨hr.df,hr.sz,dH.Dd hr.fr rv,hr.hp⟩)
      | false=>exact wp_cond_false he (ih b t.r Q ⟨st.n,eY st.fr x (.v (.bool false)),st.h⟩ m hm (h2 rfl) base ι S ac w hm ⟨hr.df,hr.sz,dH.Dd hr.fr rv,hr.hp⟩)
     ·exact other (hr.eval _) h
   | region id ops draw =>
     cases draw with
     | false=>exact gf _ t Q st m hm h
     | true =>
       simp only[me]at h;split at h
       ·exact GC hm h
       ·exact GB hm h
       ·exact gf _ t Q st m hm h
   | loop c =>
     simp only[me]at h;split at h
     ·rename_i cs ms a;exact DX (cs:=cs) (ms:=ms) hm _ (fun next s h' hl k=>ih c a _ _ st.h.length hl k) h
     ·exact h.elim
   | scope c =>
     simp only[me]at h;split at h
     ·rename_i l x cs ms _ _;split at h
      ·rename_i rest hl;exact PJ (cs:=cs) (ms:=ms) hm hl _ _ (fun next k=>ih c _ _ _ st.h.length (bY _) k) (fun next s h' hle k=>ih rest _ _ _ st.h.length hle k) h
      ·exact h.elim
     ·exact h.elim
   | rangeFunc _ _ _ _=>exact h.elim
   | refuse _=>exact h.elim
theorem Bz.Tj{rs:List ResultVar}{F:Nat}(G:Bz P f c n rs)(t:An){args:List AV}{h:aa}{K:AV→aa→Prop}(hl:args.length≤n)
 (q:me P F c t (xA P rs fun r h' => ∃r' h'',Wk h.length [r] h' [r'] h''∧K r' h'') ⟨n,om args 0,h⟩):bW P f args h K:=by
 obtain⟨fn,hf,hb,hrs,hn,_⟩:=G;subst hrs;intro base ι S w vs h1 h2;have hlen:=h1.length;refine calls_of_wp hf hb (wp_mono (Di _ _ _ _ _ h.length (bY _) q base ι S _ w (bY _) ⟨rfl,by simp[hn];omega,GP h1 _,h2⟩) ?_);rintro e a' w' ⟨ι',S',st',hE,hm,hr,hq⟩;have fin:zD P st' fn.results.toList (fun l=>∃r' h'',Wk h.length [qo l] st'.h [r'] h''∧K r' h'')→a'.defers=[]∧∃v,(results fn a'.tmps).run P w'=.ok v w' ∧
  ∃u ι'' S'' r h',Ending.returned v=.returned u∧bS h.length base ι S w ι'' S'' w'∧ar ι'' S'' w' r u∧cK base ι'' S'' w' h'∧h.length≤h'.length∧K r h':=by
  intro hq;obtain⟨l,us,e1,rl,r',h'',⟨wk1,wk2,wk3⟩,k⟩:=pI (P:=P) hr fn.results.toList _ hq;have hv:ar ι' S' w' (qo l) (if hh:us.length=1 then us[0] else .tuple us.toArray):=by
   have hl:=rl.length
   match l,us,hl,rl with
   | [],[],_,_=>simp only[qo];rw[ar];exact⟨[],rfl,by simp⟩
   | [x],[u],_,rl=>simp at rl;simpa[qo]using rl
   | x:: y:: l,u:: v:: us,_,rl=>simp only[qo];rw[ar];exact⟨u:: v:: us,by simp,rl⟩
  obtain⟨ι2,S2,hE2,hs2,hp2⟩:=wk3 base ι' S' w' [_] ((bP _ _ _ _).2 ⟨hv,by simp⟩) hr.hp;refine⟨hr.df,if hh:us.length=1 then us[0] else .tuple us.toArray, ?_,_,ι2,S2,r',h'',rfl,hE.trans hE2,((bP _ _ _ _).1 hs2).1,hp2,wk1,k⟩;rw[Bn,←Array.toArray_toList (xs:=fn.results),List.mapM_toArray];simp only[abi,Sem.run_map,e1,abh,abj]
  by_cases hh:us.length=1<;>simp[hh]
 cases e with
 | normal=>exact fin hq
 | ret=>exact fin hq
 | _=>exact hq.elim
def fx(P:Program)(f:FuncId)(args:List AV)(W:aa→(AV→aa→Prop)→Prop):Prop:=
 ∃F c t n rs,Bz P f c n rs∧args.length≤n∧∀h K,me P F c t (xA P rs K) ⟨n,om args 0,h⟩=W h K
def mkM{args:List AV}{W:aa→(AV→aa→Prop)→Prop}{fn:Func}(e:P.funcs[f]?=some fn)(t:An)(n:Nat)(rs:List ResultVar)(q:(fn.results.toList,fn.ntmps,dw P f,fn.body.isSome,Nat.ble args.length n)=(rs,n,true,true,true):=by kernel_rfl)(k:∀h K,me P 1000 (fn.body.getD .skip) t (xA P rs K) ⟨n,om args 0,h⟩=W h K:=by intro _ _;kernel_rfl):fx P f args W:=by
 simp only[aaY]at q;refine⟨1000,fn.body.getD .skip,t,n,rs,⟨fn,e,?_,q.1,q.2.1,q.2.2.1⟩,lT q.2.2.2.2,k⟩;cases hb:fn.body with
 | none=>rw[hb]at q;cases q.2.2.2.1
 | some c=>rfl
def fx.bJ{args:List AV}{W:aa→(AV→aa→Prop)→Prop}(b:fx P f args W){K:AV→aa→Prop}(q:W h fun r h' => ∃r' h'',Wk h.length [r] h' [r'] h''∧K r' h''):bW P f args h K:=
 let ⟨_,_,t,_,_,F,hl,e⟩:=b;F.Tj t hl ((e h _).symm▸q)
def fx.bj{args:List AV}{W:aa→(AV→aa→Prop)→Prop}(b:fx P f args W)(pa:aO args)(pr:Pure r)(q:W [] (dI r)):bn P f args r:=
 ⟨pa,pr,b.bJ q⟩
end
end Go.Aw
namespace Go.Proofs.YtpcnidmmkknndaaGreatDoor
section
open Go Go.Aw
variable [Laid]
def Xr(c:AV)(h:aa)(K:AV→aa→Prop):Prop:=
 bq c fun I=>qBe .gtr I 1500 fun J=>af J (K (.ay [qNs,i_ 4]) h) (qK 54 1 24 qNs (i_ 1) (i_ 1) h fun L M=>aV 72 qNs M fun a N=>aV 51 qNs N fun b O=>ao 1 a L O fun P=>ao 1 b qNs P fun Q=>bq c fun j=>bN [i_ 0] Q fun R f m =>
 ag .lss (nx f 0) j fun S=>af S (aG (fun o=>aI 5 c (nx f 0) fun T=>ah true 5 T m fun U=>aV 70 (.agg [u8 0,.str [],i_ 0,.str [],ff]) m fun g V=>ao 5 g U V fun d=>ah false 1 b d fun W=>bq W fun e=>qBe .gtr e 0 fun p=>aG (fun q=>aM p true (bg 0 g fun r=>ah false 1 r d fun s=>ah false 1 b d fun t=>qBe .sub e 1 fun u=>aI 5 t u fun v=>bg 0 v fun w=>ah false 1 w d fun x=>iQ p_ 30 [x] d fun y=>ag .eql s y fun X=>q [r,s,t,e,u,v,w,x,y,X] d) (q [un,un,un,un,un,un,un,un,un,un] d)) fun Y _=>bQ p (nx Y 9) ff fun Z=>af Z (bx p_ (.fn (.func 29) [] [b,a]) [] d fun f5 a0=>eC [c,a,b,(.fn (.func 29) [] [b,a]),c,j,nx f 0] (o [] a0)) (iFL 0 false 1 g d fun a1=>iC p_ 30 [a1] d fun a2 k=>ag .neq a2 (u8 0) fun a3=>af a3 (qBe .eql e 16 fun a4=>af a4 (K (.ay [qNs,i_ 20]) k) ((∃d45:Nat,ah false 1 a k fun z=>bt 1 1 qNs [(0,1,qNs)] fun a5=>cF (qD d45 b) (ah false 1 b k fun a6=>cF (qD d45 g) (ah true 5 g k fun a7=>bt 1 5 (.agg [u8 0,.str [],i_ 0,.str [],ff]) [(0,5,a7)] fun a8=>cF (vE d45 z) (bR true 54 1 24 z a5 k fun a9 b0=>bR true 70 5 56 a6 a8 b0 fun b1 b2=>ao 1 a a9 b2 fun b3=>ao 1 b b1 b3 fun b4=>eC [c,a,b,(.fn (.func 29) [] [b,a]),c,j,nx f 0] (o [] b4))))))) (aG (fun A=>aV 4 ff k fun l B=>(ao 1 l tt B fun b5=>ao 1 l ff b5 fun C=>ah false 1 l C fun b6=>eC [c,a,b,(.fn (.func 29) [] [b,a]),g,e,c,j,nx f 0] (A [b6] C))∧(ao 1 l ff B fun b7=>ao 1 l tt b7 fun D=>ah false 1 l D fun b8=>eC [c,a,b,(.fn (.func 29) [] [b,a]),g,e,c,j,nx f 0] (A [b8] D))) fun b9 i=>af (nx b9 0) (ah false 1 a i fun E=>aI 1 E e fun c0=>ah false 1 c0 i fun F=>ah true 5 g i fun c1=>aW (.agg [u8 0,.str [],i_ 0,.str [],ff,qNs]) [(0,5,c1)] fun c2=>iZ F fun c3=>bt 1 6 (.agg [u8 0,.str [],i_ 0,.str [],ff,qNs]) [(0,6,(.agg [u8 0,.str [],i_ 0,.str [],ff,qNs]))] fun c4=>bR true 74 6 80 F c4 i fun G c5=>aI 1 E e fun c6=>ao 1 c6 G c5 fun c7=>aI 6 G c3 fun c8=>ao 6 c8 c2 c7 fun c9=>eC [c,a,b,(.fn (.func 29) [] [b,a]),c,j,nx f 0] (o [] c9)) ((∃d81:Nat,cF (qD d81 a) (ah false 1 a i fun d0=>ah false 1 a i fun d1=>aI 1 d1 e fun d2=>ah false 1 d2 i fun H=>ah true 5 g i fun d3=>aW (.agg [u8 0,.str [],i_ 0,.str [],ff,qNs]) [(0,5,d3)] fun d4=>bt 1 6 (.agg [u8 0,.str [],i_ 0,.str [],ff,qNs]) [(0,6,d4)] fun d5=>cF (vE d81 H) (bR true 74 6 80 H d5 i fun d6 d7=>aI 1 d0 e fun d8=>ao 1 d8 d6 d7 fun d9=>eC [c,a,b,(.fn (.func 29) [] [b,a]),c,j,nx f 0] (o [] d9)))))))) fun f6 e0=>qBe .add (nx f 0) 1 fun e1=>eC [c,a,b,(.fn (.func 29) [] [b,a]),c,j] (R [e1] e0)) (bq c fun e2=>ah false 1 b m fun e3=>bq e3 fun e4=>ag .add e2 e4 fun e5=>qBe .gtr e5 1500 fun e6=>af e6 (K (.ay [qNs,i_ 4]) m) (bN [] m fun e7 f7 n =>
 ah false 1 b n fun e8=>bq e8 fun e9=>qBe .gtr e9 0 fun f0=>af f0 (bx p_ (.fn (.func 29) [] [b,a]) [] n fun f8 f1=>eC [a,b,(.fn (.func 29) [] [b,a])] (e7 [] f1)) (ah false 1 a n fun f2=>aI 1 f2 (i_ 0) fun f3=>ah false 1 f3 n fun f4=>K (.ay [f4,i_ 0]) n))))
def V18(a:AV):fx p_ 18 [a] (Xr a):=mkM Tryz.func18 (sn (sn (sn (sn (.seq (sn (.one (.loop [0,4,5,6,15,16] [17] (sn (sn (.join [0,4,5,6,15,16,17] [] (.one (sn (sn (.one (.seq (.draw 15 (oR 0 3 (.aA 2 true (fR 3 10) [] [51,52,53,54,55,56,57,58,59,60]::oR 13 2 [])) [] []) (.two .nil (sn (.two (sn (.two (.jX [(0,1,false),(1,0,true),(3,3,false),(4,3,false),(5,0,true),(2,4,true),(6,2,true),(7,2,false),(8,2,false)]) .nil)) (.join [0,4,5,6,8,9,15,16,17] [24] (.DB (.one 0 2 false (.two (.one 1 2 false (.one 2 2 false (.one 3 1 false .nil))) (.one 2 2 false (.one 1 2 false (.one 3 1 false .nil)))))) (.two (.seq (.draw 8 (oR 0 7 (.op 7 true::[])) (.op 8 true::oR 9 2 []) []) .nil) (.two (.jX [(0,3,false),(1,0,false),(2,1,false),(3,0,false),(4,0,false),(5,1,false),(6,1,false),(7,0,false),(8,0,true),(9,4,true),(10,0,false),(11,2,false)]) .nil))))))))))) .nil)))))) (sn (.seq (.one (.loop [4,5,6] [] .nil)) .nil))))))) 93 [.tmp 2,.tmp 3]
def XB(e b:AV)(h:aa)(K:AV→aa→Prop):Prop:=
 ah false 1 e h fun p=>bq p fun q=>qBe .sub q 1 fun a=>ah false 1 e h fun r=>aI 5 r a fun s=>ah true 5 s h fun t=>ah false 1 b h fun u=>qBe .add a 1 fun v=>aI 1 u v fun w=>ah false 1 w h fun x=>aW (.agg [u8 0,.str [],i_ 0,.str [],ff,qNs]) [(0,5,t),(5,1,x)] fun y=>(fun (z:aa)=>ao 6 (AV.op (h.length+1+0) 0) y z fun f=>(∃d14:Nat,ah false 1 b f fun A=>qBe .add a 1 fun B=>lr 1 A none (some B) fun C=>cF (qD d14 e) (ah false 1 e f fun D=>lr 5 D none (some a) fun E=>cF (xl d14 b) (ao 1 b C f fun F=>ao 1 e E F fun G=>aG (fun g=>aV 4 ff G fun d i=>(ao 1 d tt i fun H=>ao 1 d ff H fun j=>ah false 1 d j fun I=>eC [b,a,(AV.op (h.length+1+0) 0)] (g [I] j))∧(ao 1 d ff i fun J=>ao 1 d tt J fun k=>ah false 1 d k fun L=>eC [b,a,(AV.op (h.length+1+0) 0)] (g [L] k))) fun M c=>af (nx M 0) (ah false 1 b c fun l=>aI 1 l a fun N=>ah false 1 N c fun m=>ah true 6 (AV.op (h.length+1+0) 0) c fun O=>iZ m fun P=>bt 1 6 (.agg [u8 0,.str [],i_ 0,.str [],ff,qNs]) [(0,6,(.agg [u8 0,.str [],i_ 0,.str [],ff,qNs]))] fun Q=>bR true 74 6 80 m Q c fun n R=>aI 1 l a fun S=>ao 1 S n R fun T=>aI 6 n P fun U=>ao 6 U O T fun V=>K (.ay []) V) ((∃d45:Nat,cF (qD d45 b) (ah false 1 b c fun W=>ah false 1 b c fun X=>aI 1 X a fun Y=>ah false 1 Y c fun o=>ah true 6 (AV.op (h.length+1+0) 0) c fun Z=>bt 1 6 (.agg [u8 0,.str [],i_ 0,.str [],ff,qNs]) [(0,6,Z)] fun a0=>cF (vE d45 o) (bR true 74 6 80 o a0 c fun a1 a2=>aI 1 W a fun a3=>ao 1 a3 a1 a2 fun a4=>K (.ay []) a4)))))))) (h++[.dead]++[.ak ⟨74,[u8 0,.str [],i_ 0,.str [],ff,qNs],true⟩])
def V29(a b:AV):fx p_ 29 [a,b] (XB a b):=mkM Tryz.func29 (sn (.seq (.Ji 11 [10] (fR 0 11) [.op 11 false] []) (.seq (.two (.jX [(0,1,false),(1,0,false),(2,0,false),(3,0,false),(4,3,false),(5,0,false),(6,0,false),(7,4,false),(8,2,false)]) .nil) (.join [1,2,3] [25] (.DB (.one 0 2 false (.two (.one 1 2 false (.one 2 2 false (.one 3 1 false .nil))) (.one 2 2 false (.one 1 2 false (.one 3 1 false .nil)))))) (.two (.seq (.draw 7 (oR 0 6 (.op 6 true::[])) (.op 7 true::oR 8 2 []) []) .nil) (.two (.jX [(0,3,false),(1,0,false),(2,1,false),(3,0,false),(4,0,false),(5,1,false),(6,1,false),(7,0,true),(8,4,true),(9,0,false),(10,2,false)]) .nil)))))) 46 []
def XC(a:AV)(h:aa)(K:AV→aa→Prop):Prop:=
 ag .eql a (u8 2) fun d=>af d (K (u8 22) h) (aG (fun b=>ag .eql a (u8 19) fun e=>af e (eC [a] (b [tt] h)) (ag .eql a (u8 21) fun f=>af f (eC [a] (b [tt] h)) (ag .eql a (u8 23) fun g=>eC [a] (b [g] h)))) fun i c=>af (nx i 0) (ag .add a (u8 1) fun j=>K j c) (K (u8 0) c))
def V30(a:AV):fx p_ 30 [a] (XC a):=mkM Tryz.func30 (sn (.seq (sn (.one (sn (.two .nil (.join [0] [6] .nil .nil))))) .nil)) 12 [.tmp 2]
end
section
open Go Go.Aw Go.Rt Go.RowKit
def oT{p:Nat→Bool}(h:((List.range 256).all p)=true)(c:UInt8):p c.toNat=true:=At.1 h c.toNat (List.mem_range.2 c.toNat_lt)
def pG(h:i<s.length):pk s i=((ax s i).toNat:Int):=by
 unfold pk ax;rw[dO h,nE,dO h];rfl
def DK(h:¬i<s.length):pk s i=-1:=HW (by omega)
def xx(h:¬i<s.length):ax s i=0:=by unfold ax;rw[nE,iS (by omega)];rfl
def jo(h:i<s.length):ax s i=s[i]:=by unfold ax;rw[nE,dO h];rfl
def Bg{p:Int→Bool}{q:UInt8→Bool}(h1:p (-1)=q 0)(h2:((List.range 256).all fun n=>p (n:Int) == q (UInt8.ofNat n))=true)(s:Rt.ae)(i:Nat):p (pk s i)=q (ax s i):=by
 by_cases h:i<s.length
 ·rw[pG h];have:=oT h2 (ax s i);rw[UInt8.ofNat_toNat]at this;exact eq_of_beq this
 ·rw[DK h,xx h];exact h1
def Ly(s:Rt.ae)(i:Nat):fi_ (pk s i)=tX (ax s i):=Bg (by decide) (by kernel_rfl) s i
def Lx(s:Rt.ae)(i:Nat):T6 (pk s i)=fq (ax s i):=Bg (by decide) (by kernel_rfl) s i
def uA(s:Rt.ae)(i:Nat):jx (pk s i) 48 57=ck (ax s i):=Bg (p:=fun n=>jx n 48 57) (by decide) (by kernel_rfl) s i
def Bi(s:Rt.ae)(i:Nat):uF (pk s i)=fv (ax s i):=Bg (by decide) (by kernel_rfl) s i
def Bh(hc:c≠0)(s:Rt.ae)(i:Nat):(pk s i=(c.toNat:Int))↔ax s i=c:=by
 by_cases h:i<s.length
 ·rw[pG h];exact⟨fun e=>UInt8.toNat_inj.1 (by omega),fun e=>by rw[e]⟩
 ·rw[DK h,xx h];exact⟨fun e=>by omega,fun e=>absurd e.symm hc⟩
def kf:(pk s i=-1)↔¬i<s.length:=by
 by_cases h:i<s.length
 ·rw[pG h];exact⟨fun e=>by omega,fun e=>absurd h e⟩
 ·rw[DK h];exact⟨fun _=>h,fun _=>rfl⟩
def Av(hc:c≠0)(s:Rt.ae)(i:Nat):decide (pk s i=(c.toNat:Int))=decide (ax s i=c):=decide_eq_decide.2 (Bh hc s i)
def uk(s:Rt.ae)(i:Nat):wP s i=cC s i:=by
 unfold wP cC;rw[←Av (c:=92) (by decide),←Av (c:=10) (by decide)];rfl
def A5(s:Rt.ae)(i:Nat):vt s i=gq s i:=by
 unfold vt gq;rw[Ly,Ly,uk,uk];have h1:(pk s i=45)↔ax s i=45:=Bh (c:=45) (by decide) s i;have h2:decide (pk s (i+1)=45)=decide (ax s (i+1)=45):=Av (c:=45) (by decide) s (i+1);rw[h2]
 by_cases h:ax s i=45
 ·rw[if_pos h,if_pos (h1.2 h)]
 ·rw[if_neg h,if_neg (fun e=>h (h1.1 e))]
def Us(s:Rt.ae)(i:Nat):Fj s i=jP s i:=by
 unfold Fj jP;have h1:(pk s i=43)↔ax s i=43:=Bh (c:=43) (by decide) s i;have h2:(pk s i=45)↔ax s i=45:=Bh (c:=45) (by decide) s i;have e1:i+(if pk s i=43∨pk s i=45 then 1 else 0)=(if ax s i=43∨ax s i=45 then i+1 else i):=by
  by_cases h:ax s i=43∨ax s i=45
  ·rw[if_pos h,if_pos (by rw[h1,h2];exact h)]
  ·rw[if_neg h,if_neg (by rw[h1,h2];exact h)];rfl
 simp only[];rw[e1];obtain⟨j,hj⟩:∃j,(if ax s i=43∨ax s i=45 then i+1 else i)=j:=⟨_,rfl⟩;rw[hj];have h3:(pk s j=46)↔ax s j=46:=Bh (c:=46) (by decide) s j
 by_cases h:ax s j=46
 ·rw[if_pos h,if_pos (h3.2 h),←uA]
  congr 2
  rw[←Nat.add_assoc,e1,hj]
 ·rw[if_neg h,if_neg (fun e=>h (h3.1 e)),←uA,e1,hj]
def Ib{p:Int→Bool}{q:UInt8→Bool}(h2:((List.range 256).all fun n=>p (n:Int) == q (UInt8.ofNat n))=true)(s:Rt.ae)(i:Nat):nf p s i=((s.drop i).takeWhile q).length:=by
 unfold nf;have:(fun b:UInt8=>p (b.toNat:Int))=q:=by
  funext b
  have:=oT h2 b;rw[UInt8.ofNat_toNat]at this;exact eq_of_beq this
 rw[this]
def Ci(s:Rt.ae)(i:Nat):i+nf (fun n=>jx n 48 57) s i=fT s i:=by unfold fT;rw[Ib (q:=ck) (by kernel_rfl)]
def Ic(s:Rt.ae)(i:Nat):i+nf uF s i=fe s i:=by unfold fe;rw[Ib (q:=fv) (by kernel_rfl)]
end
section
open Go Go.Aw Go.RowKit
def Gb(n:Nat)(x:AV)(h:aa)(l:ae):Prop:=(l=[]∧x=.v (.slice none 0 0))∨∃tid,n≤tid∧x=.sb tid 1 (yM l)∧h[tid]?=some (.tok 5 1 l.length)
def Gb.fF(g:Gb n x h l)(k:∀i e,n≤i→h[i]?=some (.tok 5 1 e)→h'[i]?=h[i]?):Gb n x h' l:=by
 rcases g with g|⟨t,h1,h2,h3⟩
 ·exact .inl g
 ·exact .inr ⟨t,h1,h2,by rw[k t _ h1 h3];exact h3⟩
def z6{len sz:Nat}{ps:List (Nat×Nat×AV)}{cs:List AV}{K:AV→Prop}(e:dP (gI len (bh z)) ps=some cs)(q:K (.sl sz (chunks sz len cs))):bt len sz z ps K:=by
 unfold bt;rw[e];exact q
def pY(g:Gb n x h l)(hn:n≤h.length)(hl:l.length+m.length≤2^40)(ey:y=.sl 1 (yM m)){K:AV→aa→Prop}
 (k:∀x' h',Gb n x' h' (l++m)→h.length≤h'.length→(∀i,i<n→h'[i]?=h[i]?)→K x' h'):bR false 5 1 1 x y h K:=by
 subst ey;rcases g with⟨rfl,rfl⟩|⟨t,h1,rfl,h3⟩
 ·unfold bR eI;rw[gM];refine⟨GR _,⟨by unfold maxLen;simp at hl ⊢;omega,by simp at hl ⊢;omega⟩, ?_⟩;refine k _ _ (.inr ⟨h.length,hn,by simp,by simp⟩) (by simp) fun i hi=>?_;rw[gO (by omega)]
 ·have ht:=(eQ.1 h3).1;refine A4 (rows:=yM m) (k:=l.length) rfl h3 (by simp) gM (GR _) ⟨by unfold maxLen;simp;omega,by simp;omega⟩ rfl ?_;refine k _ _ (.inr ⟨t,h1,by simp, ?_⟩) (by simp) fun i hi=>?_
  ·rw[iD ht];simp
  ·rw[iF (by omega)]
def EH{K:AV→Prop}(g:Gb n x h l)(q:K (.str l)):cP x h K:=by
 rcases g with⟨rfl,rfl⟩|⟨t,h1,rfl,h3⟩
 ·exact q
 ·exact Ti rfl q
def iU(n:Nat):ae:=if n<128 then [UInt8.ofNat n] else if n<2048 then [UInt8.ofNat (192+n/64),UInt8.ofNat (128+n%64)] else if (55296≤n∧n≤57343)∨1114111<n then Rt.lQ else if n<65536 then [UInt8.ofNat (224+n/4096),UInt8.ofNat (128+n/64%64),UInt8.ofNat (128+n%64)] else [UInt8.ofNat (240+n/262144),UInt8.ofNat (128+n/4096%64),UInt8.ofNat (128+n/64%64),UInt8.ofNat (128+n%64)]
def Om(n:Nat):iU (if n=0 then 65533 else n)=Rt.sH n:=by
 by_cases h0:n=0
 ·subst h0;rfl
 ·rw[if_neg h0];unfold iU Rt.sH
  by_cases h1:n<128
  ·simp only[if_pos h1,if_neg (show ¬(n=0∨(55296≤n∧n≤57343)∨1114111<n) by omega)]
  ·by_cases h2:n<2048
   ·simp only[if_neg h1,if_pos h2,if_neg (show ¬(n=0∨(55296≤n∧n≤57343)∨1114111<n) by omega)]
   ·by_cases h3:(55296≤n∧n≤57343)∨1114111<n
    ·simp only[if_neg h1,if_neg h2,if_pos h3,if_pos (show n=0∨(55296≤n∧n≤57343)∨1114111<n from .inr h3)]
    ·simp only[if_neg h1,if_neg h2,if_neg h3,if_neg (show ¬(n=0∨(55296≤n∧n≤57343)∨1114111<n) by rintro (e|e);exact h0 e;exact h3 e)]
def cS{k:(List AV→aa→Prop)→Prop}{f:List AV→aa→Prop}(P:List AV→aa→Prop)(q:∀s h,P s h→f s h)(hk:∀F:List AV→aa→Prop,(∀s h,P s h→F s h)→k F):aG k f:=hk f q
def q9(m:Nat):dq .or .u8 128 (dq .and .u8 (IntKind.u8.wrap (m:Int)) 63)=((128+m%64:Nat):Int):=by
 have key:∀c:Fin 256,dq .or .u8 128 (dq .and .u8 ((c.val:Nat):Int) 63)=((128+c.val%64:Nat):Int):=by decide +kernel
 have e:IntKind.u8.wrap (m:Int)=((m%256:Nat):Int):=by rw[IntKind.wrap_u8];omega
 rw[e];have:=key ⟨m%256,Nat.mod_lt _ (by decide)⟩;rw[this];show ((128+m%256%64:Nat):Int)=_;rw[Nat.mod_mod_of_dvd _ (by decide)]
def ZG{m:Nat}(h:m<32):dq .or .u8 192 (IntKind.u8.wrap (m:Int))=((192+m:Nat):Int):=by
 have key:∀c:Fin 32,dq .or .u8 192 (IntKind.u8.wrap ((c.val:Nat):Int))=((192+c.val:Nat):Int):=by decide +kernel
 exact key ⟨m,h⟩
def ZH{m:Nat}(h:m<16):dq .or .u8 224 (IntKind.u8.wrap (m:Int))=((224+m:Nat):Int):=by
 have key:∀c:Fin 16,dq .or .u8 224 (IntKind.u8.wrap ((c.val:Nat):Int))=((224+c.val:Nat):Int):=by decide +kernel
 exact key ⟨m,h⟩
def ZI{m:Nat}(h:m<8):dq .or .u8 240 (IntKind.u8.wrap (m:Int))=((240+m:Nat):Int):=by
 have key:∀c:Fin 8,dq .or .u8 240 (IntKind.u8.wrap ((c.val:Nat):Int))=((240+c.val:Nat):Int):=by decide +kernel
 exact key ⟨m,h⟩
def yI(h:m<256):((UInt8.ofNat m).toNat:Int)=(m:Int):=by rw[UInt8.toNat_ofNat'];omega
def pC{K:AV→Prop}(ex:x=.v (.int k a))(ey:y=.v (.int k b))(q:K (.v (.int k (dq .or k a b)))):ag .or x y K:=by
 subst ex;subst ey;refine⟨rfl, ?_⟩;exact q
def ua{K:AV→Prop}(ex:x=.v (.int k a))(ey:y=.v (.int k b))(q:K (.v (.int k (dq .and k a b)))):ag .and x y K:=by
 subst ex;subst ey;refine⟨rfl, ?_⟩;exact q
def yi{K:AV→Prop}(ex:x=.v (.int k a))(ey:y=.v (.int k' b))(h0:0≤b)(hc:a.fdiv (2^(min b.toNat k.bits))=c)(q:K (.v (.int k c))):ag .shr x y K:=by
 subst ex;subst ey;subst hc;unfold ag;simp only[lI,if_true];exact⟨h0,q⟩
def VL{K:AV→Prop}(ex:x=.v (.int k a))(ey:y=.v (.int k' b))(h0:0≤b)(hc:k.wrap (a*2^(min b.toNat k.bits))=c)(q:K (.v (.int k c))):ag .shl x y K:=by
 subst ex;subst ey;subst hc;unfold ag;simp only[lI,if_true];exact⟨h0,q⟩
def U8(n:Nat):(n:Int).fdiv (2^(min (6:Int).toNat IntKind.i32.bits))=((n/64:Nat):Int):=by
 show (n:Int).fdiv ((64:Nat):Int)=_;exact Int.ofNat_fdiv n 64 |>.symm
def U7(n:Nat):(n:Int).fdiv (2^(min (12:Int).toNat IntKind.i32.bits))=((n/4096:Nat):Int):=by
 show (n:Int).fdiv ((4096:Nat):Int)=_;exact Int.ofNat_fdiv n 4096 |>.symm
def aab(n:Nat):(n:Int).fdiv (2^(min (18:Int).toNat IntKind.i32.bits))=((n/262144:Nat):Int):=by
 show (n:Int).fdiv ((262144:Nat):Int)=_;exact Int.ofNat_fdiv n 262144 |>.symm
def Vu{n:Nat}(h:n<2^24):IntKind.u32.wrap (n:Int)=(n:Int):=by simp[IntKind.wrap,IntKind.bits,IntKind.signed];omega
abbrev i32(n:Int):AV:=.v (.int .i32 n)
abbrev u32(n:Int):AV:=.v (.int .u32 n)
variable [Laid]
def NU{n0:Nat}(g:Gb n0 x h l)(hn:n0≤h.length)(hl:l.length≤2^39){n:Nat}(h0:128≤n)(h1:n<2^24){K:AV→aa→Prop}
 (k:∀x' h',Gb n0 x' h' (l++iU n)→h.length≤h'.length→(∀i,i<n0→h'[i]?=h[i]?)→K x' h'):bx p_ (.fn (.func 165) [] []) [x,i32 n] h K:=by
 refine cB (by kernel_rfl) rfl (K0:=fun r h' => Gb n0 r h' (l++iU n)∧h.length≤h'.length∧(∀i,i<n0→h'[i]?=h[i]?)) ?_ (fun r h' ⟨a,b,c⟩=>k r h' a b c);refine (Zk _ _).bJ ?_;unfold SK;have fin:∀(x':AV) (h':aa),Gb n0 x' h' (l++iU n)→h.length≤h'.length→(∀i,i<n0→h'[i]?=h[i]?)→∃r' h'',Wk h.length [x'] h' [r'] h''∧Gb n0 r' h'' (l++iU n)∧h.length≤h''.length∧(∀i,i<n0→h''[i]?=h[i]?):=fun x' h' a b c=>⟨_,_,Wk.refl _ _ _ b,a,b,c⟩;have lost:2048≤n→((55296≤n∧n≤57343)∨1114111<n)→iU n=Rt.lQ:=fun a b=>by
  unfold iU;rw[if_neg (by omega),if_neg (by omega),if_pos b]
 refine fk rfl (Vu h1) (zzD ?_)
 by_cases c1:n<2048
 ·have e:iU n=[UInt8.ofNat (192+n/64),UInt8.ofNat (128+n%64)]:=by unfold iU;rw[if_neg (by omega),if_pos c1]
  refine zzL (oF (by omega)) (yi rfl rfl (by decide) (U8 n) (fk rfl rfl (pC rfl rfl (fk rfl rfl (ua rfl rfl (pC rfl rfl (z6 rfl ?_)))))));refine pY g hn (m:=iU n) (by rw[e];simp;omega) ?_ fin;rw[e];show AV.sl 1 [[u8 _],[u8 _]]=AV.sl 1 [[bf _],[bf _]];rw[ZG (by omega),q9,bf,bf,yI (by omega),yI (by omega)]
 ·refine zzK (nO (by omega)) ?_;refine cS (fun t H=>H=h∧nx t 0=b_ (decide (n<55296∨(57343<n∧n≤65535)))) (fun t H ht=>?_) fun F hF=>?_
  ·obtain⟨rfl,ht⟩:=ht;rw[ht]
   by_cases c2:n<55296∨(57343<n∧n≤65535)
   ·have e:iU n=[UInt8.ofNat (224+n/4096),UInt8.ofNat (128+n/64%64),UInt8.ofNat (128+n%64)]:=by unfold iU;rw[if_neg (by omega),if_neg c1,if_neg (by omega),if_pos (by omega)]
    refine zzL (oF c2) (yi rfl rfl (by decide) (U7 n) (fk rfl rfl (pC rfl rfl (yi rfl rfl (by decide) (U8 n) (fk rfl rfl (ua rfl rfl (pC rfl rfl (fk rfl rfl (ua rfl rfl (pC rfl rfl (z6 rfl ?_)))))))))));refine pY g hn (m:=iU n) (by rw[e];simp;omega) ?_ fin;rw[e];show AV.sl 1 [[u8 _],[u8 _],[u8 _]]=AV.sl 1 [[bf _],[bf _],[bf _]];rw[ZH (by omega),q9,q9,bf,bf,bf,yI (by omega),yI (by omega),yI (by omega)]
   ·refine zzK (nO c2) (zzE ?_);have rest:∀b:Bool,b=decide (65535<n∧n≤1114111)→af (b_ b) (ag .shr (i32 n) (.v (.int .u64 18)) fun v41=>cy .u8 v41 fun v42=>ag .or (u8 240) v42 fun v43=>ag .shr (i32 n) (.v (.int .u64 12)) fun v44=>cy .u8 v44 fun v45=>ag .and v45 (u8 63) fun v46=>ag .or (u8 128) v46 fun v47=>ag .shr (i32 n) (.v (.int .u64 6)) fun v48=>cy .u8 v48 fun v49=>ag .and v49 (u8 63) fun v50=>ag .or (u8 128) v50 fun v51=>cy .u8 (i32 n) fun v52=>ag .and v52 (u8 63) fun v53=>ag .or (u8 128) v53 fun v54=>bt 4 1 (u8 0) [(0,1,v43),(1,1,v47),(2,1,v51),(3,1,v54)] fun v55=>bR false 5 1 1 x v55 H fun v56 g57=>∃r' h'',Wk H.length [v56] g57 [r'] h''∧Gb n0 r' h'' (l++iU n)∧H.length≤h''.length∧(∀i,i<n0→h''[i]?=H[i]?)) (bt 3 1 (u8 0) [(0,1,(u8 239)),(1,1,(u8 191)),(2,1,(u8 189))] fun v58=>bR false 5 1 1 x v58 H fun v59 g60=>∃r' h'',Wk H.length [v59] g60 [r'] h''∧Gb n0 r' h'' (l++iU n)∧H.length≤h''.length∧(∀i,i<n0→h''[i]?=H[i]?)):=by
     rintro b rfl
     by_cases c3:65535<n∧n≤1114111
     ·have e:iU n=[UInt8.ofNat (240+n/262144),UInt8.ofNat (128+n/4096%64),UInt8.ofNat (128+n/64%64),UInt8.ofNat (128+n%64)]:=by unfold iU;rw[if_neg (by omega),if_neg c1,if_neg (by omega),if_neg (by omega)]
      refine zzL (oF c3) (yi rfl rfl (by decide) (aab n) (fk rfl rfl (pC rfl rfl (yi rfl rfl (by decide) (U7 n) (fk rfl rfl (ua rfl rfl (pC rfl rfl (yi rfl rfl (by decide) (U8 n) (fk rfl rfl (ua rfl rfl (pC rfl rfl (fk rfl rfl (ua rfl rfl ?_)))))))))))));refine pC rfl rfl (z6 rfl ?_);refine pY g hn (m:=iU n) (by rw[e];simp;omega) ?_ fin;rw[e];show AV.sl 1 [[u8 _],[u8 _],[u8 _],[u8 _]]=AV.sl 1 [[bf _],[bf _],[bf _],[bf _]];rw[ZI (by omega),q9,q9,q9,bf,bf,bf,bf,yI (by omega),yI (by omega),yI (by omega),yI (by omega)]
     ·have e:=lost (by omega) (by omega);refine zzK (nO c3) (z6 rfl ?_);refine pY g hn (m:=iU n) (by rw[e];unfold Rt.lQ;simp;omega) ?_ fin;rw[e];rfl
    refine aF ?_
    by_cases c3:65535<n
    ·refine zzN (oF (by omega)) (zzD (aq (zzR ?_)));exact rest _ (by rw[decide_eq_decide];omega)
    ·refine zzM (nO (by omega)) (aq (aQ (by rw[nO (by omega)];rfl) ?_));exact rest false (by rw[eq_comm,decide_eq_false_iff_not];omega)
  ·refine zzC ?_
   by_cases c2:n<55296
   ·refine zzL (oF (by omega)) ?_;refine aq (hF _ _ ⟨rfl, ?_⟩);rw[oF (.inl c2)];rfl
   ·refine zzK (nO (by omega)) (zzC (aF ?_))
    by_cases c3:57343<n
    ·refine zzN (oF (by omega)) (zzD (aq (zzR ?_)));refine aq (hF _ _ ⟨rfl, ?_⟩);exact congrArg Aw.b_ (decide_eq_decide.2 (by omega))
    ·refine zzM (nO (by omega)) (aq (aQ (by rw[nO (by omega)];rfl) ?_));refine aq (hF _ _ ⟨rfl, ?_⟩);rw[nO (by omega)];rfl
def KU{n0:Nat}(g:Gb n0 x h l)(hn:n0≤h.length)(hl:l.length≤2^39){n:Nat}(h1:n<2^24){K:AV→aa→Prop}
 (k:∀x' h',Gb n0 x' h' (l++iU n)→h.length≤h'.length→(∀i,i<n0→h'[i]?=h[i]?)→K x' h'):bx p_ (.fn (.func 135) [] []) [x,i32 n] h K:=by
 refine cB (by kernel_rfl) rfl (K0:=fun r h' => Gb n0 r h' (l++iU n)∧h.length≤h'.length∧(∀i,i<n0→h'[i]?=h[i]?)) ?_ (fun r h' ⟨a,b,c⟩=>k r h' a b c);refine (Y7 _ _).bJ ?_;unfold Sx;refine fk rfl (Vu h1) (zzD ?_)
 by_cases c1:n<128
 ·have e:iU n=[UInt8.ofNat n]:=by unfold iU;rw[if_pos c1]
  refine zzL (oF (by omega)) (fk (m:=(n:Int)) rfl (by rw[IntKind.wrap_u8];omega) (z6 rfl ?_));refine pY g hn (m:=iU n) (by rw[e];simp;omega) ?_ fun x' h' a b c=>⟨_,_,Wk.refl _ _ _ b,a,b,c⟩;rw[e];show AV.sl 1 [[u8 _]]=AV.sl 1 [[bf _]];rw[bf,yI (by omega)]
 ·refine zzK (nO (by omega)) ?_;exact NU g hn hl (by omega) h1 fun x' h' a b c=>⟨_,_,Wk.refl _ _ _ b,a,b,c⟩
end
section
open Go Go.Aw Go.RowKit
structure Mw(id:Nat)(s:ae)(a:Nat)(h H:aa):Prop where
 len:h.length≤H.length
 sc:Sc id H s a
 ky:∀i,i<h.length→i≠id→H[i]?=h[i]?
def Mw.mv{id a:Nat}(hid:id<h.length)(m:Mw id s a h H):Mv id s a h H:=by
 refine⟨H.drop h.length,List.ext_getElem? fun i=>?_⟩
 by_cases q:i<h.length
 ·rw[gO (by simpa using q)]
  by_cases q2:i=id
  ·subst q2;rw[iD q];exact m.sc
  ·rw[iF (Ne.symm q2)];exact m.ky i q q2
 ·rw[gT (by simp;omega),aaU]
  congr 1;simp;omega
def Mw.refl{id a:Nat}(sc:Sc id h s a):Mw id s a h h:=⟨bY _,sc,fun _ _ _=>rfl⟩
def Mw.trans{id a b:Nat}(x:Mw id s a h H)(y:Mw id s b H H2):Mw id s b h H2:=⟨aa7 x.len y.len,y.sc,fun i hi hn=>by rw[y.ky i (Up hi x.len) hn,x.ky i hi hn]⟩
def Mw.ext{id a:Nat}(x:Mw id s a h H)(hid:id<h.length)(hl:H.length≤H2.length)(k:∀i,i<h.length→H2[i]?=H[i]?):Mw id s a h H2:=⟨aa7 x.len hl,by unfold Sc;rw[k id hid];exact x.sc,fun i hi hn=>by rw[k i hi,x.ky i hi hn]⟩
def Mw.pre{id a:Nat}(x:Mw id s a (h++j) H):Mw id s a h H:=⟨aa7 (by simp) x.len,x.sc,fun i hi hn=>by rw[x.ky i (by simp;omega) hn,gO hi]⟩
def Mw.set{id a:Nat}(x:Mw id s a h H)(b:Nat):Mw id s b h (H.set id (eB s b)):=⟨by simpa using x.len,iD x.sc.lt,fun i hi hn=>by rw[iF (Ne.symm hn),x.ky i hi hn]⟩
def Gb.mv{n id b a0:Nat}(g:Gb n x H l)(hid:id<n)(sc:Sc id H s a0):Gb n x (H.set id (eB s b)) l:=g.fF fun i e hi _=>by rw[iF (by omega)]
def jY[Laid]{id:Nat}(sc:Sc id H s a)(ha:a≤2^40)(ex:x=.op id 0){K:aa→Prop}(k:K (H.set id (eB s (a+1)))):ca P x fun v1=>bg 1 v1 fun v2=>ah false 1 v2 H fun v3=>ag .add v3 (i_ 1) fun v4=>ca P x fun v5=>bg 1 v5 fun v6=>ao 1 v6 v4 H fun g7=>K g7:=by
 subst ex;refine bA (zzA (zzU sc rfl (zzP (by unfold aJ;omega) (bA (zzA ?_)))));refine aU (cs:=[i_ ((a:Int)+1)]) (h':=H.set id (eB s (a+1))) rfl sc rfl rfl (by simp) rfl rfl ?_ k;show _=List.set H id (.ak ⟨101,[.str s,i_ ((a+1:Nat):Int)],true⟩);rw[show ((a+1:Nat):Int)=(a:Int)+1 by omega];rfl
def BO(n:Int):Int:=if jx n 48 57=true then n-48 else if n≠-1∧jx (dq .or .i64 n 32) 97 102=true∧64<n∧n<128 then dq .or .i64 n 32-97+10 else -1
def Uz(s:ae)(i:Nat):BO (pk s i)=Rt.iY (Rt.ax s i):=by
 have h2:((List.range 256).all fun n=>BO (n:Int) == Rt.iY (UInt8.ofNat n))=true:=by kernel_rfl
 by_cases h:i<s.length
 ·rw[pG h];have:=oT h2 (Rt.ax s i);rw[UInt8.ofNat_toNat]at this;exact eq_of_beq this
 ·rw[DK h,xx h];rfl
def TH(c:UInt8):Rt.iY c<16:=by
 have h2:((List.range 256).all fun n=>decide (Rt.iY (UInt8.ofNat n)<16))=true:=by kernel_rfl
 have:=oT h2 c;rw[UInt8.ofNat_toNat]at this;exact oN this
variable [Laid]
def Nc(n:Int)(h1:-1≤n)(h2:n<256):bn p_ 136 [i_ n] (i_ (BO n)):=by
 refine (Y8 _).bj (by simp) (by simp) ?_;unfold Sy;refine uCon (nN n) ?_;cases c1:jx n 48 57 with
 | true =>
   refine zzL rfl ?_;have:48≤n:=by unfold jx at c1;simp at c1;omega
   refine zze (by unfold aJ;omega) ?_;exact .pure (by simp) (by unfold BO;rw[if_pos c1])
 | false =>
   refine zzK rfl ?_;have hb:∀n:Int,-1≤n→n<256→-1≤dq .or .i64 n 32∧dq .or .i64 n 32<512:=by
    have key:∀c:Fin 257,-1≤dq .or .i64 (((c.val:Nat):Int)-1) 32∧dq .or .i64 (((c.val:Nat):Int)-1) 32<512:=by decide +kernel
    intro n h1 h2;have:=key ⟨(n+1).toNat,by omega⟩
    rwa [show (((n+1).toNat:Nat):Int)-1=n by omega]at this
   obtain⟨b1,b2⟩:=hb n h1 h2;refine zzH ?_;refine cS (fun t H=>H=[]∧((nx t 0=ff∧n=-1)∨(nx t 0=tt∧nx t 1=b_ (jx (dq .or .i64 n 32) 97 102)∧n≠-1))) (fun t H ht=>?_) fun F hF=>?_;rotate_left
   ·by_cases q:n=-1
    ·refine zzM (by simp[q]) ?_;exact aq (hF _ _ ⟨rfl,.inl ⟨by rw[oF q];rfl,q⟩⟩)
    ·refine zzN (by rw[nO q];rfl) (OO rfl rfl (uCon (pE _ _ _) ?_));exact aq (hF _ _ ⟨rfl,.inr ⟨rfl,rfl,q⟩⟩)
   obtain⟨rfl,ht⟩:=ht;obtain⟨b,hb1,hb2⟩:∃b:Bool,(∀K:AV→Prop,K (b_ b)→bQ (nx t 0) (nx t 1) ff K)∧b=decide (n≠-1∧jx (dq .or .i64 n 32) 97 102=true):=by
    rcases ht with⟨h1,h2⟩|⟨h1,h2,h3⟩
    ·exact⟨false,fun K q=>aQ h1 q,by simp[h2]⟩
    ·exact⟨jx (dq .or .i64 n 32) 97 102,fun K q=>aL h1 (by rw[h2];exact q),by simp[h3]⟩
   refine hb1 _ ?_;refine cS (fun t H=>H=[]∧((nx t 0=ff∧b=false)∨(nx t 0=tt∧nx t 1=Aw.b_ (decide (64<n))∧b=true))) (fun t H ht=>?_) fun F hF=>?_;rotate_left
   ·cases hbb:b with
    | false=>exact zzM rfl (aq (hF _ _ ⟨rfl,.inl ⟨rfl,hbb⟩⟩))
    | true =>
      refine zzN rfl (zzE ?_);exact aq (hF _ _ ⟨rfl,.inr ⟨rfl,rfl,hbb⟩⟩)
   obtain⟨rfl,ht⟩:=ht;obtain⟨c,hc1,hc2⟩:∃c:Bool,(∀K:AV→Prop,K (b_ c)→bQ (nx t 0) (nx t 1) ff K)∧c=(b&&decide (64<n)):=by
    rcases ht with⟨h1,h2⟩|⟨h1,h2,h3⟩
    ·exact⟨false,fun K q=>aQ h1 q,by simp[h2]⟩
    ·exact⟨decide (64<n),fun K q=>aL h1 (by rw[h2];exact q),by simp[h3]⟩
   refine hc1 _ ?_;refine cS (fun t H=>H=[]∧((nx t 0=ff∧c=false)∨(nx t 0=tt∧nx t 1=Aw.b_ (decide (n<128))∧c=true))) (fun t H ht=>?_) fun F hF=>?_;rotate_left
   ·cases hcc:c with
    | false=>exact zzM rfl (aq (hF _ _ ⟨rfl,.inl ⟨rfl,hcc⟩⟩))
    | true =>
      refine zzN rfl (zzC ?_);exact aq (hF _ _ ⟨rfl,.inr ⟨rfl,rfl,hcc⟩⟩)
   obtain⟨rfl,ht⟩:=ht;obtain⟨d,hd1,hd2⟩:∃d:Bool,(∀K:AV→Prop,K (b_ d)→bQ (nx t 0) (nx t 1) ff K)∧d=(c&&decide (n<128)):=by
    rcases ht with⟨h1,h2⟩|⟨h1,h2,h3⟩
    ·exact⟨false,fun K q=>aQ h1 q,by simp[h2]⟩
    ·exact⟨decide (n<128),fun K q=>aL h1 (by rw[h2];exact q),by simp[h3]⟩
   refine hd1 _ ?_;have e:d=decide (n≠-1∧jx (dq .or .i64 n 32) 97 102=true∧64<n∧n<128):=by
    rw[hd2,hc2,hb2,Bool.eq_iff_iff];simp only[NO,Of,and_assoc]
   by_cases q:n≠-1∧jx (dq .or .i64 n 32) 97 102=true∧64<n∧n<128
   ·refine zzL (by rw[e];exact oF q) (OO rfl rfl (zze (by unfold aJ;omega) (zzP (by unfold aJ;omega) ?_)));exact .pure (by simp) (by unfold BO;rw[if_neg (by rw[c1];decide),if_pos q])
   ·refine zzK (by rw[e];exact nO q) ?_;exact .pure (by simp) (by unfold BO;rw[if_neg (by rw[c1];decide),if_neg q])
def Mg{K:AV→aa→Prop}(q:K (i_ (Rt.iY (Rt.ax s i))) H):bx p_ (.fn (.func 136) [] []) [i_ (pk s i)] H K:=by
 refine uCon (Nc _ (Wj s i) (Wl s i)) ?_;rw[Uz];exact q
end
section
open Go Go.Aw Go.RowKit
theorem Hn(s:ae):∀k i n,(Rt.kH s k i n).2≤i+k
 | 0,i,n=>bY _
 | k+1,i,n=>by
   rw[Rt.kH];split
   ·split
    ·have:=Hn s k (i+1) (16*n+(Rt.iY ‹_›).toNat);omega
    ·simp
   ·simp
def Tr{n d:Nat}(hn:n<2^28)(hd:d<16):dq .or .i64 ((16*n:Nat):Int) (d:Int)=((16*n+d:Nat):Int):=by
 have e1:(BitVec.ofInt 64 ((16*n:Nat):Int)).toNat=16*n:=by rw[BitVec.toNat_ofInt];omega
 have e2:(BitVec.ofInt 64 ((d:Nat):Int)).toNat=d:=by rw[BitVec.toNat_ofInt];omega
 have e3:(16*n) ||| d=16*n+d:=by
  have:=Nat.shiftLeft_add_eq_or_of_lt (i:=4) (b:=d) (by omega) n;rw[Nat.shiftLeft_eq]at this;rw[Nat.mul_comm 16 n];exact this.symm
 show IntKind.i64.wrap ((BitVec.ofInt 64 ((16*n:Nat):Int) ||| BitVec.ofInt 64 ((d:Nat):Int)).toNat:Int)=_;rw[BitVec.toNat_or,e1,e2,e3,IntKind.wrap_i64];omega
def lG(ha:a<s.length):(Rt.cW s a).2≤s.length:=by
 unfold Rt.cW;split
 ·omega
 ·rename_i c hc;have hlt:=(eQ.1 hc).1;split
  ·dsimp only;omega
  ·have key:∀k i n,i≤s.length→(Rt.kH s k i n).2≤s.length:=by
    intro k;induction k with
    | zero=>intro i n hi;exact hi
    | succ k ih =>
      intro i n hi;rw[Rt.kH];split
      ·rename_i c2 hc2;have:=(eQ.1 hc2).1;split
       ·exact ih _ _ (by omega)
       ·exact hi
      ·exact hi
   have h6:=key 6 (a+1) 0 (by omega);dsimp only;split
   ·rename_i hs;have:(Rt.kH s 6 (a+1) 0).2<s.length:=by
     by_cases z:(Rt.kH s 6 (a+1) 0).2<s.length
     ·exact z
     ·rw[xx z]at hs;exact absurd hs (by decide)
    omega
   ·exact h6
def oZ(s:ae):∀n i,s.length-i≤n→i≤s.length→i≤(Rt.dk s i).2∧(Rt.dk s i).2≤s.length:=by
 intro n;induction n with
 | zero =>
   intro i hi h2;rw[Rt.dk,dif_neg (by omega)];exact⟨bY _,h2⟩
 | succ n ih =>
   intro i hi h2;rw[Rt.dk];split
   ·rename_i h;split
    ·have:=ih (i+1) (by omega) h;dsimp only;omega
    ·split
     ·have h1:=Rt.gd s i;have:=ih (Rt.cW s i).2 (by omega) (lG h);dsimp only;omega
     ·exact⟨bY _,h2⟩
   ·exact⟨bY _,h2⟩
variable [Laid]
theorem tz{id a:Nat}{K:AV→aa→Prop}(m:Mw id s a h H)(hid:id<h.length)(ey:y=.op id 0)(g:Gb h.length x H l)(hs:s.length≤2^20)(hl:l.length≤2^30)(ha:a<s.length)
 (k:∀z H',Mw id s (Rt.cW s a).2 h H'→Gb h.length z H' (l++(Rt.cW s a).1)→K z H'):bx p_ (.fn (.func 96) [] []) [y,x] H K:=by
 subst ey;refine cB (by kernel_rfl) rfl (K0:=fun r H' => Mw id s (Rt.cW s a).2 h H'∧Gb h.length r H' (l++(Rt.cW s a).1)) ?_ (fun r h' ⟨a,b⟩=>k r h' a b);refine (V96 _ _).bJ ?_;unfold Yw;have hH:=m.len;have fin:∀(z:AV) (H':aa),H.length≤H'.length→Mw id s (Rt.cW s a).2 h H'→Gb h.length z H' (l++(Rt.cW s a).1)→∃r' h'',Wk H.length [z] H' [r'] h''∧Mw id s (Rt.cW s a).2 h h''∧Gb h.length r' h'' (l++(Rt.cW s a).1):=fun z H' c a b=>⟨_,_,Wk.refl _ _ _ c,a,b⟩;refine jY m.sc (by omega) rfl ?_;have m1:=m.set (a+1);have g1:=g.mv (s:=s) (b:=a+1) hid m.sc;refine dA 0 m1.sc rfl rfl (by omega) ?_;rw[Nat.add_zero];refine zzG ?_;have hL1:h.length≤(H.set id (eB s (a+1))).length:=by simpa using hH
 by_cases q:a+1<s.length
 ·have e1:s[a+1]?=some s[a+1]:=dO q;have hat:=jo q;refine zzK (nO (by rw[kf];simpa using q)) (Mg (zzC ?_))
  by_cases q2:Rt.iY s[a+1]<0
  ·have ee:Rt.cW s a=([s[a+1]],a+2):=by unfold Rt.cW;rw[e1];simp only[if_pos q2]
   refine zzL (by rw[hat];exact oF q2) (jY m1.sc (by omega) rfl ?_);rw[aa0];refine fk (m:=(s[a+1].toNat:Int)) rfl (by rw[pG q,hat,IntKind.wrap_u8];have:=s[a+1].toNat_lt;omega) (FX ?_);refine pY (n:=h.length) (l:=l) (m:=[s[a+1]]) (g.mv (s:=s) (b:=a+1+1) hid m.sc) (by simpa using hH) (by simp;omega) rfl fun z H' gz hz oz=>?_;refine fin z H' (by simpa using hz) ?_ (by rw[ee];exact gz);rw[ee];exact (m.set (a+2)).ext hid hz oz
  ·obtain⟨R,hR⟩:∃R,Rt.kH s 6 (a+1) 0=R:=⟨_,rfl⟩;have ee:Rt.cW s a=(Rt.sH R.1,if Rt.fv (Rt.ax s R.2)=true then R.2+1 else R.2):=by unfold Rt.cW;rw[e1];simp only[if_neg q2,hR]
   have hRl:R.2≤a+7:=by rw[←hR];have:=Hn s 6 (a+1) 0;omega
   refine zzK (by rw[hat];exact nO q2) ?_;refine cS (fun t T=>nx t 0=i_ R.1∧T=H.set id (eB s R.2)∧R.1<16^6) (fun t T ht=>?_) fun F hF=>?_
   ·obtain⟨ht,rfl,hb⟩:=ht;have m2:=m.set R.2;refine cS (fun _ T=>T=H.set id (eB s (Rt.cW s a).2)) (fun _ T hT=>?_) fun F hF=>?_
    ·subst hT;rw[ht];refine cS (fun t T=>nx t 0=i_ ((if R.1=0 then 65533 else R.1:Nat):Int)∧T=H.set id (eB s (Rt.cW s a).2)) (fun t T hT=>?_) fun F hF=>?_
     ·obtain⟨ht2,rfl⟩:=hT;rw[ht2];have hb2:(if R.1=0 then 65533 else R.1)<2^24:=by split<;>omega
      refine fk (m:=((if R.1=0 then 65533 else R.1:Nat):Int)) rfl (by simp[IntKind.wrap,IntKind.bits,IntKind.signed];split<;>omega) ?_;refine KU (n0:=h.length) (g.mv (s:=s) (b:=(Rt.cW s a).2) hid m.sc) (by simpa using hH) (by omega) hb2 fun z H' gz hz oz=>?_;refine fin z H' (by simpa using hz) ((m.set _).ext hid hz oz) ?_;rw[Om]at gz;rw[show (Rt.cW s a).1=Rt.sH R.1 by rw[ee]];exact gz
     ·refine zzG ?_
      by_cases z:R.1=0
      ·refine zzL (oF (by omega)) ?_;exact aq (hF _ _ ⟨by rw[if_pos z];rfl,rfl⟩)
      ·refine zzK (nO (by omega)) ?_;exact aq (hF _ _ ⟨by rw[if_neg z];rfl,rfl⟩)
    ·refine dA 0 m2.sc rfl rfl (by omega) ?_;rw[Nat.add_zero];refine uCon (sW _) ?_;rw[Bi];cases z:Rt.fv (Rt.ax s R.2) with
     | true =>
       refine zzL rfl (jY m2.sc (by omega) rfl ?_);refine aq (hF _ _ ?_);rw[aa0,ee];simp only[z,if_true]
     | false =>
       refine zzK rfl ?_;refine aq (hF _ _ ?_);rw[ee];simp only[z,aaX,if_false]
   ·refine aZ (α:=Nat×Nat) (fun p=>p.1≤6∧p.2<16^p.1∧Rt.kH s (6-p.1) (a+1+p.1) p.2=R) (fun p=>[i_ p.2,i_ p.1]) (fun p=>H.set id (eB s (a+1+p.1))) (fun p=>6-p.1) (0,0) ⟨by omega,by decide,hR⟩ (Wk.refl _ _ _ (by simp)) ?_;rintro⟨j,n⟩ ⟨hj,hn,hr⟩;dsimp only at hj hn hr ⊢;have m2:=m.set (a+1+j);have hn28:n<2^28:=Up hn (aa7 (Nat.pow_le_pow_right (by decide) hj) (by decide));have hn6:n<16^6:=Up hn (Nat.pow_le_pow_right (by decide) hj);refine zzC ?_
    by_cases c:j<6
    ·refine zzL (oF (by omega)) (dA 0 m2.sc rfl rfl (by omega) ?_);rw[Nat.add_zero];refine Mg (zzC ?_);have e6:6-j=(5-j)+1:=by omega
     rw[e6,Rt.kH]at hr;have stop:Rt.iY (Rt.ax s (a+1+j))<0→R=(n,a+1+j):=fun z=>by
      cases z2:s[a+1+j]? with
      | none=>rw[z2]at hr;exact hr.symm
      | some c =>
        rw[z2]at hr;have:Rt.ax s (a+1+j)=c:=by unfold Rt.ax;rw[nE,z2];rfl
        rw[this]at z;simp only[if_neg (show ¬0≤Rt.iY c by omega)]at hr;exact hr.symm
     by_cases z:Rt.iY (Rt.ax s (a+1+j))<0
     ·refine zzL (oF z) ?_;obtain rfl:=stop z;exact aq (hF _ _ ⟨rfl,rfl,hn6⟩)
     ·refine zzK (nO z) ?_;obtain⟨d,hd⟩:∃d:Nat,Rt.iY (Rt.ax s (a+1+j))=(d:Int):=⟨(Rt.iY (Rt.ax s (a+1+j))).toNat,by omega⟩;have hd16:d<16:=by have:=TH (Rt.ax s (a+1+j));omega
      rw[hd];have hnx:Rt.kH s (5-j) (a+1+(j+1)) (16*n+d)=R:=by
       cases z2:s[a+1+j]? with
       | none =>
         exfalso;have:Rt.ax s (a+1+j)=0:=by unfold Rt.ax;rw[nE,z2];rfl
         rw[this]at hd;have:Rt.iY 0=-1:=by decide
         omega
       | some c =>
         rw[z2]at hr;have:Rt.ax s (a+1+j)=c:=by unfold Rt.ax;rw[nE,z2];rfl
         rw[this]at hd;simp only[if_pos (show 0≤Rt.iY c by omega)]at hr;rw[hd]at hr;exact hr
      refine VL (c:=((16*n:Nat):Int)) rfl rfl (by decide) ?_ ?_
      ·show IntKind.i64.wrap ((n:Int)*16)=_;rw[IntKind.wrap_i64];omega
      refine pC rfl rfl ?_;rw[Tr hn28 hd16];refine jY m2.sc (by omega) rfl ?_;rw[aa0];refine zzP (by unfold aJ;omega) ?_;refine aq ⟨(j+1,16*n+d),⟨c, ?_, ?_⟩,Wk.refl _ _ _ (by simp),by dsimp only;omega⟩
      ·dsimp only;rw[Nat.pow_succ];omega
      ·dsimp only;rw[show 6-(j+1)=5-j by omega];exact hnx
    ·refine zzK (nO (by omega)) ?_;obtain rfl:j=6:=by omega
     rw[show 6-6=0 from rfl,Rt.kH]at hr;subst hr;exact aq (hF _ _ ⟨rfl,rfl,hn6⟩)
 ·have ee:Rt.cW s a=(Rt.lQ,a+1):=by unfold Rt.cW;rw[iS (by omega)]
  refine zzL (oF (by rw[kf];exact q)) ?_;refine KU (n0:=h.length) (n:=65533) g1 (by simpa using hH) (by omega) (by decide) fun z H' gz hz oz=>?_;refine fin z H' (by simpa using hz) ?_ (by rw[ee];exact gz);rw[ee];exact m1.ext hid hz oz
theorem xM{id a:Nat}{K:AV→aa→Prop}(sc:Sc id h s a)(ey:y=.op id 0)(hs:s.length≤2^20)(ha:a≤s.length)
 (k:∀H,Mw id s (Rt.dk s a).2 h H→K (.str (Rt.dk s a).1) H):bx p_ (.fn (.func 68) [] []) [y] h K:=by
 subst ey;have hid:=sc.lt;refine cB (by kernel_rfl) rfl (K0:=fun r H=>r=.str (Rt.dk s a).1∧Mw id s (Rt.dk s a).2 h H) ?_ (by rintro r H ⟨rfl,m⟩;exact k H m);refine (V68 _).bJ ?_;unfold X9;obtain⟨R,hR⟩:∃R,Rt.dk s a=R:=⟨_,rfl⟩;rw[hR];refine aZ (α:=Nat×AV×aa×ae) (fun p=>p.1≤s.length∧Mw id s p.1 h p.2.2.1∧Gb h.length p.2.1 p.2.2.1 p.2.2.2∧p.2.2.2.length≤4*p.1∧(p.2.2.2++(Rt.dk s p.1).1,(Rt.dk s p.1).2)=R) (fun p=>[p.2.1]) (fun p=>p.2.2.1) (fun p=>s.length-p.1) (a,.v (.slice none 0 0),h,[]) ⟨ha,Mw.refl sc,.inl ⟨rfl,rfl⟩,by simp,by simpa using hR⟩ (Wk.refl _ _ _ (bY _)) ?_;rintro⟨i,x,H,l⟩ ⟨hi,m,g,hl,hr⟩;dsimp only at hi m g hl hr ⊢;have hH:=m.len;refine dA 0 m.sc rfl rfl (by omega) ?_;rw[Nat.add_zero];refine uCon (Al _) ?_;show af (b_ (T6 (pk s i))) _ _;rw[Lx];rw[Rt.dk]at hr;cases c:Rt.fq (Rt.ax s i) with
 | true =>
   have hlt:i<s.length:=by
    by_cases z:i<s.length
    ·exact z
    ·rw[xx z]at c;exact absurd c (by decide)
   have hat:=jo hlt;rw[hat]at c;simp only[dif_pos hlt,if_pos c]at hr;refine zzL rfl (fk (m:=(s[i].toNat:Int)) rfl (by rw[pG hlt,hat,IntKind.wrap_u8];have:=s[i].toNat_lt;omega) (FX ?_));refine pY (n:=h.length) (l:=l) (m:=[s[i]]) g hH (by simp;omega) rfl fun z H' gz hz oz=>?_;have m2:=m.ext hid hz oz;refine jY m2.sc (by omega) rfl ?_;refine aq ⟨(i+1,z,H'.set id (eB s (i+1)),l++[s[i]]),⟨hlt,m2.set _,gz.mv hid m2.sc,by simp;omega,by rw[To];exact hr⟩,Wk.refl _ _ _ (by simpa using m2.len),by dsimp only;omega⟩
 | false =>
   refine zzK rfl (zzH ?_);refine cS (fun t T=>T=H∧((nx t 0=ff∧¬i<s.length)∨(nx t 0=tt∧nx t 1=b_ (Rt.cC s i)∧i<s.length))) (fun t T ht=>?_) fun F hF=>?_
   ·obtain⟨rfl,ht⟩:=ht;have hend:(¬i<s.length∨Rt.cC s i=false)→R=(l,i):=fun z=>by
     by_cases z1:i<s.length
     ·have z2:=z.resolve_left (by simpa using z1);rw[jo z1]at c;simp only[dif_pos z1,c,z2,aaX,if_false]at hr;rw[←hr];simp
     ·simp only[dif_neg z1]at hr;rw[←hr];simp
    have stop:R=(l,i)→cP x T fun v28=>∃r' h'',Wk h.length [v28] T [r'] h''∧r'=.str R.1∧Mw id s R.2 h h'':=fun z=>by
     subst z;exact EH g ⟨_,_,Wk.refl _ _ _ hH,rfl,m⟩
    rcases ht with⟨t1,t2⟩|⟨t1,t2,t3⟩
    ·rw[t1];refine zzQ ?_;exact zzK rfl (stop (hend (.inl t2)))
    ·rw[t1,t2];refine zzR ?_;cases z:Rt.cC s i with
     | false=>exact zzK rfl (stop (hend (.inr z)))
     | true =>
       rw[jo t3]at c;simp only[dif_pos t3,c,z,aaX,if_false,if_true]at hr;refine zzL rfl ?_;have h1:=Rt.gd s i;have h2:(Rt.cW s i).1.length≤4:=by
        unfold Rt.cW;split
        ·simp[Rt.lQ]
        ·split
         ·simp
         ·simp only[Rt.sH];repeat' split
          all_goals simp[Rt.lQ]
       refine tz m hid rfl g hs (by omega) t3 fun z H' mz gz=>?_;refine aq ⟨((Rt.cW s i).2,z,H',l++(Rt.cW s i).1),⟨lG t3,mz,gz,by simp;omega,by rw[To];exact hr⟩,Wk.refl _ _ _ mz.len,by dsimp only;omega⟩
   ·by_cases z:i<s.length
    ·refine zzN (by rw[nO (by rw[kf];simpa using z)];rfl) (xL 0 m.sc rfl rfl (by omega) ?_);rw[Nat.add_zero,uk];exact aq (hF _ _ ⟨rfl,.inr ⟨rfl,rfl,z⟩⟩)
    ·refine zzM (by rw[oF (kf.2 z)]) ?_;refine aq (hF _ _ ⟨rfl,.inl ⟨?_,z⟩⟩);rw[oF (kf.2 z)];rfl
end
section
open Go.Shelf
theorem uSo4{α:Type}{a b:α}(h:a=b:=by kernel_rfl):some a=some b:=congrArg some h
def lays143_ren:Go.Shelf.Ren:=⟨fun|143=>60|219=>95|217=>103|225=>132|224=>133|267=>134|266=>142|314=>164|n=>n,fun|9=>9|3=>3|4=>4|5=>5|46=>188|146=>221|51=>150|n=>n,fun|1=>0|n=>n⟩
theorem lays143:Go.Proofs.Lays.n143 p_ lays143_ren:={
 mixed:=by kernel_rfl
 f143:=Tryz.func60.trans uSo4
 f217:=Tryz.func103.trans uSo4
 f219:=Tryz.func95.trans uSo4
 f224:=Tryz.func133.trans uSo4
 f225:=Tryz.func132.trans uSo4
 f266:=Tryz.func142.trans uSo4
 f267:=Tryz.func134.trans uSo4
 f314:=Tryz.func164.trans uSo4
 t3:=Tryz.underlying3
 a3:=Tryz.isAgg3
 z3:=Tryz.sizeOf3
 v3:=Tryz.zeroValue3
 t4:=Tryz.underlying4
 a4:=Tryz.isAgg4
 z4:=Tryz.sizeOf4
 v4:=Tryz.zeroValue4
 t5:=Tryz.underlying5
 a5:=Tryz.isAgg5
 z5:=Tryz.sizeOf5
 v5:=Tryz.zeroValue5
 t9:=Tryz.underlying9
 a9:=Tryz.isAgg9
 z9:=Tryz.sizeOf9
 v9:=Tryz.zeroValue9
 t46:=Tryz.underlying188
 a46:=Tryz.isAgg188
 z46:=Tryz.sizeOf188
 v46:=Tryz.zeroValue188
 t51:=Tryz.underlying150
 a51:=Tryz.isAgg150
 z51:=Tryz.sizeOf150
 v51:=Tryz.zeroValue150
 t146:=Tryz.underlying221
 a146:=Tryz.isAgg221
 z146:=Tryz.sizeOf221
 v146:=Tryz.zeroValue221
 g1:=by kernel_rfl }
def laysM143_ren:Go.Shelf.Ren:=⟨fun|143=>60|219=>95|217=>103|225=>132|224=>133|267=>134|266=>142|314=>164|n=>n,fun|9=>9|3=>3|4=>4|5=>5|46=>188|146=>221|51=>150|n=>n,fun|1=>0|n=>n⟩
theorem laysM143:Go.Proofs.LaysM.n143 p_ laysM143_ren:={
 mixed:=by kernel_rfl
 f143:=Tryz.func60.trans uSo4
 f217:=Tryz.func103.trans uSo4
 f219:=Tryz.func95.trans uSo4
 f224:=Tryz.func133.trans uSo4
 f225:=Tryz.func132.trans uSo4
 f266:=Tryz.func142.trans uSo4
 f267:=Tryz.func134.trans uSo4
 f314:=Tryz.func164.trans uSo4
 t3:=Tryz.underlying3
 a3:=Tryz.isAgg3
 z3:=Tryz.sizeOf3
 v3:=Tryz.zeroValue3
 t4:=Tryz.underlying4
 a4:=Tryz.isAgg4
 z4:=Tryz.sizeOf4
 v4:=Tryz.zeroValue4
 t5:=Tryz.underlying5
 a5:=Tryz.isAgg5
 z5:=Tryz.sizeOf5
 v5:=Tryz.zeroValue5
 t9:=Tryz.underlying9
 a9:=Tryz.isAgg9
 z9:=Tryz.sizeOf9
 v9:=Tryz.zeroValue9
 t46:=Tryz.underlying188
 a46:=Tryz.isAgg188
 z46:=Tryz.sizeOf188
 v46:=Tryz.zeroValue188
 t51:=Tryz.underlying150
 a51:=Tryz.isAgg150
 z51:=Tryz.sizeOf150
 v51:=Tryz.zeroValue150
 t146:=Tryz.underlying221
 a146:=Tryz.isAgg221
 z146:=Tryz.sizeOf221
 v146:=Tryz.zeroValue221
 g1:=by kernel_rfl
 i3:=by kernel_rfl
 i4:=by kernel_rfl
 i5:=by kernel_rfl
 i9:=by kernel_rfl
 i46:=by kernel_rfl
 i51:=by kernel_rfl
 i146:=by kernel_rfl
 m1:=by kernel_rfl
 s1_3:=fun w h=>Go.Proofs.cell_of_shapedOpen_int (zero:=#[.int .i64 0]) (t:=3) h (of_decide_eq_true (by kernel_rfl)) (by kernel_rfl) rfl (by kernel_rfl) (by kernel_rfl) Tryz.underlying3 }
end
section
open Go Go.Aw Go.RowKit
variable [bp]
def BD(l m:List UInt8)(hl:l.length<4294967281)(h:aa):bW p_ 60 [.str l,.str m] h fun r hh=>r=i_ (Lib.index l m)∧hh=h:=by
 intro base ι S w vs h1 h2;have hg:=(h2.gl 0 [i_ bp.m] rfl).1.get 0 (i_ bp.m) rfl;obtain⟨u,hu,_,hr⟩:=hg;rw[cz]at hr;subst hr;rw[aa4]at hu
 match vs,h1 with
 | [],h1=>simp at h1
 | [v],h1=>simp at h1
 | v:: u:: x:: vs,h1=>simp at h1
 | [v,u],h1 =>
   simp only[bP,dt,and_true,eF]at h1;obtain⟨⟨rfl,_⟩,rfl,_⟩:=h1;refine (Any.strings_Index lays143 ⟨l.toArray⟩ ⟨m.toArray⟩ bp.m w (by simp[ByteArray.size];omega) hu).mono ?_;rintro e w' ⟨rfl,rfl⟩;exact⟨_,ι,S,i_ (Lib.index l m),h,rfl,bS.refl _ _ _ _ _,by simp,h2,bY _,rfl,rfl⟩
end
section
open Go Go.Aw Go.RowKit
def RX(b:Bool)(s:List AV):Prop:=(nx s 0=tt∧b=true)∨(nx s 0=ff∧nx s 1=Aw.b_ b)
def My(b:Bool)(s:List AV):Prop:=(nx s 0=ff∧b=false)∨(nx s 0=tt∧nx s 1=Aw.b_ b)
def lR(h:RX b s){K:AV→Prop}(q:K (Aw.b_ b)):bQ (nx s 0) tt (nx s 1) K:=by
 rcases h with⟨h1,rfl⟩|⟨h1,h2⟩
 ·exact aL h1 q
 ·exact aQ h1 (by rw[h2];exact q)
def lv(h:My b s){K:AV→Prop}(q:K (Aw.b_ b)):bQ (nx s 0) (nx s 1) ff K:=by
 rcases h with⟨h1,rfl⟩|⟨h1,h2⟩
 ·exact aQ h1 q
 ·exact aL h1 (by rw[h2];exact q)
def mN(b:Bool){vs:List AV}{A:(List AV→aa→Prop)→Prop}{f:List AV→aa→Prop}(ec:c=.v (.bool b1))(hb:b1=true→b=true)(hA:b1=false→∀F:List AV→aa→Prop,F [ff,Aw.b_ b] H→A F)(q:∀s,RX b s→f s H):aG (fun J=>aM c false (A J) (vs=vs∧J [cd false c,un] H)) f:=by
 subst ec;show aM _ _ _ _;cases b1 with
 | true=>exact zzM rfl (aq (q _ (.inl ⟨rfl,hb rfl⟩)))
 | false=>exact zzN rfl (hA rfl _ (q _ (.inr ⟨rfl,rfl⟩)))
def mA(b:Bool){vs:List AV}{A:(List AV→aa→Prop)→Prop}{f:List AV→aa→Prop}(ec:c=.v (.bool b1))(hb:b1=false→b=false)(hA:b1=true→∀F:List AV→aa→Prop,F [tt,Aw.b_ b] H→A F)(q:∀s,My b s→f s H):aG (fun J=>aM c true (A J) (vs=vs∧J [cd true c,un] H)) f:=by
 subst ec;show aM _ _ _ _;cases b1 with
 | false=>exact zzM rfl (aq (q _ (.inl ⟨rfl,hb rfl⟩)))
 | true=>exact zzN rfl (hA rfl _ (q _ (.inr ⟨rfl,rfl⟩)))
def ui(hi:i≤s.length):i≤Rt.fT s i∧Rt.fT s i≤s.length:=by
 unfold Rt.fT;have:=(List.takeWhile_sublist (l:=s.drop i) Rt.ck).length_le;rw[List.length_drop]at this;omega
def at_lt(h:Rt.ax s i≠0):i<s.length:=by
 by_cases q:i<s.length
 ·exact q
 ·exact absurd (xx q) h
def Ay(h:Rt.ck (Rt.ax s i)=true):i<s.length:=at_lt fun e=>by rw[e]at h;exact absurd h (by decide)
def gi(n:Int)(hn:n=(c.toNat:Int))(hc:c≠0)(s:ae)(i:Nat):decide (pk s i=n)=decide (Rt.ax s i=c):=by subst hn;exact Av hc s i
def jj(s:ae)(i:Nat):Nat:=if Rt.ax s i=43∨Rt.ax s i=45 then i+1 else i
def FJ(hi:i≤s.length):i≤jj s i∧jj s i≤s.length:=by
 unfold jj;split
 ·rename_i h;have:i<s.length:=at_lt (by rcases h with h|h<;>rw[h]<;>decide);omega
 ·exact⟨bY _,hi⟩
def qc(s:ae)(i1:Nat):Nat×Bool:=if Rt.ax s i1=46∧Rt.ck (Rt.ax s (i1+1))=true then (Rt.fT s (i1+1),false) else (i1,true)
def wq(s:ae)(r:Nat×Bool):Nat×Bool:=if Rt.ax s r.1=101∨Rt.ax s r.1=69 then (if Rt.ck (Rt.ax s (jj s (r.1+1)))=true then (Rt.fT s (jj s (r.1+1)),false) else r) else r
def B9(s:ae)(i:Nat):Rt.gU s i=wq s (qc s (Rt.fT s (jj s i))):=by
 unfold Rt.gU wq qc jj;rfl
def LC(hi:i≤s.length):i≤(qc s i).1∧(qc s i).1≤s.length:=by
 unfold qc;split
 ·rename_i h;have:=Ay h.2;have:=ui (s:=s) (i:=i+1) (by omega);dsimp only;omega
 ·exact⟨bY _,hi⟩
def TD(hi:r.1≤s.length):r.1≤(wq s r).1∧(wq s r).1≤s.length:=by
 unfold wq;split
 ·split
  ·rename_i h;have h2:=Ay h;have h1:r.1+1≤jj s (r.1+1):=by unfold jj;split<;>omega
   have:=ui (s:=s) (i:=jj s (r.1+1)) (by omega);dsimp only;omega
  ·exact⟨bY _,hi⟩
 ·exact⟨bY _,hi⟩
def B8(hi:i≤s.length):i≤(Rt.gU s i).1∧(Rt.gU s i).1≤s.length:=by
 rw[B9];have h1:=FJ hi;have h2:=ui h1.2;have h3:=LC h2.2;have h4:=TD (r:=qc s (Rt.fT s (jj s i))) h3.2;omega
section
variable [Laid]
def ES{id:Nat}{K:AV→aa→Prop}(sc:Sc id h s a)(ex:x=.op id 0)(ha:a≤s.length)(hl:s.length≤2^20)(k:K (.ay []) (h.set id (eB s (Rt.fT s a)))):bx p_ (.fn (.func 63) [] []) [x,.fn (.func 98) [] []] h K:=by
 refine HB (f:=98) (p:=fun n=>jx n 48 57) sc ex (by kernel_rfl) nN (by decide) ha (by omega) ?_;rw[Ci];exact k
def AM{id:Nat}{K:AV→aa→Prop}(sc:Sc id h s a)(ex:x=.op id 0)(ha:a≤s.length)(hl:s.length≤2^20)(k:K (.ay []) (h.set id (eB s (Rt.fe s a)))):bx p_ (.fn (.func 63) [] []) [x,.fn (.func 62) [] []] h K:=by
 refine HB (f:=62) (p:=uF) sc ex (by kernel_rfl) sW (by decide) ha (by omega) ?_;rw[Ic];exact k
def TU{id a:Nat}{K:AV→aa→Prop}(sc:Sc id h s a)(ey:y=.op id 0)(hs:s.length≤2^20)(ha:a≤s.length)(k:K (Aw.b_ (Rt.gU s a).2) (h.set id (eB s (Rt.gU s a).1))):bx p_ (.fn (.func 99) [] []) [y] h K:=by
 subst ey;refine cB (by kernel_rfl) rfl (K0:=fun r H=>r=Aw.b_ (Rt.gU s a).2∧H=h.set id (eB s (Rt.gU s a).1)) ?_ (by rintro r H ⟨rfl,rfl⟩;exact k);refine (V99 _).bJ ?_;unfold Yz;rw[B9];have h1:=FJ ha;have h2:=ui h1.2;have h3:=LC h2.2;obtain⟨r,hr⟩:∃r,qc s (Rt.fT s (jj s a))=r:=⟨_,rfl⟩;rw[hr]at h3 ⊢;have fin:∀(b:Bool) (i:Nat),wq s r=(i,b)→∃r' h'',Wk h.length [Aw.b_ b] (h.set id (eB s i)) [r'] h''∧r'=Aw.b_ (wq s r).2∧h''=h.set id (eB s (wq s r).1):=fun b i e=>⟨_,_,Wk.refl _ _ _ (by simp),by rw[e],by rw[e]⟩;refine cS (fun _ T=>T=h.set id (eB s (jj s a))) (fun _ T hT=>?_) fun F hF=>?_
 ·subst hT;refine ES (sc.set _) rfl h1.2 hs ?_;rw[aa0];refine cS (fun t T=>nx t 0=Aw.b_ r.2∧T=h.set id (eB s r.1)) (fun t T hT=>?_) fun F hF=>?_
  ·obtain⟨ht,rfl⟩:=hT;rw[ht];have sc3:=sc.set r.1;refine dA 0 sc3 rfl rfl (by omega) ?_;rw[Nat.add_zero];refine zzG ?_;rw[gi (c:=101) 101 rfl (by decide)];refine mN (decide (Rt.ax s r.1=101∨Rt.ax s r.1=69)) rfl (fun z=>by simp at z;simp[z]) (fun z F hF=>?_) fun t ht=>?_
   ·refine dA 0 sc3 rfl rfl (by omega) ?_;rw[Nat.add_zero];refine zzG ?_;rw[gi (c:=69) 69 rfl (by decide)];have z:=tO z;simp only[z,false_or]at hF;exact aq hF
   refine lR ht ?_
   by_cases q:Rt.ax s r.1=101∨Rt.ax s r.1=69
   ·refine zzL (oF q) ?_;have hlt:r.1<s.length:=at_lt (by rcases q with q|q<;>rw[q]<;>decide);have e:wq s r=if Rt.ck (Rt.ax s (jj s (r.1+1)))=true then (Rt.fT s (jj s (r.1+1)),false) else r:=by unfold wq;rw[if_pos q]
    obtain⟨n,hn⟩:∃n:Nat,jj s (r.1+1)=r.1+n∧(n=1∨n=2):=by
     unfold jj;split
     ·exact⟨2,by omega,.inr rfl⟩
     ·exact⟨1,rfl,.inl rfl⟩
    rw[hn.1]at e;refine cS (fun t T=>nx t 0=i_ n∧T=h.set id (eB s r.1)) (fun t T hT=>?_) fun F hF=>?_
    ·obtain⟨ht,rfl⟩:=hT;rw[ht];refine dA n sc3 rfl rfl (by omega) (uCon (nN _) ?_);rw[uA];cases z:Rt.ck (Rt.ax s (r.1+n)) with
     | true =>
       rw[if_pos z]at e;have hlt2:=Ay z;refine zzL rfl (bA (zzA (zzU sc3 rfl (zzP (by unfold aJ;omega) (bA (zzA ?_))))));refine aU (cs:=[i_ ((r.1:Int)+n)]) (h':=h.set id (eB s (r.1+n))) rfl sc3 rfl rfl (by simp) rfl rfl ?_ ?_
       ·show (h.set id (eB s r.1)).set id (.ak ⟨101,[.str s,i_ ((r.1:Int)+n)],true⟩)=_;rw[aa0];show _=List.set h id (.ak ⟨101,[.str s,i_ ((r.1+n:Nat):Int)],true⟩);rw[show ((r.1+n:Nat):Int)=(r.1:Int)+n by omega]
       refine ES (sc.set _) rfl (by omega) hs ?_;rw[aa0];exact fin false _ e
     | false =>
       rw[if_neg (by rw[z];decide)]at e;refine zzK rfl ?_;exact fin r.2 r.1 e
    ·refine dA 1 sc3 rfl rfl (by omega) (zzG ?_);rw[gi (c:=43) 43 rfl (by decide)];refine mN (decide (Rt.ax s (r.1+1)=43∨Rt.ax s (r.1+1)=45)) rfl (fun z=>by simp at z;simp[z]) (fun z F hF=>?_) fun t ht=>?_
     ·refine zzG ?_;rw[gi (c:=45) 45 rfl (by decide)];have z:=tO z;simp only[z,false_or]at hF;exact aq hF
     refine lR ht ?_
     by_cases z:Rt.ax s (r.1+1)=43∨Rt.ax s (r.1+1)=45
     ·have hn1:=hn.1;unfold jj at hn1;rw[if_pos z]at hn1;refine zzL (oF z) (zzP (by unfold aJ;omega) ?_);refine aq (hF _ _ ⟨?_,rfl⟩);show i_ ((1:Int)+1)=_;rw[show (1:Int)+1=(n:Int) by omega]
     ·have hn1:=hn.1;unfold jj at hn1;rw[if_neg z]at hn1;refine zzK (nO z) ?_;refine aq (hF _ _ ⟨?_,rfl⟩);show i_ (1:Int)=_;rw[show (1:Int)=(n:Int) by omega]
   ·refine zzK (nO q) ?_;exact fin r.2 r.1 (by unfold wq;rw[if_neg q])
  ·have sc3:=sc.set (Rt.fT s (jj s a));refine dA 0 sc3 rfl rfl (by omega) ?_;rw[Nat.add_zero];refine zzG ?_;rw[gi (c:=46) 46 rfl (by decide)];obtain⟨i1,hi1⟩:∃i1,Rt.fT s (jj s a)=i1:=⟨_,rfl⟩;rw[hi1]at sc3 h2 hr ⊢;refine mA (decide (Rt.ax s i1=46∧Rt.ck (Rt.ax s (i1+1))=true)) rfl (fun z=>by simp at z;simp[z]) (fun z F hF=>?_) fun t ht=>?_
   ·refine dA 1 sc3 rfl rfl (by omega) (uCon (nN _) ?_);rw[uA];have z:=oN z;simp only[z,true_and,Bool.decide_eq_true]at hF;exact aq hF
   refine lv ht ?_
   by_cases q:Rt.ax s i1=46∧Rt.ck (Rt.ax s (i1+1))=true
   ·have hlt:=Ay q.2;refine zzL (oF q) (jY sc3 (by omega) rfl ?_);rw[aa0];refine ES (sc.set _) rfl (by omega) hs ?_;rw[aa0];unfold qc at hr;rw[if_pos q]at hr;subst hr;exact aq (hF _ _ ⟨rfl,rfl⟩)
   ·refine zzK (nO q) ?_;unfold qc at hr;rw[if_neg q]at hr;subst hr;exact aq (hF _ _ ⟨rfl,rfl⟩)
 ·refine dA 0 sc rfl rfl (by omega) ?_;rw[Nat.add_zero];refine zzG ?_;rw[gi (c:=43) 43 rfl (by decide)];refine mN (decide (Rt.ax s a=43∨Rt.ax s a=45)) rfl (fun z=>by simp at z;simp[z]) (fun z F hF=>?_) fun t ht=>?_
  ·refine zzG ?_;rw[gi (c:=45) 45 rfl (by decide)];have z:=tO z;simp only[z,false_or]at hF;exact aq hF
  refine lR ht ?_
  by_cases q:Rt.ax s a=43∨Rt.ax s a=45
  ·refine zzL (oF q) (jY sc (by omega) rfl ?_);refine aq (hF _ _ ?_);unfold jj;rw[if_pos q]
  ·refine zzK (nO q) ?_;refine aq (hF _ _ ?_);unfold jj;rw[if_neg q,ku sc]
end
/-! ### Comments -/
def yS(s:ae)(i:Nat)(m:ae):(decide (m.length≤(s.drop i).length)&&decide ((s.drop i).take m.length=m))=Rt.hasB s i m:=by
 unfold Rt.hasB
 by_cases h:(s.drop i).take m.length=m
 ·have:m.length≤(s.drop i).length:=by
   have:=congrArg List.length h;rw[aaW]at this;omega
  rw[oF h,oF this];rfl
 ·rw[nO h,Bool.and_false]
def NJ(s:ae):∀n j,s.length-j≤n→j≤s.length→Rt.mW s j=if Lib.index (s.drop j) [42,47]<0 then s.length else j+(Lib.index (s.drop j) [42,47]).toNat+2:=by
 intro n;induction n with
 | zero =>
   intro j hn hj;have:s.drop j=[]:=List.drop_eq_nil_of_le (by omega);rw[this,Rt.mW,dif_neg (by omega)];rfl
 | succ n ih =>
   intro j hn hj
   by_cases h:j<s.length
   ·have hd:s.drop j=s[j]:: s.drop (j+1):=abo h;rw[Rt.mW,dif_pos h];have hp:([42,47]:ae).isPrefixOf (s.drop j)=Rt.hasB s j [42,47]:=by
     unfold Rt.hasB;rw[Bool.eq_iff_iff,List.isPrefixOf_iff_prefix,List.prefix_iff_eq_take,decide_eq_true_iff];exact eq_comm
    have hi:Lib.index (s.drop j) [42,47]=if Rt.hasB s j [42,47]=true then 0 else if Lib.index (s.drop (j+1)) [42,47] == -1 then -1 else Lib.index (s.drop (j+1)) [42,47]+1:=by
     rw[←hp,hd];rfl
    rw[hi]
    by_cases q:Rt.hasB s j [42,47]=true
    ·rw[if_pos q,if_pos q];simp
    ·rw[if_neg q,if_neg q,ih (j+1) (by omega) h];have hg:=Lib.index_ge (s.drop (j+1)) [42,47]
     by_cases z:Lib.index (s.drop (j+1)) [42,47]=-1
     ·rw[z];simp
     ·have e:(if (Lib.index (s.drop (j+1)) [42,47] == -1)=true then (-1:Int) else Lib.index (s.drop (j+1)) [42,47]+1)=Lib.index (s.drop (j+1)) [42,47]+1:=if_neg (by simpa using z);rw[e,if_neg (show ¬Lib.index (s.drop (j+1)) [42,47]<0 by omega),if_neg (by omega)];omega
   ·have:s.drop j=[]:=List.drop_eq_nil_of_le (by omega);rw[this,Rt.mW,dif_neg h];rfl
def rS(h:Rt.hasB s i x=true)(hx:0<x.length):i+x.length≤s.length:=by
 unfold Rt.hasB at h;have:=congrArg List.length (oN h);rw[aaW,List.length_drop]at this;omega
theorem BH(s:ae):∀n j,s.length-j≤n→j≤s.length→Rt.mW s j≤s.length
 | 0,j,hn,hj=>by rw[Rt.mW,dif_neg (by omega)];exact bY _
 | n+1,j,hn,hj=>by
   rw[Rt.mW];split
   ·rename_i h;split
    ·rename_i q;exact rS (x:=[42,47]) q (by decide)
    ·exact BH s n (j+1) (by omega) h
   ·exact bY _
theorem uz(s:ae):∀n j,s.length-j≤n→j≤s.length→j≤Rt.fZ s j∧Rt.fZ s j≤s.length
 | 0,j,hn,hj=>by rw[Rt.fZ,dif_neg (by omega)];exact⟨bY _,hj⟩
 | n+1,j,hn,hj=>by
   rw[Rt.fZ];split
   ·rename_i h;have h1:=Rt.xE s (j+2);have h3:=rS (x:=[47,42]) h.2 (by decide);have h2:=BH s s.length (j+2) (by omega) h3;have:=uz s n (Rt.mW s (j+2)) (by simp at h3;omega) h2;simp at h3;exact⟨by omega,this.2⟩
   ·exact⟨bY _,hj⟩
variable [bp]
def Hw{id a:Nat}{K:AV→aa→Prop}(sc:Sc id h s a)(ey:y=.op id 0)(hs:s.length≤2^20)(ha:a≤s.length)(k:K (.ay []) (h.set id (eB s (Rt.fZ s a)))):bx p_ (.fn (.func 43) [] []) [y] h K:=by
 subst ey;refine cB (by kernel_rfl) rfl (K0:=fun r H=>r=.ay []∧H=h.set id (eB s (Rt.fZ s a))) ?_ (by rintro r H ⟨rfl,rfl⟩;exact k);refine (V43 _).bJ ?_;unfold XO;obtain⟨R,hR⟩:∃R,Rt.fZ s a=R:=⟨_,rfl⟩;rw[hR];refine aZ (α:=Nat) (fun j=>j≤s.length∧Rt.fZ s j=R) (fun _=>[]) (fun j=>h.set id (eB s j)) (fun j=>s.length-j) a ⟨ha,hR⟩ (by rw[ku sc];exact Wk.refl _ _ _ (bY _)) ?_;rintro j ⟨hj,hp⟩;have sc2:=sc.set j;refine bA (zzA (zzU sc2 rfl (bA (zzA (zzU sc2 rfl (oH (a:=j) (b:=s.length) (r:=s.drop j) rfl rfl rfl (by omega) (bY _) (by rw[BY]) ?_))))));refine⟨_,uCon (rM _ _) ⟨rfl,rfl⟩, ?_⟩;rw[yS];rw[Rt.fZ]at hp;cases q:Rt.hasB s j [47,42] with
 | false =>
   rw[dif_neg (by rw[q];simp)]at hp;subst hp;refine zzK rfl ?_;exact⟨_,_,Wk.refl _ _ _ (by simp),rfl,rfl⟩
 | true =>
   have h3:=rS (x:=[47,42]) q (by decide);simp only[aaP,abr]at h3;rw[dif_pos ⟨by omega,q⟩]at hp;have he:=NJ s s.length (j+2) (by omega) (by omega);have hin:=BH s s.length (j+2) (by omega) (by omega);have hge:=Lib.index_ge (s.drop (j+2)) [42,47];refine zzL rfl (bA (zzA (zzU sc2 rfl (bA (zzA (zzU sc2 rfl (zzP (by unfold aJ;omega) (oH (a:=j+2) (b:=s.length) (r:=s.drop (j+2)) rfl (by simp[eX]) rfl (by omega) (bY _) (by rw[BY]) ?_))))))));refine⟨_,cB (by kernel_rfl) rfl (BD _ _ (by simp;omega) _) fun r h' z=>z, ?_⟩;refine zzC ?_
   by_cases z:Lib.index (s.drop (j+2)) [42,47]<0
   ·rw[if_pos z]at he;rw[he,Rt.fZ,dif_neg (by omega)]at hp;subst hp;refine zzL (oF z) (bA (zzA (zzU sc2 rfl ?_)));refine zzZ fun _=>?_;refine bA (zzA (aU (cs:=[i_ (s.length:Int)]) (h':=h.set id (eB s s.length)) rfl sc2 rfl rfl (by simp) rfl rfl (by rw[aa0];rfl) ?_));exact⟨_,_,Wk.refl _ _ _ (by simp),rfl,rfl⟩
   ·rw[if_neg z]at he;refine zzK (nO z) (bA (zzA (zzU sc2 rfl (zzP (by unfold aJ;omega) (zzP (by unfold aJ;omega) (bA (zzA (aU (cs:=[i_ ((Rt.mW s (j+2):Nat):Int)]) (h':=h.set id (eB s (Rt.mW s (j+2)))) rfl sc2 rfl (by show [i_ ((j:Int)+(Lib.index (s.drop (j+2)) [42,47]+4))]=_;rw[show (j:Int)+(Lib.index (s.drop (j+2)) [42,47]+4)=((Rt.mW s (j+2):Nat):Int) by omega]) (by simp) rfl rfl (by rw[aa0];rfl) ?_))))))));have hge2:=Rt.xE s (j+2);exact aq ⟨Rt.mW s (j+2),⟨hin,hp⟩,Wk.refl _ _ _ (by simp),by omega⟩
end
section
open Go Go.Aw Go.RowKit
def sY(c:UInt8):Nat:=(c.toNat+208)%256
def jM(most:Nat)(l:ae):Nat:=l.foldl (fun n c=>min (10*n+sY c) most) 0
def xw(most:Nat)(l:ae):jM most l≤most:=by
 unfold jM;have key:∀(l:ae) (a:Nat),a≤most→l.foldl (fun n c=>min (10*n+sY c) most) a≤most:=by
  intro l;induction l with
  | nil=>intro a h;exact h
  | cons c l ih=>intro a h;exact ih _ (Nat.min_le_right _ _)
 exact key l 0 (aa2 _)
def Ka{most:Nat}{l:ae}{k:Nat}(h:k<l.length):jM most (l.take (k+1))=min (10*jM most (l.take k)+sY l[k]) most:=by
 unfold jM;rw[List.take_succ_eq_append_getElem h,aa6];rfl
def ji:Nat:=1000000000000
def qy(t:ae):Int:=if 0≤Lib.indexAny t [101,69] then (if Rt.ax t ((Lib.indexAny t [101,69]).toNat+1)=45 then -(jM 1048576 (Lib.trimLeftS (t.drop ((Lib.indexAny t [101,69]).toNat+1)) [43,45]):Int) else (jM 1048576 (Lib.trimLeftS (t.drop ((Lib.indexAny t [101,69]).toNat+1)) [43,45]):Int)) else 0
def pZ(t:ae):ae:=if 0≤Lib.indexAny t [101,69] then t.take (Lib.indexAny t [101,69]).toNat else t
def oB(t:ae):Int:=3+qy t-((Lib.cut (pZ t) [46]).2.1.length:Int)
def u6(t:ae):ae:=(Lib.cut (pZ t) [46]).1++(Lib.cut (pZ t) [46]).2.1
def ov(t:ae):ae:=if oB t<0 then (u6 t).take (max 0 ((u6 t).length+oB t)).toNat else u6 t
def vr(t:ae):Nat:=Rt.tI ji (oB t).toNat (jM ji (ov t))
def nh(x:ae):Int:=if Rt.ax x 0=45 then -(vr (Lib.trimLeftS x [43,45]):Int) else (vr (Lib.trimLeftS x [43,45]):Int)
theorem Mb:∀p n,n≤ji→Rt.tI ji p n≤ji
 | 0,n,h=>h
 | p+1,n,h=>by
   rw[Rt.tI];split
   ·exact Mb p _ (Nat.min_le_left _ _)
   ·exact h
def Rq(x:ae):-1000000000000≤nh x∧nh x≤1000000000000:=by
 have:=Mb (oB (Lib.trimLeftS x [43,45])).toNat _ (xw ji (ov (Lib.trimLeftS x [43,45])));have h:vr (Lib.trimLeftS x [43,45])≤1000000000000:=this;unfold nh;split<;>omega
def Dq(l m:ae):(Lib.trimLeftS l m).length≤l.length:=(List.dropWhile_sublist _).length_le
def L7(h:c∈Lib.trimLeftS l m):c∈l:=(List.dropWhile_sublist _).subset h
def G0(l m:ae):(Lib.cut l m).1.length+(Lib.cut l m).2.1.length≤l.length:=by
 unfold Lib.cut;split
 ·simp;omega
 ·simp
def VK{K:AV→Prop}(ex:x=i_ a)(ey:y=i_ b)(q:K (i_ (max a b))):kA x y K:=by
 subst ex;subst ey;rw[TL]
 by_cases h:b > a
 ·rw[if_pos h];rwa [Int.max_eq_right (by omega)]at q
 ·rw[if_neg h];rwa [Int.max_eq_left (by omega)]at q
def J5{K:AV→Prop}(ex:x=i_ a)(ey:y=i_ b)(q:K (i_ (min a b))):nZ x y K:=by
 subst ex;subst ey;rw[TM]
 by_cases h:b<a
 ·rw[if_pos h];rwa [Int.min_eq_right (by omega)]at q
 ·rw[if_neg h];rwa [Int.min_eq_left (by omega)]at q
def zzd{K:AV→Prop}(q:K (i_ (min a b))):nZ (i_ a) (i_ b) K:=J5 rfl rfl q
def RM(c:UInt8):IntKind.u8.wrap ((c.toNat:Int)-48)=((sY c:Nat):Int):=by
 rw[IntKind.wrap_u8];unfold sY;have:=c.toNat_lt;omega
def Tx(c:UInt8):sY c<256:=Nat.mod_lt _ (by decide)
variable [bp]
def M9(l m:ae)(hl:l.length≤2^31):bn p_ 140 [.str l,.str m] (.ay [.str (Lib.cut l m).1,.str (Lib.cut l m).2.1,Aw.b_ (Lib.cut l m).2.2]):=by
 have hc:=G0 l m;refine iy (v:=.tuple #[.string ⟨(Lib.cut l m).1.toArray⟩,.string ⟨(Lib.cut l m).2.1.toArray⟩,.bool (Lib.cut l m).2.2]) (by simp[aO]) (by simp) (by simp[aO]) (fun w=>by rw[ar];exact⟨[.string ⟨(Lib.cut l m).1.toArray⟩,.string ⟨(Lib.cut l m).2.1.toArray⟩,.bool (Lib.cut l m).2.2],rfl,by simp[maxLen];omega⟩) ?_;intro ι S w vs h1 hg;have hg:=(hg 0 [i_ bp.m] rfl).1.get 0 (i_ bp.m) rfl;obtain⟨u,hu,_,hr⟩:=hg;rw[cz]at hr;subst hr;rw[aa4]at hu
 match vs,h1 with
 | [],h1=>simp at h1
 | [v],h1=>simp at h1
 | v:: u:: x:: vs,h1=>simp at h1
 | [v,u],h1 =>
   simp only[bP,dt,and_true,eF]at h1;obtain⟨⟨rfl,_⟩,rfl,_⟩:=h1;refine (Any.strings_Cut lays145 ⟨l.toArray⟩ ⟨m.toArray⟩ bp.m w (by simp[ByteArray.size];omega) hu).mono ?_;rintro e w' ⟨rfl,n,rfl⟩;exact⟨by simp,(Below.refl _ _).trans ⟨rfl,rfl,rfl,bY _,fun _ _=>rfl⟩⟩
def Pf{most:Nat}{M:Int}(hM:M=(most:Int))(hm:most≤2^50){l:ae}(hl:l.length≤2^31){id:Nat}{T:aa}(ht:T[id]?=some (.ak ⟨5,l.map bf,true⟩)){vs:List AV}{f:List AV→aa→Prop}(q:f [i_ (jM most l),i_ l.length] T):
 bN [i_ 0,i_ 0] T fun N s g=>ag .lss (nx s 1) (i_ l.length) fun v19=>af v19 (aI 1 (.own id 0 l.length 1) (nx s 1) fun v20=>ah false 1 v20 g fun v21=>ag .mul (i_ 10) (nx s 0) fun v22=>ag .sub v21 (u8 48) fun v23=>cy .i64 v23 fun v24=>ag .add v22 v24 fun v25=>nZ v25 (i_ M) fun v26=>ag .add (nx s 1) (i_ 1) fun v27=>vs=vs∧N [v26,v27] g) (f s g):=by
 subst hM;refine aZ (α:=Nat) (fun k=>k≤l.length) (fun k=>[i_ (jM most (l.take k)),i_ k]) (fun _=>T) (fun k=>l.length-k) 0 (aa2 _) (Wk.refl _ _ _ (bY _)) ?_;intro k hk;refine zzC ?_
 by_cases c:k<l.length
 ·have h1:=xw most (l.take k);have h2:=Ka (most:=most) c;have h3:=Tx l[k];refine zzL (oF (by omega)) (jm rfl rfl c ?_);refine zzU (c:=bf l[k]) ht (by simp[dO c]) ?_;refine JS rfl rfl (by unfold aJ;omega) (Vj (c:=((sY l[k]:Nat):Int)) (by decide) rfl rfl (RM _) (fk (m:=((sY l[k]:Nat):Int)) rfl (by rw[IntKind.wrap_i64];omega) (zzP (by unfold aJ;omega) (zzd (zzP (by unfold aJ;omega) ?_)))));refine aq ⟨k+1,c, ?_,by omega⟩;show Wk _ [i_ (min ((10:Int)*(jM most (l.take k):Int)+((sY l[k]:Nat):Int)) (most:Int)),i_ ((k:Int)+1)] T _ T;rw[h2,show min ((10:Int)*(jM most (l.take k):Int)+((sY l[k]:Nat):Int)) (most:Int)=((min (10*jM most (l.take k)+sY l[k]) most:Nat):Int) by omega];exact Wk.refl _ _ _ (bY _)
 ·refine zzK (nO (by omega)) ?_;obtain rfl:k=l.length:=by omega
  rw[BY];exact q
def Ks(x:ae)(h0:x≠[])(hl:x.length≤2^20)(ha:sQ x)(hE:0≤Lib.indexAny (Lib.trimLeftS x [43,45]) [101,69]→(Lib.indexAny (Lib.trimLeftS x [43,45]) [101,69]).toNat+1<(Lib.trimLeftS x [43,45]).length):bn p_ 100 [.str x] (i_ (nh x)):=by
 refine (YJ _).bj (by simp) (by simp) ?_;unfold R5;obtain⟨t,ht⟩:∃t,Lib.trimLeftS x [43,45]=t:=⟨_,rfl⟩;have htl:t.length≤x.length:=by rw[←ht];exact Dq _ _
 have hta:sQ t:=fun b hb=>ha b (L7 (by rw[ht];exact hb));have hlx:0<x.length:=List.length_pos_iff.2 h0;have sg:∀c∈([43,45]:ae),c.toNat<128:=fun b hb=>by simp at hb;rcases hb with rfl|rfl<;>decide
 rw[ht]at hE;refine uc (n:=0) (b:=x[0]) rfl rfl (dO hlx) ?_;refine zzG ?_;have hat:Rt.ax x 0=x[0]:=jo hlx;have hdec:decide ((x[0].toNat:Int)=45)=decide (Rt.ax x 0=45):=by
  rw[hat];exact decide_eq_decide.2 ⟨fun e=>UInt8.toNat_inj.1 (by show x[0].toNat=45;omega),fun e=>by rw[e];rfl⟩
 rw[hdec];refine uCon (CL x [43,45] (by omega) (by decide) sg) ?_;rw[ht];have hex:qy t=qy t:=rfl;refine cS (fun v T=>nx v 0=.str (pZ t)∧nx v 1=i_ (3+qy t)∧-1048576≤qy t∧qy t≤1048576) (fun v T hv=>?_) fun F hF=>?_
 ·obtain⟨v0,v1,e1,e2⟩:=hv;have hml:(pZ t).length≤t.length:=by unfold pZ;split<;>simp;omega
  have hcl:=G0 (pZ t) [46];rw[v0,v1];refine uCon (M9 (pZ t) [46] (by omega)) (bl rfl rfl (bl rfl rfl (bl rfl rfl ?_)));refine zzZ fun _=>?_;refine zze (by unfold aJ;omega) (J0 rfl rfl (by omega) ?_);have hp:(3+qy t-((Lib.cut (pZ t) [46]).2.1.length:Int))=oB t:=rfl;have hd:(Lib.cut (pZ t) [46]).1++(Lib.cut (pZ t) [46]).2.1=u6 t:=rfl;have hdl:(u6 t).length≤2^20:=by rw[←hd,AT];omega
  have hpl:-2^22≤oB t∧oB t≤2^22:=by rw[←hp];omega
  rw[hp,hd];refine cS (fun v H=>nx v 0=.str (ov t)) (fun v H hv=>?_) fun F hF=>?_
  ·rw[hv];have hcl2:(ov t).length≤2^20:=by unfold ov;split<;>simp<;>omega
   refine O4 rfl (J3 rfl ?_);have hblk:(H++[aK.ak ⟨5,(ov t).map bf,true⟩]:aa)[H.length]?=some (.ak ⟨5,(ov t).map bf,true⟩):=by simp
   refine Pf (M:=1000000000000) (most:=ji) rfl (by decide) (by omega) hblk ?_;obtain⟨n0,hn0⟩:∃n0,jM ji (ov t)=n0:=⟨_,rfl⟩;have hn1:n0≤ji:=by rw[←hn0];exact xw _ _
   rw[hn0];have hmag:vr t=Rt.tI ji (oB t).toNat n0:=by unfold vr;rw[hn0]
   refine aZ (α:=Int×Nat) (fun p=>p.2≤ji∧-2^22≤p.1∧p.1≤2^22∧Rt.tI ji p.1.toNat p.2=vr t) (fun p=>[i_ p.1,i_ p.2]) (fun _=>H++[aK.ak ⟨5,(ov t).map bf,true⟩]) (fun p=>p.1.toNat) (oB t,n0) ⟨hn1,hpl.1,hpl.2,hmag.symm⟩ (Wk.refl _ _ _ (bY _)) ?_;rintro⟨p,n⟩ ⟨hn,hp1,hp2,hu⟩;dsimp only at hn hp1 hp2 hu ⊢;unfold ji at hn;refine zzE ?_;refine mA (decide (0<p∧0<n)) rfl (fun z=>by have z:=tO z;simp;omega) (fun z F hF=>?_) fun v hv=>?_
   ·refine zzE ?_;have z:=oN z;have e:decide ((0:Int)<(n:Int))=decide (0<p∧0<n):=decide_eq_decide.2 (by omega);rw[e];exact aq hF
   refine lv hv ?_;refine mA (decide (0<p∧0<n∧n<ji)) rfl (fun z=>by have z:=tO z;simp;omega) (fun z F hF=>?_) fun v hv=>?_
   ·refine zzC ?_;have z:=oN z;have e:decide ((n:Int)<1000000000000)=decide (0<p∧0<n∧n<ji):=decide_eq_decide.2 (by unfold ji;omega);rw[e];exact aq hF
   refine lv hv ?_
   by_cases q:0<p∧0<n∧n<ji
   ·refine zzL (oF q) ?_;have q3:=q.2.2;unfold ji at q3;refine JS rfl rfl (by unfold aJ;omega) (zzd (zze (by unfold aJ;omega) ?_));refine aq ⟨(p-1,min ji (10*n)),⟨Nat.min_le_left _ _,by dsimp only;omega,by dsimp only;omega, ?_⟩, ?_,by dsimp only;omega⟩
    ·dsimp only;rw[show p.toNat=(p-1).toNat+1 by omega,Rt.tI,if_pos q.2]at hu;exact hu
    ·show Wk _ [i_ (p-1),i_ (min ((10:Int)*n) 1000000000000)] _ _ _;rw[show min ((10:Int)*n) 1000000000000=((min ji (10*n):Nat):Int) by unfold ji;omega];exact Wk.refl _ _ _ (bY _)
   ·refine zzK (nO q) ?_;have e:vr t=n:=by
     rw[←hu]
     by_cases z:0<p
     ·rw[show p.toNat=(p-1).toNat+1 by omega,Rt.tI,if_neg (fun y=>q ⟨z,y⟩)]
     ·rw[show p.toNat=0 by omega,Rt.tI]
    unfold nh;rw[ht,e]
    by_cases z:Rt.ax x 0=45
    ·refine zzL (oF z) ?_;rw[if_pos z];show oX (i_ (n:Int)) _;rw[EN];exact⟨by unfold aJ;omega,.pure (by simp) (by rw[show (0:Int)-(n:Int)=-(n:Int) by omega])⟩
    ·refine zzK (nO z) ?_;rw[if_neg z];exact .pure (by simp) rfl
  ·refine zzC ?_
   by_cases q:oB t<0
   ·refine zzL (oF q) ?_;refine zzZ fun _=>?_;refine zzP (by unfold aJ;omega) (VK rfl rfl (oH (a:=0) (b:=(max 0 (((u6 t).length:Int)+oB t)).toNat) (r:=ov t) rfl rfl (by show some (max 0 (((u6 t).length:Int)+oB t))=_;congr 1;omega) (by omega) (by omega) (by unfold ov;rw[if_pos q,List.drop_zero]) ?_));exact aq (hF _ _ rfl)
   ·refine zzK (nO q) ?_;refine aq (hF _ _ ?_);unfold ov;rw[if_neg q];rfl
 ·refine uCon (Er t [101,69] (by omega) (by decide) hta (fun b hb=>by simp at hb;rcases hb with rfl|rfl<;>decide)) (zzF ?_);obtain⟨i,hi⟩:∃i,Lib.indexAny t [101,69]=i:=⟨_,rfl⟩;rw[hi]at hE ⊢
  by_cases q:0≤i
  ·have hE:=hE q;refine zzL (oF q) (zzP (by unfold aJ;omega) (oH (a:=i.toNat+1) (b:=t.length) (r:=t.drop (i.toNat+1)) rfl (by show some (i+1)=_;congr 1;omega) rfl (by omega) (bY _) (by rw[BY]) (uCon (CL (t.drop (i.toNat+1)) [43,45] (by simp;omega) (by decide) sg) ?_)));obtain⟨d,hd⟩:∃d,Lib.trimLeftS (t.drop (i.toNat+1)) [43,45]=d:=⟨_,rfl⟩;have hdl:d.length≤2^20:=by have:=Dq (t.drop (i.toNat+1)) [43,45];rw[hd]at this;simp at this;omega
   rw[hd];refine O4 rfl (J3 rfl ?_);have hblk:([]++[aK.ak ⟨5,d.map bf,true⟩]:aa)[([]:aa).length]?=some (.ak ⟨5,d.map bf,true⟩):=rfl;refine Pf (M:=1048576) (most:=1048576) rfl (by decide) (by omega) hblk ?_;have hle:=xw 1048576 d;have e:qy t=if Rt.ax t (i.toNat+1)=45 then -(jM 1048576 d:Int) else (jM 1048576 d:Int):=by unfold qy;rw[hi,if_pos q,hd]
   have em:pZ t=t.take i.toNat:=by unfold pZ;rw[hi,if_pos q]
   refine cS (fun v T=>nx v 0=i_ (qy t)) (fun v T hv=>?_) fun G hG=>?_
   ·have hb:-1048576≤qy t∧qy t≤1048576:=by rw[e];split<;>omega
    rw[hv];refine zzP (by unfold aJ;omega) (oH (a:=0) (b:=i.toNat) (r:=t.take i.toNat) rfl rfl (by show some i=_;congr 1;omega) (by omega) (by omega) (by rw[List.drop_zero]) ?_);exact aq (hF _ _ ⟨by rw[em];rfl,rfl,hb.1,hb.2⟩)
   ·refine zzP (by unfold aJ;omega) ?_;refine uc (n:=i.toNat+1) (b:=t[i.toNat+1]) rfl (by show i_ (i+1)=_;rw[show i+1=((i.toNat+1:Nat):Int) by omega]) (dO hE) ?_;refine zzG ?_;have hat2:Rt.ax t (i.toNat+1)=t[i.toNat+1]:=jo hE
    by_cases z:Rt.ax t (i.toNat+1)=45
    ·refine zzL (oF (by rw[←hat2,z];rfl)) ?_;show oX (i_ (jM 1048576 d:Int)) _;rw[EN];refine⟨by unfold aJ;omega, ?_⟩;refine aq (hG _ _ ?_);rw[e,if_pos z];show i_ (0-(jM 1048576 d:Int))=_;rw[show (0:Int)-(jM 1048576 d:Int)=-(jM 1048576 d:Int) by omega]
    ·refine zzK (nO (fun y=>z (by rw[hat2];exact UInt8.toNat_inj.1 (by show _=45;omega)))) ?_;refine aq (hG _ _ ?_);rw[e,if_neg z];rfl
  ·refine zzK (nO q) ?_;have e:qy t=0:=by unfold qy;rw[hi,if_neg q]
   have em:pZ t=t:=by unfold pZ;rw[hi,if_neg q]
   exact aq (hF _ _ ⟨by rw[em];rfl,by rw[e];rfl,by rw[e];decide,by rw[e];decide⟩)
end
section
open Go Go.Aw Go.RowKit
def rO(h1:k≤j)(h2:j<Rt.fT s k):j<s.length∧Rt.ck (Rt.ax s j)=true:=by
 have hr:j-k<nf (fun n=>jx n 48 57) s k:=by rw[←Ci]at h2;omega
 have:=LM hr;rw[show k+(j-k)=j by omega]at this;exact⟨this.1,by rw[←uA];exact this.2⟩
def yR(h:Rt.ck (Rt.ax s k)=true):k<Rt.fT s k:=by
 have he:=Cj (p:=fun n=>jx n 48 57) (by decide) s k;rw[Ci]at he;have he:jx (pk s (Rt.fT s k)) 48 57=false:=he;rw[uA]at he;rcases uP k (Rt.fT s k) with q|q
 ·exact q
 ·have:Rt.fT s k=k:=by unfold Rt.fT at q ⊢;omega
  rw[this,h]at he;cases he
def xC(h:Rt.ck c=true):c.toNat<128:=by unfold Rt.ck at h;simp at h;omega
def A6(ha:a<s.length)(hn:Rt.jP s a=true):a<(Rt.gU s a).1∧Rt.ck (Rt.ax s ((Rt.gU s a).1-1))=true∧∀j,a≤j→j<(Rt.gU s a).1→(Rt.ax s j).toNat<128:=by
 rw[B9];have s1:=FJ (Nat.le_of_lt ha);have h1:∀j,a≤j→j<jj s a→(Rt.ax s j).toNat<128:=by
  intro j x y;unfold jj at y;split at y
  ·rename_i q;obtain rfl:j=a:=by omega
   rcases q with q|q<;>rw[q]<;>decide
  ·omega
 obtain⟨i0,hi0⟩:∃i0,jj s a=i0:=⟨_,rfl⟩;rw[hi0]at s1 h1 ⊢;have d1:=ui (s:=s) (i:=i0) s1.2;obtain⟨i1,hi1⟩:∃i1,Rt.fT s i0=i1:=⟨_,rfl⟩;have g1:∀j,i0≤j→j<i1→j<s.length∧Rt.ck (Rt.ax s j)=true:=fun j x y=>rO x (by rw[hi1];exact y);rw[hi1]at d1 ⊢;have hn':Rt.ck (Rt.ax s (if Rt.ax s i0=46 then i0+1 else i0))=true:=by
  unfold Rt.jP at hn;have e:(if Rt.ax s a=43∨Rt.ax s a=45 then a+1 else a)=i0:=hi0;simp only[e]at hn;exact hn
 -- behind the point
 have p:a<(qc s i1).1∧Rt.ck (Rt.ax s ((qc s i1).1-1))=true∧∀j,a≤j→j<(qc s i1).1→(Rt.ax s j).toNat<128:=by
  by_cases q:Rt.ax s i1=46∧Rt.ck (Rt.ax s (i1+1))=true
  ·have e:qc s i1=(Rt.fT s (i1+1),false):=by unfold qc;rw[if_pos q]
   rw[e];have g:=yR q.2;refine⟨by dsimp only;omega,(rO (s:=s) (k:=i1+1) (by dsimp only;omega) (by dsimp only;omega)).2,fun j x y=>?_⟩;dsimp only at y
   by_cases c1:j<i0
   ·exact h1 j x c1
   ·by_cases c2:j<i1
    ·exact xC (g1 j (by omega) c2).2
    ·by_cases c3:j=i1
     ·rw[c3,q.1];decide
     ·exact xC (rO (s:=s) (k:=i1+1) (by omega) y).2
  ·have e:qc s i1=(i1,true):=by unfold qc;rw[if_neg q]
   rw[e];have hlt:i0<i1:=by
    by_cases c:Rt.ax s i0=46
    ·rw[if_pos c]at hn';exfalso;have:i1=i0:=by
      rcases uP i0 i1 with z|z
      ·have:=(g1 i0 (bY _) z).2;rw[c]at this;exact absurd this (by decide)
      ·omega
     exact q ⟨by rw[this];exact c,by rw[this];exact hn'⟩
    ·rw[if_neg c]at hn';rw[←hi1];exact yR hn'
   refine⟨by dsimp only;omega,(g1 (i1-1) (by omega) (by omega)).2,fun j x y=>?_⟩;dsimp only at y
   by_cases c1:j<i0
   ·exact h1 j x c1
   ·exact xC (g1 j (by omega) y).2
 obtain⟨r,hr⟩:∃r,qc s i1=r:=⟨_,rfl⟩;rw[hr]at p ⊢;unfold wq;split
 ·rename_i q;split
  ·rename_i q2;have g:=yR q2;have k1:r.1+1≤jj s (r.1+1):=by unfold jj;split<;>omega
   refine⟨by dsimp only;omega,(rO (s:=s) (k:=jj s (r.1+1)) (by dsimp only;omega) (by dsimp only;omega)).2,fun j x y=>?_⟩;dsimp only at y
   by_cases c1:j<r.1
   ·exact p.2.2 j x c1
   ·by_cases c2:j=r.1
    ·rw[c2];rcases q with q|q<;>rw[q]<;>decide
    ·by_cases c3:j<jj s (r.1+1)
     ·unfold jj at c3;split at c3
      ·rename_i q3;obtain rfl:j=r.1+1:=by omega
       rcases q3 with q3|q3<;>rw[q3]<;>decide
      ·omega
     ·exact xC (rO (s:=s) (k:=jj s (r.1+1)) (by omega) y).2
  ·exact p
 ·exact p
theorem CZ{p:UInt8→Bool}:∀{l:ae} {b:UInt8},l.getLast?=some b→p b=false→(l.dropWhile p).getLast?=some b
 | [],b,h,_=>by simp at h
 | c:: l,b,h,hp=>by
   rw[List.dropWhile_cons];split
   ·rename_i hc;cases l with
    | nil=>simp at h;subst h;rw[hp]at hc;cases hc
    | cons d l=>exact CZ (by simpa[List.getLast?_cons_cons]using h) hp
   ·exact h
theorem indexAny_hit:∀{l:ae},0≤Lib.indexAny l m→∃b,l[(Lib.indexAny l m).toNat]?=some b∧m.contains b=true
 | [],h=>by simp[Lib.indexAny]at h
 | c:: l,h=>by
   unfold Lib.indexAny at h ⊢
   by_cases q:m.contains c=true
   ·rw[if_pos q];exact⟨c,rfl,q⟩
   ·rw[if_neg q]at h ⊢
    by_cases z:(Lib.indexAny l m == -1)=true
    ·rw[if_pos z]at h;exact absurd h (by decide)
    ·rw[if_neg z]at h ⊢;have hg:=Lib.indexAny_ge m l;have h0:0≤Lib.indexAny l m:=by have:Lib.indexAny l m≠-1:=(by simpa using z);omega
     obtain⟨b,hb,hm⟩:=indexAny_hit h0;refine⟨b, ?_,hm⟩;rw[show (Lib.indexAny l m+1).toNat=(Lib.indexAny l m).toNat+1 by omega,List.getElem?_cons_succ];exact hb
def gr(s:ae)(a:Nat):ae:=(s.take (Rt.gU s a).1).drop a
def Uo(ha:a<s.length)(hn:Rt.jP s a=true):gr s a≠[]∧(gr s a).length≤s.length∧sQ (gr s a)∧(0≤Lib.indexAny (Lib.trimLeftS (gr s a) [43,45]) [101,69]→(Lib.indexAny (Lib.trimLeftS (gr s a) [43,45]) [101,69]).toNat+1<(Lib.trimLeftS (gr s a) [43,45]).length):=by
 obtain⟨h1,h2,h3⟩:=A6 ha hn;have h4:=B8 (s:=s) (i:=a) (by omega);have hl:(gr s a).length=(Rt.gU s a).1-a:=by unfold gr;rw[List.length_drop,aaW];omega
 have hg:∀j,j<(gr s a).length→(gr s a)[j]?=some (Rt.ax s (a+j)):=fun j hj=>by
  unfold gr;rw[aaU,ON,if_pos (by omega),jo (show a+j<s.length by omega)];exact dO _
 refine⟨fun e=>by rw[e]at hl;simp at hl;omega,by omega, ?_, ?_⟩
 ·intro b hb;obtain⟨j,hj,e⟩:=List.getElem_of_mem hb;have:=hg j hj;rw[dO hj]at this;rw[e]at this;rw[DO this];exact h3 _ (by omega) (by omega)
 ·have hlast:(gr s a).getLast?=some (Rt.ax s ((Rt.gU s a).1-1)):=by
   rw[List.getLast?_eq_getElem?,hg _ (by omega)]
   congr 2;omega
  have hp:([43,45]:ae).contains (Rt.ax s ((Rt.gU s a).1-1))=false:=by
   have key:((List.range 256).all fun n=>!(Rt.ck (UInt8.ofNat n))||!(([43,45]:ae).contains (UInt8.ofNat n)))=true:=by kernel_rfl
   have:=oT key (Rt.ax s ((Rt.gU s a).1-1));rw[UInt8.ofNat_toNat,h2]at this;simpa using this
  have hl2:(Lib.trimLeftS (gr s a) [43,45]).getLast?=some (Rt.ax s ((Rt.gU s a).1-1)):=CZ hlast hp;intro h0;obtain⟨b,hb,hm⟩:=indexAny_hit h0;have hlt:=(eQ.1 hb).1;rcases uP ((Lib.indexAny (Lib.trimLeftS (gr s a) [43,45]) [101,69]).toNat+1) (Lib.trimLeftS (gr s a) [43,45]).length with q|q
  ·exact q
  ·exfalso;rw[List.getLast?_eq_getElem?,show (Lib.trimLeftS (gr s a) [43,45]).length-1=(Lib.indexAny (Lib.trimLeftS (gr s a) [43,45]) [101,69]).toNat by omega,hb]at hl2;have:b=Rt.ax s ((Rt.gU s a).1-1):=DO hl2;rw[←this]at h2;have key:((List.range 256).all fun n=>!(Rt.ck (UInt8.ofNat n))||!(([101,69]:ae).contains (UInt8.ofNat n)))=true:=by kernel_rfl
   have:=oT key b;rw[UInt8.ofNat_toNat,h2,hm]at this;cases this
def jO(s:ae)(i:Nat):Tok×Nat:=
 let r:=Rt.gU s i
 if Rt.gq s r.1=true then (⟨12,[],nh (gr s i),(Rt.dk s r.1).1,r.2⟩,(Rt.dk s r.1).2)
 else if Rt.ax s r.1=37 then (⟨11,[],nh (gr s i),[],false⟩,r.1+1) else (⟨10,[],nh (gr s i),[],r.2⟩,r.1)
abbrev tG(t:Tok):aK:=cx t.k t.t t.n t.u t.f
def DF{KS:aa→Prop}(hv:H[V]?=some (tG t))(hc:bX [u8 t.k,.str t.t,i_ t.n,.str t.u,Aw.b_ t.f] o [c]=[u8 t'.k,.str t'.t,i_ t'.n,.str t'.u,Aw.b_ t'.f])(ho:o<5)(hs:bG c=true)(hk:bh c=[c])(q:KS (H.set V (tG t'))):ao 1 (.op V o) c H KS:=by
 refine aU (cs:=[c]) (h':=H.set V (tG t')) rfl hv rfl hk (by simp;omega) rfl (by rw[abg,hs];rfl) ?_ q;show H.set V (.ak ⟨_,bX _ o [c],true⟩)=_;rw[hc]
def Mf[Laid]{args args':List AV}{K:AV→Prop}(e:args=args')(hb:dw P f=true)(c:bn P f args' r)(k:K r):wT P (.fn (.func f) [] []) args h K:=by
 subst e;exact⟨r,hb,fun ext=>by simpa using c.call (h:=h++ext) (K:=fun v h' => v=r∧h'=h++ext) ⟨rfl,rfl⟩,k⟩
variable [bp]
def TV{id a:Nat}{K:AV→aa→Prop}(sc:Sc id h s a)(ey:y=.op id 0)(hs:s.length≤2^20)(ha:a<s.length)(hn:Rt.jP s a=true)(k:∀H,Mw id s (jO s a).2 h H→K (jO s a).1.av H):bx p_ (.fn (.func 70) [] []) [y] h K:=by
 subst ey;have hid:=sc.lt;refine cB (by kernel_rfl) rfl (K0:=fun r H=>r=(jO s a).1.av∧Mw id s (jO s a).2 h H) ?_ (by rintro r H ⟨rfl,m⟩;exact k H m);refine (V70 _).bJ ?_;unfold Yb;obtain⟨x1,x2,x3,x4⟩:=Uo ha hn;have hE:=B8 (s:=s) (i:=a) (by omega);obtain⟨E,b,hEb⟩:∃E b,Rt.gU s a=(E,b):=⟨_,_,rfl⟩;have hN:jO s a=if Rt.gq s E=true then (⟨12,[],nh (gr s a),(Rt.dk s E).1,b⟩,(Rt.dk s E).2) else if Rt.ax s E=37 then (⟨11,[],nh (gr s a),[],false⟩,E+1) else (⟨10,[],nh (gr s a),[],b⟩,E):=by unfold jO;rw[hEb]
 have hx:gr s a=(s.take E).drop a:=by unfold gr;rw[hEb]
 obtain⟨v,hv⟩:∃v,nh (gr s a)=v:=⟨_,rfl⟩;rw[hv]at hN;rw[hEb]at hE;dsimp only at hE;refine bT (cs:=[u8 0,.str [],i_ 0,.str [],ff]) (n:=h.length) (h':=h++[cx 0 [] 0 [] false]) rfl (by simp[bG]) rfl rfl ?_;have sc2:Sc id (h++[cx 0 [] 0 [] false]) s a:=sc.app _;refine bA (zzA (zzU sc2 rfl (TU sc2 rfl hs (by omega) ?_)));rw[hEb];have m1:Mw id s E (h++[cx 0 [] 0 [] false]) ((h++[cx 0 [] 0 [] false]).set id (eB s E)):=(Mw.refl sc2).set E;have hV1:((h++[cx 0 [] 0 [] false]).set id (eB s E))[h.length]?=some (cx 0 [] 0 [] false):=by rw[m1.ky _ (by simp) (by omega)];simp
 have hL1:((h++[cx 0 [] 0 [] false]).set id (eB s E)).length=h.length+1:=by simp
 obtain⟨H1,hH1⟩:∃H1,(h++[cx 0 [] 0 [] false]).set id (eB s E)=H1:=⟨_,rfl⟩;rw[hH1]at m1 hV1 hL1 ⊢;refine bA (zzA (zzU m1.sc rfl (bA (zzA (zzU m1.sc rfl (oH (a:=a) (b:=E) (r:=gr s a) rfl rfl rfl (by omega) hE.2 hx.symm (Mf rfl (by kernel_rfl) (Ks _ x1 (by omega) x3 x4) ?_)))))));rw[hv];refine ba rfl ?_;show ao _ _ _ _ _;obtain⟨T,hT⟩:∃T,H1.length+1+0=T:=⟨_,rfl⟩;rw[hT];have hgT:(H1++[aK.dead]++[cx 0 [] 0 [] false])[T]?=some (cx 0 [] 0 [] false):=by
  rw[←hT,gT (by simp)];simp
 have hlt:=(eQ.1 hgT).1;have hLx:(H1++[aK.dead]++[cx 0 [] 0 [] false]).length=T+1:=by simp;omega
 refine aU (cs:=[u8 10,.str [],i_ v,.str [],Aw.b_ b]) (h':=(H1++[aK.dead]++[cx 0 [] 0 [] false]).set T (tG ⟨10,[],v,[],b⟩)) rfl hgT rfl rfl (by simp) rfl (by simp[bG]) rfl ?_;have oth2:∀i,i<h.length+1→((H1++[aK.dead]++[cx 0 [] 0 [] false]).set T (tG ⟨10,[],v,[],b⟩))[i]?=H1[i]?:=fun i hi=>by
  rw[iF (by omega),To,gO (by omega)]
 have m2:Mw id s E (h++[cx 0 [] 0 [] false]) ((H1++[aK.dead]++[cx 0 [] 0 [] false]).set T (tG ⟨10,[],v,[],b⟩)):=m1.ext (by first|(simp;done)|(simp;omega)) (by first|(simp;done)|(simp;omega)) fun i hi=>oth2 i (by simpa using hi);have hV2:((H1++[aK.dead]++[cx 0 [] 0 [] false]).set T (tG ⟨10,[],v,[],b⟩))[h.length]?=some (cx 0 [] 0 [] false):=by rw[oth2 _ (by omega)];exact hV1
 have hT2:((H1++[aK.dead]++[cx 0 [] 0 [] false]).set T (tG ⟨10,[],v,[],b⟩))[T]?=some (tG ⟨10,[],v,[],b⟩):=iD hlt;have hL2:((H1++[aK.dead]++[cx 0 [] 0 [] false]).set T (tG ⟨10,[],v,[],b⟩)).length=T+1:=by simp;omega
 obtain⟨H2,hH2⟩:∃H2,(H1++[aK.dead]++[cx 0 [] 0 [] false]).set T (tG ⟨10,[],v,[],b⟩)=H2:=⟨_,rfl⟩;rw[hH2]at m2 hV2 hT2 hL2 ⊢;refine cS (fun _ H=>Mw id s (jO s a).2 h H∧H[h.length]?=some (cx 0 [] 0 [] false)∧H[T]?=some (tG (jO s a).1)) (fun _ H hH=>?_) fun F hF=>?_
 ·obtain⟨mm,q1,q2⟩:=hH;refine zzV q2 (by simp) (qP (k:=(jO s a).1.k) (n:=(jO s a).1.n) (t:=(jO s a).1.t) (u:=(jO s a).1.u) (f:=(jO s a).1.f) q1 ?_);refine⟨_,_,Wk.refl _ _ _ (by simpa using mm.len),rfl, ?_⟩;exact mm.ext hid (by simp) fun i hi=>iF (by omega)
 ·refine AL 0 m2.sc rfl rfl (by omega) ?_;rw[Nat.add_zero,A5];cases c1:Rt.gq s E with
  | true =>
    rw[if_pos c1]at hN;refine zzL rfl ?_;refine xM m2.sc rfl hs hE.2 fun H3 m3=>?_;have hT3:H3[T]?=some (tG ⟨10,[],v,[],b⟩):=by rw[m3.ky _ (by omega) (by omega)];exact hT2
    have hV3:H3[h.length]?=some (cx 0 [] 0 [] false):=by rw[m3.ky _ (by omega) (by omega)];exact hV2
    have hl3:=(eQ.1 hT3).1;refine zzA (DF (t':=⟨12,[],v,[],b⟩) hT3 rfl (by decide) rfl rfl (zzA ?_));refine DF (t':=⟨12,[],v,(Rt.dk s E).1,b⟩) (iD hl3) rfl (by decide) rfl rfl ?_;rw[aa0];refine aq (hF _ _ ⟨?_, ?_, ?_⟩)
    ·rw[hN];exact (m2.trans ⟨by simpa using m3.len,m3.sc,fun i hi hne=>m3.ky i hi hne⟩).pre.ext hid (by simp) fun i hi=>iF (by omega)
    ·rw[iF (by omega)];exact hV3
    ·rw[hN];exact iD hl3
  | false =>
    rw[if_neg (by rw[c1];decide)]at hN;refine zzK rfl (dA 0 m2.sc rfl rfl (by omega) ?_);rw[Nat.add_zero];refine zzG ?_;rw[gi (c:=37) 37 rfl (by decide)]
    by_cases c2:Rt.ax s E=37
    ·rw[if_pos c2]at hN;have hlt2:E<s.length:=at_lt (by rw[c2];decide);refine zzL (oF c2) (jY m2.sc (by omega) rfl ?_);have hT3:(H2.set id (eB s (E+1)))[T]?=some (tG ⟨10,[],v,[],b⟩):=by rw[iF (by omega)];exact hT2
     have hl3:=(eQ.1 hT3).1;refine zzA (DF (t':=⟨11,[],v,[],b⟩) hT3 rfl (by decide) rfl rfl (zzA ?_));refine DF (t':=⟨11,[],v,[],false⟩) (iD hl3) rfl (by decide) rfl rfl ?_;rw[aa0];refine aq (hF _ _ ⟨?_, ?_, ?_⟩)
     ·rw[hN];exact (m2.set (E+1)).pre.ext hid (by simp) fun i hi=>iF (by omega)
     ·rw[iF (by omega),iF (by omega)];exact hV2
     ·rw[hN];exact iD hl3
    ·rw[if_neg c2]at hN;refine zzK (nO c2) ?_;refine aq (hF _ _ ⟨by rw[hN];exact m2.pre,hV2,by rw[hN];exact hT2⟩)
end
section
open Go Go.Aw
variable [Laid]
def X5(a:AV)(h:aa)(K:AV→aa→Prop):Prop:=
 aV 70 (.agg [u8 0,.str [],i_ 0,.str [],ff]) h fun b r=>EO r (fun Q=>iC p_ 61 [a,i_ 0] r fun i s=>qLd p_ a 1 s fun R=>qBe .add R 1 fun S=>qSt p_ a 1 S s fun T=>aG (fun t=>bN [qNs] T fun p e U =>
 iC p_ 61 [a,i_ 0] U fun c j=>qBe .eql c (-1) fun V=>af V (eC [b] (t [nx e 0] j)) (ag .eql c i fun W=>af W (qLd p_ a 1 j fun X=>qBe .add X 1 fun Y=>qSt p_ a 1 Y j fun Z=>eC [b] (t [nx e 0] Z)) (qBe .eql c 10 fun a0=>af a0 (aW (.agg [u8 0,.str [],i_ 0,.str [],ff]) [(0,1,(u8 6))] fun a1=>ao 5 b a1 j fun u=>ah true 5 b u fun r33=>K r33 u) (qBe .eql c 92 fun v=>aG (fun w=>aM v true (iC p_ 61 [a,i_ 1] j fun a2 a3=>qBe .eql a2 (-1) fun a4=>eC [a,b,i,nx e 0,c] (w [tt,a4] a3)) (eC [a,b,i,nx e 0,c] (w [cd true v,un] j))) fun l x=>aG (fun y=>aM (nx l 1) false (iC p_ 61 [a,i_ 1] x fun a5 a6=>qBe .eql a5 10 fun a7=>eC [a,b,i,nx e 0,c,nx l 0] (y [ff,a7] a6)) (eC [a,b,i,nx e 0,c,nx l 0] (y [(cd false (nx l 1)),un] x))) fun z A=>qJa (nx l 0) [a,b,i,nx e 0,c] A (fun a8=>bQ (nx z 0) tt (nx z 1) fun a9=>a8 a9 A) fun b0 m=>af b0 (qLd p_ a 1 m fun b1=>qBe .add b1 2 fun b2=>qLd p_ a 0 m fun b3=>lq b3 fun b4=>nZ b2 b4 fun b5=>qSt p_ a 1 b5 m fun b6=>eC [a,b,i] (p [nx e 0] b6)) (qBe .eql c 92 fun b7=>af b7 (iC p_ 96 [a,nx e 0] m fun b8 b9=>eC [a,b,i] (p [b8] b9)) (cy .u8 c fun c0=>bt 1 1 (u8 0) [(0,1,c0)] fun c1=>bR false 5 1 1 (nx e 0) c1 m fun c2 B=>qLd p_ a 1 B fun c3=>qBe .add c3 1 fun c4=>qSt p_ a 1 c4 B fun c5=>eC [a,b,i] (p [c2] c5))))))) fun c6 C=>cP (nx c6 0) C fun c7=>aW (.agg [u8 0,.str [],i_ 0,.str [],ff]) [(0,1,(u8 5)),(1,1,c7)] fun c8=>ao 5 b c8 C fun D=>ah true 5 b D fun r83=>K r83 D) fun Q f c9 =>
 aG (fun E=>bN [nx f 1] c9 fun q g d0 =>
 iC p_ 61 [a,i_ 0] d0 fun d k=>qBe .eql d (-1) fun d1=>af d1 (eC [b] (E [nx g 0] k)) (ag .eql d (nx f 0) fun d2=>af d2 (qLd p_ a 1 k fun d3=>qBe .add d3 1 fun d4=>qSt p_ a 1 d4 k fun d5=>eC [b] (E [nx g 0] d5)) (qBe .eql d 10 fun d6=>af d6 (aW (.agg [u8 0,.str [],i_ 0,.str [],ff]) [(0,1,(u8 6))] fun d7=>ao 5 b d7 k fun F=>ah true 5 b F fun r102=>K r102 F) (qBe .eql d 92 fun G=>aG (fun H=>aM G true (iC p_ 61 [a,i_ 1] k fun d8 d9=>qBe .eql d8 (-1) fun e0=>eC [a,b,nx f 0,nx g 0,d] (H [tt,e0] d9)) (eC [a,b,nx f 0,nx g 0,d] (H [cd true G,un] k))) fun n I=>aG (fun J=>aM (nx n 1) false (iC p_ 61 [a,i_ 1] I fun e1 e2=>qBe .eql e1 10 fun e3=>eC [a,b,nx f 0,nx g 0,d,nx n 0] (J [ff,e3] e2)) (eC [a,b,nx f 0,nx g 0,d,nx n 0] (J [(cd false (nx n 1)),un] I))) fun L M=>qJa (nx n 0) [a,b,nx f 0,nx g 0,d] M (fun e4=>bQ (nx L 0) tt (nx L 1) fun e5=>e4 e5 M) fun e6 o=>af e6 (qLd p_ a 1 o fun e7=>qBe .add e7 2 fun e8=>qLd p_ a 0 o fun e9=>lq e9 fun f0=>nZ e8 f0 fun f1=>qSt p_ a 1 f1 o fun f2=>eC [a,b,nx f 0] (q [nx g 0] f2)) (qBe .eql d 92 fun f3=>af f3 (iC p_ 96 [a,nx g 0] o fun f4 f5=>eC [a,b,nx f 0] (q [f4] f5)) (cy .u8 d fun f6=>bt 1 1 (u8 0) [(0,1,f6)] fun f7=>bR false 5 1 1 (nx g 0) f7 o fun f8 N=>qLd p_ a 1 N fun f9=>qBe .add f9 1 fun g0=>qSt p_ a 1 g0 N fun g1=>eC [a,b,nx f 0] (q [f8] g1))))))) fun g2 O=>cP (nx g2 0) O fun g3=>aW (.agg [u8 0,.str [],i_ 0,.str [],ff]) [(0,1,(u8 5)),(1,1,g3)] fun g4=>ao 5 b g4 O fun P=>ah true 5 b P fun r152=>K r152 P
def V64(a:AV):fx p_ 64 [a] (X5 a):=mkM Tryz.func64 (sn (.seq (.loop [0] [] .nil) (.join [0,2] [3,4] (sn (sn (sn (sn (.join [2] [4] (.one (.loop [0,2,3] [4] (.one (sn (.one (sn (.two .nil (sn (.two .nil (sn (.two .nil (.seq (.aN (oR 0 3 (.aA 2 true (fR 3 4) [0,2,3,4,5] [50,54]::.aA 6 false (fR 7 3) [0,2,3,4,5,50] [54,57]::.aA 2 true [(10,false)] [0,2,3,4,5] [50,58]::oR 11 2 []))) (.two (.draw 14 (oR 0 14 []) [.op 14 false] []) (sn (.two .nil (.seq (.aN (oR 0 3 (.op 3 true::oR 4 2 []))) .nil)))))))))))))))) .nil))))) (sn (.join [2] [4] (.one (.loop [0,2,3] [4] (.one (sn (.one (sn (.two .nil (sn (.two .nil (sn (.two .nil (.seq (.aN (oR 0 3 (.aA 2 true (fR 3 4) [0,2,3,4,5] [50,54]::.aA 6 false (fR 7 3) [0,2,3,4,5,50] [54,57]::.aA 2 true [(10,false)] [0,2,3,4,5] [50,58]::oR 11 2 []))) (.two (.draw 14 (oR 0 14 []) [.op 14 false] []) (sn (.two .nil (.seq (.aN (oR 0 3 (.op 3 true::oR 4 2 []))) .nil)))))))))))))))) .nil))))) 83 [.cell 2 70]
end
section
open Go Go.Aw Go.RowKit
def EB(s:ae)(i:Nat):(Rt.cW s i).1.length≤4:=by
 unfold Rt.cW;split
 ·simp[Rt.lQ]
 ·split
  ·simp
  ·simp only[Rt.sH];repeat' split
   all_goals simp[Rt.lQ]
def vF(a b:ae)(r:Option ae×Nat):Rt.kL a (Rt.kL b r)=Rt.kL (a++b) r:=by
 obtain⟨o,n⟩:=r;cases o<;>simp[Rt.kL]
def Fv(r:Option ae×Nat):Rt.kL [] r=r:=by
 obtain⟨o,n⟩:=r;cases o<;>simp[Rt.kL]
def FW:Option ae→Tok
 | some t=>⟨5,t,0,[],false⟩
 | none=>⟨6,[],0,[],false⟩
def sG:Option ae→Tok
 | some t=>⟨7,t,0,[],false⟩
 | none=>⟨8,[],0,[],false⟩
def PU(h:i<s.length):IntKind.u8.wrap (pk s i)=(s[i].toNat:Int):=by
 rw[pG h,jo h,IntKind.wrap_u8];have:=s[i].toNat_lt;omega
def KT[Laid]{id i:Nat}{P:Program}(m:Mw id s i h H)(hid:id<h.length)(g:Gb h.length x H l)(hi:i<s.length)(hs:s.length≤2^20)(hl:l.length≤2^30)(ey:y=.op id 0){K:AV→aa→Prop}
 (k:∀z H',Mw id s (i+1) h H'→Gb h.length z H' (l++[s[i]])→K z H'):cy .u8 (i_ (pk s i)) fun v1=>bt 1 1 (u8 0) [(0,1,v1)] fun v2=>bR false 5 1 1 x v2 H fun v3 g4=>ca P y fun v5=>bg 1 v5 fun v6=>ah false 1 v6 g4 fun v7=>ag .add v7 (i_ 1) fun v8=>ca P y fun v9=>bg 1 v9 fun v10=>ao 1 v10 v8 g4 fun g5=>K v3 g5:=by
 refine fk (m:=(s[i].toNat:Int)) rfl (PU hi) (FX ?_);refine pY (n:=h.length) (l:=l) (m:=[s[i]]) g m.len (by simp;omega) rfl fun z H' gz hz oz=>?_;have m2:=m.ext hid hz oz;exact jY m2.sc (by omega) ey (k _ _ (m2.set _) (gz.mv hid m2.sc))
variable [Laid]
def TY{id a:Nat}{K:AV→aa→Prop}(sc:Sc id h s a)(ey:y=.op id 0)(hs:s.length≤2^20)(ha:a<s.length)(hm:Rt.ax s a=34∨Rt.ax s a=39)(k:∀H,Mw id s (Rt.il (Rt.ax s a) s (a+1)).2 h H→K (FW (Rt.il (Rt.ax s a) s (a+1)).1).av H):bx p_ (.fn (.func 64) [] []) [y] h K:=by
 subst ey;have hid:=sc.lt;obtain⟨R,hR⟩:∃R,Rt.il (Rt.ax s a) s (a+1)=R:=⟨_,rfl⟩;rw[hR]at k;refine cB (by kernel_rfl) rfl (K0:=fun r H=>r=(FW R.1).av∧Mw id s R.2 h H) ?_ (by rintro r H ⟨rfl,m⟩;exact k H m);refine (V64 _).bJ ?_;unfold X5;refine bT (cs:=[u8 0,.str [],i_ 0,.str [],ff]) (n:=h.length) (h':=h++[cx 0 [] 0 [] false]) rfl (by simp[bG]) rfl rfl ?_;obtain⟨hB,hhB⟩:∃hB,h++[cx 0 [] 0 [] false]=hB:=⟨_,rfl⟩;have hBl:hB.length=h.length+1:=by rw[←hhB];simp
 have scB':Sc id hB s a:=by rw[←hhB];exact sc.app _
 have hV:hB[h.length]?=some (cx 0 [] 0 [] false):=by rw[←hhB];simp
 have pre:∀{b H},Mw id s b hB H→Mw id s b h H:=fun m=>by rw[←hhB]at m;exact m.pre
 rw[hhB]
 -- a token is handed back
 have ret:∀(t:Tok) (b:Nat) (T:aa),Mw id s b hB T→R.2=b→(FW R.1)=t→ao 5 (.op h.length 0) t.av T fun g=>ah true 5 (.op h.length 0) g fun r=>∃r' h'',Wk h.length [r] g [r'] h''∧r'=(FW R.1).av∧Mw id s R.2 h h'':=by
  intro t b T m e1 e2;refine qP (k:=t.k) (n:=t.n) (t:=t.t) (u:=t.u) (f:=t.f) (by rw[m.ky _ (by omega) (by omega)];exact hV) ?_;refine⟨_,_,Wk.refl _ _ _ (by have:=m.len;simp;omega),by rw[e2], ?_⟩;rw[e1];exact (pre m).ext hid (by simp) fun i hi=>iF (by omega)
 refine Ht (α:=Empty) (fun _=>True) (fun _=>[]) (fun _=>[]) (fun _=>0) ?_ (fun x=>x.elim);refine dA 0 scB' rfl rfl (by omega) ?_;rw[Nat.add_zero];refine jY scB' (by omega) rfl ?_;have m0:=(Mw.refl scB').set (a+1);have hmn:Rt.ax s a≠0:=by rcases hm with h|h<;>rw[h]<;>decide
 have hpm:pk s a=((Rt.ax s a).toNat:Int):=pG ha;obtain⟨mk,hmk⟩:∃mk,Rt.ax s a=mk:=⟨_,rfl⟩;rw[hmk]at hR hmn hpm;refine cS (fun v T=>∃l i,Gb hB.length (nx v 0) T l∧Mw id s i hB T∧R=(some l,i)) (fun v T hT=>?_) fun F hF=>?_
 ·obtain⟨l,i,g,m,e⟩:=hT;refine EH g (ba rfl ?_);exact ret ⟨5,l,0,[],false⟩ i T m (by rw[e]) (by rw[e];rfl)
 ·refine aZ (α:=Nat×AV×aa×ae) (fun p=>p.1≤s.length∧Mw id s p.1 hB p.2.2.1∧Gb hB.length p.2.1 p.2.2.1 p.2.2.2∧p.2.2.2.length≤4*p.1∧Rt.kL p.2.2.2 (Rt.il mk s p.1)=R) (fun p=>[p.2.1]) (fun p=>p.2.2.1) (fun p=>s.length-p.1) (a+1,.v (.slice none 0 0),hB.set id (eB s (a+1)),[]) ⟨ha,m0,.inl ⟨rfl,rfl⟩,by simp,by rw[Fv];exact hR⟩ (Wk.refl _ _ _ (by simp)) ?_;rintro⟨i,x,H,l⟩ ⟨hi,m,g,hl,hr⟩;dsimp only at hi m g hl hr ⊢;have hH:=m.len;have hLn:(hB.set id (eB s (a+1))).length=hB.length:=by simp
  refine dA 0 m.sc rfl rfl (by omega) ?_;rw[Nat.add_zero];refine zzG ?_;rw[Rt.il]at hr
  by_cases q:i<s.length
  ·rw[dif_pos q]at hr;have hat:=jo q;refine zzK (nO (by rw[kf];simpa using q)) (zzG ?_);rw[gi (c:=mk) _ hpm hmn]
   by_cases q1:Rt.ax s i=mk
   ·rw[if_pos (by rw[←hat];exact q1)]at hr;refine zzL (oF q1) (jY m.sc (by omega) rfl ?_);refine aq (hF _ _ ⟨l,i+1,g.mv (by omega) m.sc,m.set _,by rw[←hr];simp[Rt.kL]⟩)
   ·rw[if_neg (by rw[←hat];exact q1)]at hr;refine zzK (nO q1) (zzG ?_);rw[gi (c:=10) 10 rfl (by decide)]
    by_cases q2:Rt.ax s i=10
    ·rw[if_pos (by rw[←hat];exact q2)]at hr;refine zzL (oF q2) (ba rfl ?_);exact ret ⟨6,[],0,[],false⟩ i H m (by rw[←hr];rfl) (by rw[←hr];rfl)
    ·rw[if_neg (by rw[←hat];exact q2)]at hr;refine zzK (nO q2) (zzG ?_);rw[gi (c:=92) 92 rfl (by decide)]
     by_cases q3:Rt.ax s i=92
     ·rw[if_pos (by rw[←hat];exact q3)]at hr;rw[oF q3];refine aF (zzN rfl (dA 1 m.sc rfl rfl (by omega) (zzG (aq ?_))));refine mN (decide (¬i+1<s.length∨Rt.ax s (i+1)=10)) (b1:=decide (pk s (i+1)=-1)) rfl (fun z=>by have z:=oN z;rw[kf]at z;simp[z]) (fun z F hF=>?_) fun v hv=>?_
      ·have z:=tO z;rw[kf]at z;refine dA 1 m.sc rfl rfl (by omega) (zzG ?_);rw[gi (c:=10) 10 rfl (by decide)];simp only[z,false_or]at hF;exact aq hF
      refine aF (zzN rfl (lR hv (aq (zzR ?_))))
      by_cases q4:¬i+1<s.length∨Rt.ax s (i+1)=10
      ·refine zzL (oF q4) (bA (zzA (zzU m.sc rfl (zzP (by unfold aJ;omega) (bA (zzA (zzU m.sc rfl (Iv rfl (zzd (bA (zzA (aU (cs:=[i_ ((min (i+2) s.length:Nat):Int)]) (h':=H.set id (eB s (min (i+2) s.length))) rfl m.sc rfl (by show [i_ (min ((i:Int)+2) (s.length:Int))]=_;rw[show min ((i:Int)+2) (s.length:Int)=((min (i+2) s.length:Nat):Int) by omega]) (by simp) rfl rfl rfl ?_))))))))))));refine aq ⟨(min (i+2) s.length,x,H.set id (eB s (min (i+2) s.length)),l),⟨Nat.min_le_right _ _,m.set _,g.mv (by omega) m.sc,by dsimp only;omega, ?_⟩,Wk.refl _ _ _ (by simp;omega),by dsimp only;omega⟩;dsimp only;rw[←hr]
       by_cases q5:i+1=s.length
       ·rw[if_pos q5,show min (i+2) s.length=i+1 by omega,Rt.il,dif_neg (by omega)]
       ·rw[if_neg q5,show min (i+2) s.length=i+2 by omega];rw[if_pos (q4.resolve_left (by omega))]
      ·refine zzK (nO q4) ?_;have q5:i+1≠s.length:=by omega
       have q6:Rt.ax s (i+1)≠10:=fun z=>q4 (.inr z);rw[if_neg q5,if_neg q6]at hr;refine zzG ?_;rw[gi (c:=92) 92 rfl (by decide)];refine zzL (oF q3) ?_;have hel:=EB s i;have heg:=Rt.gd s i;refine tz m (by omega) rfl g hs (by omega) q fun z H' mz gz=>?_;refine aq ⟨((Rt.cW s i).2,z,H',l++(Rt.cW s i).1),⟨lG q,mz,gz,by simp;omega, ?_⟩,Wk.refl _ _ _ (by have:=mz.len;omega),by dsimp only;omega⟩;dsimp only;rw[←hr,vF]
     ·rw[if_neg (by rw[←hat];exact q3)]at hr;rw[nO q3];refine aF (zzM rfl (aq (aF (dG rfl (aq (aF (zzM rfl (aq (zzQ (zzK rfl (zzG ?_)))))))))));rw[gi (c:=92) 92 rfl (by decide)];refine zzK (nO q3) ?_;refine KT m (by omega) g q hs (by omega) rfl fun z H' mz gz=>?_;refine aq ⟨(i+1,z,H',l++[s[i]]),⟨q,mz,gz,by simp;omega, ?_⟩,Wk.refl _ _ _ (by have:=mz.len;omega),by dsimp only;omega⟩;dsimp only;rw[←hr,vF]
  ·rw[dif_neg q]at hr;refine zzL (oF (kf.2 q)) ?_;exact aq (hF _ _ ⟨l,i,g,m,by rw[←hr];simp[Rt.kL]⟩)
def TT{id a:Nat}{K:AV→aa→Prop}(sc:Sc id h s a)(ey:y=.op id 0)(hs:s.length≤2^20)(ha:a≤s.length)(k:∀H,Mw id s (Rt.mV s a) h H→K (sG none).av H):bx p_ (.fn (.func 141) [] []) [y] h K:=by
 subst ey;have hid:=sc.lt;obtain⟨R,hR⟩:∃R,Rt.mV s a=R:=⟨_,rfl⟩;rw[hR]at k;refine cB (by kernel_rfl) rfl (K0:=fun r H=>r=(sG none).av∧Mw id s R h H) ?_ (by rintro r H ⟨rfl,m⟩;exact k H m);refine (Za _).bJ ?_;unfold SA;refine bT (cs:=[u8 0,.str [],i_ 0,.str [],ff]) (n:=h.length) (h':=h++[cx 0 [] 0 [] false]) rfl (by simp[bG]) rfl rfl ?_;obtain⟨hB,hhB⟩:∃hB,h++[cx 0 [] 0 [] false]=hB:=⟨_,rfl⟩;have hBl:hB.length=h.length+1:=by rw[←hhB];simp
 have scB':Sc id hB s a:=by rw[←hhB];exact sc.app _
 have hV:hB[h.length]?=some (cx 0 [] 0 [] false):=by rw[←hhB];simp
 have pre:∀{b H},Mw id s b hB H→Mw id s b h H:=fun m=>by rw[←hhB]at m;exact m.pre
 rw[hhB];have ret:∀(b:Nat) (T:aa),Mw id s b hB T→R=b→ao 5 (.op h.length 0) (vY 8 [] 0 [] false) T fun g=>ah true 5 (.op h.length 0) g fun r=>∃r' h'',Wk h.length [r] g [r'] h''∧r'=(sG none).av∧Mw id s R h h'':=by
  intro b T m e1;refine qP (k:=8) (n:=0) (t:=[]) (u:=[]) (f:=false) (by rw[m.ky _ (by omega) (by omega)];exact hV) ?_;refine⟨_,_,Wk.refl _ _ _ (by have:=m.len;simp;omega),rfl, ?_⟩;rw[e1];exact (pre m).ext hid (by simp) fun i hi=>iF (by omega)
 refine aZ (α:=Nat×aa) (fun p=>p.1≤s.length∧Mw id s p.1 hB p.2∧Rt.mV s p.1=R) (fun p=>[]) (fun p=>p.2) (fun p=>s.length-p.1) (a,hB) ⟨ha,Mw.refl scB',hR⟩ (Wk.refl _ _ _ (bY _)) ?_;rintro⟨i,H⟩ ⟨hi,m,hr⟩;dsimp only at hi m hr ⊢;have hH:=m.len;refine dA 0 m.sc rfl rfl (by omega) ?_;rw[Nat.add_zero];refine zzG ?_;rw[Rt.mV]at hr
 by_cases q:i<s.length
 ·rw[dif_pos q]at hr;have hat:=jo q;refine zzK (nO (by rw[kf];simpa using q)) (xL 0 m.sc rfl rfl (by omega) ?_);rw[Nat.add_zero,uk];cases q1:Rt.cC s i with
  | true =>
    have n41:s[i]≠41:=by
     rw[←hat];unfold Rt.cC at q1;simp at q1;rw[q1.1];decide
    rw[if_neg n41,if_pos q1]at hr;have heg:=Rt.gd s i;refine zzL rfl ?_;refine tz (l:=[]) m (by omega) rfl (.inl ⟨rfl,rfl⟩) hs (by simp) q fun z H' mz gz=>?_;exact aq ⟨((Rt.cW s i).2,H'),⟨lG q,mz,hr⟩,Wk.refl _ _ _ mz.len,by dsimp only;omega⟩
  | false =>
    refine zzK rfl (jY m.sc (by omega) rfl ?_);have m2:=m.set (i+1);refine bA (zzA (zzU m2.sc rfl (bA (zzA (zzU m2.sc rfl (zze (by unfold aJ;omega) ?_))))));refine uc (n:=i) (b:=s[i]) rfl (by show i_ (((i+1:Nat):Int)-1)=_;rw[show ((i+1:Nat):Int)-1=(i:Int) by omega]) (dO q) ?_;refine zzG ?_
    by_cases q2:s[i]=41
    ·rw[if_pos q2]at hr;refine zzL (oF (by rw[q2];rfl)) (ba rfl ?_);exact ret (i+1) _ m2 hr.symm
    ·rw[if_neg q2,if_neg (by rw[q1];decide)]at hr;refine zzK (nO (fun z=>q2 (UInt8.toNat_inj.1 (by show s[i].toNat=41;omega)))) ?_;exact aq ⟨(i+1,H.set id (eB s (i+1))),⟨q,m2,hr⟩,Wk.refl _ _ _ (by simpa using hH),by dsimp only;omega⟩
 ·rw[dif_neg q]at hr;refine zzL (oF (kf.2 q)) (ba rfl ?_);exact ret i H m (by omega)
end
section
open Go Go.Aw Go.RowKit
def UA(h:i<s.length):(decide (pk s i≤8)||decide (pk s i=11)||jx (pk s i) 14 31||decide (pk s i=127))=Rt.Ga s[i]:=by
 rw[pG h,jo h];unfold Rt.Ga jx;have e1:decide (((s[i].toNat:Nat):Int)≤8)=decide (s[i].toNat≤8):=decide_eq_decide.2 (by omega);have e2:decide (((s[i].toNat:Nat):Int)=11)=decide (s[i].toNat=11):=decide_eq_decide.2 (by omega);have e3:decide (14≤((s[i].toNat:Nat):Int))=decide (14≤s[i].toNat):=decide_eq_decide.2 (by omega);have e4:decide (((s[i].toNat:Nat):Int)≤31)=decide (s[i].toNat≤31):=decide_eq_decide.2 (by omega);have e5:decide (((s[i].toNat:Nat):Int)=127)=decide (s[i].toNat=127):=decide_eq_decide.2 (by omega);rw[e1,e2,e3,e4,e5]
def rq(hi:i≤s.length):i≤Rt.fe s i∧Rt.fe s i≤s.length:=by
 unfold Rt.fe;have:=(List.takeWhile_sublist (l:=s.drop i) Rt.fv).length_le;rw[List.length_drop]at this;omega
theorem uW(s:ae):∀n i,s.length-i≤n→i≤s.length→Rt.mV s i≤s.length
 | 0,i,hn,hi=>by rw[Rt.mV,dif_neg (by omega)];omega
 | n+1,i,hn,hi=>by
   rw[Rt.mV];split
   ·rename_i h;split
    ·omega
    ·split
     ·have:=Rt.gd s i;exact uW s n _ (by omega) (lG h)
     ·exact uW s n _ (by omega) h
   ·omega
variable [Laid]
def T3{id a:Nat}{K:AV→aa→Prop}(sc:Sc id h s a)(ey:y=.op id 0)(hs:s.length≤2^20)(ha:a≤s.length)(k:∀H,Mw id s (Rt.jd s (Rt.fe s a)).2 h H→K (sG (Rt.jd s (Rt.fe s a)).1).av H):bx p_ (.fn (.func 102) [] []) [y] h K:=by
 subst ey;have hid:=sc.lt;obtain⟨R,hR⟩:∃R,Rt.jd s (Rt.fe s a)=R:=⟨_,rfl⟩;rw[hR]at k;refine cB (by kernel_rfl) rfl (K0:=fun r H=>r=(sG R.1).av∧Mw id s R.2 h H) ?_ (by rintro r H ⟨rfl,m⟩;exact k H m);refine (YL _).bJ ?_;unfold R7;refine bT (cs:=[u8 0,.str [],i_ 0,.str [],ff]) (n:=h.length) (h':=h++[cx 0 [] 0 [] false]) rfl (by simp[bG]) rfl rfl ?_;obtain⟨hB,hhB⟩:∃hB,h++[cx 0 [] 0 [] false]=hB:=⟨_,rfl⟩;have hBl:hB.length=h.length+1:=by rw[←hhB];simp
 have scB':Sc id hB s a:=by rw[←hhB];exact sc.app _
 have hV:hB[h.length]?=some (cx 0 [] 0 [] false):=by rw[←hhB];simp
 have pre:∀{b H},Mw id s b hB H→Mw id s b h H:=fun m=>by rw[←hhB]at m;exact m.pre
 rw[hhB];have ret:∀(t:Tok) (b:Nat) (T:aa),Mw id s b hB T→R.2=b→(sG R.1)=t→ao 5 (.op h.length 0) t.av T fun g=>ah true 5 (.op h.length 0) g fun r=>∃r' h'',Wk h.length [r] g [r'] h''∧r'=(sG R.1).av∧Mw id s R.2 h h'':=by
  intro t b T m e1 e2;refine qP (k:=t.k) (n:=t.n) (t:=t.t) (u:=t.u) (f:=t.f) (by rw[m.ky _ (by omega) (by omega)];exact hV) ?_;refine⟨_,_,Wk.refl _ _ _ (by have:=m.len;simp;omega),by rw[e2], ?_⟩;rw[e1];exact (pre m).ext hid (by simp) fun i hi=>iF (by omega)
 refine AM scB' rfl ha hs ?_;have hsp:=rq ha;have m0:=(Mw.refl scB').set (Rt.fe s a);refine aZ (α:=Nat×AV×aa×ae) (fun p=>p.1≤s.length∧Mw id s p.1 hB p.2.2.1∧Gb hB.length p.2.1 p.2.2.1 p.2.2.2∧p.2.2.2.length≤4*p.1∧Rt.kL p.2.2.2 (Rt.jd s p.1)=R) (fun p=>[p.2.1]) (fun p=>p.2.2.1) (fun p=>s.length-p.1) (Rt.fe s a,.v (.slice none 0 0),hB.set id (eB s (Rt.fe s a)),[]) ⟨hsp.2,m0,.inl ⟨rfl,rfl⟩,by simp,by rw[Fv];exact hR⟩ (Wk.refl _ _ _ (by simp)) ?_;rintro⟨i,x,H,l⟩ ⟨hi,m,g,hl,hr⟩;dsimp only at hi m g hl hr ⊢;have hH:=m.len;refine dA 0 m.sc rfl rfl (by omega) ?_;rw[Nat.add_zero]
 -- the ends
 have endU:∀(j:Nat) (T:aa),Mw id s j hB T→Gb hB.length x T l→R=(some l,j)→cP x T fun v30=>aW (.agg [(u8 0),(.str []),(i_ 0),(.str []),ff]) [(0,1,(u8 7)),(1,1,v30)] fun v31=>ao 5 (.op h.length 0) v31 T fun g32=>ah true 5 (.op h.length 0) g32 fun r33=>∃r' h'',Wk h.length [r33] g32 [r'] h''∧r'=(sG R.1).av∧Mw id s R.2 h h'':=fun j T mj gj e=>by
  refine EH gj (ba rfl ?_);exact ret ⟨7,l,0,[],false⟩ j T mj (by rw[e]) (by rw[e];rfl)
 have endB:∀(j:Nat) (T:aa),j≤s.length→Mw id s j hB T→R=(none,Rt.mV s j)→bx p_ (.fn (.func 141) [] []) [.op id 0] T fun v23 g24=>ao 5 (.op h.length 0) v23 g24 fun g25=>ah true 5 (.op h.length 0) g25 fun r26=>∃r' h'',Wk h.length [r26] g25 [r'] h''∧r'=(sG R.1).av∧Mw id s R.2 h h'':=fun j T hj mj e=>by
  refine TT mj.sc rfl hs hj fun T2 m2=>?_;have m3:Mw id s (Rt.mV s j) hB T2:=mj.trans m2;exact ret ⟨8,[],0,[],false⟩ _ T2 m3 (by rw[e]) (by rw[e];rfl)
 -- behind spaces
 refine cS (fun v T=>∃j,nx v 0=i_ (pk s j)∧j≤s.length∧i≤j∧Mw id s j hB T∧Gb hB.length x T l∧((j=i∧Rt.fv (Rt.ax s i)=false)∨(R=(some l,min s.length (j+1))∧(¬j<s.length∨Rt.ax s j=41)))) (fun v T hT=>?_) fun F hF=>?_
 ·obtain⟨j,hv,hj,hij,mj,gj,hc⟩:=hT;rw[hv];refine zzG ?_
  by_cases q:j<s.length
  ·have hat:=jo q;refine zzK (nO (by rw[kf];simpa using q)) (zzG ?_);rw[gi (c:=41) 41 rfl (by decide)]
   by_cases q1:Rt.ax s j=41
   ·have e:R=(some l,j+1):=by
     rcases hc with⟨rfl,hc⟩|⟨hc,_⟩
     ·rw[←hr,Rt.jd,dif_pos q,if_pos (by rw[←hat];exact q1)];simp[Rt.kL]
     ·rw[hc,show min s.length (j+1)=j+1 by omega]
    refine zzL (oF q1) (jY mj.sc (by omega) rfl ?_);exact endU (j+1) _ (mj.set _) (gj.mv (by omega) mj.sc) e
   ·rcases hc with⟨rfl,hc⟩|⟨_,hc⟩;rotate_left
    ·rcases hc with hc|hc
     ·exact absurd q hc
     ·exact absurd hc q1
    rw[Rt.jd,dif_pos q,if_neg (by rw[←hat];exact q1),if_neg (by rw[←hat,hc];decide)]at hr;refine zzK (nO q1) (zzG ?_);rw[gi (c:=34) 34 rfl (by decide)];have tr:∀(b c:Bool),decide (b=true∨c=true)=(b||c):=fun b c=>by cases b<;>cases c<;>rfl
    refine mN (decide (Rt.ax s j=34)||decide (Rt.ax s j=39)) rfl (fun z=>by rw[z];rfl) (fun z F hF=>?_) fun v1 hv1=>?_
    ·refine zzG ?_;rw[gi (c:=39) 39 rfl (by decide)];rw[z,Bool.false_or]at hF;exact aq hF
    refine lR hv1 ?_;refine mN (decide (Rt.ax s j=34)||decide (Rt.ax s j=39)||decide (Rt.ax s j=40)) rfl (fun z=>by rw[z];rfl) (fun z F hF=>?_) fun v1 hv1=>?_
    ·refine zzG ?_;rw[gi (c:=40) 40 rfl (by decide)];rw[z,Bool.false_or]at hF;exact aq hF
    refine lR hv1 ?_;refine mN (decide (Rt.ax s j=34)||decide (Rt.ax s j=39)||decide (Rt.ax s j=40)||decide (pk s j≤8)) rfl (fun z=>by rw[z];rfl) (fun z F hF=>?_) fun v1 hv1=>?_
    ·refine zzD ?_;rw[z,Bool.false_or]at hF;exact aq hF
    refine lR hv1 ?_;refine mN (decide (Rt.ax s j=34)||decide (Rt.ax s j=39)||decide (Rt.ax s j=40)||decide (pk s j≤8)||decide (pk s j=11)) rfl (fun z=>by rw[z];rfl) (fun z F hF=>?_) fun v1 hv1=>?_
    ·refine zzG ?_;rw[z,Bool.false_or]at hF;exact aq hF
    refine lR hv1 ?_;refine mN (decide (Rt.ax s j=34)||decide (Rt.ax s j=39)||decide (Rt.ax s j=40)||decide (pk s j≤8)||decide (pk s j=11)||jx (pk s j) 14 31) rfl (fun z=>by rw[z];rfl) (fun z F hF=>?_) fun v1 hv1=>?_
    ·refine uCon (pE _ _ _) ?_;rw[z,Bool.false_or]at hF;exact aq hF
    refine lR hv1 ?_;refine mN (decide (Rt.ax s j=34)||decide (Rt.ax s j=39)||decide (Rt.ax s j=40)||decide (pk s j≤8)||decide (pk s j=11)||jx (pk s j) 14 31||decide (pk s j=127)) rfl (fun z=>by rw[z];rfl) (fun z F hF=>?_) fun v1 hv1=>?_
    ·refine zzG ?_;rw[z,Bool.false_or]at hF;exact aq hF
    refine lR hv1 ?_;have hb:(decide (Rt.ax s j=34)||decide (Rt.ax s j=39)||decide (Rt.ax s j=40)||decide (pk s j≤8)||decide (pk s j=11)||jx (pk s j) 14 31||decide (pk s j=127))=decide (s[j]=34∨s[j]=39∨s[j]=40∨Rt.Ga s[j]=true):=by
     rw[←UA q,hat,Bool.eq_iff_iff];simp only[abl,Of];simp only[or_assoc]
    rw[hb]
    by_cases q2:s[j]=34∨s[j]=39∨s[j]=40∨Rt.Ga s[j]=true
    ·rw[if_pos (by rcases q2 with h|h|h|h<;>simp[h])]at hr;refine zzL (oF q2) ?_;exact endB j T hj mj (by rw[←hr];rfl)
    ·refine zzK (nO q2) (zzH ?_);rw[gi (c:=92) 92 rfl (by decide)];have hH2:=mj.len
     by_cases q3:Rt.ax s j=92
     ·refine zzK (by rw[oF q3];rfl) (xL 0 mj.sc rfl rfl (by omega) ?_);rw[Nat.add_zero,uk];cases q4:Rt.cC s j with
      | true =>
        rw[if_neg (by simp only[q4];rintro (z|z|z|z|⟨_,z⟩);exact q2 (.inl z);exact q2 (.inr (.inl z));exact q2 (.inr (.inr (.inl z)));exact q2 (.inr (.inr (.inr z)));cases z),if_pos (by rw[←hat];exact q3)]at hr;refine zzL rfl ?_;have hel:=EB s j;have heg:=Rt.gd s j;refine tz mj (by omega) rfl gj hs (by omega) q fun z H' mz gz=>?_;refine aq ⟨((Rt.cW s j).2,z,H',l++(Rt.cW s j).1),⟨lG q,mz,gz,by simp;omega, ?_⟩,Wk.refl _ _ _ (by have:=mz.len;simp;omega),by dsimp only;omega⟩;dsimp only;rw[←hr,vF]
      | false =>
        rw[if_pos (.inr (.inr (.inr (.inr ⟨by rw[←hat];exact q3,q4⟩))))]at hr;refine zzK rfl ?_;exact endB j T hj mj (by rw[←hr];rfl)
     ·rw[if_neg (by rintro (z|z|z|z|⟨z,_⟩);exact q2 (.inl z);exact q2 (.inr (.inl z));exact q2 (.inr (.inr (.inl z)));exact q2 (.inr (.inr (.inr z)));exact q3 (by rw[hat];exact z)),if_neg (by rw[←hat];exact q3)]at hr;refine zzL (by rw[nO q3];rfl) ?_;refine KT mj (by omega) gj q hs (by omega) rfl fun z H' mz gz=>?_;refine aq ⟨(j+1,z,H',l++[s[j]]),⟨q,mz,gz,by simp;omega, ?_⟩,Wk.refl _ _ _ (by have:=mz.len;simp;omega),by dsimp only;omega⟩;dsimp only;rw[←hr,vF]
  ·have e:R=(some l,j):=by
    rcases hc with⟨rfl,hc⟩|⟨hc,_⟩
    ·rw[←hr,Rt.jd,dif_neg q];simp[Rt.kL];omega
    ·rw[hc,show min s.length (j+1)=j by omega]
   refine zzL (oF (kf.2 q)) ?_;exact endU j T mj gj e
 ·refine uCon (sW _) ?_;rw[Bi];cases c:Rt.fv (Rt.ax s i) with
  | false =>
    refine zzK rfl ?_;exact aq (hF _ _ ⟨i,rfl,hi,bY _,m,g,.inl ⟨rfl,c⟩⟩)
  | true =>
    have q:i<s.length:=at_lt fun e=>by rw[e]at c;exact absurd c (by decide)
    have hat:=jo q;have n41:s[i]≠41:=fun e=>by rw[hat,e]at c;exact absurd c (by decide)
    rw[Rt.jd,dif_pos q,if_neg n41,if_pos (by rw[←hat];exact c)]at hr;refine zzL rfl (AM m.sc rfl hi hs ?_);have hsp:=rq hi;obtain⟨j,hj⟩:∃j,Rt.fe s i=j:=⟨_,rfl⟩;rw[hj]at hsp hr ⊢;have mj:=m.set j;have gj:=g.mv (s:=s) (b:=j) (by omega) m.sc;refine dA 0 mj.sc rfl rfl (by omega) ?_;rw[Nat.add_zero];refine zzH ?_;rw[gi (c:=41) 41 rfl (by decide)];refine mA (decide (j<s.length∧Rt.ax s j≠41)) (b1:=!decide (Rt.ax s j=41)) rfl (fun z=>by simp at z;simp[z]) (fun z F hF=>?_) fun v hv=>?_
    ·refine zzH ?_;have z:Rt.ax s j≠41:=by simpa using z
     have e:(!decide (pk s j=-1))=decide (j<s.length∧Rt.ax s j≠41):=by
      rw[Bool.eq_iff_iff];simp only[abm,decide_eq_false_iff_not,Of,kf];exact⟨fun y=>⟨by omega,z⟩,fun y=>by omega⟩
     rw[e];exact aq hF
    refine lv hv ?_
    by_cases q2:j<s.length∧Rt.ax s j≠41
    ·rw[if_pos q2]at hr;refine zzL (oF q2) ?_;exact endB j _ hsp.2 mj (by rw[←hr];rfl)
    ·rw[if_neg q2]at hr;refine zzK (nO q2) ?_;refine aq (hF _ _ ⟨j,rfl,hsp.2,hsp.1,mj,gj,.inr ⟨by rw[←hr];simp[Rt.kL], ?_⟩⟩)
     by_cases z:j<s.length
     ·right
      by_cases z2:Rt.ax s j=41
      ·exact z2
      ·exact absurd ⟨z,z2⟩ q2
     ·exact .inl z
end
section
open Go Go.Aw
variable [Laid]
def Xt(a:AV)(h:aa)(K:AV→aa→Prop):Prop:=
 bq a fun d=>qBe .eql d 0 fun e=>qJo e [a] h (fun f=>iC p_ 33 [a,.fn (.func 34) [] []] h f) fun g b=>af g (K (i_ 8) b) (iC p_ 26 [a] b fun i c=>qBe .gtr i 64 fun j=>af j (K (i_ 4) c) (K (i_ 0) c))
def V20(a:AV):Body p_ 20 [a] (Xt a):=bC Tryz.func20 (sn (.seq (.seq (.aN (oR 0 4 (.aA 3 false (fR 4 2) [0] [6,8]::.op 6 false::[]))) .nil) .nil)) 13 [.tmp 2]
def XF(a b:AV)(h:aa)(K:AV→aa→Prop):Prop:=
 iC p_ 47 [a,b] h fun c d=>qBe .geq c 0 fun e=>K e d
def V33(a b:AV):Body p_ 33 [a,b] (XF a b):=bC Tryz.func33 .nil 9 [.tmp 4]
def XG(b:AV)(h:aa)(K:AV→aa→Prop):Prop:=
 aV 39 b h fun c a=>ah true 3 c a fun d=>aW (.agg [i_ 0,ff]) [] fun e=>iC p_ 35 [d,e,ff] a fun f g=>cr f fun i=>K i g
def V34(a:AV):Body p_ 34 [a] (XG a):=bC Tryz.func34 .nil 7 [.tmp 2]
def XS(b e:AV)(h:aa)(K:AV→aa→Prop):Prop:=
 bq b fun d=>bN [i_ 0] h fun g a c =>
 ag .lss (nx a 0) d fun i=>af i (aI 3 b (nx a 0) fun j=>ah true 3 j c fun k=>bx p_ e [k] c fun l f=>af l (K (nx a 0) f) (qBe .add (nx a 0) 1 fun m=>eC [b,e,d] (g [m] f))) (K (i_ (-1)) c)
def V47(a b:AV):Body p_ 47 [a,b] (XS a b):=bC Tryz.func47 (sn (.seq (sn (.one (.loop [0,1,7] [8] .nil))) .nil)) 19 [.tmp 4]
def XH(n p s:AV)(h:aa)(K:AV→aa→Prop):Prop:=
 aV 39 n h fun a o=>aV 80 p o fun b d=>iFL 0 false 1 a d fun q=>ag .neq q (u8 0) fun r=>qJ .neq s r fun t=>qJo t [a,b] d (fun u=>iFL 0 false 1 a d fun v=>ag .gtr v (u8 4) fun w=>u w d) fun x e=>qJo x [a,b] e (fun y=>iFL 2 false 1 a e fun z=>bq z fun A=>qBe .add A 1 fun B=>iFL 1 false 1 a e fun C=>bq C fun D=>ag .neq B D fun E=>y E e) fun F i=>qJo F [a,b] i (fun G=>iFL 1 false 1 a i fun H=>bq H fun I=>qBe .gtr I 64 fun J=>G J i) fun L j=>af L (K ff j) (iFL 2 false 1 a j fun f=>bq f fun k=>bN [i_ 0] j fun M g c =>
 ag .lss (nx g 0) k fun N=>af N (aI 1 f (nx g 0) fun O=>ah false 1 O c fun l=>ag .lss l (u8 1) fun P=>qJo P [a,b,f,k,nx g 0] c (fun Q=>ag .gtr l (u8 4) fun R=>Q R c) fun S m=>af S (K ff m) (qBe .add (nx g 0) 1 fun T=>eC [a,b,f,k] (M [T] m))) (iFL 1 false 1 a c fun U=>iC p_ 48 [U,(.fn (.func 49) [] [b])] c fun V W=>cr V fun X=>K X W))
def V35(a b c:AV):Body p_ 35 [a,b,c] (XH a b c):=bC Tryz.func35 (sn (.seq (.seq (.aN (oR 0 6 (.aA 5 false (fR 6 3) [3,4] [14,17]::oR 9 2 (.aA 10 false (fR 11 8) [3,4] [19,27]::oR 19 2 (.aA 20 false (fR 21 4) [3,4] [29,33]::.op 25 false::[]))))) .nil) (.seq (sn (.one (.loop [3,4,36,37] [38] (sn (sn (.seq (.one (sn (.seq (.aN (oR 0 3 (.aA 2 false (fR 3 2) [3,4,36,37,38] [44,46]::.op 5 false::[]))) .nil))) .nil)))))) .nil))) 54 [.tmp 6]
def XT(a b:AV)(h:aa)(K:AV→aa→Prop):Prop:=
 iC p_ 80 [a,b] h fun c d=>qBe .geq c 0 fun e=>K e d
def V48(a b:AV):Body p_ 48 [a,b] (XT a b):=bC Tryz.func48 .nil 9 [.tmp 4]
def XU(b e:AV)(h:aa)(K:AV→aa→Prop):Prop:=
 aV 42 b h fun c a=>ah true 2 c a fun d=>ah true 2 e a fun f=>iC p_ 50 [d,f] a fun g i=>cr g fun j=>K j i
def V49(a b:AV):Body p_ 49 [a,b] (XU a b):=bC Tryz.func49 .nil 8 [.tmp 3]
def Yk(b e:AV)(h:aa)(K:AV→aa→Prop):Prop:=
 bq b fun d=>bN [i_ 0] h fun g a c =>
 ag .lss (nx a 0) d fun i=>af i (aI 2 b (nx a 0) fun j=>ah true 2 j c fun k=>bx p_ e [k] c fun l f=>af l (K (nx a 0) f) (qBe .add (nx a 0) 1 fun m=>eC [b,e,d] (g [m] f))) (K (i_ (-1)) c)
def V80(a b:AV):Body p_ 80 [a,b] (Yk a b):=bC Tryz.func80 (sn (.seq (sn (.one (.loop [0,1,7] [8] .nil))) .nil)) 19 [.tmp 4]
def XV(o q:AV)(h:aa)(K:AV→aa→Prop):Prop:=
 aV 42 o h fun a p=>aV 80 q p fun c d=>iFL 0 false 1 a d fun r=>ag .neq r (.str []) fun s=>qJa s [a,c] d (fun t=>iFL 0 false 1 a d fun u=>ag .neq u (.str [42]) fun v=>t v d) fun w e=>qJa w [a,c] e (fun x=>iFL 0 false 1 a e fun y=>iC p_ 81 [y] e fun z A=>cr z fun B=>x B A) fun C f=>qJo C [a,c] f (fun D=>iFL 1 false 1 a f fun E=>bq E fun F=>qBe .gtr F 64 fun G=>D G f) fun H g=>af H (K ff g) (iFL 1 false 1 a g fun i=>bq i fun l=>bN [i_ 0] g fun I j b =>
 ag .lss (nx j 0) l fun J=>af J (aI 9 i (nx j 0) fun L=>ah true 9 L b fun M=>aV 46 (.agg [u8 0,.str [],u8 0,.str [],ff,i_ 0,i_ 0,ff,qNs]) b fun m N=>ao 9 m M N fun k=>ah true 9 m k fun O=>ah true 2 c k fun P=>iC p_ 82 [O,P] k fun Q n=>cr Q fun R=>af R (K ff n) (qBe .add (nx j 0) 1 fun S=>eC [a,c,i,l] (I [S] n))) (iFL 0 false 1 a b fun T=>ag .neq T (.str []) fun U=>qKo U b (fun V=>iFL 1 false 1 a b fun W=>bq W fun X=>qBe .gtr X 0 fun Y=>V Y b) fun Z a0=>K Z a0))
def V50(a b:AV):Body p_ 50 [a,b] (XV a b):=bC Tryz.func50 (sn (.seq (.seq (.aN (oR 0 4 (.aA 3 true (fR 4 3) [2,3] [10,13]::oR 7 2 (.aA 8 true (fR 9 4) [2,3] [15,19]::oR 13 2 (.aA 14 false (fR 15 4) [2,3] [21,25]::.op 19 false::[]))))) .nil) (.seq (sn (.one (.loop [2,3,28,29] [30] .nil))) (.seq (.aN (oR 0 4 (.aA 3 false (fR 4 4) [] [42,46]::oR 8 2 []))) .nil)))) 48 [.tmp 4]
def Yl(a:AV)(h:aa)(K:AV→aa→Prop):Prop:=
 iC p_ 108 [a] h fun c b=>qKa c b (fun d=>iC p_ 76 [a] b fun e f=>ag .eql e a fun g=>d g f) fun i j=>K i j
def V81(a:AV):Body p_ 81 [a] (Yl a):=bC Tryz.func81 (sn (.seq (.aN (oR 0 3 (.aA 2 true (fR 3 4) [] [5,9]::oR 7 2 []))) .nil)) 11 [.tmp 2]
def Ym(c7 c9:AV)(h:aa)(K:AV→aa→Prop):Prop:=
 aV 46 c7 h fun a c8=>aV 80 c9 c8 fun d0 F=>ah true 9 a F fun d1=>iC p_ 109 [d1] F fun G g=>aR 0 G fun d2=>aR 1 G fun d3=>aG (fun H=>af d2 (ah true 2 d0 g fun d4=>iFL 0 false 1 a g fun d5=>iC p_ 110 [d4,d5] g fun I d6=>aR 0 I fun d7=>aR 1 I fun d8=>aV 80 (.agg [i_ 0,ff]) d6 fun f d9=>ao 2 f d7 d9 fun J=>cr d8 fun L=>aG (fun M=>aM L false (cr d3 fun e0=>eC [a,f] (M [ff,e0] J)) (eC [a,f] (M [cd false L,un] J))) fun l r=>aG (fun N=>aM (nx l 1) true (iFL 8 false 1 a r fun e1=>bq e1 fun e2=>qBe .eql e2 0 fun e3=>eC [a,f,nx l 0] (N [tt,e3] r)) (eC [a,f,nx l 0] (N [(cd true (nx l 1)),un] r))) fun O P=>qJo (nx l 0) [a,f] P (fun e4=>bQ (nx O 0) (nx O 1) ff fun e5=>e4 e5 P) fun e6 s=>qJo e6 [a] s (fun e7=>iFL 8 false 1 a s fun e8=>iC p_ 33 [e8,(.fn (.func 111) [] [f,a])] s e7) fun e9 Q=>af e9 (K ff Q) (eC [a] (H [] Q))) (iFL 8 false 1 a g fun f0=>bq f0 fun f1=>qBe .gtr f1 0 fun f2=>af f2 (K ff g) (eC [a] (H [] g)))) fun n3 m=>iFL 0 false 1 a m fun f3=>ag .eql f3 (u8 3) fun R=>iFL 0 false 1 a m fun f4=>ag .eql f4 (u8 9) fun f5=>qJo f5 [a,R] m (fun f6=>iFL 0 false 1 a m fun f7=>ag .eql f7 (u8 10) fun f8=>f6 f8 m) fun b t=>cr R fun S=>aG (fun T=>aM S true (iFL 2 false 1 a t fun f9=>ag .neq f9 (u8 0) fun g0=>eC [a,b] (T [tt,g0] t)) (eC [a,b] (T [cd true S,un] t))) fun i u=>aG (fun U=>aM (nx i 1) false (iFL 3 false 1 a u fun g1=>ag .neq g1 (.str []) fun g2=>eC [a,b,nx i 0] (U [ff,g2] u)) (eC [a,b,nx i 0] (U [(cd false (nx i 1)),un] u))) fun V W=>aG (fun X=>aM (nx i 0) true (bQ (nx V 0) tt (nx V 1) fun g3=>eC [a,b] (X [tt,g3] W)) (eC [a,b] (X [(cd true (nx i 0)),un] W))) fun n v=>aG (fun Y=>aM (nx n 1) false (iFL 4 false 1 a v fun g4=>eC [a,b,nx n 0] (Y [ff,g4] v)) (eC [a,b,nx n 0] (Y [(cd false (nx n 1)),un] v))) fun Z a0=>qJa (nx n 0) [a,b] a0 (fun g5=>bQ (nx Z 0) tt (nx Z 1) fun g6=>g5 g6 a0) fun a1 a2=>aG (fun a3=>aM a1 false (cr b fun g7=>eC [a,b] (a3 [ff,g7] a2)) (eC [a,b] (a3 [cd false a1,un] a2))) fun c w=>aG (fun a4=>aM (nx c 1) true (iFL 7 false 1 a w fun g8=>eC [a,b,nx c 0] (a4 [tt,g8] w)) (eC [a,b,nx c 0] (a4 [(cd true (nx c 1)),un] w))) fun j x=>aG (fun a5=>aM (nx j 1) false (iFL 5 true 2 a x fun g9=>aW (.agg [i_ 0,i_ 0]) [] fun i0=>mc true [1,1] g9 i0 fun i1=>eC [a,b,nx c 0,nx j 0] (a5 [ff,i1] x)) (eC [a,b,nx c 0,nx j 0] (a5 [(cd false (nx j 1)),un] x))) fun a6 a7=>aG (fun a8=>aM (nx j 0) true (bQ (nx a6 0) tt (nx a6 1) fun i2=>eC [a,b,nx c 0] (a8 [tt,i2] a7)) (eC [a,b,nx c 0] (a8 [(cd true (nx j 0)),un] a7))) fun a9 b0=>qJo (nx c 0) [a,b] b0 (fun i3=>bQ (nx a9 0) (nx a9 1) ff fun i4=>i3 i4 b0) fun i5 q=>af i5 (K ff q) (iFL 0 false 1 a q fun o=>aG (fun b1=>ag .eql o (u8 1) fun i6=>af i6 (eC [a,b,o] (b1 [tt] q)) (ag .eql o (u8 2) fun i7=>eC [a,b,o] (b1 [i7] q))) fun i8 e=>af (nx i8 0) (iFL 1 false 1 a e fun i9=>iC p_ 108 [i9] e fun j0 j1=>K j0 j1) (ag .eql o (u8 3) fun j2=>af j2 (iFL 1 false 1 a e fun j3=>iC p_ 81 [j3] e fun j4 y=>qJa j4 [a] y (fun j5=>iFL 2 false 1 a y fun j6=>ag .leq j6 (u8 6) fun j7=>j5 j7 y) fun j8 z=>qJa j8 [a] z (fun j9=>iFL 3 false 1 a z fun k0=>iC p_ 112 [k0,i_ 400] z fun k1 k2=>cr k1 fun k3=>j9 k3 k2) fun b2 A=>aG (fun b3=>aM b2 true (iFL 2 false 1 a A fun k4=>ag .neq k4 (u8 0) fun k5=>eC [a] (b3 [tt,k5] A)) (eC [a] (b3 [cd true b2,un] A))) fun d B=>aG (fun b4=>aM (nx d 1) false (iFL 3 false 1 a B fun k6=>ag .eql k6 (.str []) fun k7=>eC [a,nx d 0] (b4 [ff,k7] B)) (eC [a,nx d 0] (b4 [(cd false (nx d 1)),un] B))) fun k C=>aG (fun b5=>aM (nx k 1) true (iFL 4 false 1 a C fun k8=>cr k8 fun k9=>eC [nx d 0,nx k 0] (b5 [tt,k9] C)) (eC [nx d 0,nx k 0] (b5 [(cd true (nx k 1)),un] C))) fun b6 b7=>aG (fun b8=>aM (nx k 0) false (bQ (nx b6 0) (nx b6 1) ff fun l0=>eC [nx d 0] (b8 [ff,l0] b7)) (eC [nx d 0] (b8 [(cd false (nx k 0)),un] b7))) fun b9 c0=>qKa (nx d 0) c0 (fun l1=>bQ (nx b9 0) tt (nx b9 1) fun l2=>l1 l2 c0) fun l3 l4=>K l3 l4) (iFL 1 false 1 a e fun l5=>ag .eql l5 (.str []) fun l6=>qJa l6 [a,b] e (fun l7=>iFL 0 false 1 a e fun l8=>ag .geq l8 (u8 4) fun l9=>l7 l9 e) fun m0 D=>qJa m0 [a,b] D (fun m1=>iFL 0 false 1 a D fun m2=>ag .leq m2 (u8 14) fun m3=>m1 m3 D) fun c1 c2=>aG (fun c3=>aM c1 true (cr b fun m4=>eC [a] (c3 [tt,m4] c2)) (eC [a] (c3 [cd true c1,un] c2))) fun p E=>aG (fun c4=>aM (nx p 1) false (iFL 5 true 2 a E fun m5=>iC p_ 86 [m5] E fun m6 m7=>qBe .eql m6 0 fun m8=>eC [nx p 0] (c4 [ff,m8] m7)) (eC [nx p 0] (c4 [(cd false (nx p 1)),un] E))) fun c5 c6=>qKa (nx p 0) c6 (fun m9=>bQ (nx c5 0) tt (nx c5 1) fun n0=>m9 n0 c6) fun n1 n2=>K n1 n2)))
def V82(a b:AV):Body p_ 82 [a,b] (Ym a b):=bC Tryz.func82 (sn (sn (.join [2] [] (sn (.two (sn (.seq (.aN (oR 0 3 (.aA 2 false (fR 3 3) [2,7] [26,29]::.aA 5 true (fR 6 4) [2,7,26] [29,33]::.aA 2 false [(10,false)] [2,7] [26,34]::oR 11 2 (.aA 12 false (fR 13 4) [2] [36,40]::.op 17 false::[])))) .nil)) .nil)) (sn (.seq (.aN (oR 0 4 (.aA 3 false (fR 4 3) [2,9] [52,55]::oR 7 2 []))) (.seq (.seq (.aN (oR 0 3 (.aA 2 true (fR 3 4) [2,10] [59,63]::.aA 6 false (fR 7 3) [2,10,59] [63,66]::.aA 2 true (fR 10 2) [2,10] [59,68]::.aA 11 false (fR 12 2) [2,10,59] [68,70]::.aA 2 true [(14,false)] [2,10] [59,71]::oR 15 2 (.aA 16 false (fR 17 3) [2,10] [73,76]::.aA 19 true (fR 20 3) [2,10,73] [76,79]::.aA 22 false (fR 23 4) [2,10,73,76] [79,83]::.aA 19 true [(27,false)] [2,10,73] [76,84]::.aA 16 false [(28,false)] [2,10] [73,85]::.op 29 false::[])))) .nil) (.seq (sn (.one (.join [2,10,88] [89] .nil (.two .nil (sn (.two (.seq (.aN (oR 0 4 (.aA 3 true (fR 4 3) [2] [100,103]::oR 7 2 (.aA 8 true (fR 9 4) [2] [105,109]::oR 13 2 (.aA 14 true (fR 15 4) [2] [111,115]::.aA 18 false (fR 19 4) [2,111] [115,119]::.aA 22 true (fR 23 3) [111,115] [119,122]::.aA 18 false [(26,false)] [111] [115,123]::.aA 14 true [(27,false)] [] [111,124]::oR 28 2 []))))) .nil) .nil)))))) (.seq (.aN (oR 0 4 (.aA 3 true (fR 4 3) [2,10] [129,132]::oR 7 2 (.aA 8 true (fR 9 3) [2,10] [134,137]::oR 12 2 (.aA 13 true (fR 14 3) [2] [139,142]::.aA 16 false (fR 17 4) [139] [142,146]::.aA 13 true [(21,false)] [] [139,147]::oR 22 2 []))))) .nil)))))))) 149 [.tmp 4]
def Yg(i:AV)(h:aa)(K:AV→aa→Prop):Prop:=
 iO 5 i h fun a j=>bq a fun c=>bN [i_ 0] j fun k b d =>
 ag .lss (nx b 0) c fun l=>af l (aG (fun f=>aI 1 a (nx b 0) fun m=>ah false 1 m d fun g=>ag .leq (u8 65) g fun n=>qJa n [a,nx b 0,a,c,nx b 0] d (fun o=>ag .leq g (u8 90) fun p=>o p d) fun q e=>af q (aI 1 a (nx b 0) fun r=>ah false 1 r e fun s=>ag .or s (u8 32) fun t=>aI 1 a (nx b 0) fun u=>ao 1 u t e fun v=>eC [a,a,c,nx b 0] (f [] v)) (eC [a,a,c,nx b 0] (f [] e))) fun z w=>qBe .add (nx b 0) 1 fun x=>eC [a,a,c] (k [x] w)) (cP a d fun y=>K y d)
def V76(a:AV):Body p_ 76 [a] (Yg a):=bC Tryz.func76 (sn (sn (.seq (sn (.one (.loop [3,8,9] [10] (sn (sn (.join [3,8,9,10] [] (.one (sn (.seq (.aN (oR 0 3 (.aA 2 true (fR 3 2) [3,4,8,9,10] [17,19]::.op 5 false::[]))) .nil))) .nil)))))) .nil))) 30 [.tmp 2]
def Sd(a:AV)(h:aa)(K:AV→aa→Prop):Prop:=
 ag .neq a (.str []) fun b=>qKa b h (fun c=>iC p_ 112 [a,i_ 64] h fun d e=>cr d fun f=>c f e) fun g i=>K g i
def YR(a:AV):Body p_ 108 [a] (Sd a):=bC Tryz.func108 (sn (.seq (.aN (oR 0 3 (.aA 2 true (fR 3 3) [] [5,8]::oR 6 2 []))) .nil)) 10 [.tmp 2]
def Yp(e:AV)(h:aa)(K:AV→aa→Prop):Prop:=
 aV 44 e h fun b c=>iFL 0 false 1 b c fun f=>iC p_ 121 [f] c fun g a=>cr g fun i=>qKo i a (fun j=>iFL 1 false 1 b a fun k=>iC p_ 121 [k] a fun l m=>cr l fun n=>j n m) fun o d=>af o (K (i_ 8) d) (K (i_ 0) d)
def V86(a:AV):Body p_ 86 [a] (Yp a):=bC Tryz.func86 (sn (.seq (.seq (.aN (oR 0 5 (.aA 4 false (fR 5 4) [] [7,11]::.op 9 false::[]))) .nil) .nil)) 13 [.tmp 2]
def Se(k:AV)(h:aa)(K:AV→aa→Prop):Prop:=
 aV 46 k h fun b d=>iFL 0 false 1 b d fun a=>aG (fun f=>ag .eql a (u8 9) fun l=>af l (eC [b,a] (f [tt] d)) (ag .eql a (u8 10) fun m=>eC [b,a] (f [m] d))) fun n c=>af (nx n 0) (iFL 7 false 1 b c fun o=>K (.ay [o,ff]) c) (aG (fun g=>ag .eql a (u8 11) fun p=>af p (eC [a] (g [tt] c)) (ag .eql a (u8 12) fun q=>eC [a] (g [q] c))) fun r e=>af (nx r 0) (K (.ay [tt,tt]) e) (aG (fun i=>ag .eql a (u8 13) fun s=>af s (i [tt] e) (ag .eql a (u8 14) fun t=>i [t] e)) fun u j=>af (nx u 0) (K (.ay [tt,ff]) j) (K (.ay [ff,tt]) j)))
def YS(a:AV):Body p_ 109 [a] (Se a):=bC Tryz.func109 (sn (.seq (sn (.one (.join [1,5] [6] .nil (.two .nil (.join [5] [11] .nil (.two .nil (.join [] [14] .nil .nil))))))) .nil)) 17 [.tmp 2,.tmp 3]
def Sg(q s:AV)(h:aa)(K:AV→aa→Prop):Prop:=
 aV 80 q h fun b r=>aV 80 (.agg [i_ 0,ff]) r fun a f=>ag .eql s (u8 14) fun c=>iFL 0 false 1 b f fun t=>qBe .eql t 3 fun g=>aG (fun i=>aM g false (iFL 1 false 1 b f fun u=>eC [b,a,c] (i [ff,u] f)) (eC [b,a,c] (i [cd false g,un] f))) fun d j=>aG (fun k=>aM (nx d 1) true (eC [b,a,c,nx d 0] (k [tt,c] j)) (eC [b,a,c,nx d 0] (k [(cd true (nx d 1)),un] j))) fun l m=>qJo (nx d 0) [b,a,c] m (fun v=>bQ (nx l 0) (nx l 1) ff fun w=>v w m) fun x e=>af x (aW (.agg [i_ 0,ff]) [] fun y=>ao 2 a y e fun n=>ah true 2 a n fun r24=>K (.ay [r24,ff]) n) (iFL 0 false 1 b e fun z=>qBe .add z 1 fun o=>iFL 1 false 1 b e fun A=>qJo A [a,o] e (fun B=>B c e) fun C D=>aW (.agg [i_ 0,ff]) [(0,1,o),(1,1,C)] fun E=>ao 2 a E D fun p=>ah true 2 a p fun r36=>K (.ay [r36,tt]) p)
def YT(a b:AV):Body p_ 110 [a,b] (Sg a b):=bC Tryz.func110 (sn (sn (.seq (.seq (.aN (oR 0 4 (.aA 3 false (fR 4 3) [2,4,6] [12,15]::.aA 6 true [(7,false)] [2,4,6,12] [15,16]::.aA 3 false [(8,false)] [2,4,6] [12,17]::.op 9 false::[]))) .nil) (.seq (.aN (oR 0 6 (.aA 5 false [(6,false)] [4,22] [25,26]::oR 7 4 []))) .nil)))) 29 [.cell 4 80,.tmp 5]
def Si(b e g:AV)(h:aa)(K:AV→aa→Prop):Prop:=
 aV 39 b h fun c a=>ah true 3 c a fun d=>ah true 2 e a fun f=>iFL 0 false 1 g a fun i=>ag .eql i (u8 14) fun j=>iC p_ 35 [d,f,j] a fun k l=>cr k fun m=>K m l
def YU(a b c:AV):Body p_ 111 [a,b,c] (Si a b c):=bC Tryz.func111 .nil 12 [.tmp 4]
def Sj(a c:AV)(h:aa)(K:AV→aa→Prop):Prop:=
 cZ a fun b=>ag .gtr b c fun d=>qKo d h (fun e=>iC p_ 72 [a,u8 0] h fun f g=>qBe .geq f 0 fun i=>e i g) fun j k=>K j k
def YV(a b:AV):Body p_ 112 [a,b] (Sj a b):=bC Tryz.func112 (sn (.seq (.aN (oR 0 5 (.aA 4 false (fR 5 3) [] [9,12]::oR 8 2 []))) .nil)) 14 [.tmp 4]
def So(a:AV)(h:aa)(K:AV→aa→Prop):Prop:=
 ag .leq (i_ (-1000000000)) a fun b=>qKa b h (fun c=>qBe .leq a 1000000000 fun d=>c d h) fun e f=>K e f
def YZ(a:AV):Body p_ 121 [a] (So a):=bC Tryz.func121 (sn (.seq (.aN (oR 0 3 (.aA 2 true (fR 3 2) [] [5,7]::oR 5 2 []))) .nil)) 9 [.tmp 2]
def Xy(b:AV)(h:aa)(K:AV→aa→Prop):Prop:=
 bq b fun t=>bq b fun e=>bN [t,i_ 0] h fun u a g =>
 ag .lss (nx a 1) e fun v=>af v (aI 3 b (nx a 1) fun w=>ah true 3 w g fun x=>aV 39 (.agg [u8 0,qNs,qNs]) g fun m y=>ao 3 m x y fun n=>iFL 1 false 1 m n fun f=>bq f fun i=>bN [nx a 0,i_ 0] n fun z c j =>
 ag .lss (nx c 1) i fun A=>af A (aI 2 f (nx c 1) fun B=>ah true 2 B j fun C=>aV 42 (.agg [.str [],qNs]) j fun o D=>ao 2 o C D fun p=>iFL 1 false 1 o p fun k=>bq k fun q=>bN [nx c 0,i_ 0] p fun E d l =>
 ag .lss (nx d 1) q fun F=>af F (aI 9 k (nx d 1) fun G=>ah true 9 G l fun H=>aV 46 (.agg [u8 0,.str [],u8 0,.str [],ff,i_ 0,i_ 0,ff,qNs]) l fun r I=>ao 9 r H I fun s=>iFL 8 false 1 r s fun J=>iC p_ 26 [J] s fun L M=>ag .add (nx d 0) L fun N=>qBe .add (nx d 1) 1 fun O=>eC [b,e,nx a 1,f,i,nx c 1,k,q] (E [N,O] M)) (qBe .add (nx c 1) 1 fun P=>eC [b,e,nx a 1,f,i] (z [nx d 0,P] l))) (qBe .add (nx a 1) 1 fun Q=>eC [b,e] (u [nx c 0,Q] j))) (K (nx a 0) g)
def V26(a:AV):Body p_ 26 [a] (Xy a):=bC Tryz.func26 (sn (sn (.seq (sn (.one (.loop [12,13] [3,14] (sn (sn (.seq (.one (sn (sn (.one (.loop [12,13,14,19,20] [3,21] (sn (sn (.seq (.one (sn (sn (.one (.loop [12,13,14,19,20,21,26,27] [3,28] .nil))))) .nil)))))))) .nil)))))) .nil))) 41 [.tmp 2]
end
section
open Go Go.Aw Go.bo
def ox(l:ae):decide (0≤Lib.indexByte l 0)=!gF l:=by
 induction l with
 | nil=>rfl
 | cons b l ih =>
   have h1:=Lib.indexByte_ge l 0;rw[Bool.eq_iff_iff]at ih ⊢;simp only[Lib.indexByte,gF,abg,abm,Bool.and_eq_false_iff,Of]at ih ⊢
   by_cases e:b=0
   ·subst e;simp
   ·have e2:(b == 0)=false:=by simpa using e
    simp only[e2,aaX,if_false]
    by_cases q:Lib.indexByte l 0=-1
    ·simp[q];have:¬0≤Lib.indexByte l 0:=by omega
     simp only[this,false_iff]at ih;simpa[gF]using ih
    ·simp[q];have:0≤Lib.indexByte l 0:=by omega
     simp only[this,true_iff]at ih;constructor
     ·intro _;simpa[gF]using ih
     ·intro _;omega
variable [Laid]
def ug(s:ae):bn p_ 72 [.str s,u8 0] (i_ (Lib.indexByte s 0)):=by
 refine iy (v:=.int .i64 (Lib.indexByte s 0)) (by simp) (by simp) (by simp) (fun w=>by simp) ?_;intro ι S w vs h1 _
 match vs,h1 with
 | [],h1=>simp at h1
 | [v],h1=>simp at h1
 | v:: u:: x:: vs,h1=>simp at h1
 | [v,u],h1 =>
   simp only[bP,dt,and_true,eF,cz]at h1;obtain⟨⟨rfl,_⟩,rfl⟩:=h1;refine (Any.strings_IndexByte lays137 ⟨s.toArray⟩ 0 w).mono ?_;rintro e w' ⟨rfl,rfl⟩;exact⟨by simp,Go.RowKit.Below.refl _ _⟩
def yO(s:ae)(n:Int):bn p_ 112 [.str s,i_ n] (b_ (decide (n<s.length)||!gF s)):=by
 refine (YV _ _).bj (by simp) (by simp) ?_;unfold Sj;repeat' (first|(with_reducible apply aF)|((with_reducible first|apply fc|apply mD);rfl;rfl)|((with_reducible apply aL);rfl)|((with_reducible apply aQ);rfl)|((with_reducible apply nn);rfl;intro _)|(refine uCon (ug _) ?_)|((with_reducible apply cD);rfl)|(with_reducible intro _))
 all_goals refine .pure (by simp) ?_
 all_goals simp only[eg,gG,AV.v.injEq,Value.bool.injEq,Value.int.injEq,true_and]at *
 all_goals first
  | grind [ox]
  | (simp_all [ox];done)
  | (simp_all [ox];omega)
def wN(s:ae):bn p_ 108 [.str s] (b_ (named s)):=by
 refine (YR _).bj (by simp) (by simp) ?_;unfold Sd;repeat' (first|(with_reducible apply aF)|((with_reducible apply jT);rfl;rfl)|((with_reducible apply dU);rfl)|((with_reducible apply aL);rfl)|((with_reducible apply aQ);rfl)|((with_reducible apply fy);rfl)|(refine uCon (yO _ _) ?_)|((with_reducible apply cD);rfl)|(with_reducible intro _))
 all_goals refine .pure (by simp) ?_
 all_goals simp only[eg,gG,AV.v.injEq,Value.bool.injEq,Value.int.injEq,true_and]at *
 all_goals first
  | grind [named]
  | (simp_all [named];done)
  | (simp_all [named];omega)
def Jg(n:Int):bn p_ 121 [i_ n] (b_ (gu n)):=by
 refine (YZ _).bj (by simp) (by simp) ?_;unfold So;repeat' (first|(with_reducible apply aF)|((with_reducible apply gZ);rfl;rfl)|((with_reducible apply aL);rfl)|((with_reducible apply aQ);rfl)|((with_reducible apply cD);rfl)|(with_reducible intro _))
 all_goals refine .pure (by simp) ?_
 all_goals simp only[eg,gG,AV.v.injEq,Value.bool.injEq,Value.int.injEq,true_and]at *
 all_goals first
  | grind [gu]
  | (simp_all [gu];done)
  | (simp_all [gu];omega)
def ot(a b:Int):bn p_ 86 [.agg [i_ a,i_ b]] (i_ (if gu a&&gu b then 0 else 8)):=by
 refine (V86 _).bj (by simp) (by simp) ?_;unfold Yp;repeat' (first|(with_reducible apply aF)|((with_reducible apply dU);rfl)|((with_reducible apply aL);rfl)|((with_reducible apply aQ);rfl)|((with_reducible apply au);rfl;first|rfl|assumption)|((with_reducible apply jl);rfl)|((with_reducible apply fy);rfl)|((with_reducible apply aH);rfl)|((with_reducible apply aD);rfl;rfl;rfl)|((with_reducible apply fo);first|rfl|simp)|(refine uCon (Jg _) ?_)|((with_reducible apply cq);rfl)|((with_reducible apply cD);rfl)|(with_reducible intro _))
 all_goals refine .pure (by simp) ?_
 all_goals simp only[eg,gG,AV.v.injEq,Value.bool.injEq,Value.int.injEq,true_and]at *
 all_goals first
  | grind []
  | (simp_all [];done)
  | (simp_all [];omega)
end
section
open Go Go.Aw Go.bo
def T9(b:UInt8)(h1:65≤(b.toNat:Int))(h2:(b.toNat:Int)≤90):dq .or .u8 (b.toNat:Int) 32=((dX b).toNat:Int):=by
 have:∀n:Fin 26,dq .or .u8 (((65+n.val:Nat)):Int) 32=((dX (UInt8.ofNat (65+n.val))).toNat:Int):=by decide
 have hb:b=UInt8.ofNat (65+(b.toNat-65)):=by
  rw[show 65+(b.toNat-65)=b.toNat by omega];simp
 have h:=this ⟨b.toNat-65,by omega⟩;simp only[show 65+(b.toNat-65)=b.toNat by omega]at h;rw[h];simp
def E4(b:UInt8)(h:¬(65≤(b.toNat:Int)∧(b.toNat:Int)≤90)):dX b=b:=by
 unfold dX;rw[if_neg];intro⟨h1,h2⟩;rw[UInt8.le_iff_toNat_le]at h1 h2;simp at h1 h2;omega
def eW(s:ae)(k:Nat):List AV:=((s.take k).map dX++s.drop k).map bf
def w6(hb:s[k]?=some b):(eW s k)[k]?=some (bf b):=by
 have hk:=(eQ.1 hb).1;unfold eW;rw[iN,gT (by simp;omega)];simp[Nat.min_eq_left (Nat.le_of_lt hk),hb]
def nH(hb:s[k]?=some b):(eW s k).set k (bf (dX b))=eW s (k+1):=by
 have hk:=(eQ.1 hb).1;refine List.ext_getElem? fun j=>?_;unfold eW;rcases Nat.lt_trichotomy j k with q|q|q
 ·rw[iF (by omega),iN,iN,gO (by simp;omega),gO (by simp;omega)];simp[q,Nat.lt_succ_of_lt q]
 ·subst q;rw[iD (by simp;omega),iN,gO (by simp;omega)];simp[hb]
 ·rw[iF (by omega),iN,iN,gT (by simp;omega),gT (by simp;omega)];simp[Nat.min_eq_left (Nat.le_of_lt hk),Nat.min_eq_left hk]
  congr 2;omega
def w7(s:ae)(k:Nat):(eW s k).length=s.length:=by
 unfold eW;simp;omega
variable [Laid]
def jg(s:ae):bn p_ 76 [.str s] (.str (s.map dX)):=by
 refine (V76 _).bj (by simp) (by simp) ?_;unfold Yg;rw[vm,ur];intro hlen;refine aZ (α:=Nat) (fun k=>k≤s.length) (fun k=>[i_ k]) (fun k=>[.ak ⟨5,eW s k,true⟩]) (fun k=>s.length-k) 0 (by simp) (by simpa[eW]using Wk.refl _ _ _ (by simp)) ?_;intro k hk
 by_cases q:k<s.length
 ·obtain⟨b,hb⟩:∃b,s[k]?=some b:=⟨s[k],dO q⟩;have hc:=w6 hb;refine zzC (zzL (by simpa using q) (aF ?_));have idx:∀{K:AV→Prop},K (.op 0 k)→aI 1 (.own 0 0 s.length 1) (nx [i_ k] 0) K:=fun q2=>by
   rw[eg,Ho];exact⟨rfl,⟨by omega,by omega⟩,by simpa using q2⟩
  refine idx (zzU rfl hc ?_);have hin:aJ ((k:Int)+1):=by unfold maxLen at hlen;unfold aJ;omega
  refine zzD (aF ?_);refine cD rfl (fun h1=>?_) (fun h1=>?_)
  ·refine zzD (aq (zzR ?_));refine cq rfl (fun h2=>?_) (fun h2=>?_)
   ·refine idx (zzU rfl hc ?_);rw[show ag .or (bf b) (u8 32)=fun K=>K (u8 (dq .or .u8 (b.toNat:Int) 32)) from by funext K;simp[bf]];refine idx ?_;refine dT rfl rfl rfl rfl ?_ rfl rfl ?_
    ·simp[w7];omega
    refine aq (zzP hin (aq ?_));have h1:65≤(b.toNat:Int):=by simpa using h1
    have h2:(b.toNat:Int)≤90:=by simpa using h2
    refine⟨k+1,by omega, ?_,by omega⟩;rw[T9 b h1 h2];have:=nH hb;rw[show bX (eW s k) k (bh (u8 ((dX b).toNat:Int)))=eW s (k+1) from this];exact Wk.refl _ _ _ (by simp)
   ·refine aq (zzP hin (aq ?_));refine⟨k+1,by omega, ?_,by omega⟩;have h2:¬(b.toNat:Int)≤90:=by simpa using h2
    have:=nH hb;rw[E4 b (by omega),ku hc]at this;rw[←this];exact Wk.refl _ _ _ (by simp)
  ·refine aq (zzQ (sJ rfl (aq (zzP hin (aq ?_)))));refine⟨k+1,by omega, ?_,by omega⟩;have h1:¬65≤(b.toNat:Int):=by simpa using h1
   have:=nH hb;rw[E4 b (by omega),ku hc]at this;rw[←this];exact Wk.refl _ _ _ (by simp)
 ·obtain rfl:k=s.length:=by omega
  refine zzC (zzK (by simp) (CB (id:=0) (b:=⟨5,eW s s.length,true⟩) (l:=s.map dX) (by simp) rfl (by simp[eW]) ?_));exact .pure (by simp) rfl
def wO(s:ae):bn p_ 81 [.str s] (b_ (small s)):=by
 refine (V81 _).bj (by simp) (by simp) ?_;unfold Yl;repeat' (first|(with_reducible apply aF)|((with_reducible apply gQ);rfl;rfl)|((with_reducible apply aL);rfl)|((with_reducible apply aQ);rfl)|(refine uCon (wN _) ?_)|(refine uCon (jg _) ?_)|((with_reducible apply cD);rfl)|(with_reducible intro _))
 all_goals refine .pure (by simp) ?_
 all_goals simp only[eg,gG,AV.v.injEq,Value.bool.injEq,Value.int.injEq,true_and]at *
 all_goals first
  | grind [small]
  | (simp_all [small];done)
  | (simp_all [small];omega)
end
section
open Go Go.Aw Go.RowKit
def px(s:ae)(i:Nat):Tok×Nat:=
 let r:=Rt.dk s i
 if Rt.ax s r.2≠40 then (⟨1,r.1,0,[],false⟩,r.2)
 else if r.1.map bo.dX=Rt.xr∧Rt.ax s (Rt.fe s (r.2+1))≠34∧Rt.ax s (Rt.fe s (r.2+1))≠39 then
  let u:=Rt.jd s (Rt.fe s (r.2+1))
  (sG u.1,u.2)
 else (⟨2,r.1,0,[],false⟩,r.2+1)
def iR(s:ae)(i:Nat):Tok×Nat:=
 let c:=Rt.ax s i
 if Rt.fv c=true then (⟨13,[],0,[],false⟩,Rt.fe s i)
 else if c=34∨c=39 then (FW (Rt.il c s (i+1)).1,(Rt.il c s (i+1)).2)
 else if c=35∧(Rt.fq (Rt.ax s (i+1))=true∨Rt.cC s (i+1)=true) then (⟨4,(Rt.dk s (i+1)).1,0,[],Rt.gq s (i+1)⟩,(Rt.dk s (i+1)).2)
 else if Rt.jP s i=true then jO s i
 else if Rt.hasB s i [45,45,62]=true then (⟨15,[],0,[],false⟩,i+3)
 else if Rt.hasB s i [60,33,45,45]=true then (⟨14,[],0,[],false⟩,i+4)
 else if c=64∧Rt.gq s (i+1)=true then (⟨3,(Rt.dk s (i+1)).1,0,[],false⟩,(Rt.dk s (i+1)).2)
 else if Rt.gq s i=true then px s i
 else if 0≤Lib.indexByte Rt.lL c then (⟨16+Lib.indexByte Rt.lL c,[],0,[],false⟩,i+1)
 else (⟨9,[c],0,[],false⟩,i+1)
def xm{K:AV→Prop}(hk:k≠.i64)(ex:x=.v (.int k a))(ey:y=.v (.int k b))(hc:k.wrap (a+b)=c)(q:K (.v (.int k c))):ag .add x y K:=by
 subst ex;subst ey;subst hc;refine⟨rfl, ?_⟩;unfold ql qz;cases k<;>first|exact q|exact absurd rfl hk
section
variable [Laid]
def sU(a b:ae):bn p_ 101 [.str a,.str b] (Aw.b_ (decide (a.map bo.dX=b.map bo.dX))):=by
 refine (YK _ _).bj (by simp) (by simp) ?_;unfold R6;refine uCon (jg a) (uCon (jg b) (zzI ?_));exact .pure (by simp) rfl
def V2{id a:Nat}{K:AV→aa→Prop}(sc:Sc id h s a)(ey:y=.op id 0)(hs:s.length≤2^20)(ha:a≤s.length)(k:∀H,Mw id s (px s a).2 h H→K (px s a).1.av H):bx p_ (.fn (.func 71) [] []) [y] h K:=by
 subst ey;have hid:=sc.lt;obtain⟨R,hR⟩:∃R,px s a=R:=⟨_,rfl⟩;rw[hR]at k;refine cB (by kernel_rfl) rfl (K0:=fun r H=>r=R.1.av∧Mw id s R.2 h H) ?_ (by rintro r H ⟨rfl,m⟩;exact k H m);refine (V71 _).bJ ?_;unfold Yc;refine bT (cs:=[u8 0,.str [],i_ 0,.str [],ff]) (n:=h.length) (h':=h++[cx 0 [] 0 [] false]) rfl (by simp[bG]) rfl rfl ?_;obtain⟨hB,hhB⟩:∃hB,h++[cx 0 [] 0 [] false]=hB:=⟨_,rfl⟩;have hBl:hB.length=h.length+1:=by rw[←hhB];simp
 have scB':Sc id hB s a:=by rw[←hhB];exact sc.app _
 have hV:hB[h.length]?=some (cx 0 [] 0 [] false):=by rw[←hhB];simp
 have pre:∀{b H},Mw id s b hB H→Mw id s b h H:=fun m=>by rw[←hhB]at m;exact m.pre
 rw[hhB];have ret:∀(t:Tok) (b:Nat) (T:aa),Mw id s b hB T→R=(t,b)→ao 5 (.op h.length 0) t.av T fun g=>ah true 5 (.op h.length 0) g fun r=>∃r' h'',Wk h.length [r] g [r'] h''∧r'=R.1.av∧Mw id s R.2 h h'':=by
  intro t b T m e;refine qP (k:=t.k) (n:=t.n) (t:=t.t) (u:=t.u) (f:=t.f) (by rw[m.ky _ (by omega) (by omega)];exact hV) ?_;refine⟨_,_,Wk.refl _ _ _ (by have:=m.len;simp;omega),by rw[e], ?_⟩;rw[e];exact (pre m).ext hid (by simp) fun i hi=>iF (by omega)
 obtain⟨w,j,hw⟩:∃w j,Rt.dk s a=(w,j):=⟨_,_,rfl⟩;have hin:=oZ s s.length a (by omega) ha;rw[hw]at hin;dsimp only at hin;have hRR:R=if Rt.ax s j≠40 then (⟨1,w,0,[],false⟩,j) else if w.map bo.dX=Rt.xr∧Rt.ax s (Rt.fe s (j+1))≠34∧Rt.ax s (Rt.fe s (j+1))≠39 then (sG (Rt.jd s (Rt.fe s (j+1))).1,(Rt.jd s (Rt.fe s (j+1))).2) else (⟨2,w,0,[],false⟩,j+1):=by
  rw[←hR];unfold px;rw[hw]
 refine xM scB' rfl hs ha fun H m=>?_;rw[hw]at m ⊢;dsimp only at m ⊢;refine dA 0 m.sc rfl rfl (by omega) ?_;rw[Nat.add_zero];refine zzH ?_;rw[gi (c:=40) 40 rfl (by decide)]
 by_cases q:Rt.ax s j=40
 ·rw[if_neg (by simpa using q)]at hRR;have hlt:j<s.length:=at_lt (by rw[q];decide);refine zzK (by rw[oF q];rfl) (jY m.sc (by omega) rfl ?_);have m1:=m.set (j+1);obtain⟨H1,hH1⟩:∃H1,H.set id (eB s (j+1))=H1:=⟨_,rfl⟩;rw[hH1]at m1 ⊢;have hL1:=m1.len;refine cS (fun _ T=>Mw id s (j+1) hB T∧¬(w.map bo.dX=Rt.xr∧Rt.ax s (Rt.fe s (j+1))≠34∧Rt.ax s (Rt.fe s (j+1))≠39)) (fun _ T hT=>?_) fun F hF=>?_
  ·rw[if_neg hT.2]at hRR;refine ba rfl ?_;exact ret ⟨2,w,0,[],false⟩ (j+1) T hT.1 hRR
  ·refine uCon (sU w [117,114,108]) ?_;have eu:([117,114,108]:ae).map bo.dX=Rt.xr:=by decide
   rw[eu]
   by_cases q2:w.map bo.dX=Rt.xr
   ·refine zzL (oF q2) (bA (zzV m1.sc (by simp) (bT (cs:=[.str [],i_ 0]) (n:=H1.length) (h':=H1++[eB [] 0]) rfl (by simp[bG]) rfl rfl (aU (cs:=[.str s,i_ ((j+1:Nat):Int)]) (h':=H1++[eB s (j+1)]) rfl (b:=⟨101,[.str [],i_ 0],true⟩) (by simp) rfl rfl (by simp) rfl (by simp[bG]) (by rw[IF _ _ (bY _)];simp[bX]) ?_))));have sc3:Sc H1.length (H1++[eB s (j+1)]) s (j+1):=by unfold Sc;simp
    refine AM sc3 rfl hlt hs ?_;have hsp:=rq (s:=s) (i:=j+1) hlt;obtain⟨e,he⟩:∃e,Rt.fe s (j+1)=e:=⟨_,rfl⟩;rw[he]at hsp hRR hF ⊢;have sc4:=sc3.set e;have m4:Mw id s (j+1) hB ((H1++[eB s (j+1)]).set H1.length (eB s e)):=m1.ext (by omega) (by simp) fun i hi=>by
     rw[iF (by omega),gO (by omega)]
    refine dA 0 sc4 rfl rfl (by omega) ?_;rw[Nat.add_zero];refine zzH ?_;rw[gi (c:=34) 34 rfl (by decide)];refine mA (decide (Rt.ax s e≠34∧Rt.ax s e≠39)) (b1:=!decide (Rt.ax s e=34)) rfl (fun z=>by simp at z;simp[z]) (fun z F hF=>?_) fun v hv=>?_
    ·refine zzH ?_;rw[gi (c:=39) 39 rfl (by decide)];have z:Rt.ax s e≠34:=by simpa using z
     have e2:(!decide (Rt.ax s e=39))=decide (Rt.ax s e≠34∧Rt.ax s e≠39):=by
      rw[Bool.eq_iff_iff];simp[z]
     rw[e2];exact aq hF
    refine lv hv ?_
    by_cases q3:Rt.ax s e≠34∧Rt.ax s e≠39
    ·refine zzL (oF q3) ?_;rw[if_pos ⟨q2,q3⟩]at hRR;refine T3 m4.sc rfl hs hlt fun H5 m5=>?_;rw[he]at m5 ⊢;exact ret _ _ H5 (m4.trans m5) hRR
    ·refine zzK (nO q3) ?_;exact aq (hF _ _ ⟨m4,fun z=>q3 z.2⟩)
   ·refine zzK (nO q2) ?_;exact aq (hF _ _ ⟨m1,fun z=>q2 z.1⟩)
 ·rw[if_pos q]at hRR;refine zzL (by rw[nO q];rfl) (ba rfl ?_);exact ret ⟨1,w,0,[],false⟩ j H m hRR
end
variable [bp]
def QF{id a:Nat}{K:AV→aa→Prop}(sc:Sc id h s a)(ey:y=.op id 0)(hs:s.length≤2^20)(ha:a<s.length)(k:∀H,Mw id s (iR s a).2 h H→K (iR s a).1.av H):bx p_ (.fn (.func 44) [] []) [y] h K:=by
 subst ey;have hid:=sc.lt;obtain⟨R,hR⟩:∃R,iR s a=R:=⟨_,rfl⟩;rw[hR]at k;refine cB (by kernel_rfl) rfl (K0:=fun r H=>r=R.1.av∧Mw id s R.2 h H) ?_ (by rintro r H ⟨rfl,m⟩;exact k H m);refine (V44 _).bJ ?_;unfold XP;refine bT (cs:=[u8 0,.str [],i_ 0,.str [],ff]) (n:=h.length) (h':=h++[cx 0 [] 0 [] false]) rfl (by simp[bG]) rfl rfl ?_;obtain⟨hB,hhB⟩:∃hB,h++[cx 0 [] 0 [] false]=hB:=⟨_,rfl⟩;have hBl:hB.length=h.length+1:=by rw[←hhB];simp
 have sc2:Sc id hB s a:=by rw[←hhB];exact sc.app _
 have hV:hB[h.length]?=some (cx 0 [] 0 [] false):=by rw[←hhB];simp
 have pre:∀{b H},Mw id s b hB H→Mw id s b h H:=fun m=>by rw[←hhB]at m;exact m.pre
 rw[hhB];have m0:=Mw.refl sc2;have ret:∀(t:Tok) (b:Nat) (T:aa),Mw id s b hB T→R=(t,b)→ao 5 (.op h.length 0) t.av T fun g=>ah true 5 (.op h.length 0) g fun r=>∃r' h'',Wk h.length [r] g [r'] h''∧r'=R.1.av∧Mw id s R.2 h h'':=by
  intro t b T m e;refine qP (k:=t.k) (n:=t.n) (t:=t.t) (u:=t.u) (f:=t.f) (by rw[m.ky _ (by omega) (by omega)];exact hV) ?_;refine⟨_,_,Wk.refl _ _ _ (by have:=m.len;simp;omega),by rw[e], ?_⟩;rw[e];exact (pre m).ext hid (by simp) fun i hi=>iF (by omega)
 have step:∀(n:Nat) (t:Tok),n≤4→R=(t,a+n)→∀{KK:aa→Prop},(∀T,Mw id s (a+n) hB T→KK T)→ca p_ (.op id 0) fun v1=>bg 1 v1 fun v2=>ah false 1 v2 hB fun v3=>ag .add v3 (i_ n) fun v4=>ca p_ (.op id 0) fun v5=>bg 1 v5 fun v6=>ao 1 v6 v4 hB fun g7=>KK g7:=by
  intro n t hn e KK kk;refine bA (zzA (zzU sc2 rfl (zzP (by unfold aJ;omega) (bA (zzA ?_)))));refine aU (cs:=[i_ ((a:Int)+n)]) (h':=hB.set id (eB s (a+n))) rfl sc2 rfl rfl (by simp) rfl rfl ?_ (kk _ (m0.set _));show _=List.set hB id (.ak ⟨101,[.str s,i_ ((a+n:Nat):Int)],true⟩);rw[show ((a+n:Nat):Int)=(a:Int)+n by omega];rfl
 refine⟨i_ (pk s a),dA 0 sc2 rfl rfl (by omega) ⟨rfl,rfl⟩, ?_⟩;refine bA (zzA (zzU sc2 rfl (bA (zzA (zzU sc2 rfl (oH (a:=a) (b:=s.length) (r:=s.drop a) rfl rfl rfl (by omega) (bY _) (by rw[BY]) (uCon (sW _) ?_)))))));rw[Bi];show af (Aw.b_ (Rt.fv (Rt.ax s a))) _ _;unfold iR at hR;have hat:=jo ha;obtain⟨c,hc⟩:∃c,Rt.ax s a=c:=⟨_,rfl⟩;have isc:∀{d:UInt8} (n:Int),n=(d.toNat:Int)→d≠0→decide (pk s a=n)=decide (c=d):=fun n hn hd=>by rw[gi n hn hd,hc]
 simp only[hc]at hR;rw[hc];cases q0:Rt.fv c with
 | true =>
   rw[if_pos q0]at hR;refine zzL rfl (AM sc2 rfl (by omega) hs (ba rfl ?_));exact ret ⟨13,[],0,[],false⟩ _ _ (m0.set _) hR.symm
 | false =>
 rw[if_neg (by rw[q0];decide)]at hR;refine zzK rfl (zzG ?_);rw[isc (d:=34) 34 rfl (by decide)];refine mN (decide (c=34∨c=39)) (b1:=decide (c=34)) rfl (fun z=>oF (.inl (oN z))) (fun z F hF=>?_) fun v hv=>?_
 ·refine zzG ?_;rw[isc (d:=39) 39 rfl (by decide)];have z:=tO z;simp only[z,false_or]at hF;exact aq hF
 refine lR hv ?_
 by_cases q1:c=34∨c=39
 ·rw[if_pos q1]at hR;refine zzL (oF q1) ?_;refine TY sc2 rfl hs ha (by rw[hc];exact q1) fun H m=>?_;rw[hc]at m ⊢;exact ret _ _ H m hR.symm
 rw[if_neg q1]at hR;refine zzK (nO q1) (zzG ?_);rw[isc (d:=35) 35 rfl (by decide)]
 -- a hash
 have hash:∀b:Bool,b=decide (c=35∧(Rt.fq (Rt.ax s (a+1))=true∨Rt.cC s (a+1)=true))→∀{A B:Prop},(b=true→A)→(b=false→B)→af (Aw.b_ b) A B:=fun b _ A B h1 h2=>by
  cases b with
  | true=>exact zzL rfl (h1 rfl)
  | false=>exact zzK rfl (h2 rfl)
 refine cS (fun v T=>T=hB∧((nx v 0=ff∧nx v 1=un∧c≠35)∨(nx v 0=tt∧nx v 1=Aw.b_ (Rt.fq (Rt.ax s (a+1)))∧c=35))) (fun v T hv=>?_) fun F hF=>?_;rotate_left
 ·by_cases q:c=35
  ·refine zzN (oF q) (dA 1 sc2 rfl rfl (by omega) (uCon (Al _) ?_));refine aq (hF _ _ ⟨rfl,.inr ⟨rfl, ?_,q⟩⟩);rw[←Lx];rfl
  ·refine zzM (nO q) ?_;exact aq (hF _ _ ⟨rfl,.inl ⟨by rw[nO q];rfl,rfl,q⟩⟩)
 obtain⟨rfl,hv⟩:=hv;refine cS (fun w T2=>T2=T∧(nx v 0=tt→RX (Rt.fq (Rt.ax s (a+1))||Rt.cC s (a+1)) w)) (fun w T2 hw=>?_) fun F hF=>?_;rotate_left
 ·rcases hv with⟨h1,h2,h3⟩|⟨h1,h2,h3⟩
  ·rw[h2];refine dG rfl ?_;refine aq (hF _ _ ⟨rfl,fun z=>?_⟩);rw[h1]at z;cases z
  ·rw[h2];cases z:Rt.fq (Rt.ax s (a+1)) with
   | true =>
     refine zzM rfl ?_;exact aq (hF _ _ ⟨rfl,fun _=>.inl ⟨rfl,by rw[z];rfl⟩⟩)
   | false =>
     refine zzN rfl (xL 1 sc2 rfl rfl (by omega) ?_);rw[uk];exact aq (hF _ _ ⟨rfl,fun _=>.inr ⟨rfl,by rw[z];rfl⟩⟩)
 obtain⟨rfl,hw⟩:=hw;refine cS (fun u T=>T=T2∧My (decide (c=35∧(Rt.fq (Rt.ax s (a+1))=true∨Rt.cC s (a+1)=true))) u) (fun u T hu=>?_) fun F hF=>?_;rotate_left
 ·rcases hv with⟨h1,h2,h3⟩|⟨h1,h2,h3⟩
  ·rw[h1];refine zzM rfl ?_;exact aq (hF _ _ ⟨rfl,.inl ⟨rfl,nO fun z=>h3 z.1⟩⟩)
  ·have hw:=hw h1;rw[h1];refine zzN rfl (lR hw ?_);refine aq (hF _ _ ⟨rfl,.inr ⟨rfl, ?_⟩⟩);refine congrArg Aw.b_ ?_;rw[Bool.eq_iff_iff];simp[h3]
 obtain⟨rfl,hu⟩:=hu;refine lv hu ?_
 by_cases q2:c=35∧(Rt.fq (Rt.ax s (a+1))=true∨Rt.cC s (a+1)=true)
 ·rw[if_pos q2]at hR;refine zzL (oF q2) (AL 1 sc2 rfl rfl (by omega) ?_);rw[A5];refine jY sc2 (by omega) rfl ?_;have m1:=m0.set (a+1);refine xM m1.sc rfl hs (by omega) fun H m=>?_;refine ba rfl ?_;exact ret ⟨4,_,0,[],_⟩ _ H (m1.trans m) hR.symm
 rw[if_neg q2]at hR;refine zzK (nO q2) (NV sc2 rfl (by omega) ?_);rw[Us];cases q3:Rt.jP s a with
 | true =>
   rw[if_pos q3]at hR;refine zzL rfl ?_;refine TV sc2 rfl hs ha q3 fun H m=>?_;exact ret _ _ H m hR.symm
 | false =>
 rw[if_neg (by rw[q3];decide)]at hR;refine zzK rfl (uCon (rM _ _) ?_);rw[yS];cases q4:Rt.hasB s a [45,45,62] with
 | true =>
   rw[if_pos q4]at hR;refine zzL rfl ?_;refine step 3 _ (by decide) hR.symm fun T m=>?_;refine ba rfl ?_;exact ret ⟨15,[],0,[],false⟩ _ T m hR.symm
 | false =>
 rw[if_neg (by rw[q4];decide)]at hR;refine zzK rfl (uCon (rM _ _) ?_);rw[yS];cases q5:Rt.hasB s a [60,33,45,45] with
 | true =>
   rw[if_pos q5]at hR;refine zzL rfl ?_;refine step 4 _ (by decide) hR.symm fun T m=>?_;refine ba rfl ?_;exact ret ⟨14,[],0,[],false⟩ _ T m hR.symm
 | false =>
 rw[if_neg (by rw[q5];decide)]at hR;refine zzK rfl (zzG ?_);rw[isc (d:=64) 64 rfl (by decide)];refine mA (decide (c=64∧Rt.gq s (a+1)=true)) (b1:=decide (c=64)) rfl (fun z=>nO fun y=>tO z y.1) (fun z F hF=>?_) fun v hv=>?_
 ·refine AL 1 sc2 rfl rfl (by omega) ?_;rw[A5];have z:=oN z;simp only[z,true_and,Bool.decide_eq_true]at hF;exact aq hF
 refine lv hv ?_
 by_cases q6:c=64∧Rt.gq s (a+1)=true
 ·rw[if_pos q6]at hR;refine zzL (oF q6) (jY sc2 (by omega) rfl ?_);have m1:=m0.set (a+1);refine xM m1.sc rfl hs (by omega) fun H m=>?_;refine ba rfl ?_;exact ret ⟨3,_,0,[],false⟩ _ H (m1.trans m) hR.symm
 rw[if_neg q6]at hR;refine zzK (nO q6) (AL 0 sc2 rfl rfl (by omega) ?_);rw[Nat.add_zero,A5];cases q7:Rt.gq s a with
 | true =>
   rw[if_pos q7]at hR;refine zzL rfl ?_;refine V2 sc2 rfl hs (by omega) fun H m=>?_;exact ret _ _ H m hR.symm
 | false =>
 rw[if_neg (by rw[q7];decide)]at hR;refine zzK rfl (jY sc2 (by omega) rfl ?_);have m1:=m0.set (a+1);refine fk (m:=(c.toNat:Int)) rfl (by rw[pG ha,hc,IntKind.wrap_u8];have:=c.toNat_lt;omega) (uCon (Kq [58,59,44,91,93,40,41,123,125] c) (zzF ?_));have hib:Lib.indexByte Rt.lL c<10:=by
  have key:((List.range 256).all fun n=>decide (Lib.indexByte Rt.lL (UInt8.ofNat n)<10))=true:=by kernel_rfl
  have:=oT key c;rw[UInt8.ofNat_toNat]at this;exact oN this
 have hdef:Lib.indexByte [58,59,44,91,93,40,41,123,125] c=Lib.indexByte Rt.lL c:=rfl;rw[hdef]
 by_cases q8:0≤Lib.indexByte Rt.lL c
 ·rw[if_pos q8]at hR;refine zzL (oF q8) (fk (m:=Lib.indexByte Rt.lL c) rfl (by rw[IntKind.wrap_u8];omega) (xm (c:=16+Lib.indexByte Rt.lL c) (by decide) rfl rfl (by rw[IntKind.wrap_u8];omega) (ba rfl ?_)));exact ret ⟨16+Lib.indexByte Rt.lL c,[],0,[],false⟩ _ _ m1 hR.symm
 ·rw[if_neg q8]at hR;refine zzK (nO q8) ?_;have hd:s.drop a=c:: s.drop (a+1):=by rw[abo ha,←hat,hc]
  refine oH (a:=0) (b:=1) (r:=[c]) rfl rfl rfl (by omega) (by rw[hd];simp) (by rw[hd];rfl) (ba rfl ?_);exact ret ⟨9,[c],0,[],false⟩ _ _ m1 hR.symm
end
section
open Go Go.Aw
variable [bp]
def Tb(T:aa):Prop:=9≤T.length∧∀i,i<9→T[i]?=(Ha 1 0)[i]?
omit [bp] in
def Tb.b3(t:Tb T):T[3]?=some (.ak ⟨252,rb,true⟩):=by rw[t.2 3 (by decide)];rfl
omit [bp] in
def Tb.b4(t:Tb T):T[4]?=some (.ak ⟨247,tb,true⟩):=by rw[t.2 4 (by decide)];rfl
def nd(v:List UInt8)(p:Int)(x:List UInt8)(n:AV):aK:=.ak ⟨250,[.str v,i_ p,.str x,n,.v (.slice none 0 0)],true⟩
omit [bp] in
def Tb.b5(t:Tb T):T[5]?=some (nd [10] 6 [10] (.op 6 0)):=by rw[t.2 5 (by decide)];rfl
omit [bp] in
def Tb.b6(t:Tb T):T[6]?=some (nd [10] 8 [] (.v (.pointer none))):=by rw[t.2 6 (by decide)];rfl
omit [bp] in
def Tb.b7(t:Tb T):T[7]?=some (nd [10] 4 [] (.v (.pointer none))):=by rw[t.2 7 (by decide)];rfl
omit [bp] in
def Tb.b8(t:Tb T):T[8]?=some (nd [239,191,189] 2 [] (.v (.pointer none))):=by rw[t.2 8 (by decide)];rfl
abbrev HC(v:List UInt8)(n:Nat)(f:Bool):AV:=.ay [.str v,i_ n,Aw.b_ f]
def T8(t:Tb T):bW p_ 269 [.op 3 0,.str [],ff] T fun r hh=>r=HC [] 0 false∧hh=T:=by
 refine (D5 _ _ _).bJ ?_;unfold BA;simp only[nT,rT];refine aZ (α:=Unit) (fun _=>True) (fun _=>[.str [],.str [],i_ 0,ff,i_ 0,.op 3 0,i_ 0]) (fun _=>T) (fun _=>0) () trivial (Wk.refl _ _ _ (by simp)) ?_;rintro - -;simp[sq,t.b3];exact Wk.refl _ _ _ (by simp)
omit [bp] in
def Pk(c:UInt8):rb.drop (6+c.toNat)=u8 (ft.getD c.toNat 0):: rb.drop (6+c.toNat+1):=UH _ c.toNat_lt
omit [bp] in
def aag:tb.drop 2=.op 7 0:: tb.drop 3:=rfl
def Wb(t:Tb T)(r:List UInt8):bW p_ 269 [.op 3 0,.str (12:: r),ff] T fun r hh=>r=HC [10] 1 true∧hh=T:=by
 refine (D5 _ _ _).bJ ?_;unfold BA;simp only[nT,rT];refine aZ (α:=Bool) (fun _=>True) (fun b=>if b then [.str r,.str [],i_ 0,ff,i_ 0,.op 7 0,i_ 1] else [.str (12:: r),.str [],i_ 0,ff,i_ 0,.op 3 0,i_ 0]) (fun _=>T) (fun b=>if b then 0 else 1) false trivial (Wk.refl _ _ _ (by simp)) ?_;rintro (_|_) -
 ·have h1:=Pk 12;have e1:ft.getD (12:UInt8).toNat 0=2:=by kernel_rfl
  rw[e1]at h1;have e2:(12:UInt8).toNat=12:=rfl;rw[e2]at h1;have w2:IntKind.i64.wrap 2=2:=by decide
  have hn:aJ 1:=by unfold aJ;decide
  have hl:(1:Int)≤(r.length:Int)+1:=by omega
  simp[sq,tV,tW,t.b3,t.b4,h1,aag,w2,hn,hl];exact Wk.refl _ _ _ (bY _)
 ·cases r with
  | nil =>
    simp[t.b7,nd];exact Wk.refl _ _ _ (by simp)
  | cons d r =>
    simp[t.b7,nd];exact Wk.refl _ _ _ (by simp)
def ZZ(t:Tb T)(r:List UInt8):bW p_ 269 [.op 3 0,.str (0:: r),ff] T fun r hh=>r=HC [239,191,189] 1 true∧hh=T:=by
 refine (D5 _ _ _).bJ ?_;unfold BA;simp only[nT,rT];refine aZ (α:=Bool) (fun _=>True) (fun b=>if b then [.str r,.str [],i_ 0,ff,i_ 0,.op 8 0,i_ 1] else [.str (0:: r),.str [],i_ 0,ff,i_ 0,.op 3 0,i_ 0]) (fun _=>T) (fun b=>if b then 0 else 1) false trivial (Wk.refl _ _ _ (by simp)) ?_;rintro (_|_) -
 ·have h1:=Pk 0;have e1:ft.getD (0:UInt8).toNat 0=0:=by kernel_rfl
  rw[e1]at h1;have e2:(0:UInt8).toNat=0:=rfl;rw[e2]at h1;have w2:IntKind.i64.wrap 0=0:=by decide
  have hn:aJ 1:=by unfold aJ;decide
  have hl:(1:Int)≤(r.length:Int)+1:=by omega
  simp[sq,tV,tW,t.b3,t.b4,h1,tb,w2,hn,hl];exact Wk.refl _ _ _ (bY _)
 ·cases r with
  | nil =>
    simp[t.b8,nd];exact Wk.refl _ _ _ (by simp)
  | cons d r =>
    simp[t.b8,nd];exact Wk.refl _ _ _ (by simp)
def Wc(t:Tb T)(r:List UInt8)(hr:r.head?≠some 10):bW p_ 269 [.op 3 0,.str (13:: r),ff] T fun r hh=>r=HC [10] 1 true∧hh=T:=by
 refine (D5 _ _ _).bJ ?_;unfold BA;simp only[nT,rT];refine aZ (α:=Bool) (fun _=>True) (fun b=>if b then [.str r,.str [],i_ 0,ff,i_ 0,.op 5 0,i_ 1] else [.str (13:: r),.str [],i_ 0,ff,i_ 0,.op 3 0,i_ 0]) (fun _=>T) (fun b=>if b then 0 else 1) false trivial (Wk.refl _ _ _ (by simp)) ?_;rintro (_|_) -
 ·have h1:=Pk 13;have e1:ft.getD (13:UInt8).toNat 0=3:=by kernel_rfl
  rw[e1]at h1;have e2:(13:UInt8).toNat=13:=rfl;rw[e2]at h1;have w2:IntKind.i64.wrap 3=3:=by decide
  have hn:aJ 1:=by unfold aJ;decide
  have hl:(1:Int)≤(r.length:Int)+1:=by omega
  simp[sq,tV,tW,t.b3,t.b4,h1,tb,w2,hn,hl];exact Wk.refl _ _ _ (bY _)
 ·cases r with
  | nil =>
    simp[t.b5,nd];exact Wk.refl _ _ _ (by simp)
  | cons d r =>
    have hd:¬d=10:=by simpa using hr
    simp[t.b5,nd];refine⟨by kernel_rfl,bW.mono ((rM (d:: r) [10]).call (K:=fun v hh=>v=Aw.b_ (decide (([10]:List UInt8).length≤(d:: r).length)&&decide ((d:: r).take ([10]:List UInt8).length=[10]))∧hh=T) ⟨rfl,rfl⟩) ?_⟩;rintro v hh ⟨rfl,rfl⟩;simp[hd];exact Wk.refl _ _ _ (by simp)
def QK(t:Tb T)(r:List UInt8):bW p_ 269 [.op 3 0,.str (13:: 10:: r),ff] T fun r hh=>r=HC [10] 2 true∧hh=T:=by
 refine (D5 _ _ _).bJ ?_;unfold BA;simp only[nT,rT];refine aZ (α:=Nat) (fun n=>n≤2) (fun b=>if b=0 then [.str (13:: 10:: r),.str [],i_ 0,ff,i_ 0,.op 3 0,i_ 0] else if b=1 then [.str (10:: r),.str [],i_ 0,ff,i_ 0,.op 5 0,i_ 1] else [.str r,.str [10],i_ 1,tt,i_ 6,.op 6 0,i_ 2]) (fun _=>T) (fun b=>2-b) 0 (by decide) (Wk.refl _ _ _ (by simp)) ?_;intro n hn3;have hn:aJ 1:=by unfold aJ;decide
 have hn2:aJ 2:=by unfold aJ;decide
 match n,hn3 with
 | 0,_ =>
   have h1:=Pk 13;have e1:ft.getD (13:UInt8).toNat 0=3:=by kernel_rfl
   rw[e1]at h1;have e2:(13:UInt8).toNat=13:=rfl;rw[e2]at h1;have w2:IntKind.i64.wrap 3=3:=by decide
   have hl:(1:Int)≤(r.length:Int)+1+1:=by omega
   have ht:((r.length:Int)+1+1).toNat=r.length+1+1:=by omega
   simp[sq,tV,tW,t.b3,t.b4,h1,tb,w2,hn,hl,ht];exact⟨by omega,1,by decide,Wk.refl _ _ _ (bY _),by decide⟩
 | 1,_ =>
   have hl:(1:Int)≤(r.length:Int)+1:=by omega
   simp[t.b5,nd];refine⟨by kernel_rfl,bW.mono ((rM (10:: r) [10]).call (K:=fun v hh=>v=Aw.b_ (decide (([10]:List UInt8).length≤(10:: r).length)&&decide ((10:: r).take ([10]:List UInt8).length=[10]))∧hh=T) ⟨rfl,rfl⟩) ?_⟩;rintro v hh ⟨rfl,rfl⟩;simp[t.b5,nd,hn2,hl,maxLen];exact⟨2,by decide,Wk.refl _ _ _ (bY _),by decide⟩
 | 2,_ =>
   cases r with
   | nil =>
     simp[t.b6,nd];exact Wk.refl _ _ _ (by simp)
   | cons d r =>
     simp[t.b6,nd];exact Wk.refl _ _ _ (by simp)
end
section
set_option maxHeartbeats 4000000
open Go Go.RowKit
theorem VF(b o:Nat)(w:World)(ad:Option Addr)(cap:Nat)(h0:w.cell? ⟨b,o,none⟩=some (.slice ad 0 cap))(hz:w.frozen? ⟨b,o,none⟩=false):
 Calls p_ 282 #[.pointer (some ⟨b,o,none⟩),.string ⟨#[]⟩] w fun e w' => e=.returned (.tuple #[.int .i64 0,.nilIface])∧w'=w.setCell ⟨b,o,none⟩ (.slice ad 0 cap):=by
 cases ad with
 | none =>
   go_enter Tryz.func282,Tryz.ntmps282
   go_wp2
   go_ret2
   exact⟨rfl,rfl⟩
 | some x =>
   go_enter Tryz.func282,Tryz.ntmps282
   go_wp2
   go_ret2
   exact⟨rfl,rfl⟩
end
end Go.Proofs.YtpcnidmmkknndaaGreatDoor
end
