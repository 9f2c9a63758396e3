/-
 A reader of values: spaces,a byte,a combinator.
 No conditions.
-/
import Derived.Test.YtpcnidmmkknndaaGreatDoorProg
import Derived.KernelRfl
import Derived.Test.YtpcnidmmkknndaaGreatDoorZf
import Derived.Test.YtpcnidmmkknndaaGreatDoorZe
import Derived.Test.YtpcnidmmkknndaaGreatDoorZc
import Derived.Test.YtpcnidmmkknndaaGreatDoorZd
set_option linter.unusedVariables false
set_option linter.unusedSimpArgs false
set_option linter.unusedSectionVars false
set_option linter.defProp false
set_option autoImplicit true
set_option maxRecDepth 1000000
set_option maxHeartbeats 16000000
open Go.Proofs.Tryz renaming prog→p_
noncomputable section
namespace Go.Proofs.YtpcnidmmkknndaaGreatDoor
section
open Go Go.Aw Go.dD Go.RowKit
def PI{t:Tok}{K:AV→Prop}(q:K (u8 t.k)):rU false 0 1 t.av K:=q
theorem lJ:∀r:List Vl,cv r <:+ r
 | []=>List.suffix_refl _
 | x:: r=>by
   rw[cv];split
   ·exact (lJ r).trans (List.suffix_cons _ _)
   ·exact List.suffix_refl _
def uX(h:jr c r=some r'):∃x,r=x:: r'∧x.kind=9∧x.text=[c]:=by
 cases r with
 | nil=>cases h
 | cons x r =>
   rw[jr]at h;split at h
   ·rename_i q;cases h;exact⟨x,rfl,q⟩
   ·cases h
def GV(r:List Vl):(kv r).2 <:+ r:=by
 have key:∀{c:UInt8} {r':List Vl},jr c r=some r'→cv r' <:+ r:=fun h=>by
  obtain⟨x,rfl,_⟩:=uX h;exact (lJ _).trans (List.suffix_cons _ _)
 unfold kv;split
 ·rename_i h;exact key h
 ·split
  ·rename_i h;exact key h
  ·split
   ·rename_i h;exact key h
   ·exact List.suffix_refl _
section
variable [Laid]
omit [Laid] in
def qX{id:Nat}{F:aa→Prop}(rd:h[id]?=some (dF v (y:: r)))(hs:(y:: r) <:+ v)(hv:v.length<2^40)(k:F (h.set id (dF v r))):
 ca p_ (.op id 0) fun v11=>bg 1 v11 fun v12=>ah false 1 v12 h fun v13=>ag .add v13 (i_ 1) fun v14=>ca p_ (.op id 0) fun v15=>bg 1 v15 fun v16=>ao 1 v16 v14 h F:=by
 have hle:=hs.length_le;simp at hle;refine bA (zzA (zzU rd rfl (zzP (by unfold aJ;simp;omega) (bA (zzA ?_)))));have e:((v.length-(y:: r).length:Nat):Int)+1=((v.length-r.length:Nat):Int):=by simp;omega
 rw[e];exact aU (cs:=[i_ ((v.length-r.length:Nat):Int)]) (h':=h.set id (dF v r)) rfl rd rfl rfl (by simp) rfl rfl rfl k
theorem mC{id:Nat}{K:AV→aa→Prop}(rd:h[id]?=some (dF v r))(hs:r <:+ v)(ex:x=.op id 0)(hv:v.length<2^30)(k:∀H,Mo id (dF v (cv r)) h H→K (b_ (decide ((cv r).length<r.length))) H):
 bx p_ (.fn (.func 73) [] []) [x] h K:=by
 subst ex;have hid:=(eQ.1 rd).1;have hle:=hs.length_le;refine cB (by kernel_rfl) rfl (K0:=fun w H=>w=b_ (decide ((cv r).length<r.length))∧Mo id (dF v (cv r)) h H) ?_ (by rintro _ H ⟨rfl,m⟩;exact k H m);refine (V73 _).bJ ?_;unfold Yd;refine bA (zzA (zzU rd rfl (aZ (α:=List Vl×aa) (fun x=>x.1 <:+ r∧cv x.1=cv r∧Mo id (dF v x.1) h x.2) (fun _=>[]) (fun x=>x.2) (fun x=>x.1.length) (r,h) ⟨List.suffix_refl _,rfl,Mo.refl rd⟩ (Wk.refl _ _ _ (bY _)) ?_)));rintro⟨r1,H1⟩ ⟨hs1,hk,m1⟩;dsimp only at hs1 hk m1 ⊢;have rd1:=m1.at hid;have sv:=hs1.trans hs;have hl1:=m1.len;refine nD (n:=0) rd1 sv rfl (by omega) fun H2 m2=>?_;have rd2:=m2.at (by omega);have hl2:=m2.len;have m12:=m1.trans hid m2;refine PI (zzG ?_);have stop:cv r1=r1→(cf r1 0).k≠13→af (.v (.bool (decide ((cf r1 0).k=13)))) (ca p_ (.op id 0) fun v11=>bg 1 v11 fun v12=>ah false 1 v12 H2 fun v13=>ag .add v13 (i_ 1) fun v14=>ca p_ (.op id 0) fun v15=>bg 1 v15 fun v16=>ao 1 v16 v14 H2 fun g17=>[AV.op id 0,i_ ((v.length-r.length:Nat):Int)]=[AV.op id 0,i_ ((v.length-r.length:Nat):Int)]∧∃y:List Vl×aa,(y.1 <:+ r∧cv y.1=cv r∧Mo id (dF v y.1) h y.2)∧Wk h.length [] g17 [] y.2∧y.1.length<r1.length)
  (ca p_ (.op id 0) fun v18=>bg 1 v18 fun v19=>ah false 1 v19 H2 fun v20=>ag .gtr v20 (i_ ((v.length-r.length:Nat):Int)) fun v21=>∃r' h'',Wk h.length [v21] H2 [r'] h''∧r'=b_ (decide ((cv r).length<r.length))∧Mo id (dF v (cv r)) h h''):=by
  intro e hne;refine zzK (nO hne) (bA (zzA (zzU rd2 rfl (zzE ?_))));have e2:cv r=r1:=by rw[←hk];exact e
  have hl:=hs1.length_le;have:decide (((v.length-r.length:Nat):Int)<((v.length-r1.length:Nat):Int))=decide ((cv r).length<r.length):=by
   rw[e2];exact decide_eq_decide.2 (by omega)
  rw[this];exact⟨_,_,Wk.refl _ _ _ (by omega),rfl,by rw[e2];exact m12⟩
 cases r1 with
 | nil=>exact stop rfl (by decide)
 | cons y r1 =>
   by_cases hy:y.kind=13
   ·refine zzL (oF hy) (qX rd2 sv (by omega) (aq ?_));have m3:=m12.trans hid (Mo.set id (dF v r1) H2);exact⟨(r1,H2.set id (dF v r1)),⟨(List.suffix_cons _ _).trans hs1,by rw[←hk,cv,if_pos hy],m3⟩,Wk.refl _ _ _ m3.len,by simp⟩
   ·exact stop (by rw[cv,if_neg hy]) hy
theorem Bu{id:Nat}{c:UInt8}{K:AV→aa→Prop}(rd:h[id]?=some (dF v r))(hs:r <:+ v)(ex:x=.op id 0)(hv:v.length<2^30)
 (k1:∀r' H,jr c r=some r'→Mo id (dF v r') h H→K tt H) (k2:∀H,jr c r=none→Mo id (dF v r) h H→K ff H) :
 bx p_ (.fn (.func 77) [] []) [x,.str [c]] h K:=by
 subst ex;have hid:=(eQ.1 rd).1;refine cB (by kernel_rfl) rfl (K0:=fun w H=>(∃r',jr c r=some r'∧Mo id (dF v r') h H∧w=tt)∨(jr c r=none∧Mo id (dF v r) h H∧w=ff)) ?_ (fun w H z=>z.elim (fun⟨r',e,m,q⟩=>by subst q;exact k1 r' H e m) fun⟨e,m,q⟩=>by subst q;exact k2 H e m);refine (V77 _ _).bJ ?_;unfold Yh;refine nD (n:=0) rd hs rfl (by omega) fun H1 m1=>?_;have hl1:=m1.len;have rd1:=m1.at hid;refine jy ?_;obtain⟨H2,h2⟩:∃H2,H2=H1++[aK.ak ⟨70,(cf r 0).row,true⟩]:=⟨_,rfl⟩;have hT:H2[H1.length]?=some (.ak ⟨70,(cf r 0).row,true⟩):=by rw[h2];simp
 have m2:Mo id (dF v r) h H2:=by rw[h2];exact m1.tail _
 have rd2:=m2.at hid;have hl2:=m2.len;rw[←h2];clear h2;refine zzA (zzU hT rfl (zzH ?_));have no:jr c r=none→∃r' h'',Wk h.length [ff] H2 [r'] h''∧((∃q,jr c r=some q∧Mo id (dF v q) h h''∧r'=tt)∨(jr c r=none∧Mo id (dF v r) h h''∧r'=ff)):=fun e=>⟨_,_,Wk.refl _ _ _ hl2,.inr ⟨e,m2,rfl⟩⟩;refine aF ?_
 by_cases c1:(cf r 0).k=9
 ·refine zzN (by simp[c1]) (zzA (zzU hT rfl (zzJ (aq (zzQ ?_)))));cases r with
  | nil=>exact absurd c1 (by decide)
  | cons y r =>
    by_cases c2:y.text=[c]
    ·refine zzK (by show (!decide (y.text=[c]))=false;simp[c2]) (qX rd2 hs (by omega) ?_);have m3:=m2.trans hid (Mo.set id (dF v r) H2);exact⟨_,_,Wk.refl _ _ _ m3.len,.inl ⟨r,by rw[jr,if_pos ⟨c1,c2⟩],m3,rfl⟩⟩
    ·refine zzL (by show (!decide (y.text=[c]))=true;simp[c2]) ?_;exact no (by rw[jr,if_neg (fun z=>c2 z.2)])
 ·refine zzM (by simp[c1]) (aq (zzR (zzL rfl (no ?_))));cases r with
  | nil=>rfl
  | cons y r=>rw[jr,if_neg (fun z=>c1 z.1)]
def Mp{id:Nat}{K:AV→aa→Prop}(rd:h[id]?=some (dF v r))(hs:r <:+ v)(ex:x=.op id 0)(hv:v.length<2^30)(k:∀H,Mo id (dF v (kv r).2) h H→K (u8 (kv r).1) H):
 bx p_ (.fn (.func 74) [] []) [x] h K:=by
 subst ex;have hid:=(eQ.1 rd).1;refine cB (by kernel_rfl) rfl (K0:=fun w H=>w=u8 (kv r).1∧Mo id (dF v (kv r).2) h H) ?_ (by rintro _ H ⟨rfl,m⟩;exact k H m);refine (V74 _).bJ ?_;unfold Ye
 let cs:List UInt8:=[62,43,126]
 refine aZ (α:=Nat×aa) (fun x=>x.1≤3∧(∀j c,cs[j]?=some c→j<x.1→jr c r=none)∧Mo id (dF v r) h x.2) (fun x=>[i_ x.1]) (fun x=>x.2) (fun x=>3-x.1) (0,h) ⟨aa2 _,fun j c _ z=>absurd z (aa3 _),Mo.refl rd⟩ (Wk.refl _ _ _ (bY _)) ?_;rintro⟨i,H1⟩ ⟨hi,hb,m1⟩;dsimp only at hi hb m1 ⊢;have rd1:=m1.at hid;have hl1:=m1.len;refine zzC ?_;rcases uP i 3 with q|q
 ·obtain⟨c,hc⟩:∃c,cs[i]?=some c:=⟨_,dO q⟩;refine zzL (oF (by omega)) (zzP (by unfold aJ;omega) ?_);have hsl:(cs.take (i+1)).drop i=[c]:=by
   rcases (by omega:i=0∨i=1∨i=2) with rfl|rfl|rfl<;>(cases hc;rfl)
  refine oH (l:=cs) (a:=i) (b:=i+1) (r:=[c]) rfl rfl rfl (by omega) (by show i+1≤3;omega) hsl ?_;refine Bu rd1 hs rfl hv (fun r' H2 e m2=>?_) (fun H2 e m2=>?_)
  ·have hl2:=m2.len;obtain⟨y,hy,_⟩:=uX e;have hs':r' <:+ v:=List.IsSuffix.trans (by rw[hy];exact List.suffix_cons _ _) hs;refine zzL rfl ?_;refine mC (m2.at (by omega)) hs' rfl hv fun H3 m3=>?_;have m13:=(m1.trans hid m2).trans hid m3;have hcm:kv r=(2+(i:Int),cv r'):=by
    unfold kv;rcases (by omega:i=0∨i=1∨i=2) with rfl|rfl|rfl
    ·cases hc;rw[e];rfl
    ·cases hc;rw[hb 0 62 rfl (by decide),e];rfl
    ·cases hc;rw[hb 0 62 rfl (by decide),hb 1 43 rfl (by decide),e];rfl
   rw[hcm];refine fk (m:=(i:Int)) rfl (by rw[IntKind.wrap_u8];omega) (xm (c:=2+(i:Int)) (by decide) rfl rfl (by rw[IntKind.wrap_u8];omega) ?_);exact⟨_,_,Wk.refl _ _ _ m13.len,rfl,m13⟩
  ·refine zzK rfl (zzP (by unfold aJ;omega) (aq ?_));refine⟨(i+1,H2),⟨q,fun j c' hj hlt=>?_,m1.trans hid m2⟩,Wk.refl _ _ _ (by have:=m2.len;omega),by dsimp only;omega⟩;rcases uP j i with k|k
   ·exact hb j c' hj k
   ·obtain rfl:j=i:=by simp at hlt;omega
    rw[hj]at hc;cases hc;exact e
 ·obtain rfl:i=3:=by omega
  refine zzK rfl ?_;have hcm:kv r=(0,r):=by unfold kv;rw[hb 0 62 rfl (by decide),hb 1 43 rfl (by decide),hb 2 126 rfl (by decide)]
  rw[hcm];exact⟨_,_,Wk.refl _ _ _ hl1,rfl,m1⟩
end
end
section
open Go Go.Aw
variable [Laid]
def R8(O:AV)(h:aa)(K:AV→aa→Prop):Prop:=
 aV 46 (.agg [u8 0,.str [],u8 0,.str [],ff,i_ 0,i_ 0,ff,qNs]) h fun b N=>aW (.agg [qNs,i_ 0]) [(0,1,O)] fun P=>aV 131 P N fun a Q=>iC p_ 73 [a] Q fun i1 R=>iC p_ 75 [a,i_ 0] R fun S T=>rU false 1 1 S fun U=>iC p_ 76 [U] T fun V W=>aW (.agg [u8 0,.str [],u8 0,.str [],ff,i_ 0,i_ 0,ff,qNs]) [(0,1,(u8 3)),(1,1,V)] fun X=>aV 46 (.agg [u8 0,.str [],u8 0,.str [],ff,i_ 0,i_ 0,ff,qNs]) W fun c Y=>ao 9 c X Y fun Z=>iC p_ 75 [a,i_ 0] Z fun a0 g=>rU false 0 1 a0 fun a1=>ag .neq a1 (u8 1) fun a2=>af a2 (ah true 9 c g fun a3=>ao 9 b a3 g fun s=>ah true 9 b s fun r23=>K (.ay [r23,ff]) s) (qLd p_ a 1 g fun a4=>qBe .add a4 1 fun a5=>qSt p_ a 1 a5 g fun a6=>iC p_ 73 [a] a6 fun i2 a7=>iC p_ 79 [a] a7 fun a8 m=>af a8 (ah true 9 c m fun a9=>ao 9 b a9 m fun t=>ah true 9 b t fun r37=>K (.ay [r37,tt]) t) (aG (fun u=>iC p_ 77 [a,.str [61]] m fun b0 v=>af b0 (bg 2 c fun b1=>ao 1 b1 (u8 1) v fun b2=>eC [b,a,c] (u [] b2)) (iC p_ 75 [a,i_ 0] v fun b3 b4=>aV 70 (.agg [u8 0,.str [],i_ 0,.str [],ff]) b4 fun n b5=>ao 5 n b3 b5 fun w=>iFL 1 false 1 n w fun b6=>iC p_ 60 [.str [126,124,94,36,42],b6] w fun o p=>iFL 0 false 1 n p fun b7=>ag .neq b7 (u8 9) fun b8=>qJo b8 [b,a,c,o] p (fun b9=>qBe .lss o 0 fun c0=>b9 c0 p) fun c1 i=>af c1 (ah true 9 c i fun c2=>ao 9 b c2 i fun x=>ah true 9 b x fun r62=>K (.ay [r62,ff]) x) (qLd p_ a 1 i fun c3=>qBe .add c3 1 fun c4=>qSt p_ a 1 c4 i fun c5=>iC p_ 77 [a,.str [61]] c5 fun c6 q=>cr c6 fun c7=>af c7 (ah true 9 c q fun c8=>ao 9 b c8 q fun y=>ah true 9 b y fun r75=>K (.ay [r75,ff]) y) (cy .u8 o fun c9=>ag .add (u8 2) c9 fun d0=>bg 2 c fun d1=>ao 1 d1 d0 q fun d2=>eC [b,a,c] (u [] d2))))) fun i3 d3=>iC p_ 73 [a] d3 fun i4 d4=>iC p_ 75 [a,i_ 0] d4 fun d5 d6=>aV 70 (.agg [u8 0,.str [],i_ 0,.str [],ff]) d6 fun f d7=>ao 5 f d5 d7 fun j=>iFL 0 false 1 f j fun d8=>ag .neq d8 (u8 1) fun d9=>qJa d9 [b,a,c,f] j (fun e0=>iFL 0 false 1 f j fun e1=>ag .neq e1 (u8 5) fun e2=>e0 e2 j) fun e3 k=>af e3 (ah true 9 c k fun e4=>ao 9 b e4 k fun z=>ah true 9 b z fun r101=>K (.ay [r101,ff]) z) (iFL 1 false 1 f k fun e5=>bg 3 c fun e6=>ao 1 e6 e5 k fun A=>qLd p_ a 1 A fun e7=>qBe .add e7 1 fun e8=>qSt p_ a 1 e8 A fun e9=>iC p_ 73 [a] e9 fun i5 f0=>iC p_ 75 [a,i_ 0] f0 fun f1 f2=>aV 70 (.agg [u8 0,.str [],i_ 0,.str [],ff]) f2 fun l f3=>ao 5 l f1 f3 fun e=>iFL 0 false 1 l e fun f4=>ag .eql f4 (u8 1) fun f5=>af f5 (qLd p_ a 1 e fun f6=>qBe .add f6 1 fun f7=>qSt p_ a 1 f7 e fun f8=>iC p_ 73 [a] f8 fun i6 B=>iFL 1 false 1 l B fun f9=>iC p_ 101 [f9,.str [105]] B fun g0 g1=>bg 4 c fun g2=>ao 1 g2 g0 g1 fun d=>ah true 9 c d fun g3=>iQ p_ 79 [a] d fun r=>aG (fun C=>aM r true (bg 4 c fun D=>ah false 1 D d fun E=>C [D,E,E] d) (C [un,un,un] d)) fun F _=>aG (fun G=>aM (nx F 2) false (bg 1 l fun H=>ah false 1 H d fun I=>iQ p_ 101 [I,.str [115]] d fun g4=>G [H,I,g4] d) (G [un,un,un] d)) fun g5 _=>aG (fun J=>aM r true (bQ (nx F 2) tt (nx g5 2) fun g6=>J [g6] d) (J [un] d)) fun g7 _=>bQ r (nx g7 0) ff fun g8=>ao 9 b g3 d fun L=>ah true 9 b L fun r154=>K (.ay [r154,g8]) L) (ah true 9 c e fun g9=>iQ p_ 79 [a] e fun i0=>ao 9 b g9 e fun M=>ah true 9 b M fun r158=>K (.ay [r158,i0]) M))))
def YM(a:AV):fx p_ 104 [a] (R8 a):=mkM Tryz.func104 (sn (sn (sn (sn (sn (sn (sn (sn (.join [2,4,5] [] (sn (.two .nil (sn (sn (.seq (.seq (.aN (oR 0 4 (.aA 3 false (fR 4 2) [2,4,5,7] [48,50]::.op 6 false::[]))) .nil) .nil))))) (sn (sn (.seq (.seq (.aN (oR 0 4 (.aA 3 true (fR 4 3) [2,4,5,8] [75,78]::.op 7 false::[]))) .nil) (sn (sn (sn (.seq (sn (sn (.two (sn (sn (sn (.seq (.two (.draw 12 (oR 0 4 (.aA 3 true (fR 4 3) [] [115,116,117]::.aA 6 false (fR 7 3) [] [118,119,120]::.aA 3 true [(10,false)] [] [121]::.op 11 false::[])) [] []) (.jX [(12,2,false),(13,0,false)])) .nil)))) .nil))) (.seq (.draw 3 (oR 0 3 []) (oR 3 2 []) []) .nil))))))))))))))))) 126 [.cell 2 46,.tmp 3]
def XR(a2 Z a6:AV)(h:aa)(K:AV→aa→Prop):Prop:=
 aV 80 Z h fun c a0=>aV 39 (.agg [u8 0,qNs,qNs]) a0 fun a A=>EO A (fun a1=>aW (.agg [qNs,i_ 0]) [(0,1,a2)] fun a3=>aV 131 a3 A fun e a4=>iC p_ 73 [e] a4 fun o4 a5=>aV 39 (.agg [u8 0,qNs,qNs]) a5 fun d B=>aG (fun u=>af a6 (iC p_ 74 [e] B fun a7 a8=>bg 0 d fun a9=>ao 1 a9 a7 a8 fun v=>iFL 0 false 1 d v fun b0=>ag .eql b0 (u8 0) fun b1=>af b1 (bg 0 d fun b2=>ao 1 b2 (u8 1) v fun b3=>eC [c,a,e,d] (u [] b3)) (eC [c,a,e,d] (u [] v))) (eC [c,a,e,d] (u [] B))) fun o5 b4=>bN [] b4 fun b5 o6 b6 =>
 aV 42 (.agg [.str [],qNs]) b6 fun f b7=>aG (fun w=>iC p_ 75 [e,i_ 0] b7 fun b8 b9=>aV 70 (.agg [u8 0,.str [],i_ 0,.str [],ff]) b9 fun x c0=>ao 5 x b8 c0 fun k=>iFL 0 false 1 x k fun c1=>ag .eql c1 (u8 1) fun c2=>af c2 (iFL 1 false 1 x k fun c3=>iC p_ 76 [c3] k fun c4 c5=>bg 0 f fun c6=>ao 1 c6 c4 c5 fun C=>qLd p_ e 1 C fun c7=>qBe .add c7 1 fun c8=>qSt p_ e 1 c8 C fun c9=>eC [c,a,e,d,f] (w [] c9)) (iC p_ 77 [e,.str [42]] k fun d0 D=>af d0 (bg 0 f fun d1=>ao 1 d1 (.str [42]) D fun d2=>eC [c,a,e,d,f] (w [] d2)) (eC [c,a,e,d,f] (w [] D)))) fun o7 E=>ah true 2 c E fun d3=>iC p_ 78 [e,d3] E fun F d4=>aR 0 F fun d5=>aR 1 F fun d6=>bg 1 f fun d7=>ao 1 d7 d5 d4 fun l=>cr d6 fun d8=>qJo d8 [c,a,e,d,f] l (fun d9=>ah true 2 f l fun e0=>ah true 2 c l fun e1=>iC p_ 50 [e0,e1] l fun e2 e3=>cr e2 fun e4=>d9 e4 e3) fun e5 i=>af e5 (ah true 3 d i fun e6=>ao 3 a e6 i fun G=>ah true 3 a G fun r79=>K (.ay [r79,ff]) G) (iFL 1 false 1 d i fun e7=>ah true 2 f i fun e8=>bt 1 2 (.agg [.str [],qNs]) [(0,2,e8)] fun e9=>bR false 42 2 40 e7 e9 i fun f0 f1=>bg 1 d fun f2=>ao 1 f2 f0 f1 fun f3=>iC p_ 73 [e] f3 fun f4 f5=>iC p_ 79 [e] f5 fun f6 m=>af f6 ((∃d92:Nat,ah true 3 d m fun f7=>bg 1 d fun H=>cF (qD d92 H) (ah false 1 H m fun f8=>iZ f8 fun f9=>qBe .leq f9 64 fun g0=>cF (xl d92 a) (ao 3 a f7 m fun I=>ah true 3 a I fun r99=>K (.ay [r99,g0]) I)))) (iC p_ 74 [e] m fun n J=>aG (fun L=>ag .eql n (u8 0) fun g1=>qJa g1 [c,a,e,d,n] J (fun g2=>cr f4 fun g3=>g2 g3 J) fun g4 o=>af g4 (ah true 3 d o fun g5=>ao 3 a g5 o fun M=>ah true 3 a M fun r111=>K (.ay [r111,ff]) M) (ag .eql n (u8 0) fun g6=>af g6 (eC [c,a,e,d] (L [u8 1] o)) (eC [c,a,e,d] (L [n] o)))) fun g7 N=>iFL 2 false 1 d N fun g8=>bt 1 1 (u8 0) [(0,1,(nx g7 0))] fun g9=>bR false 5 1 1 g8 g9 N fun i0 i1=>bg 2 d fun i2=>ao 1 i2 i0 i1 fun i3=>eC [c,a,e,d] (b5 [] i3)))) fun a1 b i4 =>
 bN [] i4 fun i5 o8 i6 =>
 aV 42 (.agg [.str [],qNs]) i6 fun g i7=>aG (fun y=>iC p_ 75 [nx b 0,i_ 0] i7 fun i8 i9=>aV 70 (.agg [u8 0,.str [],i_ 0,.str [],ff]) i9 fun z j0=>ao 5 z i8 j0 fun p=>iFL 0 false 1 z p fun j1=>ag .eql j1 (u8 1) fun j2=>af j2 (iFL 1 false 1 z p fun j3=>iC p_ 76 [j3] p fun j4 j5=>bg 0 g fun j6=>ao 1 j6 j4 j5 fun O=>qLd p_ (nx b 0) 1 O fun j7=>qBe .add j7 1 fun j8=>qSt p_ (nx b 0) 1 j8 O fun j9=>eC [c,a,nx b 0,nx b 1,g] (y [] j9)) (iC p_ 77 [nx b 0,.str [42]] p fun k0 P=>af k0 (bg 0 g fun k1=>ao 1 k1 (.str [42]) P fun k2=>eC [c,a,nx b 0,nx b 1,g] (y [] k2)) (eC [c,a,nx b 0,nx b 1,g] (y [] P)))) fun o9 Q=>ah true 2 c Q fun k3=>iC p_ 78 [nx b 0,k3] Q fun R k4=>aR 0 R fun k5=>aR 1 R fun k6=>bg 1 g fun k7=>ao 1 k7 k5 k4 fun q=>cr k6 fun k8=>qJo k8 [c,a,nx b 0,nx b 1,g] q (fun k9=>ah true 2 g q fun l0=>ah true 2 c q fun l1=>iC p_ 50 [l0,l1] q fun l2 l3=>cr l2 fun l4=>k9 l4 l3) fun l5 j=>af l5 (ah true 3 (nx b 1) j fun l6=>ao 3 a l6 j fun S=>ah true 3 a S fun r174=>K (.ay [r174,ff]) S) (iFL 1 false 1 (nx b 1) j fun l7=>ah true 2 g j fun l8=>bt 1 2 (.agg [.str [],qNs]) [(0,2,l8)] fun l9=>bR false 42 2 40 l7 l9 j fun m0 m1=>bg 1 (nx b 1) fun m2=>ao 1 m2 m0 m1 fun m3=>iC p_ 73 [nx b 0] m3 fun m4 m5=>iC p_ 79 [nx b 0] m5 fun m6 r=>af m6 ((∃d187:Nat,ah true 3 (nx b 1) r fun m7=>bg 1 (nx b 1) fun T=>cF (qD d187 T) (ah false 1 T r fun m8=>iZ m8 fun m9=>qBe .leq m9 64 fun n0=>cF (xl d187 a) (ao 3 a m7 r fun U=>ah true 3 a U fun r194=>K (.ay [r194,n0]) U)))) (iC p_ 74 [nx b 0] r fun s V=>aG (fun W=>ag .eql s (u8 0) fun n1=>qJa n1 [c,a,nx b 0,nx b 1,s] V (fun n2=>cr m4 fun n3=>n2 n3 V) fun n4 t=>af n4 (ah true 3 (nx b 1) t fun n5=>ao 3 a n5 t fun X=>ah true 3 a X fun r206=>K (.ay [r206,ff]) X) (ag .eql s (u8 0) fun n6=>af n6 (eC [c,a,nx b 0,nx b 1] (W [u8 1] t)) (eC [c,a,nx b 0,nx b 1] (W [s] t)))) fun n7 Y=>iFL 2 false 1 (nx b 1) Y fun n8=>bt 1 1 (u8 0) [(0,1,(nx n7 0))] fun n9=>bR false 5 1 1 n8 n9 Y fun o0 o1=>bg 2 (nx b 1) fun o2=>ao 1 o2 o0 o1 fun o3=>eC [c,a,nx b 0,nx b 1] (i5 [] o3)))
def V46(a b c:AV):fx p_ 46 [a,b,c] (XR a b c):=mkM Tryz.func46 (sn (.seq (.loop [0] [] .nil) (.join [4,6] [8,9] (sn (sn (sn (.join [4,6,8,9] [] .nil (sn (.seq (.one (.loop [4,6,8,9] [] (.one (sn (.join [4,6,8,9,10] [] .nil (sn (.seq (sn (.seq (.aN (oR 0 3 (.aA 2 false (fR 3 4) [4,6,8,9,10] [56,60]::.op 7 false::[]))) .nil)) (.seq (.aN (oR 0 3 (.op 3 true::oR 4 3 []))) (sn (sn (sn (.join [4,6,8,9] [14] (.one (.seq (.aN (oR 0 3 (.aA 2 true (fR 3 2) [4,6,8,9,14] [78,80]::oR 5 2 []))) .nil)) (.aN (oR 0 3 (.op 3 true::oR 4 3 []))))))))))))))) (.seq (.two (.jX [(0,1,false),(1,0,false),(2,3,false),(3,0,false),(4,0,false),(5,4,false),(6,0,false)]) .nil) .nil))))))) (sn (.seq (.one (.loop [4,6,8,9] [] (.one (sn (.join [4,6,8,9,10] [] .nil (sn (.seq (sn (.seq (.aN (oR 0 3 (.aA 2 false (fR 3 4) [4,6,8,9,10] [56,60]::.op 7 false::[]))) .nil)) (.seq (.aN (oR 0 3 (.op 3 true::oR 4 3 []))) (sn (sn (sn (.join [4,6,8,9] [14] (.one (.seq (.aN (oR 0 3 (.aA 2 true (fR 3 2) [4,6,8,9,14] [78,80]::oR 5 2 []))) .nil)) (.aN (oR 0 3 (.op 3 true::oR 4 3 []))))))))))))))) (.seq (.two (.jX [(0,1,false),(1,0,false),(2,3,false),(3,0,false),(4,0,false),(5,4,false),(6,0,false)]) .nil) .nil)))))) 97 [.cell 6 39,.tmp 7]
end
section
open Go Go.Aw Go.dD Go.RowKit
open Go.bo hiding u1 ae
def gg(sz:Nat)(rows:List (List AV)):AV:=match rows with|[]=>bI|r:: l=>.sl sz (r:: l)
def lH{sz:Nat}{rows:List (List AV)}(h:cG rows):Aw.Pure (gg sz rows):=by
 cases rows with
 | nil=>simp[gg,Aw.Pure]
 | cons r l=>simpa[gg,Aw.Pure]using h
def oV(sz:Nat)(rows:List (List AV)):bG (gg sz rows)=true:=by cases rows<;>rfl
def uq{sz:Nat}{rows rows':List (List AV)}(h:oc rows rows'):zT (gg sz rows) (.sl sz rows'):=by
 cases h with
 | nil=>exact .nil sz
 | cons a b=>exact .sl (.cons a b)
mutual
def nX_:Cx→List AV
 | .mk l ps cs=>[u1 l,gg 2 (fC_ ps),gg 1 (cs.map fun c=>[u1 c])]
def fC_:List Cp→List (List AV)
 | []=>[]
 | p:: ps=>nP_ p:: fC_ ps
def nP_:Cp→List AV
 | .mk t ss=>[.str t,gg 9 (dN_ ss)]
def dN_:List Sm→List (List AV)
 | []=>[]
 | s:: ss=>nS_ s:: dN_ ss
def nS_:Sm→List AV
 | .mk k n o v f a b w l=>[u1 k,.str n,u1 o,.str v,b_ f,i_ a,i_ b,b_ w,gg 3 (dJ_ l)]
def dJ_:List Cx→List (List AV)
 | []=>[]
 | x:: xs=>nX_ x:: dJ_ xs
end
theorem B6:∀l,dJ_ l=l.map nX_
 | []=>by simp[dJ_]
 | p:: l=>by simp[dJ_,B6 l]
theorem xP:∀l,fC_ l=l.map nP_
 | []=>by simp[fC_]
 | p:: l=>by simp[fC_,xP l]
theorem B4:∀l,dN_ l=l.map nS_
 | []=>by simp[dN_]
 | p:: l=>by simp[dN_,B4 l]
mutual
theorem HI:∀x:Cx,aO (nX_ x)
 | .mk l ps cs=>by simp only[nX_,aO,Aw.Pure,true_and,and_true];exact⟨lH (E9 ps),lH (bo.Bm cs)⟩
theorem E9:∀l:List Cp,cG (fC_ l)
 | []=>by simp[fC_,cG]
 | p:: l=>by simp[fC_,cG,HF p,E9 l]
theorem HF:∀p:Cp,aO (nP_ p)
 | .mk t ss=>by simp only[nP_,aO,Aw.Pure,true_and,and_true];exact lH (Fb ss)
theorem Fb:∀l:List Sm,cG (dN_ l)
 | []=>by simp[dN_,cG]
 | s:: l=>by simp[dN_,cG,jR s,Fb l]
theorem jR:∀s:Sm,aO (nS_ s)
 | .mk k n o v f a b w l=>by simp only[nS_,aO,Aw.Pure,true_and,and_true];exact lH (mg l)
theorem mg:∀l:List Cx,cG (dJ_ l)
 | []=>by simp[dJ_,cG]
 | x:: l=>by simp[dJ_,cG,HI x,mg l]
end
theorem CO:∀r:List (List AV),oc r r
 | []=>.nil
 | x:: r=>.cons (kB.refl x) (CO r)
mutual
theorem Uf:∀x:Cx,kB (nX_ x) (fJ x)
 | .mk l ps cs=>by rw[nX_,fJ];exact .cons (.refl _) (.cons (uq (HG ps)) (.cons (uq (CO _)) .nil))
theorem HG:∀l:List Cp,oc (fC_ l) (dn l)
 | []=>.nil
 | p:: l=>.cons (K7 p) (HG l)
theorem K7:∀p:Cp,kB (nP_ p) (gR p)
 | .mk t ss=>by rw[nP_,gR];exact .cons (.refl _) (.cons (uq (HH ss)) .nil)
theorem HH:∀l:List Sm,oc (dN_ l) (dQ l)
 | []=>.nil
 | s:: l=>.cons (Ue s) (HH l)
theorem Ue:∀s:Sm,kB (nS_ s) (du s)
 | .mk k n o v f a b w l=>by
   rw[nS_,du];exact .cons (.refl _) (.cons (.refl _) (.cons (.refl _) (.cons (.refl _) (.cons (.refl _) (.cons (.refl _) (.cons (.refl _) (.cons (.refl _) (.cons (uq (xQ l)) .nil))))))))
theorem xQ:∀l:List Cx,oc (dJ_ l) (bL l)
 | []=>.nil
 | x:: l=>.cons (Uf x) (xQ l)
end
abbrev cV(s:Sm):aK:=.ak ⟨46,nS_ s,true⟩
def fI(s:Sm):(nS_ s).length=9:=by cases s;rfl
def rn(s:Sm):(nS_ s).all bG=true:=by cases s;simp only[nS_,abg,List.all_nil,oV];rfl
def cM:Sm:=.mk 0 [] 0 [] false 0 0 false []
def uv{K:AV→aa→Prop}(hV:H[V]?=some (cV s0))(k:K (.agg (nS_ s)) (H.set V (cV s))):
 ao 9 (.op V 0) (.agg (nS_ s)) H fun g=>ah true 9 (.op V 0) g fun r=>K r g:=by
 refine aU (cs:=nS_ s) (h':=H.set V (cV s)) rfl hV rfl rfl (by simp[fI]) (fI s) (rn s) (by rw[kY (by simp[fI])]) ?_;refine iq (cs:=nS_ s) (b:=⟨46,nS_ s,true⟩) rfl (iD (eQ.1 hV).1) (by simp[fI]) (by rw[List.drop_zero,MK (by simp[fI])]) ?_;exact k
def kJ{K:AV→Prop}(hV:H[V]?=some (cV s))(k:K (.agg (nS_ s))):ah true 9 (.op V 0) H K:=
 iq (cs:=nS_ s) rfl hV (by simp[fI]) (by rw[List.drop_zero,MK (by simp[fI])]) k
def VG{t:Tok}{K:AV→Prop}(q:K (.str t.t)):rU false 1 1 t.av K:=q
structure lU(v:List Vl)(H:aa)(B:Nat)(s:Sm)(r:List Vl):Prop where
 z:H[0]?=some (cV cM)
 rd:H[1]?=some (dF v r)
 x:H[B]?=some (cV s)
 b:1<B
 sf:r <:+ v
section
variable {v r r':List Vl} {H H':aa} {B:Nat} {s s':Sm}
def lU.lt(a:lU v H B s r):B<H.length:=(eQ.1 a.x).1
def lU.mo(a:lU v H B s r)(m:Mo 1 (dF v r') H H')(h:r' <:+ v):lU v H' B s r':=by
 have:=a.lt;have:=a.b;exact⟨by rw[m.other (by omega) (by decide)];exact a.z,m.at (by omega),by rw[m.other (by omega) (by omega)];exact a.x,a.b,h⟩
def lU.app(a:lU v H B s r)(j:aa):lU v (H++j) B s r:=by
 have q:∀{i:Nat} {e:aK},H[i]?=some e→(H++j)[i]?=some e:=fun h=>by rw[gO (eQ.1 h).1];exact h
 exact⟨q a.z,q a.rd,q a.x,a.b,a.sf⟩
def lU.set(a:lU v H B s r)(s':Sm):lU v (H.set B (cV s')) B s' r:=by
 have:=a.b;exact⟨by rw[iF (by omega)];exact a.z,by rw[iF (by omega)];exact a.rd,iD a.lt,a.b,a.sf⟩
def lU.st{F:aa→Prop}(a:lU v H B (eH n o w f) r)(k:lU v (H.set B (cV (eH n o' w f))) B (eH n o' w f) r→F (H.set B (cV (eH n o' w f)))):
 ao 1 (.op B (0+2)) (u8 o') H F:=aU (cs:=[u8 o']) rfl a.x rfl rfl (by simp[fI]) rfl rfl rfl (k (a.set _))
def lU.stV{F:aa→Prop}(a:lU v H B (eH n o w f) r)(k:lU v (H.set B (cV (eH n o w' f))) B (eH n o w' f) r→F (H.set B (cV (eH n o w' f)))):
 ao 1 (.op B (0+3)) (.str w') H F:=aU (cs:=[.str w']) rfl a.x rfl rfl (by simp[fI]) rfl rfl rfl (k (a.set _))
def lU.Vc{F:aa→Prop}(a:lU v H B (eH n o w f) r)(k:lU v (H.set B (cV (eH n o w f'))) B (eH n o w f') r→F (H.set B (cV (eH n o w f')))):
 ao 1 (.op B (0+4)) (b_ f') H F:=aU (cs:=[b_ f']) rfl a.x rfl rfl (by simp[fI]) rfl rfl rfl (k (a.set _))
end
def MX:List Vl→Sm×Bool
 | []=>(eH [] 0 [] false,false)
 | t:: r=>if t.kind=1 then qw (cg t.text) (cv r) else (eH (cg t.text) 0 [] false,false)
def VS(v:List Vl):lO v=MX (cv v):=by unfold lO;cases cv v<;>rfl
section
variable [bp]
abbrev atR(o:Sm×Bool):AV:=.ay [.agg (nS_ o.1),b_ o.2]
def M8(v:List Vl)(hv:v.length<2^30):bn p_ 104 [.sl 6 (cA v)] (atR (lO v)):=by
 refine (YM _).bj (by simp[lz]) (by simp only[aO,Aw.Pure,and_true];exact jR _) ?_;unfold R8;refine bT (cs:=nS_ cM) (n:=0) (h':=[cV cM]) rfl rfl rfl rfl (ba rfl (bT (cs:=[.sl 6 (cA v),i_ 0]) (n:=1) (h':=[cV cM,LI v 0]) rfl rfl rfl rfl ?_));obtain⟨h,hh⟩:∃h,h=[cV cM,LI v 0]:=⟨_,rfl⟩;have rd0:h[1]?=some (dF v v):=by rw[hh];simp
 have z0:h[0]?=some (cV cM):=by rw[hh];rfl
 have l0:h.length=2:=by rw[hh];rfl
 rw[←hh];clear hh
 -- what is handed back
 have retB:∀(H:aa) (B:Nat) (s:Sm) (r:List Vl) (b:Bool),lU v H B s r→(s,b)=lO v→ah true 9 (.op B 0) H fun v21=>ao 9 (.op 0 0) v21 H fun g=>ah true 9 (.op 0 0) g fun r=>dI (atR (lO v)) (.ay [r,b_ b]) g:=by
  intro H B s r b a e;refine kJ a.x (uv (K:=fun r g=>dI (atR (lO v)) (.ay [r,b_ b]) g) a.z ?_);rw[←e];exact .pure (by simp only[aO,Aw.Pure,and_true];exact jR _) rfl
 refine mC rd0 (List.suffix_refl _) rfl hv fun H1 m1=>?_;have s1:=lJ v;have l1:=m1.len;have z1:H1[0]?=some (cV cM):=by rw[m1.other (by omega) (by decide)];exact z0
 have hat:=VS v;obtain⟨r1,hr1⟩:∃r1,cv v=r1:=⟨_,rfl⟩;rw[hr1]at m1 s1 hat;refine nD (n:=0) (m1.at (by omega)) s1 rfl (by omega) fun H2 m2=>?_;have m2:=m1.trans (by omega) m2;have z2:H2[0]?=some (cV cM):=by rw[m2.other (by omega) (by decide)];exact z0
 have l2:=m2.len;refine VG (uCon (jg _) ?_);have em:(cf r1 0).t.map dX=cg (cf r1 0).t:=rfl;rw[em];refine ba (cs:=nS_ (eH (cg (cf r1 0).t) 0 [] false)) rfl (bT (cs:=nS_ cM) (n:=H2.length) (h':=H2++[cV cM]) rfl rfl rfl rfl (aU (cs:=nS_ (eH (cg (cf r1 0).t) 0 [] false)) (h':=H2++[cV (eH (cg (cf r1 0).t) 0 [] false)]) rfl (b:=⟨46,nS_ cM,true⟩) (by simp) rfl rfl (by simp[fI]) rfl rfl (by rw[IF _ _ (bY _)];simp;rfl) ?_));have a2:lU v (H2++[cV (eH (cg (cf r1 0).t) 0 [] false)]) H2.length (eH (cg (cf r1 0).t) 0 [] false) r1:=⟨by rw[gO (by omega)];exact z2,by rw[gO (by omega)];exact m2.at (by omega),by simp,by omega,s1⟩;obtain⟨B,hB⟩:∃B,H2.length=B:=⟨_,rfl⟩;obtain⟨H3,h3⟩:∃H3,H2++[cV (eH (cg (cf r1 0).t) 0 [] false)]=H3:=⟨_,rfl⟩;rw[hB,h3]at a2;rw[hB,h3];clear h3 hB m1 m2 z1 z2 l1 l2;refine nD (n:=0) a2.rd s1 rfl (by omega) fun H4 m4=>?_;have a4:=a2.mo m4 s1;refine PI (zzH ?_);cases r1 with
 | nil=>exact zzL rfl (retB _ _ _ _ _ a4 (by rw[hat];rfl))
 | cons t r =>
   by_cases c1:t.kind=1
   ·rw[MX,if_pos c1]at hat;refine zzK (by show (!decide (t.kind=1))=false;simp[c1]) (qX a4.rd s1 (by omega) ?_);have sr:=(List.suffix_cons t r).trans s1;have a5:=a4.mo (Mo.set 1 (dF v r) H4) sr;refine mC a5.rd sr rfl hv fun H6 m6=>?_;have s2:=(lJ r).trans sr;have a6:=a5.mo m6 s2;obtain⟨r2,hr2⟩:∃r2,cv r=r2:=⟨_,rfl⟩;rw[hr2]at hat s2 a6;refine Bv a6.rd s2 rfl ?_;obtain⟨n,hn⟩:∃n,cg (cf (t:: r) 0).t=n:=⟨_,rfl⟩;have hn':cg t.text=n:=hn;rw[hn]at a6;rw[hn']at hat;cases r2 with
    | nil=>exact zzL rfl (retB _ _ _ _ _ a6 (by rw[hat];rfl))
    | cons t2 r3 =>
      refine zzK rfl ?_;have s3:=(List.suffix_cons t2 r3).trans s2;refine cS (fun s H=>s=[]∧∃o r4,lU v H B (eH n o [] false) r4∧lO v=yp n o (cv r4)) ?_ ?_
      ·rintro _ H ⟨rfl,o,r4,a,hat⟩;refine mC a.rd a.sf rfl hv fun H7 m7=>?_;have s5:=(lJ r4).trans a.sf;have a7:=a.mo m7 s5;obtain⟨r5,hr5⟩:∃r5,cv r4=r5:=⟨_,rfl⟩;rw[hr5]at hat s5 a7;refine nD (n:=0) a7.rd s5 rfl (by omega) fun H8 m8=>?_;have a8:=a7.mo m8 s5;refine jy ?_;have hT:(H8++[aK.ak ⟨70,(cf r5 0).row,true⟩])[H8.length]?=some (.ak ⟨70,(cf r5 0).row,true⟩):=by simp
       have a9:=a8.app [aK.ak ⟨70,(cf r5 0).row,true⟩];obtain⟨T,hTl⟩:∃T,H8.length=T:=⟨_,rfl⟩;obtain⟨H9,h9⟩:∃H9,H8++[aK.ak ⟨70,(cf r5 0).row,true⟩]=H9:=⟨_,rfl⟩;have hTB:T≠B:=by have:=a8.lt;omega
       rw[h9,hTl]at hT;rw[h9]at a9;rw[hTl,h9];clear h9 hTl m8 m7;refine zzA (zzU hT rfl (zzH ?_));have bad:lO v=(eH n o [] false,false)→ah true 9 (.op B 0) H9 fun v21=>ao 9 (.op 0 0) v21 H9 fun g=>ah true 9 (.op 0 0) g fun r=>dI (atR (lO v)) (.ay [r,ff]) g:=fun e=>retB _ _ _ _ _ a9 e.symm;refine mA (!decide ((cf r5 0).k=1)&&!decide ((cf r5 0).k=5)) rfl (fun z=>by rw[z];rfl) (fun z F hF=>?_) (fun s hs=>lv hs ?_)
       ·refine zzA (zzU hT rfl (zzH (aq ?_)));rw[z,Bool.true_and]at hF;exact hF
       by_cases c2:(cf r5 0).k=1∨(cf r5 0).k=5
       ·have c3:(!decide ((cf r5 0).k=1)&&!decide ((cf r5 0).k=5))=false:=by rcases c2 with z|z<;>simp[z]
        refine zzK c3 ?_;cases r5 with
        | nil=>exact absurd c2 (by decide)
        | cons t5 r6 =>
          have c2:t5.kind=1∨t5.kind=5:=c2;rw[yp,if_pos c2]at hat;refine zzA (zzU hT rfl (zzA ?_));refine a9.stV fun a10=>?_;have s6:=(List.suffix_cons t5 r6).trans s5;refine qX a10.rd s5 (by omega) ?_;have a11:=a10.mo (Mo.set 1 (dF v r6) _) s6;refine mC a11.rd s6 rfl hv fun H12 m12=>?_;have s7:=(lJ r6).trans s6;have a12:=a11.mo m12 s7;obtain⟨r7,hr7⟩:∃r7,cv r6=r7:=⟨_,rfl⟩;rw[hr7]at hat s7 a12;obtain⟨w,hw⟩:∃w,t5.text=w:=⟨_,rfl⟩;have hw':(cf (t5:: r6) 0).t=w:=hw;rw[hw']at a12;rw[hw]at hat;refine nD (n:=0) a12.rd s7 rfl (by omega) fun H13 m13=>?_;have a13:=a12.mo m13 s7;refine jy ?_;have hU:(H13++[aK.ak ⟨70,(cf r7 0).row,true⟩])[H13.length]?=some (.ak ⟨70,(cf r7 0).row,true⟩):=by simp
          have a14:=a13.app [aK.ak ⟨70,(cf r7 0).row,true⟩];obtain⟨U,hUl⟩:∃U,H13.length=U:=⟨_,rfl⟩;obtain⟨H14,h14⟩:∃H14,H13++[aK.ak ⟨70,(cf r7 0).row,true⟩]=H14:=⟨_,rfl⟩;have hUB:U≠B∧U≠1:=by have:=a13.lt;have:=a13.b;omega
          rw[h14,hUl]at hU;rw[h14]at a14;rw[hUl,h14];clear h14 hUl m13 m12;refine zzA (zzU hU rfl (zzG ?_));have last:(cf r7 0).k≠1→lO v=(eH n o w false,r7.isEmpty)→ah true 9 (.op B 0) H14 fun v155=>wv p_ (.fn (.func 79) [] []) [.op 1 0] H14 fun v156=>ao 9 (.op 0 0) v155 H14 fun g157=>ah true 9 (.op 0 0) g157 fun r158=>dI (atR (lO v)) (.ay [r158,v156]) g157:=by
           intro _ e;refine kJ a14.x ?_;refine⟨_,Bv a14.rd s7 rfl ⟨rfl,rfl⟩, ?_⟩;refine uv (K:=fun r g=>dI (atR (lO v)) (.ay [r,b_ r7.isEmpty]) g) a14.z ?_;rw[e];exact .pure (by simp only[aO,Aw.Pure,and_true];exact jR _) rfl
          cases r7 with
          | nil=>exact zzK rfl (last (by decide) (by rw[hat];rfl))
          | cons f r8 =>
            by_cases c4:f.kind=1
            ·rw[GQ,if_pos c4]at hat;refine zzL (oF c4) ?_;have s8:=(List.suffix_cons f r8).trans s7;refine qX a14.rd s7 (by omega) ?_;have a15:=a14.mo (Mo.set 1 (dF v r8) _) s8;have hU15:(H14.set 1 (dF v r8))[U]?=some (.ak ⟨70,(cf (f:: r8) 0).row,true⟩):=by rw[iF (Ne.symm hUB.2)];exact hU
             refine mC a15.rd s8 rfl hv fun H16 m16=>?_;have s9:=(lJ r8).trans s8;have a16:=a15.mo m16 s9;have hU16:H16[U]?=some (.ak ⟨70,(cf (f:: r8) 0).row,true⟩):=by rw[m16.other (eQ.1 hU15).1 hUB.2];exact hU15
             obtain⟨r9,hr9⟩:∃r9,cv r8=r9:=⟨_,rfl⟩;rw[hr9]at hat s9 a16;refine zzA (zzU hU16 rfl (uCon (sU _ [105]) ?_));have ei:decide ((cf (f:: r8) 0).t.map dX=([105]:ae).map dX)=decide (cg f.text=[105]):=rfl;rw[ei];refine zzA ?_;refine a16.Vc fun a17=>?_;obtain⟨H17,h17⟩:∃H17,H16.set B (cV (eH n o w (decide (cg f.text=[105]))))=H17:=⟨_,rfl⟩;have hU17:H17[U]?=some (.ak ⟨70,(cf (f:: r8) 0).row,true⟩):=by rw[←h17,iF (Ne.symm hUB.1)];exact hU16
             rw[h17]at a17 ⊢;clear h17;refine kJ a17.x ?_;refine⟨_,Bv a17.rd s9 rfl ⟨rfl,rfl⟩, ?_⟩;have fin:∀b,b=(r9.isEmpty&&(decide (cg f.text=[105])||decide (cg f.text=[115])))→ao 9 (.op 0 0) (.agg (nS_ (eH n o w (decide (cg f.text=[105]))))) H17 fun g153=>ah true 9 (.op 0 0) g153 fun r154=>dI (atR (lO v)) (.ay [r154,b_ b]) g153:=by
              intro b e;refine uv (K:=fun r g=>dI (atR (lO v)) (.ay [r,b_ b]) g) a17.z ?_;rw[e,hat];exact .pure (by simp only[aO,Aw.Pure,and_true];exact jR _) rfl
             refine aF ?_;cases r9 with
             | cons x9 r10 =>
               refine km rfl (aF (dG rfl (aF (km rfl (zzQ ?_)))));exact fin false rfl
             | nil =>
               refine jk rfl (zzA (zzU a17.x rfl (aF ?_)))
               by_cases c5:cg f.text=[105]
               ·refine km (by simp[nx,c5]) (aF (jk rfl (aL (by simp[nx,c5]) (zzR ?_))));exact fin true (by simp[c5])
               ·refine jk (by simp[nx,c5]) (zzA (zzU hU17 rfl ?_));refine⟨_,uCon (sU _ [115]) ⟨rfl,rfl⟩, ?_⟩;have es:decide ((cf (f:: r8) 0).t.map dX=([115]:ae).map dX)=decide (cg f.text=[115]):=rfl;rw[es];refine aF (jk rfl (aQ (by simp[nx,c5]) (zzR ?_)));exact fin _ (by simp[nx,c5])
            ·rw[GQ,if_neg c4]at hat;exact zzK (nO c4) (last c4 hat)
       ·have c3:(!decide ((cf r5 0).k=1)&&!decide ((cf r5 0).k=5))=true:=by simp only[not_or]at c2;simp[c2]
        refine zzL c3 (bad ?_);rw[hat];cases r5 with
        | nil=>rfl
        | cons t5 r6 =>
          have c2:¬(t5.kind=1∨t5.kind=5):=c2;rw[yp,if_neg c2]
      ·intro F hF;refine Bu (c:=61) a6.rd s2 rfl hv (fun r' H7 e m7=>?_) (fun H7 e m7=>?_)
       ·obtain⟨y,hy,_⟩:=uX e;have s':r' <:+ v:=List.IsSuffix.trans (by rw[hy];exact List.suffix_cons _ _) s2;have a7:=a6.mo m7 s';refine zzL rfl (zzA ?_);refine a7.st fun a8=>?_;refine aq ?_;refine hF _ _ ⟨rfl,1,r',a8, ?_⟩;rw[hat,qw,e]
       ·have a7:=a6.mo m7 s2;refine zzK rfl ?_;rw[qw,e]at hat;dsimp only at hat;refine nD (n:=0) a7.rd s2 rfl (by omega) fun H8 m8=>?_;have a8:=a7.mo m8 s2;refine jy ?_;have hT:(H8++[aK.ak ⟨70,(cf (t2:: r3) 0).row,true⟩])[H8.length]?=some (.ak ⟨70,(cf (t2:: r3) 0).row,true⟩):=by simp
        have a9:=a8.app [aK.ak ⟨70,(cf (t2:: r3) 0).row,true⟩];obtain⟨T,hTl⟩:∃T,H8.length=T:=⟨_,rfl⟩;obtain⟨H9,h9⟩:∃H9,H8++[aK.ak ⟨70,(cf (t2:: r3) 0).row,true⟩]=H9:=⟨_,rfl⟩;rw[h9,hTl]at hT;rw[h9]at a9;rw[hTl,h9];clear h9 hTl m8 m7;refine zzA (zzU hT rfl (cB (by kernel_rfl) rfl (BD pf t2.text (by decide) H9) ?_));rintro _ _ ⟨rfl,rfl⟩;have hi:=index_le pf t2.text;have hi5:(pf.length:Int)=5:=rfl;refine zzA (zzU hT rfl (zzH ?_));refine mN (!decide (t2.kind=9)||decide (Lib.index pf t2.text<0)) rfl (fun z=>by rw[show (!decide (t2.kind=9))=true from z];rfl) (fun z F2 hF2=>?_) (fun s hs=>lR hs ?_)
        ·refine zzC (aq ?_);rw[show (!decide (t2.kind=9))=false from z,Bool.false_or]at hF2;exact hF2
        by_cases c2:t2.kind=9∧0≤Lib.index pf t2.text
        ·rw[if_pos c2]at hat;refine zzK (by simp[c2.1];omega) (qX a9.rd s2 (by omega) ?_);have a10:=a9.mo (Mo.set 1 (dF v r3) _) s3;refine Bu (c:=61) a10.rd s3 rfl hv (fun r' H11 e2 m11=>?_) (fun H11 e2 m11=>?_)
         ·obtain⟨y,hy,_⟩:=uX e2;have s':r' <:+ v:=List.IsSuffix.trans (by rw[hy];exact List.suffix_cons _ _) s3;have a11:=a10.mo m11 s';refine zzO (zzK rfl (fk (m:=Lib.index pf t2.text) rfl (by rw[IntKind.wrap_u8];omega) (xm (c:=2+Lib.index pf t2.text) (by decide) rfl rfl (by rw[IntKind.wrap_u8];omega) (zzA ?_))));refine a11.st fun a12=>?_;refine aq ?_;refine hF _ _ ⟨rfl,_,r',a12, ?_⟩;rw[hat,e2]
         ·have a11:=a10.mo m11 s3;refine zzO ?_;exact zzL rfl (retB _ _ _ _ _ a11 (by rw[hat,e2]))
        ·rw[if_neg c2]at hat;refine zzL ?_ (retB _ _ _ _ _ a9 (by rw[hat]))
         by_cases c3:t2.kind=9
         ·have:Lib.index pf t2.text<0:=by
           rcases Int.lt_or_le (Lib.index pf t2.text) 0 with z|z
           ·exact z
           ·exact absurd ⟨c3,z⟩ c2
          simp[this]
         ·simp[c3]
   ·rw[MX,if_neg c1]at hat;exact zzL (by show (!decide (t.kind=1))=true;simp[c1]) (retB _ _ _ _ _ a4 (by rw[hat];rfl))
end
end
section
open Go Go.Aw
variable [Laid]
def SB(c e:AV)(h:aa)(K:AV→aa→Prop):Prop:=
 bq c fun d=>bN [i_ 0] h fun f a b =>
 ag .lss (nx a 0) d fun g=>af g (aI 1 c (nx a 0) fun i=>ah false 1 i b fun j=>ag .eql e j fun k=>af k (K (nx a 0) b) (qBe .add (nx a 0) 1 fun l=>eC [c,e,d] (f [l] b))) (K (i_ (-1)) b)
def Zb(a b:AV):Body p_ 143 [a,b] (SB a b):=bC Tryz.func143 (sn (.seq (sn (.one (.loop [0,1,7] [8] .nil))) .nil)) 19 [.tmp 4]
def SL(b e:AV)(h:aa)(K:AV→aa→Prop):Prop:=
 bq b fun d=>bN [i_ 0] h fun g a c =>
 ag .lss (nx a 0) d fun i=>af i (aI 6 b (nx a 0) fun j=>ah true 6 j c fun k=>bx p_ e [k] c fun l f=>af l (K (nx a 0) f) (qBe .add (nx a 0) 1 fun m=>eC [b,e,d] (g [m] f))) (K (i_ (-1)) c)
def Zl(a b:AV):Body p_ 174 [a,b] (SL a b):=bC Tryz.func174 (sn (.seq (sn (.one (.loop [0,1,7] [8] .nil))) .nil)) 19 [.tmp 4]
end
section
open Go Go.Aw Go.dD Go.RowKit
open Go.bo hiding u1 ae
abbrev L1(l:List ae):List (List AV):=l.map fun s=>[.str s]
theorem vU:∀l:List ae,cG (L1 l)
 | []=>by simp[cG]
 | s:: l=>by
   have:=vU l;show cG ([.str s]:: L1 l);simp[cG,aO,Aw.Pure,this]
def QD{k:Nat}(h:l[k]?=some s)(hb:∀j,j<k→l[j]?≠some s):kT l s=k:=by
 have hk:=(eQ.1 h).1;have:l.idxOf? s=some k:=by
  unfold List.idxOf?;rw[List.findIdx?_eq_some_iff_getElem];refine⟨hk,by simpa using (eQ.1 h).2,fun j hj=>?_⟩;have:=hb j hj;rw[dO (by omega)]at this;simpa using this
 unfold kT;rw[this]
def QE(hb:∀j,j<l.length→l[j]?≠some s):kT l s=-1:=by
 have:l.idxOf? s=none:=by
  unfold List.idxOf?;rw[List.findIdx?_eq_none_iff];intro x hx;obtain⟨j,hj,rfl⟩:=List.getElem_of_mem hx;have:=hb j hj;rw[dO hj]at this;simpa using this
 unfold kT;rw[this]
def Hu(l:List ae)(s:ae):-1≤kT l s∧kT l s<l.length:=by
 unfold kT;cases h:l.idxOf? s with
 | none=>simp;omega
 | some k =>
   unfold List.idxOf? at h;rw[List.findIdx?_eq_some_iff_getElem]at h;obtain⟨hk,_⟩:=h;simp;omega
section
variable [Laid]
def Ep(l:List ae)(s:ae)(hl:l.length<2^40):bn p_ 143 [.sl 1 (L1 l),.str s] (i_ (kT l s)):=by
 refine (Zb _ _).bj (by simp only[aO,Aw.Pure,and_true];exact vU l) (by simp) ?_;unfold SB;refine zzf (n:=l.length) (by simp) fun _=>?_;refine aZ (α:=Nat) (fun k=>k≤l.length∧∀j,j<k→l[j]?≠some s) (fun k=>[i_ k]) (fun _=>[]) (fun k=>l.length-k) 0 ⟨aa2 _,fun j z=>absurd z (aa3 _)⟩ (Wk.refl _ _ _ (bY _)) ?_;rintro k ⟨hk,hb⟩;refine zzC ?_;rcases uP k l.length with q|q
 ·obtain⟨y,hy⟩:∃y,l[k]?=some y:=⟨_,dO q⟩;refine zzL (oF (by omega)) (zzb rfl rfl hy (zzW (zzI ?_)))
  by_cases e:s=y
  ·subst e;refine zzL (oF rfl) ?_;rw[QD hy hb];exact .pure (by simp) rfl
  ·refine zzK (nO e) (zzP (by unfold aJ;omega) (aq ?_));refine⟨k+1,⟨q,fun j hj=>?_⟩,Wk.refl _ _ _ (bY _),by omega⟩;rcases uP j k with z|z
   ·exact hb j z
   ·obtain rfl:j=k:=by omega
    rw[hy];exact fun z=>e (DO z).symm
 ·obtain rfl:k=l.length:=by omega
  refine zzK (by simp) ?_;rw[QE hb];exact .pure (by simp) rfl
def CK:bn p_ 53 [] (.sl 1 (L1 dY)):=by
 refine (Xh).bj (by simp[aO]) (vU _) ?_;unfold S6;have e:dP (gI 11 (bh (.str []))) [(0,1,(.str [108,105,110,107])),(1,1,(.str [118,105,115,105,116,101,100])),(2,1,(.str [97,110,121,45,108,105,110,107])),(3,1,(.str [114,111,111,116])),(4,1,(.str [101,109,112,116,121])),(5,1,(.str [110,116,104,45,99,104,105,108,100])),(6,1,(.str [110,116,104,45,108,97,115,116,45,99,104,105,108,100])),(7,1,(.str [105,115])),(8,1,(.str [119,104,101,114,101])),(9,1,(.str [110,111,116])),(10,1,(.str [104,97,115]))]=some (dY.map fun s=>.str s):=rfl;unfold bt;rw[e];show dI _ (.sl 1 (L1 dY)) _;exact .pure (vU dY) rfl
end
variable [bp]
def Nh(y:Vl):bn p_ 175 [.agg (jv y)] (b_ (ja y)):=by
 refine (Zm _).bj (by simp only[aO,Aw.Pure,and_true];exact Pt y) (by simp) ?_;unfold SM;have hsc:(jv y).all bG=true:=by rw[lF];simp[bG]
 refine bT (cs:=jv y) (n:=0) (h':=[.ak ⟨74,jv y,true⟩]) rfl hsc rfl rfl ?_;have h0:(jv y)[0+0+0]?=some (u8 y.kind):=by rw[lF];rfl
 have h1:(jv y)[0+0+1]?=some (.str y.text):=by rw[lF];rfl
 refine zzA (zzA (zzU (b:=⟨74,jv y,true⟩) rfl h0 (zzG (aF ?_))))
 by_cases c:y.kind=1
 ·refine zzN (oF c) (zzA (zzA (zzU (b:=⟨74,jv y,true⟩) rfl h1 (uCon (sU _ [111,102]) (zzR (.pure (by simp) ?_))))));have:decide (y.text.map bo.dX=([111,102]:ae).map bo.dX)=ja y:=by unfold ja;rw[oF c,Bool.true_and];rfl
  rw[←this];rfl
 ·refine zzM (nO c) (aQ (by simp[c]) (.pure (by simp) ?_));unfold ja;rw[nO c];rfl
def ofI(v:List Vl):Int:=match v.findIdx? ja with|some i=>(i:Int)|none=>-1
def P6(v:List Vl)(hl:v.length<2^40):bn p_ 174 [.sl 6 (cA v),.fn (.func 175) [] []] (i_ (ofI v)):=by
 refine (Zl _ _).bj (by simp[aO,Aw.Pure,lz]) (by simp) ?_;unfold SL;refine zzf (n:=v.length) (by simp[eA]) fun _=>?_;refine aZ (α:=Nat) (fun k=>k≤v.length∧∀j y,j<k→v[j]?=some y→ja y=false) (fun k=>[i_ k]) (fun _=>[]) (fun k=>v.length-k) 0 ⟨aa2 _,fun j y z=>absurd z (aa3 _)⟩ (Wk.refl _ _ _ (bY _)) ?_;rintro k ⟨hk,hb⟩;refine zzC ?_;rcases uP k v.length with q|q
 ·obtain⟨y,hy⟩:∃y,v[k]?=some y:=⟨_,dO q⟩;refine zzL (oF (by omega)) (zzb (eA v) rfl hy (zzY (by simp[lF]) (uCon (Nh y) ?_)));cases c:ja y with
  | true =>
    refine zzL rfl ?_;have:v.findIdx? ja=some k:=by
     rw[List.findIdx?_eq_some_iff_getElem];refine⟨q,by rw[(eQ.1 hy).2];exact c,fun j hj=>?_⟩;have:=hb j v[j] hj (dO (by omega));rw[this];decide
    unfold ofI;rw[this];exact .pure (by simp) rfl
  | false =>
    refine zzK rfl (zzP (by unfold aJ;omega) (aq ?_));refine⟨k+1,⟨q,fun j z hj hz=>?_⟩,Wk.refl _ _ _ (bY _),by omega⟩;rcases uP j k with w|w
    ·exact hb j z w hz
    ·obtain rfl:j=k:=by omega
     rw[hy]at hz;cases hz;exact c
 ·obtain rfl:k=v.length:=by omega
  refine zzK (by simp) ?_;have:v.findIdx? ja=none:=by
   rw[List.findIdx?_eq_none_iff];intro y hy;obtain⟨j,hj,rfl⟩:=List.getElem_of_mem hy;exact hb j _ hj (dO hj)
  unfold ofI;rw[this];exact .pure (by simp) rfl
def Nn(s:ae):bn p_ 106 [.str s] (atR (mB s)):=by
 refine (YP _).bj (by simp) (by simp only[aO,Aw.Pure,and_true];exact jR _) ?_;unfold Sa;refine bT (cs:=nS_ cM) (n:=0) (h':=[cV cM]) rfl rfl rfl rfl ?_;have ret:∀(s':Sm) (b:Bool),(s',b)=mB s→ao 9 (.op 0 0) (.agg (nS_ s')) [cV cM] fun g=>ah true 9 (.op 0 0) g fun r=>dI (atR (mB s)) (.ay [r,b_ b]) g:=by
  intro s' b e;refine uv (K:=fun r g=>dI (atR (mB s)) (.ay [r,b_ b]) g) rfl ?_;rw[←e];exact .pure (by simp only[aO,Aw.Pure,and_true];exact jR _) rfl
 refine uCon (jg s) ?_;have em:s.map dX=cg s:=rfl;rw[em];refine zzI ?_
 by_cases c1:cg s=[102,105,114,115,116,45,99,104,105,108,100]
 ·refine zzL (oF c1) (ba rfl (ba (cs:=nS_ (.mk 9 [] 0 [] false 0 1 false [])) rfl ?_));exact ret _ true (by unfold mB;rw[if_pos c1])
 refine zzK (nO c1) (zzI ?_)
 by_cases c2:cg s=[108,97,115,116,45,99,104,105,108,100]
 ·refine zzL (oF c2) (ba rfl (ba (cs:=nS_ (.mk 10 [] 0 [] false 0 1 false [])) rfl ?_));exact ret _ true (by unfold mB;rw[if_neg c1,if_pos c2])
 refine zzK (nO c2) ?_;have hw:mB s=(dx (4+max (kT dY (cg s)) 0) [],decide (0≤kT dY (cg s))&&decide (kT dY (cg s)<5)):=by unfold mB;rw[if_neg c1,if_neg c2]
 refine uCon CK (uCon (jg s) ?_);rw[em];refine uCon (Ep dY (cg s) (by decide)) ?_;have hi:=Hu dY (cg s);have h11:(dY.length:Int)=11:=rfl;obtain⟨i,he⟩:∃i,kT dY (cg s)=i:=⟨_,rfl⟩;rw[he]at hw hi ⊢;refine zzc (fk (m:=max i 0) rfl (by rw[IntKind.wrap_u8];omega) (xm (c:=4+max i 0) (by decide) rfl rfl (by rw[IntKind.wrap_u8];omega) (ba (cs:=nS_ (dx (4+max i 0) [])) rfl (zzF ?_))));refine mA (decide (0≤i)&&decide (i<5)) rfl (fun z=>by rw[z];rfl) (fun z F hF=>?_) (fun s hs=>lv hs ?_)
 ·refine zzC (aq ?_);rw[z,Bool.true_and]at hF;exact hF
 exact ret _ _ hw.symm
end
end Go.Proofs.YtpcnidmmkknndaaGreatDoor
section
namespace Go.bo
open Go Go.Aw
def Az(k:Int):Bool:=!(eO k||decide (k=13)||decide (k=14))
def ij(d:Nat)(has:Bool)(k:Int):Bool:=!(decide (d=3)||has&&decide (k=14))
def fi{α:Type}(p:α→Bool):List α→Nat→Int
 | [],_=>-1
 | x:: l,k=>if p x then (k:Int) else fi p l (k+1)
theorem vd{α:Type}(p:α→Bool):∀(l:List α) (k:Nat),decide (0≤fi p l k)=l.any p
 | [],k=>by simp[fi]
 | x:: l,k=>by
   rw[fi,List.any_cons,←vd p l (k+1)];cases p x<;>simp
def yy{α:Type}(p:α→Bool){l:List α}{k:Nat}{x:α}(h:l[k]?=some x):fi p (l.drop k) k=if p x then (k:Int) else fi p (l.drop (k+1)) (k+1):=by
 have hk:=(eQ.1 h);rw[abo hk.1,fi,hk.2]
end Go.bo
namespace Go.Proofs.YtpcnidmmkknndaaGreatDoor
open Go Go.Aw Go.bo
variable [Laid]
def CJ(k:Int)(n:ae)(o:Int)(v:ae)(f:Bool)(a b:Int)(w:Bool)(rows:List (List AV))(pr:cG rows):bn p_ 109 [.agg [u1 k,.str n,u1 o,.str v,b_ f,i_ a,i_ b,b_ w,.sl 3 rows]] (.ay [b_ (gw k w),b_ (Az k)]):=by
 refine (YS _).bj (by simp[pr]) (by simp) ?_;unfold Se;repeat' (first|(with_reducible apply aF)|(with_reducible apply aq)|((with_reducible apply bU);rfl;rfl)|((with_reducible apply au);rfl;first|rfl|assumption)|((with_reducible apply aH);rfl)|((with_reducible apply aD);rfl;rfl;rfl)|((with_reducible apply fo);first|rfl|simp)|((with_reducible apply cq);rfl)|(with_reducible intro _))
 all_goals refine .pure (by simp) ?_
 all_goals simp_all [gw,Az,eO]
 all_goals grind
def Ak(d:Nat)(has:Bool)(k:Int)(hd:d≤3):bn p_ 110 [.agg [i_ d,b_ has],u1 k] (.ay [.agg (if ij d has k then [i_ (d+1),b_ (has||decide (k=14))] else [i_ 0,ff]),b_ (ij d has k)]):=by
 refine (YT _ _).bj (by simp) (by split<;>simp) ?_;unfold Sg;have hin:aJ ((d:Int)+1):=by unfold aJ;omega
 repeat' (first|(with_reducible apply aF)|(with_reducible apply aq)|((with_reducible apply bU);rfl;rfl)|((with_reducible apply cm);rfl;rfl;first|assumption|(unfold aJ;omega))|((with_reducible apply aL);rfl)|((with_reducible apply aQ);rfl)|((with_reducible apply au);rfl;first|rfl|assumption)|((with_reducible apply aw);rfl;first|rfl|assumption)|((with_reducible apply bw);rfl;first|rfl|assumption)|((with_reducible apply bz);rfl;first|rfl|assumption)|((with_reducible apply dG);rfl)|((with_reducible apply aH);rfl)|((with_reducible apply aD);rfl;rfl;rfl)|((with_reducible apply dr);rfl;rfl;first|exact bY _|exact lT rfl)|((with_reducible apply fo);first|rfl|simp)|((with_reducible apply dT);rfl;rfl;rfl;rfl;(first|exact bY _|simp);(first|rfl|simp);(first|rfl|simp))|((with_reducible apply ba);rfl)|((with_reducible apply cq);rfl)|((with_reducible apply cD);rfl)|(with_reducible intro _))
 all_goals refine .pure (by simp) ?_
 all_goals simp_all [ij,bX]
 all_goals grind
def I9(xs:List Cx)(f:FuncId)(caps:List AV)(p:Cx→Bool)(pc:aO caps)(hb:dw p_ f=true)(hf:∀x∈xs,bn p_ f ([.agg (fJ x)]++caps) (b_ (p x))):
 bn p_ 47 [.sl 3 (bL xs),.fn (.func f) [] caps] (i_ (fi p xs 0)):=by
 refine (V47 _ _).bj (by simp[gH,pc]) (by simp) ?_;unfold XS;refine zzf (n:=xs.length) (by simp[cu]) fun hm=>?_;refine aZ (α:=Nat) (fun k=>k≤xs.length∧fi p xs 0=fi p (xs.drop k) k) (fun k=>[i_ k]) (fun _=>[]) (fun k=>xs.length-k) 0 (by simp) (Wk.refl _ _ _ (by simp)) ?_;rintro k ⟨hk,hI⟩;rcases uP k xs.length with q|q
 ·obtain⟨x,hx⟩:∃x,xs[k]?=some x:=⟨xs[k],dO q⟩;have hin:aJ ((k:Int)+1):=by unfold maxLen at hm;unfold aJ;omega
  rw[yy p hx]at hI;refine zzC (zzL (by simpa using q) (zzb (cu xs) rfl hx (zzY (by simp[jn]) ?_)));refine⟨hb, ?_⟩;refine (hf x (gE hx)).call ?_;cases hp:p x
  ·refine zzK rfl (zzP hin (aq ?_));refine⟨k+1,⟨q,by rw[hI,hp];rfl⟩,Wk.refl _ _ _ (by simp),by omega⟩
  ·refine zzL rfl ?_;exact .pure (by simp) (by rw[hI,hp];rfl)
 ·refine zzC (zzK (by simpa using q) ?_);exact .pure (by simp) (by rw[hI,List.drop_eq_nil_of_le q];rfl)
def wo(xs:List Cx)(f:FuncId)(caps:List AV)(p:Cx→Bool)(pc:aO caps)(hb:dw p_ f=true)(hf:∀x∈xs,bn p_ f ([.agg (fJ x)]++caps) (b_ (p x))):
 bn p_ 33 [.sl 3 (bL xs),.fn (.func f) [] caps] (b_ (xs.any p)):=by
 refine (V33 _ _).bj (by simp[gH,pc]) (by simp) ?_;unfold XF;refine uCon (I9 xs f caps p pc hb hf) (zzF ?_);rw[vd];exact .pure (by simp) rfl
def I8(xs:List Cp)(f:FuncId)(caps:List AV)(p:Cp→Bool)(pc:aO caps)(hb:dw p_ f=true)(hf:∀x∈xs,bn p_ f ([.agg (gR x)]++caps) (b_ (p x))):
 bn p_ 80 [.sl 2 (dn xs),.fn (.func f) [] caps] (i_ (fi p xs 0)):=by
 refine (V80 _ _).bj (by simp[si,pc]) (by simp) ?_;unfold Yk;refine zzf (n:=xs.length) (by simp[dv]) fun hm=>?_;refine aZ (α:=Nat) (fun k=>k≤xs.length∧fi p xs 0=fi p (xs.drop k) k) (fun k=>[i_ k]) (fun _=>[]) (fun k=>xs.length-k) 0 (by simp) (Wk.refl _ _ _ (by simp)) ?_;rintro k ⟨hk,hI⟩;rcases uP k xs.length with q|q
 ·obtain⟨x,hx⟩:∃x,xs[k]?=some x:=⟨xs[k],dO q⟩;have hin:aJ ((k:Int)+1):=by unfold maxLen at hm;unfold aJ;omega
  rw[yy p hx]at hI;refine zzC (zzL (by simpa using q) (zzb (dv xs) rfl hx (zzY (by simp[ri]) ?_)));refine⟨hb, ?_⟩;refine (hf x (gE hx)).call ?_;cases hp:p x
  ·refine zzK rfl (zzP hin (aq ?_));refine⟨k+1,⟨q,by rw[hI,hp];rfl⟩,Wk.refl _ _ _ (by simp),by omega⟩
  ·refine zzL rfl ?_;exact .pure (by simp) (by rw[hI,hp];rfl)
 ·refine zzC (zzK (by simpa using q) ?_);exact .pure (by simp) (by rw[hI,List.drop_eq_nil_of_le q];rfl)
def Dt(xs:List Cp)(f:FuncId)(caps:List AV)(p:Cp→Bool)(pc:aO caps)(hb:dw p_ f=true)(hf:∀x∈xs,bn p_ f ([.agg (gR x)]++caps) (b_ (p x))):
 bn p_ 48 [.sl 2 (dn xs),.fn (.func f) [] caps] (b_ (xs.any p)):=by
 refine (V48 _ _).bj (by simp[si,pc]) (by simp) ?_;unfold XT;refine uCon (I8 xs f caps p pc hb hf) (zzF ?_);rw[vd];exact .pure (by simp) rfl
end Go.Proofs.YtpcnidmmkknndaaGreatDoor
end
namespace Go.Proofs.YtpcnidmmkknndaaGreatDoor
section
open Go Go.Aw Go.dD Go.RowKit
open Go.bo hiding u1 ae
def dm(d:Nat)(has:Bool):Sub:=fun kd v rel forg=>if ij d has kd=true then some (kz (3-(d+1)) (has||decide (kd=14)) v rel forg) else none
def nw(hd:d≤3)(has:Bool)(v:List Vl)(rel forg:Bool):kz (3-d) has v rel forg=fu (kE (iz (dm d has)) (cN d has) rel) forg (dR v) []:=by
 by_cases h:d=3
 ·subst h;have:dm 3 has=fun _ _ _ _=>none:=by
   funext kd v rel forg
   unfold dm ij;simp
  rw[this];rfl
 ·obtain⟨k,hk⟩:∃k,3-d=k+1:=⟨3-d-1,by omega⟩;have hs:(fun kd v rel forg=>if has=true∧kd=14 then none else some (kz k (has||decide (kd=14)) v rel forg))=dm d has:=by
   funext kd v rel forg
   unfold dm ij;have e:3-(d+1)=k:=by omega
   rw[e]
   by_cases q:has=true∧kd=14
   ·rw[if_pos q,if_neg (by simp[q.1,q.2])]
   ·rw[if_neg q,if_pos];cases hb:has with
    | false=>simp[h]
    | true =>
      have:¬kd=14:=fun a=>q ⟨hb,a⟩;simp[h,this]
  rw[hk,kz,hs];have e2:3-(k+1)=d:=by omega
  rw[e2]
/-! ### How great -/
def eK(v:Vl)(l:List Vl):bV (v:: l)=zV v+bV l:=by rw[bV]
def tK(v:Vl):zV v=1+v.text.length+v.unit.length+bV v.list:=by cases v;rw[zV];rfl
def rE(h:r <:+ v):bV r≤bV v:=by
 obtain⟨p,rfl⟩:=h;rw[mO];omega
def uL(h:x∈v):zV x≤bV v:=by
 obtain⟨a,b,rfl⟩:=List.append_of_mem h;rw[mO,eK];omega
def B0(s:ae):(cg s).length=s.length:=by unfold cg;simp
def D4(sub:Sub):Prop:=∀kd v rel forg r,sub kd v rel forg=some r→cQ r.1≤3*bV v
def rD(k:Int)(n:ae):zS (dx k n)=1+n.length:=by unfold dx;rw[zS,cQ];simp
def Ur{sub:Sub}(hs:D4 sub)(k:Int)(v:List Vl):zS (vC sub k v).1≤1+3*bV v:=by
 have hB:∀w l q,zS (sd k w l q).1=1+cQ l:=fun w l q=>by
  unfold sd;split
  ·split<;>(rw[zS];simp)
  ·rw[zS];simp
 unfold vC;split
 ·rename_i i _;split
  ·rename_i l h;rw[hB];have:=hs _ _ _ _ _ h;have h2:=rE (List.drop_suffix (i+1) v);dsimp only at this;omega
  ·dsimp only;rw[rD];simp<;>omega
 ·rw[hB];simp[cQ]<;>omega
def Jk{sub:Sub}(hs:D4 sub)(s:ae)(v:List Vl):zS (iz sub s v).1≤1+3*bV v:=by
 unfold iz;dsimp only;split
 ·rw[rD];simp<;>omega
 ·split
  ·exact Ur hs _ v
  ·split
   ·dsimp only;rw[rD];simp<;>omega
   ·rename_i l b h;have:=hs _ _ _ _ _ h;rw[zS];simp at this ⊢;omega
def uE(r:List Vl):bV (cv r)≤bV r:=by
 induction r with
 | nil=>exact bY _
 | cons x r ih =>
   rw[cv];split
   ·rw[eK];omega
   ·exact bY _
def VT(v:List Vl):zS (lO v).1≤1+2*bV v:=by
 have hA:∀n o w f,zS (eH n o w f)=1+n.length+w.length:=fun n o w f=>by unfold eH;rw[zS,cQ];omega
 have h3:∀n o w q,zS (GQ n o w q).1=1+n.length+w.length:=fun n o w q=>by
  cases q with
  | nil=>exact hA _ _ _ _
  | cons f r=>rw[GQ];split<;>exact hA _ _ _ _
 have h2:∀n o q,zS (yp n o q).1≤1+n.length+bV q:=fun n o q=>by
  cases q with
  | nil=>rw[yp,hA];simp
  | cons t r =>
    rw[yp];have:=tK t;split
    ·rw[h3,eK];omega
    ·rw[hA];simp<;>omega
 have hb:∀c q r,jr c q=some r→bV r≤bV q:=fun c q r h=>by
  cases q with
  | nil=>cases h
  | cons x q =>
    rw[jr]at h;split at h
    ·cases h;rw[eK];omega
    ·cases h
 have h1:∀n q,zS (qw n q).1≤1+n.length+bV q:=fun n q=>by
  cases q with
  | nil=>rw[qw,hA];simp
  | cons t r =>
    rw[qw];split
    ·rename_i r' e;have:=h2 n 1 (cv r');have:=uE r';have:=hb _ _ _ e;omega
    ·split
     ·split
      ·rename_i r' e;have:=h2 n (2+Lib.index pf t.text) (cv r');have:=uE r';have:=hb _ _ _ e;rw[eK];omega
      ·rw[hA];simp<;>omega
     ·rw[hA];simp<;>omega
 unfold lO;have hsk:=uE v;cases e:cv v with
 | nil=>dsimp only;rw[hA];simp<;>omega
 | cons t r =>
   rw[e,eK]at hsk;have:=tK t;dsimp only;split
   ·have h:=h1 (cg t.text) (cv r);have:=uE r;rw[B0]at h;omega
   ·rw[hA,B0];simp<;>omega
def Xe(s:ae):zS (mB s).1=1:=by
 unfold mB;split
 ·rw[zS,cQ];rfl
 ·split
  ·rw[zS,cQ];rfl
  ·rw[rD];rfl
theorem PA{fn:ae→List Vl→Sm×Bool}(hf:∀s v,zS (fn s v).1≤1+3*bV v):∀(n:Nat) (v:List Vl) (ss:List Sm) (r:List Vl),v.length≤n→di fn v=some (ss,r)→gL ss+3*bV r+(if ss=[] then 0 else 2)≤3*bV v∧r <:+ v
 | n,[],ss,r,_,h=>by rw[di]at h;cases h;exact⟨by simp[gL],List.suffix_refl _⟩
 | 0,t:: q,ss,r,hn,h=>by simp at hn
 | n+1,t:: q,ss,r,hn,h=>by
   have hzt:=tK t;have step:∀(x:Sm) (q':List Vl),q' <:+ (t:: q)→q'.length≤n→iI x (di fn q')=some (ss,r)→zS x+2+3*bV q'≤3*bV (t:: q)→gL ss+3*bV r+(if ss=[] then 0 else 2)≤3*bV (t:: q)∧r <:+ (t:: q):=by
    intro x q' hs hl e hz;cases e2:di fn q' with
    | none=>rw[e2]at e;cases e
    | some y =>
      obtain⟨s2,r2⟩:=y;rw[e2]at e;cases e;have ih:=PA hf n q' s2 r hl e2;rw[if_neg (by simp),gL];exact⟨by omega,ih.2.trans hs⟩
   have hq1:q.length≤n:=by simp at hn;omega
   have hsq:q <:+ (t:: q):=List.suffix_cons _ _;rw[di.eq_def]at h;dsimp only at h;split at h
   ·split at h
    ·exact step _ q hsq hq1 h (by rw[rD,eK];omega)
    ·cases h
   ·split at h
    ·cases q with
     | nil=>cases h
     | cons u q2 =>
       have hzu:=tK u;dsimp only at h;split at h
       ·exact step _ q2 ((List.suffix_cons _ _).trans hsq) (by simp at hq1;omega) h (by rw[rD,eK,eK];omega)
       ·cases h
    ·split at h
     ·split at h
      ·have:=VT t.list;exact step _ q hsq hq1 h (by rw[eK];omega)
      ·cases h
     ·split at h
      ·cases q with
       | nil=>cases h
       | cons u q2 =>
         have hzu:=tK u;dsimp only at h;have hs2:q2 <:+ (t:: u:: q2):=(List.suffix_cons _ _).trans hsq;split at h
         ·split at h
          ·exact step _ q2 hs2 (by simp at hq1;omega) h (by rw[Xe,eK,eK];omega)
          ·cases h
         ·split at h
          ·split at h
           ·have:=hf u.text u.list;exact step _ q2 hs2 (by simp at hq1;omega) h (by rw[eK,eK];omega)
           ·cases h
          ·cases h
      ·cases h;exact⟨by simp[gL],List.suffix_refl _⟩
def Ej(r:List Vl):(kv r).2 <:+ r:=by
 have hs:∀r:List Vl,cv r <:+ r:=fun r=>by
  induction r with
  | nil=>exact List.suffix_refl _
  | cons x r ih =>
    rw[cv];split
    ·exact ih.trans (List.suffix_cons _ _)
    ·exact List.suffix_refl _
 have key:∀{c:UInt8} {r':List Vl},jr c r=some r'→cv r' <:+ r:=fun {c r'} h=>by
  cases r with
  | nil=>cases h
  | cons x q =>
    rw[jr]at h;split at h
    ·cases h;exact (hs _).trans (List.suffix_cons _ _)
    ·cases h
 unfold kv;split
 ·rename_i h;exact key h
 ·split
  ·rename_i h;exact key h
  ·split
   ·rename_i h;exact key h
   ·exact List.suffix_refl _
def L6(v:List Vl):(ep v).1.length+3*bV (ep v).2+(if (ep v).1=[] then 0 else 2)≤3*bV v∧(ep v).2 <:+ v:=by
 cases v with
 | nil=>exact⟨by simp[ep],List.suffix_refl _⟩
 | cons t r =>
   have hz:=tK t;rw[ep];split
   ·refine⟨?_,List.suffix_cons _ _⟩;dsimp only;rw[B0,eK];split<;>omega
   ·split
    ·rename_i r' e;rw[jr]at e;split at e
     ·rename_i q;cases e;refine⟨?_,List.suffix_cons _ _⟩;dsimp only;have:=congrArg List.length q.2;rw[eK];simp at this ⊢;omega
     ·cases e
    ·exact⟨by simp,List.suffix_refl _⟩
def zO(ps:List Cp)(p:Cp):gh (ps++[p])=gh ps+zP p:=by
 induction ps with
 | nil=>simp[gh]
 | cons q ps ih=>rw[abv,gh,gh,ih];omega
def zv{has:Bool}{ss:List Sm}(h:cN d has (.mk t ss)=true):t≠[]∨ss≠[]:=by
 rw[cN]at h
 by_cases ht:t=[]
 ·right;intro e;subst ht;subst e;simp at h
 ·exact .inl ht
def Ps{fn:ae→List Vl→Sm×Bool}(hf:∀s v,zS (fn s v).1≤1+3*bV v){ss:List Sm}(h:di fn (ep v).2=some (ss,r)):zP (.mk (ep v).1 ss)+3*bV r+(if (ep v).1=[]∧ss=[] then 0 else 1)≤3*bV v+1∧r <:+ v∧((ep v).1≠[]∨ss≠[]→zP (.mk (ep v).1 ss)+3*bV r+1≤3*bV v):=by
 obtain⟨h1,h2⟩:=L6 v;obtain⟨h3,h4⟩:=PA hf _ _ _ _ (bY _) h;rw[zP];refine⟨?_,h4.trans h2,fun q=>?_⟩
 ·by_cases a:(ep v).1=[]<;>by_cases b:ss=[]<;>simp only[a,b,if_true,if_false,and_true,true_and,and_false,false_and]at h1 h3⊢<;> omega
 ·by_cases a:(ep v).1=[]
  ·have b:ss≠[]:=q.resolve_left fun z=>z a;rw[if_pos a]at h1;rw[if_neg b]at h3;omega
  ·rw[if_neg a]at h1;omega
theorem Ar{fn:ae→List Vl→Sm×Bool}(hf:∀s v,zS (fn s v).1≤1+3*bV v){has:Bool}(lead:Int):∀(n:Nat) (ps:List Cp) (cs:List Int) (v:List Vl),(jt fn (cN d has) lead n ps cs v).2=true→zX (jt fn (cN d has) lead n ps cs v).1≤3*bV v+cs.length+gh ps
 | 0,ps,cs,v,h=>by rw[jt]at h;cases h
 | n+1,ps,cs,v,h=>by
   rw[jt]at h ⊢;cases e:di fn (ep v).2 with
   | none=>rw[e]at h;cases h
   | some y =>
     obtain⟨ss,r⟩:=y;rw[e]at h;dsimp only at h ⊢
     by_cases ho:cN d has (.mk (ep v).1 ss)=true
     ·rw[if_pos ho]at h ⊢;have h1:=(Ps hf e).2.2 (zv ho)
      by_cases q:cv r=[]
      ·rw[if_pos q]at h ⊢;dsimp only;rw[zX,zO];omega
      ·rw[if_neg q]at h ⊢;have hc:=rE (Ej (cv r));have hs:=uE r
       by_cases q2:(kv (cv r)).1=0
       ·rw[if_pos q2]at h ⊢
        by_cases q3:(cv r).length=r.length
        ·rw[if_pos q3]at h;cases h
        ·rw[if_neg q3]at h ⊢;have:=Ar hf lead n _ _ _ h;rw[zO]at this;simp only[AT,aaP,abr]at this;omega
       ·rw[if_neg q2]at h ⊢;have:=Ar hf lead n _ _ _ h;rw[zO]at this;simp only[AT,aaP,abr]at this;omega
     ·rw[if_neg ho]at h;cases h
def O8{fn:ae→List Vl→Sm×Bool}(hf:∀s v,zS (fn s v).1≤1+3*bV v){has:Bool}(rel:Bool)(v:List Vl)(h:(kE fn (cN d has) rel v).2=true):zX (kE fn (cN d has) rel v).1≤3*bV v:=by
 have hs:=uE v;have hc:=rE (Ej (cv v));unfold kE at h ⊢;dsimp only at h ⊢;split
 ·rename_i q;rw[if_pos q]at h;have:=Ar hf _ _ _ _ _ h;simp[gh]at this;omega
 ·rename_i q;rw[if_neg q]at h;have:=Ar hf _ _ _ _ _ h;simp[gh]at this;omega
def wg(l:List (List Vl)):Nat:=(l.map bV).sum
theorem xk:∀v:List Vl,wg (dR v)≤bV v∧dR v≠[]
 | []=>by simp[dR,wg,bV]
 | x:: v=>by
   obtain⟨h1,h2⟩:=xk v;rw[dR];split
   ·refine⟨?_,by simp⟩;show bV []+wg (dR v)≤_;rw[eK,bV];omega
   ·cases e:dR v with
    | nil=>exact absurd e h2
    | cons a t =>
      rw[e]at h1;refine⟨?_,by simp⟩;have h1:bV a+wg t≤bV v:=h1;show bV (x:: a)+wg t≤_;rw[eK,eK];omega
def OU(l:List Cx)(x:Cx):cQ (l++[x])=cQ l+zX x:=by
 induction l with
 | nil=>simp[cQ]
 | cons y l ih=>rw[abv,cQ,cQ,ih];omega
theorem Bj{cp:List Vl→Cx×Bool}(hc:∀v,(cp v).2=true→zX (cp v).1≤3*bV v)(forg:Bool):∀(ps:List (List Vl)) (acc:List Cx),cQ (fu cp forg ps acc).1≤cQ acc+3*wg ps
 | [],acc=>by rw[fu];simp[wg]
 | p:: ps,acc=>by
   have e:wg (p:: ps)=bV p+wg ps:=rfl;rw[fu];split
   ·rename_i q;have:=Bj hc forg ps (acc++[(cp p).1]);have:=hc p q;rw[OU]at *;omega
   ·split
    ·have:=Bj hc forg ps acc;omega
    ·simp[cQ]
def Pu:∀(k:Nat) (has:Bool) (v:List Vl) (rel forg:Bool),k≤3→cQ (kz k has v rel forg).1≤3*bV v:=by
 intro k;induction k with
 | zero =>
   intro has v rel forg _;have h:=nw (d:=3) (bY _) has v rel forg;rw[show 3-3=0 from rfl]at h;rw[h];have hsb:D4 (dm 3 has):=fun kd v rel forg r hr=>by unfold dm ij at hr;simp at hr
   have:=Bj (cp:=kE (iz (dm 3 has)) (cN 3 has) rel) (fun v hv=>O8 (fun s v=>Jk hsb s v) rel v hv) forg (dR v) [];have h2:=(xk v).1;simp[cQ]at this;omega
 | succ k ih =>
   intro has v rel forg hk;have h:=nw (d:=3-(k+1)) (by omega) has v rel forg;rw[show 3-(3-(k+1))=k+1 by omega]at h;rw[h];have hsb:D4 (dm (3-(k+1)) has):=fun kd v rel forg r hr=>by
    unfold dm at hr;split at hr
    ·cases hr;rw[show 3-(3-(k+1)+1)=k by omega];exact ih _ _ _ _ (by omega)
    ·cases hr
   have:=Bj (cp:=kE (iz (dm (3-(k+1)) has)) (cN (3-(k+1)) has) rel) (fun v hv=>O8 (fun s v=>Jk hsb s v) rel v hv) forg (dR v) [];have h2:=(xk v).1;simp only[cQ,aa4]at this;omega
def Vf(d:Nat)(has:Bool):D4 (dm d has):=fun kd v rel forg r hr=>by
 unfold dm at hr;split at hr
 ·cases hr;exact Pu _ _ _ _ _ (by omega)
 ·cases hr
end
end Go.Proofs.YtpcnidmmkknndaaGreatDoor
section
namespace Go.bo
open Go Go.Aw
theorem py:∀{l:List Cp},p∈l→zP p≤gh l
 | x:: l,h=>by
   rcases ID.1 h with rfl|h
   ·rw[gh];omega
   ·rw[gh];have:=py h;omega
theorem pA:∀{l:List Sm},p∈l→zS p≤gL l
 | x:: l,h=>by
   rcases ID.1 h with rfl|h
   ·rw[gL];omega
   ·rw[gL];have:=pA h;omega
theorem mQ:∀{l:List Cx},p∈l→zX p≤cQ l
 | x:: l,h=>by
   rcases ID.1 h with rfl|h
   ·rw[cQ];omega
   ·rw[cQ];have:=mQ h;omega
def Gj(x:Cx):0<zX x:=by cases x;rw[zX];omega
def Gh(x:Cp):0<zP x:=by cases x;rw[zP];omega
def Gi(x:Sm):0<zS x:=by cases x;rw[zS];omega
theorem rC:∀l:List Cp,l.length≤gh l
 | []=>by simp
 | x:: l=>by rw[gh];have:=rC l;have:=Gh x;simp;omega
theorem pz:∀l:List Sm,l.length≤gL l
 | []=>by simp
 | x:: l=>by rw[gL];have:=pz l;have:=Gi x;simp;omega
theorem rF:∀l:List Cx,l.length≤cQ l
 | []=>by simp
 | x:: l=>by rw[cQ];have:=rF l;have:=Gj x;simp;omega
end Go.bo
namespace Go.Proofs.YtpcnidmmkknndaaGreatDoor
open Go Go.Aw Go.bo
variable [Laid]
def JX(n:Nat):Prop:=∀x:Cx,zX x≤n→∀(d:Nat) (has rel:Bool),d≤3→bn p_ 35 [.agg (fJ x),.agg [i_ d,b_ has],b_ rel] (b_ (eS d has rel x))
def OV(n:Nat):Prop:=∀p:Cp,zP p≤n→∀(d:Nat) (has:Bool),d≤3→bn p_ 50 [.agg (gR p),.agg [i_ d,b_ has]] (b_ (cN d has p))
def RR(n:Nat):Prop:=∀s:Sm,zS s≤n→∀(d:Nat) (has:Bool),d≤3→bn p_ 82 [.agg (du s),.agg [i_ d,b_ has]] (b_ (ic d has s))
def Jf(hP:OV n)(p:Cp)(hz:zP p≤n)(d:Nat)(has:Bool)(hd:d≤3):bn p_ 49 [.agg (gR p),.ip [i_ d,b_ has]] (b_ (!cN d has p)):=by
 refine (V49 _ _).bj (by simp[DL]) (by simp) ?_;unfold XU;refine fo (by rw[ri];rfl) (zzV rfl (by simp[ri]) (zzY rfl (oI (by simp[ri]) (by kernel_rfl) (hP p hz d has hd) (zzO ?_))));exact .pure (by simp) rfl
omit [Laid] in
def HO(d:Nat)(has rel:Bool)(l:Int)(ps:List Cp)(cs:List Int)(h:¬((rel == !decide (l=0))=true∧l≤4∧cs.length+1=ps.length∧ps.length≤64)):eS d has rel (.mk l ps cs)=false:=by
 rw[eS];grind
def M4(hn:n<2^60)(hP:OV n):JX (n+1):=by
 rintro⟨l,ps,cs⟩ hz d has rel hd;rw[zX]at hz;refine (V35 _ _ _).bj (by simp[x6]) (by simp) ?_;unfold XH;rw[fJ];have hc:aJ (((cs.map fun c=>[u1 c]).length:Int)+1):=by rw[aaQ];unfold aJ;omega
 have hlen:(dn ps).length=ps.length:=by simp[dv]
 repeat' (first|(with_reducible apply aF)|(with_reducible apply aq)|((with_reducible first|apply fc|apply dB);rfl;rfl)|((with_reducible apply J6);rfl;rfl)|((with_reducible apply cm);rfl;rfl;first|assumption|(unfold aJ;omega))|((with_reducible apply aL);rfl)|((with_reducible apply aQ);rfl)|((with_reducible apply au);rfl;first|rfl|assumption)|((with_reducible apply bz);rfl;first|rfl|assumption)|((with_reducible apply fy);rfl)|((with_reducible apply aH);rfl)|((with_reducible apply aD);rfl;rfl;rfl)|((with_reducible apply fo);first|rfl|simp)|((with_reducible apply cU);rfl;(first|rfl|simp);intro _)|((with_reducible apply cq);rfl)|((with_reducible apply cD);rfl)|(with_reducible intro _))
 rotate_left
 -- the combinators,one by one
 ·rename_i a1 a2 a3 a4 a5 a6 a7 a8;have b1:(rel == !decide (l=0))=true:=by simpa using a1
  have b2:l≤4:=by simpa using a2
  have b3:cs.length+1=ps.length:=by rw[hlen]at a5;simp at a5;omega
  have b4:ps.length≤64:=by rw[hlen]at a7;simp at a7;omega
  refine aZ (α:=Nat) (fun k=>k≤cs.length∧(cs.take k).all (fun c=>decide (1≤c∧c≤4))=true) (fun k=>[i_ k]) (fun _=>[.ak ⟨39,[u1 l,.sl 2 (dn ps),.sl 1 (cs.map fun c=>[u1 c])],true⟩,.ak ⟨80,[i_ d,b_ has],true⟩]) (fun k=>cs.length-k) 0 (by simp) (Wk.refl _ _ _ (by simp)) ?_;rintro k ⟨hk,hI⟩;rcases uP k cs.length with q|q
  ·obtain⟨c,hx⟩:∃c,cs[k]?=some c:=⟨cs[k],dO q⟩;have hin:aJ ((k:Int)+1):=by unfold aJ;omega
   have nxt:(cs.take (k+1)).all (fun c=>decide (1≤c∧c≤4))=decide (1≤c∧c≤4):=by
    rw[By,hx,List.all_append,hI];simp
   have bad:¬(1≤c∧c≤4)→eS d has rel (.mk l ps cs)=false:=by
    intro hb;rw[eS];have:cs.all (fun c=>decide (1≤c∧c≤4))=false:=by
     rw[List.all_eq_false];exact⟨c,gE hx,by simpa using hb⟩
    rw[this];simp
   refine zzC (zzL (by simpa using q) (zzb rfl rfl hx ?_));repeat' (first|(with_reducible apply aF)|(with_reducible apply aq)|((with_reducible first|apply cH|apply fc);rfl;rfl)|((with_reducible apply cm);rfl;rfl;first|assumption|(unfold aJ;omega))|((with_reducible apply aL);rfl)|((with_reducible apply aQ);rfl)|((with_reducible apply au);rfl;first|rfl|assumption)|((with_reducible apply de);rfl)|((with_reducible apply cq);rfl)|((with_reducible apply cD);rfl)|(with_reducible intro _))
   all_goals first
    | exact .pure (by simp) (by rw[bad (by simp_all;try omega)])
    | exact⟨k+1,⟨q,by rw[nxt];simp_all;try omega⟩,Wk.refl _ _ _ (by simp),by omega⟩
  ·have hk:k=cs.length:=by omega
   subst hk;rw[BY]at hI;refine zzC (zzK (by simp) (zzA (zzU rfl rfl (wU (by kernel_rfl) (Dt ps 49 [.ip [i_ d,b_ has]] (fun p=>!cN d has p) (by simp[aO,Aw.Pure]) (by kernel_rfl) (fun p hp=>Jf hP p (by have:=py hp;omega) d has hd)) (by simp only[GO,List.map_nil,jS];exact⟨by rw[Cr _ _ _ _ (by simp[si])];exact Le.refl _,by simp[tl,eP,nU],trivial⟩) (by simp) (zzO (.pure (by simp) ?_))))));rw[eS,ml,hI,b1];simp[b2,b3,b4,List.any_eq_not_all_not]
 all_goals refine .pure (by simp) ?_
 all_goals rw[HO _ _ _ _ _ _ (by rw[aaQ,hlen]at *;grind)]
end Go.Proofs.YtpcnidmmkknndaaGreatDoor
end
namespace Go.Proofs.YtpcnidmmkknndaaGreatDoor
section
open Go Go.Aw Go.bo
variable [Laid]
def M1(hn:n<2^60)(hS:RR n):OV (n+1):=by
 rintro⟨t,ss⟩ hz d has hd;rw[zP]at hz;refine (V50 _ _).bj (by simp[DL]) (by simp) ?_;unfold XV;rw[gR];have hlen:(dQ ss).length=ss.length:=by simp[dE]
 have hsl:=pz ss;repeat' (first|(with_reducible apply aF)|(with_reducible apply aq)|((with_reducible apply fc);rfl;rfl)|((with_reducible apply jT);rfl;rfl)|((with_reducible apply dU);rfl)|((with_reducible apply aL);rfl)|((with_reducible apply aQ);rfl)|((with_reducible apply au);rfl;first|rfl|assumption)|((with_reducible apply bw);rfl;first|rfl|assumption)|((with_reducible apply bz);rfl;first|rfl|assumption)|((with_reducible apply fy);rfl)|((with_reducible apply aH);rfl)|((with_reducible apply aD);rfl;rfl;rfl)|((with_reducible apply fo);first|rfl|simp)|((with_reducible apply cU);rfl;(first|rfl|simp);intro _)|(refine uCon (wO _) ?_)|((with_reducible apply cq);rfl)|((with_reducible apply cD);rfl)|(with_reducible intro _))
 all_goals first
  | (refine .pure (by simp) ?_
     have:cN d has (.mk t ss)=false:=by rw[cN];grind
     rw[this])
  | (have b1:(decide (t=[])||decide (t=[42])||small t)=true:=by grind
     have b2:ss.length≤64:=by grind
     refine aZ (α:=Nat) (fun k=>k≤ss.length∧(ss.take k).all (ic d has)=true) (fun k=>[i_ k]) (fun _=>[.ak ⟨42,[.str t,.sl 9 (dQ ss)],true⟩,.ak ⟨80,[i_ d,b_ has],true⟩]) (fun k=>ss.length-k) 0 (by simp) (Wk.refl _ _ _ (by simp)) ?_;rintro k ⟨hk,hI⟩;rcases uP k ss.length with q|q
     ·obtain⟨s,hx⟩:∃s,ss[k]?=some s:=⟨ss[k],dO q⟩;have hin:aJ ((k:Int)+1):=by unfold aJ;omega
      have nxt:(ss.take (k+1)).all (ic d has)=ic d has s:=by
       rw[By,hx,List.all_append,hI];simp
      have bad:ic d has s=false→cN d has (.mk t ss)=false:=by
       intro hb;rw[cN,kU];have:ss.all (ic d has)=false:=by
        rw[List.all_eq_false];exact⟨s,gE hx,by simp[hb]⟩
       rw[this];simp
      have hzs:zS s≤n:=by have:=pA (gE hx);omega
      refine zzC (zzL (by rw[hlen];simpa using q) (zzb (dE ss) rfl hx (zzY (by simp[mG]) (fo rfl (dT (cs:=du s) rfl rfl rfl rfl (by simp[mG]) (by simp[mG]) (by simp[mG]) ?_)))));have hset:bX (bh (.agg [(u8 0),(.str []),(u8 0),(.str []),ff,(i_ 0),(i_ 0),ff,(.v (.slice none 0 0))])) 0 (du s)=du s:=by rw[mG];rfl
      rw[hset];refine zzV rfl (by simp[mG]) (zzV rfl (bY _) (oI (by simp[mG]) (by kernel_rfl) (hS s hzs d has hd) ?_));repeat' (first|(with_reducible apply aq)|((with_reducible apply cm);rfl;rfl;first|assumption|(unfold aJ;omega))|((with_reducible apply dU);rfl)|((with_reducible apply jl);rfl)|((with_reducible apply cq);rfl)|(with_reducible intro _))
      all_goals first
       | exact .pure (by simp) (by rw[bad (by simp_all)])
       | exact⟨k+1,⟨q,by rw[nxt];simp_all⟩,Wk.back (M:=2) (by simp) (by simp) rfl (by simp) (by simp[rQ];exact⟨kQ _ _ (by simp[xc]),kQ _ _ (by simp)⟩) (by simp[Bd]),by omega⟩
     ·have hk:k=ss.length:=by omega
      subst hk;rw[BY]at hI;refine zzC (zzK (by rw[hlen];simp) ?_);repeat' (first|(with_reducible apply aF)|((with_reducible apply fc);rfl;rfl)|((with_reducible apply jT);rfl;rfl)|((with_reducible apply aL);rfl)|((with_reducible apply aQ);rfl)|((with_reducible apply bw);rfl;first|rfl|assumption)|((with_reducible apply bz);rfl;first|rfl|assumption)|((with_reducible apply fy);rfl)|((with_reducible apply aH);rfl)|((with_reducible apply aD);rfl;rfl;rfl)|((with_reducible apply cU);rfl;(first|rfl|simp);intro _))
      all_goals refine .pure (by simp) ?_
      all_goals rw[cN,kU,hI,b1]
      all_goals cases ss<;>simp_all [dQ])
def P4(d:Nat)(has:Bool)(k:Int)(hd:d≤3)(hq:ij d has k=true):bn p_ 110 [.agg [i_ d,b_ has],u1 k] (.ay [.agg [i_ (d+1),b_ (has||decide (k=14))],tt]):=by
 have:=Ak d has k hd;rw[hq]at this;simpa using this
def P3(d:Nat)(has:Bool)(k:Int)(hd:d≤3)(hq:ij d has k=false):bn p_ 110 [.agg [i_ d,b_ has],u1 k] (.ay [.agg [i_ 0,ff],ff]):=by
 have:=Ak d has k hd;rw[hq]at this;simpa using this
def Gp(hX:JX n)(x:Cx)(hz:zX x≤n)(d:Nat)(has:Bool)(hd:d≤3)(k:Int)(r:List AV)(pr:aO r):bn p_ 111 [.agg (fJ x),.ip [i_ d,b_ has],.ip (u1 k:: r)] (b_ (!eS d has (decide (k=14)) x)):=by
 refine (YU _ _ _).bj (by simp[x6,pr]) (by simp) ?_;unfold Si;refine fo (by rw[jn];rfl) (zzV rfl (by simp[jn]) (zzY rfl (zzX (zzW (zzG (oI (by simp[jn]) (by kernel_rfl) (hX x hz d has (decide (k=14)) hd) (zzO ?_)))))));exact .pure (by simp) rfl
def Gq(hX:JX n)(l:List Cx)(hz:cQ l≤n)(d:Nat)(has:Bool)(hd:d≤3)(k:Int)(r:List AV)(pr:aO r):bn p_ 33 [.sl 3 (bL l),.fn (.func 111) [] [.ip [i_ d,b_ has],.ip (u1 k:: r)]] (b_ (!cX d has (decide (k=14)) l)):=by
 have:=wo l 111 [.ip [i_ d,b_ has],.ip (u1 k:: r)] (fun x=>!eS d has (decide (k=14)) x) (by simp[aO,Aw.Pure,pr]) (by kernel_rfl) (fun x hx=>Gp hX x (by have:=mQ hx;omega) d has hd k r pr);rw[kV,show (!l.all (eS d has (decide (k=14))))=l.any (fun x=>!eS d has (decide (k=14)) x) by simp[List.any_eq_not_all_not]];exact this
omit [Laid] in
def Lj(d:Nat)(has:Bool)(k:Int)(n:ae)(o:Int)(v:ae)(f:Bool)(a b:Int)(w:Bool)(l:List Cx):ic d has (.mk k n o v f a b w l)=(jq k n o v f a b w&&(if gw k w then ij d has k&&(nF k||!decide (l.length=0))&&cX (d+1) (has||decide (k=14)) (decide (k=14)) l else decide (l.length=0))):=by
 rw[ic];have:l.isEmpty=decide (l.length=0):=by cases l<;>simp
 rw[this];unfold ij
 grind
def M3(hX:JX n):RR (n+1):=by
 rintro⟨k,na,o,v,f,a,b,w,l⟩ hz d has hd;rw[zS]at hz;refine (V82 _ _).bj (by simp[DM]) (by simp) ?_;unfold Ym;rw[du,Lj];have hlen:(bL l).length=l.length:=by simp[cu]
 have pX:=gH l;cases hq:ij d has k
 ·repeat' (first|(with_reducible apply aF)|(with_reducible apply aq)|((with_reducible first|apply gZ|apply fc|apply mD|apply bU|apply dB);rfl;rfl)|((with_reducible first|apply gQ|apply jT);rfl;rfl)|((with_reducible apply dU);rfl)|((with_reducible apply aL);rfl)|((with_reducible apply aQ);rfl)|((with_reducible apply au);rfl;first|rfl|assumption)|((with_reducible apply aw);rfl;first|rfl|assumption)|((with_reducible apply bw);rfl;first|rfl|assumption)|((with_reducible apply bz);rfl;first|rfl|assumption)|((with_reducible apply dG);rfl)|((with_reducible apply jl);rfl)|((with_reducible apply fy);rfl)|((with_reducible apply aH);rfl)|((with_reducible apply aD);rfl;rfl;rfl)|((with_reducible apply dr);rfl;rfl;first|exact bY _|exact lT rfl)|((with_reducible apply xu);rfl;rfl;rfl)|((with_reducible apply fo);first|rfl|simp)|((with_reducible apply dT);rfl;rfl;rfl;rfl;(first|exact bY _|simp);(first|rfl|simp);(first|rfl|simp))|((with_reducible apply cU);rfl;(first|rfl|simp);intro _)|((with_reducible apply ba);rfl)|((with_reducible apply je);rfl;rfl)|(refine uCon (CJ k na o v f a b w (bL l) pX) ?_)|(refine uCon (P3 d has k hd hq) ?_)|(refine uCon (wN _) ?_)|(refine uCon (wO _) ?_)|(refine uCon (yO _ _) ?_)|(refine uCon (ot _ _) ?_)|((with_reducible apply cq);rfl)|((with_reducible apply cD);rfl)|(with_reducible intro _))
  all_goals refine .pure (by simp) ?_
  all_goals simp only[eg,gG,AV.v.injEq,Value.bool.injEq,Value.int.injEq,true_and,hlen]at *
  all_goals grind [gw,Az,eO,jq,nF,jh]
 ·have hd':d+1≤3:=by unfold ij at hq;grind
  repeat' (first|(with_reducible apply aF)|(with_reducible apply aq)|((with_reducible first|apply gZ|apply fc|apply mD|apply bU|apply dB);rfl;rfl)|((with_reducible first|apply gQ|apply jT);rfl;rfl)|((with_reducible apply dU);rfl)|((with_reducible apply aL);rfl)|((with_reducible apply aQ);rfl)|((with_reducible apply au);rfl;first|rfl|assumption)|((with_reducible apply aw);rfl;first|rfl|assumption)|((with_reducible apply bw);rfl;first|rfl|assumption)|((with_reducible apply bz);rfl;first|rfl|assumption)|((with_reducible apply dG);rfl)|((with_reducible apply jl);rfl)|((with_reducible apply fy);rfl)|((with_reducible apply aH);rfl)|((with_reducible apply aD);rfl;rfl;rfl)|((with_reducible apply dr);rfl;rfl;first|exact bY _|exact lT rfl)|((with_reducible apply xu);rfl;rfl;rfl)|((with_reducible apply fo);first|rfl|simp)|((with_reducible apply dT);rfl;rfl;rfl;rfl;(first|exact bY _|simp);(first|rfl|simp);(first|rfl|simp))|((with_reducible apply cU);rfl;(first|rfl|simp);intro _)|((with_reducible apply ba);rfl)|((with_reducible apply je);rfl;rfl)|(refine uCon (CJ k na o v f a b w (bL l) pX) ?_)|(refine uCon (P4 d has k hd hq) ?_)|(refine wU (by kernel_rfl) (Gq hX l (by omega) (d+1) (has||decide (k=14)) hd' k [.str na,u1 o,.str v,b_ f,i_ a,i_ b,b_ w,.sl 3 (bL l)] (by simp[pX])) (by simp only[GO,List.map_nil,jS];exact⟨by rw[Cr _ _ _ _ (by simp[pX])];exact Le.refl _,by simp[tl,eP,nU,zM _ _ _ _ pX],trivial⟩) (by simp) ?_)|(refine uCon (wN _) ?_)|(refine uCon (wO _) ?_)|(refine uCon (yO _ _) ?_)|(refine uCon (ot _ _) ?_)|((with_reducible apply cq);rfl)|((with_reducible apply cD);rfl)|(with_reducible intro _))
  all_goals refine .pure (by simp) ?_
  all_goals simp only[eg,gG,AV.v.injEq,Value.bool.injEq,Value.int.injEq,true_and,hlen]at *
  all_goals grind [gw,Az,eO,jq,nF,jh]
end
end Go.Proofs.YtpcnidmmkknndaaGreatDoor
section
namespace Go.bo
open Go Go.Aw
mutual
theorem Wg:∀x:Cx,nX x+1≤zX x
 | .mk _ ps _=>by rw[nX,zX];have:=K8 ps;omega
theorem K8:∀l:List Cp,fC l≤gh l
 | []=>by simp[fC]
 | p:: l=>by rw[fC,gh];have:=We p;have:=K8 l;omega
theorem We:∀p:Cp,nP p≤zP p
 | .mk _ ss=>by rw[nP,zP];have:=K9 ss;omega
theorem K9:∀l:List Sm,dN l≤gL l
 | []=>by simp[dN]
 | s:: l=>by rw[dN,gL];have:=Wf s;have:=K9 l;omega
theorem Wf:∀s:Sm,nS s≤zS s
 | .mk _ _ _ _ _ _ _ _ l=>by rw[nS,zS];have:=A3 l;omega
theorem A3:∀l:List Cx,l.length+dJ l≤cQ l
 | []=>by simp[dJ]
 | x:: l=>by rw[dJ,cQ];have:=Wg x;have:=A3 l;simp;omega
end
def Ff{l:List Cx}{k:Nat}{x:Cx}(h:l[k]?=some x):dJ (l.take (k+1))=dJ (l.take k)+nX x:=by
 induction l generalizing k with
 | nil=>simp at h
 | cons y l ih =>
   cases k with
   | zero=>simp at h;subst h;simp[dJ]
   | succ k=>simp at h;rw[List.take_succ_cons,dJ,ih h,List.take_succ_cons,dJ];omega
def Fa{l:List Cp}{k:Nat}{x:Cp}(h:l[k]?=some x):fC (l.take (k+1))=fC (l.take k)+nP x:=by
 induction l generalizing k with
 | nil=>simp at h
 | cons y l ih =>
   cases k with
   | zero=>simp at h;subst h;simp[fC]
   | succ k=>simp at h;rw[List.take_succ_cons,fC,ih h,List.take_succ_cons,fC];omega
def Fc{l:List Sm}{k:Nat}{x:Sm}(h:l[k]?=some x):dN (l.take (k+1))=dN (l.take k)+nS x:=by
 induction l generalizing k with
 | nil=>simp at h
 | cons y l ih =>
   cases k with
   | zero=>simp at h;subst h;simp[dN]
   | succ k=>simp at h;rw[List.take_succ_cons,dN,ih h,List.take_succ_cons,dN];omega
def yD(l:List Cx)(k:Nat):dJ (l.take k)≤dJ l:=by
 induction l generalizing k with
 | nil=>simp
 | cons y l ih=>cases k with
   | zero=>simp[dJ]
   | succ k=>rw[List.take_succ_cons,dJ,dJ];have:=ih k;omega
def yB(l:List Cp)(k:Nat):fC (l.take k)≤fC l:=by
 induction l generalizing k with
 | nil=>simp
 | cons y l ih=>cases k with
   | zero=>simp[fC]
   | succ k=>rw[List.take_succ_cons,fC,fC];have:=ih k;omega
def yC(l:List Sm)(k:Nat):dN (l.take k)≤dN l:=by
 induction l generalizing k with
 | nil=>simp
 | cons y l ih=>cases k with
   | zero=>simp[dN]
   | succ k=>rw[List.take_succ_cons,dN,dN];have:=ih k;omega
end Go.bo
namespace Go.Proofs.YtpcnidmmkknndaaGreatDoor
open Go Go.Aw Go.bo
variable [Laid]
theorem Eg:∀n,n<2^60→JX n∧OV n∧RR n
 | 0,_=>⟨fun x hz=>by have:=Gj x;omega,fun x hz=>by have:=Gh x;omega,fun x hz=>by have:=Gi x;omega⟩
 | n+1,hn=>by
   obtain⟨hX,hP,hS⟩:=Eg n (by omega);exact⟨M4 (by omega) hP,M1 (by omega) hS,M3 hX⟩
def Ku(x:Cx)(hz:zX x<2^60)(d:Nat)(has rel:Bool)(hd:d≤3):bn p_ 35 [.agg (fJ x),.agg [i_ d,b_ has],b_ rel] (b_ (eS d has rel x)):=
 (Eg (zX x) hz).1 x (bY _) d has rel hd
def RS(n:Nat):Prop:=∀l:List Cx,cQ l<n→bn p_ 26 [.sl 3 (bL l)] (i_ (number l))
def P8{n:Nat}(hn:n<2^60)(hC:RS n):RS (n+1):=by
 intro l hz;refine (V26 _).bj (by simp[gH]) (by simp) ?_;unfold Xy;have hl:=A3 l;refine zzf (n:=l.length) (by simp[cu]) fun _=>?_;refine zzf (n:=l.length) (by simp[cu]) fun _=>?_;refine aZ (α:=Nat) (fun k=>k≤l.length) (fun k=>[i_ ((l.length+dJ (l.take k):Nat):Int),i_ k]) (fun _=>[]) (fun k=>l.length-k) 0 (by simp) (by simpa[dJ]using Wk.refl _ _ _ (by simp)) ?_;intro k hk;rcases uP k l.length with q|q
 ·obtain⟨⟨le,ps,cs⟩,hx⟩:∃x,l[k]?=some x:=⟨l[k],dO q⟩;have hin:aJ ((k:Int)+1):=by unfold aJ;omega
  have hzx:=mQ (gE hx);rw[zX]at hzx;have hnx:=Ff hx;rw[nX]at hnx;have hle:=yD l (k+1);refine zzC (zzL (by simpa using q) (zzb (cu l) rfl hx (zzY (by simp[jn]) (fo rfl ?_))));rw[fJ];refine dT (cs:=[u1 le,.sl 2 (dn ps),.sl 1 (cs.map fun c=>[u1 c])]) rfl rfl rfl rfl (bY _) rfl rfl (zzA (zzU rfl rfl ?_));refine zzf (n:=ps.length) (by simp[dv]) fun _=>?_;refine aZ (α:=Nat) (fun i=>i≤ps.length) (fun i=>[i_ ((l.length+dJ (l.take k)+fC (ps.take i):Nat):Int),i_ i]) (fun _=>[.ak ⟨39,[u1 le,.sl 2 (dn ps),.sl 1 (cs.map fun c=>[u1 c])],true⟩]) (fun i=>ps.length-i) 0 (by simp) (by simpa[fC]using Wk.refl _ _ _ (by simp)) ?_;intro i hi;rcases uP i ps.length with q2|q2
  ·obtain⟨⟨t,ss⟩,hp⟩:∃x,ps[i]?=some x:=⟨ps[i],dO q2⟩;have hin2:aJ ((i:Int)+1):=by have:=rC ps;unfold aJ;omega
   have hzp:=py (gE hp);rw[zP]at hzp;have hnp:=Fa hp;rw[nP]at hnp;have hle2:=yB ps (i+1);refine zzC (zzL (by simpa using q2) (zzb (dv ps) rfl hp (zzY (by simp[ri]) (fo rfl ?_))));rw[gR];refine dT (cs:=[.str t,.sl 9 (dQ ss)]) rfl rfl rfl rfl (bY _) rfl rfl (zzA (zzU rfl rfl ?_));refine zzf (n:=ss.length) (by simp[dE]) fun _=>?_;refine aZ (α:=Nat) (fun j=>j≤ss.length) (fun j=>[i_ ((l.length+dJ (l.take k)+fC (ps.take i)+dN (ss.take j):Nat):Int),i_ j]) (fun _=>[.ak ⟨39,[u1 le,.sl 2 (dn ps),.sl 1 (cs.map fun c=>[u1 c])],true⟩,.ak ⟨42,[.str t,.sl 9 (dQ ss)],true⟩]) (fun j=>ss.length-j) 0 (by simp) (by simpa[dN]using Wk.refl _ _ _ (by simp)) ?_;intro j hj;rcases uP j ss.length with q3|q3
   ·obtain⟨⟨kd,na,o,v,f,a,b,w,l2⟩,hs⟩:∃x,ss[j]?=some x:=⟨ss[j],dO q3⟩;have hin3:aJ ((j:Int)+1):=by have:=pz ss;unfold aJ;omega
    have hzs:=pA (gE hs);rw[zS]at hzs;have hns:=Fc hs;rw[nS]at hns;have hle3:=yC ss (j+1);have hin4:aJ (((l.length+dJ (l.take k)+fC (ps.take i)+dN (ss.take j):Nat):Int)+(number l2:Int)):=by unfold number aJ;omega
    refine zzC (zzL (by simpa using q3) (zzb (dE ss) rfl hs (zzY (by simp[mG]) (fo rfl ?_))));rw[du];refine dT (cs:=[u1 kd,.str na,u1 o,.str v,b_ f,i_ a,i_ b,b_ w,.sl 3 (bL l2)]) rfl rfl rfl rfl (bY _) rfl rfl (zzA (zzU rfl rfl (uCon (hC l2 (by omega)) (zzP hin4 (zzP hin3 (aq ?_))))));refine⟨j+1,q3, ?_,by omega⟩;have e:((l.length+dJ (l.take k)+fC (ps.take i)+dN (ss.take j):Nat):Int)+(number l2:Int)=((l.length+dJ (l.take k)+fC (ps.take i)+dN (ss.take (j+1)):Nat):Int):=by rw[hns];unfold number;omega
    rw[e];exact Wk.back (M:=2) (by simp) (by simp) rfl (by simp) (by simp[rQ];exact⟨kQ _ _ (by simp[si,Bm]),kQ _ _ (by simp[xc])⟩) (by simp[Bd])
   ·have hj:j=ss.length:=by omega
    subst hj;rw[BY];refine zzC (zzK (by simp) (zzP hin2 (aq ?_)));refine⟨i+1,q2, ?_,by omega⟩;rw[hnp];exact Wk.back (M:=1) (by simp) (by simp) rfl (by simp[Nat.add_assoc]) (by simp[rQ];exact kQ _ _ (by simp[si,Bm])) (by simp[Bd])
  ·have hi:i=ps.length:=by omega
   subst hi;rw[BY];refine zzC (zzK (by simp) (zzP hin (aq ?_)));refine⟨k+1,q, ?_,by omega⟩;rw[hnx];exact Wk.back (M:=0) (by simp) (by simp) rfl (by simp[Nat.add_assoc]) (by simp) (by simp[Bd])
 ·have hk:k=l.length:=by omega
  subst hk;rw[BY];refine zzC (zzK (by simp) ?_);exact .pure (by simp) rfl
theorem Kw:∀n,n<2^60→RS n
 | 0,_=>fun l hz=>by omega
 | n+1,hn=>P8 (by omega) (Kw n (by omega))
def CI(l:List Cx)(hz:cQ l<2^59):bn p_ 26 [.sl 3 (bL l)] (i_ (number l)):=
 Kw (cQ l+1) (by omega) l (by omega)
def I4(x:Cx)(hz:zX x<2^60):bn p_ 34 [.agg (fJ x)] (b_ (!eS 0 false false x)):=by
 refine (V34 _).bj (by simp[x6]) (by simp) ?_;unfold XG;refine fo (by rw[jn];rfl) (zzV rfl (by simp[jn]) (ba rfl (oI (by simp[jn]) (by kernel_rfl) (Ku x hz 0 false false (by omega)) (zzO ?_))));exact .pure (by simp) rfl
def Kl(l:List Cx)(hz:cQ l<2^59):bn p_ 20 [.sl 3 (bL l)] (i_ (iw l)):=by
 refine (V20 _).bj (by simp[gH]) (by simp) ?_;unfold Xt;have hlen:(bL l).length=l.length:=by simp[cu]
 have hany:=wo l 34 [] (fun x=>!eS 0 false false x) (by simp[aO]) (by kernel_rfl) (fun x hx=>I4 x (by have:=mQ hx;omega));have he:l.isEmpty=decide (l.length=0):=by cases l<;>simp
 rw[show l.any (fun x=>!eS 0 false false x)=!cX 0 false false l by rw[kV];simp[List.any_eq_not_all_not]]at hany;repeat' (first|(with_reducible apply aF)|(with_reducible apply aq)|((with_reducible first|apply fc|apply bU);rfl;rfl)|((with_reducible apply aL);rfl)|((with_reducible apply aQ);rfl)|((with_reducible apply au);rfl;first|rfl|assumption)|((with_reducible apply jl);rfl)|((with_reducible apply cU);rfl;(first|rfl|simp);intro _)|(refine uCon (hany) ?_)|(refine uCon (CI l hz) ?_)|((with_reducible apply cq);rfl)|((with_reducible apply cD);rfl)|(with_reducible intro _))
 all_goals refine .pure (by simp) ?_
 all_goals simp only[eg,gG,AV.v.injEq,Value.bool.injEq,Value.int.injEq,true_and,hlen,he,iw]at *
 all_goals grind
end Go.Proofs.YtpcnidmmkknndaaGreatDoor
end
namespace Go.Proofs.YtpcnidmmkknndaaGreatDoor
section
open Go Go.Aw Go.dD Go.RowKit
open Go.bo hiding u1 ae
mutual
def vB:Vl→Prop
 | .mk _ t n u _ l=>(-10^15≤n∧n≤10^15)∧t.length≤2^20∧u.length≤2^20∧iX l
def iX:List Vl→Prop
 | []=>True
 | v:: l=>vB v∧iX l
end
theorem yk:∀{l:List Vl} {x:Vl},iX l→x∈l→vB x
 | y:: l,x,h,hx=>by
   rw[iX]at h;rcases ID.1 hx with rfl|hx
   ·exact h.1
   ·exact yk h.2 hx
theorem Cw:∀{l:List Vl},(∀x∈l,vB x)→iX l
 | [],_=>trivial
 | y:: l,h=>⟨h y (by simp),Cw fun x hx=>h x (by simp[hx])⟩
def Cy(h:iX l)(hs:∀x∈m,x∈l):iX m:=Cw fun x hx=>yk h (hs x hx)
def RG(h:vB x):iX x.list:=by cases x;rw[vB]at h;exact h.2.2.2
mutual
theorem WM:∀(x:Vl),vB x→∀t∈iM x,(-10^15≤t.n∧t.n≤10^15)∧t.t.length≤2^20∧t.u.length≤2^20
 | .mk k t n u f l,h,x,hx=>by
   rw[vB]at h;rw[iM]at hx;rcases ID.1 hx with rfl|hx
   ·exact⟨h.1,h.2.1,h.2.2.1⟩
   ·split at hx
    ·cases hx
    ·rcases Is.1 hx with hx|hx
     ·exact F3 l h.2.2.2 x hx
     ·simp at hx;subst hx;exact⟨⟨by show (-10^15:Int)≤0;decide,by show (0:Int)≤10^15;decide⟩,aa2 _,aa2 _⟩
theorem F3:∀(l:List Vl),iX l→∀t∈bu l,(-10^15≤t.n∧t.n≤10^15)∧t.t.length≤2^20∧t.u.length≤2^20
 | [],_,x,hx=>by rw[bu]at hx;cases hx
 | v:: l,h,x,hx=>by
   rw[iX]at h;rw[bu]at hx;rcases Is.1 hx with hx|hx
   ·exact WM v h.1 x hx
   ·exact F3 l h.2 x hx
end
def Rs(h:iX v)(hc:js v=0):pQ (bu v):=by
 refine⟨?_,F3 v h⟩;rw[mq];unfold js at hc;split at hc
 ·cases hc
 ·split at hc
  ·cases hc
  ·omega
def OT{a b:Nat}{lo hi:Option AV}{K:AV→Prop}(ha:eX lo 0=some (a:Int))(hb:eX hi v.length=some (b:Int))(h1:a≤b)(h2:b≤v.length)(q:K (.sl 6 (cA ((v.take b).drop a)))):lr 6 (.sl 6 (cA v)) lo hi K:=by
 have hl:(cA v).length=v.length:=by simp[eA]
 rw[Pb,ha,hl,hb];refine⟨rfl,⟨by omega,by omega,by omega⟩, ?_⟩;have:((cA v).take (b:Int).toNat).drop (a:Int).toNat=cA ((v.take b).drop a):=by simp[eA]
 rw[this];exact q
abbrev UD(o:List Cx×Bool):AV:=.ay [gg 3 (dJ_ o.1),b_ o.2]
def Od(o:List Cx×Bool):Aw.Pure (UD o):=by simp only[aO,Aw.Pure,and_true];exact lH (mg _)
abbrev wB(d:Nat)(has:Bool):AV:=.agg [i_ d,b_ has]
variable [bp]
def PZ(l:List Tok)(hl:pQ l):bn p_ 177 [yz l] (.ay [(qv l).1,i_ (qv l).2]):=by
 unfold yz;split
 ·rename_i e;subst e;exact bn.arg (GX [] hl) (.cons (.nil 5) .nil) (by simp[aO,Aw.Pure])
 ·exact GX l hl
def D3(n:Nat):Prop:=∀(v:List Vl),bV v<n→iX v→∀(d:Nat) (has rel forg:Bool),d≤3→bn p_ 32 [.sl 6 (cA v),wB d has,b_ rel,b_ forg] (UD (kz (3-d) has v rel forg))
omit [bp] in
def Oa(v:List Vl):(v.findIdx? ja=none∧ofI v=-1)∨∃i,v.findIdx? ja=some i∧ofI v=(i:Int)∧i<v.length:=by
 unfold ofI;cases h:v.findIdx? ja with
 | none=>exact .inl ⟨rfl,rfl⟩
 | some i =>
   rw[List.findIdx?_eq_some_iff_getElem]at h;exact .inr ⟨i,rfl,rfl,h.1⟩
def P5{n:Nat}(hn:n≤2^30)(hP:D3 n)(v:List Vl)(hz:bV v<n)(hb:iX v)(d:Nat)(has:Bool)(hd:d≤3)(k:Int):bn p_ 144 [.agg (nS_ (dx k [])),.sl 6 (cA v),wB d has] (atR (vC (dm d has) k v)):=by
 have hlv:=mP v;refine (Zc _ _ _).bj (by simp only[aO,Aw.Pure,and_true,true_and];exact⟨jR _,lz v⟩) (by simp only[aO,Aw.Pure,and_true];exact jR _) ?_;unfold SC;obtain⟨plE,hplE⟩:∃plE:aK,plE=.ak ⟨80,[i_ d,b_ has],true⟩:=⟨_,rfl⟩;refine bT (cs:=nS_ (dx k [])) (n:=0) (h':=[cV (dx k [])]) rfl (rn _) rfl rfl (bT (cs:=[i_ d,b_ has]) (n:=1) (h':=[cV (dx k []),plE]) rfl rfl rfl (by rw[hplE];rfl) (bT (cs:=nS_ cM) (n:=2) (h':=[cV (dx k []),plE,cV cM]) rfl rfl rfl rfl (uCon (P6 v (by omega)) ?_)));obtain⟨R,hR⟩:∃R,vC (dm d has) k v=R:=⟨_,rfl⟩;rw[hR]
 -- what is handed back
 have ret:∀(H:aa) (s:Sm) (b:Bool),H[2]?=some (cV cM)→R=(s,b)→ao 9 (.op 2 0) (.agg (nS_ s)) H fun g=>ah true 9 (.op 2 0) g fun r=>dI (atR R) (.ay [r,b_ b]) g:=by
  intro H s b h2 e;refine uv (K:=fun r g=>dI (atR R) (.ay [r,b_ b]) g) h2 ?_;rw[e];exact .pure (by simp only[aO,Aw.Pure,and_true];exact jR _) rfl
 refine cS (fun s H=>∃(w:Bool) (l:List Cx) (q:List Vl),s=[.sl 6 (cA q)]∧H[0]?=some (cV (.mk k [] 0 [] false 0 0 w l))∧H[2]?=some (cV cM)∧bV q<n∧iX q∧R=sd k w l q) ?_ ?_
 ·rintro _ H ⟨w,l,q,rfl,h0,h2,hzq,hbq,e⟩;refine uCon (M6 q (by omega)) (bl rfl rfl (bl rfl rfl (zzH ?_)));unfold EC
  by_cases hc:js q=0
  ·rw[if_pos hc];refine zzK rfl (uCon (PZ _ (Rs hbq hc)) ?_);have hN:sd k w l q=match wm (bu q) with|some (a,b)=>(.mk k [] 0 [] false a b w l,true)|none=>(.mk k [] 0 [] false 0 0 w l,false):=by unfold sd;rw[if_pos hc];rfl
   rw[hN]at e;refine bl rfl rfl (bl rfl rfl (zzA ?_));have st:∀(a b:Int) (z:Int) (c:Bool),decide (z=0)=c→R=(.mk k [] 0 [] false a b w l,c)→ao 2 (.op 0 (0+5)) (.agg [i_ a,i_ b]) H fun g56=>ah true 9 (.op 0 0) g56 fun v57=>ag .eql (i_ z) (i_ 0) fun v58=>ao 9 (.op 2 0) v57 g56 fun g59=>ah true 9 (.op 2 0) g59 fun r60=>dI (atR R) (.ay [r60,v58]) g59:=by
    intro a b z c hzc e;refine aU (cs:=[i_ a,i_ b]) (h':=H.set 0 (cV (.mk k [] 0 [] false a b w l))) rfl h0 rfl rfl (by simp[fI]) rfl rfl rfl ?_;have hl2:=(eQ.1 h2).1;refine kJ (iD (by omega)) ?_;refine zzG ?_;rw[hzc];exact ret _ _ c (by rw[iF (by decide)];exact h2) e
   unfold qv;cases ha:wm (bu q) with
   | none=>rw[ha]at e;exact st 0 0 12 false rfl e
   | some ab =>
     obtain⟨a,b⟩:=ab;rw[ha]at e;exact st a b 0 true rfl e
  ·rw[if_neg hc];refine zzL (by simp[hc]) (kJ h0 ?_);exact ret _ _ false h2 (by rw[e];unfold sd;rw[if_neg hc])
 ·intro F hF;refine zzF ?_;rcases Oa v with⟨h1,h2⟩|⟨i,h1,h2,h3⟩
  ·rw[h2];refine zzK rfl (aq ?_);refine hF _ _ ⟨false,[],v,rfl,rfl,rfl,hz,hb, ?_⟩;rw[←hR];unfold vC;rw[h1]
  ·rw[h2];refine zzL (by simp) ?_;have hRi:R=match dm d has k (v.drop (i+1)) false false with|some (l,true)=>sd k true l (v.take i)|_=>(dx k [],false):=by rw[←hR];unfold vC;rw[h1];rfl
   refine iq (cs:=[i_ d,b_ has]) (b:=⟨80,[i_ d,b_ has],true⟩) rfl (by rw[hplE];rfl) (by simp) rfl (zzA (zzU (c:=u8 k) rfl rfl ?_));have hdrop:∀x∈v.drop (i+1),x∈v:=fun x hx=>List.mem_of_mem_drop hx;have hzd:bV (v.drop (i+1))≤bV v:=rE (List.drop_suffix _ _);have hzt:bV (v.take i)≤bV v:=pP v i
   -- the place,and the list in it
   have tail:∀(qd:Nat) (qh fine:Bool),qd≤3→(fine=true→dm d has k (v.drop (i+1)) false false=some (kz (3-qd) qh (v.drop (i+1)) false false))→(fine=false→dm d has k (v.drop (i+1)) false false=none) →
    aR 0 (.ay [wB qd qh,b_ fine]) fun v16=>aR 1 (.ay [wB qd qh,b_ fine]) fun v17=>aV 80 (.agg [(i_ 0),ff]) [cV (dx k []),plE,cV cM] fun v18 g19=>ao 2 v18 v16 g19 fun g20=>ag .add (i_ i) (i_ 1) fun v21=>lr 6 (.sl 6 (cA v)) (some v21) none fun v22=>ah true 2 v18 g20 fun v23=>wv p_ (.fn (.func 32) [] []) [v22,v23,ff,ff] g20 fun v24=>aR 0 v24 fun v25=>aR 1 v24 fun v26=>cr v17 fun v27=>aG (fun J28=>aM v27 false (cr v26 fun v29=>[AV.sl 6 (cA v),.op 0 0,.op 2 0,i_ i,v25]=[AV.sl 6 (cA v),.op 0 0,.op 2 0,i_ i,v25]∧J28 [ff,v29] g20) ([AV.sl 6 (cA v),.op 0 0,.op 2 0,i_ i,v25]=[AV.sl 6 (cA v),.op 0 0,.op 2 0,i_ i,v25]∧J28 [(cd false v27),un] g20)) fun s30 g31=>bQ (nx s30 0) tt (nx s30 1) fun v32=>af v32 (ah true 9 (.op 0 0) g31 fun v33=>ao 9 (.op 2 0) v33 g31 fun g34=>ah true 9 (.op 2 0) g34 fun r35=>dI (atR R) (.ay [r35,ff]) g34) (lr 6 (.sl 6 (cA v)) none (some (i_ i)) fun v36=>bg 7 (.op 0 0) fun v37=>ao 1 v37 tt g31 fun g38=>bg 8 (.op 0 0) fun v39=>ao 1 v39 v25 g38 fun g40=>[AV.op 0 0,.op 2 0]=[AV.op 0 0,.op 2 0]∧F [v36] g40):=by
    intro qd qh fine hqd hs1 hs0;refine bl rfl rfl (bl rfl rfl (bT (cs:=[i_ 0,ff]) (n:=3) (h':=[cV (dx k []),plE,cV cM,.ak ⟨80,[i_ 0,ff],true⟩]) rfl rfl rfl rfl (aU (cs:=[i_ qd,b_ qh]) (h':=[cV (dx k []),plE,cV cM,.ak ⟨80,[i_ qd,b_ qh],true⟩]) rfl rfl rfl rfl (by simp) rfl rfl rfl (zzP (by unfold aJ;omega) (OT (a:=i+1) (b:=v.length) rfl rfl (by omega) (bY _) ?_)))));rw[BY];refine iq (cs:=[i_ qd,b_ qh]) (b:=⟨80,[i_ qd,b_ qh],true⟩) rfl rfl (by simp) rfl ?_;refine⟨_,uCon (hP (v.drop (i+1)) (by omega) (Cy hb hdrop) qd qh false false hqd) ⟨rfl,rfl⟩, ?_⟩;obtain⟨o,ho⟩:∃o,kz (3-qd) qh (v.drop (i+1)) false false=o:=⟨_,rfl⟩;rw[ho]at hs1 ⊢;refine bl rfl rfl (bl rfl rfl (zzO ?_));refine mN (!fine||!o.2) rfl (fun z=>by rw[z];rfl) (fun z F2 hF2=>?_) (fun s hs=>lR hs ?_)
    ·refine zzO (aq ?_);rw[z,Bool.false_or]at hF2;exact hF2
    cases hf:fine with
    | false =>
      refine zzL (by simp) (kJ (H:=[cV (dx k []),plE,cV cM,.ak ⟨80,[i_ qd,b_ qh],true⟩]) rfl ?_);exact ret _ _ false rfl (by rw[hRi,hs0 hf])
    | true =>
      have hs1:=hs1 hf;rw[hs1]at hRi;cases ho2:o.2 with
      | false =>
        refine zzL (by simp) (kJ (H:=[cV (dx k []),plE,cV cM,.ak ⟨80,[i_ qd,b_ qh],true⟩]) rfl ?_);exact ret _ _ false rfl (by rw[hRi,show o=(o.1,false) from by rw[←ho2]])
      | true =>
        refine zzK (by simp) (OT (a:=0) (b:=i) rfl rfl (aa2 _) (by omega) ?_);rw[List.drop_zero];refine zzA (aU (cs:=[tt]) (h':=[cV (.mk k [] 0 [] false 0 0 true []),plE,cV cM,.ak ⟨80,[i_ qd,b_ qh],true⟩]) rfl rfl rfl rfl (by simp[fI]) rfl rfl rfl (zzA (aU (cs:=[gg 3 (dJ_ o.1)]) (h':=[cV (.mk k [] 0 [] false 0 0 true o.1),plE,cV cM,.ak ⟨80,[i_ qd,b_ qh],true⟩]) rfl rfl rfl (by cases dJ_ o.1<;>rfl) (by simp[fI]) rfl (by simp only[abg,List.all_nil,oV];rfl) rfl (aq ?_))));exact hF _ _ ⟨true,o.1,v.take i,rfl,rfl,rfl,by omega,Cy hb fun x hx=>List.mem_of_mem_take hx,by rw[hRi,show o=(o.1,true) from by rw[←ho2]]⟩
   refine uCon (Ak d has k hd) ?_;cases hq:ij d has k with
   | true =>
     have hd3:d+1≤3:=by
      unfold ij at hq;simp at hq;omega
     exact tail (d+1) (has||decide (k=14)) true hd3 (fun _=>by unfold dm;rw[if_pos hq]) (fun z=>by cases z)
   | false =>
     exact tail 0 false false (by omega) (fun z=>by cases z) (fun _=>by unfold dm;rw[if_neg (by rw[hq];decide)])
end
section
open Go Go.Aw Go.dD Go.RowKit
open Go.bo hiding u1 ae
variable [bp]
def Eo(hn:n≤2^30)(hP:D3 n)(s:ae)(v:List Vl)(hz:bV v<n)(hb:iX v)(d:Nat)(has:Bool)(hd:d≤3):bn p_ 107 [.str s,.sl 6 (cA v),wB d has] (atR (iz (dm d has) s v)):=by
 refine (YQ _ _ _).bj (by simp only[aO,Aw.Pure,and_true,true_and];exact lz v) (by simp only[aO,Aw.Pure,and_true];exact jR _) ?_;unfold Sb;obtain⟨plE,hplE⟩:∃plE:aK,plE=.ak ⟨80,[i_ d,b_ has],true⟩:=⟨_,rfl⟩;have ldP0:∀{H:aa} {i:Nat} {K:AV→Prop},H[i]?=some plE→K (wB d has)→ah true 2 (.op i 0) H K:=fun h q=>iq (cs:=[i_ d,b_ has]) (b:=⟨80,[i_ d,b_ has],true⟩) rfl (by rw[h,hplE]) (by simp) rfl q;obtain⟨R,hR⟩:∃R,iz (dm d has) s v=R:=⟨_,rfl⟩;rw[hR];refine bT (cs:=[i_ d,b_ has]) (n:=0) (h':=[plE]) rfl rfl rfl (by rw[hplE];rfl) (bT (cs:=nS_ cM) (n:=1) (h':=[plE,cV cM]) rfl rfl rfl rfl ?_);have ret:∀(H:aa) (s:Sm) (b:Bool),H[1]?=some (cV cM)→R=(s,b)→ao 9 (.op 1 0) (.agg (nS_ s)) H fun g=>ah true 9 (.op 1 0) g fun r=>dI (atR R) (.ay [r,b_ b]) g:=by
  intro H s b h2 e;refine uv (K:=fun r g=>dI (atR R) (.ay [r,b_ b]) g) h2 ?_;rw[e];exact .pure (by simp only[aO,Aw.Pure,and_true];exact jR _) rfl
 refine uCon CK (uCon (jg s) ?_);have em:s.map dX=cg s:=rfl;rw[em];refine uCon (Ep dY (cg s) (by decide)) ?_;have hi:=Hu dY (cg s);have h11:(dY.length:Int)=11:=rfl;have hF:R=(let i:=kT dY (cg s)
  if i<5 then (dx 0 [],false)
  else if i<7 then vC (dm d has) (4+i) v
  else match dm d has (4+i) v (decide (4+i=14)) (decide (4+i≤12)) with
   | none=>(dx (4+i) [],false)
   | some (l,b)=>(.mk (4+i) [] 0 [] false 0 0 false l,b)):=by rw[←hR];rfl
 obtain⟨i,he⟩:∃i,kT dY (cg s)=i:=⟨_,rfl⟩;rw[he]at hF hi ⊢;dsimp only at hF;refine zzC ?_
 by_cases c1:i<5
 ·rw[if_pos c1]at hF;refine zzL (oF c1) (ba (cs:=nS_ cM) rfl ?_);exact ret _ _ false rfl hF
 rw[if_neg c1]at hF;refine zzK (nO c1) (fk (m:=i) rfl (by rw[IntKind.wrap_u8];omega) (xm (c:=4+i) (by decide) rfl rfl (by rw[IntKind.wrap_u8];omega) ?_));obtain⟨k,hk⟩:∃k,4+i=k:=⟨_,rfl⟩;rw[hk]at hF ⊢;refine ba (cs:=nS_ (dx k [])) rfl (bT (cs:=nS_ cM) (n:=2) (h':=[plE,cV cM,cV cM]) rfl rfl rfl rfl (aU (cs:=nS_ (dx k [])) (h':=[plE,cV cM,cV (dx k [])]) rfl rfl rfl rfl (by simp[fI]) rfl (rn _) rfl (zzA (zzU (c:=u8 k) rfl rfl (zzD ?_)))))
 by_cases c2:i<7
 ·rw[if_pos c2]at hF;refine zzL (oF (by omega)) (kJ (H:=[plE,cV cM,cV (dx k [])]) rfl (ldP0 rfl (uCon (P5 hn hP v hz hb d has hd k) ?_)));rw[←hF];refine bl rfl rfl (bl rfl rfl ?_);exact ret _ _ _ rfl rfl
 rw[if_neg c2]at hF;refine zzK (nO (by omega)) (ldP0 rfl (zzA (zzU (c:=u8 k) rfl rfl (uCon (Ak d has k hd) ?_))));unfold dm at hF;cases hq:ij d has k with
 | false =>
   rw[if_neg (by rw[hq];decide)]at hF;refine bl rfl rfl (bl rfl rfl (bT (cs:=[i_ 0,ff]) (n:=3) (h':=[plE,cV cM,cV (dx k []),.ak ⟨80,[i_ 0,ff],true⟩]) rfl rfl rfl rfl (aU (cs:=[i_ 0,ff]) (h':=[plE,cV cM,cV (dx k []),.ak ⟨80,[i_ 0,ff],true⟩]) rfl rfl rfl rfl (by simp) rfl rfl rfl (zzO (zzL rfl (kJ (s:=dx k []) rfl ?_))))));exact ret _ _ false rfl hF
 | true =>
   rw[if_pos hq]at hF;have hd3:d+1≤3:=by
    unfold ij at hq;simp at hq;omega
   refine bl rfl rfl (bl rfl rfl (bT (cs:=[i_ 0,ff]) (n:=3) (h':=[plE,cV cM,cV (dx k []),.ak ⟨80,[i_ 0,ff],true⟩]) rfl rfl rfl rfl (aU (cs:=[i_ ((d:Int)+1),b_ (has||decide (k=14))]) (h':=[plE,cV cM,cV (dx k []),.ak ⟨80,[i_ ((d:Int)+1),b_ (has||decide (k=14))],true⟩]) rfl rfl rfl rfl (by simp) rfl rfl rfl (zzO (zzK rfl (iq (cs:=[i_ ((d:Int)+1),b_ (has||decide (k=14))]) (b:=⟨80,[i_ ((d:Int)+1),b_ (has||decide (k=14))],true⟩) rfl rfl (by simp) rfl (zzA (zzU (c:=u8 k) rfl rfl (zzG (zzA (zzU (c:=u8 k) rfl rfl (zzD (uCon (hP v hz hb (d+1) (has||decide (k=14)) (decide (k=14)) (decide (k≤12)) hd3) ?_)))))))))))));obtain⟨o,ho⟩:∃o,kz (3-(d+1)) (has||decide (k=14)) v (decide (k=14)) (decide (k≤12))=o:=⟨_,rfl⟩;rw[ho]at hF ⊢;refine bl rfl rfl (bl rfl rfl (zzA (aU (cs:=[gg 3 (dJ_ o.1)]) (h':=[plE,cV cM,cV (.mk k [] 0 [] false 0 0 false o.1),.ak ⟨80,[i_ ((d:Int)+1),b_ (has||decide (k=14))],true⟩]) rfl rfl rfl (by cases dJ_ o.1<;>rfl) (by simp[fI]) rfl (by simp only[abg,List.all_nil,oV];rfl) rfl (kJ (s:=.mk k [] 0 [] false 0 0 false o.1) rfl ?_))));exact ret _ _ _ rfl hF
end
section
open Go Go.Aw Go.dD Go.RowKit
open Go.bo hiding u1 ae
def lk(m e sz:Nat)(x:AV)(H:aa)(rows:List (List AV)):Prop:=(rows=[]∧x=bI)∨(rows≠[]∧∃tid,m≤tid∧x=.sb tid sz rows∧H[tid]?=some (.tok e sz rows.length))
section
variable {m e sz:Nat} {x:AV} {H H':aa} {rows:List (List AV)}
def lk.app(g:lk m e sz x H rows)(j:aa):lk m e sz x (H++j) rows:=by
 rcases g with g|⟨h,id,hm,rfl,h2⟩
 ·exact .inl g
 ·exact .inr ⟨h,id,hm,rfl,by rw[gO (eQ.1 h2).1];exact h2⟩
def lk.set(g:lk m e sz x H rows)(hi:H[i]?=some (.ak b)):lk m e sz x (H.set i y) rows:=by
 rcases g with g|⟨h,id,hm,rfl,h2⟩
 ·exact .inl g
 ·exact .inr ⟨h,id,hm,rfl,by rw[iF (fun q=>by subst q;rw[h2]at hi;cases hi)];exact h2⟩
def lk.le(g:lk m e sz x H rows):jS [x] [gg sz rows]:=by
 rcases g with⟨rfl,rfl⟩|⟨h,id,hm,rfl,h2⟩
 ·exact⟨Le.refl _,trivial⟩
 ·cases rows with
  | nil=>exact absurd rfl h
  | cons r l=>exact⟨⟨rfl,rfl⟩,trivial⟩
def lk.Pj(g:lk m e sz x H rows):Le x (gg sz rows):=g.le.1
def xJ{bytes:Nat}(g:lk m e sz x H rows)(hm:m≤H.length)(hr:dy sz r=true)(hb:bytes≤1000)(hl:rows.length<2^36){K:AV→aa→Prop}
 (q:∀x' H',lk m e sz x' H' (rows++[r])→oa H H'→(∀(id:Nat) (en:aK) (h:aa),h.length≤m→Mo id en h H→Mo id en h H')→(∀(e2 sz2:Nat) (x2:AV) (rows2:List (List AV)),e2≠e→lk m e2 sz2 x2 H rows2→lk m e2 sz2 x2 H' rows2)→K x' H'):bR false e sz bytes x (.sl sz [r]) H K:=by
 have hall:[r].all (dy sz)=true:=by rw[abg,hr];rfl
 rcases g with⟨rfl,rfl⟩|⟨hne,id,hmi,rfl,ht⟩
 ·unfold bR eI;rw[gM];refine⟨hall,⟨by simp[maxLen],by simp;omega⟩, ?_⟩;exact q _ _ (.inr ⟨by simp,_,hm,rfl,by simp⟩) (oa.app _ _) (fun id en h _ mo=>mo.tail _) fun e2 sz2 x2 rows2 _ g2=>g2.app _
 ·refine D6 rfl ht rfl gM hall ⟨by unfold maxLen;simp;omega,by
   simp only[aaP,abr,aa4]
   calc (rows.length+1)*bytes≤(2^36)*1000:=Nat.mul_le_mul (by omega) hb
    _≤_:=by decide⟩ ?_
  have hlt:=(eQ.1 ht).1;refine q _ _ (.inr ⟨by simp,id,hmi,rfl,by rw[iD hlt];simp⟩) ⟨by simp,fun j b hj=>?_⟩ (fun i en h hle mo=>mo.vN (by omega) _) fun e2 sz2 x2 rows2 hne g2=>?_
  ·rw[iF (fun z=>by subst z;rw[ht]at hj;cases hj)];exact hj
  ·rcases g2 with g2|⟨h3,id2,hm2,rfl,h4⟩
   ·exact .inl g2
   ·exact .inr ⟨h3,id2,hm2,rfl,by rw[iF (fun z=>by subst z;rw[ht]at h4;injection (DO h4) with q1;exact hne q1.symm)];exact h4⟩
end
def lk.mv{m e sz id:Nat}{rows:List (List AV)}{en:aK}(g:lk m e sz x H rows)(hid:id<m)(mo:Mo id en H H'):lk m e sz x H' rows:=by
 rcases g with g|⟨h,tid,hm,rfl,h2⟩
 ·exact .inl g
 ·exact .inr ⟨h,tid,hm,rfl,by rw[mo.other (eQ.1 h2).1 (by omega)];exact h2⟩
structure oe(h:aa)(id P X:Nat)(pl e:aK)(x:Sm)(a:AV)(rows:List (List AV))(H:aa):Prop where
 mo:Mo id e h H
 p:H[P]?=some pl
 x:H[X]?=some (cV x)
 g:lk h.length 46 9 a H rows
 l:id<h.length∧h.length≤P∧P<X
section
variable {h H H':aa} {id P X:Nat} {pl e e':aK} {x x':Sm} {a:AV} {rows:List (List AV)}
def oe.lt(s:oe h id P X pl e x a rows H):X<H.length:=(eQ.1 s.x).1
def oe.rd(s:oe h id P X pl e x a rows H):H[id]?=some e:=s.mo.at s.l.1
def oe.mv(s:oe h id P X pl e x a rows H)(m:Mo id e' H H'):oe h id P X pl e' x a rows H':=by
 have h1:=s.lt;have h2:=s.l;exact⟨s.mo.trans s.l.1 m,by rw[m.other (by omega) (by omega)];exact s.p,by rw[m.other h1 (by omega)];exact s.x,s.g.mv s.l.1 m,s.l⟩
def oe.app(s:oe h id P X pl e x a rows H)(j:aa):oe h id P X pl e x a rows (H++j):=by
 have q:∀{i:Nat} {en:aK},H[i]?=some en→(H++j)[i]?=some en:=fun h=>by rw[gO (eQ.1 h).1];exact h
 exact⟨s.mo.tail j,q s.p,q s.x,s.g.app j,s.l⟩
def oe.aaa(s:oe h id P X pl e x a rows H)(x':Sm):oe h id P X pl e x' a rows (H.set X (cV x')):=by
 have h1:=s.lt;have h2:=s.l;exact⟨s.mo.vN (by omega) _,by rw[iF (by omega)];exact s.p,iD h1,s.g.set s.x,s.l⟩
def oe.st{F:aa→Prop}(s:oe h id P X pl e x a rows H)(x':Sm)(k:oe h id P X pl e x' a rows (H.set X (cV x'))→F (H.set X (cV x'))):ao 9 (.op X 0) (.agg (nS_ x')) H F:=
 aU (cs:=nS_ x') rfl s.x rfl rfl (by simp[fI]) (fI x') (rn x') (by rw[kY (by simp[fI])]) (k (s.aaa x'))
end
theorem Mn[Laid]{id:Nat}{F:aa→Prop}(rd:h[id]?=some (dF v (y:: r)))(hs:(y:: r) <:+ v)(hv:v.length<2^40)(k1:∀z q,r=z:: q→F (h.set id (dF v q)))(k2:r=[]→∀e,F (h.set id e)):
 ca p_ (.op id 0) fun v11=>bg 1 v11 fun v12=>ah false 1 v12 h fun v13=>ag .add v13 (i_ 2) fun v14=>ca p_ (.op id 0) fun v15=>bg 1 v15 fun v16=>ao 1 v16 v14 h F:=by
 have hle:=hs.length_le;simp at hle;refine bA (zzA (zzU rd rfl (zzP (by unfold aJ;simp;omega) (bA (zzA ?_)))));cases r with
 | nil=>exact aU (cs:=[i_ (((v.length-([y]:List Vl).length:Nat):Int)+2)]) rfl rd rfl rfl (by simp) rfl rfl rfl (k2 rfl _)
 | cons z q =>
   have e:((v.length-(y:: z:: q).length:Nat):Int)+2=((v.length-q.length:Nat):Int):=by simp at hle ⊢;omega
   rw[e];exact aU (cs:=[i_ ((v.length-q.length:Nat):Int)]) (h':=h.set id (dF v q)) rfl rd rfl rfl (by simp) rfl rfl rfl (k1 z q rfl)
def Fw(l:List Sm):Option (List Sm×List Vl)→Option (List Sm×List Vl)
 | some (m,r)=>some (l++m,r)
 | none=>none
def LB(l:List Sm)(x:Sm)(o:Option (List Sm×List Vl)):Fw l (iI x o)=Fw (l++[x]) o:=by
 cases o with
 | none=>rfl
 | some y=>simp[Fw,iI]
section
variable {fn:ae→List Vl→Sm×Bool} {t u:Vl} {q:List Vl}
def Oz(h4:¬t.kind=4)(h9:t.kind=9∧t.text=[46]):di fn [t]=none:=by rw[di.eq_def];dsimp only;rw[if_neg h4,if_pos h9]
def FO(h4:¬t.kind=4)(h9:t.kind=9∧t.text=[46]):di fn (t:: u:: q)=if u.kind=1 then iI (dx 2 u.text) (di fn q) else none:=by rw[di.eq_def];dsimp only;rw[if_neg h4,if_pos h9]
def FN(h4:¬t.kind=4)(h9:¬(t.kind=9∧t.text=[46]))(h19:t.kind=19):di fn (t:: q)=if (lO t.list).2=true then iI (lO t.list).1 (di fn q) else none:=by rw[di.eq_def];dsimp only;rw[if_neg h4,if_neg h9,if_pos h19]
def Oy(h4:¬t.kind=4)(h9:¬(t.kind=9∧t.text=[46]))(h19:¬t.kind=19)(h16:t.kind=16):di fn [t]=none:=by rw[di.eq_def];dsimp only;rw[if_neg h4,if_neg h9,if_neg h19,if_pos h16]
def su(h4:¬t.kind=4)(h9:¬(t.kind=9∧t.text=[46]))(h19:¬t.kind=19)(h16:t.kind=16):di fn (t:: u:: q)=if u.kind=1 then (if (mB u.text).2=true then iI (mB u.text).1 (di fn q) else none)
 else if u.kind=2 then (if (fn u.text u.list).2=true then iI (fn u.text u.list).1 (di fn q) else none) else none:=by rw[di.eq_def];dsimp only;rw[if_neg h4,if_neg h9,if_neg h19,if_pos h16]
end
end
section
open Go Go.Aw Go.dD Go.RowKit
open Go.bo hiding u1 ae
def Jv(a b:List Sm):dN_ (a++b)=dN_ a++dN_ b:=by simp[B4]
def Rnd(fn:ae→List Vl→Sm×Bool)(h:aa)(id P X:Nat)(pl:aK)(v rest:List Vl)(a:AV)(rows:List (List AV))(s:List AV)(H:aa):Prop:=
 ∃(x:Sm) (b:Bool) (e:aK),s=[b_ b]∧oe h id P X pl e x a rows H∧(b=true→∃rest',e=dF v rest'∧di fn rest=iI x (di fn rest')∧rest' <:+ v∧rest'.length<rest.length)∧(b=false→di fn rest=none)
variable [bp]
theorem Ms(hn:n≤2^30)(hP:D3 n){id:Nat}{has:Bool}{K:AV→aa→Prop}(rd:h[id]?=some (dF v r))(hs:r <:+ v)(hz:bV v≤n)(hb:iX v)(hd:d≤3)(ex:x=.op id 0)
 (k1:∀ss r' H,di (iz (dm d has)) r=some (ss,r')→Mo id (dF v r') h H→K (.ay [gg 9 (dN_ ss),tt]) H)
 (k2:∀e H,di (iz (dm d has)) r=none→Mo id e h H→K (.ay [bI,ff]) H) :
 bx p_ (.fn (.func 78) [] []) [x,wB d has] h K:=by
 subst ex;have hid:=(eQ.1 rd).1;have hlv:=mP v;obtain⟨fn,hfn⟩:∃fn,iz (dm d has)=fn:=⟨_,rfl⟩;rw[hfn]at k1 k2;refine cB (by kernel_rfl) rfl (K0:=fun w H=>(∃ss r',di fn r=some (ss,r')∧Mo id (dF v r') h H∧w=.ay [gg 9 (dN_ ss),tt])∨(∃e,di fn r=none∧Mo id e h H∧w=.ay [bI,ff])) ?_ (fun w H z=>z.elim (fun⟨ss,r',a,b,c⟩=>by subst c;exact k1 ss r' H a b) fun⟨e,a,b,c⟩=>by subst c;exact k2 e H a b);refine (V78 _ _).bJ ?_;unfold Yi;obtain⟨plE,hplE⟩:∃plE:aK,plE=.ak ⟨80,[i_ d,b_ has],true⟩:=⟨_,rfl⟩;have lP:∀{H:aa} {i:Nat} {K:AV→Prop},H[i]?=some plE→K (wB d has)→ah true 2 (.op i 0) H K:=fun h q=>iq (cs:=[i_ d,b_ has]) (b:=⟨80,[i_ d,b_ has],true⟩) rfl (by rw[h,hplE]) (by simp) rfl q;refine bT (cs:=[i_ d,b_ has]) (n:=h.length) (h':=h++[plE]) rfl rfl rfl (by rw[hplE]) ?_;have m0:Mo id (dF v r) h (h++[plE]):=(Mo.refl rd).tail _;refine aZ (α:=List Sm×List Vl×AV×aa) (fun x=>di fn r=Fw x.1 (di fn x.2.1)∧x.2.1 <:+ v∧x.1.length+x.2.1.length≤r.length∧Mo id (dF v x.2.1) h x.2.2.2∧x.2.2.2[h.length]?=some plE∧lk h.length 46 9 x.2.2.1 x.2.2.2 (dN_ x.1)) (fun x=>[x.2.2.1]) (fun x=>x.2.2.2) (fun x=>x.2.1.length) ([],r,bI,h++[plE]) ⟨by cases di fn r<;>rfl,hs,by simp,m0,by simp,.inl ⟨rfl,rfl⟩⟩ (Wk.refl _ _ _ (bY _)) ?_;rintro⟨done,rest,a,H1⟩ ⟨hpre,hsr,hlen,mo,hp,hg⟩;dsimp only at hpre hsr hlen mo hp hg ⊢;have hle:=hs.length_le;have hlr:=hsr.length_le;have hH1:=mo.len;have hP1:=(eQ.1 hp).1;refine ba (cs:=nS_ cM) rfl (bT (cs:=nS_ cM) (n:=H1.length) (h':=H1++[cV cM]) rfl rfl rfl rfl (aU (cs:=nS_ cM) (h':=H1++[cV cM]) (b:=⟨46,nS_ cM,true⟩) rfl (by simp) rfl rfl (by simp[fI]) rfl rfl (by rw[IF _ _ (bY _)];simp;rfl) ?_));have s2:oe h id h.length H1.length plE (dF v rest) cM a (dN_ done) (H1++[cV cM]):=⟨mo.tail _,by rw[gO hP1];exact hp,by simp,hg.app _,hid,bY _,hP1⟩;obtain⟨X,hX⟩:∃X,H1.length=X:=⟨_,rfl⟩;obtain⟨H2,h2⟩:∃H2,H1++[cV cM]=H2:=⟨_,rfl⟩;rw[hX,h2]at s2;rw[hX,h2];clear h2;refine nD (n:=1) s2.rd hsr rfl (by omega) fun H3 m3=>?_;have s3:=s2.mv m3;refine jy ?_;have hT1:(H3++[aK.ak ⟨70,(cf rest 1).row,true⟩])[H3.length]?=some (.ak ⟨70,(cf rest 1).row,true⟩):=by simp
 have s4:=s3.app [aK.ak ⟨70,(cf rest 1).row,true⟩];obtain⟨T1,hT1l⟩:∃T1,H3.length=T1:=⟨_,rfl⟩;obtain⟨H4,h4⟩:∃H4,H3++[aK.ak ⟨70,(cf rest 1).row,true⟩]=H4:=⟨_,rfl⟩;have hT1X:X<T1:=by have:=s3.lt;omega
 rw[h4,hT1l]at hT1;rw[h4]at s4;rw[hT1l,h4];clear h4 hT1l;have hidT:id<T1:=by have:=s4.l;omega
 refine cS (Rnd fn h id h.length X plE v rest a (dN_ done)) ?_ ?_
 ·-- what comes behind
  rintro _ H ⟨y,b,e,rfl,s,hy1,hy0⟩;refine zzO ?_;cases b with
  | false =>
    refine zzL rfl ?_;exact⟨_,_,Wk.refl _ _ _ s.mo.len,.inr ⟨e,by rw[hpre,hy0 rfl];rfl,s.mo,rfl⟩⟩
  | true =>
    obtain⟨rest',rfl,hc,hs',hl'⟩:=hy1 rfl;refine zzK rfl (kJ s.x (lD (cs:=nS_ y) rfl (fI y) rfl (rn y) ?_));refine xJ s.g s.mo.len (by unfold dy;rw[fI,rn];rfl) (by decide) (by simp[B4];omega) fun a' H' g' bk mv _=>?_;refine aq ?_;refine⟨(done++[y],rest',a',H'),⟨by rw[hpre,hc,LB],hs',by simp;omega,mv id _ h (bY _) s.mo, ?_,by rw[Jv];simpa[dN_]using g'⟩,Wk.refl _ _ _ (by have:=s.mo.len;have:=bk.1;have:=hplE;have h9:=(eQ.1 s.p).1;simp;omega),hl'⟩;rw[hplE];exact bk.2 _ _ (by rw[s.p,hplE])
 ·intro F hF;refine nD (n:=0) s4.rd hsr rfl (by omega) fun H5 m5=>?_;have s5:=s4.mv m5;have hT15:H5[T1]?=some (.ak ⟨70,(cf rest 1).row,true⟩):=by rw[m5.other (eQ.1 hT1).1 (by omega)];exact hT1
  refine jy ?_;have hT0:(H5++[aK.ak ⟨70,(cf rest 0).row,true⟩])[H5.length]?=some (.ak ⟨70,(cf rest 0).row,true⟩):=by simp
  have hT16:(H5++[aK.ak ⟨70,(cf rest 0).row,true⟩])[T1]?=some (.ak ⟨70,(cf rest 1).row,true⟩):=by rw[gO (eQ.1 hT15).1];exact hT15
  have s6:=s5.app [aK.ak ⟨70,(cf rest 0).row,true⟩];obtain⟨T0,hT0l⟩:∃T0,H5.length=T0:=⟨_,rfl⟩;obtain⟨H6,h6⟩:∃H6,H5++[aK.ak ⟨70,(cf rest 0).row,true⟩]=H6:=⟨_,rfl⟩;have hT0X:X<T0:=by have:=s5.lt;omega
  rw[h6,hT0l]at hT0;rw[h6]at hT16 s6;rw[hT0l,h6];clear h6 hT0l hT15 m5 s5;refine zzA (zzU hT0 rfl (zzG ?_))
  by_cases c4:(cf rest 0).k=4
  ·-- an identifier
   refine zzL (oF c4) ?_;cases rest with
   | nil=>exact absurd c4 (by decide)
   | cons t q =>
     have c4:t.kind=4:=c4;refine⟨X, ?_⟩;refine zzA (zzU hT0 rfl (ba (cs:=nS_ (dx 1 t.text)) rfl (zzA (lj (qa (by omega)) (zzU hT0 rfl (lj (by simp[xl]) ?_))))));refine s6.st (dx 1 t.text) fun s7=>?_;refine qX s7.rd hsr (by omega) (aq ?_);refine hF _ _ ⟨_,t.flag,_,rfl,s7.mv (Mo.set id (dF v q) _),fun z=>⟨q,rfl, ?_,(List.suffix_cons _ _).trans hsr,by simp⟩,fun z=>?_⟩
     ·rw[di.eq_def];dsimp only;rw[if_pos c4,if_pos z]
     ·rw[di.eq_def];dsimp only;rw[if_pos c4,if_neg (by rw[z];decide)]
  refine zzK (nO c4) (zzA (zzU hT0 rfl (zzG ?_)));refine mA (decide ((cf rest 0).k=9)&&decide ((cf rest 0).t=[46])) rfl (fun z=>by rw[z];rfl) (fun z F2 hF2=>?_) (fun s hs2=>lv hs2 ?_)
  ·refine zzA (zzU hT0 rfl (zzI (aq ?_)));rw[z,Bool.true_and]at hF2;exact hF2
  by_cases c9:(cf rest 0).k=9∧(cf rest 0).t=[46]
  ·-- a class
   refine zzL (by simp[c9.1,c9.2]) ?_;cases rest with
   | nil=>exact absurd c9.1 (by decide)
   | cons t q =>
     have c4:¬t.kind=4:=c4;have c9:t.kind=9∧t.text=[46]:=c9;refine⟨X, ?_⟩;refine zzA (zzU hT16 rfl (ba (cs:=nS_ (dx 2 (cf (t:: q) 1).t)) rfl (zzA (lj (qa (by omega)) (zzU hT16 rfl (zzG (lj (by simp[xl]) ?_)))))));refine s6.st _ fun s7=>?_;refine Mn s7.rd hsr (by omega) (fun u q2 hq=>?_) (fun hq e=>?_)
     ·subst hq;refine aq ?_;refine hF _ _ ⟨_,_,_,rfl,s7.mv (Mo.set id (dF v q2) _),fun z=>⟨q2,rfl, ?_,((List.suffix_cons _ _).trans (List.suffix_cons _ _)).trans hsr,by simp;omega⟩,fun z=>?_⟩
      ·have z:u.kind=1:=oN z;rw[FO c4 c9,if_pos z];rfl
      ·have z:¬u.kind=1:=tO z;rw[FO c4 c9,if_neg z]
     ·subst hq;refine aq ?_;exact hF _ _ ⟨_,_,_,rfl,s7.mv (Mo.set id e _),(fun z=>by cases z),fun z=>Oz c4 c9⟩
  refine zzK (by
   by_cases z:(cf rest 0).k=9
   ·have:¬(cf rest 0).t=[46]:=fun w=>c9 ⟨z,w⟩;simp[this]
   ·simp[z]) ?_
  refine zzA (zzU hT0 rfl (zzG ?_))
  by_cases oL:(cf rest 0).k=19
  ·-- what is in square brackets
   refine zzL (oF oL) ?_;cases rest with
   | nil=>exact absurd oL (by decide)
   | cons t q =>
     have c4:¬t.kind=4:=c4;have c9:¬(t.kind=9∧t.text=[46]):=c9;have oL:t.kind=19:=oL;have hzt:=uL (hsr.subset (abn (a:=t) (l:=q)));have hzt2:=tK t;have hll:=mP t.list;refine Mq (n:=0) (y:=t) s6.rd hsr rfl rfl (by omega) (uCon (M8 t.list (by omega)) (bl rfl rfl (bl rfl rfl ?_)));refine s6.st _ fun s7=>?_;refine qX s7.rd hsr (by omega) (aq ?_);refine hF _ _ ⟨_,_,_,rfl,s7.mv (Mo.set id (dF v q) _),fun z=>⟨q,rfl, ?_,(List.suffix_cons _ _).trans hsr,by simp⟩,fun z=>?_⟩
     ·rw[FN c4 c9 oL,if_pos z]
     ·rw[FN c4 c9 oL,if_neg (by rw[z];decide)]
  refine zzK (nO oL) (zzA (zzU hT0 rfl (zzG ?_)))
  by_cases sS:(cf rest 0).k=16
  ·-- a pseudo-class
   refine zzL (oF sS) ?_;cases rest with
   | nil=>exact absurd sS (by decide)
   | cons t q =>
     have c4:¬t.kind=4:=c4;have c9:¬(t.kind=9∧t.text=[46]):=c9;have oL:¬t.kind=19:=oL;have sS:t.kind=16:=sS;refine cS (fun s H=>∃(y:Sm) (b:Bool),s=[Aw.b_ b]∧oe h id h.length X plE (dF v (t:: q)) y a (dN_ done) H∧(b=true→∃u q2,q=u:: q2∧di fn (t:: q)=iI y (di fn q2))∧(b=false→di fn (t:: q)=none)) ?_ ?_
     ·rintro _ H ⟨y,b,rfl,s7,hy1,hy0⟩;refine Mn s7.rd hsr (by omega) (fun u q2 hq=>?_) (fun hq e=>?_)
      ·subst hq;refine aq ?_;refine hF _ _ ⟨y,b,_,rfl,s7.mv (Mo.set id (dF v q2) _),fun z=>⟨q2,rfl, ?_,((List.suffix_cons _ _).trans (List.suffix_cons _ _)).trans hsr,by simp;omega⟩,hy0⟩;obtain⟨u',q',e1,e2⟩:=hy1 z;cases e1;exact e2
      ·subst hq;refine aq ?_;refine hF _ _ ⟨y,b,_,rfl,s7.mv (Mo.set id e _),fun z=>?_,hy0⟩;obtain⟨u',q',e1,e2⟩:=hy1 z;cases e1
     ·intro F2 hF2;refine zzA (zzU hT16 rfl (zzG ?_))
      by_cases k1':(cf (t:: q) 1).k=1
      ·refine zzL (oF k1') ?_;cases q with
       | nil=>exact absurd k1' (show ¬(0:Int)=1 by decide)
       | cons u q2 =>
         have k1':u.kind=1:=k1';refine zzA (zzU hT16 rfl (uCon (Nn _) (bl rfl rfl (bl rfl rfl ?_))));refine s6.st _ fun s7=>?_;refine aq ?_;refine hF2 _ _ ⟨_,_,rfl,s7,fun z=>⟨u,q2,rfl, ?_⟩,fun z=>?_⟩
         ·rw[su c4 c9 oL sS,if_pos k1',if_pos (show (mB u.text).2=true from z)];rfl
         ·rw[su c4 c9 oL sS,if_pos k1',if_neg (by show ¬(mB u.text).2=true;rw[show (mB u.text).2=false from z];decide)]
      refine zzK (nO k1') (zzG ?_)
      by_cases k2':(cf (t:: q) 1).k=2
      ·refine zzL (oF k2') ?_;cases q with
       | nil=>exact absurd k2' (show ¬(0:Int)=2 by decide)
       | cons u q2 =>
         have k1':¬u.kind=1:=k1';have k2':u.kind=2:=k2';have humem:u∈v:=hsr.subset (by simp);have hzt:=uL humem;have hzt2:=tK u;refine zzA (zzU hT16 rfl ?_);refine⟨_,Mq (n:=1) (y:=u) s6.rd hsr rfl rfl (by omega) ⟨rfl,rfl⟩, ?_⟩;refine lP s6.p ?_;refine⟨_,uCon (Eo hn hP u.text u.list (by omega) (RG (yk hb humem)) d has hd) ⟨rfl,rfl⟩, ?_⟩;rw[hfn];refine bl rfl rfl (bl rfl rfl ?_);refine s6.st _ fun s7=>?_;refine aq ?_;refine hF2 _ _ ⟨_,_,rfl,s7,fun z=>⟨u,q2,rfl, ?_⟩,fun z=>?_⟩
         ·rw[su c4 c9 oL sS,if_neg k1',if_pos k2',if_pos z]
         ·rw[su c4 c9 oL sS,if_neg k1',if_pos k2',if_neg (by rw[z];decide)]
      refine zzK (nO k2') (aq ?_);refine hF2 _ _ ⟨_,false,rfl,s6,(fun z=>by cases z),fun _=>?_⟩;cases q with
      | nil=>exact Oy c4 c9 oL sS
      | cons u q2 =>
        have k1':¬u.kind=1:=k1';have k2':¬u.kind=2:=k2';rw[su c4 c9 oL sS,if_neg k1',if_neg k2']
  refine zzK (nO sS) ?_;have hsm:di fn rest=some ([],rest):=by
   cases rest with
   | nil=>rw[di.eq_def]
   | cons t q =>
     have c4:¬t.kind=4:=c4;have c9:¬(t.kind=9∧t.text=[46]):=c9;have oL:¬t.kind=19:=oL;have sS:¬t.kind=16:=sS;rw[di.eq_def];dsimp only;rw[if_neg c4,if_neg c9,if_neg oL,if_neg sS]
  rw[hsm]at hpre;refine⟨_,_,Wk.le (s':=[.ay [gg 9 (dN_ done),tt]]) s6.mo.len ⟨⟨s6.g.Pj,Le.refl _,trivial⟩,trivial⟩,.inl ⟨done,rest, ?_,s6.mo,rfl⟩⟩;rw[hpre];simp[Fw]
end
section
open Go Go.Aw Go.dD Go.RowKit
open Go.bo hiding u1 ae
def bn.ZF[Laid]{xs ys rest:List AV}(c:bn P f (.agg ys:: rest) r)(d:kB xs ys)(p:aO xs):bn P f (.agg xs:: rest) r:=by
 obtain⟨pa,pr,c⟩:=c;refine⟨?_,pr,fun base ι S w vs h1 h2=>c base ι S w vs ?_ h2⟩
 ·simp only[aO,Aw.Pure]at pa ⊢;exact⟨p,pa.2⟩
 ·rw[aB]at h1 ⊢;obtain⟨v,vs',rfl,h3,h4⟩:=h1;refine⟨v,vs',rfl, ?_,h4⟩;rw[ar]at h3 ⊢;obtain⟨us,e,h5⟩:=h3;exact⟨us,e,aB.qx d _ h5⟩
def Em[Laid](p:Cp)(hz:zP p<2^60)(d:Nat)(has:Bool)(hd:d≤3):bn p_ 50 [.agg (nP_ p),wB d has] (b_ (cN d has p)):=
 bn.ZF ((Eg (zP p) hz).2.1 p (bY _) d has hd) (K7 p) (HF p)
abbrev O9(cs:List Int):List (List AV):=cs.map fun c=>[u1 c]
abbrev zw(lead:Int)(aP aC:AV):aK:=.ak ⟨39,[u8 lead,aP,aC],true⟩
abbrev kN(t:ae)(a:AV):aK:=.ak ⟨42,[.str t,a],true⟩
abbrev qY:aK:=zw 0 bI bI
structure iV(d:Nat)(has:Bool)(B:Nat)(lead:Int)(re:aK)(ps:List Cp)(cs:List Int)(aP aC:AV)(H:aa):Prop where
 p:H[0]?=some (.ak ⟨80,[i_ d,b_ has],true⟩)
 z:H[1]?=some qY
 rd:H[2]?=some re
 o:H[B]?=some (zw lead aP aC)
 gP:lk 3 42 2 aP H (fC_ ps)
 gC:lk 3 5 1 aC H (O9 cs)
 b:2<B
section
variable {d:Nat} {has:Bool} {re re':aK} {B:Nat} {lead:Int} {ps:List Cp} {cs:List Int} {aP aC:AV} {H H':aa}
def iV.lt(c:iV d has B lead re ps cs aP aC H):B<H.length:=(eQ.1 c.o).1
def iV.mv(c:iV d has B lead re ps cs aP aC H)(m:Mo 2 re' H H'):iV d has B lead re' ps cs aP aC H':=by
 have h1:=c.lt;have h2:=c.b;exact⟨by rw[m.other (by omega) (by decide)];exact c.p,by rw[m.other (by omega) (by decide)];exact c.z,m.at (by omega),by rw[m.other h1 (by omega)];exact c.o,c.gP.mv (by decide) m,c.gC.mv (by decide) m,c.b⟩
def iV.app(c:iV d has B lead re ps cs aP aC H)(j:aa):iV d has B lead re ps cs aP aC (H++j):=by
 have q:∀{i:Nat} {en:aK},H[i]?=some en→(H++j)[i]?=some en:=fun h=>by rw[gO (eQ.1 h).1];exact h
 exact⟨q c.p,q c.z,q c.rd,q c.o,c.gP.app j,c.gC.app j,c.b⟩
def iV.Ot{i:Nat}{b:jJ}{y:aK}(c:iV d has B lead re ps cs aP aC H)(hi:H[i]?=some (.ak b))(h2:2<i)(hB:i≠B):iV d has B lead re ps cs aP aC (H.set i y):=by
 exact⟨by rw[iF (by omega)];exact c.p,by rw[iF (by omega)];exact c.z,by rw[iF (by omega)];exact c.rd,by rw[iF hB];exact c.o,c.gP.set hi,c.gC.set hi,c.b⟩
def iV.YG{lead':Int}{F:aa→Prop}(c:iV d has B lead re ps cs aP aC H)(k:iV d has B lead' re ps cs aP aC (H.set B (zw lead' aP aC))→F (H.set B (zw lead' aP aC))):ao 1 (.op B (0+0)) (u8 lead') H F:=by
 have h1:=c.b;refine aU (cs:=[u8 lead']) rfl c.o rfl rfl (by simp) rfl rfl rfl (k ⟨by rw[iF (by omega)];exact c.p,by rw[iF (by omega)];exact c.z,by rw[iF (by omega)];exact c.rd,iD c.lt,c.gP.set c.o,c.gC.set c.o,c.b⟩)
def iV.Z4{rb:jJ}{p:Cp}{KA:aa→Prop}(c:iV d has B lead (.ak rb) ps cs aP aC H)(hl:ps.length<2^36)(k:∀aP' H',iV d has B lead (.ak rb) (ps++[p]) cs aP' aC H'→H.length≤H'.length→KA H'):
 bR false 42 2 40 aP (.sl 2 [nP_ p]) H fun v84 g85=>bg 1 (.op B 0) fun v86=>ao 1 v86 v84 g85 KA:=by
 have h1:=c.lt;have h2:=c.b;have hps:(fC_ ps).length=ps.length:=by simp[xP]
 refine xJ c.gP (by omega) (by cases p;unfold dy;simp only[nP_,aaP,abr,abg,List.all_nil,oV];rfl) (by decide) (by omega) fun a' H' g' bk _ ky=>?_;have gs:bG a'=true:=by rcases g' with⟨_,rfl⟩|⟨_,t,_,rfl,_⟩<;>rfl
 have gv:bh a'=[a']:=by rcases g' with⟨_,rfl⟩|⟨_,t,_,rfl,_⟩<;>rfl
 have ho:=bk.2 _ _ c.o;refine zzA (aU (cs:=[a']) (h':=H'.set B (zw lead a' aC)) rfl ho rfl gv (by simp) rfl (by simp only[abg,List.all_nil,gs];rfl) rfl ?_);have hl':=bk.1;refine k a' _ ⟨by rw[iF (by omega)];exact bk.2 _ _ c.p,by rw[iF (by omega)];exact bk.2 _ _ c.z,by rw[iF (by omega)];exact bk.2 _ _ c.rd,iD (by omega), ?_,(ky _ _ _ _ (by decide) c.gC).set ho,c.b⟩ (by simp;omega);have:fC_ (ps++[p])=fC_ ps++[nP_ p]:=by simp[xP]
 rw[this];exact g'.set ho
def iV.Z3{rb:jJ}{cc:Int}{KA:aa→Prop}(c:iV d has B lead (.ak rb) ps cs aP aC H)(hl:cs.length<2^36)(k:∀aC' H',iV d has B lead (.ak rb) ps (cs++[cc]) aP aC' H'→H.length≤H'.length→KA H'):
 bR false 5 1 1 aC (.sl 1 [[u8 cc]]) H fun v84 g85=>bg 2 (.op B 0) fun v86=>ao 1 v86 v84 g85 KA:=by
 have h1:=c.lt;have h2:=c.b;have hps:(O9 cs).length=cs.length:=by simp
 refine xJ c.gC (by omega) rfl (by decide) (by omega) fun a' H' g' bk _ ky=>?_;have gs:bG a'=true:=by rcases g' with⟨_,rfl⟩|⟨_,t,_,rfl,_⟩<;>rfl
 have gv:bh a'=[a']:=by rcases g' with⟨_,rfl⟩|⟨_,t,_,rfl,_⟩<;>rfl
 have ho:=bk.2 _ _ c.o;refine zzA (aU (cs:=[a']) (h':=H'.set B (zw lead aP a')) rfl ho rfl gv (by simp) rfl (by simp only[abg,List.all_nil,gs];rfl) rfl ?_);have hl':=bk.1;refine k a' _ ⟨by rw[iF (by omega)];exact bk.2 _ _ c.p,by rw[iF (by omega)];exact bk.2 _ _ c.z,by rw[iF (by omega)];exact bk.2 _ _ c.rd,iD (by omega),(ky _ _ _ _ (by decide) c.gP).set ho, ?_,c.b⟩ (by simp;omega);have:O9 (cs++[cc])=O9 cs++[[u8 cc]]:=by simp
 rw[this];exact g'.set ho
def iV.ld{K:AV→Prop}(c:iV d has B lead re ps cs aP aC H)(k:K (.agg [u8 lead,aP,aC])):ah true 3 (.op B 0) H K:=
 iq (cs:=[u8 lead,aP,aC]) rfl c.o (by simp) rfl k
def iV.lP{K:AV→Prop}(c:iV d has B lead re ps cs aP aC H)(k:K (wB d has)):ah true 2 (.op 0 0) H K:=
 iq (cs:=[i_ d,b_ has]) rfl c.p (by simp) rfl k
def iV.ret[Laid]{b:Bool}(c:iV d has B lead re ps cs aP aC H):
 ao 3 (.op 1 0) (.agg [u8 lead,aP,aC]) H fun g=>ah true 3 (.op 1 0) g fun r=>dI (.ay [.agg (nX_ (.mk lead ps cs)),b_ b]) (.ay [r,b_ b]) g:=by
 have h1:=c.lt;have h2:=c.b;have sP:bG aP=true:=by rcases c.gP with⟨_,rfl⟩|⟨_,t,_,rfl,_⟩<;>rfl
 have sC:bG aC=true:=by rcases c.gC with⟨_,rfl⟩|⟨_,t,_,rfl,_⟩<;>rfl
 refine aU (cs:=[u8 lead,aP,aC]) (h':=H.set 1 (zw lead aP aC)) rfl c.z rfl rfl (by simp) rfl (by simp only[abg,List.all_nil,sP,sC];rfl) rfl ?_;refine iq (cs:=[u8 lead,aP,aC]) (b:=⟨39,[u8 lead,aP,aC],true⟩) rfl (iD (by omega)) (by simp) rfl ?_;refine⟨_,_,Wk.le (s':=[.ay [.agg (nX_ (.mk lead ps cs)),b_ b]]) (aa2 _) ⟨⟨?_,Le.refl _,trivial⟩,trivial⟩,rfl⟩;rw[nX_];exact⟨Le.refl _,c.gP.Pj,c.gC.Pj,trivial⟩
end
end
section
open Go Go.Aw Go.dD Go.RowKit
open Go.bo hiding u1 ae
abbrev cxR(o:Cx×Bool):AV:=.ay [.agg (nX_ o.1),b_ o.2]
variable [bp]
def Gm(hn:n<2^30)(hP:D3 n)(v:List Vl)(hz:bV v≤n)(hb:iX v)(d:Nat)(has rel:Bool)(hd:d≤3):bn p_ 46 [.sl 6 (cA v),wB d has,b_ rel] (cxR (kE (iz (dm d has)) (cN d has) rel v)):=by
 refine (V46 _ _ _).bj (by simp only[aO,Aw.Pure,and_true,true_and];exact lz v) (by simp only[aO,Aw.Pure,and_true];exact HI _) ?_;have hlv:=mP v;have hfz:∀s v,zS (iz (dm d has) s v).1≤1+3*bV v:=fun s v=>Jk (Vf d has) s v;unfold XR;refine bT (cs:=[i_ d,b_ has]) (n:=0) (h':=[.ak ⟨80,[i_ d,b_ has],true⟩]) rfl rfl rfl rfl (bT (cs:=[u8 0,bI,bI]) (n:=1) (h':=[.ak ⟨80,[i_ d,b_ has],true⟩,qY]) rfl rfl rfl rfl ?_);refine Ht (α:=Unit) (fun _=>False) (fun _=>[]) (fun _=>[]) (fun _=>0) ?_ (fun _ z=>z.elim);refine ba rfl (bT (cs:=[.sl 6 (cA v),i_ 0]) (n:=2) (h':=[.ak ⟨80,[i_ d,b_ has],true⟩,qY,LI v 0]) rfl rfl rfl rfl ?_);obtain⟨h,hh⟩:∃h,h=[aK.ak ⟨80,[i_ d,b_ has],true⟩,qY,LI v 0]:=⟨_,rfl⟩;have hl3:h.length=3:=by rw[hh];rfl
 have rd0:h[2]?=some (dF v v):=by rw[hh];simp
 have p0:h[0]?=some (.ak ⟨80,[i_ d,b_ has],true⟩):=by rw[hh];rfl
 have z0:h[1]?=some qY:=by rw[hh];rfl
 rw[←hh];clear hh;refine mC rd0 (List.suffix_refl _) rfl (by omega) fun H1 m1=>?_;have l1:=m1.len;refine bT (cs:=[u8 0,bI,bI]) (n:=H1.length) (h':=H1++[qY]) rfl rfl rfl rfl ?_;have c1:iV d has H1.length 0 (dF v (cv v)) [] [] bI bI (H1++[qY]):=⟨by rw[gO (by omega),m1.other (by omega) (by decide)];exact p0,by rw[gO (by omega),m1.other (by omega) (by decide)];exact z0,by rw[gO (by omega)];exact m1.at (by omega),by simp,.inl ⟨rfl,rfl⟩,.inl ⟨rfl,rfl⟩,by omega⟩;obtain⟨B,hB⟩:∃B,H1.length=B:=⟨_,rfl⟩;obtain⟨H2,h2⟩:∃H2,H1++[qY]=H2:=⟨_,rfl⟩;rw[hB,h2]at c1;rw[hB,h2];clear h2 hB m1 l1;have sv:=lJ v;obtain⟨fn,hfn⟩:∃fn,iz (dm d has)=fn:=⟨_,rfl⟩;obtain⟨R,hR⟩:∃R,kE (iz (dm d has)) (cN d has) rel v=R:=⟨_,rfl⟩;have hRd:R=(let c:=kv (cv v)
  if rel=true then jt fn (cN d has) (if c.1=0 then 1 else c.1) (c.2.length+1) [] [] c.2 else jt fn (cN d has) 0 ((cv v).length+1) [] [] (cv v)):=by rw[←hR,hfn];rfl
 rw[hR];rw[hfn]at hfz;dsimp only at hRd;refine cS (fun s H=>s=[]∧∃lead rest,iV d has B lead (dF v rest) [] [] bI bI H∧rest <:+ v∧R=jt fn (cN d has) lead (rest.length+1) [] [] rest) ?_ ?_
 ·rintro _ Hs ⟨rfl,lead,rest0,c0,sf0,hR0⟩;have le0:=sf0.length_le;refine aZ (α:=List Cp×List Int×List Vl×AV×AV×aa×Nat) (fun x=>R=jt fn (cN d has) lead x.2.2.2.2.2.2 x.1 x.2.1 x.2.2.1∧x.2.2.1.length<x.2.2.2.2.2.2∧x.1.length+x.2.2.1.length≤v.length∧x.2.1.length≤x.1.length∧iV d has B lead (dF v x.2.2.1) x.1 x.2.1 x.2.2.2.1 x.2.2.2.2.1 x.2.2.2.2.2.1∧x.2.2.1 <:+ v∧Hs.length≤x.2.2.2.2.2.1.length) (fun _=>[]) (fun x=>x.2.2.2.2.2.1) (fun x=>x.2.2.1.length) ([],[],rest0,bI,bI,Hs,rest0.length+1) ⟨hR0,Nat.lt_succ_self _,by simpa using le0,bY _,c0,sf0,bY _⟩ (Wk.refl _ _ _ (bY _)) ?_;rintro⟨ps,cs,rest,aP,aC,H,fuel⟩ ⟨hRl,hfu,hps,hcs,c,sf,hHs⟩;dsimp only at hRl hfu hps hcs c sf hHs ⊢;have ler:=sf.length_le;have hcl:=c.lt;have hcb:=c.b;obtain⟨fuel,rfl⟩:∃k,fuel=k+1:=⟨fuel-1,by omega⟩;rw[jt]at hRl;refine bT (cs:=[.str [],bI]) (n:=H.length) (h':=H++[kN [] bI]) rfl rfl rfl rfl ?_;have c2:=c.app [kN [] bI];have hC2:(H++[kN [] bI])[H.length]?=some (kN [] bI):=by simp
  obtain⟨C,hC⟩:∃C,H.length=C:=⟨_,rfl⟩;obtain⟨H2,h2⟩:∃H2,H++[kN [] bI]=H2:=⟨_,rfl⟩;have hH2:H2.length=C+1:=by rw[←h2,←hC];simp
  rw[h2]at c2 hC2;rw[hC]at hC2;rw[hC,h2];clear h2;have hCB:C≠B:=by omega
  have hC3:2<C:=by omega
  refine cS (fun s H=>s=[]∧iV d has B lead (dF v (ep rest).2) ps cs aP aC H∧H[C]?=some (kN (ep rest).1 bI)∧H2.length≤H.length) ?_ ?_
  ·rintro _ H3 ⟨rfl,c3,hC3',hl3'⟩;obtain⟨tg,htg⟩:∃tg,ep rest=tg:=⟨_,rfl⟩;have sft:tg.2 <:+ rest:=by rw[←htg];exact (L6 rest).2
   rw[htg]at hRl c3 hC3';refine c3.lP ?_;refine Ms (Nat.le_of_lt hn) hP c3.rd (sft.trans sf) hz hb hd rfl (fun ss r' H4 hsm m4=>?_) (fun e H4 hsm m4=>?_)
   ·rw[hfn]at hsm;rw[hsm]at hRl;dsimp only at hRl;have hone:=Ps hfz (v:=rest) (r:=r') (ss:=ss) (by rw[htg];exact hsm);rw[htg]at hone;have sfr:r' <:+ v:=hone.2.1.trans sf;have c4:=c3.mv m4;have hC4:H4[C]?=some (kN tg.1 bI):=by rw[m4.other (by omega) (by omega)];exact hC3'
    have l4:=m4.len;have hgv:bh (gg 9 (dN_ ss))=[gg 9 (dN_ ss)]:=by cases dN_ ss<;>rfl
    have hzr:=rE sf;refine bl rfl rfl (bl rfl rfl (zzA (aU (cs:=[gg 9 (dN_ ss)]) (h':=H4.set C (kN tg.1 (gg 9 (dN_ ss)))) rfl hC4 rfl hgv (by simp) rfl (by simp only[abg,List.all_nil,oV];rfl) rfl ?_)));have c5:=c4.Ot (y:=kN tg.1 (gg 9 (dN_ ss))) hC4 hC3 hCB;have hC5:(H4.set C (kN tg.1 (gg 9 (dN_ ss))))[C]?=some (kN tg.1 (gg 9 (dN_ ss))):=iD (eQ.1 hC4).1;have l5:(H4.set C (kN tg.1 (gg 9 (dN_ ss)))).length=H4.length:=by simp
    obtain⟨H5,h5⟩:∃H5,H4.set C (kN tg.1 (gg 9 (dN_ ss)))=H5:=⟨_,rfl⟩;rw[h5]at c5 hC5 l5 ⊢;clear h5;obtain⟨p,hp⟩:∃p,Cp.mk tg.1 ss=p:=⟨_,rfl⟩;have hnp:[AV.str tg.1,gg 9 (dN_ ss)]=nP_ p:=by rw[←hp,nP_]
    rw[hp]at hone hRl;refine zzO (aF (zzN rfl (iq (cs:=nP_ p) rfl hC5 (by simp) (by rw[←hnp];rfl) (c5.lP (uCon (Em p (by have:=hone.1;omega) d has hd) (zzO (aq (zzQ ?_))))))));cases hok:cN d has p with
    | false =>
      rw[if_neg (by rw[hok];decide)]at hRl;refine zzL rfl (c5.ld ?_);rw[hRl];exact c5.ret
    | true =>
      rw[if_pos hok]at hRl;have hlt:r'.length<rest.length:=by
       have h1:=hone.2.2 (zv (by rw[hp];exact hok));rcases uP r'.length rest.length with k|k
       ·exact k
       ·have:r'=rest:=hone.2.1.eq_of_length (Nat.le_antisymm hone.2.1.length_le k);subst this;omega
      refine zzK rfl (zzA (zzU c5.o rfl (iq (cs:=nP_ p) rfl hC5 (by simp) (by rw[←hnp];rfl) (lD (cs:=nP_ p) rfl (by rw[←hnp];rfl) rfl (by rw[←hnp];simp only[abg,List.all_nil,oV];rfl) ?_))));refine c5.Z4 (by omega) fun aP' H6 c6 l6=>?_;refine mC c6.rd sfr rfl (by omega) fun H7 m7=>?_;have c7:=c6.mv m7;have l7:=m7.len;have sf7:=(lJ r').trans sfr;refine Bv c7.rd sf7 rfl ?_;obtain⟨q,hq⟩:∃q,cv r'=q:=⟨_,rfl⟩;have hql:q.length≤r'.length:=by rw[←hq];exact (lJ r').length_le
      rw[hq]at hRl c7 sf7 ⊢;cases q with
      | nil =>
        rw[if_pos rfl]at hRl;refine zzL rfl ?_;have hcb7:=c7.b;refine⟨1, ?_⟩;refine c7.ld (zzA (lj (qa (by omega)) (zzU c7.o rfl ?_)));have hlen:∀{K:AV→Prop},K (i_ ((ps++[p]).length:Nat))→iZ aP' K:=by
         intro K k;have e:(fC_ (ps++[p])).length=(ps++[p]).length:=by simp[xP]
         rw[←e]at k;rcases c7.gP with⟨e2,rfl⟩|⟨_,t,_,rfl,_⟩
         ·rw[e2]at k;exact k
         ·exact k
        refine hlen (zzD (lj (by simp[xl]) ?_));have hdec:decide ((((ps++[p]).length:Nat):Int)≤64)=decide (ps.length+1≤64):=by
         simp only[AT,aaP,abr];exact decide_eq_decide.2 (by omega)
        rw[hdec,hRl];exact c7.ret
      | cons q0 q1 =>
        rw[if_neg (by simp)]at hRl;refine zzK rfl ?_;refine Mp c7.rd sf7 rfl (by omega) fun H8 m8=>?_;have c8:=c7.mv m8;have l8:=m8.len;obtain⟨cb,hcb'⟩:∃cb,kv (q0:: q1)=cb:=⟨_,rfl⟩;have sfc:cb.2 <:+ (q0:: q1):=by rw[←hcb'];exact GV _
        have hcl2:=sfc.length_le;rw[hcb']at hRl c8 ⊢;refine cS (fun s H=>H=H8∧∃by':Int,s=[u8 by']∧R=jt fn (cN d has) lead fuel (ps++[p]) (cs++[by']) cb.2) ?_ ?_
        ·rintro _ _ ⟨rfl,by',rfl,hR9⟩;refine zzA (zzU c8.o rfl (lD (cs:=[u8 by']) rfl rfl rfl rfl ?_));refine c8.Z3 (by omega) fun aC' H9 c9 l9=>?_;refine aq ?_;exact⟨(ps++[p],cs++[by'],cb.2,aP',aC',H9,fuel),⟨hR9,by dsimp only;omega,by simp;omega,by simp;omega,c9,sfc.trans sf7,by dsimp only;omega⟩,Wk.refl _ _ _ (by omega),by dsimp only;omega⟩
        ·intro F hF;refine zzG ?_;refine mA (decide (cb.1=0)&&!decide ((q0:: q1).length<r'.length)) rfl (fun z=>by rw[z];rfl) (fun z F2 hF2=>?_) (fun s hs2=>lv hs2 ?_)
         ·refine zzO (aq ?_);rw[z,Bool.true_and]at hF2;exact hF2
         by_cases z1:cb.1=0
         ·rw[if_pos z1]at hRl
          by_cases z2:(q0:: q1).length=r'.length
          ·rw[if_pos z2]at hRl;refine zzL (by rw[z2];simp[z1]) (c8.ld ?_);rw[hRl];exact c8.ret
          ·rw[if_neg z2]at hRl;have:(q0:: q1).length<r'.length:=by omega
           refine zzK (by rw[oF this];simp) (zzG (zzL (oF z1) (aq ?_)));exact hF _ _ ⟨rfl,1,rfl,hRl⟩
         ·rw[if_neg z1]at hRl;refine zzK (by simp[z1]) (zzG (zzK (nO z1) (aq ?_)));exact hF _ _ ⟨rfl,cb.1,rfl,hRl⟩
   ·rw[hfn]at hsm;rw[hsm]at hRl;dsimp only at hRl;have c4:=c3.mv m4;have hC4:H4[C]?=some (kN tg.1 bI):=by rw[m4.other (by omega) (by omega)];exact hC3'
    refine bl rfl rfl (bl rfl rfl (zzA (aU (cs:=[bI]) (h':=H4.set C (kN tg.1 bI)) rfl hC4 rfl rfl (by simp) rfl rfl rfl ?_)));have c5:=c4.Ot (y:=kN tg.1 bI) hC4 hC3 hCB;refine zzO (aF (zzM rfl (aq (zzR (zzL rfl (c5.ld ?_))))));rw[hRl];exact c5.ret
  ·intro F hF;have stT:∀(H:aa) (r:List Vl) (tg:ae) (G:aa→Prop),iV d has B lead (dF v r) ps cs aP aC H→H[C]?=some (kN [] bI)→(iV d has B lead (dF v r) ps cs aP aC (H.set C (kN tg bI))→(H.set C (kN tg bI))[C]?=some (kN tg bI)→G (H.set C (kN tg bI)))→ao 1 (.op C (0+0)) (.str tg) H G:=by
    intro H r tg G c hC k;exact aU (cs:=[.str tg]) rfl hC rfl rfl (by simp) rfl rfl rfl (k (c.Ot (y:=kN tg bI) hC hC3 hCB) (iD (eQ.1 hC).1))
   refine nD (n:=0) c2.rd sf rfl (by omega) fun H3 m3=>?_;have c3:=c2.mv m3;have l3:=m3.len;have hC3':H3[C]?=some (kN [] bI):=by rw[m3.other (by omega) (by omega)];exact hC2
   refine jy ?_;have hT:(H3++[aK.ak ⟨70,(cf rest 0).row,true⟩])[H3.length]?=some (.ak ⟨70,(cf rest 0).row,true⟩):=by simp
   have c4:=c3.app [aK.ak ⟨70,(cf rest 0).row,true⟩];have hC4:(H3++[aK.ak ⟨70,(cf rest 0).row,true⟩])[C]?=some (kN [] bI):=by rw[gO (by omega)];exact hC3'
   have l4:(H3++[aK.ak ⟨70,(cf rest 0).row,true⟩]).length=H3.length+1:=by simp
   obtain⟨T,hTl⟩:∃T,H3.length=T:=⟨_,rfl⟩;obtain⟨H4,h4⟩:∃H4,H3++[aK.ak ⟨70,(cf rest 0).row,true⟩]=H4:=⟨_,rfl⟩;rw[h4,hTl]at hT;rw[h4]at c4 hC4 l4;rw[hTl,h4];clear h4;refine zzA (zzU hT rfl (zzG ?_))
   by_cases k1':(cf rest 0).k=1
   ·refine zzL (oF k1') ?_;cases rest with
    | nil=>exact absurd k1' (show ¬(0:Int)=1 by decide)
    | cons t q =>
      have k1':t.kind=1:=k1';have htg:ep (t:: q)=(cg t.text,q):=by rw[ep,if_pos k1']
      rw[htg]at hF;refine zzA (zzU hT rfl (uCon (jg _) ?_));have em:(cf (t:: q) 0).t.map dX=cg t.text:=rfl;rw[em];refine zzA ?_;refine stT H4 _ _ _ c4 hC4 fun c5 hC5=>?_;refine qX c5.rd sf (by omega) ?_;have c6:=c5.mv (Mo.set 2 (dF v q) _);refine aq ?_;exact hF _ _ ⟨rfl,c6,by rw[iF (by omega)];exact hC5,by simp;omega⟩
   ·refine zzK (nO k1') ?_;refine Bu (c:=42) c4.rd sf rfl (by omega) (fun r' H5 e m5=>?_) (fun H5 e m5=>?_)
    ·have c5:=c4.mv m5;have l5:=m5.len;have hC5:H5[C]?=some (kN [] bI):=by rw[m5.other (by omega) (by omega)];exact hC4
     have htg:ep rest=([42],r'):=by
      cases rest with
      | nil=>cases e
      | cons t q =>
        have k1':¬t.kind=1:=k1';rw[ep,if_neg k1',e]
     rw[htg]at hF;refine zzL rfl (zzA ?_);refine stT H5 _ _ _ c5 hC5 fun c6 hC6=>?_;refine aq ?_;exact hF _ _ ⟨rfl,c6,hC6,by simp;omega⟩
    ·have c5:=c4.mv m5;have l5:=m5.len;have hC5:H5[C]?=some (kN [] bI):=by rw[m5.other (by omega) (by omega)];exact hC4
     have htg:ep rest=([],rest):=by
      cases rest with
      | nil=>rfl
      | cons t q =>
        have k1':¬t.kind=1:=k1';rw[ep,if_neg k1',e]
     rw[htg]at hF;refine zzK rfl (aq ?_);exact hF _ _ ⟨rfl,c5,hC5,by omega⟩
 ·intro F hF;have em:∀lead rest H,iV d has B lead (dF v rest) [] [] bI bI H→rest <:+ v→R=jt fn (cN d has) lead (rest.length+1) [] [] rest→F [] H:=fun lead rest H c s e=>hF _ _ ⟨rfl,lead,rest,c,s,e⟩;cases rel with
  | false =>
    refine zzK rfl (aq ?_);exact em _ _ _ c1 sv (by rw[hRd,if_neg (by decide)])
  | true =>
    rw[if_pos rfl]at hRd;refine zzL rfl ?_;have sc:=(GV (cv v)).trans sv;refine Mp c1.rd sv rfl (by omega) fun H3 m3=>?_;have c3:=c1.mv m3;refine zzA ?_;refine c3.YG fun c4=>?_;refine zzA (zzU c4.o rfl (zzG ?_))
    by_cases q:(kv (cv v)).1=0
    ·rw[if_pos q]at hRd;refine zzL (oF q) (zzA ?_);refine c4.YG fun c5=>?_;refine aq ?_;exact em _ _ _ c5 sc hRd
    ·rw[if_neg q]at hRd;refine zzK (nO q) (aq ?_);exact em _ _ _ c4 sc hRd
end
section
open Go Go.Aw Go.dD Go.RowKit
open Go.bo hiding u1 ae
def pq(pre:List Vl)(rest:List Vl):List (List Vl):=match dR rest with|h:: t=>(pre++h):: t|[]=>[pre]
def OB(pre:List Vl):pq pre []=[pre]:=by unfold pq;rw[dR];simp
def LY(rest:List Vl):pq [] rest=dR rest:=by
 unfold pq;cases h:dR rest with
 | nil=>exact absurd h (xk rest).2
 | cons a t=>simp
def JG(h:x.kind=18)(pre rest:List Vl):pq pre (x:: rest)=pre:: dR rest:=by unfold pq;rw[dR,if_pos h];simp
def LZ(h:¬x.kind=18)(pre rest:List Vl):pq pre (x:: rest)=pq (pre++[x]) rest:=by
 unfold pq;rw[dR,if_neg h];cases e:dR rest with
 | nil=>exact absurd e (xk rest).2
 | cons a t=>simp
def N5(l:List Cx)(x:Cx):dJ_ (l++[x])=dJ_ l++[nX_ x]:=by simp[B6]
def rY(x:Cx):(nX_ x).length=3:=by cases x;rfl
def B5(x:Cx):(nX_ x).all bG=true:=by cases x;simp only[nX_,abg,List.all_nil,oV];rfl
variable [bp]
def Q8(hn:n<2^30)(hP:D3 n):D3 (n+1):=by
 intro v hz hb d has rel forg hd;have hlv:=mP v;have hlen:(cA v).length=v.length:=by simp[eA]
 refine (V32 _ _ _ _).bj (by simp only[aO,Aw.Pure,and_true,true_and];exact lz v) (Od _) ?_;unfold XE;obtain⟨cp,hcp⟩:∃cp,kE (iz (dm d has)) (cN d has) rel=cp:=⟨_,rfl⟩;obtain⟨R,hR⟩:∃R,kz (3-d) has v rel forg=R:=⟨_,rfl⟩;have hR0:R=fu cp forg (dR v) []:=by rw[←hR,←hcp];exact nw hd has v rel forg
 rw[hR];refine bT (cs:=[i_ d,b_ has]) (n:=0) (h':=[.ak ⟨80,[i_ d,b_ has],true⟩]) rfl rfl rfl rfl ?_;refine zzf (n:=v.length) hlen fun _=>?_;refine zzP (by unfold aJ;omega) ?_;refine aZ (α:=List Cx×Nat×Nat×AV×aa) (fun x=>x.2.2.1≤v.length+1∧x.2.1≤x.2.2.1∧(x.2.2.1≤v.length→R=fu cp forg (pq ((v.take x.2.2.1).drop x.2.1) (v.drop x.2.2.1)) x.1)∧(x.2.2.1=v.length+1→R=(x.1,true))∧lk 1 39 3 x.2.2.2.1 x.2.2.2.2 (dJ_ x.1)∧x.2.2.2.2[0]?=some (.ak ⟨80,[i_ d,b_ has],true⟩)∧x.1.length≤x.2.2.1) (fun x=>[x.2.2.2.1,i_ x.2.1,i_ x.2.2.1]) (fun x=>x.2.2.2.2) (fun x=>v.length+1-x.2.2.1) ([],0,0,bI,[.ak ⟨80,[i_ d,b_ has],true⟩])
  ⟨aa2 _,bY _,fun _=>by rw[hR0];simp[LY],(fun z=>by simp at z),.inl ⟨rfl,rfl⟩,rfl,bY _⟩ (Wk.refl _ _ _ (bY _)) ?_
 rintro⟨acc,from',i,a,H⟩ ⟨hi,hfr,hRi,hRe,hg,hp,hal⟩;dsimp only at hi hfr hRi hRe hg hp hal ⊢;have hH:=(eQ.1 hp).1;refine zzC ?_;rcases uP i (v.length+1) with q|q
 ·have hRi:=hRi (by omega);refine zzL (oF (by omega)) ?_
  -- what comes behind
  have next:∀(acc':List Cx) (fr':Nat) (a':AV) (H':aa),fr'≤i+1→(i+1≤v.length→R=fu cp forg (pq ((v.take (i+1)).drop fr') (v.drop (i+1))) acc')→(i+1=v.length+1→R=(acc',true))→lk 1 39 3 a' H' (dJ_ acc')→H'[0]?=some (.ak ⟨80,[i_ d,b_ has],true⟩)→acc'.length≤i+1 →
   ag .add (i_ i) (i_ 1) fun v40=>[AV.sl 6 (cA v),b_ rel,b_ forg,.op 0 0,i_ ((v.length:Int)+1)]=[AV.sl 6 (cA v),b_ rel,b_ forg,.op 0 0,i_ ((v.length:Int)+1)] ∧
    ∃y:List Cx×Nat×Nat×AV×aa,(y.2.2.1≤v.length+1∧y.2.1≤y.2.2.1∧(y.2.2.1≤v.length→R=fu cp forg (pq ((v.take y.2.2.1).drop y.2.1) (v.drop y.2.2.1)) y.1)∧(y.2.2.1=v.length+1→R=(y.1,true))∧lk 1 39 3 y.2.2.2.1 y.2.2.2.2 (dJ_ y.1)∧y.2.2.2.2[0]?=some (.ak ⟨80,[i_ d,b_ has],true⟩)∧y.1.length≤y.2.2.1)∧Wk [aK.ak ⟨80,[i_ d,b_ has],true⟩].length [a',i_ fr',v40] H' [y.2.2.2.1,i_ y.2.1,i_ y.2.2.1] y.2.2.2.2∧v.length+1-y.2.2.1<v.length+1-i:=by
   intro acc' fr' a' H' e1 e2 e3 e4 e5 e6;have hH':=(eQ.1 e5).1;refine zzP (by unfold aJ;omega) ?_;exact⟨rfl,(acc',fr',i+1,a',H'),⟨by dsimp only;omega,e1,e2,e3,e4,e5,e6⟩,Wk.refl _ _ _ (by simp;omega),by dsimp only;omega⟩
  refine aF ?_;refine zzf (n:=v.length) hlen fun _=>?_;refine zzC ?_;obtain⟨pre,hpre⟩:∃pre,(v.take i).drop from'=pre:=⟨_,rfl⟩;rw[hpre]at hRi;refine mA (match v[i]? with|some x=>!decide (x.kind=18)|none=>false) rfl (fun z=>?_) (fun z F2 hF2=>?_) (fun s hs=>lv hs ?_)
  ·rw[iS (by simp at z;omega)]
  ·have hlt:i<v.length:=by simp at z;omega
   obtain⟨x,hx⟩:∃x,v[i]?=some x:=⟨_,dO hlt⟩;rw[hx]at hF2;refine zzb (eA v) rfl hx (zzX (zzX (de (c:=u8 x.kind) (by rw[lF];rfl) (zzH (aq ?_)))));exact hF2
  by_cases hX:(match v[i]? with|some x=>!decide (x.kind=18)|none=>false)=true
  ·-- it goes on
   refine zzL hX (aq ?_);have hlt:i<v.length:=by
    rcases uP i v.length with k|k
    ·exact k
    ·rw[iS k]at hX;cases hX
   obtain⟨x,hx⟩:∃x,v[i]?=some x:=⟨_,dO hlt⟩;rw[hx]at hX;have hk:¬x.kind=18:=by simpa using hX
   have hdr:v.drop i=x:: v.drop (i+1):=by rw[abo hlt,(eQ.1 hx).2]
   refine next acc from' a H (by omega) (fun _=>?_) (fun z=>by omega) hg hp (by omega)
   rw[hRi,hdr,LZ hk];have:(v.take (i+1)).drop from'=pre++[x]:=by
    rw[By,hx,List.drop_append_of_le_length (by simp;omega),hpre];rfl
   rw[this]
  ·-- a part that is whole
   have hX:(match v[i]? with|some x=>!decide (x.kind=18)|none=>false)=false:=by simpa using hX
   refine zzK hX ?_;obtain⟨ps,e1,e2,e3⟩:∃ps,pq pre (v.drop i)=pre:: ps∧(i+1≤v.length→ps=dR (v.drop (i+1)))∧(i+1=v.length+1→ps=[]):=by
    rcases uP i v.length with k|k
    ·obtain⟨x,hx⟩:∃x,v[i]?=some x:=⟨_,dO k⟩;rw[hx]at hX;have hk:x.kind=18:=by simpa using hX
     have hdr:v.drop i=x:: v.drop (i+1):=by rw[abo k,(eQ.1 hx).2]
     exact⟨dR (v.drop (i+1)),by rw[hdr,JG hk],fun _=>rfl,fun z=>by omega⟩
    ·exact⟨[],by rw[List.drop_of_length_le k,OB],fun z=>by omega,fun _=>rfl⟩
   rw[e1,fu]at hRi;refine cS (fun s H' => ∃acc' a',s=[a']∧R=fu cp forg ps acc'∧lk 1 39 3 a' H' (dJ_ acc')∧H'[0]?=some (.ak ⟨80,[i_ d,b_ has],true⟩)∧acc'.length≤i+1) ?_ ?_
   ·rintro _ H' ⟨acc',a',rfl,hR',hg',hp',hal'⟩;refine zzP (by unfold aJ;omega) (aq ?_);refine next acc' (i+1) a' H' (bY _) (fun z=>?_) (fun z=>?_) hg' hp' hal'
    ·have:(v.take (i+1)).drop (i+1)=[]:=List.drop_of_length_le (by simp;omega);rw[this,LY,hR',e2 z]
    ·rw[hR',e3 z,fu]
   ·intro F hF;refine OT (a:=from') (b:=i) rfl rfl hfr (by omega) ?_;rw[hpre];refine iq (cs:=[i_ d,b_ has]) rfl hp (by simp) rfl ?_;have hzp:bV pre≤n:=by
     have h1:=pP v i;have h2:=rE (List.drop_suffix from' (v.take i));rw[hpre]at h2;omega
    have hbp:iX pre:=Cy hb fun x hx=>by rw[←hpre]at hx;exact List.mem_of_mem_take (List.mem_of_mem_drop hx)
    have hcx:=Gm hn hP pre hzp hbp d has rel hd;rw[hcp]at hcx;refine Mf rfl (by kernel_rfl) hcx (bl rfl rfl (bl rfl rfl (bT (cs:=[u8 0,bI,bI]) (n:=H.length) (h':=H++[qY]) rfl rfl rfl rfl (aU (cs:=nX_ (cp pre).1) (h':=H++[.ak ⟨39,nX_ (cp pre).1,true⟩]) (b:=⟨39,[u8 0,bI,bI],true⟩) rfl (by simp) rfl rfl (by simp[rY]) (rY _) (B5 _) (by rw[IF _ _ (bY _)];simp[kY (a:=[u8 0,bI,bI]) (b:=nX_ (cp pre).1) (by rw[rY];rfl)]) ?_))));have hg2:=hg.app [aK.ak ⟨39,nX_ (cp pre).1,true⟩];have hp2:(H++[aK.ak ⟨39,nX_ (cp pre).1,true⟩])[0]?=some (.ak ⟨80,[i_ d,b_ has],true⟩):=by rw[gO hH];exact hp
    have hV:(H++[aK.ak ⟨39,nX_ (cp pre).1,true⟩])[H.length]?=some (.ak ⟨39,nX_ (cp pre).1,true⟩):=by simp
    cases hb2:(cp pre).2 with
    | true =>
      rw[if_pos hb2]at hRi;refine zzL rfl (iq (cs:=nX_ (cp pre).1) rfl hV (by simp[rY]) (by rw[List.drop_zero,MK (by simp[rY])]) (lD (cs:=nX_ (cp pre).1) rfl (rY _) rfl (B5 _) ?_));refine xJ hg2 (by simp) (by unfold dy;rw[rY,B5];rfl) (by decide) (by simp[B6];omega) fun a' H' g' bk _ _=>?_;refine aq ?_;exact hF _ _ ⟨acc++[(cp pre).1],a',rfl,hRi,by rw[N5];exact g',bk.2 _ _ hp2,by simp;omega⟩
    | false =>
      rw[if_neg (by rw[hb2];decide)]at hRi;refine zzK rfl (zzO ?_);cases forg with
      | false =>
        rw[if_neg (by decide)]at hRi;refine zzL rfl ?_;rw[hRi];exact .pure (by simp[aO,Aw.Pure]) rfl
      | true =>
        rw[if_pos rfl]at hRi;refine zzK rfl (aq ?_);exact hF _ _ ⟨acc,a,rfl,hRi,hg2,hp2,by omega⟩
 ·obtain rfl:i=v.length+1:=by omega
  rw[hRe rfl];refine zzK (by simp) ?_;exact⟨_,_,Wk.le (s':=[.ay [gg 3 (dJ_ acc),tt]]) (aa2 _) ⟨⟨hg.Pj,Le.refl _,trivial⟩,trivial⟩,rfl⟩
theorem LD:∀n,n≤2^30→D3 n
 | 0,_=>fun v hz=>absurd hz (aa3 _)
 | n+1,hn=>Q8 (by omega) (LD n (by omega))
def Kp(v:List Vl)(hz:bV v<2^30)(hb:iX v)(d:Nat)(has rel forg:Bool)(hd:d≤3):bn p_ 32 [.sl 6 (cA v),wB d has,b_ rel,b_ forg] (UD (kz (3-d) has v rel forg)):=LD _ (bY _) v hz hb d has rel forg hd
abbrev Ut(o:List Cx×Int):AV:=.ay [gg 3 (dJ_ o.1),i_ o.2]
def P0(v:List Vl)(hz:bV v<2^30)(hb:iX v):bn p_ 19 [.sl 6 (cA v)] (Ut (Li v)):=by
 refine (V19 _).bj (by simp only[aO,Aw.Pure,and_true];exact lz v) (by simp only[aO,Aw.Pure,and_true];exact lH (mg _)) ?_;unfold Xs;refine uCon (Am v (by omega)) (zzH ?_);unfold Li
 by_cases hc:js v=0
 ·rw[if_pos hc];refine zzK (by simp[hc]) (ba rfl (uCon (Kp v hz hb 0 false false false (by omega)) ?_));have hzr:=Pu 3 false v false false (bY _);rw[show 3-0=3 from rfl];obtain⟨o,ho⟩:∃o,kz 3 false v false false=o:=⟨_,rfl⟩;rw[ho]at hzr ⊢;dsimp only;refine bl rfl rfl (bl rfl rfl (zzO ?_));cases h2:o.2 with
  | false =>
    rw[if_neg (by decide)];refine zzL rfl ?_;exact .pure (by simp[aO,Aw.Pure]) rfl
  | true =>
    rw[if_pos rfl];refine zzK rfl ?_;have hcc:bn p_ 26 [gg 3 (dJ_ o.1)] (i_ (number o.1)):=bn.arg (CI o.1 (by omega)) (.cons (uq (xQ _)) .nil) (by simp only[aO,and_true];exact lH (mg _));refine uCon hcc (zzE ?_)
    by_cases h3:64<number o.1
    ·rw[if_pos h3];refine zzL (oF (by omega)) ?_;exact .pure (by simp[aO,Aw.Pure]) rfl
    ·rw[if_neg h3];refine zzK (nO (by omega)) ?_;exact .pure (by simp only[aO,Aw.Pure,and_true];exact lH (mg _)) rfl
 ·rw[if_neg hc];refine zzL (by simp[hc]) ?_;exact .pure (by simp[aO,Aw.Pure]) rfl
end
section
open Go Go.Aw Go.dD Go.RowKit
open Go.bo hiding u1 ae
/-! ### How long a token's text is -/
def BI(s:ae)(i:Nat):(Rt.cW s i).1.length≤4:=by
 have hu:∀n,(Rt.sH n).length≤4:=fun n=>by
  unfold Rt.sH;repeat' split
  all_goals simp[Rt.lQ]
 unfold Rt.cW;split
 ·simp[Rt.lQ]
 ·split
  ·simp
  ·exact hu _
theorem xR(s:ae):∀n i,s.length-i≤n→(Rt.dk s i).1.length≤4*(s.length-i)
 | 0,i,hn=>by rw[Rt.dk,dif_neg (by omega)];simp
 | n+1,i,hn=>by
   rw[Rt.dk];split
   ·rename_i h;split
    ·have:=xR s n (i+1) (by omega);dsimp only;rw[aaP];omega
    ·split
     ·have h1:=Rt.gd s i;have:=xR s n (Rt.cW s i).2 (by omega);have:=BI s i;dsimp only;rw[AT];omega
     ·simp
   ·simp
def xY(h:∀t,r.1=some t→t.length≤m)(hx:x.length+m≤k):∀t,(Rt.kL x r).1=some t→t.length≤k:=by
 intro t ht;unfold Rt.kL at ht;cases hr:r.1 with
 | none=>rw[hr]at ht;cases ht
 | some y =>
   rw[hr]at ht;cases ht;have:=h y hr;rw[AT];omega
theorem ye(m:UInt8)(s:ae):∀n i,s.length-i≤n→∀t,(Rt.il m s i).1=some t→t.length≤4*(s.length-i)
 | 0,i,hn,t,h=>by rw[Rt.il,dif_neg (by omega)]at h;cases h;simp
 | n+1,i,hn,t,h=>by
   rw[Rt.il]at h;split at h
   ·rename_i hi;split at h
    ·cases h;simp
    ·split at h
     ·cases h
     ·split at h
      ·split at h
       ·cases h;simp
       ·split at h
        ·have:=ye m s n (i+2) (by omega) t h;omega
        ·have h1:=Rt.gd s i;have:=BI s i;exact xY (ye m s n (Rt.cW s i).2 (by omega)) (by omega) t h
      ·exact xY (x:=[s[i]]) (ye m s n (i+1) (by omega)) (by simp;omega) t h
   ·cases h;simp
theorem Cv(s:ae):∀n i,s.length-i≤n→∀t,(Rt.jd s i).1=some t→t.length≤4*(s.length-i)
 | 0,i,hn,t,h=>by rw[Rt.jd,dif_neg (by omega)]at h;cases h;simp
 | n+1,i,hn,t,h=>by
   rw[Rt.jd]at h;split at h
   ·rename_i hi;split at h
    ·cases h;simp
    ·split at h
     ·split at h
      ·cases h
      ·cases h;simp
     ·split at h
      ·cases h
      ·split at h
       ·have h1:=Rt.gd s i;have:=BI s i;exact xY (Cv s n (Rt.cW s i).2 (by omega)) (by omega) t h
       ·exact xY (x:=[s[i]]) (Cv s n (i+1) (by omega)) (by simp;omega) t h
   ·cases h;simp
def xo(M:Nat)(t:Tok):Prop:=(-10^15≤t.n∧t.n≤10^15)∧t.t.length≤M∧t.u.length≤M
def Wi(hi:i<s.length):xo (4*s.length) (iR s i).1:=by
 have hz:(-10^15:Int)≤0∧(0:Int)≤10^15:=by decide
 have e0:∀k f,xo (4*s.length) ⟨k,[],0,[],f⟩:=fun k f=>⟨hz,aa2 _,aa2 _⟩;have e1:∀k f j,xo (4*s.length) ⟨k,(Rt.dk s j).1,0,[],f⟩:=fun k f j=>⟨hz,by have:=xR s _ j (bY _);show (Rt.dk s j).1.length≤_;omega,aa2 _⟩;have th:∀x,(-10^15≤nh x∧nh x≤10^15):=fun x=>by have:=Rq x;omega
 unfold iR;dsimp only;split
 ·exact e0 _ _
 ·split
  ·cases h:(Rt.il (Rt.ax s i) s (i+1)).1 with
   | none=>exact e0 _ _
   | some t =>
     have:=ye (Rt.ax s i) s _ (i+1) (bY _) t h;exact⟨hz,by show t.length≤_;omega,aa2 _⟩
  ·split
   ·exact e1 _ _ _
   ·split
    ·unfold jO;dsimp only;split
     ·exact⟨th _,aa2 _,by have:=xR s _ (Rt.gU s i).1 (bY _);show (Rt.dk s (Rt.gU s i).1).1.length≤_;omega⟩
     ·split
      ·exact⟨th _,aa2 _,aa2 _⟩
      ·exact⟨th _,aa2 _,aa2 _⟩
    ·split
     ·exact e0 _ _
     ·split
      ·exact e0 _ _
      ·split
       ·exact e1 _ _ _
       ·split
        ·unfold px;dsimp only;split
         ·exact e1 _ _ _
         ·split
          ·cases h:(Rt.jd s (Rt.fe s ((Rt.dk s i).2+1))).1 with
           | none=>exact e0 _ _
           | some t =>
             have:=Cv s _ _ (bY _) t h;exact⟨hz,by show t.length≤_;omega,aa2 _⟩
          ·exact e1 _ _ _
        ·split
         ·exact e0 _ _
         ·refine⟨hz, ?_,aa2 _⟩;show 1≤_;omega
theorem Pa:∀n i,s.length-i≤n→∀t∈kR s i,xo (4*s.length) t
 | 0,i,hn,t,ht=>by rw[kR,dif_neg (by omega)]at ht;cases ht
 | n+1,i,hn,t,ht=>by
   rw[kR]at ht;split at ht
   ·rename_i h;rcases ID.1 ht with rfl|ht
    ·exact Wi h
    ·have h1:=xW h;have h2:=uz s s.length (iR s i).2 (by omega) h1.2;exact Pa n _ (by omega) t ht
   ·cases ht
def WQ(s:ae):(jB s).1.length≤1500∧∀t∈(jB s).1,xo 48000 t:=by
 unfold jB;split
 ·simp
 ·rename_i h;split
  ·simp
  ·rename_i h2;refine⟨by dsimp only;omega,fun t ht=>?_⟩;have hl:=rL s.length s (bY _);have:=Pa (s:=eT s) _ _ (bY _) t ht;exact⟨this.1,by have:=this.2.1;omega,by have:=this.2.2;omega⟩
/-! ### How great what is parsed is -/
def z1(t:Tok):Nat:=1+t.t.length+t.u.length
def yK(s:List (Tok×List Vl)):Nat:=(s.map fun x=>z1 x.1+bV x.2).sum
def we(x:Tok×List Vl)(s:List (Tok×List Vl)):yK (x:: s)=z1 x.1+bV x.2+yK s:=rfl
def wh(l:List Vl)(v:Vl):bV (l++[v])=bV l+zV v:=by rw[mO,eK,bV];omega
def DV(o:Tok)(l:List Vl):zV (gD o l)=z1 o+bV l:=by unfold gD;rw[zV];unfold z1;rfl
def Uy(h:iE t c s=some (c',s')):bV c'+yK s'≤bV c+yK s+z1 t:=by
 have hn:bV []=0:=by rw[bV]
 cases s with
 | nil =>
   rw[iE]at h;split at h
   ·cases h;rw[we,hn];simp[yK];omega
   ·cases h;rw[wh,DV,hn];omega
 | cons x s =>
   obtain⟨o,b⟩:=x;rw[iE]at h;split at h
   ·cases h;rw[wh,DV,we];dsimp only;omega
   ·split at h
    ·split at h
     ·cases h
     ·cases h;rw[we,hn];dsimp only;omega
    ·cases h;rw[wh,DV,hn];omega
theorem Lp:∀(s:List (Tok×List Vl)) (c:List Vl),bV (qn c s)=bV c+yK s
 | [],c=>by rw[qn];simp[yK]
 | (o,b):: s,c=>by rw[qn,Lp s,wh,DV,we];dsimp only;omega
def Bw(l:List Tok):Nat:=(l.map z1).sum
theorem Ls:∀(l:List Tok) (c c':List Vl) (s s':List (Tok×List Vl)),iT l c s=some (c',s')→bV c'+yK s'≤bV c+yK s+Bw l
 | [],c,c',s,s',h=>by rw[iT]at h;cases h;simp[Bw]
 | t:: l,c,c',s,s',h=>by
   rw[iT]at h;cases e:iE t c s with
   | none=>rw[e]at h;cases h
   | some y =>
     obtain⟨c2,s2⟩:=y;rw[e]at h;have h1:=Uy e;have h2:=Ls l c2 c' s2 s' h;have:Bw (t:: l)=z1 t+Bw l:=rfl;omega
theorem Mt:∀(l:List Tok),(∀t∈l,xo M t)→Bw l≤l.length*(1+2*M)
 | [],_=>by simp[Bw]
 | t:: l,h=>by
   have h1:=Mt l fun x hx=>h x (by simp[hx]);have h2:=h t (by simp);have e:Bw (t:: l)=z1 t+Bw l:=rfl;rw[e,aaP,Nat.succ_mul];unfold z1;have:=h2.2.1;have:=h2.2.2;omega
def Uw(l:List Tok):bV (kK l).1≤Bw l:=by
 have hn:bV []=0:=by rw[bV]
 unfold kK;split
 ·rw[hn];omega
 ·cases e:iT l [] [] with
  | none=>show bV []≤_;rw[hn];omega
  | some y =>
    obtain⟨c,s⟩:=y;have:=Ls _ _ _ _ _ e;rw[hn]at this;dsimp only;split
    ·rw[hn];omega
    ·dsimp only;rw[Lp];simp[yK]at this ⊢;omega
/-! ### What is parsed is in bounds -/
def wc(h:iX l)(hv:vB v):iX (l++[v]):=Cw fun x hx=>by
 rcases Is.1 hx with hx|hx
 ·exact yk h hx
 ·simp at hx;subst hx;exact hv
def DS(ho:xo (2^20) o)(h:iX l):vB (gD o l):=by unfold gD;rw[vB];exact⟨ho.1,ho.2.1,ho.2.2,h⟩
def Im(s:List (Tok×List Vl)):Prop:=∀x∈s,xo (2^20) x.1∧iX x.2
def Ux(ht:xo (2^20) t)(hc:iX c)(hs:Im s)(h:iE t c s=some (c',s')):iX c'∧Im s':=by
 have hn:iX []:=trivial;cases s with
 | nil =>
   rw[iE]at h;split at h
   ·cases h;exact⟨hn,fun x hx=>by simp at hx;subst hx;exact⟨ht,hc⟩⟩
   ·cases h;exact⟨wc hc (DS ht hn),hs⟩
 | cons x s =>
   obtain⟨o,b⟩:=x;have hx:=hs (o,b) (by simp);have hs2:Im s:=fun y hy=>hs y (by simp[hy]);rw[iE]at h;split at h
   ·cases h;exact⟨wc hx.2 (DS hx.1 hc),hs2⟩
   ·split at h
    ·split at h
     ·cases h
     ·cases h;refine⟨hn,fun y hy=>?_⟩;rcases ID.1 hy with rfl|hy
      ·exact⟨ht,hc⟩
      ·exact hs y hy
    ·cases h;exact⟨wc hc (DS ht hn),hs⟩
theorem Lr:∀(l:List Tok) (c c':List Vl) (s s':List (Tok×List Vl)),(∀t∈l,xo (2^20) t)→iX c→Im s→iT l c s=some (c',s')→iX c'∧Im s'
 | [],c,c',s,s',_,hc,hs,h=>by rw[iT]at h;cases h;exact⟨hc,hs⟩
 | t:: l,c,c',s,s',ht,hc,hs,h=>by
   rw[iT]at h;cases e:iE t c s with
   | none=>rw[e]at h;cases h
   | some y =>
     obtain⟨c2,s2⟩:=y;rw[e]at h;obtain⟨h1,h2⟩:=Ux (ht t (by simp)) hc hs e;exact Lr l c2 c' s2 s' (fun x hx=>ht x (by simp[hx])) h1 h2 h
theorem Ln:∀(s:List (Tok×List Vl)) (c:List Vl),iX c→Im s→iX (qn c s)
 | [],c,hc,_=>by rw[qn];exact hc
 | (o,b):: s,c,hc,hs=>by
  have hx:=hs (o,b) (by simp);rw[qn];exact Ln s _ (wc hx.2 (DS hx.1 hc)) fun y hy=>hs y (by simp[hy])
def Uv(l:List Tok)(ht:∀t∈l,xo (2^20) t):iX (kK l).1:=by
 unfold kK;split
 ·trivial
 ·cases e:iT l [] [] with
  | none=>trivial
  | some y =>
    obtain⟨c,s⟩:=y;obtain⟨h1,h2⟩:=Lr l [] c [] s ht trivial (fun x hx=>by cases hx) e;dsimp only;split
    ·trivial
    ·exact Ln s c h1 h2
def nv(s:ae):List Cx×Int:=if (jB s).2=0 then (if (kK (jB s).1).2=0 then Li (kK (jB s).1).1 else ([],(kK (jB s).1).2)) else ([],(jB s).2)
variable [bp]
def P2(s:ae):bn p_ 8 [.str s] (Ut (nv s)):=by
 refine (V8 _).bj (by simp) (by simp only[aO,Aw.Pure,and_true];exact lH (mg _)) ?_;unfold W8;obtain⟨hb1,hb2⟩:=WQ s;refine uCon (Gl s) ?_;unfold nv;obtain⟨T,hT⟩:∃T,jB s=T:=⟨_,rfl⟩;rw[hT]at hb1 hb2 ⊢;refine bl rfl rfl (bl rfl rfl (zzH ?_))
 by_cases h1:T.2=0
 ·rw[if_pos h1];refine zzK (by simp[h1]) ?_;have hcp:bn p_ 18 [yz T.1] (.ay [wu (kK T.1).1,i_ (kK T.1).2]):=by
   unfold yz;split
   ·rename_i e;rw[e];exact bn.arg (CG []) (.cons (.nil 5) .nil) (by simp[aO,Aw.Pure])
   ·exact CG T.1
  refine uCon hcp ?_;have hB:iX (kK T.1).1:=Uv _ fun t ht=>by have:=hb2 t ht;exact⟨this.1,by have:=this.2.1;omega,by have:=this.2.2;omega⟩
  have hZ:bV (kK T.1).1<2^30:=by
   have a:=Uw T.1;have b:=Mt T.1 hb2;have c:T.1.length*(1+2*48000)≤1500*(1+2*48000):=Nat.mul_le_mul_right _ hb1;omega
  obtain⟨Q,hQ⟩:∃Q,kK T.1=Q:=⟨_,rfl⟩;rw[hQ]at hB hZ ⊢;refine bl rfl rfl (bl rfl rfl (zzH ?_))
  by_cases h2:Q.2=0
  ·rw[if_pos h2];refine zzK (by simp[h2]) ?_;have hco:bn p_ 19 [wu Q.1] (Ut (Li Q.1)):=bn.arg (P0 Q.1 hZ hB) (.cons (Qu _) .nil) (by simp only[aO,and_true];exact EJ _);refine uCon hco (bl rfl rfl (bl rfl rfl ?_));exact .pure (by simp only[aO,Aw.Pure,and_true];exact lH (mg _)) rfl
  ·rw[if_neg h2];refine zzL (by simp[h2]) ?_;exact .pure (by simp[aO,Aw.Pure]) rfl
 ·rw[if_neg h1];refine zzL (by simp[h1]) ?_;exact .pure (by simp[aO,Aw.Pure]) rfl
end
section
open Go Go.Aw Go.dD Go.RowKit
open Go.bo hiding u1 ae
def vQ(s:List (Tok×List Vl)):Int:=match s with|[]=>0|(o,_):: _=>cw o.k
def Lu(h1:s≠[]→t.k≠vQ s)(h2:cw t.k=0):iE t c s=some (c++[gD t []],s):=by
 cases s with
 | nil=>rw[iE,if_neg (by simpa using h2)]
 | cons x s =>
   obtain⟨o,b⟩:=x;rw[iE,if_neg (show ¬t.k=cw o.k from h1 (by simp)),if_neg (by simpa using h2)]
def Lv(h1:s≠[]→t.k≠vQ s)(h2:cw t.k≠0)(h3:s.length<16):iE t c s=some ([],(t,c):: s):=by
 cases s with
 | nil=>rw[iE,if_pos h2]
 | cons x s =>
   obtain⟨o,b⟩:=x;rw[iE,if_neg (show ¬t.k=cw o.k from h1 (by simp)),if_pos h2,if_neg (by simp at h3;omega)]
def Lw(h:t.k=cw o.k):iE t c ((o,b):: s)=some (b++[gD o c],s):=by
 rw[iE,if_pos h]
mutual
theorem Z2:∀(v:Vl) (c:List Vl) (s:List (Tok×List Vl)) (r:List Tok),(s≠[]→vQ s≠0)→wL (vQ s) v=false→s.length+pF v≤16→iT (iM v++r) c s=iT r (c++[v]) s
 | .mk k t n u f l,c,s,r,ho,hb,hd=>by
   rw[wL,abx]at hb;obtain⟨hb1,hb2⟩:=hb;have h1:s≠[]→k≠vQ s:=by
    intro hs e;have h0:=ho hs;simp[h0,e]at hb1
   rw[pF]at hd;rw[iM]
   by_cases hc:cw k=0
   ·rw[if_pos hc]at hb2 hd ⊢;have hl:l=[]:=by simpa using hb2
    subst hl;rw[abv,List.nil_append,iT,Lu (t:=⟨k,t,n,u,f⟩) h1 hc];rfl
   ·rw[if_neg hc]at hb2 hd ⊢;rw[abv,To,iT,Lv (t:=⟨k,t,n,u,f⟩) h1 hc (by omega)];dsimp only;rw[Jz l [] ((⟨k,t,n,u,f⟩,c):: s) _ (fun _=>hc) hb2 (by simp;omega),List.nil_append,abv,List.nil_append,iT,Lw (o:=⟨k,t,n,u,f⟩) rfl];rfl
theorem Jz:∀(l:List Vl) (c:List Vl) (s:List (Tok×List Vl)) (r:List Tok),(s≠[]→vQ s≠0)→eL (vQ s) l=false→s.length+dp l≤16→iT (bu l++r) c s=iT r (c++l) s
 | [],c,s,r,_,_,_=>by rw[bu];simp
 | v:: l,c,s,r,ho,hb,hd=>by
   rw[eL,abx]at hb;rw[dp]at hd;rw[bu,To,Z2 v c s _ ho hb.1 (by omega),Jz l (c++[v]) s r ho hb.2 (by omega)];simp
end
def Lq(l:List Vl)(hb:eL 0 l=false)(hd:dp l≤16)(hn:dh l≤1500):kK (bu l)=(l,0):=by
 have h:=Jz l [] [] [] (fun z=>absurd rfl z) hb (by simpa using hd);rw[aaZ,List.nil_append,iT]at h;unfold kK;rw[mq,if_neg (by omega),h];show (if 1500<dh l+([]:List (Tok×List Vl)).length then (([]:List Vl),(4:Int)) else (qn l [],0))=_;rw[if_neg (by simp;omega)];rfl
def GS(l:List Vl)(hb:eL 0 l=false)(hd:dp l≤16)(hn:dh l≤1500):js l=0:=by
 unfold js;rw[if_neg (by omega),if_neg (by omega),hb];rfl
end
end Go.Proofs.YtpcnidmmkknndaaGreatDoor
end
