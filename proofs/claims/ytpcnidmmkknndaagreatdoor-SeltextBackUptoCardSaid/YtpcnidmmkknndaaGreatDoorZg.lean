/-
 A reader of values: spaces,a byte,a combinator.
 No conditions.
-/
import Derived.Test.YtpcnidmmkknndaaGreatDoorProg
import Derived.KernelRfl
import Derived.Test.YtpcnidmmkknndaaGreatDoorZf
import Derived.Test.YtpcnidmmkknndaaGreatDoorZe
import Derived.Test.YtpcnidmmkknndaaGreatDoorZc
import Derived.Test.YtpcnidmmkknndaaGreatDoorZd
set_option linter.unusedVariables false
set_option linter.unusedSimpArgs false
set_option linter.unusedSectionVars false
set_option linter.defProp false
set_option autoImplicit true
set_option maxRecDepth 1000000
set_option maxHeartbeats 16000000
open Go.Proofs.Tryz renaming prog→p_
noncomputable section
namespace Go.Proofs.YtpcnidmmkknndaaGreatDoor
section
open Go Go.Aw Go.dN Go.RowKit
def Qm{t:Tok}{K:AV→Prop}(q:K (u8 t.k)):rX false 0 1 t.av K:=q
theorem kN:∀r:List Vl,bW r <:+ r
 | []=>List.suffix_refl _
 | x:: r=>by
   rw[bW];split
   ·exact (kN r).trans (List.suffix_cons _ _)
   ·exact List.suffix_refl _
def rJ(h:gU c r=some r'):∃x,r=x:: r'∧x.kind=9∧x.text=[c]:=by
 cases r with
 | nil=>cases h
 | cons x r =>
   rw[gU]at h;split at h
   ·rename_i q;cases h;exact⟨x,rfl,q⟩
   ·cases h
def xU(r:List Vl):(gV r).2 <:+ r:=by
 have key:∀{c:UInt8} {r':List Vl},gU c r=some r'→bW r' <:+ r:=fun h=>by
  obtain⟨x,rfl,_⟩:=rJ h;exact (kN _).trans (List.suffix_cons _ _)
 unfold gV;split
 ·rename_i h;exact key h
 ·split
  ·rename_i h;exact key h
  ·split
   ·rename_i h;exact key h
   ·exact List.suffix_refl _
section
variable [Laid]
omit [Laid] in
def qY{id:Nat}{F:aa→Prop}(rd:h[id]?=some (dC v (y:: r)))(hs:(y:: r) <:+ v)(hv:v.length<2^40)(k:F (h.set id (dC v r))):
 cg p_ (.op id 0) fun v11=>bo 1 v11 fun v12=>ak false 1 v12 h fun v13=>ag .add v13 (i_ 1) fun v14=>cg p_ (.op id 0) fun v15=>bo 1 v15 fun v16=>ao 1 v16 v14 h F:=by
 have hle:=hs.length_le;simp at hle;refine bz (zzA (zzU rd rfl (zzP (by unfold aK;simp;omega) (bz (zzA ?_)))));have e:((v.length-(y:: r).length:Nat):Int)+1=((v.length-r.length:Nat):Int):=by simp;omega
 rw[e];exact aW (cs:=[i_ ((v.length-r.length:Nat):Int)]) (h':=h.set id (dC v r)) rfl rd rfl rfl (by simp) rfl rfl rfl k
theorem mD{id:Nat}{K:AV→aa→Prop}(rd:h[id]?=some (dC v r))(hs:r <:+ v)(ex:x=.op id 0)(hv:v.length<2^30)(k:∀H,Mo id (dC v (bW r)) h H→K (b_ (decide ((bW r).length<r.length))) H):
 bx p_ (.fn (.func 73) [] []) [x] h K:=by
 subst ex;have hid:=(eQ.1 rd).1;have hle:=hs.length_le;refine cF (by kernel_rfl) rfl (K0:=fun w H=>w=b_ (decide ((bW r).length<r.length))∧Mo id (dC v (bW r)) h H) ?_ (by rintro _ H ⟨rfl,m⟩;exact k H m);refine (V73 _).bG ?_;unfold Y4;refine bz (zzA (zzU rd rfl (ba (α:=List Vl×aa) (fun x=>x.1 <:+ r∧bW x.1=bW r∧Mo id (dC v x.1) h x.2) (fun _=>[]) (fun x=>x.2) (fun x=>x.1.length) (r,h) ⟨List.suffix_refl _,rfl,Mo.refl rd⟩ (Wk.refl _ _ _ (bY _)) ?_)));rintro⟨r1,H1⟩ ⟨hs1,hk,m1⟩;dsimp only at hs1 hk m1 ⊢;have rd1:=m1.at hid;have sv:=hs1.trans hs;have hl1:=m1.len;refine nv (n:=0) rd1 sv rfl (by omega) fun H2 m2=>?_;have rd2:=m2.at (by omega);have hl2:=m2.len;have m12:=m1.trans hid m2;refine Qm (zzG ?_);have stop:bW r1=r1→(ck r1 0).k≠13→af (.v (.bool (decide ((ck r1 0).k=13)))) (cg p_ (.op id 0) fun v11=>bo 1 v11 fun v12=>ak false 1 v12 H2 fun v13=>ag .add v13 (i_ 1) fun v14=>cg p_ (.op id 0) fun v15=>bo 1 v15 fun v16=>ao 1 v16 v14 H2 fun g17=>[AV.op id 0,i_ ((v.length-r.length:Nat):Int)]=[AV.op id 0,i_ ((v.length-r.length:Nat):Int)]∧∃y:List Vl×aa,(y.1 <:+ r∧bW y.1=bW r∧Mo id (dC v y.1) h y.2)∧Wk h.length [] g17 [] y.2∧y.1.length<r1.length)
  (cg p_ (.op id 0) fun v18=>bo 1 v18 fun v19=>ak false 1 v19 H2 fun v20=>ag .gtr v20 (i_ ((v.length-r.length:Nat):Int)) fun v21=>∃r' h'',Wk h.length [v21] H2 [r'] h''∧r'=b_ (decide ((bW r).length<r.length))∧Mo id (dC v (bW r)) h h''):=by
  intro e hne;refine zzK (nO hne) (bz (zzA (zzU rd2 rfl (zzE ?_))));have e2:bW r=r1:=by rw[←hk];exact e
  have hl:=hs1.length_le;have:decide (((v.length-r.length:Nat):Int)<((v.length-r1.length:Nat):Int))=decide ((bW r).length<r.length):=by
   rw[e2];exact decide_eq_decide.2 (by omega)
  rw[this];exact⟨_,_,Wk.refl _ _ _ (by omega),rfl,by rw[e2];exact m12⟩
 cases r1 with
 | nil=>exact stop rfl (by decide)
 | cons y r1 =>
   by_cases hy:y.kind=13
   ·refine zzL (oF hy) (qY rd2 sv (by omega) (aq ?_));have m3:=m12.trans hid (Mo.set id (dC v r1) H2);exact⟨(r1,H2.set id (dC v r1)),⟨(List.suffix_cons _ _).trans hs1,by rw[←hk,bW,if_pos hy],m3⟩,Wk.refl _ _ _ m3.len,by simp⟩
   ·exact stop (by rw[bW,if_neg hy]) hy
theorem Bw{id:Nat}{c:UInt8}{K:AV→aa→Prop}(rd:h[id]?=some (dC v r))(hs:r <:+ v)(ex:x=.op id 0)(hv:v.length<2^30)
 (k1:∀r' H,gU c r=some r'→Mo id (dC v r') h H→K tt H) (k2:∀H,gU c r=none→Mo id (dC v r) h H→K ff H) :
 bx p_ (.fn (.func 77) [] []) [x,.str [c]] h K:=by
 subst ex;have hid:=(eQ.1 rd).1;refine cF (by kernel_rfl) rfl (K0:=fun w H=>(∃r',gU c r=some r'∧Mo id (dC v r') h H∧w=tt)∨(gU c r=none∧Mo id (dC v r) h H∧w=ff)) ?_ (fun w H z=>z.elim (fun⟨r',e,m,q⟩=>by subst q;exact k1 r' H e m) fun⟨e,m,q⟩=>by subst q;exact k2 H e m);refine (V77 _ _).bG ?_;unfold Y8;refine nv (n:=0) rd hs rfl (by omega) fun H1 m1=>?_;have hl1:=m1.len;have rd1:=m1.at hid;refine jD ?_;obtain⟨H2,h2⟩:∃H2,H2=H1++[aL.ah ⟨70,(ck r 0).row,true⟩]:=⟨_,rfl⟩;have hT:H2[H1.length]?=some (.ah ⟨70,(ck r 0).row,true⟩):=by rw[h2];simp
 have m2:Mo id (dC v r) h H2:=by rw[h2];exact m1.tail _
 have rd2:=m2.at hid;have hl2:=m2.len;rw[←h2];clear h2;refine zzA (zzU hT rfl (zzH ?_));have no:gU c r=none→∃r' h'',Wk h.length [ff] H2 [r'] h''∧((∃q,gU c r=some q∧Mo id (dC v q) h h''∧r'=tt)∨(gU c r=none∧Mo id (dC v r) h h''∧r'=ff)):=fun e=>⟨_,_,Wk.refl _ _ _ hl2,.inr ⟨e,m2,rfl⟩⟩;refine aD ?_
 by_cases c1:(ck r 0).k=9
 ·refine zzN (by simp[c1]) (zzA (zzU hT rfl (zzJ (aq (zzQ ?_)))));cases r with
  | nil=>exact absurd c1 (by decide)
  | cons y r =>
    by_cases c2:y.text=[c]
    ·refine zzK (by show (!decide (y.text=[c]))=false;simp[c2]) (qY rd2 hs (by omega) ?_);have m3:=m2.trans hid (Mo.set id (dC v r) H2);exact⟨_,_,Wk.refl _ _ _ m3.len,.inl ⟨r,by rw[gU,if_pos ⟨c1,c2⟩],m3,rfl⟩⟩
    ·refine zzL (by show (!decide (y.text=[c]))=true;simp[c2]) ?_;exact no (by rw[gU,if_neg (fun z=>c2 z.2)])
 ·refine zzM (by simp[c1]) (aq (zzR (zzL rfl (no ?_))));cases r with
  | nil=>rfl
  | cons y r=>rw[gU,if_neg (fun z=>c1 z.1)]
def MX{id:Nat}{K:AV→aa→Prop}(rd:h[id]?=some (dC v r))(hs:r <:+ v)(ex:x=.op id 0)(hv:v.length<2^30)(k:∀H,Mo id (dC v (gV r).2) h H→K (u8 (gV r).1) H):
 bx p_ (.fn (.func 74) [] []) [x] h K:=by
 subst ex;have hid:=(eQ.1 rd).1;refine cF (by kernel_rfl) rfl (K0:=fun w H=>w=u8 (gV r).1∧Mo id (dC v (gV r).2) h H) ?_ (by rintro _ H ⟨rfl,m⟩;exact k H m);refine (V74 _).bG ?_;unfold Y5
 let cs:List UInt8:=[62,43,126]
 refine ba (α:=Nat×aa) (fun x=>x.1≤3∧(∀j c,cs[j]?=some c→j<x.1→gU c r=none)∧Mo id (dC v r) h x.2) (fun x=>[i_ x.1]) (fun x=>x.2) (fun x=>3-x.1) (0,h) ⟨abY _,fun j c _ z=>absurd z (abZ _),Mo.refl rd⟩ (Wk.refl _ _ _ (bY _)) ?_;rintro⟨i,H1⟩ ⟨hi,hb,m1⟩;dsimp only at hi hb m1 ⊢;have rd1:=m1.at hid;have hl1:=m1.len;refine zzC ?_;rcases uP i 3 with q|q
 ·obtain⟨c,hc⟩:∃c,cs[i]?=some c:=⟨_,dO q⟩;refine zzL (oF (by omega)) (zzP (by unfold aK;omega) ?_);have hsl:(cs.take (i+1)).drop i=[c]:=by
   rcases (by omega:i=0∨i=1∨i=2) with rfl|rfl|rfl<;>(cases hc;rfl)
  refine oK (l:=cs) (a:=i) (b:=i+1) (r:=[c]) rfl rfl rfl (by omega) (by show i+1≤3;omega) hsl ?_;refine Bw rd1 hs rfl hv (fun r' H2 e m2=>?_) (fun H2 e m2=>?_)
  ·have hl2:=m2.len;obtain⟨y,hy,_⟩:=rJ e;have hs':r' <:+ v:=List.IsSuffix.trans (by rw[hy];exact List.suffix_cons _ _) hs;refine zzL rfl ?_;refine mD (m2.at (by omega)) hs' rfl hv fun H3 m3=>?_;have m13:=(m1.trans hid m2).trans hid m3;have hcm:gV r=(2+(i:Int),bW r'):=by
    unfold gV;rcases (by omega:i=0∨i=1∨i=2) with rfl|rfl|rfl
    ·cases hc;rw[e];rfl
    ·cases hc;rw[hb 0 62 rfl (by decide),e];rfl
    ·cases hc;rw[hb 0 62 rfl (by decide),hb 1 43 rfl (by decide),e];rfl
   rw[hcm];refine fo (m:=(i:Int)) rfl (by rw[IntKind.wrap_u8];omega) (xF (c:=2+(i:Int)) (by decide) rfl rfl (by rw[IntKind.wrap_u8];omega) ?_);exact⟨_,_,Wk.refl _ _ _ m13.len,rfl,m13⟩
  ·refine zzK rfl (zzP (by unfold aK;omega) (aq ?_));refine⟨(i+1,H2),⟨q,fun j c' hj hlt=>?_,m1.trans hid m2⟩,Wk.refl _ _ _ (by have:=m2.len;omega),by dsimp only;omega⟩;rcases uP j i with k|k
   ·exact hb j c' hj k
   ·obtain rfl:j=i:=by simp at hlt;omega
    rw[hj]at hc;cases hc;exact e
 ·obtain rfl:i=3:=by omega
  refine zzK rfl ?_;have hcm:gV r=(0,r):=by unfold gV;rw[hb 0 62 rfl (by decide),hb 1 43 rfl (by decide),hb 2 126 rfl (by decide)]
  rw[hcm];exact⟨_,_,Wk.refl _ _ _ hl1,rfl,m1⟩
end
end
section
open Go Go.Aw
variable [Laid]
def SP(O:AV)(h:aa)(K:AV→aa→Prop):Prop:=
 aV 46 (.agg [u8 0,.str [],u8 0,.str [],ff,i_ 0,i_ 0,ff,qNs]) h fun b N=>aX (.agg [qNs,i_ 0]) [(0,1,O)] fun P=>aV 131 P N fun a Q=>iC p_ 73 [a] Q fun i1 R=>iC p_ 75 [a,i_ 0] R fun S T=>rX false 1 1 S fun U=>iC p_ 76 [U] T fun V W=>aX (.agg [u8 0,.str [],u8 0,.str [],ff,i_ 0,i_ 0,ff,qNs]) [(0,1,(u8 3)),(1,1,V)] fun X=>aV 46 (.agg [u8 0,.str [],u8 0,.str [],ff,i_ 0,i_ 0,ff,qNs]) W fun c Y=>ao 9 c X Y fun Z=>iC p_ 75 [a,i_ 0] Z fun a0 g=>rX false 0 1 a0 fun a1=>ag .neq a1 (u8 1) fun a2=>af a2 (ak true 9 c g fun a3=>ao 9 b a3 g fun s=>ak true 9 b s fun r23=>K (.aA [r23,ff]) s) (qLd p_ a 1 g fun a4=>qBe .add a4 1 fun a5=>qSt p_ a 1 a5 g fun a6=>iC p_ 73 [a] a6 fun i2 a7=>iC p_ 79 [a] a7 fun a8 m=>af a8 (ak true 9 c m fun a9=>ao 9 b a9 m fun t=>ak true 9 b t fun r37=>K (.aA [r37,tt]) t) (aH (fun u=>iC p_ 77 [a,.str [61]] m fun b0 v=>af b0 (bo 2 c fun b1=>ao 1 b1 (u8 1) v fun b2=>eC [b,a,c] (u [] b2)) (iC p_ 75 [a,i_ 0] v fun b3 b4=>aV 70 (.agg [u8 0,.str [],i_ 0,.str [],ff]) b4 fun n b5=>ao 5 n b3 b5 fun w=>iFL 1 false 1 n w fun b6=>iC p_ 60 [.str [126,124,94,36,42],b6] w fun o p=>iFL 0 false 1 n p fun b7=>ag .neq b7 (u8 9) fun b8=>qJo b8 [b,a,c,o] p (fun b9=>qBe .lss o 0 fun c0=>b9 c0 p) fun c1 i=>af c1 (ak true 9 c i fun c2=>ao 9 b c2 i fun x=>ak true 9 b x fun r62=>K (.aA [r62,ff]) x) (qLd p_ a 1 i fun c3=>qBe .add c3 1 fun c4=>qSt p_ a 1 c4 i fun c5=>iC p_ 77 [a,.str [61]] c5 fun c6 q=>cq c6 fun c7=>af c7 (ak true 9 c q fun c8=>ao 9 b c8 q fun y=>ak true 9 b y fun r75=>K (.aA [r75,ff]) y) (cy .u8 o fun c9=>ag .add (u8 2) c9 fun d0=>bo 2 c fun d1=>ao 1 d1 d0 q fun d2=>eC [b,a,c] (u [] d2))))) fun i3 d3=>iC p_ 73 [a] d3 fun i4 d4=>iC p_ 75 [a,i_ 0] d4 fun d5 d6=>aV 70 (.agg [u8 0,.str [],i_ 0,.str [],ff]) d6 fun f d7=>ao 5 f d5 d7 fun j=>iFL 0 false 1 f j fun d8=>ag .neq d8 (u8 1) fun d9=>qJa d9 [b,a,c,f] j (fun e0=>iFL 0 false 1 f j fun e1=>ag .neq e1 (u8 5) fun e2=>e0 e2 j) fun e3 k=>af e3 (ak true 9 c k fun e4=>ao 9 b e4 k fun z=>ak true 9 b z fun r101=>K (.aA [r101,ff]) z) (iFL 1 false 1 f k fun e5=>bo 3 c fun e6=>ao 1 e6 e5 k fun A=>qLd p_ a 1 A fun e7=>qBe .add e7 1 fun e8=>qSt p_ a 1 e8 A fun e9=>iC p_ 73 [a] e9 fun i5 f0=>iC p_ 75 [a,i_ 0] f0 fun f1 f2=>aV 70 (.agg [u8 0,.str [],i_ 0,.str [],ff]) f2 fun l f3=>ao 5 l f1 f3 fun e=>iFL 0 false 1 l e fun f4=>ag .eql f4 (u8 1) fun f5=>af f5 (qLd p_ a 1 e fun f6=>qBe .add f6 1 fun f7=>qSt p_ a 1 f7 e fun f8=>iC p_ 73 [a] f8 fun i6 B=>iFL 1 false 1 l B fun f9=>iC p_ 101 [f9,.str [105]] B fun g0 g1=>bo 4 c fun g2=>ao 1 g2 g0 g1 fun d=>ak true 9 c d fun g3=>iQ p_ 79 [a] d fun r=>aH (fun C=>aI r true (bo 4 c fun D=>ak false 1 D d fun E=>C [D,E,E] d) (C [un,un,un] d)) fun F _=>aH (fun G=>aI (nx F 2) false (bo 1 l fun H=>ak false 1 H d fun I=>iQ p_ 101 [I,.str [115]] d fun g4=>G [H,I,g4] d) (G [un,un,un] d)) fun g5 _=>aH (fun J=>aI r true (bA (nx F 2) tt (nx g5 2) fun g6=>J [g6] d) (J [un] d)) fun g7 _=>bA r (nx g7 0) ff fun g8=>ao 9 b g3 d fun L=>ak true 9 b L fun r154=>K (.aA [r154,g8]) L) (ak true 9 c e fun g9=>iQ p_ 79 [a] e fun i0=>ao 9 b g9 e fun M=>ak true 9 b M fun r158=>K (.aA [r158,i0]) M))))
def ZD(a:AV):fv p_ 104 [a] (SP a):=mkM Tryz.func104 (sn (sn (sn (sn (sn (sn (sn (sn (.join [2,4,5] [] (sn (.two .nil (sn (sn (.seq (.seq (.aQ (oR 0 4 (.aB 3 false (fR 4 2) [2,4,5,7] [48,50]::.op 6 false::[]))) .nil) .nil))))) (sn (sn (.seq (.seq (.aQ (oR 0 4 (.aB 3 true (fR 4 3) [2,4,5,8] [75,78]::.op 7 false::[]))) .nil) (sn (sn (sn (.seq (sn (sn (.two (sn (sn (sn (.seq (.two (.draw 12 (oR 0 4 (.aB 3 true (fR 4 3) [] [115,116,117]::.aB 6 false (fR 7 3) [] [118,119,120]::.aB 3 true [(10,false)] [] [121]::.op 11 false::[])) [] []) (.jX [(12,2,false),(13,0,false)])) .nil)))) .nil))) (.seq (.draw 3 (oR 0 3 []) (oR 3 2 []) []) .nil))))))))))))))))) 126 [.cell 2 46,.tmp 3]
def YH(a2 Z a6:AV)(h:aa)(K:AV→aa→Prop):Prop:=
 aV 80 Z h fun c a0=>aV 39 (.agg [u8 0,qNs,qNs]) a0 fun a A=>Fp A (fun a1=>aX (.agg [qNs,i_ 0]) [(0,1,a2)] fun a3=>aV 131 a3 A fun e a4=>iC p_ 73 [e] a4 fun o4 a5=>aV 39 (.agg [u8 0,qNs,qNs]) a5 fun d B=>aH (fun u=>af a6 (iC p_ 74 [e] B fun a7 a8=>bo 0 d fun a9=>ao 1 a9 a7 a8 fun v=>iFL 0 false 1 d v fun b0=>ag .eql b0 (u8 0) fun b1=>af b1 (bo 0 d fun b2=>ao 1 b2 (u8 1) v fun b3=>eC [c,a,e,d] (u [] b3)) (eC [c,a,e,d] (u [] v))) (eC [c,a,e,d] (u [] B))) fun o5 b4=>bJ [] b4 fun b5 o6 b6 =>
 aV 42 (.agg [.str [],qNs]) b6 fun f b7=>aH (fun w=>iC p_ 75 [e,i_ 0] b7 fun b8 b9=>aV 70 (.agg [u8 0,.str [],i_ 0,.str [],ff]) b9 fun x c0=>ao 5 x b8 c0 fun k=>iFL 0 false 1 x k fun c1=>ag .eql c1 (u8 1) fun c2=>af c2 (iFL 1 false 1 x k fun c3=>iC p_ 76 [c3] k fun c4 c5=>bo 0 f fun c6=>ao 1 c6 c4 c5 fun C=>qLd p_ e 1 C fun c7=>qBe .add c7 1 fun c8=>qSt p_ e 1 c8 C fun c9=>eC [c,a,e,d,f] (w [] c9)) (iC p_ 77 [e,.str [42]] k fun d0 D=>af d0 (bo 0 f fun d1=>ao 1 d1 (.str [42]) D fun d2=>eC [c,a,e,d,f] (w [] d2)) (eC [c,a,e,d,f] (w [] D)))) fun o7 E=>ak true 2 c E fun d3=>iC p_ 78 [e,d3] E fun F d4=>aU 0 F fun d5=>aU 1 F fun d6=>bo 1 f fun d7=>ao 1 d7 d5 d4 fun l=>cq d6 fun d8=>qJo d8 [c,a,e,d,f] l (fun d9=>ak true 2 f l fun e0=>ak true 2 c l fun e1=>iC p_ 50 [e0,e1] l fun e2 e3=>cq e2 fun e4=>d9 e4 e3) fun e5 i=>af e5 (ak true 3 d i fun e6=>ao 3 a e6 i fun G=>ak true 3 a G fun r79=>K (.aA [r79,ff]) G) (iFL 1 false 1 d i fun e7=>ak true 2 f i fun e8=>bt 1 2 (.agg [.str [],qNs]) [(0,2,e8)] fun e9=>bR false 42 2 40 e7 e9 i fun f0 f1=>bo 1 d fun f2=>ao 1 f2 f0 f1 fun f3=>iC p_ 73 [e] f3 fun f4 f5=>iC p_ 79 [e] f5 fun f6 m=>af f6 ((∃d92:Nat,ak true 3 d m fun f7=>bo 1 d fun H=>cO (qF d92 H) (ak false 1 H m fun f8=>jj f8 fun f9=>qBe .leq f9 64 fun g0=>cO (xE d92 a) (ao 3 a f7 m fun I=>ak true 3 a I fun r99=>K (.aA [r99,g0]) I)))) (iC p_ 74 [e] m fun n J=>aH (fun L=>ag .eql n (u8 0) fun g1=>qJa g1 [c,a,e,d,n] J (fun g2=>cq f4 fun g3=>g2 g3 J) fun g4 o=>af g4 (ak true 3 d o fun g5=>ao 3 a g5 o fun M=>ak true 3 a M fun r111=>K (.aA [r111,ff]) M) (ag .eql n (u8 0) fun g6=>af g6 (eC [c,a,e,d] (L [u8 1] o)) (eC [c,a,e,d] (L [n] o)))) fun g7 N=>iFL 2 false 1 d N fun g8=>bt 1 1 (u8 0) [(0,1,(nx g7 0))] fun g9=>bR false 5 1 1 g8 g9 N fun i0 i1=>bo 2 d fun i2=>ao 1 i2 i0 i1 fun i3=>eC [c,a,e,d] (b5 [] i3)))) fun a1 b i4 =>
 bJ [] i4 fun i5 o8 i6 =>
 aV 42 (.agg [.str [],qNs]) i6 fun g i7=>aH (fun y=>iC p_ 75 [nx b 0,i_ 0] i7 fun i8 i9=>aV 70 (.agg [u8 0,.str [],i_ 0,.str [],ff]) i9 fun z j0=>ao 5 z i8 j0 fun p=>iFL 0 false 1 z p fun j1=>ag .eql j1 (u8 1) fun j2=>af j2 (iFL 1 false 1 z p fun j3=>iC p_ 76 [j3] p fun j4 j5=>bo 0 g fun j6=>ao 1 j6 j4 j5 fun O=>qLd p_ (nx b 0) 1 O fun j7=>qBe .add j7 1 fun j8=>qSt p_ (nx b 0) 1 j8 O fun j9=>eC [c,a,nx b 0,nx b 1,g] (y [] j9)) (iC p_ 77 [nx b 0,.str [42]] p fun k0 P=>af k0 (bo 0 g fun k1=>ao 1 k1 (.str [42]) P fun k2=>eC [c,a,nx b 0,nx b 1,g] (y [] k2)) (eC [c,a,nx b 0,nx b 1,g] (y [] P)))) fun o9 Q=>ak true 2 c Q fun k3=>iC p_ 78 [nx b 0,k3] Q fun R k4=>aU 0 R fun k5=>aU 1 R fun k6=>bo 1 g fun k7=>ao 1 k7 k5 k4 fun q=>cq k6 fun k8=>qJo k8 [c,a,nx b 0,nx b 1,g] q (fun k9=>ak true 2 g q fun l0=>ak true 2 c q fun l1=>iC p_ 50 [l0,l1] q fun l2 l3=>cq l2 fun l4=>k9 l4 l3) fun l5 j=>af l5 (ak true 3 (nx b 1) j fun l6=>ao 3 a l6 j fun S=>ak true 3 a S fun r174=>K (.aA [r174,ff]) S) (iFL 1 false 1 (nx b 1) j fun l7=>ak true 2 g j fun l8=>bt 1 2 (.agg [.str [],qNs]) [(0,2,l8)] fun l9=>bR false 42 2 40 l7 l9 j fun m0 m1=>bo 1 (nx b 1) fun m2=>ao 1 m2 m0 m1 fun m3=>iC p_ 73 [nx b 0] m3 fun m4 m5=>iC p_ 79 [nx b 0] m5 fun m6 r=>af m6 ((∃d187:Nat,ak true 3 (nx b 1) r fun m7=>bo 1 (nx b 1) fun T=>cO (qF d187 T) (ak false 1 T r fun m8=>jj m8 fun m9=>qBe .leq m9 64 fun n0=>cO (xE d187 a) (ao 3 a m7 r fun U=>ak true 3 a U fun r194=>K (.aA [r194,n0]) U)))) (iC p_ 74 [nx b 0] r fun s V=>aH (fun W=>ag .eql s (u8 0) fun n1=>qJa n1 [c,a,nx b 0,nx b 1,s] V (fun n2=>cq m4 fun n3=>n2 n3 V) fun n4 t=>af n4 (ak true 3 (nx b 1) t fun n5=>ao 3 a n5 t fun X=>ak true 3 a X fun r206=>K (.aA [r206,ff]) X) (ag .eql s (u8 0) fun n6=>af n6 (eC [c,a,nx b 0,nx b 1] (W [u8 1] t)) (eC [c,a,nx b 0,nx b 1] (W [s] t)))) fun n7 Y=>iFL 2 false 1 (nx b 1) Y fun n8=>bt 1 1 (u8 0) [(0,1,(nx n7 0))] fun n9=>bR false 5 1 1 n8 n9 Y fun o0 o1=>bo 2 (nx b 1) fun o2=>ao 1 o2 o0 o1 fun o3=>eC [c,a,nx b 0,nx b 1] (i5 [] o3)))
def V46(a b c:AV):fv p_ 46 [a,b,c] (YH a b c):=mkM Tryz.func46 (sn (.seq (.loop [0] [] .nil) (.join [4,6] [8,9] (sn (sn (sn (.join [4,6,8,9] [] .nil (sn (.seq (.one (.loop [4,6,8,9] [] (.one (sn (.join [4,6,8,9,10] [] .nil (sn (.seq (sn (.seq (.aQ (oR 0 3 (.aB 2 false (fR 3 4) [4,6,8,9,10] [56,60]::.op 7 false::[]))) .nil)) (.seq (.aQ (oR 0 3 (.op 3 true::oR 4 3 []))) (sn (sn (sn (.join [4,6,8,9] [14] (.one (.seq (.aQ (oR 0 3 (.aB 2 true (fR 3 2) [4,6,8,9,14] [78,80]::oR 5 2 []))) .nil)) (.aQ (oR 0 3 (.op 3 true::oR 4 3 []))))))))))))))) (.seq (.two (.jX [(0,1,false),(1,0,false),(2,3,false),(3,0,false),(4,0,false),(5,4,false),(6,0,false)]) .nil) .nil))))))) (sn (.seq (.one (.loop [4,6,8,9] [] (.one (sn (.join [4,6,8,9,10] [] .nil (sn (.seq (sn (.seq (.aQ (oR 0 3 (.aB 2 false (fR 3 4) [4,6,8,9,10] [56,60]::.op 7 false::[]))) .nil)) (.seq (.aQ (oR 0 3 (.op 3 true::oR 4 3 []))) (sn (sn (sn (.join [4,6,8,9] [14] (.one (.seq (.aQ (oR 0 3 (.aB 2 true (fR 3 2) [4,6,8,9,14] [78,80]::oR 5 2 []))) .nil)) (.aQ (oR 0 3 (.op 3 true::oR 4 3 []))))))))))))))) (.seq (.two (.jX [(0,1,false),(1,0,false),(2,3,false),(3,0,false),(4,0,false),(5,4,false),(6,0,false)]) .nil) .nil)))))) 97 [.cell 6 39,.tmp 7]
end
section
open Go Go.Aw Go.dN Go.RowKit
open Go.bu hiding u1 ae
def gg(sz:Nat)(rows:List (List AV)):AV:=match rows with|[]=>bF|r:: l=>.sl sz (r:: l)
def lM{sz:Nat}{rows:List (List AV)}(h:cJ rows):Aw.Pure (gg sz rows):=by
 cases rows with
 | nil=>simp[gg,Aw.Pure]
 | cons r l=>simpa[gg,Aw.Pure]using h
def oZ(sz:Nat)(rows:List (List AV)):bT (gg sz rows)=true:=by cases rows<;>rfl
def uD{sz:Nat}{rows rows':List (List AV)}(h:nW rows rows'):zK (gg sz rows) (.sl sz rows'):=by
 cases h with
 | nil=>exact .nil sz
 | cons a b=>exact .sl (.cons a b)
mutual
def nX_:Cx→List AV
 | .mk l ps cs=>[u1 l,gg 2 (fL_ ps),gg 1 (cs.map fun c=>[u1 c])]
def fL_:List Cp→List (List AV)
 | []=>[]
 | p:: ps=>nP_ p:: fL_ ps
def nP_:Cp→List AV
 | .mk t ss=>[.str t,gg 9 (dT_ ss)]
def dT_:List Sm→List (List AV)
 | []=>[]
 | s:: ss=>nS_ s:: dT_ ss
def nS_:Sm→List AV
 | .mk k n o v f a b w l=>[u1 k,.str n,u1 o,.str v,b_ f,i_ a,i_ b,b_ w,gg 3 (eD_ l)]
def eD_:List Cx→List (List AV)
 | []=>[]
 | x:: xs=>nX_ x:: eD_ xs
end
theorem Cg:∀l,eD_ l=l.map nX_
 | []=>by simp[eD_]
 | p:: l=>by simp[eD_,Cg l]
theorem yk:∀l,fL_ l=l.map nP_
 | []=>by simp[fL_]
 | p:: l=>by simp[fL_,yk l]
theorem Ce:∀l,dT_ l=l.map nS_
 | []=>by simp[dT_]
 | p:: l=>by simp[dT_,Ce l]
mutual
theorem Ir:∀x:Cx,aR (nX_ x)
 | .mk l ps cs=>by simp only[nX_,aR,Aw.Pure,true_and,and_true];exact⟨lM (FJ ps),lM (bu.Bm cs)⟩
theorem FJ:∀l:List Cp,cJ (fL_ l)
 | []=>by simp[fL_,cJ]
 | p:: l=>by simp[fL_,cJ,Io p,FJ l]
theorem Io:∀p:Cp,aR (nP_ p)
 | .mk t ss=>by simp only[nP_,aR,Aw.Pure,true_and,and_true];exact lM (FL ss)
theorem FL:∀l:List Sm,cJ (dT_ l)
 | []=>by simp[dT_,cJ]
 | s:: l=>by simp[dT_,cJ,jS s,FL l]
theorem jS:∀s:Sm,aR (nS_ s)
 | .mk k n o v f a b w l=>by simp only[nS_,aR,Aw.Pure,true_and,and_true];exact lM (ml l)
theorem ml:∀l:List Cx,cJ (eD_ l)
 | []=>by simp[eD_,cJ]
 | x:: l=>by simp[eD_,cJ,Ir x,ml l]
end
theorem Db:∀r:List (List AV),nW r r
 | []=>.nil
 | x:: r=>.cons (kB.refl x) (Db r)
mutual
theorem U6:∀x:Cx,kB (nX_ x) (fY x)
 | .mk l ps cs=>by rw[nX_,fY];exact .cons (.refl _) (.cons (uD (Ip ps)) (.cons (uD (Db _)) .nil))
theorem Ip:∀l:List Cp,nW (fL_ l) (dw l)
 | []=>.nil
 | p:: l=>.cons (LK p) (Ip l)
theorem LK:∀p:Cp,kB (nP_ p) (iO p)
 | .mk t ss=>by rw[nP_,iO];exact .cons (.refl _) (.cons (uD (Iq ss)) .nil)
theorem Iq:∀l:List Sm,nW (dT_ l) (ek l)
 | []=>.nil
 | s:: l=>.cons (U5 s) (Iq l)
theorem U5:∀s:Sm,kB (nS_ s) (ft s)
 | .mk k n o v f a b w l=>by
   rw[nS_,ft];exact .cons (.refl _) (.cons (.refl _) (.cons (.refl _) (.cons (.refl _) (.cons (.refl _) (.cons (.refl _) (.cons (.refl _) (.cons (.refl _) (.cons (uD (ym l)) .nil))))))))
theorem ym:∀l:List Cx,nW (eD_ l) (bQ l)
 | []=>.nil
 | x:: l=>.cons (U6 x) (ym l)
end
abbrev cX(s:Sm):aL:=.ah ⟨46,nS_ s,true⟩
def fC(s:Sm):(nS_ s).length=9:=by cases s;rfl
def rk(s:Sm):(nS_ s).all bT=true:=by cases s;simp only[nS_,acd,List.all_nil,oZ];rfl
def cP:Sm:=.mk 0 [] 0 [] false 0 0 false []
def uG{K:AV→aa→Prop}(hV:H[V]?=some (cX s0))(k:K (.agg (nS_ s)) (H.set V (cX s))):
 ao 9 (.op V 0) (.agg (nS_ s)) H fun g=>ak true 9 (.op V 0) g fun r=>K r g:=by
 refine aW (cs:=nS_ s) (h':=H.set V (cX s)) rfl hV rfl rfl (by simp[fC]) (fC s) (rk s) (by rw[kY (by simp[fC])]) ?_;refine iz (cs:=nS_ s) (b:=⟨46,nS_ s,true⟩) rfl (iD (eQ.1 hV).1) (by simp[fC]) (by rw[List.drop_zero,MK (by simp[fC])]) ?_;exact k
def kK{K:AV→Prop}(hV:H[V]?=some (cX s))(k:K (.agg (nS_ s))):ak true 9 (.op V 0) H K:=
 iz (cs:=nS_ s) rfl hV (by simp[fC]) (by rw[List.drop_zero,MK (by simp[fC])]) k
def Wz{t:Tok}{K:AV→Prop}(q:K (.str t.t)):rX false 1 1 t.av K:=q
structure lW(v:List Vl)(H:aa)(B:Nat)(s:Sm)(r:List Vl):Prop where
 z:H[0]?=some (cX cP)
 rd:H[1]?=some (dC v r)
 x:H[B]?=some (cX s)
 b:1<B
 sf:r <:+ v
section
variable {v r r':List Vl} {H H':aa} {B:Nat} {s s':Sm}
def lW.lt(a:lW v H B s r):B<H.length:=(eQ.1 a.x).1
def lW.mo(a:lW v H B s r)(m:Mo 1 (dC v r') H H')(h:r' <:+ v):lW v H' B s r':=by
 have:=a.lt;have:=a.b;exact⟨by rw[m.other (by omega) (by decide)];exact a.z,m.at (by omega),by rw[m.other (by omega) (by omega)];exact a.x,a.b,h⟩
def lW.app(a:lW v H B s r)(j:aa):lW v (H++j) B s r:=by
 have q:∀{i:Nat} {e:aL},H[i]?=some e→(H++j)[i]?=some e:=fun h=>by rw[gO (eQ.1 h).1];exact h
 exact⟨q a.z,q a.rd,q a.x,a.b,a.sf⟩
def lW.set(a:lW v H B s r)(s':Sm):lW v (H.set B (cX s')) B s' r:=by
 have:=a.b;exact⟨by rw[iF (by omega)];exact a.z,by rw[iF (by omega)];exact a.rd,iD a.lt,a.b,a.sf⟩
def lW.st{F:aa→Prop}(a:lW v H B (dF n o w f) r)(k:lW v (H.set B (cX (dF n o' w f))) B (dF n o' w f) r→F (H.set B (cX (dF n o' w f)))):
 ao 1 (.op B (0+2)) (u8 o') H F:=aW (cs:=[u8 o']) rfl a.x rfl rfl (by simp[fC]) rfl rfl rfl (k (a.set _))
def lW.stV{F:aa→Prop}(a:lW v H B (dF n o w f) r)(k:lW v (H.set B (cX (dF n o w' f))) B (dF n o w' f) r→F (H.set B (cX (dF n o w' f)))):
 ao 1 (.op B (0+3)) (.str w') H F:=aW (cs:=[.str w']) rfl a.x rfl rfl (by simp[fC]) rfl rfl rfl (k (a.set _))
def lW.uS{F:aa→Prop}(a:lW v H B (dF n o w f) r)(k:lW v (H.set B (cX (dF n o w f'))) B (dF n o w f') r→F (H.set B (cX (dF n o w f')))):
 ao 1 (.op B (0+4)) (b_ f') H F:=aW (cs:=[b_ f']) rfl a.x rfl rfl (by simp[fC]) rfl rfl rfl (k (a.set _))
end
def Nz:List Vl→Sm×Bool
 | []=>(dF [] 0 [] false,false)
 | t:: r=>if t.kind=1 then og (bS t.text) (bW r) else (dF (bS t.text) 0 [] false,false)
def WN(v:List Vl):jA v=Nz (bW v):=by unfold jA;cases bW v<;>rfl
section
variable [bq]
abbrev atR(o:Sm×Bool):AV:=.aA [.agg (nS_ o.1),b_ o.2]
def NN(v:List Vl)(hv:v.length<2^30):bn p_ 104 [.sl 6 (cE v)] (atR (jA v)):=by
 refine (ZD _).bj (by simp[lG]) (by simp only[aR,Aw.Pure,and_true];exact jS _) ?_;unfold SP;refine ca (cs:=nS_ cP) (n:=0) (h':=[cX cP]) rfl rfl rfl rfl (bc rfl (ca (cs:=[.sl 6 (cE v),i_ 0]) (n:=1) (h':=[cX cP,Mh v 0]) rfl rfl rfl rfl ?_));obtain⟨h,hh⟩:∃h,h=[cX cP,Mh v 0]:=⟨_,rfl⟩;have rd0:h[1]?=some (dC v v):=by rw[hh];simp
 have z0:h[0]?=some (cX cP):=by rw[hh];rfl
 have l0:h.length=2:=by rw[hh];rfl
 rw[←hh];clear hh
 -- what is handed back
 have retB:∀(H:aa) (B:Nat) (s:Sm) (r:List Vl) (b:Bool),lW v H B s r→(s,b)=jA v→ak true 9 (.op B 0) H fun v21=>ao 9 (.op 0 0) v21 H fun g=>ak true 9 (.op 0 0) g fun r=>dG (atR (jA v)) (.aA [r,b_ b]) g:=by
  intro H B s r b a e;refine kK a.x (uG (K:=fun r g=>dG (atR (jA v)) (.aA [r,b_ b]) g) a.z ?_);rw[←e];exact .pure (by simp only[aR,Aw.Pure,and_true];exact jS _) rfl
 refine mD rd0 (List.suffix_refl _) rfl hv fun H1 m1=>?_;have s1:=kN v;have l1:=m1.len;have z1:H1[0]?=some (cX cP):=by rw[m1.other (by omega) (by decide)];exact z0
 have hat:=WN v;obtain⟨r1,hr1⟩:∃r1,bW v=r1:=⟨_,rfl⟩;rw[hr1]at m1 s1 hat;refine nv (n:=0) (m1.at (by omega)) s1 rfl (by omega) fun H2 m2=>?_;have m2:=m1.trans (by omega) m2;have z2:H2[0]?=some (cX cP):=by rw[m2.other (by omega) (by decide)];exact z0
 have l2:=m2.len;refine Wz (uCon (jm _) ?_);have em:(ck r1 0).t.map dX=bS (ck r1 0).t:=rfl;rw[em];refine bc (cs:=nS_ (dF (bS (ck r1 0).t) 0 [] false)) rfl (ca (cs:=nS_ cP) (n:=H2.length) (h':=H2++[cX cP]) rfl rfl rfl rfl (aW (cs:=nS_ (dF (bS (ck r1 0).t) 0 [] false)) (h':=H2++[cX (dF (bS (ck r1 0).t) 0 [] false)]) rfl (b:=⟨46,nS_ cP,true⟩) (by simp) rfl rfl (by simp[fC]) rfl rfl (by rw[IF _ _ (bY _)];simp;rfl) ?_));have a2:lW v (H2++[cX (dF (bS (ck r1 0).t) 0 [] false)]) H2.length (dF (bS (ck r1 0).t) 0 [] false) r1:=⟨by rw[gO (by omega)];exact z2,by rw[gO (by omega)];exact m2.at (by omega),by simp,by omega,s1⟩;obtain⟨B,hB⟩:∃B,H2.length=B:=⟨_,rfl⟩;obtain⟨H3,h3⟩:∃H3,H2++[cX (dF (bS (ck r1 0).t) 0 [] false)]=H3:=⟨_,rfl⟩;rw[hB,h3]at a2;rw[hB,h3];clear h3 hB m1 m2 z1 z2 l1 l2;refine nv (n:=0) a2.rd s1 rfl (by omega) fun H4 m4=>?_;have a4:=a2.mo m4 s1;refine Qm (zzH ?_);cases r1 with
 | nil=>exact zzL rfl (retB _ _ _ _ _ a4 (by rw[hat];rfl))
 | cons t r =>
   by_cases c1:t.kind=1
   ·rw[Nz,if_pos c1]at hat;refine zzK (by show (!decide (t.kind=1))=false;simp[c1]) (qY a4.rd s1 (by omega) ?_);have sr:=(List.suffix_cons t r).trans s1;have a5:=a4.mo (Mo.set 1 (dC v r) H4) sr;refine mD a5.rd sr rfl hv fun H6 m6=>?_;have s2:=(kN r).trans sr;have a6:=a5.mo m6 s2;obtain⟨r2,hr2⟩:∃r2,bW r=r2:=⟨_,rfl⟩;rw[hr2]at hat s2 a6;refine Bx a6.rd s2 rfl ?_;obtain⟨n,hn⟩:∃n,bS (ck (t:: r) 0).t=n:=⟨_,rfl⟩;have hn':bS t.text=n:=hn;rw[hn]at a6;rw[hn']at hat;cases r2 with
    | nil=>exact zzL rfl (retB _ _ _ _ _ a6 (by rw[hat];rfl))
    | cons t2 r3 =>
      refine zzK rfl ?_;have s3:=(List.suffix_cons t2 r3).trans s2;refine cT (fun s H=>s=[]∧∃o r4,lW v H B (dF n o [] false) r4∧jA v=rH n o (bW r4)) ?_ ?_
      ·rintro _ H ⟨rfl,o,r4,a,hat⟩;refine mD a.rd a.sf rfl hv fun H7 m7=>?_;have s5:=(kN r4).trans a.sf;have a7:=a.mo m7 s5;obtain⟨r5,hr5⟩:∃r5,bW r4=r5:=⟨_,rfl⟩;rw[hr5]at hat s5 a7;refine nv (n:=0) a7.rd s5 rfl (by omega) fun H8 m8=>?_;have a8:=a7.mo m8 s5;refine jD ?_;have hT:(H8++[aL.ah ⟨70,(ck r5 0).row,true⟩])[H8.length]?=some (.ah ⟨70,(ck r5 0).row,true⟩):=by simp
       have a9:=a8.app [aL.ah ⟨70,(ck r5 0).row,true⟩];obtain⟨T,hTl⟩:∃T,H8.length=T:=⟨_,rfl⟩;obtain⟨H9,h9⟩:∃H9,H8++[aL.ah ⟨70,(ck r5 0).row,true⟩]=H9:=⟨_,rfl⟩;have hTB:T≠B:=by have:=a8.lt;omega
       rw[h9,hTl]at hT;rw[h9]at a9;rw[hTl,h9];clear h9 hTl m8 m7;refine zzA (zzU hT rfl (zzH ?_));have bad:jA v=(dF n o [] false,false)→ak true 9 (.op B 0) H9 fun v21=>ao 9 (.op 0 0) v21 H9 fun g=>ak true 9 (.op 0 0) g fun r=>dG (atR (jA v)) (.aA [r,ff]) g:=fun e=>retB _ _ _ _ _ a9 e.symm;refine mC (!decide ((ck r5 0).k=1)&&!decide ((ck r5 0).k=5)) rfl (fun z=>by rw[z];rfl) (fun z F hF=>?_) (fun s hs=>lF hs ?_)
       ·refine zzA (zzU hT rfl (zzH (aq ?_)));rw[z,Bool.true_and]at hF;exact hF
       by_cases c2:(ck r5 0).k=1∨(ck r5 0).k=5
       ·have c3:(!decide ((ck r5 0).k=1)&&!decide ((ck r5 0).k=5))=false:=by rcases c2 with z|z<;>simp[z]
        refine zzK c3 ?_;cases r5 with
        | nil=>exact absurd c2 (by decide)
        | cons t5 r6 =>
          have c2:t5.kind=1∨t5.kind=5:=c2;rw[rH,if_pos c2]at hat;refine zzA (zzU hT rfl (zzA ?_));refine a9.stV fun a10=>?_;have s6:=(List.suffix_cons t5 r6).trans s5;refine qY a10.rd s5 (by omega) ?_;have a11:=a10.mo (Mo.set 1 (dC v r6) _) s6;refine mD a11.rd s6 rfl hv fun H12 m12=>?_;have s7:=(kN r6).trans s6;have a12:=a11.mo m12 s7;obtain⟨r7,hr7⟩:∃r7,bW r6=r7:=⟨_,rfl⟩;rw[hr7]at hat s7 a12;obtain⟨w,hw⟩:∃w,t5.text=w:=⟨_,rfl⟩;have hw':(ck (t5:: r6) 0).t=w:=hw;rw[hw']at a12;rw[hw]at hat;refine nv (n:=0) a12.rd s7 rfl (by omega) fun H13 m13=>?_;have a13:=a12.mo m13 s7;refine jD ?_;have hU:(H13++[aL.ah ⟨70,(ck r7 0).row,true⟩])[H13.length]?=some (.ah ⟨70,(ck r7 0).row,true⟩):=by simp
          have a14:=a13.app [aL.ah ⟨70,(ck r7 0).row,true⟩];obtain⟨U,hUl⟩:∃U,H13.length=U:=⟨_,rfl⟩;obtain⟨H14,h14⟩:∃H14,H13++[aL.ah ⟨70,(ck r7 0).row,true⟩]=H14:=⟨_,rfl⟩;have hUB:U≠B∧U≠1:=by have:=a13.lt;have:=a13.b;omega
          rw[h14,hUl]at hU;rw[h14]at a14;rw[hUl,h14];clear h14 hUl m13 m12;refine zzA (zzU hU rfl (zzG ?_));have last:(ck r7 0).k≠1→jA v=(dF n o w false,r7.isEmpty)→ak true 9 (.op B 0) H14 fun v155=>wK p_ (.fn (.func 79) [] []) [.op 1 0] H14 fun v156=>ao 9 (.op 0 0) v155 H14 fun g157=>ak true 9 (.op 0 0) g157 fun r158=>dG (atR (jA v)) (.aA [r158,v156]) g157:=by
           intro _ e;refine kK a14.x ?_;refine⟨_,Bx a14.rd s7 rfl ⟨rfl,rfl⟩, ?_⟩;refine uG (K:=fun r g=>dG (atR (jA v)) (.aA [r,b_ r7.isEmpty]) g) a14.z ?_;rw[e];exact .pure (by simp only[aR,Aw.Pure,and_true];exact jS _) rfl
          cases r7 with
          | nil=>exact zzK rfl (last (by decide) (by rw[hat];rfl))
          | cons f r8 =>
            by_cases c4:f.kind=1
            ·rw[zY,if_pos c4]at hat;refine zzL (oF c4) ?_;have s8:=(List.suffix_cons f r8).trans s7;refine qY a14.rd s7 (by omega) ?_;have a15:=a14.mo (Mo.set 1 (dC v r8) _) s8;have hU15:(H14.set 1 (dC v r8))[U]?=some (.ah ⟨70,(ck (f:: r8) 0).row,true⟩):=by rw[iF (Ne.symm hUB.2)];exact hU
             refine mD a15.rd s8 rfl hv fun H16 m16=>?_;have s9:=(kN r8).trans s8;have a16:=a15.mo m16 s9;have hU16:H16[U]?=some (.ah ⟨70,(ck (f:: r8) 0).row,true⟩):=by rw[m16.other (eQ.1 hU15).1 hUB.2];exact hU15
             obtain⟨r9,hr9⟩:∃r9,bW r8=r9:=⟨_,rfl⟩;rw[hr9]at hat s9 a16;refine zzA (zzU hU16 rfl (uCon (sY _ [105]) ?_));have ei:decide ((ck (f:: r8) 0).t.map dX=([105]:ae).map dX)=decide (bS f.text=[105]):=rfl;rw[ei];refine zzA ?_;refine a16.uS fun a17=>?_;obtain⟨H17,h17⟩:∃H17,H16.set B (cX (dF n o w (decide (bS f.text=[105]))))=H17:=⟨_,rfl⟩;have hU17:H17[U]?=some (.ah ⟨70,(ck (f:: r8) 0).row,true⟩):=by rw[←h17,iF (Ne.symm hUB.1)];exact hU16
             rw[h17]at a17 ⊢;clear h17;refine kK a17.x ?_;refine⟨_,Bx a17.rd s9 rfl ⟨rfl,rfl⟩, ?_⟩;have fin:∀b,b=(r9.isEmpty&&(decide (bS f.text=[105])||decide (bS f.text=[115])))→ao 9 (.op 0 0) (.agg (nS_ (dF n o w (decide (bS f.text=[105]))))) H17 fun g153=>ak true 9 (.op 0 0) g153 fun r154=>dG (atR (jA v)) (.aA [r154,b_ b]) g153:=by
              intro b e;refine uG (K:=fun r g=>dG (atR (jA v)) (.aA [r,b_ b]) g) a17.z ?_;rw[e,hat];exact .pure (by simp only[aR,Aw.Pure,and_true];exact jS _) rfl
             refine aD ?_;cases r9 with
             | cons x9 r10 =>
               refine km rfl (aD (dk rfl (aD (km rfl (zzQ ?_)))));exact fin false rfl
             | nil =>
               refine jt rfl (zzA (zzU a17.x rfl (aD ?_)))
               by_cases c5:bS f.text=[105]
               ·refine km (by simp[nx,c5]) (aD (jt rfl (aM (by simp[nx,c5]) (zzR ?_))));exact fin true (by simp[c5])
               ·refine jt (by simp[nx,c5]) (zzA (zzU hU17 rfl ?_));refine⟨_,uCon (sY _ [115]) ⟨rfl,rfl⟩, ?_⟩;have es:decide ((ck (f:: r8) 0).t.map dX=([115]:ae).map dX)=decide (bS f.text=[115]):=rfl;rw[es];refine aD (jt rfl (aN (by simp[nx,c5]) (zzR ?_)));exact fin _ (by simp[nx,c5])
            ·rw[zY,if_neg c4]at hat;exact zzK (nO c4) (last c4 hat)
       ·have c3:(!decide ((ck r5 0).k=1)&&!decide ((ck r5 0).k=5))=true:=by simp only[not_or]at c2;simp[c2]
        refine zzL c3 (bad ?_);rw[hat];cases r5 with
        | nil=>rfl
        | cons t5 r6 =>
          have c2:¬(t5.kind=1∨t5.kind=5):=c2;rw[rH,if_neg c2]
      ·intro F hF;refine Bw (c:=61) a6.rd s2 rfl hv (fun r' H7 e m7=>?_) (fun H7 e m7=>?_)
       ·obtain⟨y,hy,_⟩:=rJ e;have s':r' <:+ v:=List.IsSuffix.trans (by rw[hy];exact List.suffix_cons _ _) s2;have a7:=a6.mo m7 s';refine zzL rfl (zzA ?_);refine a7.st fun a8=>?_;refine aq ?_;refine hF _ _ ⟨rfl,1,r',a8, ?_⟩;rw[hat,og,e]
       ·have a7:=a6.mo m7 s2;refine zzK rfl ?_;rw[og,e]at hat;dsimp only at hat;refine nv (n:=0) a7.rd s2 rfl (by omega) fun H8 m8=>?_;have a8:=a7.mo m8 s2;refine jD ?_;have hT:(H8++[aL.ah ⟨70,(ck (t2:: r3) 0).row,true⟩])[H8.length]?=some (.ah ⟨70,(ck (t2:: r3) 0).row,true⟩):=by simp
        have a9:=a8.app [aL.ah ⟨70,(ck (t2:: r3) 0).row,true⟩];obtain⟨T,hTl⟩:∃T,H8.length=T:=⟨_,rfl⟩;obtain⟨H9,h9⟩:∃H9,H8++[aL.ah ⟨70,(ck (t2:: r3) 0).row,true⟩]=H9:=⟨_,rfl⟩;rw[h9,hTl]at hT;rw[h9]at a9;rw[hTl,h9];clear h9 hTl m8 m7;refine zzA (zzU hT rfl (cF (by kernel_rfl) rfl (BF pn t2.text (by decide) H9) ?_));rintro _ _ ⟨rfl,rfl⟩;have hi:=index_le pn t2.text;have hi5:(pn.length:Int)=5:=rfl;refine zzA (zzU hT rfl (zzH ?_));refine mO (!decide (t2.kind=9)||decide (Lib.index pn t2.text<0)) rfl (fun z=>by rw[show (!decide (t2.kind=9))=true from z];rfl) (fun z F2 hF2=>?_) (fun s hs=>lU hs ?_)
        ·refine zzC (aq ?_);rw[show (!decide (t2.kind=9))=false from z,Bool.false_or]at hF2;exact hF2
        by_cases c2:t2.kind=9∧0≤Lib.index pn t2.text
        ·rw[if_pos c2]at hat;refine zzK (by simp[c2.1];omega) (qY a9.rd s2 (by omega) ?_);have a10:=a9.mo (Mo.set 1 (dC v r3) _) s3;refine Bw (c:=61) a10.rd s3 rfl hv (fun r' H11 e2 m11=>?_) (fun H11 e2 m11=>?_)
         ·obtain⟨y,hy,_⟩:=rJ e2;have s':r' <:+ v:=List.IsSuffix.trans (by rw[hy];exact List.suffix_cons _ _) s3;have a11:=a10.mo m11 s';refine zzO (zzK rfl (fo (m:=Lib.index pn t2.text) rfl (by rw[IntKind.wrap_u8];omega) (xF (c:=2+Lib.index pn t2.text) (by decide) rfl rfl (by rw[IntKind.wrap_u8];omega) (zzA ?_))));refine a11.st fun a12=>?_;refine aq ?_;refine hF _ _ ⟨rfl,_,r',a12, ?_⟩;rw[hat,e2]
         ·have a11:=a10.mo m11 s3;refine zzO ?_;exact zzL rfl (retB _ _ _ _ _ a11 (by rw[hat,e2]))
        ·rw[if_neg c2]at hat;refine zzL ?_ (retB _ _ _ _ _ a9 (by rw[hat]))
         by_cases c3:t2.kind=9
         ·have:Lib.index pn t2.text<0:=by
           rcases Int.lt_or_le (Lib.index pn t2.text) 0 with z|z
           ·exact z
           ·exact absurd ⟨c3,z⟩ c2
          simp[this]
         ·simp[c3]
   ·rw[Nz,if_neg c1]at hat;exact zzL (by show (!decide (t.kind=1))=true;simp[c1]) (retB _ _ _ _ _ a4 (by rw[hat];rfl))
end
end
section
open Go Go.Aw
variable [Laid]
def Ti(c e:AV)(h:aa)(K:AV→aa→Prop):Prop:=
 br c fun d=>bJ [i_ 0] h fun f a b =>
 ag .lss (nx a 0) d fun g=>af g (aO 1 c (nx a 0) fun i=>ak false 1 i b fun j=>ag .eql e j fun k=>af k (K (nx a 0) b) (qBe .add (nx a 0) 1 fun l=>eC [c,e,d] (f [l] b))) (K (i_ (-1)) b)
def Z1(a b:AV):Body p_ 143 [a,b] (Ti a b):=bB Tryz.func143 (sn (.seq (sn (.one (.loop [0,1,7] [8] .nil))) .nil)) 19 [.tmp 4]
def Tv(b e:AV)(h:aa)(K:AV→aa→Prop):Prop:=
 br b fun d=>bJ [i_ 0] h fun g a c =>
 ag .lss (nx a 0) d fun i=>af i (aO 6 b (nx a 0) fun j=>ak true 6 j c fun k=>bx p_ e [k] c fun l f=>af l (K (nx a 0) f) (qBe .add (nx a 0) 1 fun m=>eC [b,e,d] (g [m] f))) (K (i_ (-1)) c)
def aab(a b:AV):Body p_ 174 [a,b] (Tv a b):=bB Tryz.func174 (sn (.seq (sn (.one (.loop [0,1,7] [8] .nil))) .nil)) 19 [.tmp 4]
end
section
open Go Go.Aw Go.dN Go.RowKit
open Go.bu hiding u1 ae
abbrev MD(l:List ae):List (List AV):=l.map fun s=>[.str s]
theorem wh:∀l:List ae,cJ (MD l)
 | []=>by simp[cJ]
 | s:: l=>by
   have:=wh l;show cJ ([.str s]:: MD l);simp[cJ,aR,Aw.Pure,this]
def Rg{k:Nat}(h:l[k]?=some s)(hb:∀j,j<k→l[j]?≠some s):gY l s=k:=by
 have hk:=(eQ.1 h).1;have:l.idxOf? s=some k:=by
  unfold List.idxOf?;rw[List.findIdx?_eq_some_iff_getElem];refine⟨hk,by simpa using (eQ.1 h).2,fun j hj=>?_⟩;have:=hb j hj;rw[dO (by omega)]at this;simpa using this
 unfold gY;rw[this]
def Rh(hb:∀j,j<l.length→l[j]?≠some s):gY l s=-1:=by
 have:l.idxOf? s=none:=by
  unfold List.idxOf?;rw[List.findIdx?_eq_none_iff];intro x hx;obtain⟨j,hj,rfl⟩:=List.getElem_of_mem hx;have:=hb j hj;rw[dO hj]at this;simpa using this
 unfold gY;rw[this]
def Ib(l:List ae)(s:ae):-1≤gY l s∧gY l s<l.length:=by
 unfold gY;cases h:l.idxOf? s with
 | none=>simp;omega
 | some k =>
   unfold List.idxOf? at h;rw[List.findIdx?_eq_some_iff_getElem]at h;obtain⟨hk,_⟩:=h;simp;omega
section
variable [Laid]
def EO(l:List ae)(s:ae)(hl:l.length<2^40):bn p_ 143 [.sl 1 (MD l),.str s] (i_ (gY l s)):=by
 refine (Z1 _ _).bj (by simp only[aR,Aw.Pure,and_true];exact wh l) (by simp) ?_;unfold Ti;refine zzf (n:=l.length) (by simp) fun _=>?_;refine ba (α:=Nat) (fun k=>k≤l.length∧∀j,j<k→l[j]?≠some s) (fun k=>[i_ k]) (fun _=>[]) (fun k=>l.length-k) 0 ⟨abY _,fun j z=>absurd z (abZ _)⟩ (Wk.refl _ _ _ (bY _)) ?_;rintro k ⟨hk,hb⟩;refine zzC ?_;rcases uP k l.length with q|q
 ·obtain⟨y,hy⟩:∃y,l[k]?=some y:=⟨_,dO q⟩;refine zzL (oF (by omega)) (zzb rfl rfl hy (zzW (zzI ?_)))
  by_cases e:s=y
  ·subst e;refine zzL (oF rfl) ?_;rw[Rg hy hb];exact .pure (by simp) rfl
  ·refine zzK (nO e) (zzP (by unfold aK;omega) (aq ?_));refine⟨k+1,⟨q,fun j hj=>?_⟩,Wk.refl _ _ _ (bY _),by omega⟩;rcases uP j k with z|z
   ·exact hb j z
   ·obtain rfl:j=k:=by omega
    rw[hy];exact fun z=>e (DO z).symm
 ·obtain rfl:k=l.length:=by omega
  refine zzK (by simp) ?_;rw[Rh hb];exact .pure (by simp) rfl
def C7:bn p_ 53 [] (.sl 1 (MD dt)):=by
 refine (X6).bj (by simp[aR]) (wh _) ?_;unfold TN;have e:dS (ic 11 (bh (.str []))) [(0,1,(.str [108,105,110,107])),(1,1,(.str [118,105,115,105,116,101,100])),(2,1,(.str [97,110,121,45,108,105,110,107])),(3,1,(.str [114,111,111,116])),(4,1,(.str [101,109,112,116,121])),(5,1,(.str [110,116,104,45,99,104,105,108,100])),(6,1,(.str [110,116,104,45,108,97,115,116,45,99,104,105,108,100])),(7,1,(.str [105,115])),(8,1,(.str [119,104,101,114,101])),(9,1,(.str [110,111,116])),(10,1,(.str [104,97,115]))]=some (dt.map fun s=>.str s):=rfl;unfold bt;rw[e];show dG _ (.sl 1 (MD dt)) _;exact .pure (wh dt) rfl
end
variable [bq]
def NW(y:Vl):bn p_ 175 [.agg (jB y)] (b_ (ir y)):=by
 refine (aac _).bj (by simp only[aR,Aw.Pure,and_true];exact P8 y) (by simp) ?_;unfold Tw;have hsc:(jB y).all bT=true:=by rw[lK];simp[bT]
 refine ca (cs:=jB y) (n:=0) (h':=[.ah ⟨74,jB y,true⟩]) rfl hsc rfl rfl ?_;have h0:(jB y)[0+0+0]?=some (u8 y.kind):=by rw[lK];rfl
 have h1:(jB y)[0+0+1]?=some (.str y.text):=by rw[lK];rfl
 refine zzA (zzA (zzU (b:=⟨74,jB y,true⟩) rfl h0 (zzG (aD ?_))))
 by_cases c:y.kind=1
 ·refine zzN (oF c) (zzA (zzA (zzU (b:=⟨74,jB y,true⟩) rfl h1 (uCon (sY _ [111,102]) (zzR (.pure (by simp) ?_))))));have:decide (y.text.map bu.dX=([111,102]:ae).map bu.dX)=ir y:=by unfold ir;rw[oF c,Bool.true_and];rfl
  rw[←this];rfl
 ·refine zzM (nO c) (aN (by simp[c]) (.pure (by simp) ?_));unfold ir;rw[nO c];rfl
def ofI(v:List Vl):Int:=match v.findIdx? ir with|some i=>(i:Int)|none=>-1
def QH(v:List Vl)(hl:v.length<2^40):bn p_ 174 [.sl 6 (cE v),.fn (.func 175) [] []] (i_ (ofI v)):=by
 refine (aab _ _).bj (by simp[aR,Aw.Pure,lG]) (by simp) ?_;unfold Tv;refine zzf (n:=v.length) (by simp[eG]) fun _=>?_;refine ba (α:=Nat) (fun k=>k≤v.length∧∀j y,j<k→v[j]?=some y→ir y=false) (fun k=>[i_ k]) (fun _=>[]) (fun k=>v.length-k) 0 ⟨abY _,fun j y z=>absurd z (abZ _)⟩ (Wk.refl _ _ _ (bY _)) ?_;rintro k ⟨hk,hb⟩;refine zzC ?_;rcases uP k v.length with q|q
 ·obtain⟨y,hy⟩:∃y,v[k]?=some y:=⟨_,dO q⟩;refine zzL (oF (by omega)) (zzb (eG v) rfl hy (zzY (by simp[lK]) (uCon (NW y) ?_)));cases c:ir y with
  | true =>
    refine zzL rfl ?_;have:v.findIdx? ir=some k:=by
     rw[List.findIdx?_eq_some_iff_getElem];refine⟨q,by rw[(eQ.1 hy).2];exact c,fun j hj=>?_⟩;have:=hb j v[j] hj (dO (by omega));rw[this];decide
    unfold ofI;rw[this];exact .pure (by simp) rfl
  | false =>
    refine zzK rfl (zzP (by unfold aK;omega) (aq ?_));refine⟨k+1,⟨q,fun j z hj hz=>?_⟩,Wk.refl _ _ _ (bY _),by omega⟩;rcases uP j k with w|w
    ·exact hb j z w hz
    ·obtain rfl:j=k:=by omega
     rw[hy]at hz;cases hz;exact c
 ·obtain rfl:k=v.length:=by omega
  refine zzK (by simp) ?_;have:v.findIdx? ir=none:=by
   rw[List.findIdx?_eq_none_iff];intro y hy;obtain⟨j,hj,rfl⟩:=List.getElem_of_mem hy;exact hb j _ hj (dO hj)
  unfold ofI;rw[this];exact .pure (by simp) rfl
def N4(s:ae):bn p_ 106 [.str s] (atR (kz s)):=by
 refine (ZF _).bj (by simp) (by simp only[aR,Aw.Pure,and_true];exact jS _) ?_;unfold SR;refine ca (cs:=nS_ cP) (n:=0) (h':=[cX cP]) rfl rfl rfl rfl ?_;have ret:∀(s':Sm) (b:Bool),(s',b)=kz s→ao 9 (.op 0 0) (.agg (nS_ s')) [cX cP] fun g=>ak true 9 (.op 0 0) g fun r=>dG (atR (kz s)) (.aA [r,b_ b]) g:=by
  intro s' b e;refine uG (K:=fun r g=>dG (atR (kz s)) (.aA [r,b_ b]) g) rfl ?_;rw[←e];exact .pure (by simp only[aR,Aw.Pure,and_true];exact jS _) rfl
 refine uCon (jm s) ?_;have em:s.map dX=bS s:=rfl;rw[em];refine zzI ?_
 by_cases c1:bS s=[102,105,114,115,116,45,99,104,105,108,100]
 ·refine zzL (oF c1) (bc rfl (bc (cs:=nS_ (.mk 9 [] 0 [] false 0 1 false [])) rfl ?_));exact ret _ true (by unfold kz;rw[if_pos c1])
 refine zzK (nO c1) (zzI ?_)
 by_cases c2:bS s=[108,97,115,116,45,99,104,105,108,100]
 ·refine zzL (oF c2) (bc rfl (bc (cs:=nS_ (.mk 10 [] 0 [] false 0 1 false [])) rfl ?_));exact ret _ true (by unfold kz;rw[if_neg c1,if_pos c2])
 refine zzK (nO c2) ?_;have hw:kz s=(dm (4+max (gY dt (bS s)) 0) [],decide (0≤gY dt (bS s))&&decide (gY dt (bS s)<5)):=by unfold kz;rw[if_neg c1,if_neg c2]
 refine uCon C7 (uCon (jm s) ?_);rw[em];refine uCon (EO dt (bS s) (by decide)) ?_;have hi:=Ib dt (bS s);have h11:(dt.length:Int)=11:=rfl;obtain⟨i,he⟩:∃i,gY dt (bS s)=i:=⟨_,rfl⟩;rw[he]at hw hi ⊢;refine zzc (fo (m:=max i 0) rfl (by rw[IntKind.wrap_u8];omega) (xF (c:=4+max i 0) (by decide) rfl rfl (by rw[IntKind.wrap_u8];omega) (bc (cs:=nS_ (dm (4+max i 0) [])) rfl (zzF ?_))));refine mC (decide (0≤i)&&decide (i<5)) rfl (fun z=>by rw[z];rfl) (fun z F hF=>?_) (fun s hs=>lF hs ?_)
 ·refine zzC (aq ?_);rw[z,Bool.true_and]at hF;exact hF
 exact ret _ _ hw.symm
end
end Go.Proofs.YtpcnidmmkknndaaGreatDoor
section
namespace Go.bu
open Go Go.Aw
def Aq(k:Int):Bool:=!(dH k||decide (k=13)||decide (k=14))
def gZ(d:Nat)(has:Bool)(k:Int):Bool:=!(decide (d=3)||has&&decide (k=14))
def fk{α:Type}(p:α→Bool):List α→Nat→Int
 | [],_=>-1
 | x:: l,k=>if p x then (k:Int) else fk p l (k+1)
theorem vr{α:Type}(p:α→Bool):∀(l:List α) (k:Nat),decide (0≤fk p l k)=l.any p
 | [],k=>by simp[fk]
 | x:: l,k=>by
   rw[fk,List.any_cons,←vr p l (k+1)];cases p x<;>simp
def yN{α:Type}(p:α→Bool){l:List α}{k:Nat}{x:α}(h:l[k]?=some x):fk p (l.drop k) k=if p x then (k:Int) else fk p (l.drop (k+1)) (k+1):=by
 have hk:=(eQ.1 h);rw[acm hk.1,fk,hk.2]
end Go.bu
namespace Go.Proofs.YtpcnidmmkknndaaGreatDoor
open Go Go.Aw Go.bu
variable [Laid]
def C6(k:Int)(n:ae)(o:Int)(v:ae)(f:Bool)(a b:Int)(w:Bool)(rows:List (List AV))(pr:cJ rows):bn p_ 109 [.agg [u1 k,.str n,u1 o,.str v,b_ f,i_ a,i_ b,b_ w,.sl 3 rows]] (.aA [b_ (gA k w),b_ (Aq k)]):=by
 refine (ZI _).bj (by simp[pr]) (by simp) ?_;unfold SV;repeat' (first|(with_reducible apply aD)|(with_reducible apply aq)|((with_reducible apply bP);rfl;rfl)|((with_reducible apply au);rfl;first|rfl|assumption)|((with_reducible apply aJ);rfl)|((with_reducible apply aF);rfl;rfl;rfl)|((with_reducible apply fq);first|rfl|simp)|((with_reducible apply ct);rfl)|(with_reducible intro _))
 all_goals refine .pure (by simp) ?_
 all_goals simp_all [gA,Aq,dH]
 all_goals grind
def Ad(d:Nat)(has:Bool)(k:Int)(hd:d≤3):bn p_ 110 [.agg [i_ d,b_ has],u1 k] (.aA [.agg (if gZ d has k then [i_ (d+1),b_ (has||decide (k=14))] else [i_ 0,ff]),b_ (gZ d has k)]):=by
 refine (ZJ _ _).bj (by simp) (by split<;>simp) ?_;unfold SX;have hin:aK ((d:Int)+1):=by unfold aK;omega
 repeat' (first|(with_reducible apply aD)|(with_reducible apply aq)|((with_reducible apply bP);rfl;rfl)|((with_reducible apply cn);rfl;rfl;first|assumption|(unfold aK;omega))|((with_reducible apply aM);rfl)|((with_reducible apply aN);rfl)|((with_reducible apply au);rfl;first|rfl|assumption)|((with_reducible apply ax);rfl;first|rfl|assumption)|((with_reducible apply bp);rfl;first|rfl|assumption)|((with_reducible apply bw);rfl;first|rfl|assumption)|((with_reducible apply dk);rfl)|((with_reducible apply aJ);rfl)|((with_reducible apply aF);rfl;rfl;rfl)|((with_reducible apply dp);rfl;rfl;first|exact bY _|exact lT rfl)|((with_reducible apply fq);first|rfl|simp)|((with_reducible apply dR);rfl;rfl;rfl;rfl;(first|exact bY _|simp);(first|rfl|simp);(first|rfl|simp))|((with_reducible apply bc);rfl)|((with_reducible apply ct);rfl)|((with_reducible apply cH);rfl)|(with_reducible intro _))
 all_goals refine .pure (by simp) ?_
 all_goals simp_all [gZ,cf]
 all_goals grind
def JE(xs:List Cx)(f:FuncId)(caps:List AV)(p:Cx→Bool)(pc:aR caps)(hb:dv p_ f=true)(hf:∀x∈xs,bn p_ f ([.agg (fY x)]++caps) (b_ (p x))):
 bn p_ 47 [.sl 3 (bQ xs),.fn (.func f) [] caps] (i_ (fk p xs 0)):=by
 refine (V47 _ _).bj (by simp[gK,pc]) (by simp) ?_;unfold YI;refine zzf (n:=xs.length) (by simp[cA]) fun hm=>?_;refine ba (α:=Nat) (fun k=>k≤xs.length∧fk p xs 0=fk p (xs.drop k) k) (fun k=>[i_ k]) (fun _=>[]) (fun k=>xs.length-k) 0 (by simp) (Wk.refl _ _ _ (by simp)) ?_;rintro k ⟨hk,hI⟩;rcases uP k xs.length with q|q
 ·obtain⟨x,hx⟩:∃x,xs[k]?=some x:=⟨xs[k],dO q⟩;have hin:aK ((k:Int)+1):=by unfold maxLen at hm;unfold aK;omega
  rw[yN p hx]at hI;refine zzC (zzL (by simpa using q) (zzb (cA xs) rfl hx (zzY (by simp[jy]) ?_)));refine⟨hb, ?_⟩;refine (hf x (gE hx)).call ?_;cases hp:p x
  ·refine zzK rfl (zzP hin (aq ?_));refine⟨k+1,⟨q,by rw[hI,hp];rfl⟩,Wk.refl _ _ _ (by simp),by omega⟩
  ·refine zzL rfl ?_;exact .pure (by simp) (by rw[hI,hp];rfl)
 ·refine zzC (zzK (by simpa using q) ?_);exact .pure (by simp) (by rw[hI,List.drop_eq_nil_of_le q];rfl)
def wG(xs:List Cx)(f:FuncId)(caps:List AV)(p:Cx→Bool)(pc:aR caps)(hb:dv p_ f=true)(hf:∀x∈xs,bn p_ f ([.agg (fY x)]++caps) (b_ (p x))):
 bn p_ 33 [.sl 3 (bQ xs),.fn (.func f) [] caps] (b_ (xs.any p)):=by
 refine (V33 _ _).bj (by simp[gK,pc]) (by simp) ?_;unfold Yu;refine uCon (JE xs f caps p pc hb hf) (zzF ?_);rw[vr];exact .pure (by simp) rfl
def JD(xs:List Cp)(f:FuncId)(caps:List AV)(p:Cp→Bool)(pc:aR caps)(hb:dv p_ f=true)(hf:∀x∈xs,bn p_ f ([.agg (iO x)]++caps) (b_ (p x))):
 bn p_ 80 [.sl 2 (dw xs),.fn (.func f) [] caps] (i_ (fk p xs 0)):=by
 refine (V80 _ _).bj (by simp[so,pc]) (by simp) ?_;unfold Zb;refine zzf (n:=xs.length) (by simp[du]) fun hm=>?_;refine ba (α:=Nat) (fun k=>k≤xs.length∧fk p xs 0=fk p (xs.drop k) k) (fun k=>[i_ k]) (fun _=>[]) (fun k=>xs.length-k) 0 (by simp) (Wk.refl _ _ _ (by simp)) ?_;rintro k ⟨hk,hI⟩;rcases uP k xs.length with q|q
 ·obtain⟨x,hx⟩:∃x,xs[k]?=some x:=⟨xs[k],dO q⟩;have hin:aK ((k:Int)+1):=by unfold maxLen at hm;unfold aK;omega
  rw[yN p hx]at hI;refine zzC (zzL (by simpa using q) (zzb (du xs) rfl hx (zzY (by simp[ri]) ?_)));refine⟨hb, ?_⟩;refine (hf x (gE hx)).call ?_;cases hp:p x
  ·refine zzK rfl (zzP hin (aq ?_));refine⟨k+1,⟨q,by rw[hI,hp];rfl⟩,Wk.refl _ _ _ (by simp),by omega⟩
  ·refine zzL rfl ?_;exact .pure (by simp) (by rw[hI,hp];rfl)
 ·refine zzC (zzK (by simpa using q) ?_);exact .pure (by simp) (by rw[hI,List.drop_eq_nil_of_le q];rfl)
def DP(xs:List Cp)(f:FuncId)(caps:List AV)(p:Cp→Bool)(pc:aR caps)(hb:dv p_ f=true)(hf:∀x∈xs,bn p_ f ([.agg (iO x)]++caps) (b_ (p x))):
 bn p_ 48 [.sl 2 (dw xs),.fn (.func f) [] caps] (b_ (xs.any p)):=by
 refine (V48 _ _).bj (by simp[so,pc]) (by simp) ?_;unfold YJ;refine uCon (JD xs f caps p pc hb hf) (zzF ?_);rw[vr];exact .pure (by simp) rfl
end Go.Proofs.YtpcnidmmkknndaaGreatDoor
end
namespace Go.Proofs.YtpcnidmmkknndaaGreatDoor
section
open Go Go.Aw Go.dN Go.RowKit
open Go.bu hiding u1 ae
def dV(d:Nat)(has:Bool):Sub:=fun kd v rel forg=>if gZ d has kd=true then some (mU (3-(d+1)) (has||decide (kd=14)) v rel forg) else none
def uM(hd:d≤3)(has:Bool)(v:List Vl)(rel forg:Bool):mU (3-d) has v rel forg=ia (nj (lu (dV d has)) (cS d has) rel) forg (fh v) []:=by
 by_cases h:d=3
 ·subst h;have:dV 3 has=fun _ _ _ _=>none:=by
   funext kd v rel forg
   unfold dV gZ;simp
  rw[this];rfl
 ·obtain⟨k,hk⟩:∃k,3-d=k+1:=⟨3-d-1,by omega⟩;have hs:(fun kd v rel forg=>if has=true∧kd=14 then none else some (mU k (has||decide (kd=14)) v rel forg))=dV d has:=by
   funext kd v rel forg
   unfold dV gZ;have e:3-(d+1)=k:=by omega
   rw[e]
   by_cases q:has=true∧kd=14
   ·rw[if_pos q,if_neg (by simp[q.1,q.2])]
   ·rw[if_neg q,if_pos];cases hb:has with
    | false=>simp[h]
    | true =>
      have:¬kd=14:=fun a=>q ⟨hb,a⟩;simp[h,this]
  rw[hk,mU,hs];have e2:3-(k+1)=d:=by omega
  rw[e2]
/-! ### How great -/
def eO(v:Vl)(l:List Vl):bV (v:: l)=zV v+bV l:=by rw[bV]
def tM(v:Vl):zV v=1+v.text.length+v.unit.length+bV v.list:=by cases v;rw[zV];rfl
def rC(h:r <:+ v):bV r≤bV v:=by
 obtain⟨p,rfl⟩:=h;rw[mP];omega
def uY(h:x∈v):zV x≤bV v:=by
 obtain⟨a,b,rfl⟩:=List.append_of_mem h;rw[mP,eO];omega
def Cb(s:ae):(bS s).length=s.length:=by unfold bS;simp
def Er(sub:Sub):Prop:=∀kd v rel forg r,sub kd v rel forg=some r→cG r.1≤3*bV v
def rB(k:Int)(n:ae):zS (dm k n)=1+n.length:=by unfold dm;rw[zS,cG];simp
def Vh{sub:Sub}(hs:Er sub)(k:Int)(v:List Vl):zS (si sub k v).1≤1+3*bV v:=by
 have hB:∀w l q,zS (mW k w l q).1=1+cG l:=fun w l q=>by
  unfold mW;split
  ·split<;>(rw[zS];simp)
  ·rw[zS];simp
 unfold si;split
 ·rename_i i _;split
  ·rename_i l h;rw[hB];have:=hs _ _ _ _ _ h;have h2:=rC (List.drop_suffix (i+1) v);dsimp only at this;omega
  ·dsimp only;rw[rB];simp<;>omega
 ·rw[hB];simp[cG]<;>omega
def JP{sub:Sub}(hs:Er sub)(s:ae)(v:List Vl):zS (lu sub s v).1≤1+3*bV v:=by
 unfold lu;dsimp only;split
 ·rw[rB];simp<;>omega
 ·split
  ·exact Vh hs _ v
  ·split
   ·dsimp only;rw[rB];simp<;>omega
   ·rename_i l b h;have:=hs _ _ _ _ _ h;rw[zS];simp at this ⊢;omega
def uQ(r:List Vl):bV (bW r)≤bV r:=by
 induction r with
 | nil=>exact bY _
 | cons x r ih =>
   rw[bW];split
   ·rw[eO];omega
   ·exact bY _
def WO(v:List Vl):zS (jA v).1≤1+2*bV v:=by
 have hA:∀n o w f,zS (dF n o w f)=1+n.length+w.length:=fun n o w f=>by unfold dF;rw[zS,cG];omega
 have h3:∀n o w q,zS (zY n o w q).1=1+n.length+w.length:=fun n o w q=>by
  cases q with
  | nil=>exact hA _ _ _ _
  | cons f r=>rw[zY];split<;>exact hA _ _ _ _
 have h2:∀n o q,zS (rH n o q).1≤1+n.length+bV q:=fun n o q=>by
  cases q with
  | nil=>rw[rH,hA];simp
  | cons t r =>
    rw[rH];have:=tM t;split
    ·rw[h3,eO];omega
    ·rw[hA];simp<;>omega
 have hb:∀c q r,gU c q=some r→bV r≤bV q:=fun c q r h=>by
  cases q with
  | nil=>cases h
  | cons x q =>
    rw[gU]at h;split at h
    ·cases h;rw[eO];omega
    ·cases h
 have h1:∀n q,zS (og n q).1≤1+n.length+bV q:=fun n q=>by
  cases q with
  | nil=>rw[og,hA];simp
  | cons t r =>
    rw[og];split
    ·rename_i r' e;have:=h2 n 1 (bW r');have:=uQ r';have:=hb _ _ _ e;omega
    ·split
     ·split
      ·rename_i r' e;have:=h2 n (2+Lib.index pn t.text) (bW r');have:=uQ r';have:=hb _ _ _ e;rw[eO];omega
      ·rw[hA];simp<;>omega
     ·rw[hA];simp<;>omega
 unfold jA;have hsk:=uQ v;cases e:bW v with
 | nil=>dsimp only;rw[hA];simp<;>omega
 | cons t r =>
   rw[e,eO]at hsk;have:=tM t;dsimp only;split
   ·have h:=h1 (bS t.text) (bW r);have:=uQ r;rw[Cb]at h;omega
   ·rw[hA,Cb];simp<;>omega
def X0(s:ae):zS (kz s).1=1:=by
 unfold kz;split
 ·rw[zS,cG];rfl
 ·split
  ·rw[zS,cG];rfl
  ·rw[rB];rfl
theorem Qg{fn:ae→List Vl→Sm×Bool}(hf:∀s v,zS (fn s v).1≤1+3*bV v):∀(n:Nat) (v:List Vl) (ss:List Sm) (r:List Vl),v.length≤n→cY fn v=some (ss,r)→fV ss+3*bV r+(if ss=[] then 0 else 2)≤3*bV v∧r <:+ v
 | n,[],ss,r,_,h=>by rw[cY]at h;cases h;exact⟨by simp[fV],List.suffix_refl _⟩
 | 0,t:: q,ss,r,hn,h=>by simp at hn
 | n+1,t:: q,ss,r,hn,h=>by
   have hzt:=tM t;have step:∀(x:Sm) (q':List Vl),q' <:+ (t:: q)→q'.length≤n→ij x (cY fn q')=some (ss,r)→zS x+2+3*bV q'≤3*bV (t:: q)→fV ss+3*bV r+(if ss=[] then 0 else 2)≤3*bV (t:: q)∧r <:+ (t:: q):=by
    intro x q' hs hl e hz;cases e2:cY fn q' with
    | none=>rw[e2]at e;cases e
    | some y =>
      obtain⟨s2,r2⟩:=y;rw[e2]at e;cases e;have ih:=Qg hf n q' s2 r hl e2;rw[if_neg (by simp),fV];exact⟨by omega,ih.2.trans hs⟩
   have hq1:q.length≤n:=by simp at hn;omega
   have hsq:q <:+ (t:: q):=List.suffix_cons _ _;rw[cY.eq_def]at h;dsimp only at h;split at h
   ·split at h
    ·exact step _ q hsq hq1 h (by rw[rB,eO];omega)
    ·cases h
   ·split at h
    ·cases q with
     | nil=>cases h
     | cons u q2 =>
       have hzu:=tM u;dsimp only at h;split at h
       ·exact step _ q2 ((List.suffix_cons _ _).trans hsq) (by simp at hq1;omega) h (by rw[rB,eO,eO];omega)
       ·cases h
    ·split at h
     ·split at h
      ·have:=WO t.list;exact step _ q hsq hq1 h (by rw[eO];omega)
      ·cases h
     ·split at h
      ·cases q with
       | nil=>cases h
       | cons u q2 =>
         have hzu:=tM u;dsimp only at h;have hs2:q2 <:+ (t:: u:: q2):=(List.suffix_cons _ _).trans hsq;split at h
         ·split at h
          ·exact step _ q2 hs2 (by simp at hq1;omega) h (by rw[X0,eO,eO];omega)
          ·cases h
         ·split at h
          ·split at h
           ·have:=hf u.text u.list;exact step _ q2 hs2 (by simp at hq1;omega) h (by rw[eO,eO];omega)
           ·cases h
          ·cases h
      ·cases h;exact⟨by simp[fV],List.suffix_refl _⟩
def EJ(r:List Vl):(gV r).2 <:+ r:=by
 have hs:∀r:List Vl,bW r <:+ r:=fun r=>by
  induction r with
  | nil=>exact List.suffix_refl _
  | cons x r ih =>
    rw[bW];split
    ·exact ih.trans (List.suffix_cons _ _)
    ·exact List.suffix_refl _
 have key:∀{c:UInt8} {r':List Vl},gU c r=some r'→bW r' <:+ r:=fun {c r'} h=>by
  cases r with
  | nil=>cases h
  | cons x q =>
    rw[gU]at h;split at h
    ·cases h;exact (hs _).trans (List.suffix_cons _ _)
    ·cases h
 unfold gV;split
 ·rename_i h;exact key h
 ·split
  ·rename_i h;exact key h
  ·split
   ·rename_i h;exact key h
   ·exact List.suffix_refl _
def MI(v:List Vl):(cL v).1.length+3*bV (cL v).2+(if (cL v).1=[] then 0 else 2)≤3*bV v∧(cL v).2 <:+ v:=by
 cases v with
 | nil=>exact⟨by simp[cL],List.suffix_refl _⟩
 | cons t r =>
   have hz:=tM t;rw[cL];split
   ·refine⟨?_,List.suffix_cons _ _⟩;dsimp only;rw[Cb,eO];split<;>omega
   ·split
    ·rename_i r' e;rw[gU]at e;split at e
     ·rename_i q;cases e;refine⟨?_,List.suffix_cons _ _⟩;dsimp only;have:=congrArg List.length q.2;rw[eO];simp at this ⊢;omega
     ·cases e
    ·exact⟨by simp,List.suffix_refl _⟩
def zH(ps:List Cp)(p:Cp):fO (ps++[p])=fO ps+zP p:=by
 induction ps with
 | nil=>simp[fO]
 | cons q ps ih=>rw[acs,fO,fO,ih];omega
def vQ{has:Bool}{ss:List Sm}(h:cS d has (.mk t ss)=true):t≠[]∨ss≠[]:=by
 rw[cS]at h
 by_cases ht:t=[]
 ·right;intro e;subst ht;subst e;simp at h
 ·exact .inl ht
def P6{fn:ae→List Vl→Sm×Bool}(hf:∀s v,zS (fn s v).1≤1+3*bV v){ss:List Sm}(h:cY fn (cL v).2=some (ss,r)):zP (.mk (cL v).1 ss)+3*bV r+(if (cL v).1=[]∧ss=[] then 0 else 1)≤3*bV v+1∧r <:+ v∧((cL v).1≠[]∨ss≠[]→zP (.mk (cL v).1 ss)+3*bV r+1≤3*bV v):=by
 obtain⟨h1,h2⟩:=MI v;obtain⟨h3,h4⟩:=Qg hf _ _ _ _ (bY _) h;rw[zP];refine⟨?_,h4.trans h2,fun q=>?_⟩
 ·by_cases a:(cL v).1=[]<;>by_cases b:ss=[]<;>simp only[a,b,if_true,if_false,and_true,true_and,and_false,false_and]at h1 h3⊢<;> omega
 ·by_cases a:(cL v).1=[]
  ·have b:ss≠[]:=q.resolve_left fun z=>z a;rw[if_pos a]at h1;rw[if_neg b]at h3;omega
  ·rw[if_neg a]at h1;omega
theorem Ak{fn:ae→List Vl→Sm×Bool}(hf:∀s v,zS (fn s v).1≤1+3*bV v){has:Bool}(lead:Int):∀(n:Nat) (ps:List Cp) (cs:List Int) (v:List Vl),(gw fn (cS d has) lead n ps cs v).2=true→zX (gw fn (cS d has) lead n ps cs v).1≤3*bV v+cs.length+fO ps
 | 0,ps,cs,v,h=>by rw[gw]at h;cases h
 | n+1,ps,cs,v,h=>by
   rw[gw]at h ⊢;cases e:cY fn (cL v).2 with
   | none=>rw[e]at h;cases h
   | some y =>
     obtain⟨ss,r⟩:=y;rw[e]at h;dsimp only at h ⊢
     by_cases ho:cS d has (.mk (cL v).1 ss)=true
     ·rw[if_pos ho]at h ⊢;have h1:=(P6 hf e).2.2 (vQ ho)
      by_cases q:bW r=[]
      ·rw[if_pos q]at h ⊢;dsimp only;rw[zX,zH];omega
      ·rw[if_neg q]at h ⊢;have hc:=rC (EJ (bW r));have hs:=uQ r
       by_cases q2:(gV (bW r)).1=0
       ·rw[if_pos q2]at h ⊢
        by_cases q3:(bW r).length=r.length
        ·rw[if_pos q3]at h;cases h
        ·rw[if_neg q3]at h ⊢;have:=Ak hf lead n _ _ _ h;rw[zH]at this;simp only[AT,abL,acp]at this;omega
       ·rw[if_neg q2]at h ⊢;have:=Ak hf lead n _ _ _ h;rw[zH]at this;simp only[AT,abL,acp]at this;omega
     ·rw[if_neg ho]at h;cases h
def PN{fn:ae→List Vl→Sm×Bool}(hf:∀s v,zS (fn s v).1≤1+3*bV v){has:Bool}(rel:Bool)(v:List Vl)(h:(nj fn (cS d has) rel v).2=true):zX (nj fn (cS d has) rel v).1≤3*bV v:=by
 have hs:=uQ v;have hc:=rC (EJ (bW v));unfold nj at h ⊢;dsimp only at h ⊢;split
 ·rename_i q;rw[if_pos q]at h;have:=Ak hf _ _ _ _ _ h;simp[fO]at this;omega
 ·rename_i q;rw[if_neg q]at h;have:=Ak hf _ _ _ _ _ h;simp[fO]at this;omega
def wC(l:List (List Vl)):Nat:=(l.map bV).sum
theorem xD:∀v:List Vl,wC (fh v)≤bV v∧fh v≠[]
 | []=>by simp[fh,wC,bV]
 | x:: v=>by
   obtain⟨h1,h2⟩:=xD v;rw[fh];split
   ·refine⟨?_,by simp⟩;show bV []+wC (fh v)≤_;rw[eO,bV];omega
   ·cases e:fh v with
    | nil=>exact absurd e h2
    | cons a t =>
      rw[e]at h1;refine⟨?_,by simp⟩;have h1:bV a+wC t≤bV v:=h1;show bV (x:: a)+wC t≤_;rw[eO,eO];omega
def Pu(l:List Cx)(x:Cx):cG (l++[x])=cG l+zX x:=by
 induction l with
 | nil=>simp[cG]
 | cons y l ih=>rw[acs,cG,cG,ih];omega
theorem Bj{cp:List Vl→Cx×Bool}(hc:∀v,(cp v).2=true→zX (cp v).1≤3*bV v)(forg:Bool):∀(ps:List (List Vl)) (acc:List Cx),cG (ia cp forg ps acc).1≤cG acc+3*wC ps
 | [],acc=>by rw[ia];simp[wC]
 | p:: ps,acc=>by
   have e:wC (p:: ps)=bV p+wC ps:=rfl;rw[ia];split
   ·rename_i q;have:=Bj hc forg ps (acc++[(cp p).1]);have:=hc p q;rw[Pu]at *;omega
   ·split
    ·have:=Bj hc forg ps acc;omega
    ·simp[cG]
def Qa:∀(k:Nat) (has:Bool) (v:List Vl) (rel forg:Bool),k≤3→cG (mU k has v rel forg).1≤3*bV v:=by
 intro k;induction k with
 | zero =>
   intro has v rel forg _;have h:=uM (d:=3) (bY _) has v rel forg;rw[show 3-3=0 from rfl]at h;rw[h];have hsb:Er (dV 3 has):=fun kd v rel forg r hr=>by unfold dV gZ at hr;simp at hr
   have:=Bj (cp:=nj (lu (dV 3 has)) (cS 3 has) rel) (fun v hv=>PN (fun s v=>JP hsb s v) rel v hv) forg (fh v) [];have h2:=(xD v).1;simp[cG]at this;omega
 | succ k ih =>
   intro has v rel forg hk;have h:=uM (d:=3-(k+1)) (by omega) has v rel forg;rw[show 3-(3-(k+1))=k+1 by omega]at h;rw[h];have hsb:Er (dV (3-(k+1)) has):=fun kd v rel forg r hr=>by
    unfold dV at hr;split at hr
    ·cases hr;rw[show 3-(3-(k+1)+1)=k by omega];exact ih _ _ _ _ (by omega)
    ·cases hr
   have:=Bj (cp:=nj (lu (dV (3-(k+1)) has)) (cS (3-(k+1)) has) rel) (fun v hv=>PN (fun s v=>JP hsb s v) rel v hv) forg (fh v) [];have h2:=(xD v).1;simp only[cG,ab0]at this;omega
def Wa(d:Nat)(has:Bool):Er (dV d has):=fun kd v rel forg r hr=>by
 unfold dV at hr;split at hr
 ·cases hr;exact Qa _ _ _ _ _ (by omega)
 ·cases hr
end
end Go.Proofs.YtpcnidmmkknndaaGreatDoor
section
namespace Go.bu
open Go Go.Aw
theorem pA:∀{l:List Cp},p∈l→zP p≤fO l
 | x:: l,h=>by
   rcases ID.1 h with rfl|h
   ·rw[fO];omega
   ·rw[fO];have:=pA h;omega
theorem pC:∀{l:List Sm},p∈l→zS p≤fV l
 | x:: l,h=>by
   rcases ID.1 h with rfl|h
   ·rw[fV];omega
   ·rw[fV];have:=pC h;omega
theorem mR:∀{l:List Cx},p∈l→zX p≤cG l
 | x:: l,h=>by
   rcases ID.1 h with rfl|h
   ·rw[cG];omega
   ·rw[cG];have:=mR h;omega
def GR(x:Cx):0<zX x:=by cases x;rw[zX];omega
def GP(x:Cp):0<zP x:=by cases x;rw[zP];omega
def GQ(x:Sm):0<zS x:=by cases x;rw[zS];omega
theorem rA:∀l:List Cp,l.length≤fO l
 | []=>by simp
 | x:: l=>by rw[fO];have:=rA l;have:=GP x;simp;omega
theorem pB:∀l:List Sm,l.length≤fV l
 | []=>by simp
 | x:: l=>by rw[fV];have:=pB l;have:=GQ x;simp;omega
theorem rD:∀l:List Cx,l.length≤cG l
 | []=>by simp
 | x:: l=>by rw[cG];have:=rD l;have:=GR x;simp;omega
end Go.bu
namespace Go.Proofs.YtpcnidmmkknndaaGreatDoor
open Go Go.Aw Go.bu
variable [Laid]
def Ku(n:Nat):Prop:=∀x:Cx,zX x≤n→∀(d:Nat) (has rel:Bool),d≤3→bn p_ 35 [.agg (fY x),.agg [i_ d,b_ has],b_ rel] (b_ (eH d has rel x))
def Pv(n:Nat):Prop:=∀p:Cp,zP p≤n→∀(d:Nat) (has:Bool),d≤3→bn p_ 50 [.agg (iO p),.agg [i_ d,b_ has]] (b_ (cS d has p))
def Sx(n:Nat):Prop:=∀s:Sm,zS s≤n→∀(d:Nat) (has:Bool),d≤3→bn p_ 82 [.agg (ft s),.agg [i_ d,b_ has]] (b_ (jf d has s))
def JJ(hP:Pv n)(p:Cp)(hz:zP p≤n)(d:Nat)(has:Bool)(hd:d≤3):bn p_ 49 [.agg (iO p),.ip [i_ d,b_ has]] (b_ (!cS d has p)):=by
 refine (V49 _ _).bj (by simp[D8]) (by simp) ?_;unfold YK;refine fq (by rw[ri];rfl) (zzV rfl (by simp[ri]) (zzY rfl (oM (by simp[ri]) (by kernel_rfl) (hP p hz d has hd) (zzO ?_))));exact .pure (by simp) rfl
omit [Laid] in
def Iz(d:Nat)(has rel:Bool)(l:Int)(ps:List Cp)(cs:List Int)(h:¬((rel == !decide (l=0))=true∧l≤4∧cs.length+1=ps.length∧ps.length≤64)):eH d has rel (.mk l ps cs)=false:=by
 rw[eH];grind
def NJ(hn:n<2^60)(hP:Pv n):Ku (n+1):=by
 rintro⟨l,ps,cs⟩ hz d has rel hd;rw[zX]at hz;refine (V35 _ _ _).bj (by simp[yv]) (by simp) ?_;unfold Yw;rw[fY];have hc:aK (((cs.map fun c=>[u1 c]).length:Int)+1):=by rw[abM];unfold aK;omega
 have hlen:(dw ps).length=ps.length:=by simp[du]
 repeat' (first|(with_reducible apply aD)|(with_reducible apply aq)|((with_reducible first|apply fj|apply dP);rfl;rfl)|((with_reducible apply KE);rfl;rfl)|((with_reducible apply cn);rfl;rfl;first|assumption|(unfold aK;omega))|((with_reducible apply aM);rfl)|((with_reducible apply aN);rfl)|((with_reducible apply au);rfl;first|rfl|assumption)|((with_reducible apply bw);rfl;first|rfl|assumption)|((with_reducible apply fx);rfl)|((with_reducible apply aJ);rfl)|((with_reducible apply aF);rfl;rfl;rfl)|((with_reducible apply fq);first|rfl|simp)|((with_reducible apply dA);rfl;(first|rfl|simp);intro _)|((with_reducible apply ct);rfl)|((with_reducible apply cH);rfl)|(with_reducible intro _))
 rotate_left
 -- the combinators,one by one
 ·rename_i a1 a2 a3 a4 a5 a6 a7 a8;have b1:(rel == !decide (l=0))=true:=by simpa using a1
  have b2:l≤4:=by simpa using a2
  have b3:cs.length+1=ps.length:=by rw[hlen]at a5;simp at a5;omega
  have b4:ps.length≤64:=by rw[hlen]at a7;simp at a7;omega
  refine ba (α:=Nat) (fun k=>k≤cs.length∧(cs.take k).all (fun c=>decide (1≤c∧c≤4))=true) (fun k=>[i_ k]) (fun _=>[.ah ⟨39,[u1 l,.sl 2 (dw ps),.sl 1 (cs.map fun c=>[u1 c])],true⟩,.ah ⟨80,[i_ d,b_ has],true⟩]) (fun k=>cs.length-k) 0 (by simp) (Wk.refl _ _ _ (by simp)) ?_;rintro k ⟨hk,hI⟩;rcases uP k cs.length with q|q
  ·obtain⟨c,hx⟩:∃c,cs[k]?=some c:=⟨cs[k],dO q⟩;have hin:aK ((k:Int)+1):=by unfold aK;omega
   have nxt:(cs.take (k+1)).all (fun c=>decide (1≤c∧c≤4))=decide (1≤c∧c≤4):=by
    rw[By,hx,List.all_append,hI];simp
   have bad:¬(1≤c∧c≤4)→eH d has rel (.mk l ps cs)=false:=by
    intro hb;rw[eH];have:cs.all (fun c=>decide (1≤c∧c≤4))=false:=by
     rw[List.all_eq_false];exact⟨c,gE hx,by simpa using hb⟩
    rw[this];simp
   refine zzC (zzL (by simpa using q) (zzb rfl rfl hx ?_));repeat' (first|(with_reducible apply aD)|(with_reducible apply aq)|((with_reducible first|apply cM|apply fj);rfl;rfl)|((with_reducible apply cn);rfl;rfl;first|assumption|(unfold aK;omega))|((with_reducible apply aM);rfl)|((with_reducible apply aN);rfl)|((with_reducible apply au);rfl;first|rfl|assumption)|((with_reducible apply eF);rfl)|((with_reducible apply ct);rfl)|((with_reducible apply cH);rfl)|(with_reducible intro _))
   all_goals first
    | exact .pure (by simp) (by rw[bad (by simp_all;try omega)])
    | exact⟨k+1,⟨q,by rw[nxt];simp_all;try omega⟩,Wk.refl _ _ _ (by simp),by omega⟩
  ·have hk:k=cs.length:=by omega
   subst hk;rw[BY]at hI;refine zzC (zzK (by simp) (zzA (zzU rfl rfl (xc (by kernel_rfl) (DP ps 49 [.ip [i_ d,b_ has]] (fun p=>!cS d has p) (by simp[aR,Aw.Pure]) (by kernel_rfl) (fun p hp=>JJ hP p (by have:=pA hp;omega) d has hd)) (by simp only[GO,List.map_nil,jT];exact⟨by rw[CM _ _ _ _ (by simp[so])];exact Le.refl _,by simp[tl,eT,nN],trivial⟩) (by simp) (zzO (.pure (by simp) ?_))))));rw[eH,kV,hI,b1];simp[b2,b3,b4,List.any_eq_not_all_not]
 all_goals refine .pure (by simp) ?_
 all_goals rw[Iz _ _ _ _ _ _ (by rw[abM,hlen]at *;grind)]
end Go.Proofs.YtpcnidmmkknndaaGreatDoor
end
namespace Go.Proofs.YtpcnidmmkknndaaGreatDoor
section
open Go Go.Aw Go.bu
variable [Laid]
def NH(hn:n<2^60)(hS:Sx n):Pv (n+1):=by
 rintro⟨t,ss⟩ hz d has hd;rw[zP]at hz;refine (V50 _ _).bj (by simp[D8]) (by simp) ?_;unfold YL;rw[iO];have hlen:(ek ss).length=ss.length:=by simp[dB]
 have hsl:=pB ss;repeat' (first|(with_reducible apply aD)|(with_reducible apply aq)|((with_reducible apply fj);rfl;rfl)|((with_reducible apply jU);rfl;rfl)|((with_reducible apply dQ);rfl)|((with_reducible apply aM);rfl)|((with_reducible apply aN);rfl)|((with_reducible apply au);rfl;first|rfl|assumption)|((with_reducible apply bp);rfl;first|rfl|assumption)|((with_reducible apply bw);rfl;first|rfl|assumption)|((with_reducible apply fx);rfl)|((with_reducible apply aJ);rfl)|((with_reducible apply aF);rfl;rfl;rfl)|((with_reducible apply fq);first|rfl|simp)|((with_reducible apply dA);rfl;(first|rfl|simp);intro _)|(refine uCon (wZ _) ?_)|((with_reducible apply ct);rfl)|((with_reducible apply cH);rfl)|(with_reducible intro _))
 all_goals first
  | (refine .pure (by simp) ?_
     have:cS d has (.mk t ss)=false:=by rw[cS];grind
     rw[this])
  | (have b1:(decide (t=[])||decide (t=[42])||small t)=true:=by grind
     have b2:ss.length≤64:=by grind
     refine ba (α:=Nat) (fun k=>k≤ss.length∧(ss.take k).all (jf d has)=true) (fun k=>[i_ k]) (fun _=>[.ah ⟨42,[.str t,.sl 9 (ek ss)],true⟩,.ah ⟨80,[i_ d,b_ has],true⟩]) (fun k=>ss.length-k) 0 (by simp) (Wk.refl _ _ _ (by simp)) ?_;rintro k ⟨hk,hI⟩;rcases uP k ss.length with q|q
     ·obtain⟨s,hx⟩:∃s,ss[k]?=some s:=⟨ss[k],dO q⟩;have hin:aK ((k:Int)+1):=by unfold aK;omega
      have nxt:(ss.take (k+1)).all (jf d has)=jf d has s:=by
       rw[By,hx,List.all_append,hI];simp
      have bad:jf d has s=false→cS d has (.mk t ss)=false:=by
       intro hb;rw[cS,kW];have:ss.all (jf d has)=false:=by
        rw[List.all_eq_false];exact⟨s,gE hx,by simp[hb]⟩
       rw[this];simp
      have hzs:zS s≤n:=by have:=pC (gE hx);omega
      refine zzC (zzL (by rw[hlen];simpa using q) (zzb (dB ss) rfl hx (zzY (by simp[mH]) (fq rfl (dR (cs:=ft s) rfl rfl rfl rfl (by simp[mH]) (by simp[mH]) (by simp[mH]) ?_)))));have hset:cf (bh (.agg [(u8 0),(.str []),(u8 0),(.str []),ff,(i_ 0),(i_ 0),ff,(.v (.slice none 0 0))])) 0 (ft s)=ft s:=by rw[mH];rfl
      rw[hset];refine zzV rfl (by simp[mH]) (zzV rfl (bY _) (oM (by simp[mH]) (by kernel_rfl) (hS s hzs d has hd) ?_));repeat' (first|(with_reducible apply aq)|((with_reducible apply cn);rfl;rfl;first|assumption|(unfold aK;omega))|((with_reducible apply dQ);rfl)|((with_reducible apply ju);rfl)|((with_reducible apply ct);rfl)|(with_reducible intro _))
      all_goals first
       | exact .pure (by simp) (by rw[bad (by simp_all)])
       | exact⟨k+1,⟨q,by rw[nxt];simp_all⟩,Wk.back (M:=2) (by simp) (by simp) rfl (by simp) (by simp[rT];exact⟨kS _ _ (by simp[xu]),kS _ _ (by simp)⟩) (by simp[Bd]),by omega⟩
     ·have hk:k=ss.length:=by omega
      subst hk;rw[BY]at hI;refine zzC (zzK (by rw[hlen];simp) ?_);repeat' (first|(with_reducible apply aD)|((with_reducible apply fj);rfl;rfl)|((with_reducible apply jU);rfl;rfl)|((with_reducible apply aM);rfl)|((with_reducible apply aN);rfl)|((with_reducible apply bp);rfl;first|rfl|assumption)|((with_reducible apply bw);rfl;first|rfl|assumption)|((with_reducible apply fx);rfl)|((with_reducible apply aJ);rfl)|((with_reducible apply aF);rfl;rfl;rfl)|((with_reducible apply dA);rfl;(first|rfl|simp);intro _))
      all_goals refine .pure (by simp) ?_
      all_goals rw[cS,kW,hI,b1]
      all_goals cases ss<;>simp_all [ek])
def QF(d:Nat)(has:Bool)(k:Int)(hd:d≤3)(hq:gZ d has k=true):bn p_ 110 [.agg [i_ d,b_ has],u1 k] (.aA [.agg [i_ (d+1),b_ (has||decide (k=14))],tt]):=by
 have:=Ad d has k hd;rw[hq]at this;simpa using this
def QE(d:Nat)(has:Bool)(k:Int)(hd:d≤3)(hq:gZ d has k=false):bn p_ 110 [.agg [i_ d,b_ has],u1 k] (.aA [.agg [i_ 0,ff],ff]):=by
 have:=Ad d has k hd;rw[hq]at this;simpa using this
def GX(hX:Ku n)(x:Cx)(hz:zX x≤n)(d:Nat)(has:Bool)(hd:d≤3)(k:Int)(r:List AV)(pr:aR r):bn p_ 111 [.agg (fY x),.ip [i_ d,b_ has],.ip (u1 k:: r)] (b_ (!eH d has (decide (k=14)) x)):=by
 refine (ZK _ _ _).bj (by simp[yv,pr]) (by simp) ?_;unfold SY;refine fq (by rw[jy];rfl) (zzV rfl (by simp[jy]) (zzY rfl (zzX (zzW (zzG (oM (by simp[jy]) (by kernel_rfl) (hX x hz d has (decide (k=14)) hd) (zzO ?_)))))));exact .pure (by simp) rfl
def GY(hX:Ku n)(l:List Cx)(hz:cG l≤n)(d:Nat)(has:Bool)(hd:d≤3)(k:Int)(r:List AV)(pr:aR r):bn p_ 33 [.sl 3 (bQ l),.fn (.func 111) [] [.ip [i_ d,b_ has],.ip (u1 k:: r)]] (b_ (!dY d has (decide (k=14)) l)):=by
 have:=wG l 111 [.ip [i_ d,b_ has],.ip (u1 k:: r)] (fun x=>!eH d has (decide (k=14)) x) (by simp[aR,Aw.Pure,pr]) (by kernel_rfl) (fun x hx=>GX hX x (by have:=mR hx;omega) d has hd k r pr);rw[ku,show (!l.all (eH d has (decide (k=14))))=l.any (fun x=>!eH d has (decide (k=14)) x) by simp[List.any_eq_not_all_not]];exact this
omit [Laid] in
def LS(d:Nat)(has:Bool)(k:Int)(n:ae)(o:Int)(v:ae)(f:Bool)(a b:Int)(w:Bool)(l:List Cx):jf d has (.mk k n o v f a b w l)=(iL k n o v f a b w&&(if gA k w then gZ d has k&&(nw k||!decide (l.length=0))&&dY (d+1) (has||decide (k=14)) (decide (k=14)) l else decide (l.length=0))):=by
 rw[jf];have:l.isEmpty=decide (l.length=0):=by cases l<;>simp
 rw[this];unfold gZ
 grind
def NI(hX:Ku n):Sx (n+1):=by
 rintro⟨k,na,o,v,f,a,b,w,l⟩ hz d has hd;rw[zS]at hz;refine (V82 _ _).bj (by simp[D9]) (by simp) ?_;unfold Zd;rw[ft,LS];have hlen:(bQ l).length=l.length:=by simp[cA]
 have pX:=gK l;cases hq:gZ d has k
 ·repeat' (first|(with_reducible apply aD)|(with_reducible apply aq)|((with_reducible first|apply ig|apply fj|apply mE|apply bP|apply dP);rfl;rfl)|((with_reducible first|apply gq|apply jU);rfl;rfl)|((with_reducible apply dQ);rfl)|((with_reducible apply aM);rfl)|((with_reducible apply aN);rfl)|((with_reducible apply au);rfl;first|rfl|assumption)|((with_reducible apply ax);rfl;first|rfl|assumption)|((with_reducible apply bp);rfl;first|rfl|assumption)|((with_reducible apply bw);rfl;first|rfl|assumption)|((with_reducible apply dk);rfl)|((with_reducible apply ju);rfl)|((with_reducible apply fx);rfl)|((with_reducible apply aJ);rfl)|((with_reducible apply aF);rfl;rfl;rfl)|((with_reducible apply dp);rfl;rfl;first|exact bY _|exact lT rfl)|((with_reducible apply xL);rfl;rfl;rfl)|((with_reducible apply fq);first|rfl|simp)|((with_reducible apply dR);rfl;rfl;rfl;rfl;(first|exact bY _|simp);(first|rfl|simp);(first|rfl|simp))|((with_reducible apply dA);rfl;(first|rfl|simp);intro _)|((with_reducible apply bc);rfl)|((with_reducible apply iW);rfl;rfl)|(refine uCon (C6 k na o v f a b w (bQ l) pX) ?_)|(refine uCon (QE d has k hd hq) ?_)|(refine uCon (wY _) ?_)|(refine uCon (wZ _) ?_)|(refine uCon (zd _ _) ?_)|(refine uCon (ot _ _) ?_)|((with_reducible apply ct);rfl)|((with_reducible apply cH);rfl)|(with_reducible intro _))
  all_goals refine .pure (by simp) ?_
  all_goals simp only[ep,gI,AV.v.injEq,Value.bool.injEq,Value.int.injEq,true_and,hlen]at *
  all_goals grind [gA,Aq,dH,iL,nw,jn]
 ·have hd':d+1≤3:=by unfold gZ at hq;grind
  repeat' (first|(with_reducible apply aD)|(with_reducible apply aq)|((with_reducible first|apply ig|apply fj|apply mE|apply bP|apply dP);rfl;rfl)|((with_reducible first|apply gq|apply jU);rfl;rfl)|((with_reducible apply dQ);rfl)|((with_reducible apply aM);rfl)|((with_reducible apply aN);rfl)|((with_reducible apply au);rfl;first|rfl|assumption)|((with_reducible apply ax);rfl;first|rfl|assumption)|((with_reducible apply bp);rfl;first|rfl|assumption)|((with_reducible apply bw);rfl;first|rfl|assumption)|((with_reducible apply dk);rfl)|((with_reducible apply ju);rfl)|((with_reducible apply fx);rfl)|((with_reducible apply aJ);rfl)|((with_reducible apply aF);rfl;rfl;rfl)|((with_reducible apply dp);rfl;rfl;first|exact bY _|exact lT rfl)|((with_reducible apply xL);rfl;rfl;rfl)|((with_reducible apply fq);first|rfl|simp)|((with_reducible apply dR);rfl;rfl;rfl;rfl;(first|exact bY _|simp);(first|rfl|simp);(first|rfl|simp))|((with_reducible apply dA);rfl;(first|rfl|simp);intro _)|((with_reducible apply bc);rfl)|((with_reducible apply iW);rfl;rfl)|(refine uCon (C6 k na o v f a b w (bQ l) pX) ?_)|(refine uCon (QF d has k hd hq) ?_)|(refine xc (by kernel_rfl) (GY hX l (by omega) (d+1) (has||decide (k=14)) hd' k [.str na,u1 o,.str v,b_ f,i_ a,i_ b,b_ w,.sl 3 (bQ l)] (by simp[pX])) (by simp only[GO,List.map_nil,jT];exact⟨by rw[CM _ _ _ _ (by simp[pX])];exact Le.refl _,by simp[tl,eT,nN,zG _ _ _ _ pX],trivial⟩) (by simp) ?_)|(refine uCon (wY _) ?_)|(refine uCon (wZ _) ?_)|(refine uCon (zd _ _) ?_)|(refine uCon (ot _ _) ?_)|((with_reducible apply ct);rfl)|((with_reducible apply cH);rfl)|(with_reducible intro _))
  all_goals refine .pure (by simp) ?_
  all_goals simp only[ep,gI,AV.v.injEq,Value.bool.injEq,Value.int.injEq,true_and,hlen]at *
  all_goals grind [gA,Aq,dH,iL,nw,jn]
end
end Go.Proofs.YtpcnidmmkknndaaGreatDoor
section
namespace Go.bu
open Go Go.Aw
mutual
theorem Xf:∀x:Cx,nX x+1≤zX x
 | .mk _ ps _=>by rw[nX,zX];have:=LL ps;omega
theorem LL:∀l:List Cp,fL l≤fO l
 | []=>by simp[fL]
 | p:: l=>by rw[fL,fO];have:=Xd p;have:=LL l;omega
theorem Xd:∀p:Cp,nP p≤zP p
 | .mk _ ss=>by rw[nP,zP];have:=LM ss;omega
theorem LM:∀l:List Sm,dT l≤fV l
 | []=>by simp[dT]
 | s:: l=>by rw[dT,fV];have:=Xe s;have:=LM l;omega
theorem Xe:∀s:Sm,nS s≤zS s
 | .mk _ _ _ _ _ _ _ _ l=>by rw[nS,zS];have:=A8 l;omega
theorem A8:∀l:List Cx,l.length+eD l≤cG l
 | []=>by simp[eD]
 | x:: l=>by rw[eD,cG];have:=Xf x;have:=A8 l;simp;omega
end
def FN{l:List Cx}{k:Nat}{x:Cx}(h:l[k]?=some x):eD (l.take (k+1))=eD (l.take k)+nX x:=by
 induction l generalizing k with
 | nil=>simp at h
 | cons y l ih =>
   cases k with
   | zero=>simp at h;subst h;simp[eD]
   | succ k=>simp at h;rw[List.take_succ_cons,eD,ih h,List.take_succ_cons,eD];omega
def FK{l:List Cp}{k:Nat}{x:Cp}(h:l[k]?=some x):fL (l.take (k+1))=fL (l.take k)+nP x:=by
 induction l generalizing k with
 | nil=>simp at h
 | cons y l ih =>
   cases k with
   | zero=>simp at h;subst h;simp[fL]
   | succ k=>simp at h;rw[List.take_succ_cons,fL,ih h,List.take_succ_cons,fL];omega
def FM{l:List Sm}{k:Nat}{x:Sm}(h:l[k]?=some x):dT (l.take (k+1))=dT (l.take k)+nS x:=by
 induction l generalizing k with
 | nil=>simp at h
 | cons y l ih =>
   cases k with
   | zero=>simp at h;subst h;simp[dT]
   | succ k=>simp at h;rw[List.take_succ_cons,dT,ih h,List.take_succ_cons,dT];omega
def yS(l:List Cx)(k:Nat):eD (l.take k)≤eD l:=by
 induction l generalizing k with
 | nil=>simp
 | cons y l ih=>cases k with
   | zero=>simp[eD]
   | succ k=>rw[List.take_succ_cons,eD,eD];have:=ih k;omega
def yQ(l:List Cp)(k:Nat):fL (l.take k)≤fL l:=by
 induction l generalizing k with
 | nil=>simp
 | cons y l ih=>cases k with
   | zero=>simp[fL]
   | succ k=>rw[List.take_succ_cons,fL,fL];have:=ih k;omega
def yR(l:List Sm)(k:Nat):dT (l.take k)≤dT l:=by
 induction l generalizing k with
 | nil=>simp
 | cons y l ih=>cases k with
   | zero=>simp[dT]
   | succ k=>rw[List.take_succ_cons,dT,dT];have:=ih k;omega
end Go.bu
namespace Go.Proofs.YtpcnidmmkknndaaGreatDoor
open Go Go.Aw Go.bu
variable [Laid]
theorem EG:∀n,n<2^60→Ku n∧Pv n∧Sx n
 | 0,_=>⟨fun x hz=>by have:=GR x;omega,fun x hz=>by have:=GP x;omega,fun x hz=>by have:=GQ x;omega⟩
 | n+1,hn=>by
   obtain⟨hX,hP,hS⟩:=EG n (by omega);exact⟨NJ (by omega) hP,NH (by omega) hS,NI hX⟩
def K9(x:Cx)(hz:zX x<2^60)(d:Nat)(has rel:Bool)(hd:d≤3):bn p_ 35 [.agg (fY x),.agg [i_ d,b_ has],b_ rel] (b_ (eH d has rel x)):=
 (EG (zX x) hz).1 x (bY _) d has rel hd
def Sy(n:Nat):Prop:=∀l:List Cx,cG l<n→bn p_ 26 [.sl 3 (bQ l)] (i_ (number l))
def QJ{n:Nat}(hn:n<2^60)(hC:Sy n):Sy (n+1):=by
 intro l hz;refine (V26 _).bj (by simp[gK]) (by simp) ?_;unfold Yn;have hl:=A8 l;refine zzf (n:=l.length) (by simp[cA]) fun _=>?_;refine zzf (n:=l.length) (by simp[cA]) fun _=>?_;refine ba (α:=Nat) (fun k=>k≤l.length) (fun k=>[i_ ((l.length+eD (l.take k):Nat):Int),i_ k]) (fun _=>[]) (fun k=>l.length-k) 0 (by simp) (by simpa[eD]using Wk.refl _ _ _ (by simp)) ?_;intro k hk;rcases uP k l.length with q|q
 ·obtain⟨⟨le,ps,cs⟩,hx⟩:∃x,l[k]?=some x:=⟨l[k],dO q⟩;have hin:aK ((k:Int)+1):=by unfold aK;omega
  have hzx:=mR (gE hx);rw[zX]at hzx;have hnx:=FN hx;rw[nX]at hnx;have hle:=yS l (k+1);refine zzC (zzL (by simpa using q) (zzb (cA l) rfl hx (zzY (by simp[jy]) (fq rfl ?_))));rw[fY];refine dR (cs:=[u1 le,.sl 2 (dw ps),.sl 1 (cs.map fun c=>[u1 c])]) rfl rfl rfl rfl (bY _) rfl rfl (zzA (zzU rfl rfl ?_));refine zzf (n:=ps.length) (by simp[du]) fun _=>?_;refine ba (α:=Nat) (fun i=>i≤ps.length) (fun i=>[i_ ((l.length+eD (l.take k)+fL (ps.take i):Nat):Int),i_ i]) (fun _=>[.ah ⟨39,[u1 le,.sl 2 (dw ps),.sl 1 (cs.map fun c=>[u1 c])],true⟩]) (fun i=>ps.length-i) 0 (by simp) (by simpa[fL]using Wk.refl _ _ _ (by simp)) ?_;intro i hi;rcases uP i ps.length with q2|q2
  ·obtain⟨⟨t,ss⟩,hp⟩:∃x,ps[i]?=some x:=⟨ps[i],dO q2⟩;have hin2:aK ((i:Int)+1):=by have:=rA ps;unfold aK;omega
   have hzp:=pA (gE hp);rw[zP]at hzp;have hnp:=FK hp;rw[nP]at hnp;have hle2:=yQ ps (i+1);refine zzC (zzL (by simpa using q2) (zzb (du ps) rfl hp (zzY (by simp[ri]) (fq rfl ?_))));rw[iO];refine dR (cs:=[.str t,.sl 9 (ek ss)]) rfl rfl rfl rfl (bY _) rfl rfl (zzA (zzU rfl rfl ?_));refine zzf (n:=ss.length) (by simp[dB]) fun _=>?_;refine ba (α:=Nat) (fun j=>j≤ss.length) (fun j=>[i_ ((l.length+eD (l.take k)+fL (ps.take i)+dT (ss.take j):Nat):Int),i_ j]) (fun _=>[.ah ⟨39,[u1 le,.sl 2 (dw ps),.sl 1 (cs.map fun c=>[u1 c])],true⟩,.ah ⟨42,[.str t,.sl 9 (ek ss)],true⟩]) (fun j=>ss.length-j) 0 (by simp) (by simpa[dT]using Wk.refl _ _ _ (by simp)) ?_;intro j hj;rcases uP j ss.length with q3|q3
   ·obtain⟨⟨kd,na,o,v,f,a,b,w,l2⟩,hs⟩:∃x,ss[j]?=some x:=⟨ss[j],dO q3⟩;have hin3:aK ((j:Int)+1):=by have:=pB ss;unfold aK;omega
    have hzs:=pC (gE hs);rw[zS]at hzs;have hns:=FM hs;rw[nS]at hns;have hle3:=yR ss (j+1);have hin4:aK (((l.length+eD (l.take k)+fL (ps.take i)+dT (ss.take j):Nat):Int)+(number l2:Int)):=by unfold number aK;omega
    refine zzC (zzL (by simpa using q3) (zzb (dB ss) rfl hs (zzY (by simp[mH]) (fq rfl ?_))));rw[ft];refine dR (cs:=[u1 kd,.str na,u1 o,.str v,b_ f,i_ a,i_ b,b_ w,.sl 3 (bQ l2)]) rfl rfl rfl rfl (bY _) rfl rfl (zzA (zzU rfl rfl (uCon (hC l2 (by omega)) (zzP hin4 (zzP hin3 (aq ?_))))));refine⟨j+1,q3, ?_,by omega⟩;have e:((l.length+eD (l.take k)+fL (ps.take i)+dT (ss.take j):Nat):Int)+(number l2:Int)=((l.length+eD (l.take k)+fL (ps.take i)+dT (ss.take (j+1)):Nat):Int):=by rw[hns];unfold number;omega
    rw[e];exact Wk.back (M:=2) (by simp) (by simp) rfl (by simp) (by simp[rT];exact⟨kS _ _ (by simp[so,Bm]),kS _ _ (by simp[xu])⟩) (by simp[Bd])
   ·have hj:j=ss.length:=by omega
    subst hj;rw[BY];refine zzC (zzK (by simp) (zzP hin2 (aq ?_)));refine⟨i+1,q2, ?_,by omega⟩;rw[hnp];exact Wk.back (M:=1) (by simp) (by simp) rfl (by simp[Nat.add_assoc]) (by simp[rT];exact kS _ _ (by simp[so,Bm])) (by simp[Bd])
  ·have hi:i=ps.length:=by omega
   subst hi;rw[BY];refine zzC (zzK (by simp) (zzP hin (aq ?_)));refine⟨k+1,q, ?_,by omega⟩;rw[hnx];exact Wk.back (M:=0) (by simp) (by simp) rfl (by simp[Nat.add_assoc]) (by simp) (by simp[Bd])
 ·have hk:k=l.length:=by omega
  subst hk;rw[BY];refine zzC (zzK (by simp) ?_);exact .pure (by simp) rfl
theorem Lc:∀n,n<2^60→Sy n
 | 0,_=>fun l hz=>by omega
 | n+1,hn=>QJ (by omega) (Lc n (by omega))
def C5(l:List Cx)(hz:cG l<2^59):bn p_ 26 [.sl 3 (bQ l)] (i_ (number l)):=
 Lc (cG l+1) (by omega) l (by omega)
def Jz(x:Cx)(hz:zX x<2^60):bn p_ 34 [.agg (fY x)] (b_ (!eH 0 false false x)):=by
 refine (V34 _).bj (by simp[yv]) (by simp) ?_;unfold Yv;refine fq (by rw[jy];rfl) (zzV rfl (by simp[jy]) (bc rfl (oM (by simp[jy]) (by kernel_rfl) (K9 x hz 0 false false (by omega)) (zzO ?_))));exact .pure (by simp) rfl
def KZ(l:List Cx)(hz:cG l<2^59):bn p_ 20 [.sl 3 (bQ l)] (i_ (gu l)):=by
 refine (V20 _).bj (by simp[gK]) (by simp) ?_;unfold Yi;have hlen:(bQ l).length=l.length:=by simp[cA]
 have hany:=wG l 34 [] (fun x=>!eH 0 false false x) (by simp[aR]) (by kernel_rfl) (fun x hx=>Jz x (by have:=mR hx;omega));have he:l.isEmpty=decide (l.length=0):=by cases l<;>simp
 rw[show l.any (fun x=>!eH 0 false false x)=!dY 0 false false l by rw[ku];simp[List.any_eq_not_all_not]]at hany;repeat' (first|(with_reducible apply aD)|(with_reducible apply aq)|((with_reducible first|apply fj|apply bP);rfl;rfl)|((with_reducible apply aM);rfl)|((with_reducible apply aN);rfl)|((with_reducible apply au);rfl;first|rfl|assumption)|((with_reducible apply ju);rfl)|((with_reducible apply dA);rfl;(first|rfl|simp);intro _)|(refine uCon (hany) ?_)|(refine uCon (C5 l hz) ?_)|((with_reducible apply ct);rfl)|((with_reducible apply cH);rfl)|(with_reducible intro _))
 all_goals refine .pure (by simp) ?_
 all_goals simp only[ep,gI,AV.v.injEq,Value.bool.injEq,Value.int.injEq,true_and,hlen,he,gu]at *
 all_goals grind
end Go.Proofs.YtpcnidmmkknndaaGreatDoor
end
namespace Go.Proofs.YtpcnidmmkknndaaGreatDoor
section
open Go Go.Aw Go.dN Go.RowKit
open Go.bu hiding u1 ae
mutual
def vB:Vl→Prop
 | .mk _ t n u _ l=>(-10^15≤n∧n≤10^15)∧t.length≤2^20∧u.length≤2^20∧jh l
def jh:List Vl→Prop
 | []=>True
 | v:: l=>vB v∧jh l
end
theorem yD:∀{l:List Vl} {x:Vl},jh l→x∈l→vB x
 | y:: l,x,h,hx=>by
   rw[jh]at h;rcases ID.1 hx with rfl|hx
   ·exact h.1
   ·exact yD h.2 hx
theorem CR:∀{l:List Vl},(∀x∈l,vB x)→jh l
 | [],_=>trivial
 | y:: l,h=>⟨h y (by simp),CR fun x hx=>h x (by simp[hx])⟩
def CS(h:jh l)(hs:∀x∈m,x∈l):jh m:=CR fun x hx=>yD h (hs x hx)
def Sl(h:vB x):jh x.list:=by cases x;rw[vB]at h;exact h.2.2.2
mutual
theorem XJ:∀(x:Vl),vB x→∀t∈jH x,(-10^15≤t.n∧t.n≤10^15)∧t.t.length≤2^20∧t.u.length≤2^20
 | .mk k t n u f l,h,x,hx=>by
   rw[vB]at h;rw[jH]at hx;rcases ID.1 hx with rfl|hx
   ·exact⟨h.1,h.2.1,h.2.2.1⟩
   ·split at hx
    ·cases hx
    ·rcases Is.1 hx with hx|hx
     ·exact GC l h.2.2.2 x hx
     ·simp at hx;subst hx;exact⟨⟨by show (-10^15:Int)≤0;decide,by show (0:Int)≤10^15;decide⟩,abY _,abY _⟩
theorem GC:∀(l:List Vl),jh l→∀t∈bO l,(-10^15≤t.n∧t.n≤10^15)∧t.t.length≤2^20∧t.u.length≤2^20
 | [],_,x,hx=>by rw[bO]at hx;cases hx
 | v:: l,h,x,hx=>by
   rw[jh]at h;rw[bO]at hx;rcases Is.1 hx with hx|hx
   ·exact XJ v h.1 x hx
   ·exact GC l h.2 x hx
end
def R6(h:jh v)(hc:je v=0):pU (bO v):=by
 refine⟨?_,GC v h⟩;rw[mA];unfold je at hc;split at hc
 ·cases hc
 ·split at hc
  ·cases hc
  ·omega
def Pt{a b:Nat}{lo hi:Option AV}{K:AV→Prop}(ha:fc lo 0=some (a:Int))(hb:fc hi v.length=some (b:Int))(h1:a≤b)(h2:b≤v.length)(q:K (.sl 6 (cE ((v.take b).drop a)))):lD 6 (.sl 6 (cE v)) lo hi K:=by
 have hl:(cE v).length=v.length:=by simp[eG]
 rw[PT,ha,hl,hb];refine⟨rfl,⟨by omega,by omega,by omega⟩, ?_⟩;have:((cE v).take (b:Int).toNat).drop (a:Int).toNat=cE ((v.take b).drop a):=by simp[eG]
 rw[this];exact q
abbrev Vv(o:List Cx×Bool):AV:=.aA [gg 3 (eD_ o.1),b_ o.2]
def OP(o:List Cx×Bool):Aw.Pure (Vv o):=by simp only[aR,Aw.Pure,and_true];exact lM (ml _)
abbrev wM(d:Nat)(has:Bool):AV:=.agg [i_ d,b_ has]
variable [bq]
def QA(l:List Tok)(hl:pU l):bn p_ 177 [yO l] (.aA [(qy l).1,i_ (qy l).2]):=by
 unfold yO;split
 ·rename_i e;subst e;exact bn.arg (Hq [] hl) (.cons (.nil 5) .nil) (by simp[aR,Aw.Pure])
 ·exact Hq l hl
def Ep(n:Nat):Prop:=∀(v:List Vl),bV v<n→jh v→∀(d:Nat) (has rel forg:Bool),d≤3→bn p_ 32 [.sl 6 (cE v),wM d has,b_ rel,b_ forg] (Vv (mU (3-d) has v rel forg))
omit [bq] in
def OM(v:List Vl):(v.findIdx? ir=none∧ofI v=-1)∨∃i,v.findIdx? ir=some i∧ofI v=(i:Int)∧i<v.length:=by
 unfold ofI;cases h:v.findIdx? ir with
 | none=>exact .inl ⟨rfl,rfl⟩
 | some i =>
   rw[List.findIdx?_eq_some_iff_getElem]at h;exact .inr ⟨i,rfl,rfl,h.1⟩
def QG{n:Nat}(hn:n≤2^30)(hP:Ep n)(v:List Vl)(hz:bV v<n)(hb:jh v)(d:Nat)(has:Bool)(hd:d≤3)(k:Int):bn p_ 144 [.agg (nS_ (dm k [])),.sl 6 (cE v),wM d has] (atR (si (dV d has) k v)):=by
 have hlv:=mQ v;refine (Z2 _ _ _).bj (by simp only[aR,Aw.Pure,and_true,true_and];exact⟨jS _,lG v⟩) (by simp only[aR,Aw.Pure,and_true];exact jS _) ?_;unfold Tj;obtain⟨plE,hplE⟩:∃plE:aL,plE=.ah ⟨80,[i_ d,b_ has],true⟩:=⟨_,rfl⟩;refine ca (cs:=nS_ (dm k [])) (n:=0) (h':=[cX (dm k [])]) rfl (rk _) rfl rfl (ca (cs:=[i_ d,b_ has]) (n:=1) (h':=[cX (dm k []),plE]) rfl rfl rfl (by rw[hplE];rfl) (ca (cs:=nS_ cP) (n:=2) (h':=[cX (dm k []),plE,cX cP]) rfl rfl rfl rfl (uCon (QH v (by omega)) ?_)));obtain⟨R,hR⟩:∃R,si (dV d has) k v=R:=⟨_,rfl⟩;rw[hR]
 -- what is handed back
 have ret:∀(H:aa) (s:Sm) (b:Bool),H[2]?=some (cX cP)→R=(s,b)→ao 9 (.op 2 0) (.agg (nS_ s)) H fun g=>ak true 9 (.op 2 0) g fun r=>dG (atR R) (.aA [r,b_ b]) g:=by
  intro H s b h2 e;refine uG (K:=fun r g=>dG (atR R) (.aA [r,b_ b]) g) h2 ?_;rw[e];exact .pure (by simp only[aR,Aw.Pure,and_true];exact jS _) rfl
 refine cT (fun s H=>∃(w:Bool) (l:List Cx) (q:List Vl),s=[.sl 6 (cE q)]∧H[0]?=some (cX (.mk k [] 0 [] false 0 0 w l))∧H[2]?=some (cX cP)∧bV q<n∧jh q∧R=mW k w l q) ?_ ?_
 ·rintro _ H ⟨w,l,q,rfl,h0,h2,hzq,hbq,e⟩;refine uCon (NM q (by omega)) (bl rfl rfl (bl rfl rfl (zzH ?_)));unfold E5
  by_cases hc:je q=0
  ·rw[if_pos hc];refine zzK rfl (uCon (QA _ (R6 hbq hc)) ?_);have hN:mW k w l q=match sO (bO q) with|some (a,b)=>(.mk k [] 0 [] false a b w l,true)|none=>(.mk k [] 0 [] false 0 0 w l,false):=by unfold mW;rw[if_pos hc];rfl
   rw[hN]at e;refine bl rfl rfl (bl rfl rfl (zzA ?_));have st:∀(a b:Int) (z:Int) (c:Bool),decide (z=0)=c→R=(.mk k [] 0 [] false a b w l,c)→ao 2 (.op 0 (0+5)) (.agg [i_ a,i_ b]) H fun g56=>ak true 9 (.op 0 0) g56 fun v57=>ag .eql (i_ z) (i_ 0) fun v58=>ao 9 (.op 2 0) v57 g56 fun g59=>ak true 9 (.op 2 0) g59 fun r60=>dG (atR R) (.aA [r60,v58]) g59:=by
    intro a b z c hzc e;refine aW (cs:=[i_ a,i_ b]) (h':=H.set 0 (cX (.mk k [] 0 [] false a b w l))) rfl h0 rfl rfl (by simp[fC]) rfl rfl rfl ?_;have hl2:=(eQ.1 h2).1;refine kK (iD (by omega)) ?_;refine zzG ?_;rw[hzc];exact ret _ _ c (by rw[iF (by decide)];exact h2) e
   unfold qy;cases ha:sO (bO q) with
   | none=>rw[ha]at e;exact st 0 0 12 false rfl e
   | some ab =>
     obtain⟨a,b⟩:=ab;rw[ha]at e;exact st a b 0 true rfl e
  ·rw[if_neg hc];refine zzL (by simp[hc]) (kK h0 ?_);exact ret _ _ false h2 (by rw[e];unfold mW;rw[if_neg hc])
 ·intro F hF;refine zzF ?_;rcases OM v with⟨h1,h2⟩|⟨i,h1,h2,h3⟩
  ·rw[h2];refine zzK rfl (aq ?_);refine hF _ _ ⟨false,[],v,rfl,rfl,rfl,hz,hb, ?_⟩;rw[←hR];unfold si;rw[h1]
  ·rw[h2];refine zzL (by simp) ?_;have hRi:R=match dV d has k (v.drop (i+1)) false false with|some (l,true)=>mW k true l (v.take i)|_=>(dm k [],false):=by rw[←hR];unfold si;rw[h1];rfl
   refine iz (cs:=[i_ d,b_ has]) (b:=⟨80,[i_ d,b_ has],true⟩) rfl (by rw[hplE];rfl) (by simp) rfl (zzA (zzU (c:=u8 k) rfl rfl ?_));have hdrop:∀x∈v.drop (i+1),x∈v:=fun x hx=>List.mem_of_mem_drop hx;have hzd:bV (v.drop (i+1))≤bV v:=rC (List.drop_suffix _ _);have hzt:bV (v.take i)≤bV v:=pT v i
   -- the place,and the list in it
   have tail:∀(qd:Nat) (qh fine:Bool),qd≤3→(fine=true→dV d has k (v.drop (i+1)) false false=some (mU (3-qd) qh (v.drop (i+1)) false false))→(fine=false→dV d has k (v.drop (i+1)) false false=none) →
    aU 0 (.aA [wM qd qh,b_ fine]) fun v16=>aU 1 (.aA [wM qd qh,b_ fine]) fun v17=>aV 80 (.agg [(i_ 0),ff]) [cX (dm k []),plE,cX cP] fun v18 g19=>ao 2 v18 v16 g19 fun g20=>ag .add (i_ i) (i_ 1) fun v21=>lD 6 (.sl 6 (cE v)) (some v21) none fun v22=>ak true 2 v18 g20 fun v23=>wK p_ (.fn (.func 32) [] []) [v22,v23,ff,ff] g20 fun v24=>aU 0 v24 fun v25=>aU 1 v24 fun v26=>cq v17 fun v27=>aH (fun J28=>aI v27 false (cq v26 fun v29=>[AV.sl 6 (cE v),.op 0 0,.op 2 0,i_ i,v25]=[AV.sl 6 (cE v),.op 0 0,.op 2 0,i_ i,v25]∧J28 [ff,v29] g20) ([AV.sl 6 (cE v),.op 0 0,.op 2 0,i_ i,v25]=[AV.sl 6 (cE v),.op 0 0,.op 2 0,i_ i,v25]∧J28 [(bI false v27),un] g20)) fun s30 g31=>bA (nx s30 0) tt (nx s30 1) fun v32=>af v32 (ak true 9 (.op 0 0) g31 fun v33=>ao 9 (.op 2 0) v33 g31 fun g34=>ak true 9 (.op 2 0) g34 fun r35=>dG (atR R) (.aA [r35,ff]) g34) (lD 6 (.sl 6 (cE v)) none (some (i_ i)) fun v36=>bo 7 (.op 0 0) fun v37=>ao 1 v37 tt g31 fun g38=>bo 8 (.op 0 0) fun v39=>ao 1 v39 v25 g38 fun g40=>[AV.op 0 0,.op 2 0]=[AV.op 0 0,.op 2 0]∧F [v36] g40):=by
    intro qd qh fine hqd hs1 hs0;refine bl rfl rfl (bl rfl rfl (ca (cs:=[i_ 0,ff]) (n:=3) (h':=[cX (dm k []),plE,cX cP,.ah ⟨80,[i_ 0,ff],true⟩]) rfl rfl rfl rfl (aW (cs:=[i_ qd,b_ qh]) (h':=[cX (dm k []),plE,cX cP,.ah ⟨80,[i_ qd,b_ qh],true⟩]) rfl rfl rfl rfl (by simp) rfl rfl rfl (zzP (by unfold aK;omega) (Pt (a:=i+1) (b:=v.length) rfl rfl (by omega) (bY _) ?_)))));rw[BY];refine iz (cs:=[i_ qd,b_ qh]) (b:=⟨80,[i_ qd,b_ qh],true⟩) rfl rfl (by simp) rfl ?_;refine⟨_,uCon (hP (v.drop (i+1)) (by omega) (CS hb hdrop) qd qh false false hqd) ⟨rfl,rfl⟩, ?_⟩;obtain⟨o,ho⟩:∃o,mU (3-qd) qh (v.drop (i+1)) false false=o:=⟨_,rfl⟩;rw[ho]at hs1 ⊢;refine bl rfl rfl (bl rfl rfl (zzO ?_));refine mO (!fine||!o.2) rfl (fun z=>by rw[z];rfl) (fun z F2 hF2=>?_) (fun s hs=>lU hs ?_)
    ·refine zzO (aq ?_);rw[z,Bool.false_or]at hF2;exact hF2
    cases hf:fine with
    | false =>
      refine zzL (by simp) (kK (H:=[cX (dm k []),plE,cX cP,.ah ⟨80,[i_ qd,b_ qh],true⟩]) rfl ?_);exact ret _ _ false rfl (by rw[hRi,hs0 hf])
    | true =>
      have hs1:=hs1 hf;rw[hs1]at hRi;cases ho2:o.2 with
      | false =>
        refine zzL (by simp) (kK (H:=[cX (dm k []),plE,cX cP,.ah ⟨80,[i_ qd,b_ qh],true⟩]) rfl ?_);exact ret _ _ false rfl (by rw[hRi,show o=(o.1,false) from by rw[←ho2]])
      | true =>
        refine zzK (by simp) (Pt (a:=0) (b:=i) rfl rfl (abY _) (by omega) ?_);rw[List.drop_zero];refine zzA (aW (cs:=[tt]) (h':=[cX (.mk k [] 0 [] false 0 0 true []),plE,cX cP,.ah ⟨80,[i_ qd,b_ qh],true⟩]) rfl rfl rfl rfl (by simp[fC]) rfl rfl rfl (zzA (aW (cs:=[gg 3 (eD_ o.1)]) (h':=[cX (.mk k [] 0 [] false 0 0 true o.1),plE,cX cP,.ah ⟨80,[i_ qd,b_ qh],true⟩]) rfl rfl rfl (by cases eD_ o.1<;>rfl) (by simp[fC]) rfl (by simp only[acd,List.all_nil,oZ];rfl) rfl (aq ?_))));exact hF _ _ ⟨true,o.1,v.take i,rfl,rfl,rfl,by omega,CS hb fun x hx=>List.mem_of_mem_take hx,by rw[hRi,show o=(o.1,true) from by rw[←ho2]]⟩
   refine uCon (Ad d has k hd) ?_;cases hq:gZ d has k with
   | true =>
     have hd3:d+1≤3:=by
      unfold gZ at hq;simp at hq;omega
     exact tail (d+1) (has||decide (k=14)) true hd3 (fun _=>by unfold dV;rw[if_pos hq]) (fun z=>by cases z)
   | false =>
     exact tail 0 false false (by omega) (fun z=>by cases z) (fun _=>by unfold dV;rw[if_neg (by rw[hq];decide)])
end
section
open Go Go.Aw Go.dN Go.RowKit
open Go.bu hiding u1 ae
variable [bq]
def EN(hn:n≤2^30)(hP:Ep n)(s:ae)(v:List Vl)(hz:bV v<n)(hb:jh v)(d:Nat)(has:Bool)(hd:d≤3):bn p_ 107 [.str s,.sl 6 (cE v),wM d has] (atR (lu (dV d has) s v)):=by
 refine (ZG _ _ _).bj (by simp only[aR,Aw.Pure,and_true,true_and];exact lG v) (by simp only[aR,Aw.Pure,and_true];exact jS _) ?_;unfold SS;obtain⟨plE,hplE⟩:∃plE:aL,plE=.ah ⟨80,[i_ d,b_ has],true⟩:=⟨_,rfl⟩;have ldP0:∀{H:aa} {i:Nat} {K:AV→Prop},H[i]?=some plE→K (wM d has)→ak true 2 (.op i 0) H K:=fun h q=>iz (cs:=[i_ d,b_ has]) (b:=⟨80,[i_ d,b_ has],true⟩) rfl (by rw[h,hplE]) (by simp) rfl q;obtain⟨R,hR⟩:∃R,lu (dV d has) s v=R:=⟨_,rfl⟩;rw[hR];refine ca (cs:=[i_ d,b_ has]) (n:=0) (h':=[plE]) rfl rfl rfl (by rw[hplE];rfl) (ca (cs:=nS_ cP) (n:=1) (h':=[plE,cX cP]) rfl rfl rfl rfl ?_);have ret:∀(H:aa) (s:Sm) (b:Bool),H[1]?=some (cX cP)→R=(s,b)→ao 9 (.op 1 0) (.agg (nS_ s)) H fun g=>ak true 9 (.op 1 0) g fun r=>dG (atR R) (.aA [r,b_ b]) g:=by
  intro H s b h2 e;refine uG (K:=fun r g=>dG (atR R) (.aA [r,b_ b]) g) h2 ?_;rw[e];exact .pure (by simp only[aR,Aw.Pure,and_true];exact jS _) rfl
 refine uCon C7 (uCon (jm s) ?_);have em:s.map dX=bS s:=rfl;rw[em];refine uCon (EO dt (bS s) (by decide)) ?_;have hi:=Ib dt (bS s);have h11:(dt.length:Int)=11:=rfl;have hF:R=(let i:=gY dt (bS s)
  if i<5 then (dm 0 [],false)
  else if i<7 then si (dV d has) (4+i) v
  else match dV d has (4+i) v (decide (4+i=14)) (decide (4+i≤12)) with
   | none=>(dm (4+i) [],false)
   | some (l,b)=>(.mk (4+i) [] 0 [] false 0 0 false l,b)):=by rw[←hR];rfl
 obtain⟨i,he⟩:∃i,gY dt (bS s)=i:=⟨_,rfl⟩;rw[he]at hF hi ⊢;dsimp only at hF;refine zzC ?_
 by_cases c1:i<5
 ·rw[if_pos c1]at hF;refine zzL (oF c1) (bc (cs:=nS_ cP) rfl ?_);exact ret _ _ false rfl hF
 rw[if_neg c1]at hF;refine zzK (nO c1) (fo (m:=i) rfl (by rw[IntKind.wrap_u8];omega) (xF (c:=4+i) (by decide) rfl rfl (by rw[IntKind.wrap_u8];omega) ?_));obtain⟨k,hk⟩:∃k,4+i=k:=⟨_,rfl⟩;rw[hk]at hF ⊢;refine bc (cs:=nS_ (dm k [])) rfl (ca (cs:=nS_ cP) (n:=2) (h':=[plE,cX cP,cX cP]) rfl rfl rfl rfl (aW (cs:=nS_ (dm k [])) (h':=[plE,cX cP,cX (dm k [])]) rfl rfl rfl rfl (by simp[fC]) rfl (rk _) rfl (zzA (zzU (c:=u8 k) rfl rfl (zzD ?_)))))
 by_cases c2:i<7
 ·rw[if_pos c2]at hF;refine zzL (oF (by omega)) (kK (H:=[plE,cX cP,cX (dm k [])]) rfl (ldP0 rfl (uCon (QG hn hP v hz hb d has hd k) ?_)));rw[←hF];refine bl rfl rfl (bl rfl rfl ?_);exact ret _ _ _ rfl rfl
 rw[if_neg c2]at hF;refine zzK (nO (by omega)) (ldP0 rfl (zzA (zzU (c:=u8 k) rfl rfl (uCon (Ad d has k hd) ?_))));unfold dV at hF;cases hq:gZ d has k with
 | false =>
   rw[if_neg (by rw[hq];decide)]at hF;refine bl rfl rfl (bl rfl rfl (ca (cs:=[i_ 0,ff]) (n:=3) (h':=[plE,cX cP,cX (dm k []),.ah ⟨80,[i_ 0,ff],true⟩]) rfl rfl rfl rfl (aW (cs:=[i_ 0,ff]) (h':=[plE,cX cP,cX (dm k []),.ah ⟨80,[i_ 0,ff],true⟩]) rfl rfl rfl rfl (by simp) rfl rfl rfl (zzO (zzL rfl (kK (s:=dm k []) rfl ?_))))));exact ret _ _ false rfl hF
 | true =>
   rw[if_pos hq]at hF;have hd3:d+1≤3:=by
    unfold gZ at hq;simp at hq;omega
   refine bl rfl rfl (bl rfl rfl (ca (cs:=[i_ 0,ff]) (n:=3) (h':=[plE,cX cP,cX (dm k []),.ah ⟨80,[i_ 0,ff],true⟩]) rfl rfl rfl rfl (aW (cs:=[i_ ((d:Int)+1),b_ (has||decide (k=14))]) (h':=[plE,cX cP,cX (dm k []),.ah ⟨80,[i_ ((d:Int)+1),b_ (has||decide (k=14))],true⟩]) rfl rfl rfl rfl (by simp) rfl rfl rfl (zzO (zzK rfl (iz (cs:=[i_ ((d:Int)+1),b_ (has||decide (k=14))]) (b:=⟨80,[i_ ((d:Int)+1),b_ (has||decide (k=14))],true⟩) rfl rfl (by simp) rfl (zzA (zzU (c:=u8 k) rfl rfl (zzG (zzA (zzU (c:=u8 k) rfl rfl (zzD (uCon (hP v hz hb (d+1) (has||decide (k=14)) (decide (k=14)) (decide (k≤12)) hd3) ?_)))))))))))));obtain⟨o,ho⟩:∃o,mU (3-(d+1)) (has||decide (k=14)) v (decide (k=14)) (decide (k≤12))=o:=⟨_,rfl⟩;rw[ho]at hF ⊢;refine bl rfl rfl (bl rfl rfl (zzA (aW (cs:=[gg 3 (eD_ o.1)]) (h':=[plE,cX cP,cX (.mk k [] 0 [] false 0 0 false o.1),.ah ⟨80,[i_ ((d:Int)+1),b_ (has||decide (k=14))],true⟩]) rfl rfl rfl (by cases eD_ o.1<;>rfl) (by simp[fC]) rfl (by simp only[acd,List.all_nil,oZ];rfl) rfl (kK (s:=.mk k [] 0 [] false 0 0 false o.1) rfl ?_))));exact ret _ _ _ rfl hF
end
section
open Go Go.Aw Go.dN Go.RowKit
open Go.bu hiding u1 ae
def lr(m e sz:Nat)(x:AV)(H:aa)(rows:List (List AV)):Prop:=(rows=[]∧x=bF)∨(rows≠[]∧∃tid,m≤tid∧x=.sb tid sz rows∧H[tid]?=some (.tok e sz rows.length))
section
variable {m e sz:Nat} {x:AV} {H H':aa} {rows:List (List AV)}
def lr.app(g:lr m e sz x H rows)(j:aa):lr m e sz x (H++j) rows:=by
 rcases g with g|⟨h,id,hm,rfl,h2⟩
 ·exact .inl g
 ·exact .inr ⟨h,id,hm,rfl,by rw[gO (eQ.1 h2).1];exact h2⟩
def lr.set(g:lr m e sz x H rows)(hi:H[i]?=some (.ah b)):lr m e sz x (H.set i y) rows:=by
 rcases g with g|⟨h,id,hm,rfl,h2⟩
 ·exact .inl g
 ·exact .inr ⟨h,id,hm,rfl,by rw[iF (fun q=>by subst q;rw[h2]at hi;cases hi)];exact h2⟩
def lr.le(g:lr m e sz x H rows):jT [x] [gg sz rows]:=by
 rcases g with⟨rfl,rfl⟩|⟨h,id,hm,rfl,h2⟩
 ·exact⟨Le.refl _,trivial⟩
 ·cases rows with
  | nil=>exact absurd rfl h
  | cons r l=>exact⟨⟨rfl,rfl⟩,trivial⟩
def lr.PZ(g:lr m e sz x H rows):Le x (gg sz rows):=g.le.1
def xZ{bytes:Nat}(g:lr m e sz x H rows)(hm:m≤H.length)(hr:dx sz r=true)(hb:bytes≤1000)(hl:rows.length<2^36){K:AV→aa→Prop}
 (q:∀x' H',lr m e sz x' H' (rows++[r])→nV H H'→(∀(id:Nat) (en:aL) (h:aa),h.length≤m→Mo id en h H→Mo id en h H')→(∀(e2 sz2:Nat) (x2:AV) (rows2:List (List AV)),e2≠e→lr m e2 sz2 x2 H rows2→lr m e2 sz2 x2 H' rows2)→K x' H'):bR false e sz bytes x (.sl sz [r]) H K:=by
 have hall:[r].all (dx sz)=true:=by rw[acd,hr];rfl
 rcases g with⟨rfl,rfl⟩|⟨hne,id,hmi,rfl,ht⟩
 ·unfold bR eM;rw[gQ];refine⟨hall,⟨by simp[maxLen],by simp;omega⟩, ?_⟩;exact q _ _ (.inr ⟨by simp,_,hm,rfl,by simp⟩) (nV.app _ _) (fun id en h _ mo=>mo.tail _) fun e2 sz2 x2 rows2 _ g2=>g2.app _
 ·refine Et rfl ht rfl gQ hall ⟨by unfold maxLen;simp;omega,by
   simp only[abL,acp,ab0]
   calc (rows.length+1)*bytes≤(2^36)*1000:=Nat.mul_le_mul (by omega) hb
    _≤_:=by decide⟩ ?_
  have hlt:=(eQ.1 ht).1;refine q _ _ (.inr ⟨by simp,id,hmi,rfl,by rw[iD hlt];simp⟩) ⟨by simp,fun j b hj=>?_⟩ (fun i en h hle mo=>mo.wb (by omega) _) fun e2 sz2 x2 rows2 hne g2=>?_
  ·rw[iF (fun z=>by subst z;rw[ht]at hj;cases hj)];exact hj
  ·rcases g2 with g2|⟨h3,id2,hm2,rfl,h4⟩
   ·exact .inl g2
   ·exact .inr ⟨h3,id2,hm2,rfl,by rw[iF (fun z=>by subst z;rw[ht]at h4;injection (DO h4) with q1;exact hne q1.symm)];exact h4⟩
end
def lr.mv{m e sz id:Nat}{rows:List (List AV)}{en:aL}(g:lr m e sz x H rows)(hid:id<m)(mo:Mo id en H H'):lr m e sz x H' rows:=by
 rcases g with g|⟨h,tid,hm,rfl,h2⟩
 ·exact .inl g
 ·exact .inr ⟨h,tid,hm,rfl,by rw[mo.other (eQ.1 h2).1 (by omega)];exact h2⟩
structure nZ(h:aa)(id P X:Nat)(pl e:aL)(x:Sm)(a:AV)(rows:List (List AV))(H:aa):Prop where
 mo:Mo id e h H
 p:H[P]?=some pl
 x:H[X]?=some (cX x)
 g:lr h.length 46 9 a H rows
 l:id<h.length∧h.length≤P∧P<X
section
variable {h H H':aa} {id P X:Nat} {pl e e':aL} {x x':Sm} {a:AV} {rows:List (List AV)}
def nZ.lt(s:nZ h id P X pl e x a rows H):X<H.length:=(eQ.1 s.x).1
def nZ.rd(s:nZ h id P X pl e x a rows H):H[id]?=some e:=s.mo.at s.l.1
def nZ.mv(s:nZ h id P X pl e x a rows H)(m:Mo id e' H H'):nZ h id P X pl e' x a rows H':=by
 have h1:=s.lt;have h2:=s.l;exact⟨s.mo.trans s.l.1 m,by rw[m.other (by omega) (by omega)];exact s.p,by rw[m.other h1 (by omega)];exact s.x,s.g.mv s.l.1 m,s.l⟩
def nZ.app(s:nZ h id P X pl e x a rows H)(j:aa):nZ h id P X pl e x a rows (H++j):=by
 have q:∀{i:Nat} {en:aL},H[i]?=some en→(H++j)[i]?=some en:=fun h=>by rw[gO (eQ.1 h).1];exact h
 exact⟨s.mo.tail j,q s.p,q s.x,s.g.app j,s.l⟩
def nZ.aa3(s:nZ h id P X pl e x a rows H)(x':Sm):nZ h id P X pl e x' a rows (H.set X (cX x')):=by
 have h1:=s.lt;have h2:=s.l;exact⟨s.mo.wb (by omega) _,by rw[iF (by omega)];exact s.p,iD h1,s.g.set s.x,s.l⟩
def nZ.st{F:aa→Prop}(s:nZ h id P X pl e x a rows H)(x':Sm)(k:nZ h id P X pl e x' a rows (H.set X (cX x'))→F (H.set X (cX x'))):ao 9 (.op X 0) (.agg (nS_ x')) H F:=
 aW (cs:=nS_ x') rfl s.x rfl rfl (by simp[fC]) (fC x') (rk x') (by rw[kY (by simp[fC])]) (k (s.aa3 x'))
end
theorem MW[Laid]{id:Nat}{F:aa→Prop}(rd:h[id]?=some (dC v (y:: r)))(hs:(y:: r) <:+ v)(hv:v.length<2^40)(k1:∀z q,r=z:: q→F (h.set id (dC v q)))(k2:r=[]→∀e,F (h.set id e)):
 cg p_ (.op id 0) fun v11=>bo 1 v11 fun v12=>ak false 1 v12 h fun v13=>ag .add v13 (i_ 2) fun v14=>cg p_ (.op id 0) fun v15=>bo 1 v15 fun v16=>ao 1 v16 v14 h F:=by
 have hle:=hs.length_le;simp at hle;refine bz (zzA (zzU rd rfl (zzP (by unfold aK;simp;omega) (bz (zzA ?_)))));cases r with
 | nil=>exact aW (cs:=[i_ (((v.length-([y]:List Vl).length:Nat):Int)+2)]) rfl rd rfl rfl (by simp) rfl rfl rfl (k2 rfl _)
 | cons z q =>
   have e:((v.length-(y:: z:: q).length:Nat):Int)+2=((v.length-q.length:Nat):Int):=by simp at hle ⊢;omega
   rw[e];exact aW (cs:=[i_ ((v.length-q.length:Nat):Int)]) (h':=h.set id (dC v q)) rfl rd rfl rfl (by simp) rfl rfl rfl (k1 z q rfl)
def F5(l:List Sm):Option (List Sm×List Vl)→Option (List Sm×List Vl)
 | some (m,r)=>some (l++m,r)
 | none=>none
def L9(l:List Sm)(x:Sm)(o:Option (List Sm×List Vl)):F5 l (ij x o)=F5 (l++[x]) o:=by
 cases o with
 | none=>rfl
 | some y=>simp[F5,ij]
section
variable {fn:ae→List Vl→Sm×Bool} {t u:Vl} {q:List Vl}
def O7(h4:¬t.kind=4)(h9:t.kind=9∧t.text=[46]):cY fn [t]=none:=by rw[cY.eq_def];dsimp only;rw[if_neg h4,if_pos h9]
def Gq(h4:¬t.kind=4)(h9:t.kind=9∧t.text=[46]):cY fn (t:: u:: q)=if u.kind=1 then ij (dm 2 u.text) (cY fn q) else none:=by rw[cY.eq_def];dsimp only;rw[if_neg h4,if_pos h9]
def Gp(h4:¬t.kind=4)(h9:¬(t.kind=9∧t.text=[46]))(h19:t.kind=19):cY fn (t:: q)=if (jA t.list).2=true then ij (jA t.list).1 (cY fn q) else none:=by rw[cY.eq_def];dsimp only;rw[if_neg h4,if_neg h9,if_pos h19]
def O6(h4:¬t.kind=4)(h9:¬(t.kind=9∧t.text=[46]))(h19:¬t.kind=19)(h16:t.kind=16):cY fn [t]=none:=by rw[cY.eq_def];dsimp only;rw[if_neg h4,if_neg h9,if_neg h19,if_pos h16]
def sw(h4:¬t.kind=4)(h9:¬(t.kind=9∧t.text=[46]))(h19:¬t.kind=19)(h16:t.kind=16):cY fn (t:: u:: q)=if u.kind=1 then (if (kz u.text).2=true then ij (kz u.text).1 (cY fn q) else none)
 else if u.kind=2 then (if (fn u.text u.list).2=true then ij (fn u.text u.list).1 (cY fn q) else none) else none:=by rw[cY.eq_def];dsimp only;rw[if_neg h4,if_neg h9,if_neg h19,if_pos h16]
end
end
section
open Go Go.Aw Go.dN Go.RowKit
open Go.bu hiding u1 ae
def J1(a b:List Sm):dT_ (a++b)=dT_ a++dT_ b:=by simp[Ce]
def Rnd(fn:ae→List Vl→Sm×Bool)(h:aa)(id P X:Nat)(pl:aL)(v rest:List Vl)(a:AV)(rows:List (List AV))(s:List AV)(H:aa):Prop:=
 ∃(x:Sm) (b:Bool) (e:aL),s=[b_ b]∧nZ h id P X pl e x a rows H∧(b=true→∃rest',e=dC v rest'∧cY fn rest=ij x (cY fn rest')∧rest' <:+ v∧rest'.length<rest.length)∧(b=false→cY fn rest=none)
variable [bq]
theorem MZ(hn:n≤2^30)(hP:Ep n){id:Nat}{has:Bool}{K:AV→aa→Prop}(rd:h[id]?=some (dC v r))(hs:r <:+ v)(hz:bV v≤n)(hb:jh v)(hd:d≤3)(ex:x=.op id 0)
 (k1:∀ss r' H,cY (lu (dV d has)) r=some (ss,r')→Mo id (dC v r') h H→K (.aA [gg 9 (dT_ ss),tt]) H)
 (k2:∀e H,cY (lu (dV d has)) r=none→Mo id e h H→K (.aA [bF,ff]) H) :
 bx p_ (.fn (.func 78) [] []) [x,wM d has] h K:=by
 subst ex;have hid:=(eQ.1 rd).1;have hlv:=mQ v;obtain⟨fn,hfn⟩:∃fn,lu (dV d has)=fn:=⟨_,rfl⟩;rw[hfn]at k1 k2;refine cF (by kernel_rfl) rfl (K0:=fun w H=>(∃ss r',cY fn r=some (ss,r')∧Mo id (dC v r') h H∧w=.aA [gg 9 (dT_ ss),tt])∨(∃e,cY fn r=none∧Mo id e h H∧w=.aA [bF,ff])) ?_ (fun w H z=>z.elim (fun⟨ss,r',a,b,c⟩=>by subst c;exact k1 ss r' H a b) fun⟨e,a,b,c⟩=>by subst c;exact k2 e H a b);refine (V78 _ _).bG ?_;unfold Y9;obtain⟨plE,hplE⟩:∃plE:aL,plE=.ah ⟨80,[i_ d,b_ has],true⟩:=⟨_,rfl⟩;have lR:∀{H:aa} {i:Nat} {K:AV→Prop},H[i]?=some plE→K (wM d has)→ak true 2 (.op i 0) H K:=fun h q=>iz (cs:=[i_ d,b_ has]) (b:=⟨80,[i_ d,b_ has],true⟩) rfl (by rw[h,hplE]) (by simp) rfl q;refine ca (cs:=[i_ d,b_ has]) (n:=h.length) (h':=h++[plE]) rfl rfl rfl (by rw[hplE]) ?_;have m0:Mo id (dC v r) h (h++[plE]):=(Mo.refl rd).tail _;refine ba (α:=List Sm×List Vl×AV×aa) (fun x=>cY fn r=F5 x.1 (cY fn x.2.1)∧x.2.1 <:+ v∧x.1.length+x.2.1.length≤r.length∧Mo id (dC v x.2.1) h x.2.2.2∧x.2.2.2[h.length]?=some plE∧lr h.length 46 9 x.2.2.1 x.2.2.2 (dT_ x.1)) (fun x=>[x.2.2.1]) (fun x=>x.2.2.2) (fun x=>x.2.1.length) ([],r,bF,h++[plE]) ⟨by cases cY fn r<;>rfl,hs,by simp,m0,by simp,.inl ⟨rfl,rfl⟩⟩ (Wk.refl _ _ _ (bY _)) ?_;rintro⟨done,rest,a,H1⟩ ⟨hpre,hsr,hlen,mo,hp,hg⟩;dsimp only at hpre hsr hlen mo hp hg ⊢;have hle:=hs.length_le;have hlr:=hsr.length_le;have hH1:=mo.len;have hP1:=(eQ.1 hp).1;refine bc (cs:=nS_ cP) rfl (ca (cs:=nS_ cP) (n:=H1.length) (h':=H1++[cX cP]) rfl rfl rfl rfl (aW (cs:=nS_ cP) (h':=H1++[cX cP]) (b:=⟨46,nS_ cP,true⟩) rfl (by simp) rfl rfl (by simp[fC]) rfl rfl (by rw[IF _ _ (bY _)];simp;rfl) ?_));have s2:nZ h id h.length H1.length plE (dC v rest) cP a (dT_ done) (H1++[cX cP]):=⟨mo.tail _,by rw[gO hP1];exact hp,by simp,hg.app _,hid,bY _,hP1⟩;obtain⟨X,hX⟩:∃X,H1.length=X:=⟨_,rfl⟩;obtain⟨H2,h2⟩:∃H2,H1++[cX cP]=H2:=⟨_,rfl⟩;rw[hX,h2]at s2;rw[hX,h2];clear h2;refine nv (n:=1) s2.rd hsr rfl (by omega) fun H3 m3=>?_;have s3:=s2.mv m3;refine jD ?_;have hT1:(H3++[aL.ah ⟨70,(ck rest 1).row,true⟩])[H3.length]?=some (.ah ⟨70,(ck rest 1).row,true⟩):=by simp
 have s4:=s3.app [aL.ah ⟨70,(ck rest 1).row,true⟩];obtain⟨T1,hT1l⟩:∃T1,H3.length=T1:=⟨_,rfl⟩;obtain⟨H4,h4⟩:∃H4,H3++[aL.ah ⟨70,(ck rest 1).row,true⟩]=H4:=⟨_,rfl⟩;have hT1X:X<T1:=by have:=s3.lt;omega
 rw[h4,hT1l]at hT1;rw[h4]at s4;rw[hT1l,h4];clear h4 hT1l;have hidT:id<T1:=by have:=s4.l;omega
 refine cT (Rnd fn h id h.length X plE v rest a (dT_ done)) ?_ ?_
 ·-- what comes behind
  rintro _ H ⟨y,b,e,rfl,s,hy1,hy0⟩;refine zzO ?_;cases b with
  | false =>
    refine zzL rfl ?_;exact⟨_,_,Wk.refl _ _ _ s.mo.len,.inr ⟨e,by rw[hpre,hy0 rfl];rfl,s.mo,rfl⟩⟩
  | true =>
    obtain⟨rest',rfl,hc,hs',hl'⟩:=hy1 rfl;refine zzK rfl (kK s.x (lJ (cs:=nS_ y) rfl (fC y) rfl (rk y) ?_));refine xZ s.g s.mo.len (by unfold dx;rw[fC,rk];rfl) (by decide) (by simp[Ce];omega) fun a' H' g' bk mv _=>?_;refine aq ?_;refine⟨(done++[y],rest',a',H'),⟨by rw[hpre,hc,L9],hs',by simp;omega,mv id _ h (bY _) s.mo, ?_,by rw[J1];simpa[dT_]using g'⟩,Wk.refl _ _ _ (by have:=s.mo.len;have:=bk.1;have:=hplE;have h9:=(eQ.1 s.p).1;simp;omega),hl'⟩;rw[hplE];exact bk.2 _ _ (by rw[s.p,hplE])
 ·intro F hF;refine nv (n:=0) s4.rd hsr rfl (by omega) fun H5 m5=>?_;have s5:=s4.mv m5;have hT15:H5[T1]?=some (.ah ⟨70,(ck rest 1).row,true⟩):=by rw[m5.other (eQ.1 hT1).1 (by omega)];exact hT1
  refine jD ?_;have hT0:(H5++[aL.ah ⟨70,(ck rest 0).row,true⟩])[H5.length]?=some (.ah ⟨70,(ck rest 0).row,true⟩):=by simp
  have hT16:(H5++[aL.ah ⟨70,(ck rest 0).row,true⟩])[T1]?=some (.ah ⟨70,(ck rest 1).row,true⟩):=by rw[gO (eQ.1 hT15).1];exact hT15
  have s6:=s5.app [aL.ah ⟨70,(ck rest 0).row,true⟩];obtain⟨T0,hT0l⟩:∃T0,H5.length=T0:=⟨_,rfl⟩;obtain⟨H6,h6⟩:∃H6,H5++[aL.ah ⟨70,(ck rest 0).row,true⟩]=H6:=⟨_,rfl⟩;have hT0X:X<T0:=by have:=s5.lt;omega
  rw[h6,hT0l]at hT0;rw[h6]at hT16 s6;rw[hT0l,h6];clear h6 hT0l hT15 m5 s5;refine zzA (zzU hT0 rfl (zzG ?_))
  by_cases c4:(ck rest 0).k=4
  ·-- an identifier
   refine zzL (oF c4) ?_;cases rest with
   | nil=>exact absurd c4 (by decide)
   | cons t q =>
     have c4:t.kind=4:=c4;refine⟨X, ?_⟩;refine zzA (zzU hT0 rfl (bc (cs:=nS_ (dm 1 t.text)) rfl (zzA (lq (qe (by omega)) (zzU hT0 rfl (lq (by simp[xE]) ?_))))));refine s6.st (dm 1 t.text) fun s7=>?_;refine qY s7.rd hsr (by omega) (aq ?_);refine hF _ _ ⟨_,t.flag,_,rfl,s7.mv (Mo.set id (dC v q) _),fun z=>⟨q,rfl, ?_,(List.suffix_cons _ _).trans hsr,by simp⟩,fun z=>?_⟩
     ·rw[cY.eq_def];dsimp only;rw[if_pos c4,if_pos z]
     ·rw[cY.eq_def];dsimp only;rw[if_pos c4,if_neg (by rw[z];decide)]
  refine zzK (nO c4) (zzA (zzU hT0 rfl (zzG ?_)));refine mC (decide ((ck rest 0).k=9)&&decide ((ck rest 0).t=[46])) rfl (fun z=>by rw[z];rfl) (fun z F2 hF2=>?_) (fun s hs2=>lF hs2 ?_)
  ·refine zzA (zzU hT0 rfl (zzI (aq ?_)));rw[z,Bool.true_and]at hF2;exact hF2
  by_cases c9:(ck rest 0).k=9∧(ck rest 0).t=[46]
  ·-- a class
   refine zzL (by simp[c9.1,c9.2]) ?_;cases rest with
   | nil=>exact absurd c9.1 (by decide)
   | cons t q =>
     have c4:¬t.kind=4:=c4;have c9:t.kind=9∧t.text=[46]:=c9;refine⟨X, ?_⟩;refine zzA (zzU hT16 rfl (bc (cs:=nS_ (dm 2 (ck (t:: q) 1).t)) rfl (zzA (lq (qe (by omega)) (zzU hT16 rfl (zzG (lq (by simp[xE]) ?_)))))));refine s6.st _ fun s7=>?_;refine MW s7.rd hsr (by omega) (fun u q2 hq=>?_) (fun hq e=>?_)
     ·subst hq;refine aq ?_;refine hF _ _ ⟨_,_,_,rfl,s7.mv (Mo.set id (dC v q2) _),fun z=>⟨q2,rfl, ?_,((List.suffix_cons _ _).trans (List.suffix_cons _ _)).trans hsr,by simp;omega⟩,fun z=>?_⟩
      ·have z:u.kind=1:=oN z;rw[Gq c4 c9,if_pos z];rfl
      ·have z:¬u.kind=1:=tO z;rw[Gq c4 c9,if_neg z]
     ·subst hq;refine aq ?_;exact hF _ _ ⟨_,_,_,rfl,s7.mv (Mo.set id e _),(fun z=>by cases z),fun z=>O7 c4 c9⟩
  refine zzK (by
   by_cases z:(ck rest 0).k=9
   ·have:¬(ck rest 0).t=[46]:=fun w=>c9 ⟨z,w⟩;simp[this]
   ·simp[z]) ?_
  refine zzA (zzU hT0 rfl (zzG ?_))
  by_cases oQ:(ck rest 0).k=19
  ·-- what is in square brackets
   refine zzL (oF oQ) ?_;cases rest with
   | nil=>exact absurd oQ (by decide)
   | cons t q =>
     have c4:¬t.kind=4:=c4;have c9:¬(t.kind=9∧t.text=[46]):=c9;have oQ:t.kind=19:=oQ;have hzt:=uY (hsr.subset (ack (a:=t) (l:=q)));have hzt2:=tM t;have hll:=mQ t.list;refine MY (n:=0) (y:=t) s6.rd hsr rfl rfl (by omega) (uCon (NN t.list (by omega)) (bl rfl rfl (bl rfl rfl ?_)));refine s6.st _ fun s7=>?_;refine qY s7.rd hsr (by omega) (aq ?_);refine hF _ _ ⟨_,_,_,rfl,s7.mv (Mo.set id (dC v q) _),fun z=>⟨q,rfl, ?_,(List.suffix_cons _ _).trans hsr,by simp⟩,fun z=>?_⟩
     ·rw[Gp c4 c9 oQ,if_pos z]
     ·rw[Gp c4 c9 oQ,if_neg (by rw[z];decide)]
  refine zzK (nO oQ) (zzA (zzU hT0 rfl (zzG ?_)))
  by_cases sU:(ck rest 0).k=16
  ·-- a pseudo-class
   refine zzL (oF sU) ?_;cases rest with
   | nil=>exact absurd sU (by decide)
   | cons t q =>
     have c4:¬t.kind=4:=c4;have c9:¬(t.kind=9∧t.text=[46]):=c9;have oQ:¬t.kind=19:=oQ;have sU:t.kind=16:=sU;refine cT (fun s H=>∃(y:Sm) (b:Bool),s=[Aw.b_ b]∧nZ h id h.length X plE (dC v (t:: q)) y a (dT_ done) H∧(b=true→∃u q2,q=u:: q2∧cY fn (t:: q)=ij y (cY fn q2))∧(b=false→cY fn (t:: q)=none)) ?_ ?_
     ·rintro _ H ⟨y,b,rfl,s7,hy1,hy0⟩;refine MW s7.rd hsr (by omega) (fun u q2 hq=>?_) (fun hq e=>?_)
      ·subst hq;refine aq ?_;refine hF _ _ ⟨y,b,_,rfl,s7.mv (Mo.set id (dC v q2) _),fun z=>⟨q2,rfl, ?_,((List.suffix_cons _ _).trans (List.suffix_cons _ _)).trans hsr,by simp;omega⟩,hy0⟩;obtain⟨u',q',e1,e2⟩:=hy1 z;cases e1;exact e2
      ·subst hq;refine aq ?_;refine hF _ _ ⟨y,b,_,rfl,s7.mv (Mo.set id e _),fun z=>?_,hy0⟩;obtain⟨u',q',e1,e2⟩:=hy1 z;cases e1
     ·intro F2 hF2;refine zzA (zzU hT16 rfl (zzG ?_))
      by_cases k1':(ck (t:: q) 1).k=1
      ·refine zzL (oF k1') ?_;cases q with
       | nil=>exact absurd k1' (show ¬(0:Int)=1 by decide)
       | cons u q2 =>
         have k1':u.kind=1:=k1';refine zzA (zzU hT16 rfl (uCon (N4 _) (bl rfl rfl (bl rfl rfl ?_))));refine s6.st _ fun s7=>?_;refine aq ?_;refine hF2 _ _ ⟨_,_,rfl,s7,fun z=>⟨u,q2,rfl, ?_⟩,fun z=>?_⟩
         ·rw[sw c4 c9 oQ sU,if_pos k1',if_pos (show (kz u.text).2=true from z)];rfl
         ·rw[sw c4 c9 oQ sU,if_pos k1',if_neg (by show ¬(kz u.text).2=true;rw[show (kz u.text).2=false from z];decide)]
      refine zzK (nO k1') (zzG ?_)
      by_cases k2':(ck (t:: q) 1).k=2
      ·refine zzL (oF k2') ?_;cases q with
       | nil=>exact absurd k2' (show ¬(0:Int)=2 by decide)
       | cons u q2 =>
         have k1':¬u.kind=1:=k1';have k2':u.kind=2:=k2';have humem:u∈v:=hsr.subset (by simp);have hzt:=uY humem;have hzt2:=tM u;refine zzA (zzU hT16 rfl ?_);refine⟨_,MY (n:=1) (y:=u) s6.rd hsr rfl rfl (by omega) ⟨rfl,rfl⟩, ?_⟩;refine lR s6.p ?_;refine⟨_,uCon (EN hn hP u.text u.list (by omega) (Sl (yD hb humem)) d has hd) ⟨rfl,rfl⟩, ?_⟩;rw[hfn];refine bl rfl rfl (bl rfl rfl ?_);refine s6.st _ fun s7=>?_;refine aq ?_;refine hF2 _ _ ⟨_,_,rfl,s7,fun z=>⟨u,q2,rfl, ?_⟩,fun z=>?_⟩
         ·rw[sw c4 c9 oQ sU,if_neg k1',if_pos k2',if_pos z]
         ·rw[sw c4 c9 oQ sU,if_neg k1',if_pos k2',if_neg (by rw[z];decide)]
      refine zzK (nO k2') (aq ?_);refine hF2 _ _ ⟨_,false,rfl,s6,(fun z=>by cases z),fun _=>?_⟩;cases q with
      | nil=>exact O6 c4 c9 oQ sU
      | cons u q2 =>
        have k1':¬u.kind=1:=k1';have k2':¬u.kind=2:=k2';rw[sw c4 c9 oQ sU,if_neg k1',if_neg k2']
  refine zzK (nO sU) ?_;have hsm:cY fn rest=some ([],rest):=by
   cases rest with
   | nil=>rw[cY.eq_def]
   | cons t q =>
     have c4:¬t.kind=4:=c4;have c9:¬(t.kind=9∧t.text=[46]):=c9;have oQ:¬t.kind=19:=oQ;have sU:¬t.kind=16:=sU;rw[cY.eq_def];dsimp only;rw[if_neg c4,if_neg c9,if_neg oQ,if_neg sU]
  rw[hsm]at hpre;refine⟨_,_,Wk.le (s':=[.aA [gg 9 (dT_ done),tt]]) s6.mo.len ⟨⟨s6.g.PZ,Le.refl _,trivial⟩,trivial⟩,.inl ⟨done,rest, ?_,s6.mo,rfl⟩⟩;rw[hpre];simp[F5]
end
section
open Go Go.Aw Go.dN Go.RowKit
open Go.bu hiding u1 ae
def bn.aav[Laid]{xs ys rest:List AV}(c:bn P f (.agg ys:: rest) r)(d:kB xs ys)(p:aR xs):bn P f (.agg xs:: rest) r:=by
 obtain⟨pa,pr,c⟩:=c;refine⟨?_,pr,fun base ι S w vs h1 h2=>c base ι S w vs ?_ h2⟩
 ·simp only[aR,Aw.Pure]at pa ⊢;exact⟨p,pa.2⟩
 ·rw[aE]at h1 ⊢;obtain⟨v,vs',rfl,h3,h4⟩:=h1;refine⟨v,vs',rfl, ?_,h4⟩;rw[ar]at h3 ⊢;obtain⟨us,e,h5⟩:=h3;exact⟨us,e,aE.qz d _ h5⟩
def EM[Laid](p:Cp)(hz:zP p<2^60)(d:Nat)(has:Bool)(hd:d≤3):bn p_ 50 [.agg (nP_ p),wM d has] (b_ (cS d has p)):=
 bn.aav ((EG (zP p) hz).2.1 p (bY _) d has hd) (LK p) (Io p)
abbrev PO(cs:List Int):List (List AV):=cs.map fun c=>[u1 c]
abbrev zq(lead:Int)(aP aC:AV):aL:=.ah ⟨39,[u8 lead,aP,aC],true⟩
abbrev kP(t:ae)(a:AV):aL:=.ah ⟨42,[.str t,a],true⟩
abbrev qZ:aL:=zq 0 bF bF
structure jd(d:Nat)(has:Bool)(B:Nat)(lead:Int)(re:aL)(ps:List Cp)(cs:List Int)(aP aC:AV)(H:aa):Prop where
 p:H[0]?=some (.ah ⟨80,[i_ d,b_ has],true⟩)
 z:H[1]?=some qZ
 rd:H[2]?=some re
 o:H[B]?=some (zq lead aP aC)
 gP:lr 3 42 2 aP H (fL_ ps)
 gC:lr 3 5 1 aC H (PO cs)
 b:2<B
section
variable {d:Nat} {has:Bool} {re re':aL} {B:Nat} {lead:Int} {ps:List Cp} {cs:List Int} {aP aC:AV} {H H':aa}
def jd.lt(c:jd d has B lead re ps cs aP aC H):B<H.length:=(eQ.1 c.o).1
def jd.mv(c:jd d has B lead re ps cs aP aC H)(m:Mo 2 re' H H'):jd d has B lead re' ps cs aP aC H':=by
 have h1:=c.lt;have h2:=c.b;exact⟨by rw[m.other (by omega) (by decide)];exact c.p,by rw[m.other (by omega) (by decide)];exact c.z,m.at (by omega),by rw[m.other h1 (by omega)];exact c.o,c.gP.mv (by decide) m,c.gC.mv (by decide) m,c.b⟩
def jd.app(c:jd d has B lead re ps cs aP aC H)(j:aa):jd d has B lead re ps cs aP aC (H++j):=by
 have q:∀{i:Nat} {en:aL},H[i]?=some en→(H++j)[i]?=some en:=fun h=>by rw[gO (eQ.1 h).1];exact h
 exact⟨q c.p,q c.z,q c.rd,q c.o,c.gP.app j,c.gC.app j,c.b⟩
def jd.O0{i:Nat}{b:jM}{y:aL}(c:jd d has B lead re ps cs aP aC H)(hi:H[i]?=some (.ah b))(h2:2<i)(hB:i≠B):jd d has B lead re ps cs aP aC (H.set i y):=by
 exact⟨by rw[iF (by omega)];exact c.p,by rw[iF (by omega)];exact c.z,by rw[iF (by omega)];exact c.rd,by rw[iF hB];exact c.o,c.gP.set hi,c.gC.set hi,c.b⟩
def jd.Zx{lead':Int}{F:aa→Prop}(c:jd d has B lead re ps cs aP aC H)(k:jd d has B lead' re ps cs aP aC (H.set B (zq lead' aP aC))→F (H.set B (zq lead' aP aC))):ao 1 (.op B (0+0)) (u8 lead') H F:=by
 have h1:=c.b;refine aW (cs:=[u8 lead']) rfl c.o rfl rfl (by simp) rfl rfl rfl (k ⟨by rw[iF (by omega)];exact c.p,by rw[iF (by omega)];exact c.z,by rw[iF (by omega)];exact c.rd,iD c.lt,c.gP.set c.o,c.gC.set c.o,c.b⟩)
def jd.aaW{rb:jM}{p:Cp}{KA:aa→Prop}(c:jd d has B lead (.ah rb) ps cs aP aC H)(hl:ps.length<2^36)(k:∀aP' H',jd d has B lead (.ah rb) (ps++[p]) cs aP' aC H'→H.length≤H'.length→KA H'):
 bR false 42 2 40 aP (.sl 2 [nP_ p]) H fun v84 g85=>bo 1 (.op B 0) fun v86=>ao 1 v86 v84 g85 KA:=by
 have h1:=c.lt;have h2:=c.b;have hps:(fL_ ps).length=ps.length:=by simp[yk]
 refine xZ c.gP (by omega) (by cases p;unfold dx;simp only[nP_,abL,acp,acd,List.all_nil,oZ];rfl) (by decide) (by omega) fun a' H' g' bk _ ky=>?_;have gs:bT a'=true:=by rcases g' with⟨_,rfl⟩|⟨_,t,_,rfl,_⟩<;>rfl
 have gv:bh a'=[a']:=by rcases g' with⟨_,rfl⟩|⟨_,t,_,rfl,_⟩<;>rfl
 have ho:=bk.2 _ _ c.o;refine zzA (aW (cs:=[a']) (h':=H'.set B (zq lead a' aC)) rfl ho rfl gv (by simp) rfl (by simp only[acd,List.all_nil,gs];rfl) rfl ?_);have hl':=bk.1;refine k a' _ ⟨by rw[iF (by omega)];exact bk.2 _ _ c.p,by rw[iF (by omega)];exact bk.2 _ _ c.z,by rw[iF (by omega)];exact bk.2 _ _ c.rd,iD (by omega), ?_,(ky _ _ _ _ (by decide) c.gC).set ho,c.b⟩ (by simp;omega);have:fL_ (ps++[p])=fL_ ps++[nP_ p]:=by simp[yk]
 rw[this];exact g'.set ho
def jd.aaV{rb:jM}{cc:Int}{KA:aa→Prop}(c:jd d has B lead (.ah rb) ps cs aP aC H)(hl:cs.length<2^36)(k:∀aC' H',jd d has B lead (.ah rb) ps (cs++[cc]) aP aC' H'→H.length≤H'.length→KA H'):
 bR false 5 1 1 aC (.sl 1 [[u8 cc]]) H fun v84 g85=>bo 2 (.op B 0) fun v86=>ao 1 v86 v84 g85 KA:=by
 have h1:=c.lt;have h2:=c.b;have hps:(PO cs).length=cs.length:=by simp
 refine xZ c.gC (by omega) rfl (by decide) (by omega) fun a' H' g' bk _ ky=>?_;have gs:bT a'=true:=by rcases g' with⟨_,rfl⟩|⟨_,t,_,rfl,_⟩<;>rfl
 have gv:bh a'=[a']:=by rcases g' with⟨_,rfl⟩|⟨_,t,_,rfl,_⟩<;>rfl
 have ho:=bk.2 _ _ c.o;refine zzA (aW (cs:=[a']) (h':=H'.set B (zq lead aP a')) rfl ho rfl gv (by simp) rfl (by simp only[acd,List.all_nil,gs];rfl) rfl ?_);have hl':=bk.1;refine k a' _ ⟨by rw[iF (by omega)];exact bk.2 _ _ c.p,by rw[iF (by omega)];exact bk.2 _ _ c.z,by rw[iF (by omega)];exact bk.2 _ _ c.rd,iD (by omega),(ky _ _ _ _ (by decide) c.gP).set ho, ?_,c.b⟩ (by simp;omega);have:PO (cs++[cc])=PO cs++[[u8 cc]]:=by simp
 rw[this];exact g'.set ho
def jd.ld{K:AV→Prop}(c:jd d has B lead re ps cs aP aC H)(k:K (.agg [u8 lead,aP,aC])):ak true 3 (.op B 0) H K:=
 iz (cs:=[u8 lead,aP,aC]) rfl c.o (by simp) rfl k
def jd.lR{K:AV→Prop}(c:jd d has B lead re ps cs aP aC H)(k:K (wM d has)):ak true 2 (.op 0 0) H K:=
 iz (cs:=[i_ d,b_ has]) rfl c.p (by simp) rfl k
def jd.ret[Laid]{b:Bool}(c:jd d has B lead re ps cs aP aC H):
 ao 3 (.op 1 0) (.agg [u8 lead,aP,aC]) H fun g=>ak true 3 (.op 1 0) g fun r=>dG (.aA [.agg (nX_ (.mk lead ps cs)),b_ b]) (.aA [r,b_ b]) g:=by
 have h1:=c.lt;have h2:=c.b;have sP:bT aP=true:=by rcases c.gP with⟨_,rfl⟩|⟨_,t,_,rfl,_⟩<;>rfl
 have sC:bT aC=true:=by rcases c.gC with⟨_,rfl⟩|⟨_,t,_,rfl,_⟩<;>rfl
 refine aW (cs:=[u8 lead,aP,aC]) (h':=H.set 1 (zq lead aP aC)) rfl c.z rfl rfl (by simp) rfl (by simp only[acd,List.all_nil,sP,sC];rfl) rfl ?_;refine iz (cs:=[u8 lead,aP,aC]) (b:=⟨39,[u8 lead,aP,aC],true⟩) rfl (iD (by omega)) (by simp) rfl ?_;refine⟨_,_,Wk.le (s':=[.aA [.agg (nX_ (.mk lead ps cs)),b_ b]]) (abY _) ⟨⟨?_,Le.refl _,trivial⟩,trivial⟩,rfl⟩;rw[nX_];exact⟨Le.refl _,c.gP.PZ,c.gC.PZ,trivial⟩
end
end
section
open Go Go.Aw Go.dN Go.RowKit
open Go.bu hiding u1 ae
abbrev cxR(o:Cx×Bool):AV:=.aA [.agg (nX_ o.1),b_ o.2]
variable [bq]
def GV(hn:n<2^30)(hP:Ep n)(v:List Vl)(hz:bV v≤n)(hb:jh v)(d:Nat)(has rel:Bool)(hd:d≤3):bn p_ 46 [.sl 6 (cE v),wM d has,b_ rel] (cxR (nj (lu (dV d has)) (cS d has) rel v)):=by
 refine (V46 _ _ _).bj (by simp only[aR,Aw.Pure,and_true,true_and];exact lG v) (by simp only[aR,Aw.Pure,and_true];exact Ir _) ?_;have hlv:=mQ v;have hfz:∀s v,zS (lu (dV d has) s v).1≤1+3*bV v:=fun s v=>JP (Wa d has) s v;unfold YH;refine ca (cs:=[i_ d,b_ has]) (n:=0) (h':=[.ah ⟨80,[i_ d,b_ has],true⟩]) rfl rfl rfl rfl (ca (cs:=[u8 0,bF,bF]) (n:=1) (h':=[.ah ⟨80,[i_ d,b_ has],true⟩,qZ]) rfl rfl rfl rfl ?_);refine Ia (α:=Unit) (fun _=>False) (fun _=>[]) (fun _=>[]) (fun _=>0) ?_ (fun _ z=>z.elim);refine bc rfl (ca (cs:=[.sl 6 (cE v),i_ 0]) (n:=2) (h':=[.ah ⟨80,[i_ d,b_ has],true⟩,qZ,Mh v 0]) rfl rfl rfl rfl ?_);obtain⟨h,hh⟩:∃h,h=[aL.ah ⟨80,[i_ d,b_ has],true⟩,qZ,Mh v 0]:=⟨_,rfl⟩;have hl3:h.length=3:=by rw[hh];rfl
 have rd0:h[2]?=some (dC v v):=by rw[hh];simp
 have p0:h[0]?=some (.ah ⟨80,[i_ d,b_ has],true⟩):=by rw[hh];rfl
 have z0:h[1]?=some qZ:=by rw[hh];rfl
 rw[←hh];clear hh;refine mD rd0 (List.suffix_refl _) rfl (by omega) fun H1 m1=>?_;have l1:=m1.len;refine ca (cs:=[u8 0,bF,bF]) (n:=H1.length) (h':=H1++[qZ]) rfl rfl rfl rfl ?_;have c1:jd d has H1.length 0 (dC v (bW v)) [] [] bF bF (H1++[qZ]):=⟨by rw[gO (by omega),m1.other (by omega) (by decide)];exact p0,by rw[gO (by omega),m1.other (by omega) (by decide)];exact z0,by rw[gO (by omega)];exact m1.at (by omega),by simp,.inl ⟨rfl,rfl⟩,.inl ⟨rfl,rfl⟩,by omega⟩;obtain⟨B,hB⟩:∃B,H1.length=B:=⟨_,rfl⟩;obtain⟨H2,h2⟩:∃H2,H1++[qZ]=H2:=⟨_,rfl⟩;rw[hB,h2]at c1;rw[hB,h2];clear h2 hB m1 l1;have sv:=kN v;obtain⟨fn,hfn⟩:∃fn,lu (dV d has)=fn:=⟨_,rfl⟩;obtain⟨R,hR⟩:∃R,nj (lu (dV d has)) (cS d has) rel v=R:=⟨_,rfl⟩;have hRd:R=(let c:=gV (bW v)
  if rel=true then gw fn (cS d has) (if c.1=0 then 1 else c.1) (c.2.length+1) [] [] c.2 else gw fn (cS d has) 0 ((bW v).length+1) [] [] (bW v)):=by rw[←hR,hfn];rfl
 rw[hR];rw[hfn]at hfz;dsimp only at hRd;refine cT (fun s H=>s=[]∧∃lead rest,jd d has B lead (dC v rest) [] [] bF bF H∧rest <:+ v∧R=gw fn (cS d has) lead (rest.length+1) [] [] rest) ?_ ?_
 ·rintro _ Hs ⟨rfl,lead,rest0,c0,sf0,hR0⟩;have le0:=sf0.length_le;refine ba (α:=List Cp×List Int×List Vl×AV×AV×aa×Nat) (fun x=>R=gw fn (cS d has) lead x.2.2.2.2.2.2 x.1 x.2.1 x.2.2.1∧x.2.2.1.length<x.2.2.2.2.2.2∧x.1.length+x.2.2.1.length≤v.length∧x.2.1.length≤x.1.length∧jd d has B lead (dC v x.2.2.1) x.1 x.2.1 x.2.2.2.1 x.2.2.2.2.1 x.2.2.2.2.2.1∧x.2.2.1 <:+ v∧Hs.length≤x.2.2.2.2.2.1.length) (fun _=>[]) (fun x=>x.2.2.2.2.2.1) (fun x=>x.2.2.1.length) ([],[],rest0,bF,bF,Hs,rest0.length+1) ⟨hR0,Nat.lt_succ_self _,by simpa using le0,bY _,c0,sf0,bY _⟩ (Wk.refl _ _ _ (bY _)) ?_;rintro⟨ps,cs,rest,aP,aC,H,fuel⟩ ⟨hRl,hfu,hps,hcs,c,sf,hHs⟩;dsimp only at hRl hfu hps hcs c sf hHs ⊢;have ler:=sf.length_le;have hcl:=c.lt;have hcb:=c.b;obtain⟨fuel,rfl⟩:∃k,fuel=k+1:=⟨fuel-1,by omega⟩;rw[gw]at hRl;refine ca (cs:=[.str [],bF]) (n:=H.length) (h':=H++[kP [] bF]) rfl rfl rfl rfl ?_;have c2:=c.app [kP [] bF];have hC2:(H++[kP [] bF])[H.length]?=some (kP [] bF):=by simp
  obtain⟨C,hC⟩:∃C,H.length=C:=⟨_,rfl⟩;obtain⟨H2,h2⟩:∃H2,H++[kP [] bF]=H2:=⟨_,rfl⟩;have hH2:H2.length=C+1:=by rw[←h2,←hC];simp
  rw[h2]at c2 hC2;rw[hC]at hC2;rw[hC,h2];clear h2;have hCB:C≠B:=by omega
  have hC3:2<C:=by omega
  refine cT (fun s H=>s=[]∧jd d has B lead (dC v (cL rest).2) ps cs aP aC H∧H[C]?=some (kP (cL rest).1 bF)∧H2.length≤H.length) ?_ ?_
  ·rintro _ H3 ⟨rfl,c3,hC3',hl3'⟩;obtain⟨tg,htg⟩:∃tg,cL rest=tg:=⟨_,rfl⟩;have sft:tg.2 <:+ rest:=by rw[←htg];exact (MI rest).2
   rw[htg]at hRl c3 hC3';refine c3.lR ?_;refine MZ (Nat.le_of_lt hn) hP c3.rd (sft.trans sf) hz hb hd rfl (fun ss r' H4 hsm m4=>?_) (fun e H4 hsm m4=>?_)
   ·rw[hfn]at hsm;rw[hsm]at hRl;dsimp only at hRl;have hone:=P6 hfz (v:=rest) (r:=r') (ss:=ss) (by rw[htg];exact hsm);rw[htg]at hone;have sfr:r' <:+ v:=hone.2.1.trans sf;have c4:=c3.mv m4;have hC4:H4[C]?=some (kP tg.1 bF):=by rw[m4.other (by omega) (by omega)];exact hC3'
    have l4:=m4.len;have hgv:bh (gg 9 (dT_ ss))=[gg 9 (dT_ ss)]:=by cases dT_ ss<;>rfl
    have hzr:=rC sf;refine bl rfl rfl (bl rfl rfl (zzA (aW (cs:=[gg 9 (dT_ ss)]) (h':=H4.set C (kP tg.1 (gg 9 (dT_ ss)))) rfl hC4 rfl hgv (by simp) rfl (by simp only[acd,List.all_nil,oZ];rfl) rfl ?_)));have c5:=c4.O0 (y:=kP tg.1 (gg 9 (dT_ ss))) hC4 hC3 hCB;have hC5:(H4.set C (kP tg.1 (gg 9 (dT_ ss))))[C]?=some (kP tg.1 (gg 9 (dT_ ss))):=iD (eQ.1 hC4).1;have l5:(H4.set C (kP tg.1 (gg 9 (dT_ ss)))).length=H4.length:=by simp
    obtain⟨H5,h5⟩:∃H5,H4.set C (kP tg.1 (gg 9 (dT_ ss)))=H5:=⟨_,rfl⟩;rw[h5]at c5 hC5 l5 ⊢;clear h5;obtain⟨p,hp⟩:∃p,Cp.mk tg.1 ss=p:=⟨_,rfl⟩;have hnp:[AV.str tg.1,gg 9 (dT_ ss)]=nP_ p:=by rw[←hp,nP_]
    rw[hp]at hone hRl;refine zzO (aD (zzN rfl (iz (cs:=nP_ p) rfl hC5 (by simp) (by rw[←hnp];rfl) (c5.lR (uCon (EM p (by have:=hone.1;omega) d has hd) (zzO (aq (zzQ ?_))))))));cases hok:cS d has p with
    | false =>
      rw[if_neg (by rw[hok];decide)]at hRl;refine zzL rfl (c5.ld ?_);rw[hRl];exact c5.ret
    | true =>
      rw[if_pos hok]at hRl;have hlt:r'.length<rest.length:=by
       have h1:=hone.2.2 (vQ (by rw[hp];exact hok));rcases uP r'.length rest.length with k|k
       ·exact k
       ·have:r'=rest:=hone.2.1.eq_of_length (Nat.le_antisymm hone.2.1.length_le k);subst this;omega
      refine zzK rfl (zzA (zzU c5.o rfl (iz (cs:=nP_ p) rfl hC5 (by simp) (by rw[←hnp];rfl) (lJ (cs:=nP_ p) rfl (by rw[←hnp];rfl) rfl (by rw[←hnp];simp only[acd,List.all_nil,oZ];rfl) ?_))));refine c5.aaW (by omega) fun aP' H6 c6 l6=>?_;refine mD c6.rd sfr rfl (by omega) fun H7 m7=>?_;have c7:=c6.mv m7;have l7:=m7.len;have sf7:=(kN r').trans sfr;refine Bx c7.rd sf7 rfl ?_;obtain⟨q,hq⟩:∃q,bW r'=q:=⟨_,rfl⟩;have hql:q.length≤r'.length:=by rw[←hq];exact (kN r').length_le
      rw[hq]at hRl c7 sf7 ⊢;cases q with
      | nil =>
        rw[if_pos rfl]at hRl;refine zzL rfl ?_;have hcb7:=c7.b;refine⟨1, ?_⟩;refine c7.ld (zzA (lq (qe (by omega)) (zzU c7.o rfl ?_)));have hlen:∀{K:AV→Prop},K (i_ ((ps++[p]).length:Nat))→jj aP' K:=by
         intro K k;have e:(fL_ (ps++[p])).length=(ps++[p]).length:=by simp[yk]
         rw[←e]at k;rcases c7.gP with⟨e2,rfl⟩|⟨_,t,_,rfl,_⟩
         ·rw[e2]at k;exact k
         ·exact k
        refine hlen (zzD (lq (by simp[xE]) ?_));have hdec:decide ((((ps++[p]).length:Nat):Int)≤64)=decide (ps.length+1≤64):=by
         simp only[AT,abL,acp];exact decide_eq_decide.2 (by omega)
        rw[hdec,hRl];exact c7.ret
      | cons q0 q1 =>
        rw[if_neg (by simp)]at hRl;refine zzK rfl ?_;refine MX c7.rd sf7 rfl (by omega) fun H8 m8=>?_;have c8:=c7.mv m8;have l8:=m8.len;obtain⟨cb,hcb'⟩:∃cb,gV (q0:: q1)=cb:=⟨_,rfl⟩;have sfc:cb.2 <:+ (q0:: q1):=by rw[←hcb'];exact xU _
        have hcl2:=sfc.length_le;rw[hcb']at hRl c8 ⊢;refine cT (fun s H=>H=H8∧∃by':Int,s=[u8 by']∧R=gw fn (cS d has) lead fuel (ps++[p]) (cs++[by']) cb.2) ?_ ?_
        ·rintro _ _ ⟨rfl,by',rfl,hR9⟩;refine zzA (zzU c8.o rfl (lJ (cs:=[u8 by']) rfl rfl rfl rfl ?_));refine c8.aaV (by omega) fun aC' H9 c9 l9=>?_;refine aq ?_;exact⟨(ps++[p],cs++[by'],cb.2,aP',aC',H9,fuel),⟨hR9,by dsimp only;omega,by simp;omega,by simp;omega,c9,sfc.trans sf7,by dsimp only;omega⟩,Wk.refl _ _ _ (by omega),by dsimp only;omega⟩
        ·intro F hF;refine zzG ?_;refine mC (decide (cb.1=0)&&!decide ((q0:: q1).length<r'.length)) rfl (fun z=>by rw[z];rfl) (fun z F2 hF2=>?_) (fun s hs2=>lF hs2 ?_)
         ·refine zzO (aq ?_);rw[z,Bool.true_and]at hF2;exact hF2
         by_cases z1:cb.1=0
         ·rw[if_pos z1]at hRl
          by_cases z2:(q0:: q1).length=r'.length
          ·rw[if_pos z2]at hRl;refine zzL (by rw[z2];simp[z1]) (c8.ld ?_);rw[hRl];exact c8.ret
          ·rw[if_neg z2]at hRl;have:(q0:: q1).length<r'.length:=by omega
           refine zzK (by rw[oF this];simp) (zzG (zzL (oF z1) (aq ?_)));exact hF _ _ ⟨rfl,1,rfl,hRl⟩
         ·rw[if_neg z1]at hRl;refine zzK (by simp[z1]) (zzG (zzK (nO z1) (aq ?_)));exact hF _ _ ⟨rfl,cb.1,rfl,hRl⟩
   ·rw[hfn]at hsm;rw[hsm]at hRl;dsimp only at hRl;have c4:=c3.mv m4;have hC4:H4[C]?=some (kP tg.1 bF):=by rw[m4.other (by omega) (by omega)];exact hC3'
    refine bl rfl rfl (bl rfl rfl (zzA (aW (cs:=[bF]) (h':=H4.set C (kP tg.1 bF)) rfl hC4 rfl rfl (by simp) rfl rfl rfl ?_)));have c5:=c4.O0 (y:=kP tg.1 bF) hC4 hC3 hCB;refine zzO (aD (zzM rfl (aq (zzR (zzL rfl (c5.ld ?_))))));rw[hRl];exact c5.ret
  ·intro F hF;have stT:∀(H:aa) (r:List Vl) (tg:ae) (G:aa→Prop),jd d has B lead (dC v r) ps cs aP aC H→H[C]?=some (kP [] bF)→(jd d has B lead (dC v r) ps cs aP aC (H.set C (kP tg bF))→(H.set C (kP tg bF))[C]?=some (kP tg bF)→G (H.set C (kP tg bF)))→ao 1 (.op C (0+0)) (.str tg) H G:=by
    intro H r tg G c hC k;exact aW (cs:=[.str tg]) rfl hC rfl rfl (by simp) rfl rfl rfl (k (c.O0 (y:=kP tg bF) hC hC3 hCB) (iD (eQ.1 hC).1))
   refine nv (n:=0) c2.rd sf rfl (by omega) fun H3 m3=>?_;have c3:=c2.mv m3;have l3:=m3.len;have hC3':H3[C]?=some (kP [] bF):=by rw[m3.other (by omega) (by omega)];exact hC2
   refine jD ?_;have hT:(H3++[aL.ah ⟨70,(ck rest 0).row,true⟩])[H3.length]?=some (.ah ⟨70,(ck rest 0).row,true⟩):=by simp
   have c4:=c3.app [aL.ah ⟨70,(ck rest 0).row,true⟩];have hC4:(H3++[aL.ah ⟨70,(ck rest 0).row,true⟩])[C]?=some (kP [] bF):=by rw[gO (by omega)];exact hC3'
   have l4:(H3++[aL.ah ⟨70,(ck rest 0).row,true⟩]).length=H3.length+1:=by simp
   obtain⟨T,hTl⟩:∃T,H3.length=T:=⟨_,rfl⟩;obtain⟨H4,h4⟩:∃H4,H3++[aL.ah ⟨70,(ck rest 0).row,true⟩]=H4:=⟨_,rfl⟩;rw[h4,hTl]at hT;rw[h4]at c4 hC4 l4;rw[hTl,h4];clear h4;refine zzA (zzU hT rfl (zzG ?_))
   by_cases k1':(ck rest 0).k=1
   ·refine zzL (oF k1') ?_;cases rest with
    | nil=>exact absurd k1' (show ¬(0:Int)=1 by decide)
    | cons t q =>
      have k1':t.kind=1:=k1';have htg:cL (t:: q)=(bS t.text,q):=by rw[cL,if_pos k1']
      rw[htg]at hF;refine zzA (zzU hT rfl (uCon (jm _) ?_));have em:(ck (t:: q) 0).t.map dX=bS t.text:=rfl;rw[em];refine zzA ?_;refine stT H4 _ _ _ c4 hC4 fun c5 hC5=>?_;refine qY c5.rd sf (by omega) ?_;have c6:=c5.mv (Mo.set 2 (dC v q) _);refine aq ?_;exact hF _ _ ⟨rfl,c6,by rw[iF (by omega)];exact hC5,by simp;omega⟩
   ·refine zzK (nO k1') ?_;refine Bw (c:=42) c4.rd sf rfl (by omega) (fun r' H5 e m5=>?_) (fun H5 e m5=>?_)
    ·have c5:=c4.mv m5;have l5:=m5.len;have hC5:H5[C]?=some (kP [] bF):=by rw[m5.other (by omega) (by omega)];exact hC4
     have htg:cL rest=([42],r'):=by
      cases rest with
      | nil=>cases e
      | cons t q =>
        have k1':¬t.kind=1:=k1';rw[cL,if_neg k1',e]
     rw[htg]at hF;refine zzL rfl (zzA ?_);refine stT H5 _ _ _ c5 hC5 fun c6 hC6=>?_;refine aq ?_;exact hF _ _ ⟨rfl,c6,hC6,by simp;omega⟩
    ·have c5:=c4.mv m5;have l5:=m5.len;have hC5:H5[C]?=some (kP [] bF):=by rw[m5.other (by omega) (by omega)];exact hC4
     have htg:cL rest=([],rest):=by
      cases rest with
      | nil=>rfl
      | cons t q =>
        have k1':¬t.kind=1:=k1';rw[cL,if_neg k1',e]
     rw[htg]at hF;refine zzK rfl (aq ?_);exact hF _ _ ⟨rfl,c5,hC5,by omega⟩
 ·intro F hF;have em:∀lead rest H,jd d has B lead (dC v rest) [] [] bF bF H→rest <:+ v→R=gw fn (cS d has) lead (rest.length+1) [] [] rest→F [] H:=fun lead rest H c s e=>hF _ _ ⟨rfl,lead,rest,c,s,e⟩;cases rel with
  | false =>
    refine zzK rfl (aq ?_);exact em _ _ _ c1 sv (by rw[hRd,if_neg (by decide)])
  | true =>
    rw[if_pos rfl]at hRd;refine zzL rfl ?_;have sc:=(xU (bW v)).trans sv;refine MX c1.rd sv rfl (by omega) fun H3 m3=>?_;have c3:=c1.mv m3;refine zzA ?_;refine c3.Zx fun c4=>?_;refine zzA (zzU c4.o rfl (zzG ?_))
    by_cases q:(gV (bW v)).1=0
    ·rw[if_pos q]at hRd;refine zzL (oF q) (zzA ?_);refine c4.Zx fun c5=>?_;refine aq ?_;exact em _ _ _ c5 sc hRd
    ·rw[if_neg q]at hRd;refine zzK (nO q) (aq ?_);exact em _ _ _ c4 sc hRd
end
section
open Go Go.Aw Go.dN Go.RowKit
open Go.bu hiding u1 ae
def pw(pre:List Vl)(rest:List Vl):List (List Vl):=match fh rest with|h:: t=>(pre++h):: t|[]=>[pre]
def O9(pre:List Vl):pw pre []=[pre]:=by unfold pw;rw[fh];simp
def MA(rest:List Vl):pw [] rest=fh rest:=by
 unfold pw;cases h:fh rest with
 | nil=>exact absurd h (xD rest).2
 | cons a t=>simp
def Kd(h:x.kind=18)(pre rest:List Vl):pw pre (x:: rest)=pre:: fh rest:=by unfold pw;rw[fh,if_pos h];simp
def MB(h:¬x.kind=18)(pre rest:List Vl):pw pre (x:: rest)=pw (pre++[x]) rest:=by
 unfold pw;rw[fh,if_neg h];cases e:fh rest with
 | nil=>exact absurd e (xD rest).2
 | cons a t=>simp
def OI(l:List Cx)(x:Cx):eD_ (l++[x])=eD_ l++[nX_ x]:=by simp[Cg]
def sd(x:Cx):(nX_ x).length=3:=by cases x;rfl
def Cf(x:Cx):(nX_ x).all bT=true:=by cases x;simp only[nX_,acd,List.all_nil,oZ];rfl
variable [bq]
def RP(hn:n<2^30)(hP:Ep n):Ep (n+1):=by
 intro v hz hb d has rel forg hd;have hlv:=mQ v;have hlen:(cE v).length=v.length:=by simp[eG]
 refine (V32 _ _ _ _).bj (by simp only[aR,Aw.Pure,and_true,true_and];exact lG v) (OP _) ?_;unfold Yt;obtain⟨cp,hcp⟩:∃cp,nj (lu (dV d has)) (cS d has) rel=cp:=⟨_,rfl⟩;obtain⟨R,hR⟩:∃R,mU (3-d) has v rel forg=R:=⟨_,rfl⟩;have hR0:R=ia cp forg (fh v) []:=by rw[←hR,←hcp];exact uM hd has v rel forg
 rw[hR];refine ca (cs:=[i_ d,b_ has]) (n:=0) (h':=[.ah ⟨80,[i_ d,b_ has],true⟩]) rfl rfl rfl rfl ?_;refine zzf (n:=v.length) hlen fun _=>?_;refine zzP (by unfold aK;omega) ?_;refine ba (α:=List Cx×Nat×Nat×AV×aa) (fun x=>x.2.2.1≤v.length+1∧x.2.1≤x.2.2.1∧(x.2.2.1≤v.length→R=ia cp forg (pw ((v.take x.2.2.1).drop x.2.1) (v.drop x.2.2.1)) x.1)∧(x.2.2.1=v.length+1→R=(x.1,true))∧lr 1 39 3 x.2.2.2.1 x.2.2.2.2 (eD_ x.1)∧x.2.2.2.2[0]?=some (.ah ⟨80,[i_ d,b_ has],true⟩)∧x.1.length≤x.2.2.1) (fun x=>[x.2.2.2.1,i_ x.2.1,i_ x.2.2.1]) (fun x=>x.2.2.2.2) (fun x=>v.length+1-x.2.2.1) ([],0,0,bF,[.ah ⟨80,[i_ d,b_ has],true⟩])
  ⟨abY _,bY _,fun _=>by rw[hR0];simp[MA],(fun z=>by simp at z),.inl ⟨rfl,rfl⟩,rfl,bY _⟩ (Wk.refl _ _ _ (bY _)) ?_
 rintro⟨acc,from',i,a,H⟩ ⟨hi,hfr,hRi,hRe,hg,hp,hal⟩;dsimp only at hi hfr hRi hRe hg hp hal ⊢;have hH:=(eQ.1 hp).1;refine zzC ?_;rcases uP i (v.length+1) with q|q
 ·have hRi:=hRi (by omega);refine zzL (oF (by omega)) ?_
  -- what comes behind
  have next:∀(acc':List Cx) (fr':Nat) (a':AV) (H':aa),fr'≤i+1→(i+1≤v.length→R=ia cp forg (pw ((v.take (i+1)).drop fr') (v.drop (i+1))) acc')→(i+1=v.length+1→R=(acc',true))→lr 1 39 3 a' H' (eD_ acc')→H'[0]?=some (.ah ⟨80,[i_ d,b_ has],true⟩)→acc'.length≤i+1 →
   ag .add (i_ i) (i_ 1) fun v40=>[AV.sl 6 (cE v),b_ rel,b_ forg,.op 0 0,i_ ((v.length:Int)+1)]=[AV.sl 6 (cE v),b_ rel,b_ forg,.op 0 0,i_ ((v.length:Int)+1)] ∧
    ∃y:List Cx×Nat×Nat×AV×aa,(y.2.2.1≤v.length+1∧y.2.1≤y.2.2.1∧(y.2.2.1≤v.length→R=ia cp forg (pw ((v.take y.2.2.1).drop y.2.1) (v.drop y.2.2.1)) y.1)∧(y.2.2.1=v.length+1→R=(y.1,true))∧lr 1 39 3 y.2.2.2.1 y.2.2.2.2 (eD_ y.1)∧y.2.2.2.2[0]?=some (.ah ⟨80,[i_ d,b_ has],true⟩)∧y.1.length≤y.2.2.1)∧Wk [aL.ah ⟨80,[i_ d,b_ has],true⟩].length [a',i_ fr',v40] H' [y.2.2.2.1,i_ y.2.1,i_ y.2.2.1] y.2.2.2.2∧v.length+1-y.2.2.1<v.length+1-i:=by
   intro acc' fr' a' H' e1 e2 e3 e4 e5 e6;have hH':=(eQ.1 e5).1;refine zzP (by unfold aK;omega) ?_;exact⟨rfl,(acc',fr',i+1,a',H'),⟨by dsimp only;omega,e1,e2,e3,e4,e5,e6⟩,Wk.refl _ _ _ (by simp;omega),by dsimp only;omega⟩
  refine aD ?_;refine zzf (n:=v.length) hlen fun _=>?_;refine zzC ?_;obtain⟨pre,hpre⟩:∃pre,(v.take i).drop from'=pre:=⟨_,rfl⟩;rw[hpre]at hRi;refine mC (match v[i]? with|some x=>!decide (x.kind=18)|none=>false) rfl (fun z=>?_) (fun z F2 hF2=>?_) (fun s hs=>lF hs ?_)
  ·rw[iS (by simp at z;omega)]
  ·have hlt:i<v.length:=by simp at z;omega
   obtain⟨x,hx⟩:∃x,v[i]?=some x:=⟨_,dO hlt⟩;rw[hx]at hF2;refine zzb (eG v) rfl hx (zzX (zzX (eF (c:=u8 x.kind) (by rw[lK];rfl) (zzH (aq ?_)))));exact hF2
  by_cases hX:(match v[i]? with|some x=>!decide (x.kind=18)|none=>false)=true
  ·-- it goes on
   refine zzL hX (aq ?_);have hlt:i<v.length:=by
    rcases uP i v.length with k|k
    ·exact k
    ·rw[iS k]at hX;cases hX
   obtain⟨x,hx⟩:∃x,v[i]?=some x:=⟨_,dO hlt⟩;rw[hx]at hX;have hk:¬x.kind=18:=by simpa using hX
   have hdr:v.drop i=x:: v.drop (i+1):=by rw[acm hlt,(eQ.1 hx).2]
   refine next acc from' a H (by omega) (fun _=>?_) (fun z=>by omega) hg hp (by omega)
   rw[hRi,hdr,MB hk];have:(v.take (i+1)).drop from'=pre++[x]:=by
    rw[By,hx,List.drop_append_of_le_length (by simp;omega),hpre];rfl
   rw[this]
  ·-- a part that is whole
   have hX:(match v[i]? with|some x=>!decide (x.kind=18)|none=>false)=false:=by simpa using hX
   refine zzK hX ?_;obtain⟨ps,e1,e2,e3⟩:∃ps,pw pre (v.drop i)=pre:: ps∧(i+1≤v.length→ps=fh (v.drop (i+1)))∧(i+1=v.length+1→ps=[]):=by
    rcases uP i v.length with k|k
    ·obtain⟨x,hx⟩:∃x,v[i]?=some x:=⟨_,dO k⟩;rw[hx]at hX;have hk:x.kind=18:=by simpa using hX
     have hdr:v.drop i=x:: v.drop (i+1):=by rw[acm k,(eQ.1 hx).2]
     exact⟨fh (v.drop (i+1)),by rw[hdr,Kd hk],fun _=>rfl,fun z=>by omega⟩
    ·exact⟨[],by rw[List.drop_of_length_le k,O9],fun z=>by omega,fun _=>rfl⟩
   rw[e1,ia]at hRi;refine cT (fun s H' => ∃acc' a',s=[a']∧R=ia cp forg ps acc'∧lr 1 39 3 a' H' (eD_ acc')∧H'[0]?=some (.ah ⟨80,[i_ d,b_ has],true⟩)∧acc'.length≤i+1) ?_ ?_
   ·rintro _ H' ⟨acc',a',rfl,hR',hg',hp',hal'⟩;refine zzP (by unfold aK;omega) (aq ?_);refine next acc' (i+1) a' H' (bY _) (fun z=>?_) (fun z=>?_) hg' hp' hal'
    ·have:(v.take (i+1)).drop (i+1)=[]:=List.drop_of_length_le (by simp;omega);rw[this,MA,hR',e2 z]
    ·rw[hR',e3 z,ia]
   ·intro F hF;refine Pt (a:=from') (b:=i) rfl rfl hfr (by omega) ?_;rw[hpre];refine iz (cs:=[i_ d,b_ has]) rfl hp (by simp) rfl ?_;have hzp:bV pre≤n:=by
     have h1:=pT v i;have h2:=rC (List.drop_suffix from' (v.take i));rw[hpre]at h2;omega
    have hbp:jh pre:=CS hb fun x hx=>by rw[←hpre]at hx;exact List.mem_of_mem_take (List.mem_of_mem_drop hx)
    have hcx:=GV hn hP pre hzp hbp d has rel hd;rw[hcp]at hcx;refine MQ rfl (by kernel_rfl) hcx (bl rfl rfl (bl rfl rfl (ca (cs:=[u8 0,bF,bF]) (n:=H.length) (h':=H++[qZ]) rfl rfl rfl rfl (aW (cs:=nX_ (cp pre).1) (h':=H++[.ah ⟨39,nX_ (cp pre).1,true⟩]) (b:=⟨39,[u8 0,bF,bF],true⟩) rfl (by simp) rfl rfl (by simp[sd]) (sd _) (Cf _) (by rw[IF _ _ (bY _)];simp[kY (a:=[u8 0,bF,bF]) (b:=nX_ (cp pre).1) (by rw[sd];rfl)]) ?_))));have hg2:=hg.app [aL.ah ⟨39,nX_ (cp pre).1,true⟩];have hp2:(H++[aL.ah ⟨39,nX_ (cp pre).1,true⟩])[0]?=some (.ah ⟨80,[i_ d,b_ has],true⟩):=by rw[gO hH];exact hp
    have hV:(H++[aL.ah ⟨39,nX_ (cp pre).1,true⟩])[H.length]?=some (.ah ⟨39,nX_ (cp pre).1,true⟩):=by simp
    cases hb2:(cp pre).2 with
    | true =>
      rw[if_pos hb2]at hRi;refine zzL rfl (iz (cs:=nX_ (cp pre).1) rfl hV (by simp[sd]) (by rw[List.drop_zero,MK (by simp[sd])]) (lJ (cs:=nX_ (cp pre).1) rfl (sd _) rfl (Cf _) ?_));refine xZ hg2 (by simp) (by unfold dx;rw[sd,Cf];rfl) (by decide) (by simp[Cg];omega) fun a' H' g' bk _ _=>?_;refine aq ?_;exact hF _ _ ⟨acc++[(cp pre).1],a',rfl,hRi,by rw[OI];exact g',bk.2 _ _ hp2,by simp;omega⟩
    | false =>
      rw[if_neg (by rw[hb2];decide)]at hRi;refine zzK rfl (zzO ?_);cases forg with
      | false =>
        rw[if_neg (by decide)]at hRi;refine zzL rfl ?_;rw[hRi];exact .pure (by simp[aR,Aw.Pure]) rfl
      | true =>
        rw[if_pos rfl]at hRi;refine zzK rfl (aq ?_);exact hF _ _ ⟨acc,a,rfl,hRi,hg2,hp2,by omega⟩
 ·obtain rfl:i=v.length+1:=by omega
  rw[hRe rfl];refine zzK (by simp) ?_;exact⟨_,_,Wk.le (s':=[.aA [gg 3 (eD_ acc),tt]]) (abY _) ⟨⟨hg.PZ,Le.refl _,trivial⟩,trivial⟩,rfl⟩
theorem Mb:∀n,n≤2^30→Ep n
 | 0,_=>fun v hz=>absurd hz (abZ _)
 | n+1,hn=>RP (by omega) (Mb n (by omega))
def K4(v:List Vl)(hz:bV v<2^30)(hb:jh v)(d:Nat)(has rel forg:Bool)(hd:d≤3):bn p_ 32 [.sl 6 (cE v),wM d has,b_ rel,b_ forg] (Vv (mU (3-d) has v rel forg)):=Mb _ (bY _) v hz hb d has rel forg hd
abbrev Vk(o:List Cx×Int):AV:=.aA [gg 3 (eD_ o.1),i_ o.2]
def QB(v:List Vl)(hz:bV v<2^30)(hb:jh v):bn p_ 19 [.sl 6 (cE v)] (Vk (Iy v)):=by
 refine (V19 _).bj (by simp only[aR,Aw.Pure,and_true];exact lG v) (by simp only[aR,Aw.Pure,and_true];exact lM (ml _)) ?_;unfold Yh;refine uCon (Af v (by omega)) (zzH ?_);unfold Iy
 by_cases hc:je v=0
 ·rw[if_pos hc];refine zzK (by simp[hc]) (bc rfl (uCon (K4 v hz hb 0 false false false (by omega)) ?_));have hzr:=Qa 3 false v false false (bY _);rw[show 3-0=3 from rfl];obtain⟨o,ho⟩:∃o,mU 3 false v false false=o:=⟨_,rfl⟩;rw[ho]at hzr ⊢;dsimp only;refine bl rfl rfl (bl rfl rfl (zzO ?_));cases h2:o.2 with
  | false =>
    rw[if_neg (by decide)];refine zzL rfl ?_;exact .pure (by simp[aR,Aw.Pure]) rfl
  | true =>
    rw[if_pos rfl];refine zzK rfl ?_;have hcc:bn p_ 26 [gg 3 (eD_ o.1)] (i_ (number o.1)):=bn.arg (C5 o.1 (by omega)) (.cons (uD (ym _)) .nil) (by simp only[aR,and_true];exact lM (ml _));refine uCon hcc (zzE ?_)
    by_cases h3:64<number o.1
    ·rw[if_pos h3];refine zzL (oF (by omega)) ?_;exact .pure (by simp[aR,Aw.Pure]) rfl
    ·rw[if_neg h3];refine zzK (nO (by omega)) ?_;exact .pure (by simp only[aR,Aw.Pure,and_true];exact lM (ml _)) rfl
 ·rw[if_neg hc];refine zzL (by simp[hc]) ?_;exact .pure (by simp[aR,Aw.Pure]) rfl
end
section
open Go Go.Aw Go.dN Go.RowKit
open Go.bu hiding u1 ae
/-! ### How long a token's text is -/
def BK(s:ae)(i:Nat):(Rt.cV s i).1.length≤4:=by
 have hu:∀n,(Rt.sG n).length≤4:=fun n=>by
  unfold Rt.sG;repeat' split
  all_goals simp[Rt.lS]
 unfold Rt.cV;split
 ·simp[Rt.lS]
 ·split
  ·simp
  ·exact hu _
theorem yn(s:ae):∀n i,s.length-i≤n→(Rt.cZ s i).1.length≤4*(s.length-i)
 | 0,i,hn=>by rw[Rt.cZ,dif_neg (by omega)];simp
 | n+1,i,hn=>by
   rw[Rt.cZ];split
   ·rename_i h;split
    ·have:=yn s n (i+1) (by omega);dsimp only;rw[abL];omega
    ·split
     ·have h1:=Rt.fi s i;have:=yn s n (Rt.cV s i).2 (by omega);have:=BK s i;dsimp only;rw[AT];omega
     ·simp
   ·simp
def yr(h:∀t,r.1=some t→t.length≤m)(hx:x.length+m≤k):∀t,(Rt.kM x r).1=some t→t.length≤k:=by
 intro t ht;unfold Rt.kM at ht;cases hr:r.1 with
 | none=>rw[hr]at ht;cases ht
 | some y =>
   rw[hr]at ht;cases ht;have:=h y hr;rw[AT];omega
theorem yz(m:UInt8)(s:ae):∀n i,s.length-i≤n→∀t,(Rt.gL m s i).1=some t→t.length≤4*(s.length-i)
 | 0,i,hn,t,h=>by rw[Rt.gL,dif_neg (by omega)]at h;cases h;simp
 | n+1,i,hn,t,h=>by
   rw[Rt.gL]at h;split at h
   ·rename_i hi;split at h
    ·cases h;simp
    ·split at h
     ·cases h
     ·split at h
      ·split at h
       ·cases h;simp
       ·split at h
        ·have:=yz m s n (i+2) (by omega) t h;omega
        ·have h1:=Rt.fi s i;have:=BK s i;exact yr (yz m s n (Rt.cV s i).2 (by omega)) (by omega) t h
      ·exact yr (x:=[s[i]]) (yz m s n (i+1) (by omega)) (by simp;omega) t h
   ·cases h;simp
theorem CQ(s:ae):∀n i,s.length-i≤n→∀t,(Rt.iU s i).1=some t→t.length≤4*(s.length-i)
 | 0,i,hn,t,h=>by rw[Rt.iU,dif_neg (by omega)]at h;cases h;simp
 | n+1,i,hn,t,h=>by
   rw[Rt.iU]at h;split at h
   ·rename_i hi;split at h
    ·cases h;simp
    ·split at h
     ·split at h
      ·cases h
      ·cases h;simp
     ·split at h
      ·cases h
      ·split at h
       ·have h1:=Rt.fi s i;have:=BK s i;exact yr (CQ s n (Rt.cV s i).2 (by omega)) (by omega) t h
       ·exact yr (x:=[s[i]]) (CQ s n (i+1) (by omega)) (by simp;omega) t h
   ·cases h;simp
def xH(M:Nat)(t:Tok):Prop:=(-10^15≤t.n∧t.n≤10^15)∧t.t.length≤M∧t.u.length≤M
def Xg(hi:i<s.length):xH (4*s.length) (fQ s i).1:=by
 have hz:(-10^15:Int)≤0∧(0:Int)≤10^15:=by decide
 have e0:∀k f,xH (4*s.length) ⟨k,[],0,[],f⟩:=fun k f=>⟨hz,abY _,abY _⟩;have e1:∀k f j,xH (4*s.length) ⟨k,(Rt.cZ s j).1,0,[],f⟩:=fun k f j=>⟨hz,by have:=yn s _ j (bY _);show (Rt.cZ s j).1.length≤_;omega,abY _⟩;have th:∀x,(-10^15≤mZ x∧mZ x≤10^15):=fun x=>by have:=R4 x;omega
 unfold fQ;dsimp only;split
 ·exact e0 _ _
 ·split
  ·cases h:(Rt.gL (Rt.ay s i) s (i+1)).1 with
   | none=>exact e0 _ _
   | some t =>
     have:=yz (Rt.ay s i) s _ (i+1) (bY _) t h;exact⟨hz,by show t.length≤_;omega,abY _⟩
  ·split
   ·exact e1 _ _ _
   ·split
    ·unfold jE;dsimp only;split
     ·exact⟨th _,abY _,by have:=yn s _ (Rt.iP s i).1 (bY _);show (Rt.cZ s (Rt.iP s i).1).1.length≤_;omega⟩
     ·split
      ·exact⟨th _,abY _,abY _⟩
      ·exact⟨th _,abY _,abY _⟩
    ·split
     ·exact e0 _ _
     ·split
      ·exact e0 _ _
      ·split
       ·exact e1 _ _ _
       ·split
        ·unfold nI;dsimp only;split
         ·exact e1 _ _ _
         ·split
          ·cases h:(Rt.iU s (Rt.dU s ((Rt.cZ s i).2+1))).1 with
           | none=>exact e0 _ _
           | some t =>
             have:=CQ s _ _ (bY _) t h;exact⟨hz,by show t.length≤_;omega,abY _⟩
          ·exact e1 _ _ _
        ·split
         ·exact e0 _ _
         ·refine⟨hz, ?_,abY _⟩;show 1≤_;omega
theorem PQ:∀n i,s.length-i≤n→∀t∈kE s i,xH (4*s.length) t
 | 0,i,hn,t,ht=>by rw[kE,dif_neg (by omega)]at ht;cases ht
 | n+1,i,hn,t,ht=>by
   rw[kE]at ht;split at ht
   ·rename_i h;rcases ID.1 ht with rfl|ht
    ·exact Xg h
    ·have h1:=rm h;have h2:=po s s.length (fQ s i).2 (by omega) h1.2;exact PQ n _ (by omega) t ht
   ·cases ht
def XM(s:ae):(gi s).1.length≤1500∧∀t∈(gi s).1,xH 48000 t:=by
 unfold gi;split
 ·simp
 ·rename_i h;split
  ·simp
  ·rename_i h2;refine⟨by dsimp only;omega,fun t ht=>?_⟩;have hl:=rN s.length s (bY _);have:=PQ (s:=cQ s) _ _ (bY _) t ht;exact⟨this.1,by have:=this.2.1;omega,by have:=this.2.2;omega⟩
/-! ### How great what is parsed is -/
def z1(t:Tok):Nat:=1+t.t.length+t.u.length
def yZ(s:List (Tok×List Vl)):Nat:=(s.map fun x=>z1 x.1+bV x.2).sum
def wB(x:Tok×List Vl)(s:List (Tok×List Vl)):yZ (x:: s)=z1 x.1+bV x.2+yZ s:=rfl
def wD(l:List Vl)(v:Vl):bV (l++[v])=bV l+zV v:=by rw[mP,eO,bV];omega
def Ei(o:Tok)(l:List Vl):zV (gF o l)=z1 o+bV l:=by unfold gF;rw[zV];unfold z1;rfl
def Vq(h:gf t c s=some (c',s')):bV c'+yZ s'≤bV c+yZ s+z1 t:=by
 have hn:bV []=0:=by rw[bV]
 cases s with
 | nil =>
   rw[gf]at h;split at h
   ·cases h;rw[wB,hn];simp[yZ];omega
   ·cases h;rw[wD,Ei,hn];omega
 | cons x s =>
   obtain⟨o,b⟩:=x;rw[gf]at h;split at h
   ·cases h;rw[wD,Ei,wB];dsimp only;omega
   ·split at h
    ·split at h
     ·cases h
     ·cases h;rw[wB,hn];dsimp only;omega
    ·cases h;rw[wD,Ei,hn];omega
theorem LX:∀(s:List (Tok×List Vl)) (c:List Vl),bV (oD c s)=bV c+yZ s
 | [],c=>by rw[oD];simp[yZ]
 | (o,b):: s,c=>by rw[oD,LX s,wD,Ei,wB];dsimp only;omega
def Bz(l:List Tok):Nat:=(l.map z1).sum
theorem L0:∀(l:List Tok) (c c':List Vl) (s s':List (Tok×List Vl)),gJ l c s=some (c',s')→bV c'+yZ s'≤bV c+yZ s+Bz l
 | [],c,c',s,s',h=>by rw[gJ]at h;cases h;simp[Bz]
 | t:: l,c,c',s,s',h=>by
   rw[gJ]at h;cases e:gf t c s with
   | none=>rw[e]at h;cases h
   | some y =>
     obtain⟨c2,s2⟩:=y;rw[e]at h;have h1:=Vq e;have h2:=L0 l c2 c' s2 s' h;have:Bz (t:: l)=z1 t+Bz l:=rfl;omega
theorem M3:∀(l:List Tok),(∀t∈l,xH M t)→Bz l≤l.length*(1+2*M)
 | [],_=>by simp[Bz]
 | t:: l,h=>by
   have h1:=M3 l fun x hx=>h x (by simp[hx]);have h2:=h t (by simp);have e:Bz (t:: l)=z1 t+Bz l:=rfl;rw[e,abL,Nat.succ_mul];unfold z1;have:=h2.2.1;have:=h2.2.2;omega
def Vo(l:List Tok):bV (iv l).1≤Bz l:=by
 have hn:bV []=0:=by rw[bV]
 unfold iv;split
 ·rw[hn];omega
 ·cases e:gJ l [] [] with
  | none=>show bV []≤_;rw[hn];omega
  | some y =>
    obtain⟨c,s⟩:=y;have:=L0 _ _ _ _ _ e;rw[hn]at this;dsimp only;split
    ·rw[hn];omega
    ·dsimp only;rw[LX];simp[yZ]at this ⊢;omega
/-! ### What is parsed is in bounds -/
def wz(h:jh l)(hv:vB v):jh (l++[v]):=CR fun x hx=>by
 rcases Is.1 hx with hx|hx
 ·exact yD h hx
 ·simp at hx;subst hx;exact hv
def Ef(ho:xH (2^20) o)(h:jh l):vB (gF o l):=by unfold gF;rw[vB];exact⟨ho.1,ho.2.1,ho.2.2,h⟩
def IX(s:List (Tok×List Vl)):Prop:=∀x∈s,xH (2^20) x.1∧jh x.2
def Vp(ht:xH (2^20) t)(hc:jh c)(hs:IX s)(h:gf t c s=some (c',s')):jh c'∧IX s':=by
 have hn:jh []:=trivial;cases s with
 | nil =>
   rw[gf]at h;split at h
   ·cases h;exact⟨hn,fun x hx=>by simp at hx;subst hx;exact⟨ht,hc⟩⟩
   ·cases h;exact⟨wz hc (Ef ht hn),hs⟩
 | cons x s =>
   obtain⟨o,b⟩:=x;have hx:=hs (o,b) (by simp);have hs2:IX s:=fun y hy=>hs y (by simp[hy]);rw[gf]at h;split at h
   ·cases h;exact⟨wz hx.2 (Ef hx.1 hc),hs2⟩
   ·split at h
    ·split at h
     ·cases h
     ·cases h;refine⟨hn,fun y hy=>?_⟩;rcases ID.1 hy with rfl|hy
      ·exact⟨ht,hc⟩
      ·exact hs y hy
    ·cases h;exact⟨wz hc (Ef ht hn),hs⟩
theorem LZ:∀(l:List Tok) (c c':List Vl) (s s':List (Tok×List Vl)),(∀t∈l,xH (2^20) t)→jh c→IX s→gJ l c s=some (c',s')→jh c'∧IX s'
 | [],c,c',s,s',_,hc,hs,h=>by rw[gJ]at h;cases h;exact⟨hc,hs⟩
 | t:: l,c,c',s,s',ht,hc,hs,h=>by
   rw[gJ]at h;cases e:gf t c s with
   | none=>rw[e]at h;cases h
   | some y =>
     obtain⟨c2,s2⟩:=y;rw[e]at h;obtain⟨h1,h2⟩:=Vp (ht t (by simp)) hc hs e;exact LZ l c2 c' s2 s' (fun x hx=>ht x (by simp[hx])) h1 h2 h
theorem LW:∀(s:List (Tok×List Vl)) (c:List Vl),jh c→IX s→jh (oD c s)
 | [],c,hc,_=>by rw[oD];exact hc
 | (o,b):: s,c,hc,hs=>by
  have hx:=hs (o,b) (by simp);rw[oD];exact LW s _ (wz hx.2 (Ef hx.1 hc)) fun y hy=>hs y (by simp[hy])
def Vn(l:List Tok)(ht:∀t∈l,xH (2^20) t):jh (iv l).1:=by
 unfold iv;split
 ·trivial
 ·cases e:gJ l [] [] with
  | none=>trivial
  | some y =>
    obtain⟨c,s⟩:=y;obtain⟨h1,h2⟩:=LZ l [] c [] s ht trivial (fun x hx=>by cases hx) e;dsimp only;split
    ·trivial
    ·exact LW s c h1 h2
def oV(s:ae):List Cx×Int:=if (gi s).2=0 then (if (iv (gi s).1).2=0 then Iy (iv (gi s).1).1 else ([],(iv (gi s).1).2)) else ([],(gi s).2)
variable [bq]
def QD(s:ae):bn p_ 8 [.str s] (Vk (oV s)):=by
 refine (V8 _).bj (by simp) (by simp only[aR,Aw.Pure,and_true];exact lM (ml _)) ?_;unfold W8;obtain⟨hb1,hb2⟩:=XM s;refine uCon (GU s) ?_;unfold oV;obtain⟨T,hT⟩:∃T,gi s=T:=⟨_,rfl⟩;rw[hT]at hb1 hb2 ⊢;refine bl rfl rfl (bl rfl rfl (zzH ?_))
 by_cases h1:T.2=0
 ·rw[if_pos h1];refine zzK (by simp[h1]) ?_;have hcp:bn p_ 18 [yO T.1] (.aA [wJ (iv T.1).1,i_ (iv T.1).2]):=by
   unfold yO;split
   ·rename_i e;rw[e];exact bn.arg (C4 []) (.cons (.nil 5) .nil) (by simp[aR,Aw.Pure])
   ·exact C4 T.1
  refine uCon hcp ?_;have hB:jh (iv T.1).1:=Vn _ fun t ht=>by have:=hb2 t ht;exact⟨this.1,by have:=this.2.1;omega,by have:=this.2.2;omega⟩
  have hZ:bV (iv T.1).1<2^30:=by
   have a:=Vo T.1;have b:=M3 T.1 hb2;have c:T.1.length*(1+2*48000)≤1500*(1+2*48000):=Nat.mul_le_mul_right _ hb1;omega
  obtain⟨Q,hQ⟩:∃Q,iv T.1=Q:=⟨_,rfl⟩;rw[hQ]at hB hZ ⊢;refine bl rfl rfl (bl rfl rfl (zzH ?_))
  by_cases h2:Q.2=0
  ·rw[if_pos h2];refine zzK (by simp[h2]) ?_;have hco:bn p_ 19 [wJ Q.1] (Vk (Iy Q.1)):=bn.arg (QB Q.1 hZ hB) (.cons (Q5 _) .nil) (by simp only[aR,and_true];exact Fc _);refine uCon hco (bl rfl rfl (bl rfl rfl ?_));exact .pure (by simp only[aR,Aw.Pure,and_true];exact lM (ml _)) rfl
  ·rw[if_neg h2];refine zzL (by simp[h2]) ?_;exact .pure (by simp[aR,Aw.Pure]) rfl
 ·rw[if_neg h1];refine zzL (by simp[h1]) ?_;exact .pure (by simp[aR,Aw.Pure]) rfl
end
section
open Go Go.Aw Go.dN Go.RowKit
open Go.bu hiding u1 ae
def we(s:List (Tok×List Vl)):Int:=match s with|[]=>0|(o,_):: _=>bZ o.k
def L1(h1:s≠[]→t.k≠we s)(h2:bZ t.k=0):gf t c s=some (c++[gF t []],s):=by
 cases s with
 | nil=>rw[gf,if_neg (by simpa using h2)]
 | cons x s =>
   obtain⟨o,b⟩:=x;rw[gf,if_neg (show ¬t.k=bZ o.k from h1 (by simp)),if_neg (by simpa using h2)]
def L3(h1:s≠[]→t.k≠we s)(h2:bZ t.k≠0)(h3:s.length<16):gf t c s=some ([],(t,c):: s):=by
 cases s with
 | nil=>rw[gf,if_pos h2]
 | cons x s =>
   obtain⟨o,b⟩:=x;rw[gf,if_neg (show ¬t.k=bZ o.k from h1 (by simp)),if_pos h2,if_neg (by simp at h3;omega)]
def L4(h:t.k=bZ o.k):gf t c ((o,b):: s)=some (b++[gF o c],s):=by
 rw[gf,if_pos h]
mutual
theorem aaU:∀(v:Vl) (c:List Vl) (s:List (Tok×List Vl)) (r:List Tok),(s≠[]→we s≠0)→wV (we s) v=false→s.length+pH v≤16→gJ (jH v++r) c s=gJ r (c++[v]) s
 | .mk k t n u f l,c,s,r,ho,hb,hd=>by
   rw[wV,acv]at hb;obtain⟨hb1,hb2⟩:=hb;have h1:s≠[]→k≠we s:=by
    intro hs e;have h0:=ho hs;simp[h0,e]at hb1
   rw[pH]at hd;rw[jH]
   by_cases hc:bZ k=0
   ·rw[if_pos hc]at hb2 hd ⊢;have hl:l=[]:=by simpa using hb2
    subst hl;rw[acs,List.nil_append,gJ,L1 (t:=⟨k,t,n,u,f⟩) h1 hc];rfl
   ·rw[if_neg hc]at hb2 hd ⊢;rw[acs,To,gJ,L3 (t:=⟨k,t,n,u,f⟩) h1 hc (by omega)];dsimp only;rw[Bf l [] ((⟨k,t,n,u,f⟩,c):: s) _ (fun _=>hc) hb2 (by simp;omega),List.nil_append,acs,List.nil_append,gJ,L4 (o:=⟨k,t,n,u,f⟩) rfl];rfl
theorem Bf:∀(l:List Vl) (c:List Vl) (s:List (Tok×List Vl)) (r:List Tok),(s≠[]→we s≠0)→eP (we s) l=false→s.length+di l≤16→gJ (bO l++r) c s=gJ r (c++l) s
 | [],c,s,r,_,_,_=>by rw[bO];simp
 | v:: l,c,s,r,ho,hb,hd=>by
   rw[eP,acv]at hb;rw[di]at hd;rw[bO,To,aaU v c s _ ho hb.1 (by omega),Bf l (c++[v]) s r ho hb.2 (by omega)];simp
end
def LY(l:List Vl)(hb:eP 0 l=false)(hd:di l≤16)(hn:aw l≤1500):iv (bO l)=(l,0):=by
 have h:=Bf l [] [] [] (fun z=>absurd rfl z) hb (by simpa using hd);rw[abV,List.nil_append,gJ]at h;unfold iv;rw[mA,if_neg (by omega),h];show (if 1500<aw l+([]:List (Tok×List Vl)).length then (([]:List Vl),(4:Int)) else (oD l [],0))=_;rw[if_neg (by simp;omega)];rfl
def Hm(l:List Vl)(hb:eP 0 l=false)(hd:di l≤16)(hn:aw l≤1500):je l=0:=by
 unfold je;rw[if_neg (by omega),if_neg (by omega),hb];rfl
end
end Go.Proofs.YtpcnidmmkknndaaGreatDoor
end
