/-
 Slices,more: cut with three bounds;the capacity of nothing;zeros behind nothing;nothing behind the call's own;copied.
 No conditions.
-/
import Derived.Laws.Externs
import Derived.WideLaws
import Derived.Scope
import Derived.Test.YtldpambpnajgiaaGreatDoorProg
import Derived.KernelRfl
import Derived.Test.YtldpambpnajgiaaGreatDoorTie
import Derived.Test.YtldpambpnajgiaaGreatDoorCards
import Derived.Lib.LaidTab
import Derived.Lay
import Derived.LaidMore
import Derived.LaidHandle
import Derived.Stop.Joined
import Derived.ChangeSame
import Derived.JoinedCond
import Derived.Test.YtldpambpnajgiaaGreatDoorZc
set_option linter.unusedVariables false
set_option linter.unusedSimpArgs false
set_option maxRecDepth 1000000
set_option maxHeartbeats 16000000
open Go.Proofs.Tryz renaming prog→p_
noncomputable section
namespace Go.Aw
section
open Go Go.RowKit
variable [Laid]
variable{P:Program}{f:FuncId}{own:Nat→Nat→Nat→Bool}{K:AV→aa→Prop}{args:List AV}{ops:Array Oper}{h:aa}{ι:List Ix}{st:St}{base:Nat}{w:World}{o:Oper}{c:Code}
section
variable {P:Program} {o:Oper} {base:Nat} {ι:List Ix} {S:ba} {a:Act} {w:World} {st:St} {K:AV→aa→Prop}
theorem AF{len cap:Nat}{lo:Option Operand}{yh ym:Operand}{p q m:Int}{kh km:IntKind}{fr:Fr}(hE:∀x,ax ι S w (ak fr x) (a.eval x))(h1:fc (lo.map (ak fr)) 0=some p)(eh:a.eval yh=.int kh q)(em:a.eval ym=.int km m)
 (hp:0≤p) (hpq:p≤q) (hqm:q≤m) (hm:m≤cap):(Instr.sliceBounds true len cap (lo.map a.eval) (some (a.eval yh)) (some (a.eval ym))).run P w=.ok (p.toNat,q.toNat,m.toNat) w:=by
 have bound:∀(k:IntKind) (n:Int) (y:Nat) (c:BoundsCode),0≤n→n≤y→(Instr.sliceBound (.int k n) y c).run P w=.ok n.toNat w:=fun k n y c g1 g2=>run_sliceBound w k n y c g1 g2;unfold Instr.sliceBounds;rcases zk hE h1 with⟨rfl,rfl⟩|⟨yl,kl,rfl,el⟩
 ·simp only[Option.map_none,acI,em,eh];rw[bound km m cap _ (by omega) hm];simp only[acH];rw[bound kh q m.toNat _ (by omega) (by omega)];rfl
 ·simp only[acV,acI,em,eh,el];rw[bound km m cap _ (by omega) hm];simp only[acH];rw[bound kh q m.toNat _ (by omega) (by omega)];simp only[acH];rw[bound kl p q.toNat _ hp (by omega)];rfl
theorem Uo{t e:TypeId}{x yh ym:Operand}{lo:Option Operand}{sz:Nat}{rows:List (List AV)}{p q m:Int}{kh km:IntKind}(hr:bN base ι S a w st)(ho:o.op=.slice t x lo (some yh) (some ym))(ht:P.underlying t=some (.slice e))(hk:fv P e=true)
 (hx:iW (ak st.fr x)=.sl sz rows) (hl:fc (lo.map (ak st.fr)) 0=some p) (hh:ak st.fr yh=.v (.int kh q)) (hm:ak st.fr ym=.v (.int km m)) (hsz:sz=P.cellsOf e) (g0:0≤p) (g1:p≤q) (g2:q≤m) (g3:m≤rows.length)
 (k:K (.sl sz ((rows.take q.toNat).drop p.toNat)) st.h):cq P o base ι S a w st K:=by
 subst hsz;have rx:=(hr.eval x).iW;have rh:=hr.eval yh;have rm:=hr.eval ym;rw[hx,ax]at rx;rw[hh,dx]at rh;rw[hm,dx]at rm;obtain⟨b,cap,ev,c1,c2,c3⟩:=rx;have hb:=AF (P:=P) (len:=rows.length) (cap:=cap) hr.eval hl rh rm g0 g1 g2 (by omega);refine bk hr (u:=.slice (if m.toNat=p.toNat then b else b.map (·.add (p.toNat*P.cellsOf e))) (q.toNat-p.toNat) (m.toNat-p.toNat)) ?_ ?_ k
 ·simp only[execOp,ho,ev,acV];exact gp (by simp only[Instr.sliceAt,acI,run_underlying ht,acH,Instr.slice,hb,eY hk,acJ])
 ·rw[ax];have hl:((rows.take q.toNat).drop p.toNat).length=q.toNat-p.toNat:=by simp;omega
  refine⟨_,_,by rw[hl],by omega,by omega, ?_⟩
  by_cases hem:(rows.take q.toNat).drop p.toNat=[]
  ·exact .inl hem
  ·right;have hlen:0<q.toNat-p.toNat:=by rw[←hl];exact List.length_pos_iff.2 hem
   rcases c3 with c3|⟨bb,off,eb,rr⟩
   ·subst c3;simp at hem
   ·subst eb;rw[if_neg (by omega)];refine⟨bb,off+p.toNat*P.cellsOf e,by simp[gR],da.mk fun i r er=>?_⟩;have er':rows[p.toNat+i]?=some r:=by
     rw[aat]at er;rw[To]at er;split at er<;>first|exact er|cases er
    have:=rr.get _ _ er';refine⟨this.1, ?_⟩;rw[Nat.add_assoc,←acT];exact this.2
theorem Ql{t e:TypeId}{x yh ym:Operand}{lo:Option Operand}{kh km:IntKind}(hr:bN base ι S a w st)(ho:o.op=.slice t x lo (some yh) (some ym))(ht:P.underlying t=some (.slice e))(hk:fv P e=true)
 (hx:iW (ak st.fr x)=.emp∨∃sz rows,iW (ak st.fr x)=.sl sz rows) (hl:fc (lo.map (ak st.fr)) 0=some 0) (hh:ak st.fr yh=.v (.int kh 0)) (hm:ak st.fr ym=.v (.int km 0)) (k:K .emp st.h):cq P o base ι S a w st K:=by
 have rx:=(hr.eval x).iW;have rh:=hr.eval yh;have rm:=hr.eval ym;rw[hh,dx]at rh;rw[hm,dx]at rm;obtain⟨b,len,cap,ev⟩:∃b len cap,a.eval x=.slice b len cap:=by
  rcases hx with hx|⟨sz,rows,hx⟩
  ·rw[hx,ax]at rx;obtain⟨b,e⟩:=rx;exact⟨b,0,0,e⟩
  ·rw[hx,ax]at rx;obtain⟨b,cap,e,_⟩:=rx;exact⟨b,_,cap,e⟩
 have hb:=AF (P:=P) (len:=len) (cap:=cap) hr.eval hl rh rm (Int.le_refl _) (Int.le_refl _) (Int.le_refl _) (by omega);refine bk hr (u:=.slice b 0 0) ?_ (by rw[ax];exact⟨b,rfl⟩) k;simp only[execOp,ho,ev,acV];exact gp (by simp only[Instr.sliceAt,acI,run_underlying ht,acH,Instr.slice,hb,eY hk,acJ];rfl)
omit [Laid] in
theorem BN{t tx ty e:TypeId}{i:TypeInfo}{z:Value}{q k:IntKind}(w:World)(ht:P.underlying t=some (.slice e))(hk:P.underlying tx=some (.int q))(hi:P.info? e=some i)(hz:i.zero=some z)(hzs:z.cells.size=i.size)(hs0:0<i.size)(b:Option Addr)(n:Nat)(hn:0<n)
 (h63:n≤maxLen) (hfit:n*i.bytes≤281474976710656) :
 (Builtin.append_ #[t,tx] ty #[.slice b 0 0,.int k n]).run P w =
  .ok (.slice (some ⟨w.heap.size,0,none⟩) n (grownCap w n 0 e)) (w.drew.alloc (.cells (Builtin.zeroCells z.cells n++Builtin.zeroCells z.cells (grownCap w n 0 e-n)) e)):=by
 have h63':n≤9223372036854775807:=h63;have hw:IntKind.i64.wrap (n:Int)=n:=IntWalk.i64_in _ ⟨by omega,by omega⟩;have e0:¬n≤0:=by omega
 have h1:¬((n:Int)<0):=by omega
 have h2:¬((n:Int)*(i.bytes:Int) > 281474976710656):=by
  have:((n*i.bytes:Nat):Int)≤281474976710656:=by omega
  rw[Int.natCast_mul]at this;omega
 have h3:¬(9223372036854775807<(n:Int)):=by omega
 have hcap:Builtin.nextslicecap n 0=n:=by simp[Builtin.nextslicecap,hn]
 have h4:¬(281474976710656<n*i.bytes):=by omega
 have h5:¬(n*i.size=0):=by
  have:=Nat.mul_pos hn hs0;omega
 have hfc:∀w:World,(Builtin.firstCells i.size 0 (.slice b 0 0)).run P w=.ok #[] w:=fun w=>by
  cases b with
  | none=>exact run_firstCells_none w _ 0 0 0
  | some b=>exact run_firstCells_some w _ 0 b 0 0 [] (by simp) (by simp)
 simp[Builtin.append_,run_underlying ht,run_underlying hk,sizeOf,typeInfo,zeroValue,hi,hz,asInt,asIntOf,hw,h1,h2,e0,hn,h3,hcap,h4,h5,Question.forced,hfc,newRow,grownCap];intro h0;omega
theorem aaB{c:Call}{t tx e:TypeId}{x y:Operand}{z:AV}{q k:IntKind}{n:Nat}(hr:bN base ι S a w st)(ho:o.op=.call c)(hc:c.callee=.builtin .append)(hat:c.argTypes.toList=[t,tx])(hax:c.args.toList=[x,y])(ht:P.underlying t=some (.slice e))(htx:P.underlying tx=some (.int q))
 (hz:gn P e=some z) (hk:nI P e=true) (hs0:0<P.cellsOf e) (hx:qG (ak st.fr x)=.emp) (hy:ak st.fr y=.v (.int k n)) (hn:0<n) (hm:n≤maxLen) (hfit:n*ir P e≤140737488355328)
 (h:K (.own st.h.length 0 n (P.cellsOf e)) (st.h++[.aC ⟨e,iq n (bc z),true⟩])):cq P o base ι S a w st K:=by
 have hty:c.argTypes=#[t,tx]:=by apply Array.ext';simpa using hat
 have hag:c.args.map a.eval=#[a.eval x,a.eval y]:=by apply Array.ext';simp[hax]
 obtain⟨i,u,vs,hi,hu,rfl,euc,hvl,hce,hbe,rz⟩:=te hk hz;have rx:=(hr.eval x).qG;rw[hx,ax]at rx;obtain⟨b,ex⟩:=rx;have ry:=hr.eval y;rw[hy,dx]at ry;have hzs:u.cells.size=i.size:=by rw[euc];simpa using hvl
 have hrun:=BN (P:=P) (ty:=o.type) (k:=k) w ht htx hi hu hzs (by rw[←hce];exact hs0) b n hn hm (by rw[←hbe];omega);have hge:=grownCap_ge w n 0 e;have hcm:=grownCap_le_maxLen w n 0 e hm;have r0:=xl (rz ι S w) n (n*P.cellsOf e) (by rw[(rz ι S w).length,hvl,hce]);have hzc:Builtin.zeroCells u.cells n=madeCells vs.toArray (n*P.cellsOf e):=by
  rw[euc];unfold Builtin.zeroCells madeCells;simp only[List.size_toArray,hvl,hce]
 have hsz:(madeCells vs.toArray (n*P.cellsOf e)).size=n*P.cellsOf e:=by simp[madeCells]
 have hsz2:(Builtin.zeroCells u.cells (grownCap w n 0 e-n)).size=(grownCap w n 0 e-n)*P.cellsOf e:=by rw[size_zeroCells,hzs,hce]
 refine uQ (w1:=w.drew) (cells:=Builtin.zeroCells u.cells n++Builtin.zeroCells u.cells (grownCap w n 0 e-n)) (vs:=(madeCells vs.toArray (n*P.cellsOf e)).toList) (more:=(Builtin.zeroCells u.cells (grownCap w n 0 e-n)).toList) (fz:=(0,0)) (c:=grownCap w n 0 e) hr (.inr rfl) ?_ (by rw[hzc];apply Array.ext';simp) r0 (fun o _=>by simp) hge hcm ?_ h
 ·exact rb (s:=Builtin.append_ c.argTypes o.type (c.args.map a.eval)) ho hc (fun cs=>rfl) (by rw[hty,hag,ex,ry];exact hrun)
 ·rw[Array.length_toList,Array.length_toList,hsz,hsz2,←acT];exact Nat.le_of_eq (by congr 1;omega)
theorem aaz{c:Call}{t tx e e':TypeId}{x y:Operand}{sz':Nat}(hr:bN base ι S a w st)(ho:o.op=.call c)(hc:c.callee=.builtin .append)(hat:c.argTypes.toList=[t,tx])(hax:c.args.toList=[x,y])(ht:P.underlying t=some (.slice e))(htx:P.underlying tx=some (.slice e'))(hk:nI P e=true)
 (hx:(∃id off len sz,ak st.fr x=.own id off len sz)∨qG (ak st.fr x)=.emp) (hs:jo st.h sz' (ak st.fr y)=some []) (h:K (ak st.fr x) st.h):cq P o base ι S a w st K:=by
 have hty:c.argTypes=#[t,tx]:=by apply Array.ext';simpa using hat
 have hag:c.args.map a.eval=#[a.eval x,a.eval y]:=by apply Array.ext';simp[hax]
 have rx:=hr.eval x;have rx':=rx;obtain⟨ad,cap,vs,ey,_,rl,hfl,_⟩:=zu hr.hp (hr.eval y) hs;obtain⟨a',len,cap',evx,c2⟩:∃a' len cap',a.eval x=.slice a' len cap'∧len≤cap':=by
  rcases hx with⟨id,off,len,sz,hx⟩|hx
  ·rw[hx,ax]at rx;obtain⟨b,a',cap',nn,ty,c1,evx,c2,_⟩:=rx;exact⟨a',len,cap',evx,c2⟩
  ·have rn:=(hr.eval x).qG;rw[hx,ax]at rn;obtain⟨a',e⟩:=rn;exact⟨a',0,0,e,aS _⟩
 obtain⟨i,u,hi,hu,hzs,hce,hbe⟩:=pM hk;refine bk hr (u:=a.eval x) ?_ rx' h;refine rb (s:=Builtin.append_ c.argTypes o.type (c.args.map a.eval)) ho hc (fun cs=>rfl) ?_;rw[hty,hag,evx,ey];have hfc:(Builtin.firstCells i.size 0 (.slice ad 0 cap)).run P w=.ok #[] w:=by
  cases ad with
  | none=>exact run_firstCells_none w _ 0 0 cap
  | some b=>exact run_firstCells_some w _ 0 b 0 cap [] (by simp) (by simp)
 cases a' with
 | none=>simp[Builtin.append_,run_underlying ht,run_underlying htx,sizeOf,typeInfo,hi,Builtin.lenOf,c2,hfc]
 | some b' => simp[Builtin.append_,run_underlying ht,run_underlying htx,sizeOf,typeInfo,hi,Builtin.lenOf,c2,hfc,storeCells]
end
/-! ### As the kernel computes them -/
def Er(n:Nat)(x:AV)(lo:Option AV)(hi mx:AV):Option (AV×Option aa):=
 match Kv lo,hi,mx with
 | some a,.v (.int _ (.ofNat b)),.v (.int _ (.ofNat m))=>(match Nat.ble a b,Nat.ble b m with
   | true,true=>(match iW x with
     | .sl sz rows=>(match m with
       | 0=>some (.emp,none)
       | m+1=>(match Nat.beq sz n,Nat.ble (m+1) (ie rows) with|true,true=>some (.sl sz (oE a (qy b rows)),none)|_,_=>none))
     | .emp=>(match m with|0=>some (.emp,none)|_=>none)
     | _=>none)
   | _,_=>none)
 | _,_,_=>none
def abm(x:AV):Option (AV×Option aa):=match x with|.v (.slice none _ k)=>some (i_ (Int.ofNat k),none)|_=>none
def GK(e sz bytes:Nat)(z x y:AV)(h:aa):Option (AV×Option aa):=
 match qG x,y with
 | .emp,.v (.int _ (.ofNat n))=>(match Nat.ble 1 n,xz bytes n with
   | true,true=>some (.own (ie h) 0 n sz,some (nN h [.aC ⟨e,iq n (bc z),true⟩]))
   | _,_=>none)
 | _,_=>none
/-! ### Slots: three steps of eight;what lies behind is a list -/
structure N8(α:Type) where
 (a b c d e f g h:α)
structure qM(α β:Type) where
 g:α→β
 s:(β→β)→α→α
section
variable {α:Type}
def at0(T:N8 α):α:=N8.rec (motive:=fun _=>α) (fun a b c d e f g h=>a) T
def at1(T:N8 α):α:=N8.rec (motive:=fun _=>α) (fun a b c d e f g h=>b) T
def at2(T:N8 α):α:=N8.rec (motive:=fun _=>α) (fun a b c d e f g h=>c) T
def at3(T:N8 α):α:=N8.rec (motive:=fun _=>α) (fun a b c d e f g h=>d) T
def at4(T:N8 α):α:=N8.rec (motive:=fun _=>α) (fun a b c d e f g h=>e) T
def at5(T:N8 α):α:=N8.rec (motive:=fun _=>α) (fun a b c d e f g h=>f) T
def at6(T:N8 α):α:=N8.rec (motive:=fun _=>α) (fun a b c d e f g h=>g) T
def at7(T:N8 α):α:=N8.rec (motive:=fun _=>α) (fun a b c d e f g h=>h) T
def up0(k:α→α)(T:N8 α):N8 α:=N8.rec (motive:=fun _=>N8 α) (fun a b c d e f g h=>.mk (k a) b c d e f g h) T
def up1(k:α→α)(T:N8 α):N8 α:=N8.rec (motive:=fun _=>N8 α) (fun a b c d e f g h=>.mk a (k b) c d e f g h) T
def up2(k:α→α)(T:N8 α):N8 α:=N8.rec (motive:=fun _=>N8 α) (fun a b c d e f g h=>.mk a b (k c) d e f g h) T
def up3(k:α→α)(T:N8 α):N8 α:=N8.rec (motive:=fun _=>N8 α) (fun a b c d e f g h=>.mk a b c (k d) e f g h) T
def up4(k:α→α)(T:N8 α):N8 α:=N8.rec (motive:=fun _=>N8 α) (fun a b c d e f g h=>.mk a b c d (k e) f g h) T
def up5(k:α→α)(T:N8 α):N8 α:=N8.rec (motive:=fun _=>N8 α) (fun a b c d e f g h=>.mk a b c d e (k f) g h) T
def up6(k:α→α)(T:N8 α):N8 α:=N8.rec (motive:=fun _=>N8 α) (fun a b c d e f g h=>.mk a b c d e f (k g) h) T
def up7(k:α→α)(T:N8 α):N8 α:=N8.rec (motive:=fun _=>N8 α) (fun a b c d e f g h=>.mk a b c d e f g (k h)) T
def rD(n:Nat):qM (N8 α) α:=
 match n with
 | 0=>.mk at0 up0
 | 1=>.mk at1 up1
 | 2=>.mk at2 up2
 | 3=>.mk at3 up3
 | 4=>.mk at4 up4
 | 5=>.mk at5 up5
 | 6=>.mk at6 up6
 | _=>.mk at7 up7
omit [Laid]
theorem Cb(n:Nat)(k:α→α)(T:N8 α):(rD n).g ((rD n).s k T)=k ((rD n).g T):=by
 cases T
 match n with
 | 0=>rfl
 | 1=>rfl
 | 2=>rfl
 | 3=>rfl
 | 4=>rfl
 | 5=>rfl
 | 6=>rfl
 | n+7=>rfl
theorem AP(n m:Nat)(hn:n<8)(hm:m<8)(h:n≠m)(k:α→α)(T:N8 α):(rD n).g ((rD m).s k T)=(rD n).g T:=by
 cases T;obtain rfl|rfl|rfl|rfl|rfl|rfl|rfl|rfl:n=0∨n=1∨n=2∨n=3∨n=4∨n=5∨n=6∨n=7:=by omega
 all_goals obtain rfl|rfl|rfl|rfl|rfl|rfl|rfl|rfl:m=0∨m=1∨m=2∨m=3∨m=4∨m=5∨m=6∨m=7:=by omega
 all_goals first|rfl|exact absurd rfl h
end
structure Tr where
 t:N8 (N8 (N8 AV))
 r:Fr
def N8.all{α:Type}(x:α):N8 α:=⟨x,x,x,x,x,x,x,x⟩
def Tr.lf:Tr:=⟨N8.all (N8.all (N8.all .any)),[]⟩
structure Pa where
 g:Tr→AV
 s:AV→Tr→Tr
def jd(p:Pa)(T:Tr):AV:=p.g T
def mV(p:Pa)(x:AV)(T:Tr):Tr:=p.s x T
def upT(k:N8 (N8 (N8 AV))→N8 (N8 (N8 AV)))(T:Tr):Tr:=Tr.rec (motive:=fun _=>Tr) (fun t r=>.mk (k t) r) T
def I6(l3:qM (N8 (N8 (N8 AV))) (N8 (N8 AV)))(l2:qM (N8 (N8 AV)) (N8 AV))(l1:qM (N8 AV) AV):Pa:=
 match l3,l2,l1 with
 | ⟨g3,s3⟩,⟨g2,s2⟩,⟨g1,s1⟩=>⟨fun T=>g1 (g2 (g3 T.t)),fun x=>upT (s3 (s2 (s1 fun _=>x)))⟩
def iu(n:Nat):Pa:=
 match Nat.ble n 511 with
 | true=>I6 (rD (Nat.div n 64)) (rD (Nat.mod (Nat.div n 8) 8)) (rD (Nat.mod n 8))
 | false=>⟨fun T=>bg T.r n,fun x T=>⟨T.t,dt T.r n x⟩⟩
section
omit [Laid]
theorem DG(l3:qM (N8 (N8 (N8 AV))) (N8 (N8 AV)))(l2:qM (N8 (N8 AV)) (N8 AV))(l1:qM (N8 AV) AV)(T:Tr):(I6 l3 l2 l1).g T=l1.g (l2.g (l3.g T.t)):=rfl
theorem Ud(l3:qM (N8 (N8 (N8 AV))) (N8 (N8 AV)))(l2:qM (N8 (N8 AV)) (N8 AV))(l1:qM (N8 AV) AV)(x:AV)(T:Tr):((I6 l3 l2 l1).s x T).t=l3.s (l2.s (l1.s fun _=>x)) T.t:=by cases T;rfl
theorem ab1(l3:qM (N8 (N8 (N8 AV))) (N8 (N8 AV)))(l2:qM (N8 (N8 AV)) (N8 AV))(l1:qM (N8 AV) AV)(x:AV)(T:Tr):((I6 l3 l2 l1).s x T).r=T.r:=by cases T;rfl
theorem tL(n:Nat)(x:AV)(T:Tr):jd (iu n) (mV (iu n) x T)=x:=by
 unfold jd mV iu;split
 ·rw[DG,Ud,Cb,Cb,Cb]
 ·show bg (dt T.r n x) n=x;rw[ee,if_pos rfl]
theorem oI(n m:Nat)(x:AV)(T:Tr)(h:n≠m):jd (iu n) (mV (iu m) x T)=jd (iu n) T:=by
 unfold jd mV iu;split
 ·rename_i e1;split
  ·rename_i e2;rw[acK]at e1 e2;rw[DG,DG,Ud];have c1:Nat.div n 64=n/64:=rfl;have c2:Nat.div m 64=m/64:=rfl;have c3:Nat.mod (Nat.div n 8) 8=n/8%8:=rfl;have c4:Nat.mod (Nat.div m 8) 8=m/8%8:=rfl;have c5:Nat.mod n 8=n%8:=rfl;have c6:Nat.mod m 8=m%8:=rfl;rw[c1,c2,c3,c4,c5,c6]
   by_cases h3:n/64=m/64
   ·rw[h3,Cb]
    by_cases h2:n/8%8=m/8%8
    ·rw[h2,Cb,AP _ _ (by omega) (by omega) (by omega)]
    ·rw[AP _ _ (by omega) (by omega) h2]
   ·rw[AP _ _ (by omega) (by omega) h3]
  ·show (I6 _ _ _).g _=(I6 _ _ _).g _;rw[DG,DG]
 ·split
  ·show bg ((I6 _ _ _).s x T).r n=bg T.r n;rw[ab1]
  ·show bg (dt T.r m x) n=bg T.r n;rw[ee,if_neg (Ne.symm h)]
theorem Ez(n:Nat):jd (iu n) .lf=.any:=by
 have key:∀{α:Type} (i:Nat) (x:α),(rD i).g (N8.all x)=x:=by
  intro α i x
  match i with
  | 0=>rfl
  | 1=>rfl
  | 2=>rfl
  | 3=>rfl
  | 4=>rfl
  | 5=>rfl
  | 6=>rfl
  | n+7=>rfl
 unfold jd iu;split
 ·show (rD _).g ((rD _).g ((rD _).g (N8.all (N8.all (N8.all AV.any)))))=AV.any;rw[key,key,key]
 ·rfl
end
def Fits(fr:Fr)(T:Tr):Prop:=∀t,bg fr t=jd (iu t) T
section
omit [Laid]
theorem Fits.put{fr:Fr}{T:Tr}(h:Fits fr T)(t:Nat)(x:AV):Fits (dt fr t x) (mV (iu t) x T):=by
 intro u;rw[ee]
 by_cases e:t=u
 ·subst e;rw[if_pos rfl,tL]
 ·rw[if_neg e,oI _ _ _ _ (fun q=>e q.symm)];exact h u
theorem Fits.eq{fr fr':Fr}{T:Tr}(h:Fits fr T)(e:pZ fr' fr):Fits fr' T:=fun t=>(e t).trans (h t)
def Ca:List AV→Nat→Tr
 | [],_=>.lf
 | a:: r,i=>mV (iu i) a (Ca r (i+1))
theorem FR:∀(l:List AV) (i:Nat),Fits (mM l i) (Ca l i)
 | [],i=>fun t=>(Ez _).symm
 | a:: r,i=>by
   intro t;rw[mM,Ca];simp only[bg]
   by_cases e:i=t
   ·subst e;rw[if_pos rfl,tL]
   ·rw[if_neg e,oI _ _ _ _ (fun q=>e q.symm)];exact FR r (i+1) t
end
def jX(d:Option Pa)(x:AV)(T:Tr):Tr:=Option.rec (motive:=fun _=>Tr) T (fun p=>mV p x T) d
/-! ### Operations -/
inductive RO where
 | t (p:Pa)
 | c (v:AV)
def bG(T:Tr)(x:RO):AV:=RO.rec (motive:=fun _=>AV) (fun p=>jd p T) (fun v=>v) x
def cO(x:Operand):RO:=
 match x with
 | .tmp t=>.t (iu t)
 | .const v=>.c (kC v)
 | .global g=>.c (match Laid.Us g with|some cs=>.ip cs|none=>.any)
 | .func f=>.c (.fn (.func f) [] [])
variable{T:Tr}
theorem OX{fr:Fr}(h:Fits fr T)(x:Operand):bG T (cO x)=ak fr x:=by
 cases x with
 | tmp t=>exact (h t).symm
 | const v=>rfl
 | global g=>rfl
 | func f=>rfl
inductive yi where
 | move (x:RO)
 | pick (c a b:RO)
 | bin (op:BinOp) (x y:RO)
 | QS (op:BinOp) (x y:RO)
 | TT (neg:Bool) (ks:List Nat) (x y:RO)
 | not (x:RO)
 | neg (x:RO)
 | conv (k:IntKind) (x:RO)
 | S9 (x:RO)
 | toBytes (e:Nat) (x:RO)
 | ofBytes (x:RO)
 | RW (x:RO) (i:Nat)
 | KG (g:Bool) (off n:Nat) (x:RO)
 | Sf (x i:RO)
 | Sc (g:Bool) (sz len:Nat) (x i:RO)
 | slS (x:RO) (lo hi:Option RO)
 | sl (n:Nat) (x:RO) (lo hi:Option RO)
 | Uq (n sz:Nat) (x:RO) (lo hi:Option RO)
 | Sd (m:Nat) (x i:RO)
 | Se (len sz:Nat) (x i:RO)
 | ZG (off:Nat) (x:RO)
 | nil (row:String→TypeId→Bool) (x:RO)
 | Z3 (t:TypeId) (x:RO)
 | YY (has:TypeId→Bool) (x:RO)
 | inv (lo:Bool) (row:TypeId→Option FuncId) (x:RO) (args:List RO)
 | load (g:Bool) (sz:Nat) (x:RO)
 | store (sz:Nat) (x v:RO)
 | new (t:Nat) (z:AV)
 | box (t:Nat) (x:RO)
 | build (z:AV) (ps:List (Nat×Nat×RO))
 | IU (t len sz:Nat) (z:AV) (ps:List (Nat×Nat×RO))
 | Nk (len sz:Nat) (z:AV) (ps:List (Nat×Nat×RO))
 | make (e sz bytes:Nat) (z:AV) (l c:RO)
 | func (f:Fn) (xs ys:List RO)
 | Sl (x:RO)
 | len (x:RO)
 | min (x y:RO)
 | max (x y:RO)
 | Sv (x y z:RO)
 | app (own:Bool) (e sz bytes:Nat) (x y:RO)
 | Hz (own:Bool) (e bytes:Nat) (x y:RO)
 | Ip (neg:Bool) (x:RO)
 | Iq (neg:Bool) (x:RO)
 | Ir (neg:Bool) (x:RO)
 | call (lo:Bool) (x:RO) (args:List RO)
 | mkMap (r:Option RO)
 | EW (d:TypeDesc) (m k x:RO)
 | look (d:TypeDesc) (ok:Bool) (z:AV) (m k:RO)
 | CP (neg:Bool) (x:RO)
 | sl3 (n:Nat) (x:RO) (lo:Option RO) (hi mx:RO)
 | HA (e sz bytes:Nat) (z:AV) (x y:RO)
 | Hy (own:Bool) (e sz bytes:Nat) (x y:RO)
 | bad
def Np(neg:Bool)(d:TypeDesc)(y:Operand)(x:RO):yi:=
 match d,y with
 | .interface _,.const .nilIface=>.Ip neg x
 | .pointer _,.const (.pointer none)=>.Iq neg x
 | .slice _,.const (.slice none _ _)=>.Ir neg x
 | _,_=>.bad
def xR(P:Program)(own:Bool)(op:Op):yi:=
 match op with
 | .move x|.assign x=>.move (cO x)
 | .pick c a b=>.pick (cO c) (cO a) (cO b)
 | .binOp op t x y _ =>
   (match gI P t with
   | true=>(match op,P.eqGuardType P.depth t,nG P 8 t with
     | .eql,false,some ks=>.TT false ks (cO x) (cO y)
     | .neq,false,some ks=>.TT true ks (cO x) (cO y)
     | _,_,_=>.bad)
   | false=>match P.underlying t with
     | some .bool=>.QS op (cO x) (cO y)
     | some (.int _)|some .string=>.bin op (cO x) (cO y)
     | some d=>(match op with
       | .eql=>Np false d y (cO x)
       | .neq=>Np true d y (cO x)
       | _=>.bad)
     | none=>.bad)
 | .unOp .not _ x=>.not (cO x)
 | .unOp .neg _ x=>.neg (cO x)
 | .unOp .xor t x=>(match P.underlying t with|some (.int k)=>.bin .xor (.c (.v (.int k (DF k)))) (cO x)|_=>.bad)
 | .convert s d x =>
   (match P.underlying s,P.underlying d with
   | some (.int _),some (.int k)=>.conv k (cO x)
   | some .string,some .string=>.S9 (cO x)
   | some .string,some (.slice e)=>(match yX P e with|true=>.toBytes e (cO x)|false=>.bad)
   | some (.slice e),some .string=>(match yX P e with|true=>.ofBytes (cO x)|false=>.bad)
   | _,_=>.bad)
 | .extract x i=>.RW (cO x) i
 | .field t x i =>
   (match P.underlying t with
   | some (.struct fs)=>(match fs[i]? with
     | some f=>(match fv P f.type with|true=>.KG (gI P f.type) f.offset (P.cellsOf f.type) (cO x)|false=>.bad)
     | none=>.bad)
   | _=>.bad)
 | .index t x i =>
   (match P.underlying t with
   | some .string=>.Sf (cO x) (cO i)
   | some (.array n e)=>(match fv P e with|true=>.Sc (gI P e) (P.cellsOf e) n (cO x) (cO i)|false=>.bad)
   | _=>.bad)
 | .slice t x lo hi none =>
   (match P.underlying t with
   | some .string=>.slS (cO x) (lo.map cO) (hi.map cO)
   | some (.slice e)=>(match fv P e with|true=>.sl (P.cellsOf e) (cO x) (lo.map cO) (hi.map cO)|false=>.bad)
   | some (.array n e)=>(match fv P e with|true=>.Uq n (P.cellsOf e) (cO x) (lo.map cO) (hi.map cO)|false=>.bad)
   | _=>.bad)
 | .indexAddr t x i =>
   (match P.underlying t with
   | some (.slice e)=>(match fv P e with|true=>.Sd (P.cellsOf e) (cO x) (cO i)|false=>.bad)
   | some (.array n e)=>(match fv P e with|true=>.Se n (P.cellsOf e) (cO x) (cO i)|false=>.bad)
   | _=>.bad)
 | .fieldAddr t x i =>
   (match P.underlying t with
   | some (.struct fs)=>(match fs[i]? with
     | some f=>(match P.cellsOf f.type != 0&&fv P f.type with|true=>.ZG f.offset (cO x)|false=>.bad)
     | none=>.bad)
   | _=>.bad)
 | .nilCheck x=>.nil (fun n t=>(vg P n t).isSome) (cO x)
 | .makeInterface t x=>(match P.concrete t with|true=>.Z3 t (cO x)|false=>.bad)
 | .typeAssert x _ asserted true=>.YY (M7 P asserted) (cO x)
 | .load t x=>(match fv P t with|true=>.load (gI P t) (P.cellsOf t) (cO x)|false=>.bad)
 | .store t x v=>(match fv P t with|true=>.store (P.cellsOf t) (cO x) (cO v)|false=>.bad)
 | .alloc t=>(match gn P t with|some z=>.new t z|none=>.bad)
 | .box t x=>.box t (cO x)
 | .build t parts =>
   (match P.underlying t,gn P t with
   | some (.struct fs),some z=>(match fs.toList.all (fun f=>fv P f.type)&&parts.toList.all (fun p=>(fs[p.1]?).isSome) with
     | true=>.build z (parts.toList.map fun p=>(((fs[p.1]?).map (·.offset)).getD 0,((fs[p.1]?).map (fun f=>P.cellsOf f.type)).getD 0,cO p.2))
     | false=>.bad)
   | some (.array _ e),some z=>(match fv P e with|true=>.build z (parts.toList.map fun p=>(p.1*P.cellsOf e,P.cellsOf e,cO p.2))|false=>.bad)
   | _,_=>.bad)
 | .buildSlice t len parts =>
   (match P.underlying t with
   | some (.slice e)=>(match gn P e,nI P e&&fv P e&&decide (len*P.cellsOf e≤16777216)&&decide (len≤16777216) with
     | some z,true=>(match own with
       | true=>.Nk len (P.cellsOf e) z (parts.toList.map fun p=>(p.1*P.cellsOf e,P.cellsOf e,cO p.2))
       | false=>.IU e len (P.cellsOf e) z (parts.toList.map fun p=>(p.1*P.cellsOf e,P.cellsOf e,cO p.2)))
     | _,_=>.bad)
   | _=>.bad)
 | .makeSlice t l c =>
   (match P.underlying t with
   | some (.slice e)=>(match gn P e,nI P e&&decide (0<P.cellsOf e) with
     | some z,true=>.make e (P.cellsOf e) (ir P e) z (cO l) (cO c)
     | _,_=>.bad)
   | _=>.bad)
 | .makeFunc f xs ys=>.func f (xs.toList.map cO) (ys.toList.map cO)
 | .call c =>
   (match c.callee with
   | .builtin .len=>(match c.argTypes[0]?,c.args[0]? with
     | some t,some x=>(match P.underlying t with
       | some .string=>.Sl (cO x)
       | some (.slice _)=>.len (cO x)
       | _=>.bad)
     | _,_=>.bad)
   | .builtin .min=>(match c.args.toList with|[x,y]=>.min (cO x) (cO y)|_=>.bad)
   | .builtin .max=>(match c.args.toList with|[x,y]=>.max (cO x) (cO y)|[x,y,z]=>.Sv (cO x) (cO y) (cO z)|_=>.bad)
   | .builtin .append=>(match c.argTypes.toList,c.args.toList with
     | [t,tx],[x,y]=>(match P.underlying t,P.underlying tx with
       | some (.slice e),some (.slice _)=>(match nI P e with|true=>.app own e (P.cellsOf e) (ir P e) (cO x) (cO y)|false=>.bad)
       | some (.slice e),some .string=>(match nI P e&&P.cellsOf e == 1 with|true=>.Hz own e (ir P e) (cO x) (cO y)|false=>.bad)
       | _,_=>.bad)
     | _,_=>.bad)
   | .value x=>.call own (cO x) (c.args.toList.map cO)
   | .invoke x name=>.inv own (vg P name) (cO x) (c.args.toList.map cO)
   | _=>.bad)
 | _=>.bad
def same(v:Option AV):Option (AV×Option aa):=match v with|some v=>some (v,none)|none=>none
def jg(v:Option (AV×aa)):Option (AV×Option aa):=match v with|some p=>some (p.1,some p.2)|none=>none
abbrev aZ:=FuncId→List AV→aa→Option (AV×Option aa)
def yJ(T:Tr)(ps:List (Nat×Nat×RO)):List (Nat×Nat×AV):=ps.map fun p=>(p.1,p.2.1,bG T p.2.2)
def ME(own:Bool)(e sz bytes:Nat)(x:AV)(src:Option (List (List AV)))(h:aa):Option (AV×Option aa):=
 match src with
 | some []=>(match x with
   | .own a b c d=>some (.own a b c d,none)
   | x=>(match own,qG x with
     | true,.emp=>some (x,none)
     | _,_=>jg (o6 own e sz bytes x (some []) h)))
 | src=>jg (o6 own e sz bytes x src h)
def eR(call:aZ)(o:yi)(T:Tr)(h:aa):Option (AV×Option aa):=
 match o with
 | .move x=>some (bG T x,none)
 | .pick c a b=>same (GY (bG T c) (bG T a) (bG T b))
 | .bin op x y=>same (HX op (bG T x) (bG T y))
 | .QS op x y=>same (GL op (bG T x) (bG T y))
 | .TT neg ks x y=>same (MH neg ks (bG T x) (bG T y))
 | .not x=>same (MT (bG T x))
 | .neg x=>same (MS (bG T x))
 | .conv k x=>same (GM k (bG T x))
 | .S9 x=>same (GZ (bG T x))
 | .toBytes e x=>jg (wT e (bG T x) h)
 | .ofBytes x=>same (wS (bG T x) h)
 | .RW x i=>same (GN i (bG T x))
 | .KG g off n x=>same (MJ g off n (bG T x))
 | .Sf x i=>same (GS (bG T x) (bG T i))
 | .Sc g sz len x i=>same (GP g sz len (bG T x) (bG T i))
 | .slS x lo hi=>same (MW (bG T x) (lo.map (bG T)) (hi.map (bG T)))
 | .sl n x lo hi=>same (TQ n (bG T x) (lo.map (bG T)) (hi.map (bG T)))
 | .Uq n sz x lo hi=>same (MV n sz (bG T x) (lo.map (bG T)) (hi.map (bG T)) h)
 | .Sd m x i=>same (GQ m (bG T x) (bG T i))
 | .Se len sz x i=>same (GR len sz (bG T x) (bG T i))
 | .ZG off x=>same (MI off (bG T x))
 | .nil row x=>same (GX row (bG T x))
 | .Z3 t x=>some (.jI t (bG T x),none)
 | .YY has x=>same (MF has (bG T x))
 | .inv _ row x args=>(match bG T x with
   | .jI t v=>(match row t with|some f=>call f (v:: args.map (bG T)) h|none=>none)
   | _=>none)
 | .load g sz x=>same (Cx g sz (bG T x) h)
 | .store sz x v=>(match Cz sz (bG T x) (bG T v) h with|some h' => some (.v undef,some h')|none=>none)
 | .new t z=>jg (eNew t z h)
 | .box t x=>jg (eNew t (bG T x) h)
 | .build z ps=>same (Cw z (yJ T ps))
 | .IU t len sz z ps=>jg (GW t len sz z (yJ T ps) h)
 | .Nk len sz z ps=>same (Cy len sz z (yJ T ps))
 | .make e sz bytes z l c=>jg (GV e sz bytes z (bG T l) (bG T c) h)
 | .func f xs ys=>some (.fn f (xs.map (bG T)) (ys.map (bG T)),none)
 | .Sl x=>same (GU (bG T x))
 | .len x=>same (MO (bG T x))
 | .min x y=>same (MR (bG T x) (bG T y))
 | .max x y=>same (yE (bG T x) (bG T y))
 | .Sv x y z=>same (match yE (bG T x) (bG T y) with|some u=>yE u (bG T z)|none=>none)
 | .app own e sz bytes x y=>jg (o6 own e sz bytes (bG T x) (vp h sz (bG T y)) h)
 | .Hz own e bytes x y=>jg (o6 own e 1 bytes (bG T x) (BR (bG T y)) h)
 | .Ip neg x=>(match uU (bG T x) with|some b=>some (b_ (kQ neg b),none)|none=>none)
 | .Iq neg x=>(match xp (bG T x) with|some b=>some (b_ (kQ neg b),none)|none=>none)
 | .Ir neg x=>(match xq (bG T x) with|some b=>some (b_ (kQ neg b),none)|none=>none)
 | .call _ x args=>(match bG T x with
   | .fn (.func f) a b=>call f (a++args.map (bG T)++b) h
   | _=>none)
 | .mkMap r=>HZ (r.map (bG T)) h
 | .EW d m k x=>MQ d (bG T m) (bG T k) (bG T x) h
 | .look d ok z m k=>MP d ok z (bG T m) (bG T k) h
 | .CP neg x=>H0 neg (bG T x)
 | .sl3 n x lo hi mx=>Er n (bG T x) (lo.map (bG T)) (bG T hi) (bG T mx)
 | .HA e sz bytes z x y=>GK e sz bytes z (bG T x) (bG T y) h
 | .Hy own e sz bytes x y=>ME own e sz bytes (bG T x) (vp h sz (bG T y)) h
 | .bad=>none
def abX(o:yi):Bool:=
 match o with
 | .call lo _ _=>lo
 | .inv lo _ _ _=>lo
 | .toBytes .. | .store .. | .new .. | .box .. | .IU .. | .make .. | .app .. | .Hz .. | .mkMap .. | .EW .. | .HA .. | .Hy .. => true
 | _=>false
def NR(P:Program)(f:FuncId)(args:List AV)(h:aa)(K:AV→aa→Prop):Prop:=
 cd P f=false∧∀base ι S w vs,aI ι S w args vs→dN base ι S w h→∃v r w' ι' S' h',(callFunc f vs.toArray).run P w=.ok (.value v) w'∧cc ι.length base ι S w ι' S' w'∧ax ι' S' w' r v∧dN base ι' S' w' h'∧h.length≤h'.length∧K r h'
def UB(P:Program)(f:FuncId)(args:List AV)(h:aa)(K:AV→aa→Prop):Prop:=(cd P f=true∧dY P f args h K)∨NR P f args h K
def dZ(P:Program)(call:aZ):Prop:=
 ∀f args h v oh,call f args h=some (v,oh)→UB P f args h fun r hh=>r=v∧hh=oh.getD h
theorem aca{S:ba}{a:Act}{c:Call}{x:Operand}{first cap:List AV}(hr:bN base ι S a w st)(ho:o.op=.call c)(hc:c.callee=.value x)(hx:ak st.fr x=.fn (.func f) first cap)
 (h:NR P f (first++c.args.toList.map (ak st.fr)++cap) st.h K):cq P o base ι S a w st K:=by
 have hv:=hr.eval x;rw[hx,ax]at hv;obtain⟨vs,us,ev,r1,r2⟩:=hv;have hargs:aI ι S w (first++c.args.toList.map (ak st.fr)++cap) (vs++c.args.toList.map a.eval++us):=(r1.append (aI.G0 hr _)).append r2;obtain⟨v,r,w',ι',S',h',e1,hE,rv,hH,hl,k⟩:=h.2 base ι S w _ hargs hr.hp;have hrun:(execOp a.eval o).run P w=.ok (.value v) w':=by
  have e2:(vs.toArray++c.args.map a.eval)++us.toArray=(vs++c.args.toList.map a.eval++us).toArray:=by apply Array.ext';simp
  simp only[execOp,ho,resolve,hc,acI,ev,Deferred.ofValue,acJ,acH,invoke,e2];exact e1
 exact fN hr hrun hE rv hH hl k
omit [Laid] in
theorem PR{name:String}{t:TypeId}(h:vg P name t=some f):cd P f=true:=(BO (w:=default) (.bool true) h).1
section
variable {P:Program} {call:aZ} {own:Bool} {op:Op} {T:Tr} {h:aa} {v:AV} {oh:Option aa} {fr:Fr} {K:AV→aa→Prop}
omit [Laid] in
theorem dq{x:Option AV}(e:same x=some (v,oh)):x=some v∧oh=none:=by
 unfold same at e;split at e
 ·cases e;exact⟨rfl,rfl⟩
 ·cases e
omit [Laid] in
theorem lX{x:Option (AV×aa)}(e:jg x=some (v,oh)):∃h',x=some (v,h')∧oh=some h':=by
 unfold jg at e;split at e
 ·rename_i p;cases e;exact⟨p.2,rfl,rfl⟩
 ·cases e
theorem abn(hc:dZ P call)(hf:∀x,bG T (cO x)=ak fr x)(e:eR call (xR P own op) T h=some (v,oh))(hk:K v (oh.getD h)):
 cx P own (ak fr) h op K∨∀(n:Nat) (o:Oper),o.op=op→nL P n h o fr K:=by
 have hl:∀l:List Operand,(l.map cO).map (bG T)=l.map (ak fr):=fun l=>by rw[List.map_map];exact List.map_congr_left fun x _=>hf x
 have ho:∀o:Option Operand,(o.map cO).map (bG T)=o.map (ak fr):=fun o=>by cases o<;>simp[hf]
 have hp:∀(l:List (Nat×Operand)) (f g:Nat→Nat),yJ T (l.map fun p=>(f p.1,g p.1,cO p.2))=l.map fun p=>(f p.1,g p.1,ak fr p.2):=fun l f g=>by
  unfold yJ;rw[List.map_map];exact List.map_congr_left fun p _=>by simp[hf]
 by_cases hcall:∃c x,op=.call c∧c.callee=.value x
 ·obtain⟨c,x,rfl,hcal⟩:=hcall;simp only[xR,hcal,eR,hf,hl]at e;split at e
  ·rename_i f first cap hx
   rcases hc _ _ _ _ _ e with⟨hb,hA⟩|hA
   ·left;simp only[cx,hcal];unfold eJ;simp only[hx];exact⟨hb,hA.mono fun r hh ⟨e1,e2⟩=>by subst e1;subst e2;exact hk⟩
   ·right;intro n o ho2 fr' base ι S a w he hr;have hmem:∀y∈c.args,ak fr' y=ak fr y:=fun y hy=>he y (by rw[ho2];simp only[Op.operands,Call.operands];exact Array.mem_append_right _ hy);have hx':ak fr' x=ak fr x:=he x (by rw[ho2];simp[Op.operands,Call.operands,hcal]);refine aca (st:=⟨n,fr',h⟩) hr ho2 hcal (by rw[hx'];exact hx) ?_;have:c.args.toList.map (ak fr')=c.args.toList.map (ak fr):=List.map_congr_left fun y hy=>hmem y (by simpa using hy);simp only[this];refine⟨hA.1,fun base ι S w vs h1 h2=>?_⟩;obtain⟨v',r',w',ι',S',h',q1,q2,q3,q4,q5,q6,q7⟩:=hA.2 base ι S w vs h1 h2;subst q6;subst q7;exact⟨v',_,w',ι',S',_,q1,q2,q3,q4,q5,hk⟩
  ·cases e
 by_cases hinv:∃c x name,op=.call c∧c.callee=.invoke x name
 ·obtain⟨c,x,name,rfl,hcal⟩:=hinv;simp only[xR,hcal,eR,hf,hl]at e;split at e
  ·rename_i t y hx;split at e
   ·rename_i f hrow;left;simp only[cx,hcal];unfold Ij;simp only[hx,hrow];rcases hc _ _ _ _ _ e with⟨hb,hA⟩|hA
    ·exact hA.mono fun r hh ⟨e1,e2⟩=>by subst e1;subst e2;exact hk
    ·exact absurd (PR hrow) (by rw[hA.1];exact Bool.false_ne_true)
   ·cases e
  ·cases e
 left;unfold xR at e;unfold cx;split at e
 ·simp only[eR,hf]at e;cases e;exact hk
 ·simp only[eR,hf]at e;cases e;exact hk
 ·simp only[eR,hf]at e;obtain⟨e',rfl⟩:=dq e;exact RP e' hk
 ·rename_i bop t x y yt;split at e
  ·rename_i hagg;simp only[hagg,if_true];split at e
   ·rename_i hg hks;simp only[eR,hf]at e;obtain⟨e',rfl⟩:=dq e;simp only[hg,hks,Bool.not_false];exact Ku e' hk
   ·rename_i hg hks;simp only[eR,hf]at e;obtain⟨e',rfl⟩:=dq e;simp only[hg,hks,Bool.not_false];exact Ku e' hk
   ·simp[eR]at e
  ·rename_i hagg;simp only[hagg,aaX,if_false];split at e
   ·rename_i ht;simp only[ht];simp only[eR,hf]at e;obtain⟨e',rfl⟩:=dq e;exact Rz e' hk
   ·rename_i ht;simp only[ht];simp only[eR,hf]at e;obtain⟨e',rfl⟩:=dq e;exact En e' hk
   ·rename_i ht;simp only[ht];simp only[eR,hf]at e;obtain⟨e',rfl⟩:=dq e;exact En e' hk
   ·rename_i d q1 q2 q3 ht;have key:∀neg:Bool,eR call (Np neg d y (cO x)) T h=some (v,oh)→uL neg d y (ak fr x) fun v=>K v h:=by
     intro neg e;unfold Np at e;unfold uL;split at e
     ·simp only[eR,hf]at e;split at e
      ·rename_i b hb;cases e;simp only[nB,hb];exact hk
      ·cases e
     ·simp only[eR,hf]at e;split at e
      ·rename_i b hb;cases e;simp only[nB,hb];exact hk
      ·cases e
     ·simp only[eR,hf]at e;split at e
      ·rename_i b hb;cases e;simp only[nB,hb];exact hk
      ·cases e
     ·simp[eR]at e
    rw[ht];cases bop<;>simp only[]at e⊢<;> first|exact key _ e|(simp[eR]at e;done)|skip
   ·simp[eR]at e
 ·simp only[eR,hf]at e;obtain⟨e',rfl⟩:=dq e;exact Vt e' hk
 ·simp only[eR,hf]at e;obtain⟨e',rfl⟩:=dq e;exact Vr e' hk
 ·split at e
  ·rename_i hu;simp only[hu];simp only[eR,hf]at e;obtain⟨e',rfl⟩:=dq e;exact En e' hk
  ·simp[eR]at e
 ·split at e
  ·rename_i hs hd;simp only[hs,hd];simp only[eR,hf]at e;obtain⟨e',rfl⟩:=dq e;exact RB e' hk
  ·rename_i hs hd;simp only[hs,hd];simp only[eR,hf]at e;obtain⟨e',rfl⟩:=dq e;exact RQ e' hk
  ·rename_i hs hd;simp only[hs,hd];split at e
   ·rename_i hu;simp only[hu];simp only[eR,hf]at e;obtain⟨h',e',rfl⟩:=lX e;exact JP e' hk
   ·simp[eR]at e
  ·rename_i hs hd;simp only[hs,hd];split at e
   ·rename_i hu;simp only[hu];simp only[eR,hf]at e;obtain⟨e',rfl⟩:=dq e;exact JO e' hk
   ·simp[eR]at e
  ·simp[eR]at e
 ·simp only[eR,hf]at e;obtain⟨e',rfl⟩:=dq e;exact RD e' hk
 ·split at e
  ·rename_i ht;simp only[ht];split at e
   ·rename_i hfi;simp only[hfi];split at e
    ·rename_i hok;simp only[hok];simp only[eR,hf]at e;obtain⟨e',rfl⟩:=dq e;exact Vk e' hk
    ·simp[eR]at e
   ·simp[eR]at e
  ·simp[eR]at e
 ·split at e
  ·rename_i ht;simp only[ht];simp only[eR,hf]at e;obtain⟨e',rfl⟩:=dq e;exact RI e' hk
  ·rename_i ht;simp only[ht];split at e
   ·rename_i hok;simp only[hok];simp only[eR,hf]at e;obtain⟨e',rfl⟩:=dq e;exact RE e' hk
   ·simp[eR]at e
  ·simp[eR]at e
 ·split at e
  ·rename_i ht;simp only[ht];simp only[eR,hf,ho]at e;obtain⟨e',rfl⟩:=dq e;exact Vy e' hk
  ·rename_i ht;simp only[ht];split at e
   ·rename_i hok;simp only[hok];simp only[eR,hf,ho]at e;obtain⟨e',rfl⟩:=dq e;exact Zg e' hk
   ·simp[eR]at e
  ·rename_i ht;simp only[ht];split at e
   ·rename_i hok;simp only[hok];simp only[eR,hf,ho]at e;obtain⟨e',rfl⟩:=dq e;exact Vx e' hk
   ·simp[eR]at e
  ·simp[eR]at e
 ·split at e
  ·rename_i ht;simp only[ht];split at e
   ·rename_i hok;simp only[hok];simp only[eR,hf]at e;obtain⟨e',rfl⟩:=dq e;exact RF e' hk
   ·simp[eR]at e
  ·rename_i ht;simp only[ht];split at e
   ·rename_i hok;simp only[hok];simp only[eR,hf]at e;obtain⟨e',rfl⟩:=dq e;exact RH e' hk
   ·simp[eR]at e
  ·simp[eR]at e
 ·split at e
  ·rename_i ht;simp only[ht];split at e
   ·rename_i hfi;simp only[hfi];split at e
    ·rename_i hok;simp only[hok];simp only[eR,hf]at e;obtain⟨e',rfl⟩:=dq e;exact Vj e' hk
    ·simp[eR]at e
   ·simp[eR]at e
  ·simp[eR]at e
 ·simp only[eR,hf]at e;obtain⟨e',rfl⟩:=dq e;exact RN e' hk
 ·split at e
  ·rename_i hok;simp only[hok];simp only[eR,hf]at e;cases e;exact hk
  ·simp[eR]at e
 ·simp only[eR,hf]at e;obtain⟨e',rfl⟩:=dq e;exact Vi e' hk
 ·split at e
  ·rename_i hok;simp only[hok];simp only[eR,hf]at e;obtain⟨e',rfl⟩:=dq e;exact HY e' hk
  ·simp[eR]at e
 ·split at e
  ·rename_i hok;simp only[hok];simp only[eR,hf]at e;split at e
   ·rename_i es;cases e;exact OT es hk
   ·cases e
  ·simp[eR]at e
 ·split at e
  ·rename_i hz;simp only[hz];simp only[eR,hf]at e;obtain⟨h',e',rfl⟩:=lX e;exact Ky e' hk
  ·simp[eR]at e
 ·simp only[eR,hf]at e;obtain⟨h',e',rfl⟩:=lX e;exact Ky e' hk
 ·rename_i t parts;split at e
  ·rename_i fs z ht hz;simp only[ht,hz];split at e
   ·rename_i hok;simp only[hok];have hp2:=hp parts.toList (fun i=>((fs[i]?).map (·.offset)).getD 0) (fun i=>((fs[i]?).map (fun f=>P.cellsOf f.type)).getD 0);simp only[eR]at e;rw[hp2]at e;obtain⟨e',rfl⟩:=dq e;exact FN e' hk
   ·simp[eR]at e
  ·rename_i n el z ht hz;simp only[ht,hz];split at e
   ·rename_i hok;simp only[hok];have hp2:=hp parts.toList (fun i=>i*P.cellsOf el) (fun _=>P.cellsOf el);simp only[eR]at e;rw[hp2]at e;obtain⟨e',rfl⟩:=dq e;exact FN e' hk
   ·simp[eR]at e
  ·simp[eR]at e
 ·rename_i t len parts;split at e
  ·rename_i el ht;simp only[ht];split at e
   ·rename_i hz hok;simp only[hz,hok];have hp2:=hp parts.toList (fun i=>i*P.cellsOf el) (fun _=>P.cellsOf el);cases own with
    | true =>
      simp only[eR]at e;rw[hp2]at e;obtain⟨e',rfl⟩:=dq e;exact OP e' hk
    | false =>
      simp only[eR]at e;rw[hp2]at e;obtain⟨h',e',rfl⟩:=lX e;exact RL e' hk
   ·simp[eR]at e
  ·simp[eR]at e
 ·split at e
  ·rename_i ht;simp only[ht];split at e
   ·rename_i hz hok;simp only[hz,hok];simp only[eR,hf]at e;obtain⟨h',e',rfl⟩:=lX e;exact RK e' hk
   ·simp[eR]at e
  ·simp[eR]at e
 ·simp only[eR,hl]at e;cases e;exact hk
 ·rename_i c;split at e
  ·rename_i hcal;simp only[hcal];split at e
   ·rename_i hat hax;simp only[hat,hax];split at e
    ·rename_i ht;simp only[ht];simp only[eR,hf]at e;obtain⟨e',rfl⟩:=dq e;exact RJ e' hk
    ·rename_i ht;simp only[ht];simp only[eR,hf]at e;obtain⟨e',rfl⟩:=dq e;exact Vo e' hk
    ·simp[eR]at e
   ·simp[eR]at e
  ·rename_i hcal;simp only[hcal];split at e
   ·rename_i hax;simp only[hax];simp only[eR,hf]at e;obtain⟨e',rfl⟩:=dq e;exact Vq e' hk
   ·simp[eR]at e
  ·rename_i hcal;simp only[hcal];split at e
   ·rename_i hax;simp only[hax];simp only[eR,hf]at e;obtain⟨e',rfl⟩:=dq e;exact Eo e' hk
   ·rename_i hax;simp only[hax];simp only[eR,hf]at e;obtain⟨e',rfl⟩:=dq e;split at e'
    ·rename_i u hu;exact Eo hu (Eo e' hk)
    ·cases e'
   ·simp[eR]at e
  ·rename_i hcal;simp only[hcal];split at e
   ·rename_i t tx x y hat hax;simp only[hat,hax];split at e
    ·rename_i el el2 ht htx;simp only[ht,htx];split at e
     ·rename_i hz;simp only[hz];simp only[eR,hf]at e;obtain⟨h',e',rfl⟩:=lX e;unfold eE;cases hs:vp h (P.cellsOf el) (ak fr y) with
      | none=>rw[hs]at e';simp[o6]at e'
      | some rows=>rw[hs]at e';rw[Fg hs];exact FM e' hk
     ·simp[eR]at e
    ·rename_i ht htx;simp only[ht,htx];split at e
     ·rename_i hz;simp only[hz];simp only[eR,hf]at e;obtain⟨h',e',rfl⟩:=lX e;unfold G9;exact FM e' hk
     ·simp[eR]at e
    ·simp[eR]at e
   ·simp[eR]at e
  ·rename_i hcal;exact absurd ⟨_,_,rfl,hcal⟩ hcall
  ·rename_i hcal;exact absurd ⟨_,_,_,rfl,hcal⟩ hinv
  ·simp[eR]at e
 ·simp[eR]at e
theorem Zf{n:Nat}{o:Oper}(hc:dZ P call)(hf:∀x,bG T (cO x)=ak fr x)(e:eR call (xR P own o.op) T h=some (v,oh))(hk:K v (oh.getD h)):nL P n h o fr K:=by
 rcases abn hc hf e hk with q|q
 ·exact nL.of q
 ·exact q n o rfl
def yr(P:Program)(own:Bool)(op:Op):yi:=
 match op with
 | .makeMap t r=>(match r with
   | none=>.mkMap none
   | some x=>(match P.underlying t with|some (.map _ _)=>.mkMap (some (cO x))|_=>.bad))
 | .mapUpdate t m k x=>(match P.underlying t with
   | some (.map kt _)=>(match P.underlying kt with|some d=>.EW d (cO m) (cO k) (cO x)|none=>.bad)
   | _=>.bad)
 | .insert t m k x=>(match P.underlying t with
   | some (.map kt _)=>(match P.underlying kt with|some d=>.EW d (cO m) (cO k) (cO x)|none=>.bad)
   | _=>.bad)
 | .lookup t m k ok=>(match P.underlying t with
   | some (.map kt et)=>(match P.underlying kt,gn P et with|some d,some z=>.look d ok z (cO m) (cO k)|_,_=>.bad)
   | _=>.bad)
 | .call c=>(match c.callee with
   | .builtin .append=>(match c.argTypes.toList,c.args.toList with
     | [t,tx],[x,y]=>(match P.underlying t,P.underlying tx with
       | some (.slice e),some (.int _)=>(match gn P e,nI P e&&decide (0<P.cellsOf e) with|some z,true=>.HA e (P.cellsOf e) (ir P e) z (cO x) (cO y)|_,_=>.bad)
       | some (.slice e),some (.slice _)=>(match nI P e with|true=>.Hy own e (P.cellsOf e) (ir P e) (cO x) (cO y)|false=>.bad)
       | _,_=>xR P own (.call c))
     | _,_=>xR P own (.call c))
   | _=>xR P own (.call c))
 | .slice t x lo (some hi) (some mx)=>(match P.underlying t with
   | some (.slice e)=>(match fv P e with|true=>.sl3 (P.cellsOf e) (cO x) (lo.map cO) (cO hi) (cO mx)|false=>.bad)
   | _=>.bad)
 | .binOp op t x y yt=>(match P.underlying t,y with
   | some (.map _ _),.const (.map none)=>(match op with|.eql=>.CP false (cO x)|.neq=>.CP true (cO x)|_=>.bad)
   | _,_=>xR P own (.binOp op t x y yt))
 | op=>xR P own op
theorem Kx{n:Nat}{o:Oper}{t:TypeId}{r:Option Operand}(ho:o.op=.makeMap t r)(ht:r=none∨∃kt et,P.underlying t=some (.map kt et))(e:HZ (r.map (ak fr)) h=some (v,oh))(hk:K v (oh.getD h)):nL P n h o fr K:=by
 intro fr' base ι S a w hs hr;cases r with
 | none =>
   simp only[Option.map_none,HZ,eX,jK,ON,aaZ]at e;obtain⟨rfl,rfl⟩:=e;exact Fa hr ho (.inl rfl) hk
 | some x =>
   obtain⟨kt,et,ht⟩:=ht.resolve_left (by simp);simp only[acV,HZ]at e;split at e
   ·rename_i k i hx;simp only[eX,jK,ON,aaZ]at e;obtain⟨rfl,rfl⟩:=e;refine Fa hr ho (.inr ⟨x,kt,et,k,i,rfl,ht, ?_⟩) hk;rw[←hx];exact hs x (by rw[ho];simp[Op.operands])
   ·cases e
theorem Kw{n:Nat}{o:Oper}{t kt et:TypeId}{d:TypeDesc}{m k x:Operand}(ho:o.op=.mapUpdate t m k x∨o.op=.insert t m k x)(ht:P.underlying t=some (.map kt et))(hd:P.underlying kt=some d)
 (e:MQ d (ak fr m) (ak fr k) (ak fr x) h=some (v,oh)) (hk:K v (oh.getD h)):nL P n h o fr K:=by
 intro fr' base ι S a w hs hr;have hm':ak fr' m=ak fr m:=hs m (by rcases ho with ho|ho<;>(rw[ho];simp[Op.operands]));have hk':ak fr' k=ak fr k:=hs k (by rcases ho with ho|ho<;>(rw[ho];simp[Op.operands]));have hx':ak fr' x=ak fr x:=hs x (by rcases ho with ho|ho<;>(rw[ho];simp[Op.operands]));unfold MQ at e;split at e
 ·rename_i id hm;rw[lh]at e;split at e
  ·rename_i c es he;split at e
   ·rename_i hka;split at e
    ·rename_i c' es' hu;rw[z8]at e;simp only[ON,aaZ]at e;obtain⟨rfl,rfl⟩:=e;exact Qh (st:=⟨n,fr',h⟩) hr ho ht hd (by rw[hm',hm]) (by show ji d (ak fr' k)=true;rw[hk'];exact hka) he (by show oM c (ak fr' k) (ak fr' x) es=_;rw[hk',hx'];exact hu) hk
    ·cases e
   ·cases e
  ·cases e
 ·cases e
theorem Vp{n:Nat}{o:Oper}{t kt et:TypeId}{d:TypeDesc}{ok:Bool}{z:AV}{m k:Operand}(ho:o.op=.lookup t m k ok)(ht:P.underlying t=some (.map kt et))(hd:P.underlying kt=some d)(hz:gn P et=some z)
 (e:MP d ok z (ak fr m) (ak fr k) h=some (v,oh)) (hk:K v (oh.getD h)):nL P n h o fr K:=by
 intro fr' base ι S a w hs hr;have hm':ak fr' m=ak fr m:=hs m (by rw[ho];simp[Op.operands]);have hk':ak fr' k=ak fr k:=hs k (by rw[ho];simp[Op.operands]);unfold MP at e;split at e
 ·cases e
 ·rename_i hka;have hka':ji d (ak (⟨n,fr',h⟩:St).fr k)=true:=by show ji d (ak fr' k)=true;rw[hk'];exact hka
  split at e
  ·rename_i hm;simp only[ON,aaZ]at e;obtain⟨rfl,rfl⟩:=e;exact DP (st:=⟨n,fr',h⟩) hr ho ht hd hz hka' (.inl ⟨by rw[hm',hm],rfl⟩) hk
  ·rename_i id hm;rw[lh]at e;split at e
   ·rename_i c es he;split at e
    ·rename_i q hq;simp only[ON,aaZ]at e;obtain⟨rfl,rfl⟩:=e;exact DP (st:=⟨n,fr',h⟩) hr ho ht hd hz hka' (.inr ⟨id,_,es,by rw[hm',hm],he,by show mi (ak fr' k) es=_;rw[hk'];exact hq⟩) hk
    ·cases e
   ·cases e
  ·cases e
theorem Kz{n:Nat}{o:Oper}{neg:Bool}{t yt kt et:TypeId}{x:Operand}(ho:o.op=.binOp (if neg then .neq else .eql) t x (.const (.map none)) yt)(ht:P.underlying t=some (.map kt et))(e:H0 neg (ak fr x)=some (v,oh))(hk:K v (oh.getD h)):nL P n h o fr K:=by
 intro fr' base ι S a w hs hr;have hx':ak fr' x=ak fr x:=hs x (by rw[ho];simp[Op.operands]);unfold H0 at e;split at e
 ·rename_i hm;simp only[ON,aaZ]at e;obtain⟨rfl,rfl⟩:=e;exact vZ (st:=⟨n,fr',h⟩) (b:=true) hr ho ht (.inl ⟨by rw[hx',hm],rfl⟩) hk
 ·rename_i id hm;simp only[ON,aaZ]at e;obtain⟨rfl,rfl⟩:=e;exact vZ (st:=⟨n,fr',h⟩) (b:=false) hr ho ht (.inr ⟨id,by rw[hx',hm],rfl⟩) hk
 ·cases e
theorem Vw{m:Nat}{o:Oper}{t e:TypeId}{x hi mx:Operand}{lo:Option Operand}(ho:o.op=.slice t x lo (some hi) (some mx))(ht:P.underlying t=some (.slice e))(hk2:fv P e=true)
 (e1:Er (P.cellsOf e) (ak fr x) (lo.map (ak fr)) (ak fr hi) (ak fr mx)=some (v,oh)) (hk:K v (oh.getD h)):nL P m h o fr K:=by
 intro fr' base ι S a w hs hr;have hx':ak fr' x=ak fr x:=hs x (by rw[ho];simp[Op.operands]);have hh':ak fr' hi=ak fr hi:=hs hi (by rw[ho];simp[Op.operands]);have hm':ak fr' mx=ak fr mx:=hs mx (by rw[ho];simp[Op.operands]);have hl':lo.map (ak fr')=lo.map (ak fr):=by
  cases lo with
  | none=>rfl
  | some y=>simp only[acV];rw[hs y (by rw[ho];simp[Op.operands])]
 unfold Er at e1;split at e1
 ·rename_i p kh q km mm h1 h2 h3;have h1:=tD h1;split at e1
  ·rename_i g1 g2;have g1:=nO g1;have g2:=nO g2;split at e1
   ·rename_i sz rows hu;split at e1
    ·simp only[ON,aaZ]at e1;obtain⟨rfl,rfl⟩:=e1;have q0:q=0:=by omega
     have p0:p=0:=by omega
     subst q0;subst p0;exact Ql (st:=⟨m,fr',h⟩) hr ho ht hk2 (.inr ⟨sz,rows,by rw[hx',hu]⟩) (by rw[hl'];exact h1) (by rw[hh',h2];rfl) (by rw[hm',h3];rfl) hk
    ·rename_i m' _;split at e1
     ·rename_i g3 g4;simp only[ON,aaZ]at e1;obtain⟨rfl,rfl⟩:=e1;have g4:=nO g4;rw[eX]at g4;rw[jU,rH]at hk;exact Uo (st:=⟨m,fr',h⟩) (p:=(p:Int)) (q:=(q:Int)) (m:=((m'+1:Nat):Int)) hr ho ht hk2 (by rw[hx',hu]) (by rw[hl'];exact h1) (by rw[hh',h2];rfl) (by rw[hm',h3];rfl) (nE g3) (by omega) (by omega) (by omega) (by omega) (by simpa using hk)
     ·cases e1
   ·rename_i hu;split at e1
    ·simp only[ON,aaZ]at e1;obtain⟨rfl,rfl⟩:=e1;have q0:q=0:=by omega
     have p0:p=0:=by omega
     subst q0;subst p0;exact Ql (st:=⟨m,fr',h⟩) hr ho ht hk2 (.inl (by rw[hx',hu])) (by rw[hl'];exact h1) (by rw[hh',h2];rfl) (by rw[hm',h3];rfl) hk
    ·cases e1
   ·cases e1
  ·cases e1
 ·cases e1
omit [Laid] in
theorem OS{n:Nat}{x hi mx:AV}{lo:Option AV}{v:AV}{oh:Option aa}(e:Er n x lo hi mx=some (v,oh)):oh=none:=by
 unfold Er at e;split at e
 ·split at e
  ·split at e
   ·split at e
    ·cases e;rfl
    ·split at e
     ·cases e;rfl
     ·cases e
   ·split at e
    ·cases e;rfl
    ·cases e
   ·cases e
  ·cases e
 ·cases e
theorem Ry{n:Nat}{o:Oper}{c:Call}{t tx e:TypeId}{x y:Operand}{z:AV}{q:IntKind}(ho:o.op=.call c)(hc:c.callee=.builtin .append)(hat:c.argTypes.toList=[t,tx])(hax:c.args.toList=[x,y])(ht:P.underlying t=some (.slice e))(htx:P.underlying tx=some (.int q))
 (hz:gn P e=some z) (hok:(nI P e&&decide (0<P.cellsOf e))=true) (e1:GK e (P.cellsOf e) (ir P e) z (ak fr x) (ak fr y) h=some (v,oh)) (hk:K v (oh.getD h)):nL P n h o fr K:=by
 intro fr' base ι S a w hs hr;simp only[On,OF]at hok;have mem:∀y'∈[x,y],ak fr' y'=ak fr y':=fun y' hy=>hs y' (by rw[ho];simp only[Op.operands,Call.operands];exact Array.mem_append_right _ (by rw[←hax]at hy;simpa using hy));have hx':ak fr' x=ak fr x:=mem x (by simp);have hy':ak fr' y=ak fr y:=mem y (by simp);unfold GK at e1;split at e1
 ·rename_i k i hx hy;split at e1
  ·rename_i g1 g2;simp only[eX,jK,ON,aaZ]at e1;obtain⟨rfl,rfl⟩:=e1;unfold xz at g2;split at g2
   ·rename_i g3 g4;exact aaB (st:=⟨n,fr',h⟩) hr ho hc hat hax ht htx hz hok.1 hok.2 (by rw[hx',hx]) (by rw[hy',hy];rfl) (nO g1) (nO g3) (nO g4) hk
   ·cases g2
  ·cases e1
 ·cases e1
omit [Laid] in
theorem nf{v:AV}{oh:Option aa}(e:eR call .bad T h=some (v,oh)):False:=by simp[eR]at e
theorem Vu{n:Nat}{o:Oper}(hc:dZ P call)(hf:∀x,bG T (cO x)=ak fr x)(e:eR call (yr P own o.op) T h=some (v,oh))(hk:K v (oh.getD h)):nL P n h o fr K:=by
 have ho':∀r:Option Operand,(r.map cO).map (bG T)=r.map (ak fr):=fun r=>by cases r<;>simp[hf]
 generalize hop:o.op=op at e;have dflt:eR call (xR P own op) T h=some (v,oh)→nL P n h o fr K:=fun e=>Zf (own:=own) hc hf (by rw[hop];exact e) hk;unfold yr at e;split at e
 ·rename_i t r;split at e
  ·simp only[eR,Option.map_none]at e;exact Kx hop (.inl rfl) e hk
  ·rename_i x;split at e
   ·rename_i kt et ht;simp only[eR,acV,hf]at e;exact Kx hop (.inr ⟨_,_,ht⟩) e hk
   ·exact (nf e).elim
 ·split at e
  ·rename_i ht;split at e
   ·rename_i hd;simp only[eR,hf]at e;exact Kw (.inl hop) ht hd e hk
   ·exact (nf e).elim
  ·exact (nf e).elim
 ·split at e
  ·rename_i ht;split at e
   ·rename_i hd;simp only[eR,hf]at e;exact Kw (.inr hop) ht hd e hk
   ·exact (nf e).elim
  ·exact (nf e).elim
 ·split at e
  ·rename_i ht;split at e
   ·rename_i hd hz;simp only[eR,hf]at e;exact Vp hop ht hd hz e hk
   ·exact (nf e).elim
  ·exact (nf e).elim
 ·rename_i c;split at e
  ·rename_i hcal;split at e
   ·rename_i t tx x y hat hax;split at e
    ·rename_i ht htx;split at e
     ·rename_i hz hok;simp only[eR,hf]at e;exact Ry hop hcal hat hax ht htx hz hok e hk
     ·exact (nf e).elim
    ·rename_i el el2 ht htx;split at e
     ·rename_i hz;simp only[eR,hf]at e;have nothing:∀{sz':Nat},vp h sz' (ak fr y)=some []→((∃i j k l,ak fr x=.own i j k l)∨qG (ak fr x)=.emp)→K (ak fr x) h→nL P n h o fr K:=by
       intro sz' hsrc hx hk;intro fr' base ι S a w hs hr;have mem:∀y'∈[x,y],ak fr' y'=ak fr y':=fun y' hy=>hs y' (by rw[hop];simp only[Op.operands,Call.operands];exact Array.mem_append_right _ (by rw[←hax]at hy;simpa using hy));have hx':ak fr' x=ak fr x:=mem x (by simp);have hy':ak fr' y=ak fr y:=mem y (by simp);exact aaz (st:=⟨n,fr',h⟩) (sz':=sz') hr hop hcal hat hax ht htx hz (by rw[hx'];exact hx) (by show jo h _ (ak fr' y)=_;rw[hy'];exact Fg hsrc) (by show K (ak fr' x) h;rw[hx'];exact hk)
      have other:∀src,src=vp h (P.cellsOf el) (ak fr y)→jg (o6 own el (P.cellsOf el) (ir P el) (ak fr x) src h)=some (v,oh)→nL P n h o fr K:=by
       rintro src rfl e;refine dflt ?_;simp only[xR,hcal,hat,hax,ht,htx,hz,eR,hf];exact e
      unfold ME at e;split at e
      ·rename_i hsrc;split at e
       ·rename_i i j k l hx;simp only[ON,aaZ]at e;obtain⟨rfl,rfl⟩:=e;exact nothing hsrc (.inl ⟨_,_,_,_,hx⟩) (by rw[hx];exact hk)
       ·split at e
        ·rename_i hx;simp only[ON,aaZ]at e;obtain⟨rfl,rfl⟩:=e;exact nothing hsrc (.inr hx) hk
        ·exact other _ hsrc.symm e
      ·exact other _ rfl e
     ·exact (nf e).elim
    ·exact dflt e
   ·exact dflt e
  ·exact dflt e
 ·split at e
  ·rename_i ht;split at e
   ·rename_i hok;simp only[eR,hf,ho']at e;exact Vw hop ht hok e hk
   ·exact (nf e).elim
  ·exact (nf e).elim
 ·rename_i bop t x y yt;split at e
  ·rename_i ht;split at e
   ·simp only[eR,hf]at e;exact Kz (neg:=false) hop ht e hk
   ·simp only[eR,hf]at e;exact Kz (neg:=true) hop ht e hk
   ·exact (nf e).elim
  ·exact dflt e
 ·exact dflt e
end
abbrev Out:=AV×aa
inductive RGd where
 | all
 | when (p:Pa) (w:Bool)
 | bad
inductive RG where
 | mk (d:Option Pa) (g:RGd) (o:yi)
def RG.d(g:RG):Option Pa:=match g with|.mk d _ _=>d
def G5(n:Nat)(d:Option Tmp):Bool:=match d with|some t=>Nat.ble (t+1) n|none=>true
def cG(P:Program)(own:Bool)(n:Nat)(ops:Array Oper)(o:Oper):RG:=
 .mk (o.dst.map iu)
  (match G5 n o.dst,o.guard with
  | false,_=>.bad
  | true,none=>.all
  | true,some (j,w)=>(match eK ops j with|some d=>.when (iu d) w|none=>.bad))
  (yr P own o.op)
inductive FB where
 | mk (f:aZ→Tr→aa→Option (AV×Option aa))
def FB.go(b:FB):aZ→Tr→aa→Option (AV×Option aa):=FB.casesOn (motive:=fun _=>aZ→Tr→aa→Option (AV×Option aa)) b (fun f=>f)
def aeP(k:IntKind)(a b:Int):Option AV:=CA k (a+b)
def ae1(k:IntKind)(a b:Int):Option AV:=CA k (a-b)
def aeW(k:IntKind)(a b:Int):Option AV:=CA k (a*b)
def aeZ(k:IntKind)(a b:Int):Option AV:=match It b with|false=>some (.v (.int k (xL k (a.tdiv b))))|true=>none
def ae0(k:IntKind)(a b:Int):Option AV:=match It b with|false=>some (.v (.int k (a.tmod b)))|true=>none
def abL(k:IntKind)(a b:Int):Option AV:=some (.v (.int k (fk .and k a b)))
def aeY(k:IntKind)(a b:Int):Option AV:=some (.v (.int k (fk .or k a b)))
def abS(k:IntKind)(a b:Int):Option AV:=some (.v (.int k (fk .xor k a b)))
def R9(k:IntKind)(a b:Int):Option AV:=some (.v (.int k (fk .andNot k a b)))
def abM(_:IntKind)(a b:Int):Option AV:=some (b_ (FP a b))
def abR(_:IntKind)(a b:Int):Option AV:=some (b_ (!FP a b))
def abQ(_:IntKind)(a b:Int):Option AV:=some (b_ (tW a b))
def abP(_:IntKind)(a b:Int):Option AV:=some (b_ (!tW b a))
def abO(_:IntKind)(a b:Int):Option AV:=some (b_ (tW b a))
def abN(_:IntKind)(a b:Int):Option AV:=some (b_ (!tW a b))
def aeX(_:IntKind)(_ _:Int):Option AV:=none
inductive IB where
 | mk (f:IntKind→Int→Int→Option AV)
def IB.go(b:IB):IntKind→Int→Int→Option AV:=IB.casesOn (motive:=fun _=>IntKind→Int→Int→Option AV) b (fun f=>f)
def ZY(op:BinOp):IB:=
 match jQ op with
 | true=>.mk (yF op)
 | false=>match op with
   | .add=>.mk aeP|.sub=>.mk ae1|.mul=>.mk aeW|.quo=>.mk aeZ|.rem=>.mk ae0
   | .and=>.mk abL|.or=>.mk aeY|.xor=>.mk abS|.andNot=>.mk R9
   | .eql=>.mk abM|.neq=>.mk abR|.lss=>.mk abQ|.leq=>.mk abP|.gtr=>.mk abO|.geq=>.mk abN
   | _=>.mk aeX
def ZZ(op:BinOp)(k k':IntKind)(a b:Int):Option AV:=match jQ op with
 | true=>(ZY op).go k a b
 | false=>(match CR k k' with|true=>(ZY op).go k a b|false=>none)
omit [Laid] in
theorem V2(op:BinOp)(k k':IntKind)(a b:Int):ZZ op k k' a b=(match jQ op with|true=>yF op k a b|false=>(match CR k k' with|true=>MN op k a b|false=>none)):=by
 cases op<;>rfl
def MG(op:BinOp)(x y:AV):Option AV:=
 match x with
 | .v (.int k a)=>(match y with
   | .v (.int k' b)=>ZZ op k k' a b
   | _=>none)
 | .str a=>(match y with|.str b=>MX op a b|_=>none)
 | _=>none
omit [Laid] in
theorem RA(op:BinOp)(x y:AV):MG op x y=HX op x y:=by
 have h:∀k a,MG op (.v (.int k a)) y=HX op (.v (.int k a)) y:=by
  intro k a;cases y with
  | v b=>cases b with
    | int k' b=>exact V2 _ _ _ _ _
    | _=>rfl
  | _=>rfl
 cases x with
 | v a=>cases a with
   | int k a=>exact h k a
   | _=>rfl
 | str a=>cases y<;>rfl
 | _=>rfl
def ZD(x:RO)(_:aZ)(T:Tr)(_:aa):Option (AV×Option aa):=some (bG T x,none)
def ZE(c:RO)(a:RO)(b:RO)(_:aZ)(T:Tr)(_:aa):Option (AV×Option aa):=same (GY (bG T c) (bG T a) (bG T b))
def abr(op:BinOp)(x:RO)(y:RO)(_:aZ)(T:Tr)(_:aa):Option (AV×Option aa):=same (MG op (bG T x) (bG T y))
def Zn(op:BinOp)(x:RO)(y:RO)(_:aZ)(T:Tr)(_:aa):Option (AV×Option aa):=same (GL op (bG T x) (bG T y))
def abu(neg:Bool)(ks:List Nat)(x:RO)(y:RO)(_:aZ)(T:Tr)(_:aa):Option (AV×Option aa):=same (MH neg ks (bG T x) (bG T y))
def abF(x:RO)(_:aZ)(T:Tr)(_:aa):Option (AV×Option aa):=same (MT (bG T x))
def abC(x:RO)(_:aZ)(T:Tr)(_:aa):Option (AV×Option aa):=same (MS (bG T x))
def Zp(k:IntKind)(x:RO)(_:aZ)(T:Tr)(_:aa):Option (AV×Option aa):=same (GM k (bG T x))
def ZF(x:RO)(_:aZ)(T:Tr)(_:aa):Option (AV×Option aa):=same (GZ (bG T x))
def O2(e:Nat)(x:RO)(_:aZ)(T:Tr)(h:aa):Option (AV×Option aa):=jg (wT e (bG T x) h)
def O1(x:RO)(_:aZ)(T:Tr)(h:aa):Option (AV×Option aa):=same (wS (bG T x) h)
def Zq(x:RO)(i:Nat)(_:aZ)(T:Tr)(_:aa):Option (AV×Option aa):=same (GN i (bG T x))
def abw(g:Bool)(off:Nat)(n:Nat)(x:RO)(_:aZ)(T:Tr)(_:aa):Option (AV×Option aa):=same (MJ g off n (bG T x))
def Zv(x:RO)(i:RO)(_:aZ)(T:Tr)(_:aa):Option (AV×Option aa):=same (GS (bG T x) (bG T i))
def Zs(g:Bool)(sz:Nat)(len:Nat)(x:RO)(i:RO)(_:aZ)(T:Tr)(_:aa):Option (AV×Option aa):=same (GP g sz len (bG T x) (bG T i))
def abI(x:RO)(lo:Option RO)(hi:Option RO)(_:aZ)(T:Tr)(_:aa):Option (AV×Option aa):=same (MW (bG T x) (lo.map (bG T)) (hi.map (bG T)))
def aeO(n:Nat)(x:RO)(lo:Option RO)(hi:Option RO)(_:aZ)(T:Tr)(_:aa):Option (AV×Option aa):=same (TQ n (bG T x) (lo.map (bG T)) (hi.map (bG T)))
def abH(n:Nat)(sz:Nat)(x:RO)(lo:Option RO)(hi:Option RO)(_:aZ)(T:Tr)(h:aa):Option (AV×Option aa):=same (MV n sz (bG T x) (lo.map (bG T)) (hi.map (bG T)) h)
def Zt(m:Nat)(x:RO)(i:RO)(_:aZ)(T:Tr)(_:aa):Option (AV×Option aa):=same (GQ m (bG T x) (bG T i))
def Zu(len:Nat)(sz:Nat)(x:RO)(i:RO)(_:aZ)(T:Tr)(_:aa):Option (AV×Option aa):=same (GR len sz (bG T x) (bG T i))
def abv(off:Nat)(x:RO)(_:aZ)(T:Tr)(_:aa):Option (AV×Option aa):=same (MI off (bG T x))
def abE(row:String→TypeId→Bool)(x:RO)(_:aZ)(T:Tr)(_:aa):Option (AV×Option aa):=same (GX row (bG T x))
def abB(t:TypeId)(x:RO)(_:aZ)(T:Tr)(_:aa):Option (AV×Option aa):=some (.jI t (bG T x),none)
def abp(has:TypeId→Bool)(x:RO)(_:aZ)(T:Tr)(_:aa):Option (AV×Option aa):=same (MF has (bG T x))
def abx(_x0:Bool)(row:TypeId→Option FuncId)(x:RO)(args:List RO)(call:aZ)(T:Tr)(h:aa):Option (AV×Option aa):=(match bG T x with
 | .jI t v=>(match row t with|some f=>call f (v:: args.map (bG T)) h|none=>none)
 | _=>none)
def Zx(g:Bool)(sz:Nat)(x:RO)(_:aZ)(T:Tr)(h:aa):Option (AV×Option aa):=same (Cx g sz (bG T x) h)
def VJ(sz:Nat)(x:RO)(v:RO)(_:aZ)(T:Tr)(h:aa):Option (AV×Option aa):=(match Cz sz (bG T x) (bG T v) h with|some h' => some (.v undef,some h')|none=>none)
def abD(t:Nat)(z:AV)(_:aZ)(_:Tr)(h:aa):Option (AV×Option aa):=jg (eNew t z h)
def abt(t:Nat)(x:RO)(_:aZ)(T:Tr)(h:aa):Option (AV×Option aa):=jg (eNew t (bG T x) h)
def VG(z:AV)(ps:List (Nat×Nat×RO))(_:aZ)(T:Tr)(_:aa):Option (AV×Option aa):=same (Cw z (yJ T ps))
def ZC(t:Nat)(len:Nat)(sz:Nat)(z:AV)(ps:List (Nat×Nat×RO))(_:aZ)(T:Tr)(h:aa):Option (AV×Option aa):=jg (GW t len sz z (yJ T ps) h)
def VI(len:Nat)(sz:Nat)(z:AV)(ps:List (Nat×Nat×RO))(_:aZ)(T:Tr)(_:aa):Option (AV×Option aa):=same (Cy len sz z (yJ T ps))
def ZA(e:Nat)(sz:Nat)(bytes:Nat)(z:AV)(l:RO)(c:RO)(_:aZ)(T:Tr)(h:aa):Option (AV×Option aa):=jg (GV e sz bytes z (bG T l) (bG T c) h)
def Zr(f:Fn)(xs:List RO)(ys:List RO)(_:aZ)(T:Tr)(_:aa):Option (AV×Option aa):=some (.fn f (xs.map (bG T)) (ys.map (bG T)),none)
def Zw(x:RO)(_:aZ)(T:Tr)(_:aa):Option (AV×Option aa):=same (GU (bG T x))
def aby(x:RO)(_:aZ)(T:Tr)(_:aa):Option (AV×Option aa):=same (MO (bG T x))
def abA(x:RO)(y:RO)(_:aZ)(T:Tr)(_:aa):Option (AV×Option aa):=same (MR (bG T x) (bG T y))
def ZB(x:RO)(y:RO)(z:RO)(_:aZ)(T:Tr)(_:aa):Option (AV×Option aa):=same (match yE (bG T x) (bG T y) with|some u=>yE u (bG T z)|none=>none)
def abz(x:RO)(y:RO)(_:aZ)(T:Tr)(_:aa):Option (AV×Option aa):=same (yE (bG T x) (bG T y))
def abo(own:Bool)(e:Nat)(sz:Nat)(bytes:Nat)(x:RO)(y:RO)(_:aZ)(T:Tr)(h:aa):Option (AV×Option aa):=jg (o6 own e sz bytes (bG T x) (vp h sz (bG T y)) h)
def Zl(own:Bool)(e:Nat)(bytes:Nat)(x:RO)(y:RO)(_:aZ)(T:Tr)(h:aa):Option (AV×Option aa):=jg (o6 own e 1 bytes (bG T x) (BR (bG T y)) h)
def RX(neg:Bool)(x:RO)(_:aZ)(T:Tr)(_:aa):Option (AV×Option aa):=(match uU (bG T x) with|some b=>some (b_ (kQ neg b),none)|none=>none)
def RZ(neg:Bool)(x:RO)(_:aZ)(T:Tr)(_:aa):Option (AV×Option aa):=(match xp (bG T x) with|some b=>some (b_ (kQ neg b),none)|none=>none)
def R0(neg:Bool)(x:RO)(_:aZ)(T:Tr)(_:aa):Option (AV×Option aa):=(match xq (bG T x) with|some b=>some (b_ (kQ neg b),none)|none=>none)
def Zo(_x0:Bool)(x:RO)(args:List RO)(call:aZ)(T:Tr)(h:aa):Option (AV×Option aa):=(match bG T x with
 | .fn (.func f) a b=>call f (a++args.map (bG T)++b) h
 | _=>none)
def VH(r:Option RO)(_:aZ)(T:Tr)(h:aa):Option (AV×Option aa):=HZ (r.map (bG T)) h
def Zz(d:TypeDesc)(m k x:RO)(_:aZ)(T:Tr)(h:aa):Option (AV×Option aa):=MQ d (bG T m) (bG T k) (bG T x) h
def Zy(d:TypeDesc)(ok:Bool)(z:AV)(m k:RO)(_:aZ)(T:Tr)(h:aa):Option (AV×Option aa):=MP d ok z (bG T m) (bG T k) h
def RY(neg:Bool)(x:RO)(_:aZ)(T:Tr)(_:aa):Option (AV×Option aa):=H0 neg (bG T x)
def abG(n:Nat)(x:RO)(lo:Option RO)(hi mx:RO)(_:aZ)(T:Tr)(_:aa):Option (AV×Option aa):=Er n (bG T x) (lo.map (bG T)) (bG T hi) (bG T mx)
def Zm(e sz bytes:Nat)(z:AV)(x y:RO)(_:aZ)(T:Tr)(h:aa):Option (AV×Option aa):=GK e sz bytes z (bG T x) (bG T y) h
def Zk(own:Bool)(e sz bytes:Nat)(x y:RO)(_:aZ)(T:Tr)(h:aa):Option (AV×Option aa):=ME own e sz bytes (bG T x) (vp h sz (bG T y)) h
def abq  (_:aZ) (_:Tr) (_:aa):Option (AV×Option aa):=none
def toFB(o:yi):FB:=
 match o with
 | .move x=>.mk (ZD x)
 | .pick c a b=>.mk (ZE c a b)
 | .bin op x y=>.mk (abr op x y)
 | .QS op x y=>.mk (Zn op x y)
 | .TT neg ks x y=>.mk (abu neg ks x y)
 | .not x=>.mk (abF x)
 | .neg x=>.mk (abC x)
 | .conv k x=>.mk (Zp k x)
 | .S9 x=>.mk (ZF x)
 | .toBytes e x=>.mk (O2 e x)
 | .ofBytes x=>.mk (O1 x)
 | .RW x i=>.mk (Zq x i)
 | .KG g off n x=>.mk (abw g off n x)
 | .Sf x i=>.mk (Zv x i)
 | .Sc g sz len x i=>.mk (Zs g sz len x i)
 | .slS x lo hi=>.mk (abI x lo hi)
 | .sl n x lo hi=>.mk (aeO n x lo hi)
 | .Uq n sz x lo hi=>.mk (abH n sz x lo hi)
 | .Sd m x i=>.mk (Zt m x i)
 | .Se len sz x i=>.mk (Zu len sz x i)
 | .ZG off x=>.mk (abv off x)
 | .nil row x=>.mk (abE row x)
 | .Z3 t x=>.mk (abB t x)
 | .YY has x=>.mk (abp has x)
 | .inv x0 row x args=>.mk (abx x0 row x args)
 | .load g sz x=>.mk (Zx g sz x)
 | .store sz x v=>.mk (VJ sz x v)
 | .new t z=>.mk (abD t z)
 | .box t x=>.mk (abt t x)
 | .build z ps=>.mk (VG z ps)
 | .IU t len sz z ps=>.mk (ZC t len sz z ps)
 | .Nk len sz z ps=>.mk (VI len sz z ps)
 | .make e sz bytes z l c=>.mk (ZA e sz bytes z l c)
 | .func f xs ys=>.mk (Zr f xs ys)
 | .Sl x=>.mk (Zw x)
 | .len x=>.mk (aby x)
 | .min x y=>.mk (abA x y)
 | .max x y=>.mk (abz x y)
 | .Sv x y z=>.mk (ZB x y z)
 | .app own e sz bytes x y=>.mk (abo own e sz bytes x y)
 | .Hz own e bytes x y=>.mk (Zl own e bytes x y)
 | .Ip neg x=>.mk (RX neg x)
 | .Iq neg x=>.mk (RZ neg x)
 | .Ir neg x=>.mk (R0 neg x)
 | .call x0 x args=>.mk (Zo x0 x args)
 | .mkMap r=>.mk (VH r)
 | .EW d m k x=>.mk (Zz d m k x)
 | .look d ok z m k=>.mk (Zy d ok z m k)
 | .CP neg x=>.mk (RY neg x)
 | .sl3 n x lo hi mx=>.mk (abG n x lo hi mx)
 | .HA e sz bytes z x y=>.mk (Zm e sz bytes z x y)
 | .Hy own e sz bytes x y=>.mk (Zk own e sz bytes x y)
 | .bad=>.mk (abq)
omit [Laid] in
theorem toFB_go(call:aZ)(o:yi)(T:Tr)(h:aa):(toFB o).go call T h=eR call o T h:=by
 cases o with
 | bin op x y=>exact congrArg same (RA op _ _)
 | _=>rfl
def H9(p:Pa)(w:Bool)(b:FB)(call:aZ)(T:Tr)(h:aa):Option (AV×Option aa):=match jd p T with
 | .v (.bool b')=>(match b',w with
   | true,true=>b.go call T h
   | false,false=>b.go call T h
   | _,_=>some (.v undef,none))
 | .v (.tuple x)=>(match x.toList with|[]=>some (.v undef,none)|_=>none)
 | _=>none
def aeN(_:aZ)(_:Tr)(_:aa):Option (AV×Option aa):=none
def gFB(g:RG):FB:=
 match g with
 | .mk _ gd o=>match gd with
   | .all=>toFB o
   | .when p w=>.mk (H9 p w (toFB o))
   | .bad=>.mk aeN
def eG(call:aZ)(g:RG)(T:Tr)(h:aa):Option (AV×Option aa):=(gFB g).go call T h
def OM(call:aZ)(g:RG)(T:Tr)(h:aa):Option (AV×Option aa):=
 match g with
 | .mk _ gd o=>match gd with
   | .all=>eR call o T h
   | .when p w=>(match jd p T with
     | .v (.bool b)=>(match b,w with
       | true,true=>eR call o T h
       | false,false=>eR call o T h
       | _,_=>some (.v undef,none))
     | .v (.tuple x)=>(match x.toList with|[]=>some (.v undef,none)|_=>none)
     | _=>none)
   | .bad=>none
omit [Laid] in
theorem ML(call:aZ)(g:RG)(T:Tr)(h:aa):eG call g T h=OM call g T h:=by
 unfold eG OM gFB;split;split
 ·exact toFB_go call _ T h
 ·show H9 _ _ _ call T h=_;unfold H9;simp only[toFB_go]
 ·rfl
section
variable {P:Program} {call:aZ} {own:Bool} {n:Nat} {ops:Array Oper} {o:Oper} {T:Tr} {h:aa} {v:AV} {oh:Option aa} {fr:Fr}
theorem MM(hc:dZ P call)(hf:Fits fr T)(e:eG call (cG P own n ops o) T h=some (v,oh)):YO P ops n h (oh.getD h) o v fr∧∀d:Nat,o.dst=some d→d<n:=by
 unfold cG at e;simp only[ML,OM]at e;have run:eR call (yr P own o.op) T h=some (v,oh)→nL P n h o fr fun v' h' => v'=v∧h'=oh.getD h:=fun e=>Vu (own:=own) hc (OX hf) e ⟨rfl,rfl⟩;have fd:G5 n o.dst=true→∀d:Nat,o.dst=some d→d<n:=fun q d hd=>by
  rw[hd]at q;simp only[G5,acK]at q;omega
 cases hfd:G5 n o.dst with
 | false=>rw[hfd]at e;simp at e
 | true =>
   rw[hfd]at e;refine⟨?_,fd hfd⟩;cases hg:o.guard with
   | none=>rw[hg]at e;simp only at e;exact .inl ⟨by simp[ib,hg],run e⟩
   | some jw =>
     obtain⟨j,w⟩:=jw;rw[hg]at e;simp only at e;cases hd:eK ops j with
     | none=>rw[hd]at e;simp at e
     | some d =>
       rw[hd]at e;simp only at e;have hgd:=hf d;split at e
       ·rename_i b hb;rw[hb]at hgd;cases b<;>cases w<;>simp only at e
        ·exact .inl ⟨by simp[ib,hg,hd,hgd],run e⟩
        ·cases e;exact .inr ⟨by simp[ib,hg,hd,hgd],rfl,rfl⟩
        ·cases e;exact .inr ⟨by simp[ib,hg,hd,hgd],rfl,rfl⟩
        ·exact .inl ⟨by simp[ib,hg,hd,hgd],run e⟩
       ·rename_i x hb;rw[hb]at hgd;split at e
        ·rename_i hx;cases e;have hx:x=#[]:=by cases x;simp at hx;rw[hx]
         exact .inr ⟨by simp[ib,hg,hd,hgd,hx],rfl,rfl⟩
        ·cases e
       ·cases e
omit [Laid] in
theorem Fits.set{d:Option Tmp}{x:AV}(hf:Fits fr T)(hd:∀t:Nat,d=some t→t<n):Fits (cJ n fr d x) (jX (d.map iu) x T):=by
 cases d with
 | none=>exact hf
 | some t =>
   simp only[cJ,hd t rfl,if_true,acV,jX];exact hf.put t x
end
/-! ### Operations in a row -/
def pd(call:aZ)(l:List RG):Tr→aa→(Tr→aa→Option Out)→Option Out:=
 List.rec (motive:=fun _=>Tr→aa→(Tr→aa→Option Out)→Option Out) (fun T h k=>k T h)
  (fun g _ ih T h k=>match eG call g T h with
   | some (v,none)=>ih (jX g.d v T) h k
   | some (v,some h')=>ih (jX g.d v T) h' k
   | none=>none) l
def Kc(P:Program)(own:Nat→Bool)(n:Nat)(ops:Array Oper):Nat→List Oper→List RG
 | _,[]=>[]
 | i,o:: r=>cG P (own i) n ops o:: Kc P own n ops (i+1) r
def GF(n:Nat)(q:Exit→Tr→aa→Option Out)(r:Out):Exit→St→Prop:=fun e st' => st'.n=n∧∃T',Fits st'.fr T'∧q e T' st'.h=some r
section
variable {P:Program} {call:aZ} {own:Nat→Bool} {n:Nat} {ops:Array Oper} {m:Nat} {r:Out}
theorem Gl(hc:dZ P call){k:Tr→aa→Option Out}{Q:Exit→St→Prop}(hQ:∀st' T',st'.n=n→Fits st'.fr T'→k T' st'.h=some r→Q .normal st'):∀(l:List Oper) (i:Nat) (base:Nat) (ι:List Ix) (S:ba) (a:Act) (w:World) (fr:Fr) (h:aa) (T:Tr),
 (∀j,j<l.length→ops[i+j]?=l[j]?)→m≤h.length→bN base ι S a w ⟨n,fr,h⟩→Fits fr T→pd call (Kc P own n ops i l) T h k=some r→wpOps P ops (dE m base ι S w Q) (List.range' i l.length) a w
 | [],i,base,ι,S,a,w,fr,h,T,_,hm,hr,hf,e=>⟨ι,S,⟨n,fr,h⟩,cc.refl _ _ _ _ _,hm,hr,hQ _ T rfl hf e⟩
 | o:: l,i,base,ι,S,a,w,fr,h,T,hl,hm,hr,hf,e=>by
   have h0:ops[i]?=some o:=by simpa using hl 0 (by simp)
   rw[aah,List.range'_succ,wpOps_cons];simp only[Kc,pd]at e;cases eg:eG call (cG P (own i) n ops o) T h with
   | none=>rw[eg]at e;simp at e
   | some p =>
     obtain⟨v,oh⟩:=p;obtain⟨hy,hd⟩:=MM hc hf eg;rw[eg]at e;refine hy.sound h0 hr fun ι' S' a' w' hE hlen hr' => ?_;have hf':Fits (cJ n fr o.dst v) (jX (RG.d (cG P (own i) n ops o)) v T):=hf.set hd;have key:∀h2,oh.getD h=h2→pd call (Kc P own n ops (i+1) l) (jX (RG.d (cG P (own i) n ops o)) v T) h2 k=some r→wpOps P ops (dE m base ι S w Q) (List.range' (i+1) l.length) a' w':=by
      rintro h2 rfl e2;have:=Gl hc hQ l (i+1) base ι' S' a' w' _ _ _ (fun j hj=>by have:=hl (j+1) (by simp;omega);simpa[Nat.add_assoc,Nat.add_comm 1 j]using this) (by omega) hr' hf' e2;exact oP (fun e a w z=>dE.trans (hE.mono (by rw[hr.hp.len];exact hm) (aS _)) z) _ _ _ this
     cases oh with
     | none=>exact key _ rfl e
     | some h' => exact key _ rfl e
end
/-! ### Operations in an open order -/
def HD(x y:Value):Bool:=
 match x,y with
 | .bool a,.bool b=>a == b
 | .int k a,.int k' b=>(match CR k k' with|true=>FP a b|false=>false)
 | .pointer none,.pointer none=>true
 | .nilFunc,.nilFunc=>true
 | .nilIface,.nilIface=>true
 | .slice none 0 0,.slice none 0 0=>true
 | .tuple a,.tuple b=>(match a.toList,b.toList with|[],[]=>true|_,_=>false)
 | _,_=>false
def ke(a:AV):AV→Bool:=
 AV.rec (motive_1:=fun _=>AV→Bool) (motive_2:=fun _=>List AV→Bool) (motive_3:=fun _=>List (List AV)→Bool)
  (fun x b=>match b with|.v y=>HD x y|_=>false)
  (fun l b=>match b with|.str m=>uH l m|_=>false)
  (fun b=>match b with|.any=>true|_=>false)
  (fun _ ih b=>match b with|.agg ds=>ih ds|_=>false)
  (fun _ ih b=>match b with|.aF ds=>ih ds|_=>false)
  (fun b=>match b with|.emp=>true|_=>false)
  (fun sz _ ih b=>match b with|.sl sz' rows=>(match Nat.beq sz sz' with|true=>ih rows|false=>false)|_=>false)
  (fun id sz _ ih b=>match b with|.sb id' sz' rows=>(match Nat.beq id id',Nat.beq sz sz' with|true,true=>ih rows|_,_=>false)|_=>false)
  (fun _ ih b=>match b with|.ip ds=>ih ds|_=>false)
  (fun id off len sz b=>match b with|.own id' off' len' sz' => (match Nat.beq id id',Nat.beq off off',Nat.beq len len',Nat.beq sz sz' with|true,true,true,true=>true|_,_,_,_=>false)|_=>false)
  (fun id off b=>match b with|.op id' off' => (match Nat.beq id id',Nat.beq off off' with|true,true=>true|_,_=>false)|_=>false)
  (fun f _ _ ih1 ih2 b=>match b with|.fn g xs ys=>(match f,g with|.func i,.func j=>(match Nat.beq i j,ih1 xs,ih2 ys with|true,true,true=>true|_,_,_=>false)|_,_=>false)|_=>false)
  (fun t _ ih b=>match b with|.jI t' y=>(match Nat.beq t t' with|true=>ih y|false=>false)|_=>false)
  (fun id b=>match b with|.mp id' => Nat.beq id id' | _=>false)
  (fun b=>match b with|[]=>true|_=>false)
  (fun _ _ ih1 ih2 b=>match b with|[]=>false|y:: ys=>(match ih1 y with|true=>ih2 ys|false=>false))
  (fun b=>match b with|[]=>true|_=>false)
  (fun _ _ ih1 ih2 b=>match b with|[]=>false|y:: ys=>(match ih1 y with|true=>ih2 ys|false=>false)) a
omit [Laid] in
theorem UN{x y:Value}(h:HD x y=true):x=y:=by
 unfold HD at h;split at h
 ·simpa using h
 ·split at h
  ·rename_i e;rw[H4]at h;rw[vN e,uP h]
  ·cases h
 ·rfl
 ·rfl
 ·rfl
 ·rfl
 ·rename_i a b;cases a;cases b;split at h
  ·rename_i e1 e2;simp only at e1 e2;rw[e1,e2]
  ·cases h
 ·cases h
omit [Laid] in
theorem qS(a:AV):∀b,ke a b=true→a=b:=by
 refine AV.rec (motive_1:=fun a=>∀b,ke a b=true→a=b)
  (motive_2:=fun l=>∀m:List AV,(AV.rec_1 (motive_1:=fun _=>AV→Bool) (motive_2:=fun _=>List AV→Bool) (motive_3:=fun _=>List (List AV)→Bool) (fun x b=>match b with|.v y=>HD x y|_=>false)
  (fun l b=>match b with|.str m=>uH l m|_=>false)
  (fun b=>match b with|.any=>true|_=>false)
  (fun _ ih b=>match b with|.agg ds=>ih ds|_=>false)
  (fun _ ih b=>match b with|.aF ds=>ih ds|_=>false)
  (fun b=>match b with|.emp=>true|_=>false)
  (fun sz _ ih b=>match b with|.sl sz' rows=>(match Nat.beq sz sz' with|true=>ih rows|false=>false)|_=>false)
  (fun id sz _ ih b=>match b with|.sb id' sz' rows=>(match Nat.beq id id',Nat.beq sz sz' with|true,true=>ih rows|_,_=>false)|_=>false)
  (fun _ ih b=>match b with|.ip ds=>ih ds|_=>false)
  (fun id off len sz b=>match b with|.own id' off' len' sz' => (match Nat.beq id id',Nat.beq off off',Nat.beq len len',Nat.beq sz sz' with|true,true,true,true=>true|_,_,_,_=>false)|_=>false)
  (fun id off b=>match b with|.op id' off' => (match Nat.beq id id',Nat.beq off off' with|true,true=>true|_,_=>false)|_=>false)
  (fun f _ _ ih1 ih2 b=>match b with|.fn g xs ys=>(match f,g with|.func i,.func j=>(match Nat.beq i j,ih1 xs,ih2 ys with|true,true,true=>true|_,_,_=>false)|_,_=>false)|_=>false)
  (fun t _ ih b=>match b with|.jI t' y=>(match Nat.beq t t' with|true=>ih y|false=>false)|_=>false)
  (fun id b=>match b with|.mp id' => Nat.beq id id' | _=>false)
  (fun b=>match b with|[]=>true|_=>false)
  (fun _ _ ih1 ih2 b=>match b with|[]=>false|y:: ys=>(match ih1 y with|true=>ih2 ys|false=>false))
  (fun b=>match b with|[]=>true|_=>false)
  (fun _ _ ih1 ih2 b=>match b with|[]=>false|y:: ys=>(match ih1 y with|true=>ih2 ys|false=>false)) l m)=true→l=m)
  (motive_3:=fun l=>∀m:List (List AV),(AV.rec_2 (motive_1:=fun _=>AV→Bool) (motive_2:=fun _=>List AV→Bool) (motive_3:=fun _=>List (List AV)→Bool) (fun x b=>match b with|.v y=>HD x y|_=>false)
  (fun l b=>match b with|.str m=>uH l m|_=>false)
  (fun b=>match b with|.any=>true|_=>false)
  (fun _ ih b=>match b with|.agg ds=>ih ds|_=>false)
  (fun _ ih b=>match b with|.aF ds=>ih ds|_=>false)
  (fun b=>match b with|.emp=>true|_=>false)
  (fun sz _ ih b=>match b with|.sl sz' rows=>(match Nat.beq sz sz' with|true=>ih rows|false=>false)|_=>false)
  (fun id sz _ ih b=>match b with|.sb id' sz' rows=>(match Nat.beq id id',Nat.beq sz sz' with|true,true=>ih rows|_,_=>false)|_=>false)
  (fun _ ih b=>match b with|.ip ds=>ih ds|_=>false)
  (fun id off len sz b=>match b with|.own id' off' len' sz' => (match Nat.beq id id',Nat.beq off off',Nat.beq len len',Nat.beq sz sz' with|true,true,true,true=>true|_,_,_,_=>false)|_=>false)
  (fun id off b=>match b with|.op id' off' => (match Nat.beq id id',Nat.beq off off' with|true,true=>true|_,_=>false)|_=>false)
  (fun f _ _ ih1 ih2 b=>match b with|.fn g xs ys=>(match f,g with|.func i,.func j=>(match Nat.beq i j,ih1 xs,ih2 ys with|true,true,true=>true|_,_,_=>false)|_,_=>false)|_=>false)
  (fun t _ ih b=>match b with|.jI t' y=>(match Nat.beq t t' with|true=>ih y|false=>false)|_=>false)
  (fun id b=>match b with|.mp id' => Nat.beq id id' | _=>false)
  (fun b=>match b with|[]=>true|_=>false)
  (fun _ _ ih1 ih2 b=>match b with|[]=>false|y:: ys=>(match ih1 y with|true=>ih2 ys|false=>false))
  (fun b=>match b with|[]=>true|_=>false)
  (fun _ _ ih1 ih2 b=>match b with|[]=>false|y:: ys=>(match ih1 y with|true=>ih2 ys|false=>false)) l m)=true→l=m) ?_ ?_ ?_ ?_ ?_ ?_ ?_ ?_ ?_ ?_ ?_ ?_ ?_ ?_ ?_ ?_ ?_ ?_ a
 ·intro x b h;unfold ke at h;simp only at h;split at h
  ·rw[UN h]
  ·cases h
 ·intro l b h;unfold ke at h;simp only at h;split at h
  ·rw[r8]at h;rw[uP h]
  ·cases h
 ·intro b h;unfold ke at h;simp only at h;split at h
  ·rfl
  ·cases h
 ·intro cs ih b h;unfold ke at h;simp only at h;split at h
  ·rw[ih _ h]
  ·cases h
 ·intro cs ih b h;unfold ke at h;simp only at h;split at h
  ·rw[ih _ h]
  ·cases h
 ·intro b h;unfold ke at h;simp only at h;split at h
  ·rfl
  ·cases h
 ·intro sz rows ih b h;unfold ke at h;simp only at h;split at h
  ·split at h
   ·rename_i e;rw[ih _ h,nE e]
   ·cases h
  ·cases h
 ·intro id sz rows ih b h;unfold ke at h;simp only at h;split at h
  ·split at h
   ·rename_i e1 e2;rw[ih _ h,nE e1,nE e2]
   ·cases h
  ·cases h
 ·intro cs ih b h;unfold ke at h;simp only at h;split at h
  ·rw[ih _ h]
  ·cases h
 ·intro id off len sz b h;unfold ke at h;simp only at h;split at h
  ·split at h
   ·rename_i e1 e2 e3 e4;rw[nE e1,nE e2,nE e3,nE e4]
   ·cases h
  ·cases h
 ·intro id off b h;unfold ke at h;simp only at h;split at h
  ·split at h
   ·rename_i e1 e2;rw[nE e1,nE e2]
   ·cases h
  ·cases h
 ·intro f xs ys ih1 ih2 b h;unfold ke at h;simp only at h;split at h
  ·split at h
   ·split at h
    ·rename_i e1 e2 e3;rw[nE e1,ih1 _ e2,ih2 _ e3]
    ·cases h
   ·cases h
  ·cases h
 ·intro t x ih b h;unfold ke at h;simp only at h;split at h
  ·split at h
   ·rename_i e;rw[ih _ h,nE e]
   ·cases h
  ·cases h
 ·intro id b h;unfold ke at h;simp only at h;split at h
  ·rw[nE h]
  ·cases h
 ·intro m h;simp only at h;split at h
  ·rfl
  ·cases h
 ·intro x l ih1 ih2 m h;simp only at h;split at h
  ·cases h
  ·split at h
   ·rename_i e;rw[ih1 _ e,ih2 _ h]
   ·cases h
 ·intro m h;simp only at h;split at h
  ·rfl
  ·cases h
 ·intro x l ih1 ih2 m h;simp only at h;split at h
  ·cases h
  ·split at h
   ·rename_i e;rw[ih1 _ e,ih2 _ h]
   ·cases h
def L3(a:List (Nat×AV×AV)):List (Nat×AV×AV)→Bool:=
 List.rec (motive:=fun _=>List (Nat×AV×AV)→Bool) (fun b=>match b with|[]=>true|_=>false)
  (fun p _ ih b=>match b with|[]=>false|q:: b=>(match Nat.beq p.1 q.1,ke p.2.1 q.2.1,ke p.2.2 q.2.2 with|true,true,true=>ih b|_,_,_=>false)) a
omit [Laid] in
theorem HB:∀(a b:List (Nat×AV×AV)),L3 a b=true→a=b
 | [],[],_=>rfl
 | [],_:: _,h=>by cases h
 | _:: _,[],h=>by cases h
 | (n,k,c):: a,(n',k',c'):: b,h=>by
  have h:(match Nat.beq n n',ke k k',ke c c' with|true,true,true=>L3 a b|_,_,_=>false)=true:=h;split at h
  ·rename_i e1 e2 e3;rw[nE e1,qS _ _ e2,qS _ _ e3,HB a b h]
  ·cases h
def GI:List Nat→List Nat→Bool
 | [],[]=>true
 | a:: l,b:: m=>(match Nat.beq a b with|true=>GI l m|false=>false)
 | _,_=>false
omit [Laid] in
theorem HC:∀(a b:List Nat),GI a b=true→a=b
 | [],[],_=>rfl
 | [],_:: _,h=>by cases h
 | _:: _,[],h=>by cases h
 | a:: l,b:: m,h=>by
   rw[GI]at h;split at h
   ·rename_i e;rw[nE e,HC l m h]
   ·cases h
def Ce(x y:dh):Bool:=
 match x,y with
 | .aC a,.aC b=>(match Nat.beq a.ty b.ty,a.wr,b.wr,ke (.agg a.cells) (.agg b.cells) with|true,true,true,true=>true|_,_,_,_=>false)
 | .tok e s n,.tok e' s' n' => (match Nat.beq e e',Nat.beq s s',Nat.beq n n' with|true,true,true=>true|_,_,_=>false)
 | .dead,.dead=>true
 | .mp c es,.mp c' es' => (match Nat.beq c c' with|true=>L3 es es' | false=>false)
 | .it m s sn l,.it m' s' sn' l' => (match Nat.beq m m',Nat.beq s s',GI sn sn',Nat.beq l l' with|true,true,true,true=>true|_,_,_,_=>false)
 | _,_=>false
def L2(h:aa):aa→Bool:=List.rec (motive:=fun _=>aa→Bool) (fun g=>match g with|[]=>true|_=>false) (fun x _ ih g=>match g with|[]=>false|y:: g=>(match Ce x y with|true=>ih g|false=>false)) h
omit [Laid] in
theorem N7{x y:dh}(h:Ce x y=true):x=y:=by
 unfold Ce at h;split at h
 ·rename_i a b;split at h
  ·rename_i e1 e2 e3 e4;have e4:=qS _ _ e4;cases a;cases b;simp only at e1 e2 e3 e4;cases e4;rw[nE e1,e2,e3]
  ·cases h
 ·split at h
  ·rename_i e1 e2 e3;rw[nE e1,nE e2,nE e3]
  ·cases h
 ·rfl
 ·split at h
  ·rename_i e1;rw[nE e1,HB _ _ h]
  ·cases h
 ·split at h
  ·rename_i e1 e2 e3 e4;rw[nE e1,nE e2,HC _ _ e3,nE e4]
  ·cases h
 ·cases h
omit [Laid] in
theorem Ef:∀(h g:aa),L2 h g=true→h=g
 | [],[],_=>rfl
 | [],_:: _,h=>by cases h
 | _:: _,[],h=>by cases h
 | x:: h,y:: g,e=>by
   have e:(match Ce x y with|true=>L2 h g|false=>false)=true:=e;split at e
   ·rename_i q;rw[N7 q,Ef h g e]
   ·cases e
def eQ(call:aZ)(g:RG)(T:Tr)(h:aa):Option (AV×Option aa):=
 match eG call g T h with
 | some (v,none)=>some (v,none)
 | some (v,some h')=>(match L2 h' h with|true=>some (v,none)|false=>some (v,some h'))
 | none=>none
variable{call:aZ}
theorem MU{own:Bool}{n:Nat}{v:AV}{oh:Option aa}{fr:Fr}(hc:dZ P call)(hf:Fits fr T)(e:eQ call (cG P own n ops o) T h=some (v,oh)):YO P ops n h (oh.getD h) o v fr∧∀d:Nat,o.dst=some d→d<n:=by
 unfold eQ at e;split at e
 ·rename_i v0 hp;cases e;exact MM hc hf hp
 ·rename_i v0 h' hp;have q:=MM hc hf hp;split at e
  ·rename_i hb;cases e;have:=Ef _ _ hb;subst this;exact q
  ·cases e;exact q
 ·cases e
inductive OG where
 | mk (g:RG) (lo:Bool) (ck:List Nat)
def OG.g(o:OG):RG:=match o with|.mk g _ _=>g
def OG.lo(o:OG):Bool:=match o with|.mk _ l _=>l
def OG.ck(o:OG):List Nat:=match o with|.mk _ _ c=>c
def CL(o:yi):Bool:=
 match o with
 | .load .. | .Uq .. | .ofBytes .. | .inv .. | .call .. | .toBytes .. | .store .. | .new .. | .box .. | .IU .. | .make .. | .app .. | .Hz .. | .mkMap .. | .EW .. | .look .. | .HA .. | .Hy .. => false
 | _=>true
def vf(P:Program)(own:Nat→Bool)(ops:Array Oper)(i:Nat):Bool:=match ops[i]? with|some o=>abX (yr P (own i) o.op)|none=>false
def Y1(lo:Nat→Bool)(ms:List Nat)(N i:Nat):List Nat:=
 (List.range (cL lo (fun _=>true) N+1)).filter fun c=>!Nat.beq c (cL lo (fun _=>true) i)&&(List.range N).all fun l=>!lo l||((!uw ms i l||Nat.ble (cL lo (fun _=>true) l+1) c)&&(!uw ms l i||Nat.ble c (cL lo (fun _=>true) l)))
def Cf(P:Program)(own:Nat→Bool)(n:Nat)(ops:Array Oper)(lo:Nat→Bool)(ms:List Nat)(i:Nat)(o:Oper):OG:=
 .mk (cG P (own i) n ops o) (lo i) (match lo i,CL (yr P (own i) o.op) with|false,false=>Y1 lo ms ops.size i|_,_=>[])
def qU(P:Program)(own:Nat→Bool)(n:Nat)(ops:Array Oper)(lo:Nat→Bool)(ms:List Nat):Nat→List Oper→List OG
 | _,[]=>[]
 | i,o:: r=>Cf P own n ops lo ms i o:: qU P own n ops lo ms (i+1) r
def canon(call:aZ)(l:List OG):Tr→aa→Option (List (Tr×AV)×List aa×Tr):=
 List.rec (motive:=fun _=>Tr→aa→Option (List (Tr×AV)×List aa×Tr)) (fun T h=>some ([],[h],T))
  (fun og _ ih T h=>match eQ call og.g T h with
   | some (v,none)=>(match og.lo with
     | false=>(match ih (jX og.g.d v T) h with|some (a,b,c)=>some ((T,v):: a,b,c)|none=>none)
     | true=>(match ih (jX og.g.d v T) h with|some (a,b,c)=>some ((T,v):: a,h:: b,c)|none=>none))
   | some (v,some h')=>(match og.lo with
     | true=>(match ih (jX og.g.d v T) h' with|some (a,b,c)=>some ((T,v):: a,h:: b,c)|none=>none)
     | false=>none)
   | none=>none) l
def L6(call:aZ)(hs:List aa)(l:List OG):List (Tr×AV)→Bool:=
 List.rec (motive:=fun _=>List (Tr×AV)→Bool) (fun _=>true)
  (fun og _ ih es=>match es with
   | []=>false
   | (T,v):: es=>(match qc (fun c=>match nR hs c with
    | some hc=>(match eQ call og.g T hc with|some (v',none)=>ke v' v|_=>false)
    | none=>false) og.ck with|true=>ih es|false=>false)) l
def T2(l:List aa):Option aa:=List.rec (motive:=fun _=>Option aa→Option aa) (fun a=>a) (fun x _ ih _=>ih (some x)) l none
def tg(call:aZ)(l:List OG)(T:Tr)(h:aa)(k:Tr→aa→Option Out):Option Out:=
 match canon call l T h with
 | some (es,hs,T')=>(match L6 call hs l es,T2 hs with|true,some h' => k T' h' | _,_=>none)
 | none=>none
section
variable {P:Program} {call:aZ} {own:Nat→Bool} {n:Nat} {ops:Array Oper}
omit [Laid] in
theorem Si(l:List aa):T2 l=l.getLast?:=by
 have key:∀(l:List aa) (a:Option aa),(List.rec (motive:=fun _=>Option aa→Option aa) (fun a=>a) (fun x _ ih _=>ih (some x)) l:Option aa→Option aa) a=(match l with|[]=>a|_=>l.getLast?):=by
  intro l;induction l with
  | nil=>intro a;rfl
  | cons x l ih =>
    intro a;have:=ih (some x);cases l with
    | nil=>rfl
    | cons y l=>simpa[List.getLast?_cons_cons]using this
 have:=key l none;cases l with
 | nil=>rfl
 | cons x l=>exact this
theorem Vm{o:Oper}{ow:Bool}{T:Tr}{h h2:aa}{v:AV}(hfree:CL (yr P ow o.op)=true)(e:eQ call (cG P ow n ops o) T h=some (v,none)):eQ call (cG P ow n ops o) T h2=some (v,none):=by
 have none2:∀rop:yi,CL rop=true→∀T v h',¬eR call rop T h=some (v,some h'):=by
  intro rop hr T v h' q;cases rop<;>first|(cases hr;done)|skip
  all_goals (simp only[eR]at q)
  all_goals first|(have:=(dq q).2;cases this;done)|(cases q;done)|(split at q<;>cases q;done)|(unfold H0 at q;split at q<;>cases q;done)|(have:=OS q;cases this;done)|(unfold abm at q;split at q<;>cases q;done)
 have key:∀rop:yi,CL rop=true→eR call rop T h2=eR call rop T h:=by
  intro rop hr;cases rop<;>first|rfl|(cases hr;done)
 have key2:eG call (cG P ow n ops o) T h2=eG call (cG P ow n ops o) T h:=by
  unfold cG;simp only[ML,OM];rw[key _ hfree]
 have nh:∀v h',¬eG call (cG P ow n ops o) T h=some (v,some h'):=by
  intro v h' q;unfold cG at q;simp only[ML,OM]at q;split at q
  ·exact none2 _ hfree _ _ _ q
  ·split at q
   ·split at q
    ·exact none2 _ hfree _ _ _ q
    ·exact none2 _ hfree _ _ _ q
    ·cases q
   ·split at q<;>cases q
   ·cases q
  ·cases q
 unfold eQ at *;rw[key2];cases eg:eG call (cG P ow n ops o) T h with
 | none=>rw[eg]at e;cases e
 | some p =>
   obtain⟨v0,oh0⟩:=p;cases oh0 with
   | none=>rw[eg]at e;exact e
   | some h' => exact absurd eg (nh v0 h')
theorem L5{V:Nat→AV}{Hs:Nat→aa}{fr0:Fr}{lo:Nat→Bool}{ms:List Nat}(hc:dZ P call):∀(l:List Oper) (i:Nat) (T:Tr) (h:aa) (es:List (Tr×AV)) (hs:List aa) (T':Tr),
 canon call (qU P own n ops lo ms i l) T h=some (es,hs,T')→Fits (eW ops n V fr0 (fun _=>true) i) T→(∀j,j<l.length→ops[i+j]?=l[j]?)→(∀q e,es[q]?=some e→V (i+q)=e.2)→(∀q x,hs[q]?=some x→Hs (cL lo (fun _=>true) i+q)=x) →
 Fits (eW ops n V fr0 (fun _=>true) (i+l.length)) T'∧hs[0]?=some h∧hs.getLast?=some (Hs (cL lo (fun _=>true) (i+l.length)))∧hs.length=cL lo (fun _=>true) (i+l.length)-cL lo (fun _=>true) i+1 ∧
  ∀q,q<l.length→∃o Tq oh,ops[i+q]?=some o∧(qU P own n ops lo ms i l)[q]?=some (Cf P own n ops lo ms (i+q) o)∧es[q]?=some (Tq,V (i+q))∧Fits (eW ops n V fr0 (fun _=>true) (i+q)) Tq ∧
   eQ call (cG P (own (i+q)) n ops o) Tq (Hs (cL lo (fun _=>true) (i+q)))=some (V (i+q),oh)∧(lo (i+q)=false→oh=none)∧(lo (i+q)=true→oh.getD (Hs (cL lo (fun _=>true) (i+q)))=Hs (cL lo (fun _=>true) (i+q)+1)):=by
 intro l;induction l with
 | nil =>
   intro i T h es hs T' e hf hl hV hH;simp only[qU,canon,ON,aaZ]at e;obtain⟨rfl,rfl,rfl⟩:=e;have h0:=hH 0 h rfl;refine⟨hf,rfl,by simp only[acR,Nat.add_zero]at h0 ⊢;rw[h0];rfl,by simp,fun q hq=>by simp at hq⟩
 | cons o l ih =>
   intro i T h es hs T' e hf hl hV hH;have h0:ops[i]?=some o:=by simpa using hl 0 (by simp)
   have hl':∀j,j<l.length→ops[i+1+j]?=l[j]?:=fun j hj=>by have:=hl (j+1) (by simp;omega);simpa[Nat.add_assoc,Nat.add_comm 1 j]using this
   simp only[qU,canon]at e;cases eg:eQ call (OG.g (Cf P own n ops lo ms i o)) T h with
   | none=>rw[eg]at e;simp at e
   | some p =>
     obtain⟨v,oh⟩:=p;rw[eg]at e;have eg':eQ call (cG P (own i) n ops o) T h=some (v,oh):=eg;obtain⟨hy,hd⟩:=MU hc hf eg';have hdst:eK ops i=o.dst:=by unfold eK;rw[h0];rfl
     have fin:∀(q:List (Tr×AV)×List aa×Tr) (h2:aa),canon call (qU P own n ops lo ms (i+1) l) (jX (OG.g (Cf P own n ops lo ms i o)).d v T) h2=some q→es=(T,v):: q.1→T'=q.2.2→(lo i=false→oh=none∧h2=h∧hs=q.2.1)→(lo i=true→h2=oh.getD h∧hs=h:: q.2.1) →
      Fits (eW ops n V fr0 (fun _=>true) (i+(o:: l).length)) T'∧hs[0]?=some h∧hs.getLast?=some (Hs (cL lo (fun _=>true) (i+(o:: l).length)))∧hs.length=cL lo (fun _=>true) (i+(o:: l).length)-cL lo (fun _=>true) i+1 ∧
     ∀q,q<(o:: l).length→∃o' Tq oh,ops[i+q]?=some o'∧(qU P own n ops lo ms i (o:: l))[q]?=some (Cf P own n ops lo ms (i+q) o')∧es[q]?=some (Tq,V (i+q))∧Fits (eW ops n V fr0 (fun _=>true) (i+q)) Tq ∧
      eQ call (cG P (own (i+q)) n ops o') Tq (Hs (cL lo (fun _=>true) (i+q)))=some (V (i+q),oh)∧(lo (i+q)=false→oh=none)∧(lo (i+q)=true→oh.getD (Hs (cL lo (fun _=>true) (i+q)))=Hs (cL lo (fun _=>true) (i+q)+1)):=by
      rintro⟨es',hs',T''⟩ h2 e2 rfl rfl q0 q1;have hVi:V i=v:=hV 0 (T,v) rfl;have hf':Fits (eW ops n V fr0 (fun _=>true) (i+1)) (jX (OG.g (Cf P own n ops lo ms i o)).d v T):=by
       rw[eW];simp only;rw[hdst,hVi];exact hf.set hd
      have hlen:i+(o:: l).length=i+1+l.length:=by simp;omega
      have hmono:cL lo (fun _=>true) (i+1)≤cL lo (fun _=>true) (i+1+l.length):=uA (by omega);have hV':∀q e,es'[q]?=some e→V (i+1+q)=e.2:=fun q e he=>by rw[show i+1+q=i+(q+1) by omega];exact hV (q+1) e (by simpa using he)
      cases hlo:lo i with
      | false =>
        obtain⟨z1,z2,z3⟩:=q0 hlo;simp only at z3;subst z1 z2 z3;have hcnt:cL lo (fun _=>true) (i+1)=cL lo (fun _=>true) i:=by rw[cL,hlo];rfl
        obtain⟨r1,r2,r3,r4,r5⟩:=ih (i+1) _ _ es' hs _ e2 hf' hl' hV' (fun q x hx=>by rw[hcnt];exact hH q x hx);have hHi:Hs (cL lo (fun _=>true) i)=h2:=hH 0 h2 r2;refine⟨by rw[hlen];exact r1,r2,by rw[hlen];exact r3,by rw[hlen,←hcnt];exact r4,fun q hq=>?_⟩;cases q with
        | zero=>exact⟨o,T,none,h0,rfl,by rw[Nat.add_zero,hVi];rfl,hf,by rw[Nat.add_zero,hHi,hVi];exact eg',fun _=>rfl,fun z=>by rw[Nat.add_zero,hlo]at z;cases z⟩
        | succ q =>
          obtain⟨o',Tq,oh',s1,s2,s3⟩:=r5 q (by simp at hq;omega);rw[show i+(q+1)=i+1+q by omega];exact⟨o',Tq,oh',s1,by simpa[qU]using s2,by simpa using s3⟩
      | true =>
        obtain⟨z2,z3⟩:=q1 hlo;simp only at z3;subst z2 z3;have hcnt:cL lo (fun _=>true) (i+1)=cL lo (fun _=>true) i+1:=by rw[cL,hlo];rfl
        have hH':∀q x,hs'[q]?=some x→Hs (cL lo (fun _=>true) (i+1)+q)=x:=fun q x hx=>by
         rw[hcnt,show cL lo (fun _=>true) i+1+q=cL lo (fun _=>true) i+(q+1) by omega];exact hH (q+1) x (by simpa using hx)
        obtain⟨r1,r2,r3,r4,r5⟩:=ih (i+1) _ _ es' hs' _ e2 hf' hl' hV' hH';have hHi:Hs (cL lo (fun _=>true) i)=h:=hH 0 h rfl;have hHi1:Hs (cL lo (fun _=>true) i+1)=oh.getD h:=hH 1 _ (by simpa using r2);refine⟨by rw[hlen];exact r1,rfl, ?_, ?_,fun q hq=>?_⟩
        ·rw[hlen,←r3];cases hs' with
         | nil=>simp at r2
         | cons x hs' => rw[List.getLast?_cons_cons]
        ·rw[hlen,aah,r4];omega
        ·cases q with
         | zero =>
           refine⟨o,T,oh,h0,rfl,by rw[Nat.add_zero,hVi];rfl,hf,by rw[Nat.add_zero,hHi,hVi];exact eg',fun z=>(by rw[Nat.add_zero,hlo]at z;cases z),fun _=>?_⟩;rw[Nat.add_zero,hHi,hHi1]
         | succ q =>
           obtain⟨o',Tq,oh',s1,s2,s3⟩:=r5 q (by simp at hq;omega);rw[show i+(q+1)=i+1+q by omega];exact⟨o',Tq,oh',s1,by simpa[qU]using s2,by simpa using s3⟩
     have hlo':OG.lo (Cf P own n ops lo ms i o)=lo i:=rfl;cases oh with
     | none =>
       simp only[hlo']at e;cases hlo:lo i with
       | false =>
         rw[hlo]at e;simp only at e;split at e
         ·rename_i hq;cases e;exact fin (_,_,_) h hq rfl rfl (fun _=>⟨rfl,rfl,rfl⟩) (fun z=>by rw[hlo]at z;cases z)
         ·cases e
       | true =>
         rw[hlo]at e;simp only at e;split at e
         ·rename_i hq;cases e;exact fin (_,_,_) h hq rfl rfl (fun z=>by rw[hlo]at z;cases z) (fun _=>⟨rfl,rfl⟩)
         ·cases e
     | some h' =>
       simp only[hlo']at e;cases hlo:lo i with
       | false=>rw[hlo]at e;simp at e
       | true =>
         rw[hlo]at e;simp only at e;split at e
         ·rename_i hq;cases e;exact fin (_,_,_) h' hq rfl rfl (fun z=>by rw[hlo]at z;cases z) (fun _=>⟨rfl,rfl⟩)
         ·cases e
omit [Laid] in
theorem Ch{hs:List aa}:∀(l:List OG) (es:List (Tr×AV)),L6 call hs l es=true→∀(q:Nat) (og:OG) (e:Tr×AV),l[q]?=some og→es[q]?=some e→∀c∈og.ck,∃hc,hs[c]?=some hc∧eQ call og.g e.1 hc=some (e.2,none)
 | [],es,_,q,og,e,hl,_,_,_=>by simp at hl
 | x:: l,[],h,q,og,e,_,he,_,_=>by simp at he
 | x:: l,(T,v):: es,h,q,og,e,hl,he,c,hcm=>by
   simp only[L6]at h;split at h
   ·rename_i h1;cases q with
    | zero =>
      simp only[List.getElem?_cons_zero,ON]at hl he;subst hl he;rw[iU]at h1;have:=By.1 h1 c hcm;split at this
      ·rename_i hc hg;rw[lh]at hg;split at this
       ·rename_i p hp;exact⟨hc,hg,by rw[hp,qS _ _ this]⟩
       ·cases this
      ·cases this
    | succ q=>exact Ch l es h q og e (by simpa using hl) (by simpa using he) c hcm
   ·cases h
theorem Nw{m id:Nat}{k:Tr→aa→Option Out}{r:Out}{Q:Exit→St→Prop}{st:St}{ms:List Nat}{T:Tr}(hc:dZ P call)(hfo:P.follows .mixedOrders=true)(hed:yG ops (vf P own ops) ms ops.size=true)(hn:st.n=n)(hf:Fits st.fr T)
 (e:tg call (qU P own n ops (vf P own ops) ms 0 ops.toList) T st.h k=some r) (hQ:∀st' T',st'.n=n→Fits st'.fr T'→k T' st'.h=some r→Q .normal st'):AW P m (.region id ops true) Q st:=by
 unfold tg at e;cases ec:canon call (qU P own n ops (vf P own ops) ms 0 ops.toList) T st.h with
 | none=>rw[ec]at e;simp at e
 | some q =>
   obtain⟨es,hs,T'⟩:=q;rw[ec]at e;simp only at e;split at e
   ·rename_i h' hck hlast;rw[Si]at hlast;obtain⟨r1,r2,r3,r4,r5⟩:=L5 (V:=fun i=>(es.getD i (.lf,.any)).2) (Hs:=fun c=>hs.getD c []) (fr0:=st.fr) hc ops.toList 0 T st.h es hs T' ec hf (fun j hj=>by simp)
     (fun q e he=>by simp[oF,he]) (fun q x hx=>by simp[oF,cL,hx])
    subst hn;have hsz:ops.toList.length=ops.size:=by simp
    simp only[acu,hsz,cL,Nat.sub_zero]at r1 r2 r3 r4 r5;have hE:=A2 hed;refine NF (V:=fun i=>(es.getD i (.lf,.any)).2) (Hs:=fun c=>hs.getD c []) (an:=uw ms) (lo:=vf P own ops) hfo hE ⟨fun i o ho hlo=>?_,fun i o ho hlo c hcl hall=>?_⟩ (by simp[oF,r2]) fun fr hfr=>?_
    ·obtain⟨o',Tq,oh,s1,s2,s3,s4,s5,s6,s7⟩:=r5 i (BY.1 ho).1;rw[ho]at s1;cases s1;have:=(MU hc s4 s5).1;rw[s7 hlo]at this;exact this
    ·obtain⟨o',Tq,oh,s1,s2,s3,s4,s5,s6,s7⟩:=r5 i (BY.1 ho).1;rw[ho]at s1;cases s1;rw[s6 hlo]at s5;have goal:eQ call (cG P (own i) st.n ops o) Tq (hs.getD c [])=some ((es.getD i (.lf,.any)).2,none)→YO P ops st.n (hs.getD c []) (hs.getD c []) o ((es.getD i (.lf,.any)).2) (eW ops st.n (fun i=>(es.getD i (.lf,.any)).2) st.fr (fun _=>true) i):=fun z=>(MU hc s4 z).1
     by_cases hcc:c=cL (vf P own ops) (fun _=>true) i
     ·subst hcc;exact goal s5
     ·cases hfr:CL (yr P (own i) o.op) with
      | true=>exact goal (Vm hfr s5)
      | false =>
        have hmem:c∈(Cf P own st.n ops (vf P own ops) ms i o).ck:=by
         unfold Cf OG.ck;simp only[hlo,hfr];unfold Y1;rw[acC,ID];refine⟨by omega, ?_⟩;simp only[On,acM,By,ID,acL];refine⟨by cases z:Nat.beq c (cL (vf P own ops) (fun _=>true) i) with
          | false=>rfl
          | true=>exact absurd (nE z) hcc,fun l hl=>?_⟩
         cases hll:vf P own ops l with
         | false=>exact .inl rfl
         | true =>
           obtain⟨a1,a2⟩:=hall l hl hll;refine .inr ⟨?_, ?_⟩
           ·cases z:uw ms i l with
            | false=>exact .inl rfl
            | true=>exact .inr (by rw[acK];exact a1 z)
           ·cases z:uw ms l i with
            | false=>exact .inl rfl
            | true=>exact .inr (by rw[acK];exact a2 z)
        obtain⟨hc',g1,g2⟩:=Ch _ _ hck i _ _ s2 s3 c hmem;refine goal ?_;rw[oF,g1];exact g2
    ·rw[r3]at hlast;cases hlast;exact hQ ⟨st.n,fr,_⟩ T' rfl (r1.eq hfr) e
   ·cases e
end
theorem AW.post{m:Nat}{Q Q':Exit→St→Prop}(h:AW P m c Q' st)(hq:∀e st',Q' e st'→∃st'',yj m st' st''∧Q e st''):AW P m c Q st:=
 fun base ι S a w hm hr=>wp_mono (h base ι S a w hm hr) fun _ _ _ ⟨ι',S',st',h1,h2,h3,h4⟩=>by
  obtain⟨st'',hw,q⟩:=hq _ _ h4;obtain⟨ι'',S'',e,m2,r2⟩:=hw base ι' S' _ _ h2 h3;exact⟨ι'',S'',st'',h1.trans e,m2,r2,q⟩
def rO(P:Program)(ops:Array Oper)(Q:St→Prop):Nat→Array Bool→St→Prop
 | 0,L,st=>Region.ready .any ops L=[]∧Q st
 | k+1,L,st=>Region.ready .any ops L≠[]∧∀i∈Region.ready .any ops L,∃o,ops[i]?=some o∧o.guard=none∧cx P false (ak st.fr) st.h o.op fun v h=>rO P ops Q k (L.setIfInBounds i true) (kz st o.dst v h)
theorem Ah{P:Program}{ops:Array Oper}{m:Nat}{Q:Exit→St→Prop}:∀(k:Nat) (L:Array Bool) (base:Nat) (ι:List Ix) (S:ba) (a:Act) (w:World) (st:St),m≤st.h.length→bN base ι S a w st→rO P ops (Q .normal) k L st→wpAny P .any ops (dE m base ι S w Q) k L a w
 | 0,L,base,ι,S,a,w,st,hm,hr,q=>⟨q.1,ι,S,st,cc.refl _ _ _ _ _,hm,hr,q.2⟩
 | k+1,L,base,ι,S,a,w,st,hm,hr,q=>by
   refine⟨fun e=>absurd e q.1,fun i hi=>?_⟩;obtain⟨o,ho,hg,hs⟩:=q.2 i hi;unfold wpOp;rw[ho];simp only;have hw:Region.wanted o (yielded ops a.tmps)=true:=by unfold Region.wanted;rw[hg]
   rw[if_pos hw];left;refine lZ (fun a' w' k' => ?_) (fun _ _ _ k' => k') (lL hr hs _);obtain⟨ι',S',v,h',hE,hR,hl,q'⟩:=k';have:=Ah k (L.setIfInBounds i true) base ι' S' a' w' _ (by show m≤h'.length;omega) hR q';exact fI (fun e a w z=>dE.trans (hE.mono (by rw[hr.hp.len];exact hm) (aS _)) z) _ _ _ _ this
def wF(P:Program)(n:Nat)(ops:Array Oper):Option (Tmp×Tmp):=
 match ops.toList with
 | [o0,o1,o2,o3] =>
   (match o0.op,o0.dst,o0.guard with
   | .alloc tb,some d,none=>(match o1.op,o1.dst,o1.guard with
     | .store t1 (.tmp x1) (.const (.bool true)),none,none=>(match o2.op,o2.dst,o2.guard with
       | .store t2 (.tmp x2) (.const (.bool false)),none,none=>(match o3.op,o3.dst,o3.guard with
         | .load t3 (.tmp x3),some t,none =>
           (match Nat.beq t1 tb&&Nat.beq t2 tb&&Nat.beq t3 tb&&Nat.beq x1 d&&Nat.beq x2 d&&Nat.beq x3 d&&Nat.ble (d+1) n&&Nat.ble (t+1) n&&!Nat.beq d t&&P.follows .mixedOrders&&fv P tb&&!gI P tb&&Nat.beq (P.cellsOf tb) 1 &&
            (match gn P tb with|some (.v (.bool false))=>true|_=>false) &&
            (Region.ready .any ops #[false,false,false,false] == [0])&&(Region.ready .any ops #[true,false,false,false] == [1,2])&&(Region.ready .any ops #[true,true,false,false] == [2])&&(Region.ready .any ops #[true,false,true,false] == [1])&&(Region.ready .any ops #[true,true,true,false] == [3])&&(Region.ready .any ops #[true,true,true,true] == []) with
           | true=>some (d,t)
           | false=>none)
         | _,_,_=>none)
       | _,_,_=>none)
     | _,_,_=>none)
   | _,_,_=>none)
 | _=>none
theorem L9{m id:Nat}{d t:Tmp}{Q:Exit→St→Prop}(hm:m≤st.h.length)(hc:wF P st.n ops=some (d,t))(hq:∀b:Bool,Q .normal ⟨st.n,dt (dt st.fr d .any) t (b_ b),st.h++[.dead]⟩):AW P m (.region id ops true) Q st:=by
 unfold wF at hc;split at hc
 ·rename_i o0 o1 o2 o3 hops;split at hc
  ·rename_i tb d' e0 f0 g0;split at hc
   ·rename_i t1 x1 e1 f1 g1;split at hc
    ·rename_i t2 x2 e2 f2 g2;split at hc
     ·rename_i t3 x3 t' e3 f3 g3;split at hc
      ·rename_i hok;simp only[ON,aaZ]at hc;obtain⟨rfl,rfl⟩:=hc;simp only[On,acM,beq_iff_eq]at hok;obtain⟨⟨⟨⟨⟨⟨⟨⟨⟨⟨⟨⟨⟨⟨⟨⟨⟨⟨⟨k1,k2⟩,k3⟩,k4⟩,k5⟩,k6⟩,k7⟩,k8⟩,k9⟩,k10⟩,k11⟩,TX⟩,k13⟩,k14⟩,r0⟩,r1⟩,r2⟩,r3⟩,r4⟩,r5⟩:=hok;obtain rfl:=nE k1;obtain rfl:=nE k2;obtain rfl:=nE k3;obtain rfl:=nE k4;obtain rfl:=nE k5;obtain rfl:=nE k6;have k7:=nO k7;have k8:=nO k8;have k9:x3≠t':=fun q=>by rw[q]at k9;simp at k9
       have k13:=nE k13;have hz:gn P t3=some (.v (.bool false)):=by
        split at k14
        ·assumption
        ·cases k14
       have at':∀i o,[o0,o1,o2,o3][i]?=some o→ops[i]?=some o:=fun i o e=>by rw[←hops,Array.getElem?_toList]at e;exact e
       have hsz:ops.size=4:=by have:=congrArg List.length hops;simpa using this
       intro base ι S a w _ hr;obtain⟨hE,hr'⟩:=hr.drew;refine wp_region_any k10 (fI (fun e a w z=>dE.trans (hE.mono (by rw[hr.hp.len];exact hm) (aS _)) z) _ _ _ _ ?_);rw[hsz]
       let Q2:Exit→St→Prop:=fun e st' => ∃b:Bool,st'=⟨st.n,dt (dt st.fr x3 (.op st.h.length 0)) t' (b_ b),st.h++[.aC ⟨t3,[b_ b],true⟩]⟩
       have key:rO P ops (Q2 .normal) 4 #[false,false,false,false] st:=by
        refine⟨by rw[r0];simp,fun i hi=>?_⟩;rw[r0]at hi;simp only[Up]at hi;subst hi;refine⟨o0,at' 0 o0 rfl,g0, ?_⟩;rw[e0];simp only[cx,hz];unfold br;refine⟨by simp[bc,dH,Value.oneCell'], ?_⟩;have s0:kz st o0.dst (.op st.h.length 0) (st.h++[.aC ⟨t3,bc (.v (.bool false)),true⟩])=⟨st.n,dt st.fr x3 (.op st.h.length 0),st.h++[.aC ⟨t3,[b_ false],true⟩]⟩:=by
         unfold kz cJ;rw[f0];have:x3<st.n:=k7;simp[this,bc,dH]
        show rO P ops (Q2 .normal) 3 _ (kz st o0.dst _ _);rw[s0]
        -- a store
        have sto:∀(fr:Fr) (b c:Bool) (K:AV→aa→Prop),bg fr x3=.op st.h.length 0→K (.v undef) (st.h++[.aC ⟨t3,[b_ c],true⟩])→cx P false (ak fr) (st.h++[.aC ⟨t3,[b_ b],true⟩]) (.store t3 (.tmp x3) (.const (.bool c))) K:=by
         intro fr b c K hfr hk;simp only[cx,k11,gb];simp only[ak,hfr,kC,qg,aE];rw[iF (aS _)];simp[bc,dH,Value.oneCell',k13,dw];exact hk
        show rO P ops (Q2 .normal) 3 #[true,false,false,false] _;refine⟨by rw[r1];simp,fun i hi=>?_⟩;rw[r1]at hi;have g3':bg (dt st.fr x3 (.op st.h.length 0)) x3=.op st.h.length 0:=by rw[ee,if_pos rfl]
        have fin:∀b:Bool,rO P ops (Q2 .normal) 1 #[true,true,true,false] ⟨st.n,dt st.fr x3 (.op st.h.length 0),st.h++[.aC ⟨t3,[b_ b],true⟩]⟩:=by
         intro b;refine⟨by rw[r4];simp,fun i hi=>?_⟩;rw[r4]at hi;simp only[Up]at hi;subst hi;refine⟨o3,at' 3 o3 rfl,g3, ?_⟩;rw[e3];simp only[cx,k11,gb,TX,k13];simp only[ak,g3',ag];rw[iF (aS _)];simp[pS];refine⟨r5,b, ?_⟩;unfold kz cJ;rw[f3];have:t'<st.n:=k8;simp[this]
        simp only[IS,List.not_mem_nil,or_false]at hi;rcases hi with rfl|rfl
        ·refine⟨o1,at' 1 o1 rfl,g1, ?_⟩;rw[e1];refine sto _ false true _ g3' ?_;have s1:kz (⟨st.n,dt st.fr x3 (.op st.h.length 0),st.h++[.aC ⟨t3,[b_ false],true⟩]⟩:St) o1.dst (.v undef) (st.h++[.aC ⟨t3,[b_ true],true⟩])=⟨st.n,dt st.fr x3 (.op st.h.length 0),st.h++[.aC ⟨t3,[b_ true],true⟩]⟩:=by unfold kz cJ;rw[f1]
         rw[s1];show rO P ops (Q2 .normal) 2 #[true,true,false,false] _;refine⟨by rw[r2];simp,fun i hi=>?_⟩;rw[r2]at hi;simp only[Up]at hi;subst hi;refine⟨o2,at' 2 o2 rfl,g2, ?_⟩;rw[e2];refine sto _ true false _ g3' ?_;have s2:kz (⟨st.n,dt st.fr x3 (.op st.h.length 0),st.h++[.aC ⟨t3,[b_ true],true⟩]⟩:St) o2.dst (.v undef) (st.h++[.aC ⟨t3,[b_ false],true⟩])=⟨st.n,dt st.fr x3 (.op st.h.length 0),st.h++[.aC ⟨t3,[b_ false],true⟩]⟩:=by unfold kz cJ;rw[f2]
         rw[s2];exact fin false
        ·refine⟨o2,at' 2 o2 rfl,g2, ?_⟩;rw[e2];refine sto _ false false _ g3' ?_;have s1:kz (⟨st.n,dt st.fr x3 (.op st.h.length 0),st.h++[.aC ⟨t3,[b_ false],true⟩]⟩:St) o2.dst (.v undef) (st.h++[.aC ⟨t3,[b_ false],true⟩])=⟨st.n,dt st.fr x3 (.op st.h.length 0),st.h++[.aC ⟨t3,[b_ false],true⟩]⟩:=by unfold kz cJ;rw[f2]
         rw[s1];show rO P ops (Q2 .normal) 2 #[true,false,true,false] _;refine⟨by rw[r3];simp,fun i hi=>?_⟩;rw[r3]at hi;simp only[Up]at hi;subst hi;refine⟨o1,at' 1 o1 rfl,g1, ?_⟩;rw[e1];refine sto _ false true _ g3' ?_;have s2:kz (⟨st.n,dt st.fr x3 (.op st.h.length 0),st.h++[.aC ⟨t3,[b_ false],true⟩]⟩:St) o1.dst (.v undef) (st.h++[.aC ⟨t3,[b_ true],true⟩])=⟨st.n,dt st.fr x3 (.op st.h.length 0),st.h++[.aC ⟨t3,[b_ true],true⟩]⟩:=by unfold kz cJ;rw[f1]
         rw[s2];exact fin true
       have res:=Ah (m:=m) (Q:=fun e st' => e=.normal∧Q2 e st') 4 #[false,false,false,false] base ι S a _ st hm hr' (by
        have mono:∀(k:Nat) (L:Array Bool) (s:St),rO P ops (Q2 .normal) k L s→rO P ops (fun st' => Exit.normal=.normal∧Q2 .normal st') k L s:=by
         intro k L s h;simpa using h
        exact mono _ _ _ key)
       refine fI (fun e a w z=>?_) _ _ _ _ res;obtain⟨ι',S',st',z1,z2,z3,rfl,b,rfl⟩:=z;have hk:=z3.hp.kill st.h.length;rw[Lt _ _ (aS _)]at hk;simp only[Nat.sub_self,List.set_cons_zero]at hk;refine⟨ι',S',⟨st.n,dt (dt st.fr x3 .any) t' (b_ b),st.h++[.dead]⟩,z1,by simp;omega,⟨z3.df,z3.sz,fun u=>?_,hk⟩,hq b⟩;have r:=z3.fr u;show ax ι' S' w (bg (dt (dt st.fr x3 .any) t' (b_ b)) u) _;have r:ax ι' S' w (bg (dt (dt st.fr x3 (.op st.h.length 0)) t' (b_ b)) u) _:=r;rw[ee]at r ⊢;split
       ·rename_i q;rw[if_pos q]at r;exact r
       ·rename_i q;rw[if_neg q,ee]at r;rw[ee];split
        ·simp
        ·rename_i q2;rw[if_neg q2]at r;exact r
      ·cases hc
     ·cases hc
    ·cases hc
   ·cases hc
  ·cases hc
 ·cases hc
inductive RC where
 | skip
 | ret
 | exit (i:Nat)
 | seq (a b:RC)
 | block (i:Nat) (a:RC)
 | cond (x:RO) (a b:RC)
 | loop (a:RC)
 | reg (l:List RG)
 | opn (l:List OG)
 | aeK (d t:Pa) (K:List Pa) (a:RC)
 | scp (a:RC)
 | bad
def iH:Code→List Nat
 | .region _ ops _=>ops.toList.filterMap (·.dst)
 | .seq a b=>iH a++iH b
 | .cond x a b=>(match x with|.tmp t=>[t]|_=>[])++iH a++iH b
 | .block _ a=>iH a
 | .loop a=>iH a
 | .scope a=>iH a
 | _=>[]
def pt(n d t:Nat)(b:Code):List Nat:=let l:=d:: t:: iH b;(List.range n).filter fun s=>!(l.any fun u=>Nat.beq u s)
def Ci(P:Program)(n:Nat):Code→Option (Tmp×Tmp)
 | .region _ ops true=>wF P n ops
 | _=>none
def cC(P:Program)(own:Nat→Nat→Bool)(n:Nat)(c:Code):RC:=
 match c with
 | .skip=>.skip
 | .ret=>.ret
 | .exit i=>.exit i
 | .label _=>.skip
 | .seq a b =>
   (match Ci P n a with
   | some (d,t)=>.aeK (iu d) (iu t) ((pt n d t b).map iu) (cC P own n b)
   | none=>.seq (cC P own n a) (cC P own n b))
 | .scope a=>.scp (cC P own n a)
 | .block i a=>.block i (cC P own n a)
 | .cond x a b=>.cond (cO x) (cC P own n a) (cC P own n b)
 | .loop a=>.loop (cC P own n a)
 | .region id ops draw =>
   (match draw with
   | false=>.reg (Kc P (own id) n ops 0 ops.toList)
   | true=>(match P.follows .mixedOrders,yG ops (vf P (own id) ops) (Dv ops ops.size) ops.size with
     | true,true=>.opn (qU P (own id) n ops (vf P (own id) ops) (Dv ops ops.size) 0 ops.toList)
     | _,_=>.bad))
 | _=>.bad
def aib(K:List Pa):Exit→Tr→aa→Option Out:=fun e T h=>match e with|.normal=>some (.aF (K.map fun p=>jd p T),h)|_=>none
def M0(K:List Pa)(T:Tr):Exit→Tr→aa→Option Out:=fun e _ h=>match e with|.normal=>some (.aF (K.map fun p=>jd p T),h)|_=>none
def yo:List Pa→List AV→Tr
 | p:: K,v:: vs=>mV p v (yo K vs)
 | _,_=>.lf
def yL:List Nat→List AV→Fr
 | k:: K,v:: vs=>dt (yL K vs) k v
 | _,_=>[]
omit [Laid] in
theorem Ib:∀(K:List Nat) (vs:List AV),Fits (yL K vs) (yo (K.map iu) vs)
 | [],_=>fun t=>by simp[yL,yo,bg,Ez]
 | _:: _,[]=>fun t=>by simp[yL,yo,bg,Ez]
 | k:: K,v:: vs=>by
   simp only[IF,yL,yo];exact (Ib K vs).put k v
omit [Laid] in
theorem KJ(fr:Fr):∀(K:List Nat) (u:Nat),bg (yL K (K.map fun k=>bg fr k)) u=bg fr u∨bg (yL K (K.map fun k=>bg fr k)) u=.any
 | [],u=>.inr (by simp[yL,bg])
 | k:: K,u=>by
   simp only[IF,yL];rw[ee];split
   ·rename_i h;exact .inl (by rw[h])
   ·exact KJ fr K u
theorem Tn{m:Nat}(st:St)(K:List Nat):yj m st ⟨st.n,yL K (K.map fun k=>bg st.fr k),st.h⟩:=by
 intro base ι S a w hm hr;refine⟨ι,S,cc.refl _ _ _ _ _,hm,⟨hr.df,hr.sz,fun u=>?_,hr.hp⟩⟩;show ax ι S w (bg (yL K (K.map fun k=>bg st.fr k)) u) _;rcases KJ st.fr K u with h|h
 ·rw[h];exact hr.fr u
 ·rw[h];simp
def xk(F:Nat)(body:Tr→aa→(Exit→Tr→aa→Option Out)→Option Out)(q:Exit→Tr→aa→Option Out):Tr→aa→Option Out:=
 Nat.rec (motive:=fun _=>Tr→aa→Option Out) (fun _ _=>none) (fun _ nx T h=>body T h (fun e T h=>match e with|.normal=>nx T h|e=>q e T h)) F
def run(call:aZ)(F:Nat)(c:RC):Tr→aa→(Exit→Tr→aa→Option Out)→Option Out:=
 RC.rec (motive:=fun _=>Tr→aa→(Exit→Tr→aa→Option Out)→Option Out)
  (fun T h q=>q .normal T h)
  (fun T h q=>q .ret T h)
  (fun i T h q=>q (.exit i) T h)
  (fun _ _ iha ihb T h q=>iha T h (fun e T h=>match e with|.normal=>ihb T h q|e=>q e T h))
  (fun i _ ih T h q=>ih T h (fun e T h=>match e with|.exit j=>(match Nat.beq j i with|true=>q .normal T h|false=>q (.exit j) T h)|e=>q e T h))
  (fun x _ _ iha ihb T h q=>match bG T x with|.v (.bool true)=>iha T h q|.v (.bool false)=>ihb T h q|_=>none)
  (fun _ ih T h q=>xk F ih q T h)
  (fun l T h q=>pd call l T h (fun T h=>q .normal T h))
  (fun l T h q=>tg call l T h (fun T h=>q .normal T h))
  (fun d t K _ ih T h q=>match ih (mV t (b_ true) (mV d .any T)) (h++[.dead]) (M0 K T),ih (mV t (b_ false) (mV d .any T)) (h++[.dead]) (M0 K T) with
   | some r1,some r2=>(match L2 r1.2 r2.2 with
     | true=>q .normal (yo K (K.map fun p=>jd p T)) r1.2
     | false=>none)
   | _,_=>none)
  (fun _ ih T h q=>ih T h (fun e T h=>match e with|.goto _=>none|e=>q e T h))
  (fun _ _ _=>none) c
/-! ### Slots that a piece of code does not write -/
def Sm(S:List Nat)(T T':Tr):Prop:=∀u∈S,jd (iu u) T'=jd (iu u) T
section
omit [Laid]
theorem Sm.refl(S:List Nat)(T:Tr):Sm S T T:=fun _ _=>rfl
theorem Sm.trans{S:List Nat}{T T' T'':Tr}(h:Sm S T T')(k:Sm S T' T''):Sm S T T'':=fun u hu=>(k u hu).trans (h u hu)
theorem Sm.put{S:List Nat}{t:Nat}(h:t∉S)(x:AV)(T:Tr):Sm S T (mV (iu t) x T):=fun u hu=>oI u t x T fun e=>h (e▸hu)
theorem Sm.jX{S:List Nat}{d:Option Tmp}(h:∀t:Nat,d=some t→t∉S)(x:AV)(T:Tr):Sm S T (Go.Aw.jX (d.map iu) x T):=by
 cases d with
 | none=>exact Sm.refl S T
 | some t=>exact Sm.put (h t rfl) x T
theorem Hv(T:Tr){u:Nat}:∀{K:List Nat},u∈K→jd (iu u) (yo (K.map iu) ((K.map iu).map fun p=>jd p T))=jd (iu u) T
 | k:: K,h=>by
   simp only[IF,yo]
   by_cases e:u=k
   ·subst e;exact tL _ _ _
   ·rw[oI _ _ _ _ e];exact Hv T ((IS.1 h).resolve_left e)
theorem Oc{P:Program}{n:Nat}{ops:Array Oper}{d t:Tmp}(h:wF P n ops=some (d,t)):d∈ops.toList.filterMap (·.dst)∧t∈ops.toList.filterMap (·.dst):=by
 unfold wF at h;split at h
 ·rename_i o0 o1 o2 o3 hl;split at h
  ·rename_i tb d' e0 e1 e2;split at h
   ·split at h
    ·split at h
     ·rename_i t3 x3 t' f0 f1 f2;split at h
      ·cases h;rw[hl];simp only[acE];exact⟨⟨o0,by simp,e1⟩,⟨o3,by simp,f1⟩⟩
      ·cases h
     ·cases h
    ·cases h
   ·cases h
  ·cases h
 ·cases h
end
def J0(S:List Nat)(g:RG):Prop:=∀x T,Sm S T (jX g.d x T)
omit [Laid] in
theorem DK{call:aZ}{S:List Nat}:∀(l:List RG),(∀g∈l,J0 S g)→∀(T:Tr) (h:aa) (k k':Tr→aa→Option Out),(∀T' h',Sm S T T'→k T' h'=k' T' h')→pd call l T h k=pd call l T h k'
 | [],_,T,h,k,k',hk=>hk T h (Sm.refl S T)
 | g:: l,hw,T,h,k,k',hk=>by
   show (match eG call g T h with|some (v,none)=>pd call l (jX g.d v T) h k|some (v,some h')=>pd call l (jX g.d v T) h' k|none=>none)=(match eG call g T h with|some (v,none)=>pd call l (jX g.d v T) h k' | some (v,some h')=>pd call l (jX g.d v T) h' k' | none=>none);have ih:=fun v h' => DK (call:=call) l (fun g hg=>hw g (MK _ hg)) (jX g.d v T) h' k k' (fun T' h'' e=>hk T' h'' ((hw g (acN ..) v T).trans e));split
   ·exact ih _ _
   ·exact ih _ _
   ·rfl
omit [Laid] in
theorem HI{call:aZ}{S:List Nat}:∀(l:List OG),(∀o∈l,J0 S o.g)→∀(T:Tr) (h:aa) (x:List (Tr×AV)×List aa×Tr),canon call l T h=some x→Sm S T x.2.2
 | [],_,T,h,x,e=>by cases e;exact Sm.refl S T
 | o:: l,hw,T,h,x,e=>by
   have ih:=fun v h' y (q:canon call l (jX o.g.d v T) h'=some y)=>(hw o (acN ..) v T).trans (HI l (fun g hg=>hw g (MK _ hg)) (jX o.g.d v T) h' y q);have e:(match eQ call o.g T h with
    | some (v,none)=>(match o.lo with
      | false=>(match canon call l (jX o.g.d v T) h with|some (a,b,c)=>some ((T,v):: a,b,c)|none=>none)
      | true=>(match canon call l (jX o.g.d v T) h with|some (a,b,c)=>some ((T,v):: a,h:: b,c)|none=>none))
    | some (v,some h')=>(match o.lo with
      | true=>(match canon call l (jX o.g.d v T) h' with|some (a,b,c)=>some ((T,v):: a,h:: b,c)|none=>none)
      | false=>none)
    | none=>none)=some x:=e
   split at e
   ·split at e;all_goals
     split at e
     ·rename_i q;cases e;have w:=ih _ _ _ q;exact w
     ·cases e
   ·split at e
    ·split at e
     ·rename_i q;cases e;have w:=ih _ _ _ q;exact w
     ·cases e
    ·cases e
   ·cases e
omit [Laid] in
theorem JS{S:List Nat}{l:List OG}(hw:∀o∈l,J0 S o.g){k k':Tr→aa→Option Out}(hk:∀T' h',Sm S T T'→k T' h'=k' T' h'):tg call l T h k=tg call l T h k':=by
 unfold tg;split
 ·rename_i es hs T' e;split
  ·exact hk _ _ (HI l hw T h _ e)
  ·rfl
 ·rfl
section
variable {P:Program} {call:aZ} {own:Nat→Nat→Bool} {n F:Nat}
theorem TJ{S:List Nat}{P:Program}{own:Bool}{n:Nat}{ops:Array Oper}{o:Oper}(h:∀t:Nat,o.dst=some t→t∉S):J0 S (cG P own n ops o):=fun x T=>Sm.jX h x T
theorem Oa{S:List Nat}{P:Program}{own:Nat→Bool}{n:Nat}{ops:Array Oper}:∀(i:Nat) (l:List Oper),(∀u∈S,u∉l.filterMap (·.dst))→∀g∈Kc P own n ops i l,J0 S g
 | _,[],_,g,hg=>by cases hg
 | i,o:: l,h,g,hg=>by
   rcases IS.1 hg with rfl|hg
   ·exact TJ fun t ht hs=>h t hs (acE.2 ⟨o,acN ..,ht⟩)
   ·refine Oa (i+1) l (fun u hu hm=>h u hu ?_) g hg;obtain⟨o',ho',e⟩:=acE.1 hm;exact acE.2 ⟨o',MK _ ho',e⟩
theorem Kd{S:List Nat}{P:Program}{own:Nat→Bool}{n:Nat}{ops:Array Oper}{lo:Nat→Bool}{ms:List Nat}:∀(i:Nat) (l:List Oper),(∀u∈S,u∉l.filterMap (·.dst))→∀g∈qU P own n ops lo ms i l,J0 S g.g
 | _,[],_,g,hg=>by cases hg
 | i,o:: l,h,g,hg=>by
   rcases IS.1 hg with rfl|hg
   ·exact TJ fun t ht hs=>h t hs (acE.2 ⟨o,acN ..,ht⟩)
   ·refine Kd (i+1) l (fun u hu hm=>h u hu ?_) g hg;obtain⟨o',ho',e⟩:=acE.1 hm;exact acE.2 ⟨o',MK _ ho',e⟩
omit [Laid] in
theorem Ga{S:List Nat}{body:Tr→aa→(Exit→Tr→aa→Option Out)→Option Out}(hb:∀(T:Tr) (h:aa) (q q':Exit→Tr→aa→Option Out),(∀e T' h',Sm S T T'→q e T' h'=q' e T' h')→body T h q=body T h q')
 {q q':Exit→Tr→aa→Option Out}:∀(F:Nat) (T:Tr) (h:aa),(∀e T' h',Sm S T T'→q e T' h'=q' e T' h')→xk F body q T h=xk F body q' T h
 | 0,_,_,_=>rfl
 | F+1,T,h,hq=>by
   show body T h (fun e T h=>match e with|.normal=>xk F body q T h|e=>q e T h)=body T h (fun e T h=>match e with|.normal=>xk F body q' T h|e=>q' e T h);refine hb T h _ _ fun e T' h' hs=>?_;cases e with
   | normal=>exact Ga hb F T' h' fun e T'' h'' hs' => hq e T'' h'' (hs.trans hs')
   | _=>exact hq _ T' h' hs
theorem pW{S:List Nat}(hn:∀u∈S,u<n):∀(c:Code),(∀u∈S,u∉iH c)→∀(T:Tr) (h:aa) (q q':Exit→Tr→aa→Option Out),(∀e T' h',Sm S T T'→q e T' h'=q' e T' h')→run call F (cC P own n c) T h q=run call F (cC P own n c) T h q'
 | .skip,_,T,h,q,q',hq=>hq _ _ _ (Sm.refl S T)
 | .ret,_,T,h,q,q',hq=>hq _ _ _ (Sm.refl S T)
 | .exit i,_,T,h,q,q',hq=>hq _ _ _ (Sm.refl S T)
 | .label l,_,T,h,q,q',hq=>hq _ _ _ (Sm.refl S T)
 | .goto l,_,T,h,q,q',hq=>rfl
 | .scope a,hw,T,h,q,q',hq=>by
   show run call F (cC P own n a) T h _=run call F (cC P own n a) T h _;refine pW hn a hw T h _ _ fun e T' h' hs=>?_;cases e<;>first|rfl|exact hq _ T' h' hs
 | .seq a b,hw,T,h,q,q',hq=>by
   have ha:∀u∈S,u∉iH a:=fun u hu hm=>hw u hu (by simp only[iH,IN];exact .inl hm);have hb:∀u∈S,u∉iH b:=fun u hu hm=>hw u hu (by simp only[iH,IN];exact .inr hm);simp only[cC];split
   ·rename_i d t hco;have hcode:∃id ops,a=.region id ops true∧wF P n ops=some (d,t):=by
     cases a with
     | region id ops draw =>
       cases draw with
       | true=>exact⟨id,ops,rfl,hco⟩
       | false=>simp[Ci]at hco
     | _=>simp[Ci]at hco
    obtain⟨id,ops,rfl,hcb⟩:=hcode;obtain⟨hd,ht⟩:=Oc hcb;simp only[run];split
    ·rename_i r1 r2 e1 e2;split
     ·refine hq _ _ _ fun u hu=>Hv T ?_;unfold pt;rw[acC];refine⟨ID.2 (hn u hu), ?_⟩;simp only[List.any_cons,acM,acW];have ne:∀v:Nat,v≠u→Nat.beq v u=false:=fun v hv=>by
       cases z:Nat.beq v u with
       | false=>rfl
       | true=>exact absurd (nE z) hv
      refine⟨ne d fun e=>ha u hu (e▸hd),ne t fun e=>ha u hu (e▸ht), ?_⟩;rw[List.any_eq_false];intro v hv z;exact hb u hu ((nE z)▸hv)
     ·rfl
    ·rfl
   ·show run call F (cC P own n a) T h _=run call F (cC P own n a) T h _;refine pW hn a ha T h _ _ fun e T' h' hs=>?_;cases e with
    | normal=>exact pW hn b hb T' h' q q' fun e T'' h'' hs' => hq e T'' h'' (hs.trans hs')
    | _=>exact hq _ T' h' hs
 | .block i a,hw,T,h,q,q',hq=>by
   show run call F (cC P own n a) T h _=run call F (cC P own n a) T h _;refine pW hn a hw T h _ _ fun e T' h' hs=>?_;cases e with
   | exit j =>
     simp only;split
     ·exact hq _ T' h' hs
     ·exact hq _ T' h' hs
   | _=>exact hq _ T' h' hs
 | .cond x a b,hw,T,h,q,q',hq=>by
   have ha:∀u∈S,u∉iH a:=fun u hu hm=>hw u hu (by simp only[iH,IN];exact .inl (.inr hm));have hb:∀u∈S,u∉iH b:=fun u hu hm=>hw u hu (by simp only[iH,IN];exact .inr hm);simp only[cC,run];split
   ·exact pW hn a ha T h q q' hq
   ·exact pW hn b hb T h q q' hq
   ·rfl
 | .loop a,hw,T,h,q,q',hq=>Ga (fun T h q q' => pW hn a hw T h q q') F T h hq
 | .region id ops draw,hw,T,h,q,q',hq=>by
   have hw':∀u∈S,u∉ops.toList.filterMap (·.dst):=hw;cases draw with
   | false =>
     simp only[cC,run];exact DK _ (Oa 0 ops.toList hw') T h _ _ fun T' h' hs=>hq _ T' h' hs
   | true =>
     simp only[cC];split
     ·simp only[run];exact JS (Kd 0 ops.toList hw') fun T' h' hs=>hq _ T' h' hs
     ·rfl
 | .rangeFunc _ _ _ _,_,T,h,q,q',hq=>rfl
 | .refuse _,_,T,h,q,q',hq=>rfl
end
section
variable {P:Program} {call:aZ} {own:Nat→Nat→Bool} {n F:Nat}
theorem lK(hc:dZ P call):∀(c:Code) (T:Tr) (st:St) (q:Exit→Tr→aa→Option Out) (r:Out) (m:Nat),st.n=n→Fits st.fr T→run call F (cC P own n c) T st.h q=some r→AW P m c (GF n q r) st
 | .skip,T,st,q,r,m,hn,hf,e=>D5 ⟨hn,T,hf,e⟩
 | .ret,T,st,q,r,m,hn,hf,e=>Hj ⟨hn,T,hf,e⟩
 | .exit i,T,st,q,r,m,hn,hf,e=>D4 ⟨hn,T,hf,e⟩
 | .label l,T,st,q,r,m,hn,hf,e=>AL ⟨hn,T,hf,e⟩
 | .goto l,T,st,q,r,m,hn,hf,e=>by simp[cC,run]at e
 | .scope a,T,st,q,r,m,hn,hf,e=>by
   intro base ι S ac w hm hr;refine wp_scope_straight (wp_mono (lK hc a T st _ r m hn hf e base ι S ac w hm hr) fun ex a' w' k=>?_);obtain⟨ι',S',st',h1,h2,h3,hn',T',hf',e'⟩:=k;cases ex with
   | goto l=>simp at e'
   | normal=>exact⟨ι',S',st',h1,h2,h3,hn',T',hf',e'⟩
   | exit i=>exact⟨ι',S',st',h1,h2,h3,hn',T',hf',e'⟩
   | ret=>exact⟨ι',S',st',h1,h2,h3,hn',T',hf',e'⟩
   | panic ch=>exact⟨ι',S',st',h1,h2,h3,hn',T',hf',e'⟩
   | outgrown=>exact⟨ι',S',st',h1,h2,h3,hn',T',hf',e'⟩
 | .seq a b,T,st,q,r,m,hn,hf,e=>by
   simp only[cC]at e;split at e
   ·rename_i d t hco;simp only[run]at e;split at e
    ·rename_i r1 r2 e1 e2;split at e
     ·rename_i b2;have q2:=Ef _ _ b2;have hcode:∃id ops,a=.region id ops true∧wF P n ops=some (d,t):=by
       cases a with
       | region id ops draw =>
         cases draw with
         | true=>exact⟨id,ops,rfl,hco⟩
         | false=>simp[Ci]at hco
       | _=>simp[Ci]at hco
      obtain⟨id,ops,rfl,hcb⟩:=hcode;have hK:∀u∈pt n d t b,u<n∧u≠d∧u≠t∧u∉iH b:=fun u hu=>by
       unfold pt at hu;rw[acC]at hu;obtain⟨h1,h2⟩:=hu;simp only[List.any_cons,acM,acW]at h2;refine⟨ID.1 h1,fun z=>?_,fun z=>?_,fun z=>?_⟩
       ·rw[z]at h2;simp at h2
       ·rw[z]at h2;simp at h2
       ·have:=List.any_eq_false.1 h2.2.2 u z;simp at this
      have fin:∀(v:Bool) (rv:Out),rv.2=r1.2→run call F (cC P own n b) (mV (iu t) (b_ v) (mV (iu d) .any T)) (st.h++[.dead]) (M0 ((pt n d t b).map iu) T)=some rv→AW P m b (GF n q r) ⟨st.n,dt (dt st.fr d .any) t (b_ v),st.h++[.dead]⟩:=by
       intro v rv hrv ev;have hT:∀u∈pt n d t b,jd (iu u) (mV (iu t) (b_ v) (mV (iu d) .any T))=jd (iu u) T:=fun u hu=>by
        obtain⟨_,h2,h3,_⟩:=hK u hu;rw[oI _ _ _ _ h3,oI _ _ _ _ h2]
       let q2:Exit→Tr→aa→Option Out:=fun e T' h=>match e with|.normal=>(open Classical in if ∀u∈pt n d t b,jd (iu u) T'=jd (iu u) T then some (.aF (((pt n d t b).map iu).map fun p=>jd p T),h) else none)|_=>none
       have eq:run call F (cC P own n b) (mV (iu t) (b_ v) (mV (iu d) .any T)) (st.h++[.dead]) q2=some rv:=by
        rw[←ev];refine pW (S:=pt n d t b) (fun u hu=>(hK u hu).1) b (fun u hu=>(hK u hu).2.2.2) _ _ _ _ fun e T' h' hs=>?_;cases e with
        | normal=>simp only[q2,M0];rw[if_pos fun u hu=>(hs u hu).trans (hT u hu)]
        | _=>rfl
       refine AW.post (lK hc b _ ⟨st.n,dt (dt st.fr d .any) t (b_ v),st.h++[.dead]⟩ _ rv m hn ((hf.put d .any).put t (b_ v)) eq) ?_;rintro ex st' ⟨hn',T',hf',e'⟩;cases ex with
       | normal =>
         simp only[q2]at e';split at e'
         ·rename_i hs;simp only[ON]at e';rw[←e']at hrv;simp only at hrv;refine⟨_,Tn st' (pt n d t b),hn',_,Ib _ _, ?_⟩;have:(pt n d t b).map (fun k=>bg st'.fr k)=((pt n d t b).map iu).map fun p=>jd p T:=by
           rw[List.map_map];exact List.map_congr_left fun k hk=>(hf' k).trans (hs k hk)
          rw[this];simp only[hrv];exact e
         ·cases e'
       | _=>simp[q2]at e'
      intro base ι S ac w hm hr;exact vv (L9 (st:=st) hm (by rw[hn];exact hcb) fun v=>by
       cases v with
       | true=>exact fin true r1 rfl e1
       | false=>exact fin false r2 q2.symm e2) base ι S ac w hm hr
     ·cases e
    ·cases e
   ·refine vv ((lK hc a T st _ r m hn hf e).mono fun ex st' k=>?_);obtain⟨hn',T',hf',e'⟩:=k;cases ex with
    | normal=>exact lK hc b T' st' q r m hn' hf' e'
    | exit i=>exact⟨hn',T',hf',e'⟩
    | goto l=>exact⟨hn',T',hf',e'⟩
    | ret=>exact⟨hn',T',hf',e'⟩
    | panic ch=>exact⟨hn',T',hf',e'⟩
    | outgrown=>exact⟨hn',T',hf',e'⟩
 | .block i a,T,st,q,r,m,hn,hf,e=>by
   refine AK ((lK hc a T st _ r m hn hf e).mono fun ex st' k=>?_);obtain⟨hn',T',hf',e'⟩:=k;cases ex with
   | exit j =>
     simp only[yq];simp only at e';split
     ·rename_i h;rw[show Nat.beq j i=true from Nat.beq_eq▸h]at e';exact⟨hn',T',hf',e'⟩
     ·rename_i h;have:Nat.beq j i=false:=by
       cases z:Nat.beq j i with
       | false=>rfl
       | true=>exact absurd (nE z) h
      rw[this]at e';exact⟨hn',T',hf',e'⟩
   | normal=>exact⟨hn',T',hf',e'⟩
   | goto l=>exact⟨hn',T',hf',e'⟩
   | ret=>exact⟨hn',T',hf',e'⟩
   | panic ch=>exact⟨hn',T',hf',e'⟩
   | outgrown=>exact⟨hn',T',hf',e'⟩
 | .cond x a b,T,st,q,r,m,hn,hf,e=>by
   simp only[cC,run]at e;intro base ι S ac w hm hr;have rv:=hr.eval x;rw[←OX hf x]at rv;split at e
   ·rename_i hx;rw[hx,dx]at rv;exact wp_cond_true rv (lK hc a T st q r m hn hf e base ι S ac w hm hr)
   ·rename_i hx;rw[hx,dx]at rv;exact wp_cond_false rv (lK hc b T st q r m hn hf e base ι S ac w hm hr)
   ·cases e
 | .loop a,T,st,q,r,m,hn,hf,e=>by
   refine UA (α:=St×Tr×Nat) (fun x=>x.1.n=n∧Fits x.1.fr x.2.1∧xk x.2.2 (run call F (cC P own n a)) q x.2.1 x.1.h=some r) (fun x=>x.1) (fun x=>x.2.2) (st,T,F) ⟨hn,hf,e⟩ (yj.refl _ _) ?_;rintro⟨s,T,k⟩ ⟨hn,hf,e⟩;cases k with
   | zero=>simp[xk]at e
   | succ k =>
     refine (lK hc a T s _ r m hn hf e).mono fun ex st' hk=>?_;obtain⟨hn',T',hf',e'⟩:=hk;cases ex with
     | normal=>exact⟨(st',T',k),⟨hn',hf',e'⟩,yj.refl _ _,Nat.lt_succ_self k⟩
     | exit i=>exact⟨hn',T',hf',e'⟩
     | goto l=>exact⟨hn',T',hf',e'⟩
     | ret=>exact⟨hn',T',hf',e'⟩
     | panic ch=>exact⟨hn',T',hf',e'⟩
     | outgrown=>exact⟨hn',T',hf',e'⟩
 | .region id ops draw,T,st,q,r,m,hn,hf,e=>by
   have hQ:∀st' T',st'.n=n→Fits st'.fr T'→q .normal T' st'.h=some r→GF n q r .normal st':=fun st' T' h1 h2 h3=>⟨h1,T',h2,h3⟩;cases draw with
   | false =>
     simp only[cC]at e;simp only[run]at e;intro base ι S a w hm hr;subst hn;have:=Gl (m:=m) (Q:=GF st.n q r) hc hQ ops.toList 0 base ι S a w st.fr st.h T (fun j hj=>by simp) hm hr hf e;rw[show List.range' 0 ops.toList.length=List.range ops.size by rw[List.range_eq_range'];simp]at this;exact wp_region this
   | true =>
     simp only[cC]at e;split at e
     ·rename_i h1 h2;simp only[run]at e;exact Nw hc h1 h2 hn hf e hQ
     ·simp[run]at e
 | .rangeFunc _ _ _ _,T,st,q,r,m,hn,hf,e=>by simp[cC,run]at e
 | .refuse _,T,st,q,r,m,hn,hf,e=>by simp[cC,run]at e
end
/-! ### Results -/
inductive RR where
 | t (p:Pa)
 | c (p:Pa) (g:Bool) (sz:Nat)
 | bad
def cR(P:Program)(x:ResultVar):RR:=
 match x with
 | .tmp t=>.t (iu t)
 | .cell a t=>(match fv P t with|true=>.c (iu a) (gI P t) (P.cellsOf t)|false=>.bad)
def vm(T:Tr)(h:aa):List RR→Option (List AV)
 | []=>some []
 | .t p:: r=>(match vm T h r with|some l=>some (jd p T:: l)|none=>none)
 | .c p g sz:: r=>(match Cx g sz (jd p T) h,vm T h r with|some v,some l=>some (v:: l)|_,_=>none)
 | .bad:: _=>none
theorem E9{P:Program}{T:Tr}{st:St}(hf:Fits st.fr T):∀(rs:List ResultVar) (l:List AV) (K:List AV→Prop),vm T st.h (rs.map (cR P))=some l→K l→uf P st rs K
 | [],l,K,e,hk=>by simp only[List.map_nil,vm,ON]at e;subst e;exact hk
 | .tmp t:: rs,l,K,e,hk=>by
   simp only[IF,cR,vm]at e;split at e
   ·rename_i l' hl;cases e;refine E9 hf rs l' _ hl ?_;have:ak st.fr (.tmp t)=jd (iu t) T:=hf t;rw[this];exact hk
   ·cases e
 | .cell a t:: rs,l,K,e,hk=>by
   simp only[IF,cR]at e;cases ht:fv P t with
   | false=>rw[ht]at e;simp[vm]at e
   | true =>
     rw[ht]at e;simp only[vm]at e;split at e
     ·rename_i v l' hv hl;cases e;simp only[uf,ht];have:ak st.fr (.tmp a)=jd (iu a) T:=hf a;rw[this];exact HY hv (E9 hf rs l' _ hl hk)
     ·cases e
/-! ### Functions -/
structure Tw where
 code:RC
 rs:List RR
 n:Nat
def cF(P:Program)(own:Nat→Nat→Nat→Bool)(f:FuncId):Option Tw:=
 match P.funcs[f]? with
 | some fn=>(match fn.body,cd P f with
   | some c,true=>some ⟨cC P (own f) fn.ntmps c,fn.results.toList.map (cR P),fn.ntmps⟩
   | _,_=>none)
 | none=>none
def GJ(call:aZ)(F:Nat)(g:Tw)(args:List AV)(h:aa):Option Out:=
 match Nat.ble (ie args) g.n with
 | true=>run call F g.code (Ca args 0) h (fun e T h=>match e with
   | .normal=>(match vm T h g.rs with|some l=>some (lU l,h)|none=>none)
   | .ret=>(match vm T h g.rs with|some l=>some (lU l,h)|none=>none)
   | _=>none)
 | false=>none
theorem tj.YW{n:Nat}{rs:List ResultVar}(F:tj P f c n rs)(hl:args.length≤n)
 (q:AW P h.length c (wC P rs fun r h' => ∃r' h'',Wk h.length [r] h' [r'] h''∧K r' h'') ⟨n,mM args 0,h⟩):dY P f args h K:=by
 obtain⟨fn,hf,hb,hrs,hn,_⟩:=F;subst hrs;intro base ι S w vs h1 h2;have hlen:=h1.length;refine calls_of_wp hf hb (wp_mono (q base ι S _ w (aS _) ⟨rfl,by simp[hn];omega,Eb h1 _,h2⟩) ?_);rintro e a' w' ⟨ι',S',st',hE,hm,hr,hq⟩;have fin:uf P st' fn.results.toList (fun l=>∃r' h'',Wk h.length [lU l] st'.h [r'] h''∧K r' h'')→a'.defers=[]∧∃v,(results fn a'.tmps).run P w'=.ok v w' ∧
  ∃u ι'' S'' r h',Ending.returned v=.returned u∧cc h.length base ι S w ι'' S'' w'∧ax ι'' S'' w' r u∧dN base ι'' S'' w' h'∧h.length≤h'.length∧K r h':=by
  intro hq;obtain⟨l,us,e1,rl,r',h'',⟨wk1,wk2,wk3⟩,k⟩:=pe (P:=P) hr fn.results.toList _ hq;have hv:ax ι' S' w' (lU l) (if hh:us.length=1 then us[0] else .tuple us.toArray):=by
   have hl:=rl.length
   match l,us,hl,rl with
   | [],[],_,_=>simp only[lU];rw[ax];exact⟨[],rfl,by simp⟩
   | [x],[u],_,rl=>simp at rl;simpa[lU]using rl
   | x:: y:: l,u:: v:: us,_,rl=>simp only[lU];rw[ax];exact⟨u:: v:: us,by simp,rl⟩
  obtain⟨ι2,S2,hE2,hs2,hp2⟩:=wk3 base ι' S' w' [_] ((dc _ _ _ _).2 ⟨hv,by simp⟩) hr.hp;refine⟨hr.df,if hh:us.length=1 then us[0] else .tuple us.toArray, ?_,_,ι2,S2,r',h'',rfl,hE.trans hE2,((dc _ _ _ _).1 hs2).1,hp2,wk1,k⟩;rw[xy,←Array.toArray_toList (xs:=fn.results),List.mapM_toArray];simp only[acI,Sem.run_map,e1,acH,acJ]
  by_cases hh:us.length=1<;>simp[hh]
 cases e with
 | normal=>exact fin hq
 | ret=>exact fin hq
 | _=>exact hq.elim
theorem abk{g:Tw}(h:cF P own f=some g):∃c rs,tj P f c g.n rs∧g.code=cC P (own f) g.n c∧g.rs=rs.map (cR P):=by
 unfold cF at h;split at h
 ·rename_i fn hf;split at h
  ·rename_i c hb hh;cases h;exact⟨c,fn.results.toList,⟨fn,hf,hb,rfl,rfl,hh⟩,rfl,rfl⟩
  ·cases h
 ·cases h
theorem HE{F:Nat}{g:Tw}{h h1:aa}{v:AV}(hc:dZ P call)(hg:cF P own f=some g)(e:GJ call F g args h=some (v,h1))
 (hk:h.length≤h1.length→∃r' h'',Wk h.length [v] h1 [r'] h''∧K r' h''):cd P f=true∧dY P f args h K:=by
 obtain⟨c,rs,hF,ec,er⟩:=abk hg;unfold GJ at e;split at e
 ·rename_i hl;rw[acK,eX]at hl;refine⟨hF.hb,hF.YW hl ?_⟩;rw[ec]at e;refine AW.Dx (lK hc c _ ⟨g.n,mM args 0,h⟩ _ (v,h1) h.length rfl (FR args 0) e) fun ex st' hm k=>?_;obtain⟨hn',T',hf',e'⟩:=k;have fin:(match vm T' st'.h g.rs with|some l=>some (lU l,st'.h)|none=>none)=some (v,h1)→uf P st' rs fun l=>∃r' h'',Wk h.length [lU l] st'.h [r'] h''∧K r' h'':=by
   intro e';split at e'
   ·rename_i l hl';simp only[ON,aaZ]at e';obtain⟨rfl,rfl⟩:=e';rw[er]at hl';exact E9 hf' rs l _ hl' (hk hm)
   ·cases e'
  cases ex with
  | normal=>exact fin e'
  | ret=>exact fin e'
  | exit i=>cases e'
  | goto l=>cases e'
  | panic ch=>cases e'
  | outgrown=>cases e'
 ·cases e
/-! ### What is told behind a call -/
def jk(a:AV):Nat:=
 AV.rec (motive_1:=fun _=>Nat) (motive_2:=fun _=>Nat) (motive_3:=fun _=>Nat)
  (fun _=>0) (fun _=>0) 0 (fun _ ih=>ih) (fun _ ih=>ih) 0 (fun _ _ ih=>ih) (fun id _ _ ih=>match Nat.ble ih id with|true=>id+1|false=>ih) (fun _ ih=>ih) (fun id _ _ _=>id+1) (fun id _=>id+1)
  (fun _ _ _ ih1 ih2=>match Nat.ble ih1 ih2 with|true=>ih2|false=>ih1) (fun _ _ ih=>ih) (fun id=>id+1)
  0 (fun _ _ ih1 ih2=>match Nat.ble ih1 ih2 with|true=>ih2|false=>ih1) 0 (fun _ _ ih1 ih2=>match Nat.ble ih1 ih2 with|true=>ih2|false=>ih1) a
omit [Laid] in
theorem Z5{a b n:Nat}(h:(match Nat.ble a b with|true=>b|false=>a)≤n):a≤n∧b≤n:=by
 split at h
 ·rename_i e;rw[acK]at e;omega
 ·rename_i e;have:¬a≤b:=fun q=>by rw[←acK]at q;rw[q]at e;cases e
  omega
omit [Laid] in
theorem mx3{a j n:Nat}(h:(match Nat.ble a j with|true=>j+1|false=>a)≤n):a≤n∧j<n:=by
 split at h
 ·rename_i e;rw[acK]at e;have h:j<n:=h;exact⟨by omega,h⟩
 ·rename_i e;have:¬a≤j:=fun q=>by rw[←acK]at q;rw[q]at e;cases e
  omega
omit [Laid] in
theorem se(n:Nat)(a:AV):jk a≤n→Bd n a:=by
 refine AV.rec (motive_1:=fun a=>jk a≤n→Bd n a) (motive_2:=fun l=>jk (.agg l)≤n→gU n l) (motive_3:=fun r=>jk (.sl 0 r)≤n→pN n r) ?_ ?_ ?_ ?_ ?_ ?_ ?_ ?_ ?_ ?_ ?_ ?_ ?_ ?_ ?_ ?_ ?_ ?_ a
 ·intro x _;simp[Bd]
 ·intro x _;simp[Bd]
 ·intro _;simp[Bd]
 ·intro cs ih h;rw[Bd];exact ih h
 ·intro cs ih h;rw[Bd];exact ih h
 ·intro _;simp[Bd]
 ·intro sz rows ih h;rw[Bd];exact ih h
 ·intro id sz rows ih h;rw[Bd];have:=mx3 (a:=jk (.sl 0 rows)) (j:=id) h;exact⟨this.2,ih this.1⟩
 ·intro cs ih h;rw[Bd];exact ih h
 ·intro id off len sz h;rw[Bd];have h:id+1≤n:=h;omega
 ·intro id off h;rw[Bd];have h:id+1≤n:=h;omega
 ·intro f xs ys ih1 ih2 h;rw[Bd];have:=Z5 (a:=jk (.agg xs)) (b:=jk (.agg ys)) h;exact⟨ih1 this.1,ih2 this.2⟩
 ·intro t x ih h;rw[Bd];exact ih h
 ·intro id h;rw[Bd];have h:id+1≤n:=h;omega
 ·intro _;simp[gU]
 ·intro x l ih1 ih2 h;rw[gU];have:=Z5 (a:=jk x) (b:=jk (.agg l)) h;exact⟨ih1 this.1,ih2 this.2⟩
 ·intro _;simp[pN]
 ·intro x l ih1 ih2 h;rw[pN];have:=Z5 (a:=jk (.agg x)) (b:=jk (.sl 0 l)) h;exact⟨ih1 this.1,ih2 this.2⟩
omit [Laid] in
theorem tz(a:AV):Bd 0 a→Pure a:=by
 refine AV.rec (motive_1:=fun a=>Bd 0 a→Pure a) (motive_2:=fun l=>gU 0 l→bf l) (motive_3:=fun r=>pN 0 r→du r) ?_ ?_ ?_ ?_ ?_ ?_ ?_ ?_ ?_ ?_ ?_ ?_ ?_ ?_ ?_ ?_ ?_ ?_ a;all_goals intros
 all_goals simp_all [Bd,gU,pN,Pure,bf,du]
omit [Laid] in
theorem nr(n:Nat):∀l,gU n l↔∀a∈l,Bd n a
 | []=>by simp[gU]
 | a:: l=>by rw[gU,nr n l];simp
def qn:List (Nat×AV×AV)→List AV
 | []=>[]
 | (_,k,c):: r=>k:: c:: qn r
omit [Laid] in
theorem EX:∀{es:List (Nat×AV×AV)} {p:Nat×AV×AV},p∈es→p.2.1∈qn es∧p.2.2∈qn es
 | (n,k,c):: r,p,h=>by
  rcases IS.1 h with rfl|h
  ·simp[qn]
  ·have:=EX h;simp[qn,this.1,this.2]
def gr(M:Nat)(e:dh):Prop:=match e with|.aC b=>gU M b.cells|.mp _ es=>gU M (qn es)|.it m _ _ _=>m<M|_=>True
def tG(e:dh):Nat:=match e with|.aC b=>jk (.agg b.cells)|.mp _ es=>jk (.agg (qn es))|.it m _ _ _=>m+1|_=>0
omit [Laid] in
theorem VB{M:Nat}{e:dh}(h:tG e≤M):gr M e:=by
 cases e with
 | aC b=>have:=se M (.agg b.cells) h;rw[Bd]at this;exact this
 | tok=>trivial
 | dead=>trivial
 | mp c es=>have:=se M (.agg (qn es)) h;rw[Bd]at this;exact this
 | it m s sn l=>have h:m+1≤M:=h;show m<M;omega
theorem dN.cut{S:ba}{M:Nat}(hh:dN base ι S w h)(hM:M≤h.length)(hb:∀e∈h.take M,gr M e):
 cc M base ι S w (ι.take M) (jS M ι S h) w∧dN base (ι.take M) (jS M ι S h) w (h.take M):=by
 obtain⟨hE,hT⟩:=hh.told hM;refine⟨hE, ?_⟩;have pre:∀{i:Nat},i<M→(ι.take M)[i]?=ι[i]?:=fun q=>by rw[To,if_pos q]
 have tF:∀{i:Nat} {x:dh},(h.take M)[i]?=some x→i<M∧h[i]?=some x∧(we M h)[i]?=some (Gv M h x):=by
  intro i x e;rw[To]at e;split at e
  ·rename_i q;exact⟨q,e,by simp only[we,lE,To,if_pos q,e,acV]⟩
  ·cases e
 have alv:∀{i:Nat},alive (h.take M)[i]?→alive (we M h)[i]?:=by
  intro i ha;cases e:(h.take M)[i]? with
  | none=>rw[e]at ha;exact ha.elim
  | some x =>
    rw[(tF e).2.2];rw[e]at ha;cases x with
    | it m s sn l =>
      have:gr M (.it m s sn l):=hb _ (gO e);have:m<M:=this;simp only[Gv,if_pos this];trivial
    | dead=>exact ha
    | _=>exact trivial
 refine⟨by simp[hh.len],fun id x e=>?_,fun id t sz n e=>?_,fun id en e=>?_,fun i j b ai aj hi hj=>hT.inj i j b (alv ai) (alv aj) hi hj,hT.iX,hh.kG,hh.gl.gW hE⟩;rotate_left 2
 ·obtain⟨q,e1,e2⟩:=tF e;have hbd:gr M en:=hb _ (gO e);have hTo:=hT.qp id _ e2;have hho:=hh.qp id en e1;cases en with
  | aC=>trivial
  | tok=>trivial
  | dead=>trivial
  | mp c es =>
    obtain⟨b,arr,h1,h2,h3,h4,_⟩:=hTo;obtain⟨b',arr',k1,_,k3,_,k5⟩:=hho;rw[pre q,k1]at h1;cases h1;rw[k3]at h3;cases h3;exact⟨b,arr,(pre q).trans k1,h2,k3,h4,k5.bd fun p hp=>⟨fun y=>ax.jn hE _ y ((nr M _).1 hbd _ (EX hp).1),fun y=>ax.jn hE _ y ((nr M _).1 hbd _ (EX hp).2)⟩⟩
  | it m s sn l =>
    have hm:m<M:=hbd;simp only[Gv,if_pos hm]at hTo;exact hTo
 ·obtain⟨q,e1,e2⟩:=tF e;obtain⟨b,arr,fz,h1,h2,h3,h4,h5,h6,h7,h8,h9⟩:=hT.live id _ e2;refine⟨b,arr,fz,h1,h2,h3,h4,by simpa using h5,fun i c ec=>?_,h7,fun o ho=>by simpa using h8 o ho,fun hw o ho=>h9 hw o (by simpa using ho)⟩;obtain⟨b',arr',fz',k1,k2,k3,k4,k5,k6,_⟩:=hh.live id x e1;rw[pre q,k1]at h1;cases h1;rw[k3]at h3;cases h3;obtain⟨v,e3,r⟩:=k6 i c ec;have hbd:gr M (.aC x):=hb _ (gO e);exact⟨v,e3,ax.jn hE c v ((nr M x.cells).1 hbd c (gO ec)) r⟩
 ·obtain⟨q,e1,e2⟩:=tF e;exact hT.tok id t sz n e2
def xI(M:Nat)(h:aa)(a:AV):AV:=match Nat.ble (jk a) M with|true=>a|false=>tl M h 6 a
theorem Wk.cut{L M:Nat}{h:aa}{v:AV}(hL:L≤M)(hM:M≤h.length)(hb:∀e∈h.take M,gr M e):Wk L [v] h [xI M h v] (h.take M):=
 ⟨by simp;omega,rfl,fun base ι S w vs r k=>by
  obtain⟨hE,hT⟩:=k.cut hM hb;refine⟨_,_,hE.mono hL (aS _), ?_,hT⟩;obtain⟨u,rfl⟩:∃u,vs=[u]:=by
   cases vs with
   | nil=>simp at r
   | cons u us=>simp at r;exact⟨u,by rw[r.2]⟩
  simp only[dc,kF,and_true]at r ⊢;unfold xI;split
  ·rename_i e;rw[acK]at e;exact ax.jn hE v u (se M v e) r
  ·exact ax.tl k 6 v u r⟩
def vU(l:aa):Nat:=List.rec (motive:=fun _=>Nat) 0 (fun e _ ih=>match Nat.ble (tG e) ih with|true=>ih|false=>tG e) l
omit [Laid] in
theorem Z6(l:aa):∀e∈l,tG e≤vU l:=by
 induction l with
 | nil=>intro e h;cases h
 | cons x l ih =>
   intro e he;have hx:tG x≤vU (x:: l)∧vU l≤vU (x:: l):=by
    show tG x≤(match Nat.ble (tG x) (vU l) with|true=>vU l|false=>tG x)∧vU l≤(match Nat.ble (tG x) (vU l) with|true=>vU l|false=>tG x);split
    ·rename_i e;rw[acK]at e;exact⟨e,aS _⟩
    ·rename_i e;have:¬tG x≤vU l:=fun q=>by rw[←acK]at q;rw[q]at e;cases e
     omega
   rcases IS.1 he with rfl|he
   ·exact hx.1
   ·exact acx (ih e he) hx.2
def ae5(a b:Nat):Nat:=match Nat.ble a b with|true=>b|false=>a
def T0(h:aa):Nat→Nat→Nat
 | 0,M=>M
 | k+1,M=>match Nat.ble (vU (qy M h)) M with|true=>M|false=>T0 h k (vU (qy M h))
def Rf(L:Nat)(keepRes:Bool)(v:AV)(h:aa):AV×aa:=
 match Nat.beq (ie h) L with
 | true=>(v,h)
 | false=>match T0 h 4 (match keepRes with|true=>ae5 L (jk v)|false=>L) with
   | M=>match Nat.ble (vU (qy M h)) M,Nat.ble L M,pH M h with
     | true,true,true=>(xI M h v,qy M h)
     | _,_,_=>(v,h)
theorem U0{L:Nat}{kr:Bool}{v v':AV}{h h':aa}(hL:L≤h.length)(e:Rf L kr v h=(v',h')):Wk L [v] h [v'] h':=by
 unfold Rf at e;split at e
 ·cases e;exact Wk.refl _ _ _ hL
 ·simp only at e;split at e
  ·rename_i e1 e2 e3;cases e;rw[rH]at e1 ⊢;rw[acK]at e1 e2;exact Wk.cut e2 ((kI _ _).1 e3) fun x hx=>VB (acx (Z6 _ x hx) e1)
  ·cases e;exact Wk.refl _ _ _ hL
/-! ### Calls -/
structure yf where
 own:Nat→Nat→Nat→Bool
 kL:Nat→Bool
 fuel:Nat
def jJ(args:List AV):Bool:=qc (fun a=>match jk a with|0=>true|_=>false) args
def BT(P:Program)(C:yf)(call:aZ)(f:FuncId)(args:List AV)(h:aa):Option (AV×Option aa):=
 match cF P C.own f with
 | none=>none
 | some g=>(match jJ args,C.kL f with
   | true,false=>(match GJ call C.fuel g args [] with
     | some (v,h1)=>(match jk (xI 0 h1 v) with|0=>some (xI 0 h1 v,none)|_=>none)
     | none=>none)
   | _,kr=>(match GJ call C.fuel g args h with
     | some (v,h1)=>(match Rf (ie h) kr v h1 with|(v',h')=>some (v',some h'))
     | none=>none))
def sN(P:Program)(C:yf)(known:aZ)(d:Nat):aZ:=
 Nat.rec (motive:=fun _=>aZ) (fun _ _ _=>none) (fun _ ih f args h=>match known f args h with|some r=>some r|none=>BT P C ih f args h) d
theorem JW{C:yf}(hc:dZ P call):dZ P (BT P C call):=by
 intro f args h v oh e;unfold BT at e;split at e
 ·cases e
 ·rename_i g hg;split at e
  ·rename_i hp hk;split at e
   ·rename_i v0 h0 hb;split at e
    ·rename_i hm;cases e;have pure:bf args:=by
      unfold jJ at hp;rw[iU]at hp;have:∀a∈args,Bd 0 a:=fun a ha=>by
       have:=By.1 hp a ha;split at this
       ·rename_i z;exact se 0 a (by omega)
       ·cases this
      have h2:Pure (.agg args):=tz _ (by rw[Bd];exact (nr 0 args).2 this);rw[Pure]at h2;exact h2
     have hcon:cd P f=true∧dY P f args [] fun r' _=>r'=xI 0 h0 v0:=HE hc hg hb fun _=>⟨_,_,Wk.cut (aS 0) (acr _) (by simp),rfl⟩;have C':aP P f args (xI 0 h0 v0):=⟨pure,tz _ (se 0 _ (by omega)),hcon.2⟩;exact .inl ⟨hcon.1,C'.call ⟨rfl,rfl⟩⟩
    ·cases e
   ·cases e
  ·split at e
   ·rename_i v0 h0 hb;split at e;rename_i v' h' hq;simp only[ON,aaZ]at e;obtain⟨rfl,rfl⟩:=e;rw[eX]at hq;exact .inl (HE hc hg hb fun hl=>⟨_,_,U0 hl hq,rfl,rfl⟩)
   ·cases e
theorem AQ{P:Program}{C:yf}{known:aZ}(hk:dZ P known):∀d,dZ P (sN P C known d)
 | 0=>fun f args h v oh e=>by simp[sN]at e
 | d+1=>fun f args h v oh e=>by
   simp only[sN]at e;split at e
   ·rename_i r hr;cases e;exact hk f args h v oh hr
   ·exact JW (AQ hk d) f args h v oh e
theorem uz{C:yf}{known:aZ}(hk:dZ P known){d:Nat}{r:AV}(pa:jJ args=true)(pr:jJ [r]=true)(hb:cd P f=true)(e:sN P C known d f args []=some (r,none)):aP P f args r:=by
 have p:∀l:List AV,jJ l=true→bf l:=fun l hp=>by
  unfold jJ at hp;rw[iU]at hp;have:∀a∈l,Bd 0 a:=fun a ha=>by
   have:=By.1 hp a ha;split at this
   ·rename_i z;exact se 0 a (by omega)
   ·cases this
  have h2:Pure (.agg l):=tz _ (by rw[Bd];exact (nr 0 l).2 this);rw[Pure]at h2;exact h2
 have pr':=p [r] pr;rw[bf]at pr';rcases (AQ hk d) f args [] r none e with⟨_,hA⟩|hA
 ·exact⟨p args pa,pr'.1,hA.mono fun r' hh q=>q.1⟩
 ·rw[hA.1]at hb;cases hb
end
end Go.Aw
namespace Go.Proofs.YtldpambpnajgiaaGreatDoor
section
open Go Go.Aw
def u8s(l:List Nat):List AV:=l.map fun n=>.v (.int .u8 (Int.ofNat n))
def spL:List Nat:=[0,0,0,0,0,0,0,0,0,1,1,1,1,1,0,0,0,0,0,0,0,0,0,0,0,0,0,0,0,0,0,0,1,0,0,0,0,0,0,0,0,0,0,0,0,0,0,0,0,0,0,0,0,0,0,0,0,0,0,0,0,0,0,0,0,0,0,0,0,0,0,0,0,0,0,0,0,0,0,0,0,0,0,0,0,0,0,0,0,0,0,0,0,0,0,0,0,0,0,0,0,0,0,0,0,0,0,0,0,0,0,0,0,0,0,0,0,0,0,0,0,0,0,0,0,0,0,0,0,0,0,0,0,0,0,0,0,0,0,0,0,0,0,0,0,0,0,0,0,0,0,0,0,0,0,0,0,0,0,0,0,0,0,0,0,0,0,0,0,0,0,0,0,0,0,0,0,0,0,0,0,0,0,0,0,0,0,0,0,0,0,0,0,0,0,0,0,0,0,0,0,0,0,0,0,0,0,0,0,0,0,0,0,0,0,0,0,0,0,0,0,0,0,0,0,0,0,0,0,0,0,0,0,0,0,0,0,0,0,0,0,0,0,0,0,0,0,0,0,0,0,0,0,0,0,0]
def Js:Nat→Option (List AV):=fun g=>match g with
 | 0=>some (u8s spL)
 | _=>none
theorem Qy:∀g cs,Js g=some cs→bf cs:=fun g cs h=>by
 unfold Js at h;split at h
 ·cases h;simp[u8s,spL,bf,Aw.Pure]
 ·cases h
instance aia:Laid:=⟨Js,Qy⟩
def cfg:yf:=⟨fun _ _ _=>false,fun _=>false,100000⟩
def Pj:aZ:=fun _ _ _=>none
theorem Pk:dZ p_ Pj:=by
 intro f args hp v oh e;cases e
theorem oy{f:Nat}{args:List AV}{r:AV}(pa:jJ args=true)(pr:jJ [r]=true)(hb:cd p_ f=true)(h:sN p_ cfg Pj 80 f args []=some (r,none)):aP p_ f args r:=uz Pk pa pr hb h
theorem tb0:aP p_ 53 [.str [97,117,116,111]] (.agg [.v (.int .u8 1),.str [97,117,116,111],i_ 0,.v (.int .u8 0),.v (.int .u8 0),.v (.int .u8 0),.v (.int .u8 0)]):=oy (by kernel_rfl) (by kernel_rfl) (by kernel_rfl) (by kernel_rfl)
theorem tb1:aP p_ 54 [.str [99,111,108,111,114],.v (.bool true),.agg [.v (.int .u8 7),.str [],i_ 0,.v (.int .u8 0),.v (.int .u8 0),.v (.int .u8 0),.v (.int .u8 255)]] (.agg [.str [99,111,108,111,114],.v (.bool true),.v (.int .u8 7),.str [],i_ 0,.v (.int .u8 0),.v (.int .u8 0),.v (.int .u8 0),.v (.int .u8 255),.v (.slice none 0 0),.sl 1 [[.v (.int .u8 7)],[.v (.int .u8 8)]],.v (.bool false)]):=oy (by kernel_rfl) (by kernel_rfl) (by kernel_rfl) (by kernel_rfl)
theorem tb2:aP p_ 54 [.str [98,97,99,107,103,114,111,117,110,100,45,99,111,108,111,114],.v (.bool false),.agg [.v (.int .u8 7),.str [],i_ 0,.v (.int .u8 0),.v (.int .u8 0),.v (.int .u8 0),.v (.int .u8 0)]] (.agg [.str [98,97,99,107,103,114,111,117,110,100,45,99,111,108,111,114],.v (.bool false),.v (.int .u8 7),.str [],i_ 0,.v (.int .u8 0),.v (.int .u8 0),.v (.int .u8 0),.v (.int .u8 0),.v (.slice none 0 0),.sl 1 [[.v (.int .u8 7)],[.v (.int .u8 8)]],.v (.bool false)]):=oy (by kernel_rfl) (by kernel_rfl) (by kernel_rfl) (by kernel_rfl)
theorem tb3:aP p_ 54 [.str [98,111,114,100,101,114,45,99,111,108,111,114],.v (.bool false),.agg [.v (.int .u8 8),.str [],i_ 0,.v (.int .u8 0),.v (.int .u8 0),.v (.int .u8 0),.v (.int .u8 0)]] (.agg [.str [98,111,114,100,101,114,45,99,111,108,111,114],.v (.bool false),.v (.int .u8 8),.str [],i_ 0,.v (.int .u8 0),.v (.int .u8 0),.v (.int .u8 0),.v (.int .u8 0),.v (.slice none 0 0),.sl 1 [[.v (.int .u8 7)],[.v (.int .u8 8)]],.v (.bool false)]):=oy (by kernel_rfl) (by kernel_rfl) (by kernel_rfl) (by kernel_rfl)
theorem tb4:aP p_ 54 [.str [111,117,116,108,105,110,101,45,99,111,108,111,114],.v (.bool false),.agg [.v (.int .u8 8),.str [],i_ 0,.v (.int .u8 0),.v (.int .u8 0),.v (.int .u8 0),.v (.int .u8 0)]] (.agg [.str [111,117,116,108,105,110,101,45,99,111,108,111,114],.v (.bool false),.v (.int .u8 8),.str [],i_ 0,.v (.int .u8 0),.v (.int .u8 0),.v (.int .u8 0),.v (.int .u8 0),.v (.slice none 0 0),.sl 1 [[.v (.int .u8 7)],[.v (.int .u8 8)]],.v (.bool false)]):=oy (by kernel_rfl) (by kernel_rfl) (by kernel_rfl) (by kernel_rfl)
theorem tb6:aP p_ 55 [.str [100,105,115,112,108,97,121],.v (.bool false),.str [105,110,108,105,110,101],.str [98,108,111,99,107,32,102,108,101,120,32,105,110,108,105,110,101,32,105,110,108,105,110,101,45,98,108,111,99,107,32,110,111,110,101]] (.agg [.str [100,105,115,112,108,97,121],.v (.bool false),.v (.int .u8 1),.str [105,110,108,105,110,101],i_ 0,.v (.int .u8 0),.v (.int .u8 0),.v (.int .u8 0),.v (.int .u8 0),.sl 1 [[.str [98,108,111,99,107]],[.str [102,108,101,120]],[.str [105,110,108,105,110,101]],[.str [105,110,108,105,110,101,45,98,108,111,99,107]],[.str [110,111,110,101]]],.v (.slice none 0 0),.v (.bool false)]):=oy (by kernel_rfl) (by kernel_rfl) (by kernel_rfl) (by kernel_rfl)
theorem tb8:aP p_ 55 [.str [118,105,115,105,98,105,108,105,116,121],.v (.bool true),.str [118,105,115,105,98,108,101],.str [99,111,108,108,97,112,115,101,32,104,105,100,100,101,110,32,118,105,115,105,98,108,101]] (.agg [.str [118,105,115,105,98,105,108,105,116,121],.v (.bool true),.v (.int .u8 1),.str [118,105,115,105,98,108,101],i_ 0,.v (.int .u8 0),.v (.int .u8 0),.v (.int .u8 0),.v (.int .u8 0),.sl 1 [[.str [99,111,108,108,97,112,115,101]],[.str [104,105,100,100,101,110]],[.str [118,105,115,105,98,108,101]]],.v (.slice none 0 0),.v (.bool false)]):=oy (by kernel_rfl) (by kernel_rfl) (by kernel_rfl) (by kernel_rfl)
theorem tb9:aP p_ 56 [.str [119,105,100,116,104],.v (.bool false),.agg [.v (.int .u8 1),.str [97,117,116,111],i_ 0,.v (.int .u8 0),.v (.int .u8 0),.v (.int .u8 0),.v (.int .u8 0)],.str [97,117,116,111],.v (.bool true),.v (.slice none 0 0)] (.agg [.str [119,105,100,116,104],.v (.bool false),.v (.int .u8 1),.str [97,117,116,111],i_ 0,.v (.int .u8 0),.v (.int .u8 0),.v (.int .u8 0),.v (.int .u8 0),.sl 1 [[.str [97,117,116,111]]],.sl 1 [[.v (.int .u8 2)],[.v (.int .u8 3)],[.v (.int .u8 4)]],.v (.bool true)]):=oy (by kernel_rfl) (by kernel_rfl) (by kernel_rfl) (by kernel_rfl)
theorem afg:aP p_ 56 [.str [104,101,105,103,104,116],.v (.bool false),.agg [.v (.int .u8 1),.str [97,117,116,111],i_ 0,.v (.int .u8 0),.v (.int .u8 0),.v (.int .u8 0),.v (.int .u8 0)],.str [97,117,116,111],.v (.bool true),.v (.slice none 0 0)] (.agg [.str [104,101,105,103,104,116],.v (.bool false),.v (.int .u8 1),.str [97,117,116,111],i_ 0,.v (.int .u8 0),.v (.int .u8 0),.v (.int .u8 0),.v (.int .u8 0),.sl 1 [[.str [97,117,116,111]]],.sl 1 [[.v (.int .u8 2)],[.v (.int .u8 3)],[.v (.int .u8 4)]],.v (.bool true)]):=oy (by kernel_rfl) (by kernel_rfl) (by kernel_rfl) (by kernel_rfl)
theorem afh:aP p_ 56 [.str [109,97,114,103,105,110,45,116,111,112],.v (.bool false),.agg [.v (.int .u8 2),.str [],i_ 0,.v (.int .u8 0),.v (.int .u8 0),.v (.int .u8 0),.v (.int .u8 0)],.str [97,117,116,111],.v (.bool false),.v (.slice none 0 0)] (.agg [.str [109,97,114,103,105,110,45,116,111,112],.v (.bool false),.v (.int .u8 2),.str [],i_ 0,.v (.int .u8 0),.v (.int .u8 0),.v (.int .u8 0),.v (.int .u8 0),.sl 1 [[.str [97,117,116,111]]],.sl 1 [[.v (.int .u8 2)],[.v (.int .u8 3)],[.v (.int .u8 4)]],.v (.bool false)]):=oy (by kernel_rfl) (by kernel_rfl) (by kernel_rfl) (by kernel_rfl)
theorem afi:aP p_ 56 [.str [109,97,114,103,105,110,45,114,105,103,104,116],.v (.bool false),.agg [.v (.int .u8 2),.str [],i_ 0,.v (.int .u8 0),.v (.int .u8 0),.v (.int .u8 0),.v (.int .u8 0)],.str [97,117,116,111],.v (.bool false),.v (.slice none 0 0)] (.agg [.str [109,97,114,103,105,110,45,114,105,103,104,116],.v (.bool false),.v (.int .u8 2),.str [],i_ 0,.v (.int .u8 0),.v (.int .u8 0),.v (.int .u8 0),.v (.int .u8 0),.sl 1 [[.str [97,117,116,111]]],.sl 1 [[.v (.int .u8 2)],[.v (.int .u8 3)],[.v (.int .u8 4)]],.v (.bool false)]):=oy (by kernel_rfl) (by kernel_rfl) (by kernel_rfl) (by kernel_rfl)
theorem afj:aP p_ 56 [.str [109,97,114,103,105,110,45,98,111,116,116,111,109],.v (.bool false),.agg [.v (.int .u8 2),.str [],i_ 0,.v (.int .u8 0),.v (.int .u8 0),.v (.int .u8 0),.v (.int .u8 0)],.str [97,117,116,111],.v (.bool false),.v (.slice none 0 0)] (.agg [.str [109,97,114,103,105,110,45,98,111,116,116,111,109],.v (.bool false),.v (.int .u8 2),.str [],i_ 0,.v (.int .u8 0),.v (.int .u8 0),.v (.int .u8 0),.v (.int .u8 0),.sl 1 [[.str [97,117,116,111]]],.sl 1 [[.v (.int .u8 2)],[.v (.int .u8 3)],[.v (.int .u8 4)]],.v (.bool false)]):=oy (by kernel_rfl) (by kernel_rfl) (by kernel_rfl) (by kernel_rfl)
theorem afk:aP p_ 56 [.str [109,97,114,103,105,110,45,108,101,102,116],.v (.bool false),.agg [.v (.int .u8 2),.str [],i_ 0,.v (.int .u8 0),.v (.int .u8 0),.v (.int .u8 0),.v (.int .u8 0)],.str [97,117,116,111],.v (.bool false),.v (.slice none 0 0)] (.agg [.str [109,97,114,103,105,110,45,108,101,102,116],.v (.bool false),.v (.int .u8 2),.str [],i_ 0,.v (.int .u8 0),.v (.int .u8 0),.v (.int .u8 0),.v (.int .u8 0),.sl 1 [[.str [97,117,116,111]]],.sl 1 [[.v (.int .u8 2)],[.v (.int .u8 3)],[.v (.int .u8 4)]],.v (.bool false)]):=oy (by kernel_rfl) (by kernel_rfl) (by kernel_rfl) (by kernel_rfl)
theorem afl:aP p_ 56 [.str [102,111,110,116,45,115,105,122,101],.v (.bool true),.agg [.v (.int .u8 2),.str [],i_ 16000,.v (.int .u8 0),.v (.int .u8 0),.v (.int .u8 0),.v (.int .u8 0)],.str [],.v (.bool true),.v (.slice none 0 0)] (.agg [.str [102,111,110,116,45,115,105,122,101],.v (.bool true),.v (.int .u8 2),.str [],i_ 16000,.v (.int .u8 0),.v (.int .u8 0),.v (.int .u8 0),.v (.int .u8 0),.sl 1 [],.sl 1 [[.v (.int .u8 2)],[.v (.int .u8 3)],[.v (.int .u8 4)]],.v (.bool true)]):=oy (by kernel_rfl) (by kernel_rfl) (by kernel_rfl) (by kernel_rfl)
theorem afm:aP p_ 53 [.str [110,111,114,109,97,108]] (.agg [.v (.int .u8 1),.str [110,111,114,109,97,108],i_ 0,.v (.int .u8 0),.v (.int .u8 0),.v (.int .u8 0),.v (.int .u8 0)]):=oy (by kernel_rfl) (by kernel_rfl) (by kernel_rfl) (by kernel_rfl)
theorem afn:aP p_ 56 [.str [108,105,110,101,45,104,101,105,103,104,116],.v (.bool true),.agg [.v (.int .u8 1),.str [110,111,114,109,97,108],i_ 0,.v (.int .u8 0),.v (.int .u8 0),.v (.int .u8 0),.v (.int .u8 0)],.str [110,111,114,109,97,108],.v (.bool true),.sl 1 [[.v (.int .u8 5)]]] (.agg [.str [108,105,110,101,45,104,101,105,103,104,116],.v (.bool true),.v (.int .u8 1),.str [110,111,114,109,97,108],i_ 0,.v (.int .u8 0),.v (.int .u8 0),.v (.int .u8 0),.v (.int .u8 0),.sl 1 [[.str [110,111,114,109,97,108]]],.sl 1 [[.v (.int .u8 2)],[.v (.int .u8 3)],[.v (.int .u8 4)],[.v (.int .u8 5)]],.v (.bool true)]):=oy (by kernel_rfl) (by kernel_rfl) (by kernel_rfl) (by kernel_rfl)
theorem afo:aP p_ 55 [.str [116,101,120,116,45,97,108,105,103,110],.v (.bool true),.str [108,101,102,116],.str [99,101,110,116,101,114,32,106,117,115,116,105,102,121,32,108,101,102,116,32,114,105,103,104,116]] (.agg [.str [116,101,120,116,45,97,108,105,103,110],.v (.bool true),.v (.int .u8 1),.str [108,101,102,116],i_ 0,.v (.int .u8 0),.v (.int .u8 0),.v (.int .u8 0),.v (.int .u8 0),.sl 1 [[.str [99,101,110,116,101,114]],[.str [106,117,115,116,105,102,121]],[.str [108,101,102,116]],[.str [114,105,103,104,116]]],.v (.slice none 0 0),.v (.bool false)]):=oy (by kernel_rfl) (by kernel_rfl) (by kernel_rfl) (by kernel_rfl)
theorem afp:aP p_ 34 [.str [105,110,108,105,110,101]] (.agg [.v (.int .u8 1),.str [105,110,108,105,110,101],i_ 0,.v (.int .u8 0),.v (.int .u8 0),.v (.int .u8 0),.v (.int .u8 0)]):=oy (by kernel_rfl) (by kernel_rfl) (by kernel_rfl) (by kernel_rfl)
theorem afq:aP p_ 34 [.str [118,105,115,105,98,108,101]] (.agg [.v (.int .u8 1),.str [118,105,115,105,98,108,101],i_ 0,.v (.int .u8 0),.v (.int .u8 0),.v (.int .u8 0),.v (.int .u8 0)]):=oy (by kernel_rfl) (by kernel_rfl) (by kernel_rfl) (by kernel_rfl)
theorem NJ:aP p_ 35 [i_ 0] (.agg [.v (.int .u8 2),.str [],i_ 0,.v (.int .u8 0),.v (.int .u8 0),.v (.int .u8 0),.v (.int .u8 0)]):=oy (by kernel_rfl) (by kernel_rfl) (by kernel_rfl) (by kernel_rfl)
theorem afr:aP p_ 35 [i_ 16000] (.agg [.v (.int .u8 2),.str [],i_ 16000,.v (.int .u8 0),.v (.int .u8 0),.v (.int .u8 0),.v (.int .u8 0)]):=oy (by kernel_rfl) (by kernel_rfl) (by kernel_rfl) (by kernel_rfl)
theorem afs:aP p_ 34 [.str [110,111,114,109,97,108]] (.agg [.v (.int .u8 1),.str [110,111,114,109,97,108],i_ 0,.v (.int .u8 0),.v (.int .u8 0),.v (.int .u8 0),.v (.int .u8 0)]):=oy (by kernel_rfl) (by kernel_rfl) (by kernel_rfl) (by kernel_rfl)
theorem aft:aP p_ 34 [.str [108,101,102,116]] (.agg [.v (.int .u8 1),.str [108,101,102,116],i_ 0,.v (.int .u8 0),.v (.int .u8 0),.v (.int .u8 0),.v (.int .u8 0)]):=oy (by kernel_rfl) (by kernel_rfl) (by kernel_rfl) (by kernel_rfl)
end
section
open Go Go.Aw Go.ChangeShapes Go.WideShapes Go.ChangeAt Go.RowKit
variable{X:World→Array Value→Prop}{conds:List PathCond}{W:World}{s:OpenSpec}{C:Checked}{f:FuncId}{fn:Func}
theorem I5:ownKnob p_.godebug=none:=by kernel_rfl
theorem Iy:laidOutB p_=true:=by kernel_rfl
abbrev oJ:List (String×DataW Unit):=Rows.computeLocalRow.laid
theorem Gp(os:Os)(args:Array Value):laidMetH p_ oJ ((World.laidAll p_ os oJ).forCall (fun _ _=>0) ⟨#[],args,[]⟩).memory:=by
 rw[MakeChecks.laidMetH_plain _ _ _ (by kernel_rfl)];exact laidMet_laidAll _ (by kernel_rfl) (by kernel_rfl)
theorem zv(os:Os)(args:Array Value):((World.laidAll p_ os oJ).forCall (fun _ _=>0) ⟨#[],args,[]⟩).Shaped p_:=World.shaped_of_ZipB (by kernel_rfl) (by kernel_rfl)
def L0:List Int:=[0,0,0,0,0,0,0,0,0,1,1,1,1,1,0,0,0,0,0,0,0,0,0,0,0,0,0,0,0,0,0,0,1,0,0,0,0,0,0,0,0,0,0,0,0,0,0,0,0,0,0,0,0,0,0,0,0,0,0,0,0,0,0,0,0,0,0,0,0,0,0,0,0,0,0,0,0,0,0,0,0,0,0,0,0,0,0,0,0,0,0,0,0,0,0,0,0,0,0,0,0,0,0,0,0,0,0,0,0,0,0,0,0,0,0,0,0,0,0,0,0,0,0,0,0,0,0,0,0,0,0,0,0,0,0,0,0,0,0,0,0,0,0,0,0,0,0,0,0,0,0,0,0,0,0,0,0,0,0,0,0,0,0,0,0,0,0,0,0,0,0,0,0,0,0,0,0,0,0,0,0,0,0,0,0,0,0,0,0,0,0,0,0,0,0,0,0,0,0,0,0,0,0,0,0,0,0,0,0,0,0,0,0,0,0,0,0,0,0,0,0,0,0,0,0,0,0,0,0,0,0,0,0,0,0,0,0,0,0,0,0,0,0,0,0,0,0,0,0,0,0,0,0,0,0,0]
theorem N4(h:laidMetH p_ oJ W):Lib.TabIs p_ W "strings.asciiSpace" .u8 L0:=by
 rw[MakeChecks.laidMetH_plain _ _ _ (by kernel_rfl)]at h;obtain⟨ps,⟨_,_,_,_,_,_,_,_,_,_,⟨_,_,_,_,_,_,_,_,_,_,⟨_,_,_,_,_,_,_,_,_,_,⟨_,_,_,_,_,_,_,_,_,_,⟨_,_,_,_,_,_,_,_,_,_,⟨_,_,_,_,_,_,_,_,_,_,⟨g,t,cs,fuel,p,q,hg,ht,hv,hd,_,_⟩,_⟩,_⟩,_⟩,_⟩,_⟩,_⟩,_⟩:=h;obtain rfl:=Is ((show p_.globalNamed "strings.asciiSpace" = some 0 by kernel_rfl).symm.trans hg);obtain rfl:=Is ((show (p_.globals[0]?).map (·.type)=some 233 by kernel_rfl).symm.trans ht);unfold Lib.TabIs;rw[hv,←Lib.cells_of_tab (zs:=L0) Tryz.underlying233 Tryz.underlying5 (by kernel_rfl) (by kernel_rfl) hd]
theorem SY{P:Program}{name:String}{k:IntKind}{zs:List Int}{g:Nat}(h:Lib.TabIs P W name k zs)(hg:P.globalNamed name=some g):∃ty,W.shape? g=some (ty,zs.length):=by
 unfold Lib.TabIs World.var? at h;rw[hg,Option.bind_some]at h;split at h
 ·rename_i c t f hh;simp only[ON]at h;subst h;exact⟨t,by unfold World.shape?;rw[hh];simp⟩
 ·cases h
theorem Pe(h:laidMetH p_ oJ W):Fv (old W) W:=by
 intro g cs e;have e:Js g=some cs:=e;unfold Js at e;split at e
 ·cases e;exact⟨bZ.ints (W:=W) (g:=0) (k:=.u8) (zs:=L0) (fun i hi=>(N4 h).cell (by kernel_rfl) i hi),by simpa[L0,u8s,spL]using SY (N4 h) (g:=0) (by kernel_rfl)⟩
 ·cases e
theorem qH{H:Type}{enc:TypeId×Value→H}{a:Assume}{os:Os}{F:Stop.Interp}{k:(H:Type)→List (DataW H)→Bool}(hk:s.cond=some k){apart fresh handsOn again:Bool}
 (hX:∀(w w':World) (args:Array Value),w.heap=w'.heap→X w args→X w' args)
 (own:ownKnob C.prog.godebug=none) (started:os.Started) (noInit:C.prog.inits.idxOf? f=none) (hfn:C.prog.funcs[f]?=some fn)
 (witness:∃(w:World) (tape:Tape) (i:Input),w.os=os∧(w.forCall tape i).Shaped C.prog∧i.vars=[]∧Input.okWide C.prog (w.forCall tape i) .any w.heap.size f i ∧
  ((s.pre enc C.prog fn conds apart (w.forCall tape i).memory i.args∧X (w.forCall tape i).memory i.args)∧sizedMet enc C.prog fn s apart (w.forCall tape i).memory i.args)∧a.holds C.prog (lone (Frame.enter C.prog f i.args .normal) [] (w.forCall tape i)))
 (contract:∀(W:World) (base:Nat) (args:Array Value) (ds gs:List (DataW H)) (before:List MemPlace),
  (∀(j:Nat) t v,fn.params[j]?=some t→args[j]?=some v→Value.okWide C.prog W .any base t v) →
  DataW.Whole enc C.prog fn.params.toList s.vars apart W args.toList ds gs before→k H (ds++gs)=true→X W args→W.ShapedOpen C.prog →
  Calls C.prog f args W fun e W' => ∃v,e=.returned v∧(s.at F).post enc C.prog fn apart fresh handsOn again W args v W') :
 ReturnsInHanded a C os f .any (fun w args=>(s.pre enc C.prog fn conds apart w args∧X w args)∧sizedMet enc C.prog fn s apart w args) ((s.at F).post enc C.prog fn apart fresh handsOn again):=by
 refine returnsInHanded_of_calls own started noInit witness ?_;intro w tape i _ hsh _ hok hpre _;obtain⟨_,_,_,fn',hfn',_,_,_,_,hval⟩:=hok;obtain rfl:fn'=fn:=Is (hfn'.symm.trans hfn);obtain⟨⟨h0,hx⟩,_⟩:=hpre;obtain⟨ds,gs,before,hw,_,hkk⟩:=(OpenSpec.pre_some hk conds apart _ _).1 h0;refine (contract (w.forCall tape i) w.heap.size i.args ds gs before hval (DataW.Whole.of_heap (w':=w.forCall tape i) (by rfl) hw) hkk (hX _ _ _ (by rfl) hx) hsh).mono fun e W' ⟨v,he,hp⟩=>?_;subst he;exact ChangeSpec.post_blind hp
theorem zE{H:Type}{enc:TypeId×Value→H}{os:Os}{k:(H:Type)→List (DataW H)→Bool}(hk:s.cond=some k){apart:Bool}(modest:Bool)(w0:World)(args:Array Value)(fuel:Nat)(hos:w0.os=os)
 (hsh:(w0.forCall (fun _ _=>0) ⟨#[],args,[]⟩).Shaped C.prog)
 (hok:Input.okWideB C.prog (w0.forCall (fun _ _=>0) ⟨#[],args,[]⟩) f ⟨#[],args,[]⟩=true)
 {x:List (DataW H)×List (DataW H)×List MemPlace} (hx:DataW.whole enc C.prog (w0.forCall (fun _ _=>0) ⟨#[],args,[]⟩).memory fn.params.toList s.vars apart args.toList fuel=some x)
 (hconds:conds.all (PathCond.test C.prog ⟨fn.params.toList,x.1,s.bare.plain.varTypes C.prog,x.2.1⟩)=true) (hkk:k H (x.1++x.2.1)=true)
 (hsz:s.bare.sizedB enc C.prog fn apart (w0.forCall (fun _ _=>0) ⟨#[],args,[]⟩).memory args fuel=true)
 (hX:X (w0.forCall (fun _ _=>0) ⟨#[],args,[]⟩).memory args) :
 ∃(w:World) (tape:Tape) (i:Input),w.os=os∧(w.forCall tape i).Shaped C.prog∧i.vars=[]∧Input.okWide C.prog (w.forCall tape i) .any w.heap.size f i ∧
  ((s.pre enc C.prog fn conds apart (w.forCall tape i).memory i.args∧X (w.forCall tape i).memory i.args)∧sizedMet enc C.prog fn s apart (w.forCall tape i).memory i.args)∧({ modest:=modest }:Assume).holds C.prog (lone (Frame.enter C.prog f i.args .normal) [] (w.forCall tape i)):=
 ⟨w0,fun _ _=>0,⟨#[],args,[]⟩,hos,hsh,(Input.okWide_of_okWideB (base:=0) hok).1,(Input.okWide_of_okWideB hok).2,
  ⟨⟨(OpenSpec.pre_some hk conds apart _ _).2 ⟨x.1,x.2.1,x.2.2,DataW.Whole_of_whole hx,hconds,hkk⟩,hX⟩,sizedMet_of_sizedB hsz⟩,by
  simp only[Assume.holds];exact⟨by simp,by simp,fun _=>Modest.zero,by simp,by simp⟩⟩
end
end Go.Proofs.YtldpambpnajgiaaGreatDoor
end
