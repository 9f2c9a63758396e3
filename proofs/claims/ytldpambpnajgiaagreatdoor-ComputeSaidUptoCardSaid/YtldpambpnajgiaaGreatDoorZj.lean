/-
 Styles held against each other;the style without declarations,and the initial one.
 No conditions.
-/
import Derived.KernelRfl
import Derived.Test.YtldpambpnajgiaaGreatDoorProg
import Derived.Test.YtldpambpnajgiaaGreatDoorZh
import Derived.Test.YtldpambpnajgiaaGreatDoorZf
import Derived.Test.YtldpambpnajgiaaGreatDoorZi
import Derived.Test.YtldpambpnajgiaaGreatDoorZg
set_option linter.unusedVariables false
set_option linter.unusedSimpArgs false
set_option linter.unusedSectionVars false
set_option maxRecDepth 1000000
set_option maxHeartbeats 16000000
open Go.Proofs.Tryz renaming prog→p_
noncomputable section
namespace Go.Proofs.YtldpambpnajgiaaGreatDoor
section
open Go Go.Aw Go.dz
variable{K:AV→Prop}{rows:List (List AV)}{l:List Vl}{a b n e sz s m k:Nat}{x y:AV}{H:aa}{whole:aD}{row:List AV}{k':IntKind}
theorem qQ{cs:List AV}{h:aa}(e:x=.ip cs)(hn:n≤cs.length)(q:K (.agg (cs.take n))):ag true n x h K:=by
 subst e;rw[vM];exact⟨hn,q⟩
def vP:aZ:=fun f args _=>match Nat.beq f 28 with
 | true=>(match args with|[]=>some (.sl 12 lW,none)|_=>none)
 | false=>none
theorem F0:dZ p_ vP:=by
 intro f args h v oh e;unfold vP at e;split at e
 ·rename_i hf;obtain rfl:=nE hf;split at e
  ·cases e;exact .inl ⟨by kernel_rfl,lz.call ⟨rfl,rfl⟩⟩
  ·cases e
 ·cases e
theorem wc{s:Sy}(hs:iw s=true):s.bn.length≤64∧fY s.bn=true∧(∀c∈s.bn,aW c.value≤2000)∧(∀c∈s.bn,ct c.value=false)∧∀c∈s.bn,dC c.value=0:=by
 unfold iw at hs;simp only[On,OF]at hs;have h:=hs.1.1.2;unfold fO at h;split at h
 ·rename_i q;obtain⟨q1,q2,q3⟩:=q;have:∀c∈s.bn,pD c=true:=By.1 q3;refine⟨q1,q2,fun c hc=>?_,fun c hc=>?_,fun c hc=>?_⟩ <;>
  ·have:=this c hc;unfold pD at this;simp only[On,OF,acM]at this;first|exact this.2|exact this.1.2|exact this.1.1
 ·cases h
abbrev fj(n:Nat):AV:=.v (.int .u64 (n:Int))
theorem L4{x:Nat}(h:x<18446744073709551616):BitVec.ofInt 64 (x:Int)=BitVec.ofNat 64 x:=by
 rw[BitVec.ofInt_natCast]
theorem abi{x:Nat}(h:x<18446744073709551616):fk .and .u64 (x:Int) 4294967295=((x%4294967296:Nat):Int):=by
 have e:fk .and .u64 (x:Int) ((4294967295:Nat):Int)=IntKind.u64.wrap (((BitVec.ofNat 64 x &&& BitVec.ofNat 64 4294967295).toNat:Nat):Int):=by
  show IntKind.u64.wrap (((BitVec.ofInt 64 (x:Int) &&& BitVec.ofInt 64 ((4294967295:Nat):Int)).toNat:Nat):Int)=_;rw[L4 h,L4 (by omega)]
 rw[show (4294967295:Int)=((4294967295:Nat):Int) from rfl,e,BitVec.toNat_and,BitVec.toNat_ofNat,BitVec.toNat_ofNat,Nat.mod_eq_of_lt (by omega),Nat.mod_eq_of_lt (by omega),show 4294967295=2^32-1 from rfl,Nat.and_two_pow_sub_one_eq_mod];exact u64_in (by omega) (by omega)
theorem afa(ha:a<1024)(hb:b<18014398509481984):fk .or .u64 ((a*18014398509481984:Nat):Int) (b:Int)=((a*18014398509481984+b:Nat):Int):=by
 have e:fk .or .u64 ((a*18014398509481984:Nat):Int) (b:Int)=IntKind.u64.wrap (((BitVec.ofNat 64 (a*18014398509481984) ||| BitVec.ofNat 64 b).toNat:Nat):Int):=by
  show IntKind.u64.wrap (((BitVec.ofInt 64 ((a*18014398509481984:Nat):Int) ||| BitVec.ofInt 64 (b:Int)).toNat:Nat):Int)=_;rw[L4 (by omega),L4 (by omega)]
 rw[e,BitVec.toNat_or,BitVec.toNat_ofNat,BitVec.toNat_ofNat,Nat.mod_eq_of_lt (by omega),Nat.mod_eq_of_lt (by omega)];have:a*18014398509481984 ||| b=a*18014398509481984+b:=by
  have:=Nat.shiftLeft_add_eq_or_of_lt (i:=54) hb a;rw[Nat.shiftLeft_eq]at this;exact this.symm
 rw[this];exact u64_in (by omega) (by omega)
theorem abg{k:IntKind}{a b:Int}(ex:x=.v (.int k a))(ey:y=.v (.int k b))(q:K (.v (.int k (fk .and k a b)))):ab .and x y K:=by
 subst ex;subst ey;exact⟨rfl,q⟩
theorem DB(h:n<18446744073709551616)(ex:x=fj n)(q:K (fj (n%4294967296))):ab .and x (.v (.int .u64 4294967295)) K:=by
 refine abg ex rfl ?_;rw[abi h];exact q
theorem sW(ex:x=fj n)(ey:y=.v (.int k' (s:Int)))(hs:s≤64)(hm:2^s=m)(q:K (fj (n/m))):ab .shr x y K:=by
 refine He ex ey (by omega) (c:=((n/m:Nat):Int)) ?_ q;rw[show min ((s:Int).toNat) (IntKind.bits .u64)=s by simp[IntKind.bits];omega];rw[show ((2:Int)^s)=((m:Nat):Int) by rw[←hm];simp,Int.fdiv_eq_ediv_of_nonneg _ (by omega)];exact (Int.natCast_ediv _ _).symm
theorem uo(ex:x=fj a)(ey:y=fj b)(q:K (fj (a*b%18446744073709551616))):ab .mul x y K:=by
 refine Uf (by decide) ex ey (c:=((a*b%18446744073709551616:Nat):Int)) ?_ q;simp[IntKind.wrap,IntKind.bits,IntKind.signed]
theorem zzZ(q:K (fj (a*b%18446744073709551616))):ab .mul (fj a) (fj b) K:=uo rfl rfl q
theorem DA(ex:x=fj a)(ey:y=fj b)(q:K (fj ((a+b)%18446744073709551616))):ab .add x y K:=by
 refine Nz (by decide) ex ey (c:=(((a+b)%18446744073709551616:Nat):Int)) ?_ q;simp[IntKind.wrap,IntKind.bits,IntKind.signed]
theorem zza(q:K (fj ((a+b)%18446744073709551616))):ab .add (fj a) (fj b) K:=DA rfl rfl q
theorem Og{x y:Nat}(hx:x<1099511627776)(hy:y<1099511627776):aP p_ 151 [fj x,fj y] (.aF [fj (x*y/18446744073709551616),fj (x*y%18446744073709551616)]):=by
 refine (aee _ _).gives (by simp) (by simp) ?_;unfold X8;obtain⟨x1,x0,hx0,ex⟩:∃x1 x0,x0<4294967296∧x=x1*4294967296+x0:=⟨x/4294967296,x%4294967296,by omega,by omega⟩;obtain⟨y1,y0,hy0,ey⟩:∃y1 y0,y0<4294967296∧y=y1*4294967296+y0:=⟨y/4294967296,y%4294967296,by omega,by omega⟩;have bx:x1<256:=by omega
 have bY:y1<256:=by omega
 have m1:x0*y0<18446744073709551616:=UP (Nat.mul_lt_mul'' hx0 hy0) (by decide);have m2:x1*y0<1099511627776:=UP (Nat.mul_lt_mul'' bx hy0) (by decide);have m3:x0*y1<1099511627776:=UP (Nat.mul_lt_mul'' hx0 bY) (by decide);have m4:x1*y1<65536:=UP (Nat.mul_lt_mul'' bx bY) (by decide);have exy:x*y=x1*y1*18446744073709551616+(x1*y0+x0*y1)*4294967296+x0*y0:=by
  rw[ex,ey];simp only[acT,Nat.mul_add];have e1:x1*4294967296*(y1*4294967296)=x1*y1*18446744073709551616:=by rw[Nat.mul_mul_mul_comm]
  have e2:x1*4294967296*y0=x1*y0*4294967296:=by rw[Nat.mul_right_comm]
  have e3:x0*(y1*4294967296)=x0*y1*4294967296:=by rw[Nat.mul_assoc]
  omega
 refine DB (by omega) rfl (sW (s:=32) (m:=4294967296) rfl rfl (by omega) (by decide) (DB (by omega) rfl (sW (s:=32) (m:=4294967296) rfl rfl (by omega) (by decide) ?_)));rw[show x%4294967296=x0 by omega,show x/4294967296=x1 by omega,show y%4294967296=y0 by omega,show y/4294967296=y1 by omega];refine zzZ (zzZ (sW (s:=32) (m:=4294967296) rfl rfl (by omega) (by decide) (zza (DB (by omega) rfl (sW (s:=32) (m:=4294967296) rfl rfl (by omega) (by decide) (zzZ (zza (zzZ (zza (sW (s:=32) (m:=4294967296) rfl rfl (by omega) (by decide) (zza (zzZ (.pure (by simp) ?_)))))))))))));rw[exy];generalize x0*y0=A at *;generalize x1*y0=B at *;generalize x0*y1=C at *;generalize x1*y1=D at *
 congr 2
 congr 2
 omega
theorem Y4:aP p_ 191 [fj 1000] (i_ 54):=uz F0 (by kernel_rfl) (by kernel_rfl) (by kernel_rfl) (show sN p_ cfg vP 200 191 [fj 1000] []=some (i_ 54,none) by kernel_rfl)
theorem Hc(hb:b<18446744073709551616)(ex:x=fj a)(ey:y=fj b)(q:K (fj ((a+(18446744073709551616-b))%18446744073709551616))):ab .sub x y K:=by
 refine DI (by decide) ex ey (c:=(((a+(18446744073709551616-b))%18446744073709551616:Nat):Int)) ?_ q;simp[IntKind.wrap,IntKind.bits,IntKind.signed];omega
theorem Nm(ha:a<18446744073709551616)(hb:0<b)(ex:x=fj a)(ey:y=fj b)(q:K (fj (a/b))):ab .quo x y K:=by
 subst ex;subst ey;refine⟨rfl,by omega, ?_⟩;have e:IntKind.u64.wrap ((a:Int).tdiv b)=((a/b:Nat):Int):=by
  have:(a:Int).tdiv b=((a/b:Nat):Int):=rfl;rw[this];have h1:=Nat.div_le_self a b;generalize a/b=c at *;exact u64_in (by omega) (by omega)
 show K (.v (.int .u64 (IntKind.u64.wrap ((a:Int).tdiv b))));rw[e];exact q
theorem abZ(ha:a<18446744073709551616)(hb:0<b)(ex:x=fj a)(ey:y=fj b)(q:K (fj (a%b))):ab .rem x y K:=by
 subst ex;subst ey;exact⟨rfl,by omega,q⟩
theorem Nn(ex:x=fj n)(ey:y=.v (.int k' (s:Int)))(hs:s≤64)(hm:2^s=m)(q:K (fj (n*m%18446744073709551616))):ab .shl x y K:=by
 refine Ug ex ey (by omega) (c:=((n*m%18446744073709551616:Nat):Int)) ?_ q;rw[show min ((s:Int).toNat) (IntKind.bits .u64)=s by simp[IntKind.bits];omega,show ((2:Int)^s)=((m:Nat):Int) by rw[←hm];simp];simp[IntKind.wrap,IntKind.bits,IntKind.signed]
theorem aab(ha:a<1024)(hb:b<18014398509481984)(ex:x=fj (a*18014398509481984))(ey:y=fj b)(q:K (fj (a*18014398509481984+b))):ab .or x y K:=by
 refine Ht ex ey ?_;rw[afa ha hb];exact q
theorem Ua(ex:x=fj a)(ey:y=fj b)(q:K (b_ (decide (b≤a)))):ab .geq x y K:=by
 refine iy ex ey ?_;have e:decide ((b:Int)≤(a:Int))=decide (b≤a):=by simp
 rw[e];exact q
theorem Ub(ex:x=fj a)(ey:y=fj b)(q:K (b_ (decide (b<a)))):ab .gtr x y K:=by
 refine dF ex ey ?_;have e:decide ((b:Int)<(a:Int))=decide (b<a):=by simp
 rw[e];exact q
theorem Od{hi lo:Nat}(h:hi<1000)(hl:lo<18446744073709551616):aP p_ 152 [fj hi,fj lo,fj 1000] (.aF [fj ((hi*18446744073709551616+lo)/1000),fj ((hi*18446744073709551616+lo)%1000)]):=by
 refine (aef _ _ _).gives (by simp) (by simp) ?_;unfold X9;refine ay (zzG (zzK rfl (af (ay (zzD (zzK (oN (by omega)) (af (zzG ?_))))))))
 by_cases h0:hi=0
 ·refine zzL (tO (by omega)) (Nm hl (by omega) rfl rfl (abZ hl (by omega) rfl rfl ?_));subst h0;rw[Nat.zero_mul,acu];exact .pure (by simp) rfl
 refine zzK (oN (by omega)) (zzS (by kernel_rfl) Y4 (oe (c:=54) rfl (by decide) ?_));have e54:2^54=18014398509481984:=by decide
 refine Nn (s:=54) (m:=18014398509481984) rfl rfl (by omega) e54 ?_;rw[show 1000*18014398509481984%18446744073709551616=18014398509481984000 by omega];refine sW (s:=32) (m:=4294967296) rfl rfl (by omega) (by decide) ?_;rw[show 18014398509481984000/4294967296=4194304000 by omega];refine DB (by omega) rfl ?_;rw[show 18014398509481984000%4294967296=0 by omega];refine Nn (s:=54) (m:=18014398509481984) rfl rfl (by omega) e54 ?_;rw[show hi*18014398509481984%18446744073709551616=hi*18014398509481984 from Nat.mod_eq_of_lt (by omega)];refine DI (c:=10) (by decide) rfl rfl (by decide) (sW (s:=10) (m:=1024) rfl rfl (by omega) (by decide) (aab (by omega) (by omega) rfl rfl ?_));obtain⟨r,hr,m,hm⟩:∃r,r<1024∧∃m,lo=m*1024+r:=⟨lo%1024,by omega,lo/1024,by omega⟩;rw[show lo/1024=m by omega];refine Nn (s:=54) (m:=18014398509481984) rfl rfl (by omega) e54 ?_;rw[show lo*18014398509481984%18446744073709551616=r*18014398509481984 by omega];refine sW (s:=32) (m:=4294967296) rfl rfl (by omega) (by decide) ?_;rw[show r*18014398509481984/4294967296=r*4194304 by omega];refine DB (by omega) rfl ?_;rw[show r*18014398509481984%4294967296=0 by omega];obtain⟨U,hU⟩:∃U,hi*18014398509481984+m=U:=⟨_,rfl⟩;have eN:hi*18446744073709551616+lo=U*1024+r:=by
  have e1:hi*18446744073709551616=hi*18014398509481984*1024:=by clear hm hU hl;omega
  rw[e1,hm,←hU,acT,Nat.add_assoc]
 have bU:U<18014398509481984000:=by omega
 rw[hU,eN];refine Nm (by omega) (by omega) rfl rfl ?_;obtain⟨q1,rh,hrh,eU⟩:∃q1 rh,rh<4194304000∧U=q1*4194304000+rh:=⟨U/4194304000,U%4194304000,by omega,by omega⟩;have bq1:q1<4294967296:=by omega
 rw[show U/4194304000=q1 by omega];refine zzZ ?_;rw[show q1*4194304000%18446744073709551616=q1*4194304000 by omega];refine Hc (by omega) rfl rfl ?_;rw[show (U+(18446744073709551616-q1*4194304000))%18446744073709551616=rh by omega];refine jx [fj q1] [] ?_ fun F hF=>?_;rotate_left
 ·refine aU (α:=Unit) (fun _=>True) (fun _=>[fj q1,fj rh]) (fun _=>[]) (fun _=>0) () trivial (Wk.refl _ _ _ (aS _)) ?_;intro _ _;refine Ua (b:=4294967296) rfl rfl (ay (zzN (oN (by omega)) (zzZ (zzZ (zza (Ub rfl rfl (af (zzQ (zzK (oN (by omega)) (af ?_))))))))));exact hF
 refine zzZ (zza (zzZ (Hc (by omega) rfl rfl ?_)));obtain⟨V,hV⟩:∃V,rh*4294967296+r*4194304=V:=⟨_,rfl⟩;have bV:V<18014398509481984000:=by omega
 rw[show ((U*4294967296%18446744073709551616+r*4194304)%18446744073709551616+(18446744073709551616-q1*18014398509481984000%18446744073709551616))%18446744073709551616=V by omega];refine Nm (by omega) (by omega) rfl rfl ?_;obtain⟨q0,rg,hrg,eV⟩:∃q0 rg,rg<4194304000∧V=q0*4194304000+rg:=⟨V/4194304000,V%4194304000,by omega,by omega⟩;have bq0:q0<4294967296:=by omega
 rw[show V/4194304000=q0 by omega];refine zzZ ?_;rw[show q0*4194304000%18446744073709551616=q0*4194304000 by omega];refine Hc (by omega) rfl rfl ?_;rw[show (V+(18446744073709551616-q0*4194304000))%18446744073709551616=rg by omega];refine jx [fj q0] [] ?_ fun F hF=>?_;rotate_left
 ·refine aU (α:=Unit) (fun _=>True) (fun _=>[fj rg,fj q0]) (fun _=>[]) (fun _=>0) () trivial (Wk.refl _ _ _ (aS _)) ?_;intro _ _;refine Ua (b:=4294967296) rfl rfl (ay (zzN (oN (by omega)) (zzZ (zzZ (zza (Ub rfl rfl (af (zzQ (zzK (oN (by omega)) (af ?_))))))))));exact hF
 refine zzZ (zza (zzZ (zza (zzZ (Hc (by omega) rfl rfl (sW (s:=54) (m:=18014398509481984) rfl rfl (by omega) e54 (.pure (by simp) ?_)))))));have eq:(q1*4294967296%18446744073709551616+q0)%18446744073709551616=(U*1024+r)/1000:=by omega
 have er:((V*4294967296%18446744073709551616+0)%18446744073709551616+(18446744073709551616-q0*18014398509481984000%18446744073709551616))%18446744073709551616/18014398509481984=(U*1024+r)%1000:=by omega
 rw[eq,er]
def eD(n:Int):Prop:=-1000000000000≤n∧n≤1000000000000
theorem Mh{a b:Int}(ha:eD a)(hb:eD b):aP p_ 150 [.sl 1 [[i_ a],[i_ b]]] (i_ 0):=by
 unfold eD at ha hb;refine (aed _).gives (by simp) (by simp) ?_;unfold X7;refine zzk (n:=2) rfl fun _=>?_;refine aU (α:=Nat) (fun k=>k≤2) (fun k=>[i_ k]) (fun _=>[]) (fun k=>2-k) 0 (acr _) (Wk.refl _ _ _ (aS _)) ?_;intro k hk;refine zzC ?_;rcases AT k 2 with q|q
 ·obtain⟨n,hn,hx⟩:∃n:Int,eD n∧[a,b][k]?=some n:=by
   unfold eD
   match k,q with
   | 0,_=>exact⟨a,ha,rfl⟩
   | 1,_=>exact⟨b,hb,rfl⟩
  unfold eD at hn;refine zzL (by simp;omega) (zzg (f:=fun n:Int=>[i_ n]) (l:=[a,b]) rfl rfl hx (zzW (zzC (ay (zzN (oN (by omega)) (zzE (af (zzQ (zzK (oN (by omega)) (zzP (by unfold aN;omega) (af ?_)))))))))));exact⟨k+1,q,Wk.refl _ _ _ (aS _),by omega⟩
 ·obtain rfl:k=2:=by omega
  refine zzK rfl ?_;exact .pure (by simp) rfl
def fb(a b:Int):Int:=if decide (a<0)=decide (b<0) then ((min (a.natAbs*b.natAbs/1000) 1000000000000:Nat):Int) else -((min (a.natAbs*b.natAbs/1000) 1000000000000:Nat):Int)
theorem EY(a b:Int):eD (fb a b):=by
 unfold fb eD;have:min (a.natAbs*b.natAbs/1000) 1000000000000≤1000000000000:=Nat.min_le_right _ _;split<;>omega
theorem Kf{a b:Int}(ha:eD a)(hb:eD b):aP p_ 100 [i_ a,i_ b] (.aF [i_ (fb a b),i_ 0]):=by
 have ha':=ha;have hb':=hb;unfold eD at ha' hb';refine (adJ _ _).gives (by simp) (by simp) ?_;unfold XE;refine cN (cs:=[i_ a,i_ b]) rfl (bK (args':=[.sl 1 [[i_ a],[i_ b]]]) rfl (by kernel_rfl) (Mh ha hb) (zzH (zzK rfl ?_)));obtain⟨p,hp⟩:∃p,a.natAbs=p:=⟨_,rfl⟩;obtain⟨q,hq⟩:∃q,b.natAbs=q:=⟨_,rfl⟩;have bp:p≤1000000000000:=by omega
 have bq:q≤1000000000000:=by omega
 refine sM rfl (by unfold aN;omega) (zzh (oe (c:=(p:Int)) rfl (by rw[u64_in (by omega) (by omega)];omega) (sM rfl (by unfold aN;omega) (zzh (oe (c:=(q:Int)) rfl (by rw[u64_in (by omega) (by omega)];omega) (zzS (by kernel_rfl) (Og (x:=p) (y:=q) (by omega) (by omega)) (zzB rfl (zzB rfl ?_))))))));obtain⟨P,hP⟩:∃P,p*q=P:=⟨_,rfl⟩;rw[hP];have eM:fb a b=if decide (a<0)=decide (b<0) then ((min (P/1000) 1000000000000:Nat):Int) else -((min (P/1000) 1000000000000:Nat):Int):=by unfold fb;rw[hp,hq,hP]
 obtain⟨M,hM⟩:∃M,min (P/1000) 1000000000000=M:=⟨_,rfl⟩;have bM:M≤1000000000000:=by omega
 rw[hM]at eM;refine jx [i_ M] [] ?_ fun F hF=>?_
 ·refine zzC (zzC (YQ rfl rfl ?_))
  by_cases hs:decide (a<0)=decide (b<0)
  ·rw[if_pos hs]at eM;refine zzK (by rw[hs];simp) ?_;rw[eM];exact .pure (by simp) rfl
  ·rw[if_neg hs]at eM;refine zzL (by cases h1:decide (a<0)<;>cases h2:decide (b<0)<;>simp_all) (sM rfl (by unfold aN;omega) ?_);rw[eM,Int.zero_sub];exact .pure (by simp) rfl
 ·refine zzC ?_
  by_cases h1:P/18446744073709551616<1000
  ·refine zzL (tO (by omega)) (zzS (by kernel_rfl) (Od h1 (by omega)) ?_);have e:P/18446744073709551616*18446744073709551616+P%18446744073709551616=P:=by omega
   rw[e];refine zzB rfl (zzB rfl (zzC ?_))
   by_cases h2:P/1000<1000000000000
   ·refine zzL (tO (by omega)) (oe (c:=((P/1000:Nat):Int)) rfl (IntWalk.i64_in _ ⟨by omega,by omega⟩) (af ?_));rw[show P/1000=M by omega];exact hF
   ·refine zzK (oN (by omega)) (af ?_);rw[show M=1000000000000 by omega]at hF;exact hF
  ·refine zzK (oN (by omega)) (af ?_);rw[show M=1000000000000 by omega]at hF;exact hF
def qC(e sz:Nat)(x:AV)(H:aa)(rows:List (List AV)):Prop:=(rows=[]∧x=bw)∨(rows≠[]∧∃id,x=.sb id sz rows∧H[id]?=some (.tok e sz rows.length))
theorem qC.app(g:qC e sz x H rows)(t:aa):qC e sz x (H++t) rows:=by
 rcases g with g|⟨g,id,h1,h⟩
 ·exact .inl g
 ·exact .inr ⟨g,id,h1,by rw[iD (gE.1 h).1];exact h⟩
theorem KM{e sz bytes:Nat}(g:qC e sz x H rows){r:List AV}(hr:([r].all (gh sz))=true)(hb:bytes≤1000)(hl:rows.length<2^20){K:AV→aa→Prop}(q:∀x' H',qC e sz x' H' (rows++[r])→H.length≤H'.length→K x' H'):eE false e sz bytes x (.sl sz [r]) H K:=by
 have room:∀k,k≤2^20→dU bytes k:=fun k hk=>by
  unfold dU maxLen;have:k*bytes≤2^20*1000:=Nat.mul_le_mul hk hb;omega
 rcases g with⟨rfl,rfl⟩|⟨g,id,rfl,h⟩
 ·refine ze (n:=H.length) (k:=1) (rows:=[r]) (h':=H++[.tok e sz 1]) rfl fw hr rfl (room 1 (by omega)) rfl rfl ?_;exact q _ _ (.inr ⟨by simp,H.length,rfl,by simp⟩) (by simp)
 ·have hid:=(gE.1 h).1;refine kP (id:=id) (k:=rows.length) (base:=rows) (rows:=[r]) (h':=H.set id (.tok e sz (rows.length+1))) rfl h rfl fw hr (room _ (by simp;omega)) rfl ?_;exact q _ _ (.inr ⟨by simp,id,rfl,by rw[iN hid];simp⟩) (by simp)
def r9(sz:Nat)(rows:List (List AV)):AV:=if rows=[] then bw else .sl sz rows
theorem VS(pr:du rows)(g:qC e sz x H rows):fg (r9 sz rows) x H:=by
 rcases g with⟨rfl,rfl⟩|⟨g,id,rfl,_⟩
 ·exact .pure (by simp) rfl
 ·rw[r9,if_neg g];exact wY pr
def kW(l:List (List Vl)):List (List AV):=l.map fun p=>[.sl 6 (ar p)]
theorem uD:∀l,du (kW l)
 | []=>by simp[kW,du]
 | p:: l=>by have:=uD l;unfold kW at this ⊢;simp[du,bf,Aw.Pure,dd,this]
theorem NZ(g:qC e sz x H rows)(q:K (i_ rows.length)):bu x K:=by
 rcases g with⟨rfl,rfl⟩|⟨g,id,rfl,_⟩
 ·exact Hq q
 ·show bu (.sl sz rows) K;exact zzk (n:=rows.length) rfl fun _=>q
theorem YS{i j:AV}{v:Vl}(ei:i=i_ k)(ej:j=i_ ((k:Int)+1))(hx:l[k]?=some v)(q:K (.sl 6 (ar [v]))):nj 6 (.sl 6 (ar l)) (some i) (some j) K:=by
 subst ei;subst ej;have hk:=(gE.1 hx).1;rw[CO];simp only[fc];refine⟨by simp,⟨by omega,by omega,by simp[aJ];omega⟩, ?_⟩;have e:((ar l).take ((k:Int)+1).toNat).drop (k:Int).toNat=ar [v]:=by
  rw[show ((k:Int)+1).toNat=k+1 by omega,NO,aJ,aJ,←List.map_take,←List.map_drop,Gu hx (aS k),List.drop_eq_nil_of_le (by rw[aaW];omega)];rfl
 rw[e];exact q
def B0(l:List Vl)(k:Nat):Prop:=∀i,0<i→i<k→∀a b,l[i-1]?=some a→l[i]?=some b→a.kind=13∨b.kind=13
def gg(l:List Vl):List (List Vl):=(l.filter fun v=>!decide (v.kind=13)).map fun v=>[v]
def rQ(n:Nat):List Nat:=[0,0,1].drop (n-1)
def mQ(b:List (List Vl)):Nat→List (List Vl)
 | 0=>b
 | k+1=>mQ b k++[(mQ b k).getD ((rQ b.length).getD k 0) []]
theorem yK(b:List (List Vl)):∀k,(mQ b k).length=b.length+k
 | 0=>rfl
 | k+1=>by rw[mQ,DO,yK b k];rfl
open Classical in
def pf(l:List Vl):List (List Vl):=
 if l=[]∨(l.headD (.mk 13 [] 0 [] false [])).kind=13∨(l.getLastD (.mk 13 [] 0 [] false [])).kind=13∨¬B0 l l.length∨4<(gg l).length then [] else mQ (gg l) (4-(gg l).length)
theorem SH{v:Vl}(h:l[k]?=some v):gg (l.take (k+1))=gg (l.take k)++(if v.kind=13 then [] else [[v]]):=by
 unfold gg;rw[Gt,h,acD,List.map_append]
 by_cases q:v.kind=13<;>simp[q]
theorem ug(h:l=[]∨(l.headD (.mk 13 [] 0 [] false [])).kind=13∨(l.getLastD (.mk 13 [] 0 [] false [])).kind=13∨¬B0 l l.length∨4<(gg l).length):pf l=[]:=by unfold pf;exact if_pos h
theorem Qp(h:¬(l=[]∨(l.headD (.mk 13 [] 0 [] false [])).kind=13∨(l.getLastD (.mk 13 [] 0 [] false [])).kind=13∨¬B0 l l.length∨4<(gg l).length)):pf l=mQ (gg l) (4-(gg l).length):=by unfold pf;exact if_neg h
theorem FV(h:0<n):(rQ n).length=4-n:=by unfold rQ;rw[List.length_drop];show 3-(n-1)=_;omega
theorem R4{n k a:Nat}(h:0<n)(e:(rQ n)[k]?=some a):a<n+k:=by
 unfold rQ at e;rw[aat]at e;generalize hj:n-1+k=j at e
 match j,e with
 | 0,e=>simp at e;omega
 | 1,e=>simp at e;omega
 | 2,e=>simp at e;omega
 | j+3,e=>simp at e
theorem YM(g:qC e sz x H rows)(h:rows[n]?=some row)(q:K (.ip row)):aG sz x (i_ n) K:=by
 rcases g with⟨rfl,rfl⟩|⟨g,id,rfl,_⟩
 ·simp at h
 ·show aG sz (.sl sz rows) (i_ n) K;exact zzg (f:=fun r=>r) (l:=rows) (by simp) rfl h q
theorem A3{l:List (List Vl)}(h:n<l.length):(kW l)[n]?=some [.sl 6 (ar (l.getD n []))]:=by
 unfold kW;rw[lE,dO h,oF,dO h];rfl
theorem tE(l:List (List Vl)):(kW l).length=l.length:=by unfold kW;rw[aai]
theorem QO{m:Nat}{i:AV}(h:0<m)(h4:m≤4)(ei:i=i_ ((m-1:Nat):Int))(q:K (.sl 1 ((rQ m).map fun n=>[i_ (n:Nat)]))):nj 1 (.sl 1 [[i_ 0],[i_ 0],[i_ 1]]) (some i) none K:=by
 subst ei;rw[CO];simp only[fc];refine⟨trivial,⟨by omega,by simp;omega,by simp⟩, ?_⟩
 match m,h,h4,q with
 | 1,_,_,q=>exact q
 | 2,_,_,q=>exact q
 | 3,_,_,q=>exact q
 | 4,_,_,q=>exact q
theorem Ow(hl:l.length<2^20):aP p_ 227 [.sl 6 (ar l)] (r9 1 (kW (pf l))):=by
 refine (aeF _).gives (by simp[dd]) (by unfold r9;split<;>simp[Aw.Pure,uD]) ?_;unfold Yz;have no:∀{H:aa},pf l=[]→fg (r9 1 (kW (pf l))) bw H:=fun e=>by rw[e];exact .pure (by simp) rfl
 have hlen:(ar l).length=l.length:=by simp[aJ]
 cases hl0:l with
 | nil =>
   subst hl0;refine zzk (n:=0) rfl fun _=>?_;refine zzG (ay (zzM rfl (af (zzR (ay (zzM rfl (af (zzR (zzL rfl ?_)))))))));exact no (ug (.inl rfl))
 | cons v0 r0 =>
   rw[←hl0];have h0:l[0]?=some v0:=by rw[hl0];rfl
   have hd:(l.headD (.mk 13 [] 0 [] false []))=v0:=by rw[hl0];rfl
   have hpos:0<l.length:=by rw[hl0];simp
   obtain⟨vl,hvl⟩:∃x,l[l.length-1]?=some x:=⟨_,dO (by omega)⟩;have hla:(l.getLastD (.mk 13 [] 0 [] false []))=vl:=by
    rw[List.getLastD_eq_getLast?,List.getLast?_eq_getElem?,hvl];rfl
   refine zzk (n:=l.length) hlen fun _=>?_;refine zzG (ay (zzN (oN (by omega)) (zzg (f:=cQ) (l:=l) (a:=v0) (aJ _) (n:=0) rfl h0 (nb (i:=0) (c:=u1 v0.kind) (by simp[cK]) (zzG (af (zzQ (ay ?_))))))))
   by_cases k0:v0.kind=13
   ·refine zzM (tO k0) (af (zzR (zzL rfl ?_)));exact no (ug (.inr (.inl (by rw[hd];exact k0))))
   refine zzN (oN k0) ?_;refine zzk (n:=l.length) hlen fun _=>?_;refine qb (n:=l.length) hpos (by omega) (zzg (f:=cQ) (l:=l) (a:=vl) (aJ _) (n:=l.length-1) rfl hvl (nb (i:=0) (c:=u1 vl.kind) (by simp[cK]) (zzG (af (zzQ ?_)))))
   by_cases k1:vl.kind=13
   ·refine zzL (tO k1) ?_;exact no (ug (.inr (.inr (.inl (by rw[hla];exact k1)))))
   refine zzK (oN k1) ?_;refine zzk (n:=l.length) hlen fun _=>?_;refine aU (α:=Nat×AV×aa) (fun x=>x.1≤l.length∧B0 l x.1∧qC 44 1 x.2.1 x.2.2 (kW (gg (l.take x.1)))) (fun x=>[x.2.1,i_ x.1]) (fun x=>x.2.2) (fun x=>l.length-x.1) (0,bw,[]) ⟨acr _,fun i h1 h2=>absurd h2 (by omega),.inl ⟨rfl,rfl⟩⟩ (Wk.refl _ _ _ (aS _)) ?_;rintro⟨k,x,H⟩ ⟨hk,hs,g⟩;dsimp only at hk hs g ⊢;refine zzC ?_;have hnl:(kW (gg (l.take k))).length≤k:=by
    unfold kW gg;rw[aai,aai];exact acx (List.length_filter_le _ _) (by rw[aaW];omega)
   rcases AT k l.length with q|q
   ·obtain⟨v,hx⟩:∃x,l[k]?=some x:=⟨l[k],dO q⟩;have hsn:=SH hx;refine zzL (by simpa using q) ?_;refine gF (fun s G=>∃x',s=[x']∧B0 l (k+1)∧qC 44 1 x' G (kW (gg (l.take (k+1))))) ?_ fun F hF=>?_
    ·rintro _ G ⟨x',rfl,hs',g'⟩;refine zzP (by unfold aN;omega) (af ?_);exact⟨(k+1,x',G),⟨q,hs',g'⟩,Wk.refl _ _ _ (acr _),by dsimp only;omega⟩
    refine zzg (f:=cQ) (l:=l) (a:=v) (aJ _) (n:=k) rfl hx (zzY (by simp[cK]) (vz (zzA (zzA (vA (h:=H) (i:=0) (c:=u1 v.kind) (by simp[cK]) (zzG ?_))))))
    by_cases kv:v.kind=13
    ·refine zzL (tO kv) (af ?_);refine hF _ _ ⟨x,rfl,fun i h1 h2 a b ea eb=>?_,by rw[hsn,if_pos kv,aa1];exact g.app _⟩
     by_cases e:i=k
     ·subst e;rw[hx]at eb;cases eb;exact .inr kv
     ·exact hs i h1 (by omega) a b ea eb
    refine zzK (oN kv) (zzE ?_)
    -- it stands behind nothing,or behind a space
    have yes:(0<k→∃a,l[k-1]?=some a∧a.kind=13)→ab .add (i_ k) (i_ 1) fun v49=>nj 6 (.sl 6 (ar l)) (some (i_ k)) (some v49) fun v50=>bH 1 1 (.v (.slice none 0 0)) [(0,1,v50)] fun v51=>eE false 44 1 24 x v51 (H++[vB v]) fun v52 g53=>[.sl 6 (ar l),.sl 6 (ar l),i_ l.length,i_ k]=[.sl 6 (ar l),.sl 6 (ar l),i_ l.length,i_ k]∧F [v52] g53:=fun hp=>by
     refine zzP (by unfold aN;omega) (YS rfl rfl hx (cN (cs:=[.sl 6 (ar [v])]) rfl ?_));refine KM (g.app [vB v]) (by simp[gh,dH]) (by omega) (by omega) fun x' G' g' _=>?_;refine⟨rfl,hF _ _ ⟨x',rfl,fun i h1 h2 a b ea eb=>?_, ?_⟩⟩
     ·by_cases e:i=k
      ·subst e;obtain⟨a',ha',h13⟩:=hp h1;rw[ea]at ha';cases ha';exact .inl h13
      ·exact hs i h1 (by omega) a b ea eb
     ·rw[hsn,if_neg kv];unfold kW at g' ⊢;rw[List.map_append];exact g'
    refine ay ?_
    by_cases kp:0<k
    ·obtain⟨a,ha⟩:∃x,l[k-1]?=some x:=⟨_,dO (by omega)⟩;refine zzN (tO (by omega)) (qb (n:=k) kp (by omega) (zzg (f:=cQ) (l:=l) (a:=a) (aJ _) (n:=k-1) rfl ha (nb (i:=0) (c:=u1 a.kind) (by simp[cK]) (zzH (af (zzR ?_))))))
     by_cases ka:a.kind=13
     ·refine zzK (by simp[ka]) ?_;have y:=yes fun _=>⟨a,ha,ka⟩;exact y
     ·refine zzL (by simp[ka]) ?_;exact no (ug (.inr (.inr (.inr (.inl fun h=>(h k kp q a v ha hx).elim ka kv)))))
    ·refine zzM (oN (by omega)) (af (zzQ (zzK rfl ?_)));have y:=yes fun h=>absurd h kp;exact y
   ·obtain rfl:k=l.length:=by omega
    refine zzK (by simp) ?_;rw[GO]at g hnl;refine NZ g ?_;rw[tE];refine zzE ?_
    by_cases k4:4<(gg l).length
    ·refine zzL (tO (by omega)) ?_;exact no (ug (.inr (.inr (.inr (.inr k4)))))
    refine zzK (oN (by omega)) ?_;have hm:0<(gg l).length:=by
     unfold gg;rw[aai];exact List.length_pos_of_mem (a:=v0) (acC.2 ⟨gO h0,by simpa using k0⟩)
    have ye:=Qp (l:=l) (by
     rintro (h|h|h|h|h)
     ·rw[h]at hpos;simp at hpos
     ·exact k0 (by rw[←hd];exact h)
     ·exact k1 (by rw[←hla];exact h)
     ·exact h hs
     ·exact k4 h)
    refine cN (cs:=[i_ 0,i_ 0,i_ 1]) rfl (NZ g ?_);rw[tE];refine qb (n:=(gg l).length) hm (by omega) (QO hm (by omega) rfl ?_);refine zzk (n:=4-(gg l).length) (by rw[aai,FV hm]) fun _=>?_;refine aU (α:=Nat×AV×aa) (fun x=>x.1≤4-(gg l).length∧qC 44 1 x.2.1 x.2.2 (kW (mQ (gg l) x.1))∧H.length≤x.2.2.length) (fun x=>[x.2.1,i_ x.1]) (fun x=>x.2.2) (fun x=>4-(gg l).length-x.1) (0,x,H) ⟨acr _,g,aS _⟩ (Wk.refl _ _ _ (aS _)) ?_;rintro⟨j,y,G⟩ ⟨hj,gy,hG⟩;dsimp only at hj gy hG ⊢;refine zzC ?_;rcases AT j (4-(gg l).length) with q|q
    ·obtain⟨a,ha⟩:∃a,(rQ (gg l).length)[j]?=some a:=⟨_,dO (by rw[FV hm];exact q)⟩;have hal:a<(mQ (gg l) j).length:=by rw[yK];exact R4 hm ha
     refine zzL (tO (by omega)) (zzg (f:=fun n:Nat=>[i_ n]) (l:=rQ (gg l).length) (a:=a) rfl (n:=j) rfl ha (zzW (YM gy (A3 hal) (zzW (cN (cs:=[.sl 6 (ar ((mQ (gg l) j).getD a []))]) rfl ?_)))));refine KM gy (by simp[gh,dH]) (by omega) (by rw[tE,yK];omega) fun x' G' g' hG' => ?_;refine zzP (by unfold aN;omega) (af ?_);refine⟨(j+1,x',G'),⟨by dsimp only;omega, ?_,acx hG hG'⟩,Wk.refl _ _ _ (acx hG hG'),by dsimp only;omega⟩;dsimp only;have hg:(rQ (gg l).length).getD j 0=a:=by rw[oF,ha];rfl
     rw[mQ,hg];unfold kW at g' ⊢;rw[List.map_append];exact g'
    ·obtain rfl:j=4-(gg l).length:=by omega
     refine zzK (oN (by omega)) ?_;have:=VS (uD _) gy;rw[ye];unfold r9 at this ⊢;exact this
def Xm(n:Nat):Prop:=∀(l:List Vl),aW l≤n→aP p_ 190 [.sl 6 (ar l)] (.sl 6 (ar l))
theorem MZ{x:Vl}(h:l[k]?=some x):ar (l.take (k+1))=ar (l.take k)++[cQ x]:=by
 rw[aJ,aJ,Gt,h];simp
theorem UQ(hn:n<2^39)(hP:∀n',n'<n→Xm n'):Xm n:=by
 intro l hz;refine (aez _).gives (by simp[dd]) (by rw[Aw.Pure];exact dd l) ?_;unfold Yt;have hlen:(ar l).length=l.length:=by simp[aJ]
 have hll:=fu l;refine zzk (n:=l.length) hlen fun _=>?_;refine aU (α:=Nat) (fun k=>k≤l.length) (fun k=>[.sb 0 6 (ar (l.take k)),i_ k]) (fun k=>[.tok 100 6 k]) (fun k=>l.length-k) 0 (by simp) ?_ ?_
 ·have a:=Wk.nil (n:=0) (s:=[.v (.slice none 0 0),i_ 0]) (h:=[]) (by simp) 0 rfl;have b:=Wk.tok (n:=0) (s:=[.emp,i_ 0]) (h:=[]) (by simp) 0 100 6 rfl;simpa[ar]using a.trans b
 intro k hk;refine zzC ?_;rcases AT k l.length with q|q
 ·obtain⟨x,hx⟩:∃x,l[k]?=some x:=⟨l[k],dO q⟩;have hzv:=gX (gO hx);have d1:=MZ hx;have pr:=dd (l.take (k+1));obtain⟨kd,tx,nu,un',fl,l2⟩:=x;rw[zV]at hzv;have hrec:=hP (aW l2) (by omega) l2 (aS _);obtain⟨R,hR⟩:∃R,ar (l.take k)=R:=⟨_,rfl⟩;have hRl:R.length=k:=by rw[←hR,aJ,aai,aaW];omega
  rw[hR]at d1 ⊢;refine zzL (by simpa using q) (zzg (f:=cQ) (aJ l) rfl hx ?_);rw[cQ]at d1 ⊢;refine zzY rfl (cI (n:=1) (h':=[_,_]) rfl rfl rfl rfl (cf (h':=[_,_]) (id:=1) (o:=0) (cs:=[u1 kd,.str tx,i_ nu,.str un',b_ fl,.sl 6 (ar l2)]) rfl rfl rfl rfl (aS _) rfl rfl rfl (zzA (zzV (id:=1) rfl (by show 5≤6;decide) (zzA (zzU (id:=1) rfl rfl (zzT (by kernel_rfl) hrec (bt (cs:=[u1 kd,.str tx,i_ nu,.str un',b_ fl,.sl 6 (ar l2)]) rfl (cN (cs:=[u1 kd,.str tx,i_ nu,.str un',b_ fl,.sl 6 (ar l2)]) rfl (kP (h':=[_,_]) (id:=0) (k:=k) (base:=R) (rows:=[[u1 kd,.str tx,i_ nu,.str un',b_ fl,.sl 6 (ar l2)]]) rfl rfl hRl.symm fw rfl (by unfold dU maxLen;simp;omega) rfl (zzP (by unfold aN;omega) (af ?_))))))))))));refine⟨k+1,q, ?_,by omega⟩;rw[d1]at pr ⊢;exact Wk.back (n:=0) (M:=1) (by simp) (by simp) rfl rfl (by simp[gr]) (by
   have hb:=iR 1 (.sl 6 (R++[[u1 kd,.str tx,i_ nu,.str un',b_ fl,.sl 6 (ar l2)]])) (by rw[Aw.Pure];exact pr);rw[Bd]at hb;simp[Bd,hb])
 ·obtain rfl:k=l.length:=by omega
  rw[GO];refine zzK (by simp) (fg.of ?_);have pr:=dd l;simp[tl,gP];rw[BV _ _ _ _ pr]
theorem Mt(l:List Vl)(hz:aW l<2^39):aP p_ 190 [.sl 6 (ar l)] (.sl 6 (ar l)):=by
 have:∀n,n<2^39→Xm n:=by
  intro n;induction n using Nat.strongRecOn with
  | _ n ih=>exact fun hn=>UQ hn fun n' h=>ih n' h (by omega)
 exact this _ hz l (aS _)
def qs(name:aD)(l:List Vl):Bool:=match jN name with|some n=>(lJ n l).isSome|none=>false
theorem Ou{name:aD}(hl:l.length<2^40)(ok:∀v∈l,u7 v):aP p_ 228 [.str name,.sl 6 (ar l)] (b_ (qs name l)):=by
 refine (aeG _ _).gives (by simp[bf,Aw.Pure,dd]) (by simp) ?_;unfold YB;refine zzS (by kernel_rfl) (HM name) ?_;unfold rP;cases hf:jN name with
 | none =>
   refine zzB rfl (zzB rfl (zzH (zzL rfl (.pure (by simp) ?_))));unfold qs;rw[hf]
 | some n =>
   refine zzB rfl (zzB rfl (zzH (zzK rfl (zzS (by kernel_rfl) (yy (prop:=n) (A6 hf) hl ok) ?_))));unfold rV;cases hp:lJ n l with
   | none =>
     refine zzB rfl (zzB rfl (zzG (.pure (by simp) ?_)));unfold qs;rw[hf];dsimp only;rw[hp];rfl
   | some w =>
     refine zzB rfl (zzB rfl (zzG (.pure (by simp) ?_)));unfold qs;rw[hf];dsimp only;rw[hp];rfl
def jW(whole:aD)(l:List Vl):List (List Vl):=if whole=mA then pf l else [l]
open Classical in
def mU(whole:aD)(l:List Vl):List (List Vl):=if (jW whole l).length=(dA whole).length∧∀i,i<(dA whole).length→qs ((dA whole).getD i []) ((jW whole l).getD i [])=true then jW whole l else []
theorem SF:∀p∈gg l,∀v∈p,v∈l:=by
 intro p hp v hv;unfold gg at hp;obtain⟨w,hw,rfl⟩:=aas.1 hp;rw[Up.1 hv];exact (acC.1 hw).1
theorem Ey{α:Type}{l:List (List α)}{i:Nat}{P:α→Prop}(h:∀p∈l,∀v∈p,P v):∀v∈l.getD i [],P v:=by
 rw[oF];cases e:l[i]? with
 | none=>intro v hv;simp at hv
 | some p=>intro v hv;exact h p (gO e) v (by simpa using hv)
theorem A4{P:Vl→Prop}{b:List (List Vl)}(h:∀p∈b,∀v∈p,P v):∀k,∀p∈mQ b k,∀v∈p,P v
 | 0=>h
 | k+1=>by
   intro p hp;rw[mQ]at hp;rcases IN.1 hp with q|q
   ·exact A4 h k p q
   ·rw[Up.1 q];exact Ey (A4 h k)
theorem E3(whole:aD)(l:List Vl):∀p∈jW whole l,∀v∈p,v∈l:=by
 unfold jW;split
 ·unfold pf;split
  ·intro p hp;simp at hp
  ·exact A4 SF _
 ·intro p hp;rw[Up.1 hp];exact fun v hv=>hv
theorem SG:∀p∈gg l,p.length≤1:=by
 intro p hp;unfold gg at hp;obtain⟨w,hw,rfl⟩:=aas.1 hp;simp
theorem A5{b:List (List Vl)}(h:∀p∈b,p.length≤1):∀k,∀p∈mQ b k,p.length≤1
 | 0=>h
 | k+1=>by
   intro p hp;rw[mQ]at hp;rcases IN.1 hp with q|q
   ·exact A5 h k p q
   ·rw[Up.1 q,oF];cases e:(mQ b k)[(rQ b.length).getD k 0]? with
    | none=>simp
    | some p=>exact A5 h k p (gO e)
theorem BJ(whole:aD)(l:List Vl):∀p∈jW whole l,p.length≤1∨p=l:=by
 unfold jW;split
 ·unfold pf;split
  ·intro p hp;simp at hp
  ·exact fun p hp=>.inl (A5 SG _ p hp)
 ·intro p hp;exact .inr (Up.1 hp)
theorem Pb(h:rows≠[]):r9 sz rows=.sl sz rows:=if_neg h
theorem B5(hn:rows.length=n)(q:K (i_ n)):bu (r9 sz rows) K:=by
 subst hn;unfold r9;split
 ·rename_i h;subst h;exact Hq q
 ·exact zzk rfl fun _=>q
theorem Hp(h:rows[n]?=some row)(q:K (.ip row)):aG sz (r9 sz rows) (i_ n) K:=by
 have hn:rows≠[]:=fun e=>by rw[e]at h;simp at h
 rw[Pb hn];exact zzg (f:=fun r=>r) (l:=rows) (by simp) rfl h q
theorem Ih{l:List (List Vl)}:Aw.Pure (r9 1 (kW l)):=by unfold r9;split<;>simp[Aw.Pure,uD]
theorem aag(s:aD):tY s=r9 1 (fa (dA s)):=by
 unfold tY r9
 by_cases h:dA s=[]
 ·rw[if_pos h,h];rfl
 ·rw[if_neg h,if_neg (by unfold fa;simpa using h)]
theorem I7(h:¬((jW whole l).length=(dA whole).length∧∀i,i<(dA whole).length→qs ((dA whole).getD i []) ((jW whole l).getD i [])=true)):mU whole l=[]:=if_neg h
theorem P4(h:(jW whole l).length=(dA whole).length∧∀i,i<(dA whole).length→qs ((dA whole).getD i []) ((jW whole l).getD i [])=true):mU whole l=jW whole l:=if_pos h
theorem Mv(hw:whole.length<2^40)(hl:l.length<2^20)(ok:∀v∈l,u7 v):aP p_ 189 [.str whole,.sl 6 (ar l)] (r9 1 (kW (mU whole l))):=by
 refine (aey _ _).gives (by simp[bf,Aw.Pure,dd]) Ih ?_;unfold Ys;have no:∀{H:aa},mU whole l=[]→fg (r9 1 (kW (mU whole l))) bw H:=fun e=>by rw[e];exact .pure (by simp) rfl
 refine cN (cs:=[.sl 6 (ar l)]) rfl ?_;refine gF (fun s _=>s=[r9 1 (kW (jW whole l))]) ?_ fun F hF=>?_;rotate_left
 ·refine zzI ?_
  by_cases hm:whole=mA
  ·refine zzL (tO hm) (zzS (by kernel_rfl) (Ow hl) (af (hF _ _ ?_)));unfold jW;rw[if_pos hm]
  ·refine zzK (oN hm) (af (hF _ _ ?_));unfold jW;rw[if_neg hm,Pb (by simp[kW])];rfl
 rintro _ G rfl;refine zzS (by kernel_rfl) (HP whole hw) ?_;rw[aag];have hol:(kW (jW whole l)).length=(jW whole l).length:=tE _;have hll:(fa (dA whole)).length=(dA whole).length:=by unfold fa;rw[aai]
 have h4:=xj whole;refine B5 hol (B5 hll (zzH ?_))
 by_cases he:(jW whole l).length=(dA whole).length
 rotate_left
 ·refine zzL (by simpa using fun h=>he (by omega)) ?_;exact no (I7 fun h=>he h.1)
 refine zzK (by rw[he];simp) (B5 hll (aU (α:=Nat) (fun x=>x≤(dA whole).length∧∀i,i<x→qs ((dA whole).getD i []) ((jW whole l).getD i [])=true) (fun x=>[i_ x]) (fun _=>G) (fun x=>(dA whole).length-x) 0 ⟨acr _,fun i h=>absurd h (by omega)⟩ (Wk.refl _ _ _ (by simp)) ?_));rintro k ⟨hk,hr⟩;refine zzC ?_;rcases AT k (dA whole).length with q|q
 ·refine zzL (tO (by omega)) ?_;have g1:(fa (dA whole))[k]?=some [.str ((dA whole).getD k [])]:=by
   unfold fa;rw[lE,dO q,oF,dO q];rfl
  refine Hp g1 (zzW (Hp (A3 (by omega)) (zzW ?_)));have hin:=Ey (i:=k) (P:=fun v=>v∈l) (E3 whole l);have hlen:((jW whole l).getD k []).length<2^40:=by
   rw[oF];cases e:(jW whole l)[k]? with
   | none=>simp
   | some p =>
     show p.length<_;rcases BJ whole l p (gO e) with h|h
     ·omega
     ·rw[h];omega
  refine zzS (by kernel_rfl) (Ou hlen fun v hv=>ok v (hin v hv)) (zzO ?_);cases hb:qs ((dA whole).getD k []) ((jW whole l).getD k []) with
  | false =>
    refine zzL rfl ?_;exact no (I7 fun h=>by have:=h.2 k q;rw[hb]at this;cases this)
  | true =>
    refine zzK rfl (zzP (by unfold aN;omega) (af ?_));refine⟨k+1,⟨q,fun i hi=>?_⟩,Wk.refl _ _ _ (by simp),by omega⟩
    by_cases e:i=k
    ·subst e;exact hb
    ·exact hr i (by omega)
 ·obtain rfl:k=(dA whole).length:=by omega
  refine zzK (by simp) ?_;rw[P4 ⟨he,hr⟩];exact .pure Ih rfl
open Classical in
def uV(whole long:aD)(l:List Vl):Except Int (List Vl):=
 if dC l≠0 then .error (dC l) else if ¬long∈dA whole then .error 6 else if mU whole l=[] then .error 12 else .ok ((mU whole l).getD (nC long (dA whole) 0).toNat [])
def Zi(r:Except Int (List Vl)):AV:=match r with|.error e=>.aF [bw,i_ e]|.ok p=>.aF [.sl 6 (ar p),i_ 0]
theorem tI(r:Except Int (List Vl)):Aw.Pure (Zi r):=by unfold Zi;split<;>simp[Aw.Pure,bf,dd]
theorem KR(v:aD):∀(l:List aD) (k:Nat),nC v l k<(k+l.length:Nat)
 | [],k=>by simp only[nC];omega
 | s:: l,k=>by
   simp only[nC];split
   ·simp only[aah];omega
   ·have:=KR v l (k+1);simp only[aah]at this ⊢;omega
theorem Rb{s long:aD}:aP p_ 104 [tY s,.str long] (i_ (nC long (dA s) 0)):=by
 have h4:=xj s;have c:=Cq (dA s) long (by omega);unfold tY;split
 ·rename_i h;rw[h]at c ⊢;exact c.arg (.cons (.nil 1) (.cons (.refl _) .nil)) (by simp)
 ·exact c
theorem Q4{whole long:aD}(hw:whole.length<2^40)(hl:l.length<2^20)(hz:aW l<2^38)(ok:∀v∈l,u7 v):aP p_ 149 [.str whole,.str long,.sl 6 (ar l)] (Zi (uV whole long l)):=by
 refine (aec _ _ _).gives (by simp[bf,Aw.Pure,dd]) (tI _) ?_;unfold X6;refine zzS (by kernel_rfl) (mO l (by omega)) (zzH ?_);unfold uV
 by_cases hc:dC l=0
 rotate_left
 ·refine zzL (by simpa using hc) ?_;rw[if_pos hc];exact .pure (tI (.error _)) rfl
 refine zzK (by simpa using hc) ?_;rw[if_neg (by simpa using hc)];refine zzS (by kernel_rfl) (HP whole hw) (zzS (by kernel_rfl) Rb ?_);have hm:=Ba long (dA whole) 0;have hlt:=KR long (dA whole) 0;refine zzC ?_
 by_cases hi:long∈dA whole
 rotate_left
 ·refine zzL (tO (Int.not_le.1 fun h=>hi (hm.1 h))) ?_;rw[if_pos hi];exact .pure (tI (.error _)) rfl
 refine zzK (oN (Int.not_lt.2 (hm.2 hi))) ?_;rw[if_neg (by simpa using hi)];refine zzS (by kernel_rfl) (Mv hw hl ok) (B5 (tE _) (zzG ?_))
 by_cases hp:mU whole l=[]
 ·refine zzL (by rw[hp];rfl) ?_;rw[if_pos hp];exact .pure (tI (.error _)) rfl
 refine zzK (oN fun h=>hp (List.eq_nil_of_length_eq_zero (by omega))) ?_;rw[if_neg hp];have hpl:(mU whole l).length=(dA whole).length∧mU whole l=jW whole l:=by
  unfold mU at hp ⊢;split
  ·rename_i h;exact⟨h.1,rfl⟩
  ·rename_i h;rw[if_neg h]at hp;exact absurd rfl hp
 obtain⟨n,hn⟩:∃n:Nat,nC long (dA whole) 0=n:=⟨(nC long (dA whole) 0).toNat,by have:=hm.2 hi;omega⟩;rw[hn]at hlt ⊢;refine Hp (A3 (by omega)) (zzW ?_);have hz2:aW ((mU whole l).getD n [])<2^39:=by
  rw[oF];cases e:(mU whole l)[n]? with
  | none=>simp[aW]
  | some p =>
    show aW p<_;rw[hpl.2]at e;have hin:=E3 whole l p (gO e);rcases BJ whole l p (gO e) with h|h
    ·match p,h,hin with
     | [],_,_=>simp[aW]
     | [v],_,hin =>
       have:=gX (hin v (by simp));simp only[aW];omega
    ·rw[h];omega
 refine zzS (by kernel_rfl) (Mt _ hz2) ?_;exact .pure (tI (.ok _)) rfl
def gD(d:Dc):Bool:=vK d.value||decide ((100:Int)<d.name.length)||decide ((100:Int)<d.whole.length)
end
end Go.Proofs.YtldpambpnajgiaaGreatDoor
namespace Go.jC
section
variable {α β:Type}
structure Wk(lt:α→α→Bool):Prop where
 asy:∀x y,lt x y=true→lt y x=false
 ntr:∀x y z,lt x y=false→lt y z=false→lt x z=false
section
variable {lt:α→α→Bool}
end
end
end Go.jC
namespace Go.Proofs.YtldpambpnajgiaaGreatDoor
section
open Go Go.Aw Go.dz
def zd(a b:Dc):Bool:=decide (iK (gA a) (gA b)<0)
theorem yH(l:List Dc):(cy l).length=l.length:=by simp[cy]
/-! ### Not great -/
def qx:List Dc→Int
 | []=>0
 | d:: l=>fZ 300 0 d.value+qx l
def ng(l:List Dc):Bool:=(l.take 41).any gD||(decide ((40:Int)<l.length)||decide ((1500:Int)<qx (l.take 41)))
theorem Gr:∀(l:List Dc) (d:Dc),qx (l++[d])=qx l+fZ 300 0 d.value
 | [],d=>by simp[qx]
 | x:: l,d=>by rw[acU,qx,Gr l d,qx];omega
theorem LD:∀(l:List Dc),(∀d∈l,kS d)→0≤qx l∧qx l≤l.length*2^39
 | [],_=>by simp[qx]
 | d:: l,h=>by
   obtain⟨i1,i2⟩:=LD l fun x hx=>h x (by simp[hx]);obtain⟨z1,_,_⟩:=h d (by simp);obtain⟨b1,b2,_⟩:=nw 300 0 d.value;rw[qx,aah];refine⟨by omega, ?_⟩
   push_cast
   omega
theorem Mb(l:List Dc)(hs:∀d∈l,kS d)(hl:l.length<2^40):aP p_ 24 [.sl 11 (cy l)] (b_ (ng l)):=by
 refine (V24 _).gives (by simp[fp]) (by simp) ?_;unfold W24;refine aU (α:=Nat) (fun k=>k≤l.length∧k≤41∧(l.take k).any gD=false) (fun k=>[i_ (qx (l.take k)),i_ k]) (fun _=>[]) (fun k=>l.length-k) 0 ⟨by omega,by omega,by simp⟩ (Wk.refl _ _ _ (by simp)) ?_;rintro k ⟨hk,hk2,hall⟩;refine zzk (n:=l.length) (by simp[cy]) fun _=>?_;refine zzC ?_;obtain⟨s1,s2⟩:=LD (l.take k) fun d hd=>hs d (List.mem_of_mem_take hd);have s3:(l.take k).length≤41:=by rw[aaW];omega
 by_cases q:k<l.length∧k≤40
 ·obtain⟨q,q'⟩:=q;obtain⟨d,hd⟩:∃x,l[k]?=some x:=⟨l[k],dO q⟩;obtain⟨z1,z2,z3⟩:kS d:=hs d (gO hd);have q1:decide ((k:Int)<((l.length:Nat):Int))=true:=by simp;omega
  have q2:decide ((k:Int)≤40)=true:=by simp;omega
  have hG:=Cr d.value z1;have hS:=AZ d.value 300 z1 (by omega) (by omega);obtain⟨b1,b2,_⟩:=nw 300 0 d.value;have htk:l.take (k+1)=l.take k++[d]:=by rw[Gt,hd];rfl
  have hi1:aN (qx (l.take k)+fZ 300 0 d.value):=by unfold aN;omega
  have hin:aN ((k:Int)+1):=by unfold aN;omega
  repeat' (first|(with_reducible first|apply ay|apply af)|((with_reducible first|apply jE|apply dF);rfl;rfl)|((with_reducible apply di);rfl;rfl;first|assumption|(unfold aN;omega))|((with_reducible apply aO);rfl)|((with_reducible apply aL);rfl)|((with_reducible apply ao);rfl;first|rfl|assumption)|((with_reducible apply aM);rfl;first|rfl|assumption)|((with_reducible apply aX);rfl;first|rfl|assumption)|((with_reducible apply dX);rfl)|((with_reducible apply de);rfl)|((with_reducible apply nM);rfl;intro _)|(refine aA (by kernel_rfl) (hG) ?_)|(refine aA (by kernel_rfl) (hS) ?_)|(refine zzg (f:=dD) rfl rfl hd ?_)|((with_reducible apply fQ);rfl)|((with_reducible apply fi);rfl)|(with_reducible intro _))
  all_goals first
   | (refine⟨k+1,⟨by omega,by omega, ?_⟩,Wk.le (by simp) (by rw[htk,Gr];simp),by omega⟩
      rw[htk,List.any_append,hall];simp only[List.any_cons,List.any_nil,Bool.or_false,Bool.false_or];unfold gD;grind)
   | (refine .pure (by simp) ?_
      simp only[kE,nX,AV.v.injEq,Value.bool.injEq];have hg:gD d=true:=by unfold gD;grind
      unfold ng;have:(l.take 41).any gD=true:=acB.2 ⟨d,gO (i:=k) (by rw[To,if_pos (by omega)];exact hd),hg⟩;rw[this];rfl)
 ·have hkk:l.take k=l.take 41:=by
   rcases AT k l.length with z|z
   ·obtain rfl:k=41:=by omega
    rfl
   ·rw[Of z,Of (by omega)]
  have e:ng l=(decide ((40:Int)<l.length)||decide ((1500:Int)<qx (l.take k))):=by unfold ng;rw[←hkk,hall];simp
  rw[e]
  by_cases z:k<l.length
  ·have q1:decide ((k:Int)<((l.length:Nat):Int))=true:=by simp;omega
   have q2:decide ((k:Int)≤40)=false:=by simp;omega
   repeat' (first|(with_reducible first|apply ay|apply af)|((with_reducible first|apply jE|apply dF);rfl;rfl)|((with_reducible apply aO);rfl)|((with_reducible apply aL);rfl)|((with_reducible apply ah);rfl;first|rfl|assumption)|((with_reducible apply aM);rfl;first|rfl|assumption)|((with_reducible apply dg);rfl;(first|rfl|simp);intro _)|((with_reducible apply fi);rfl)|(with_reducible intro _))
   all_goals
    refine .pure (by simp) ?_;simp only[yH]at *
    simp_all
    try (intro;omega)
  ·have q1:decide ((k:Int)<((l.length:Nat):Int))=false:=by simp;omega
   repeat' (first|(with_reducible first|apply ay|apply af)|((with_reducible apply dF);rfl;rfl)|((with_reducible apply aO);rfl)|((with_reducible apply aL);rfl)|((with_reducible apply ah);rfl;first|rfl|assumption)|((with_reducible apply aX);rfl;first|rfl|assumption)|((with_reducible apply dg);rfl;(first|rfl|simp);intro _)|((with_reducible apply fi);rfl)|(with_reducible intro _))
   all_goals
    refine .pure (by simp) ?_;simp only[yH]at *
    simp_all
    try (intro;omega)
end
section
open Go Go.Aw
variable [Laid]
def W77(x0 x1 x2:AV)(h:aa)(K:AV→aa→Prop):Prop:=
 aG 11 x0 x1 fun c=>bh 0 c fun d=>iFL 0 false 1 d h fun a=>ab .eql x2 (.str [114,101,118,101,114,116]) fun e=>ae e (aG 11 x0 x1 fun f=>iFL 4 false 1 f h fun g=>iC p_ 39 [x0,g,a] h fun b i=>aK 0 b fun j=>aK 1 b fun k=>K (.aF [j,k]) i) (ab .eql x2 (.str [117,110,115,101,116]) fun l=>ae l (iC p_ 78 [a] h fun m n=>K (.aF [(i_ (-1)),m]) n) (K (.aF [(i_ (-1)),x2]) h))
theorem V77(x0 x1 x2:AV):cp p_ 77 [x0,x1,x2] (W77 x0 x1 x2):=mkM Tryz.func77 .nil 33 [.tmp 6,.tmp 7] (by kernel_rfl) fun _ _=>by kernel_rfl
end
section
open Go Go.Aw Go.dz Go.jC
def vS:aD:=[105,110,105,116,105,97,108]
def sJ:aD:=[105,110,104,101,114,105,116]
def y9:aD:=[117,110,115,101,116]
def Ax:aD:=[114,101,118,101,114,116]
def mr:List aD:=[vS,sJ,y9,Ax]
def eO(l:List Vl):aD:=match l with|[v]=>if v.kind=1∧bO v.text∈mr then bO v.text else []|_=>[]
theorem FF(l:List Vl):aP p_ 76 [.sl 6 (ar l)] (.str (eO l)):=by
 refine (V76 _).gives (by simp[dd]) (by simp) ?_;unfold W76;have other:l.length≠1→eO l=[]:=fun h=>by
  match l,h with
  | [],_=>rfl
  | _:: _:: _,_=>rfl
 by_cases h1:l.length=1
 rotate_left
 ·refine zzk (n:=l.length) (by simp[aJ]) fun _=>?_;refine zzG (ay (zzM (oN (by omega)) (af (zzQ (zzK rfl ?_)))));exact .pure (by simp) (by rw[other h1])
 match l,h1 with
 | [v],_ =>
   have h0:[v][0]?=some v:=rfl;refine zzk (n:=1) rfl fun _=>?_;refine zzG (ay (zzN rfl (zzg (f:=cQ) (l:=[v]) (a:=v) (aJ _) (n:=0) rfl h0 (nb (i:=0) (c:=u1 v.kind) (by simp[cK]) (zzG (af (zzR ?_)))))))
   by_cases hk:v.kind=1
   rotate_left
   ·refine zzK (oN hk) ?_;exact .pure (by simp) (by simp[eO,hk])
   refine zzL (tO hk) (zzg (f:=cQ) (l:=[v]) (a:=v) (aJ _) (n:=0) rfl h0 (nb (i:=1) (c:=.str v.text) (by simp[cK]) (zzS (by kernel_rfl) (FG v.text) (cN (cs:=[.str vS,.str sJ,.str y9,.str Ax]) rfl (zzS (by kernel_rfl) (mv mr (bO v.text) (by decide)) ?_)))))
   by_cases hm:bO v.text∈mr
   ·refine zzL (tO hm) ?_;exact .pure (by simp) (by simp[eO,hk,hm])
   ·refine zzK (oN hm) ?_;exact .pure (by simp) (by simp[eO,hm])
def Io(s:aD):Bool:=if db s then true else match jN s with|some n=>(nm.getD n ([],false)).2|none=>false
def xK(s:aD):aD:=Fp (Io s)
theorem Cs(s:aD):aP p_ 78 [.str s] (.str (xK s)):=by
 have:∃e,lR s=.aF [b_ (Io s),i_ e]:=by
  by_cases hc:db s=true
  ·exact⟨0,by simp[lR,Io,hc]⟩
  ·cases hf:jN s with
   | none=>exact⟨6,by simp[lR,Io,hc,hf]⟩
   | some n=>exact⟨0,by simp[lR,Io,hc,hf]⟩
 obtain⟨e,h⟩:=this;exact My h
def Ord(l:List Dc)(n:Nat):Prop:=∀i,0<i→i<n→∀a b,l[i-1]?=some a→l[i]?=some b→zd b a=false
open Classical in
def mN(l:List Dc):Int:=if l.all ij=true then (if Ord l l.length then 0 else 2) else 8
theorem nq{l:List Dc}(h:mN l=0):(∀d∈l,ij d=true)∧Ord l l.length:=by
 unfold mN at h;split at h
 ·rename_i h1;split at h
  ·rename_i h2;exact⟨fun d hd=>By.1 h1 d hd,h2⟩
  ·cases h
 ·cases h
theorem yz(l:List Dc)(hs:∀d∈l,kS d)(hl:l.length<2^40):aP p_ 37 [.sl 11 (cy l)] (i_ (mN l)):=by
 refine (V37 _).gives (by simp[fp]) (by simp) ?_;unfold W37;refine zzk (n:=l.length) (by simp[cy]) fun _=>?_;refine aU (α:=Nat) (fun k=>k≤l.length∧(l.take k).all ij=true) (fun k=>[i_ k]) (fun _=>[]) (fun k=>l.length-k) 0 (by simp) (Wk.refl _ _ _ (by simp)) ?_;rintro k ⟨hk,hf⟩;refine zzC ?_;rcases AT k l.length with q|q
 ·obtain⟨d,hd⟩:∃x,l[k]?=some x:=⟨l[k],dO q⟩;obtain⟨z1,z2,z3⟩:=hs d (gO hd);have hC:=Cp d (by omega) (by omega);refine zzL (by simpa using q) (zzg (f:=dD) rfl rfl hd (zzY (by simp[dD]) (dr rfl (eS (cs:=dD d) rfl rfl rfl rfl (aS _) rfl rfl (zzV rfl (aS _) (zzS (by kernel_rfl) hC (zzH ?_)))))));cases ho:ij d with
  | true =>
    refine zzK (by simp[ko,ho]) (zzP (by unfold aN;omega) (af ?_));exact⟨k+1,⟨q,by rw[Gt,hd,List.all_append,hf];simp[ho]⟩,Wk.back (M:=0) (by simp) (by simp) rfl rfl (by simp) (by simp[Bd]),by omega⟩
  | false =>
    refine zzL (by simp[ko,ho]) ?_;have ha:l.all ij≠true:=fun h=>by have:=By.1 h d (gO hd);rw[ho]at this;cases this
    exact .pure (by simp) (by rw[ko,ho,mN,if_neg ha];rfl)
 ·obtain rfl:k=l.length:=by omega
  rw[GO]at hf;have hall:∀d∈l,ij d=true:=fun d hd=>By.1 hf d hd;refine zzK (by simp) (aU (α:=Nat) (fun k=>0<k∧Ord l k∧(k≤l.length∨k=1)) (fun k=>[i_ k]) (fun _=>[]) (fun k=>l.length-k) 1 ⟨by omega,fun i h1 h2=>absurd h2 (by omega),.inr rfl⟩ (Wk.refl _ _ _ (by simp)) ?_);rintro k ⟨hp,ho,hk2⟩;refine zzk (n:=l.length) (by simp[cy]) fun _=>?_;refine zzC ?_;rcases AT k l.length with q|q
  ·obtain⟨d,hd⟩:∃x,l[k]?=some x:=⟨l[k],dO q⟩;obtain⟨c,hc⟩:∃x,l[k-1]?=some x:=⟨_,dO (by omega)⟩;have od:=hall d (gO hd);have oc:=hall c (gO hc);have hB:=Ma d c (hs d (gO hd)) (hs c (gO hc));have eb:Ec d c=.aF [b_ (zd d c),i_ 0]:=by
    unfold Ec;rw[if_pos (by simp[eL,od,oc])];rfl
   rw[eb]at hB;refine zzL (by simpa using q) (zzg (f:=dD) rfl rfl hd (zzY (by simp[dD]) (qb hp (by omega) (zzg (f:=dD) (n:=k-1) rfl rfl hc (zzY (by simp[dD]) (zzT (by kernel_rfl) hB (zzB rfl (zzB rfl ?_))))))));cases hb:zd d c with
   | true =>
     refine zzL rfl ?_;have hn:¬Ord l l.length:=fun h=>by have:=h k hp q c d hc hd;rw[hb]at this;cases this
     exact .pure (by simp) (by rw[mN,if_pos hf,if_neg hn])
   | false =>
     refine zzK rfl (zzP (by unfold aN;omega) (af ?_));refine⟨k+1,⟨by omega,fun i h1 h2 a b ea eb=>?_,.inl q⟩,Wk.refl _ _ _ (by simp),by omega⟩
     by_cases e:i=k
     ·subst e;rw[hc]at ea;cases ea;rw[hd]at eb;cases eb;exact hb
     ·exact ho i h1 (by omega) a b ea eb
  ·refine zzK (oN (by omega)) ?_;have hn:Ord l l.length:=fun i h1 h2=>ho i h1 (by omega);exact .pure (by simp) (by rw[mN,if_pos hf,if_pos hn])
theorem Am(l:List Dc)(hall:∀d∈l,ij d=true)(hl:l.length<2^40){b:Bool}(hb:b=true↔Ord l l.length):aP p_ 51 [.sl 11 (cy l)] (b_ b):=by
 refine (V51 _).gives (by simp[fp]) (by simp) ?_;unfold W51;refine aU (α:=Nat) (fun k=>0<k∧Ord l k∧(k≤l.length∨k=1)) (fun k=>[i_ k]) (fun _=>[]) (fun k=>l.length-k) 1 ⟨by omega,fun i h1 h2=>absurd h2 (by omega),.inr rfl⟩ (Wk.refl _ _ _ (by simp)) ?_;rintro k ⟨hp,ho,hk2⟩;refine zzk (n:=l.length) (by simp[cy]) fun _=>?_;refine zzC ?_;rcases AT k l.length with q|q
 ·obtain⟨d,hd⟩:∃x,l[k]?=some x:=⟨l[k],dO q⟩;obtain⟨c,hc⟩:∃x,l[k-1]?=some x:=⟨_,dO (by omega)⟩;have hB:=Q0 d c (hall d (gO hd)) (hall c (gO hc));refine zzL (by simpa using q) (zzg (f:=dD) rfl rfl hd (zzY (by simp[dD]) (qb hp (by omega) (zzg (f:=dD) (n:=k-1) rfl rfl hc (zzY (by simp[dD]) (zzT (by kernel_rfl) hB ?_))))));cases hlt:zd d c with
  | true =>
    refine zzL hlt ?_;have hn:¬Ord l l.length:=fun h=>by have:=h k hp q c d hc hd;rw[hlt]at this;cases this
    have:b=false:=by cases b with|true=>exact absurd (hb.1 rfl) hn|false=>rfl
    exact .pure (by simp) (by rw[this])
  | false =>
    refine zzK hlt (zzP (by unfold aN;omega) (af ?_));refine⟨k+1,⟨by omega,fun i h1 h2 a b ea eb=>?_,.inl q⟩,Wk.refl _ _ _ (by simp),by omega⟩
    by_cases e:i=k
    ·subst e;rw[hc]at ea;cases ea;rw[hd]at eb;cases eb;exact hlt
    ·exact ho i h1 (by omega) a b ea eb
 ·refine zzK (oN (by omega)) ?_;have hn:Ord l l.length:=fun i h1 h2=>ho i h1 (by omega);exact .pure (by simp) (by rw[hb.2 hn])
theorem Mm(l:List Dc)(hs:∀d∈l,kS d)(hl:l.length<2^40):aP p_ 26 [.sl 11 (cy l)] (i_ (mN l)):=by
 refine (V26 _).gives (by simp[fp]) (by simp) ?_;unfold W26;refine zzS (by kernel_rfl) (UT l hs hl) (zzH ?_)
 by_cases hf:l.all ij=true
 rotate_left
 ·refine zzL (by simp[eL,hf]) ?_;exact .pure (by simp) (by rw[mN,if_neg hf,eL,if_neg hf])
 refine zzK (by simp[eL,hf]) ?_;have hall:∀d∈l,ij d=true:=fun d hd=>By.1 hf d hd
 by_cases hn:Ord l l.length
 ·refine zzS (by kernel_rfl) (Am l hall hl (b:=true) (by simp[hn])) (zzO (zzK rfl ?_));exact .pure (by simp) (by rw[mN,if_pos hf,if_pos hn])
 ·refine zzS (by kernel_rfl) (Am l hall hl (b:=false) (by simp[hn])) (zzO (zzL rfl ?_));exact .pure (by simp) (by rw[mN,if_pos hf,if_neg hn])
end
section
open Go Go.Aw Go.dz Go.jC
theorem lG{a:AV}{l:List AV}(h1:jk a=0)(h2:jk (.agg l)=0):jk (.agg (a:: l))=0:=by
 have:jk (.agg (a:: l))=(match Nat.ble (jk a) (jk (.agg l)) with|true=>jk (.agg l)|false=>jk a):=rfl;rw[this,h1,h2]
theorem T9{n:Nat}{r:List AV}{rows:List (List AV)}(h1:jk (.agg r)=0)(h2:jk (.sl n rows)=0):jk (.sl n (r:: rows))=0:=by
 have:jk (.sl n (r:: rows))=(match Nat.ble (jk (.agg r)) (jk (.sl n rows)) with|true=>jk (.sl n rows)|false=>jk (.agg r)):=rfl;rw[this,h1,h2]
mutual
theorem ae7:∀v:Vl,jk (.agg (cQ v))=0
 | .mk k t n u f l=>by
   rw[cQ];exact lG rfl (lG rfl (lG rfl (lG rfl (lG rfl (lG (Nl l) rfl)))))
theorem Nl:∀l:List Vl,jk (.sl 6 (ar l))=0
 | []=>by rw[ar];rfl
 | v:: l=>by rw[ar];exact T9 (ae7 v) (Nl l)
end
theorem ae6(d:Dc):jk (.agg (dD d))=0:=lG rfl (lG (Nl d.value) (lG rfl (lG rfl (lG rfl (lG rfl (lG rfl (lG rfl (lG rfl (lG rfl (lG rfl rfl))))))))))
theorem T8:∀l:List Dc,jk (.sl 11 (cy l))=0
 | []=>rfl
 | d:: l=>T9 (ae6 d) (T8 l)
def jr(l:List Dc)(b:Nat)(name:aD):Nat→Option (Nat×Dc)
 | 0=>none
 | k+1=>match l[k]? with|some d=>if d.name=name∧d.origin.toNat<b then some (k,d) else jr l b name k|none=>jr l b name k
theorem ku{l:List Dc}{b:Nat}{name:aD}{k:Nat}{d:Dc}:∀m,jr l b name m=some (k,d)→l[k]?=some d∧d.name=name∧d.origin.toNat<b
 | 0,h=>by cases h
 | m+1,h=>by
   rw[jr]at h;split at h
   ·rename_i x hx;split at h
    ·rename_i hc;cases h;exact⟨hx,hc⟩
    ·exact ku m h
   ·exact ku m h
def fm(l:List Dc)(b:Nat)(name:aD):Int×aD:=
 match jr l b name l.length with
 | none=>(-1,xK name)
 | some (k,d)=>if d.whole≠[]∨eO d.value=[] then ((k:Int),[]) else if eO d.value=Ax then (if d.origin.toNat<b then fm l d.origin.toNat d.name else (0,[])) else if eO d.value=y9 then (-1,xK d.name) else (-1,eO d.value)
termination_by b
def kO(l:List Dc)(d:Dc)(wd:aD):Int×aD:=if wd=Ax then fm l d.origin.toNat d.name else if wd=y9 then (-1,xK d.name) else (-1,wd)
def w5(l:List Dc)(k:Nat)(d:Dc):Int×aD:=if d.whole≠[]∨eO d.value=[] then ((k:Int),[]) else kO l d (eO d.value)
def xx(l:List Dc)(name:aD):Option (Nat×Dc)→Int×aD
 | none=>(-1,xK name)
 | some (k,d)=>w5 l k d
theorem q9(l:List Dc)(b:Nat)(name:aD):fm l b name=xx l name (jr l b name l.length):=by
 rw[fm];cases h:jr l b name l.length with
 | none=>rfl
 | some p =>
   obtain⟨k,d⟩:=p;obtain⟨_,_,h3⟩:=ku _ h;dsimp only[xx,w5,kO];rw[if_pos h3]
theorem GA(l:List Vl):(eO l).length≤7:=by
 unfold eO;split
 ·split
  ·rename_i h;have:=h.2;simp only[mr,IS,List.not_mem_nil,or_false]at this;rcases this with e|e|e|e<;>rw[e]<;>decide
  ·simp
 ·simp
theorem Jv(s:aD):(xK s).length≤7:=by unfold xK Fp;split<;>decide
theorem Rg(l:List Dc):∀(b:Nat) (name:aD),(fm l b name).2.length≤7:=by
 intro b;induction b using Nat.strongRecOn with
 | _ b ih =>
   intro name;rw[q9];cases h:jr l b name l.length with
   | none=>exact Jv _
   | some p =>
     obtain⟨k,d⟩:=p;obtain⟨_,_,h3⟩:=ku _ h;dsimp only[xx,w5,kO];split
     ·simp
     ·split
      ·exact ih _ h3 _
      ·split
       ·exact Jv _
       ·exact GA _
def DZ(rows:List (List AV)):aD:=match rows with
 | [[.v (.int _ k),.str t,_,_,_,_]]=>if k=1∧bO t∈mr then bO t else []
 | _=>[]
theorem Jz(l:List Vl):DZ (ar l)=eO l:=by
 match l with
 | []=>simp[DZ,ar,eO]
 | [.mk k t n u f l] =>
   by_cases h:k=1∧bO t∈mr<;>simp[DZ,ar,cQ,eO,Vl.kind,Vl.text,h]
 | _:: _:: _=>simp[DZ,ar,eO]
def T5(l:List Dc)(k:Nat)(wd:aD):Int×aD:=match l[k]? with|some d=>kO l d wd|none=>(0,[])
abbrev Ju(r:Int×aD):AV:=.aF [i_ r.1,.str r.2]
open Classical in
def qd(l:List Dc)(b:Nat):aZ:=fun f args _=>match args with
 | [.str s]=>if f=78 then some (.str (xK s),none) else none
 | [.sl 6 rows]=>if f=76∧∃v,rows=ar v then some (.str (DZ rows),none) else none
 | [x,.v (.int .i64 k),.str wd]=>if f=77∧x=.sl 11 (cy l)∧∃n d,k=((n:Nat):Int)∧l[n]?=some d∧d.origin.toNat<b then some (Ju (T5 l k.toNat wd),none) else none
 | _=>none
def QF(l:List Dc)(b:Nat):Prop:=∀(β:Int) (name:aD),0≤β→β.toNat=b→aP p_ 39 [.sl 11 (cy l),u1 β,.str name] (Ju (fm l b name))
section
variable {l:List Dc} (hall:∀d∈l,ij d=true)
include hall
theorem Lj{k:Nat}{d:Dc}(h:l[k]?=some d):0≤d.origin:=by
 have:=hall d (gO h);simp only[ij,On,OF]at this;omega
theorem HO{k:Nat}{d:Dc}{wd:aD}(h:l[k]?=some d)(hd:QF l d.origin.toNat):aP p_ 77 [.sl 11 (cy l),i_ k,.str wd] (Ju (kO l d wd)):=by
 refine (V77 _ _ _).gives (by simp[bf,Aw.Pure,fp]) (by simp[Aw.Pure,bf]) ?_;unfold W77 kO;refine zzg (f:=dD) rfl (n:=k) rfl h (zzX (zzX (zzW (zzI ?_))))
 by_cases hr:wd=Ax
 ·refine zzL (tO hr) ?_;rw[if_pos hr];refine zzg (f:=dD) rfl (n:=k) rfl h (zzX (zzW (zzS (by kernel_rfl) (hd d.origin d.name (Lj hall h) rfl) (zzB rfl (zzB rfl ?_)))));exact .pure (by simp[Aw.Pure,bf]) rfl
 refine zzK (oN hr) ?_;rw[if_neg hr];refine zzI ?_
 by_cases hu:wd=y9
 ·refine zzL (tO hu) ?_;rw[if_pos hu];refine zzS (by kernel_rfl) (Cs d.name) ?_;exact .pure (by simp[Aw.Pure,bf]) rfl
 refine zzK (oN hu) ?_;rw[if_neg hu];exact .pure (by simp[Aw.Pure,bf]) rfl
theorem QT{b:Nat}(hb:∀b',b'<b→QF l b'):dZ p_ (qd l b):=by
 intro f args h v oh e;unfold qd at e;split at e
 ·split at e
  ·rename_i hf;subst hf;cases e;exact .inl ⟨by kernel_rfl,(Cs _).call ⟨rfl,rfl⟩⟩
  ·cases e
 ·split at e
  ·rename_i q;obtain⟨hf,v,hv⟩:=q;subst hf;subst hv;cases e;rw[Jz];exact .inl ⟨by kernel_rfl,(FF v).call ⟨rfl,rfl⟩⟩
  ·cases e
 ·split at e
  ·rename_i q;obtain⟨hf,hx,n,d,hk,hn,ho⟩:=q;subst hf;subst hx;subst hk;cases e;have c:=HO (wd:=by assumption) hall hn (hb _ ho);have em:T5 l ((n:Nat):Int).toNat=kO l d:=by funext w;unfold T5;rw[NO,hn]
   rw[em];exact .inl ⟨by kernel_rfl,c.call ⟨rfl,rfl⟩⟩
  ·cases e
 ·cases e
omit hall in
theorem VW{b k:Nat}{d:Dc}(h:l[k]?=some d)(ho:d.origin.toNat<b):yP (qd l b) (.sl 11 (cy l)) k (.sl 6 (ar d.value)) d.whole=some (Ju (w5 l k d)):=by
 unfold yP w5;cases hw:d.whole with
 | cons c r=>simp
 | nil =>
   have e1:qd l b 76 [.sl 6 (ar d.value)] []=some (.str (eO d.value),none):=by
    simp only[qd];rw[if_pos ⟨rfl,d.value,rfl⟩,Jz]
   rw[e1];dsimp only;cases hv:eO d.value with
   | nil=>simp
   | cons c r =>
     have e2:qd l b 77 [.sl 11 (cy l),i_ k,.str (c:: r)] []=some (Ju (kO l d (c:: r)),none):=by
      simp only[qd];rw[if_pos ⟨rfl,rfl,k,d,rfl,h,ho⟩];unfold T5;rw[NO,h]
     have e3:Nat.ble (c:: r).length 1000=true:=Nat.ble_eq_true_of_le (by rw[←hv];have:=GA d.value;omega);rw[e2,e3];simp
theorem Pd{b:Nat}{β:Int}{name:aD}(h0:0≤β)(hβ:β.toNat=b):∀m,m≤l.length→vJ (qd l b) (cy l) (.sl 11 (cy l)) name β m=some (Ju (xx l name (jr l b name m)))
 | 0,_=>by
   have e1:qd l b 78 [.str name] []=some (.str (xK name),none):=by unfold qd;dsimp only;rw[if_pos rfl]
   rw[vJ,e1];rfl
 | m+1,hm=>by
   have hx:l[m]?=some l[m]:=dO hm;have hr:rowAt (cy l) m=some (l[m].name,.sl 6 (ar l[m].value),l[m].whole,l[m].origin):=by
    unfold rowAt cy;rw[lE,hx];rfl
   have ih:=Pd (name:=name) h0 hβ m (by omega);have op:=Lj hall hx;rw[vJ,hr,jr,hx];dsimp only;rw[r8,o8]
   by_cases hc:l[m].name=name∧l[m].origin.toNat<b
   ·have e1:decide (l[m].name=name)=true:=tO hc.1;have e2:decide (l[m].origin<β)=true:=tO (by omega);rw[e1,e2,if_pos hc];dsimp only;rw[VW hx hc.2,ih];rfl
   ·rw[if_neg hc,←ih]
    by_cases hn:l[m].name=name
    ·have e2:decide (l[m].origin<β)=false:=oN fun q=>hc ⟨hn,by omega⟩;rw[e2];split
     ·rename_i h1 h2;cases h2
     ·rfl
    ·have e1:decide (l[m].name=name)=false:=oN hn;rw[e1]
theorem HS(hl:l.length≤100000):∀b,QF l b:=by
 intro b;induction b using Nat.strongRecOn with
 | _ b ih =>
   intro β name h0 hβ;have hgo:=Pd hall (name:=name) h0 hβ l.length (aS _);rw[←q9]at hgo;have hrd:DJ (cy l)=true:=by
    unfold DJ;rw[iU];refine By.2 fun r hr=>?_;obtain⟨d,_,rfl⟩:=aas.1 hr;show (match Jd (dD d),qc dH (dD d) with|some _,true=>true|_,_=>false)=true;have:qc dH (dD d)=true:=by rw[iU];rfl
    rw[this];rfl
   have hpu:jJ [.sl 11 (cy l),u1 β,.str name]=true:=by
    unfold jJ;rw[iU];refine By.2 fun a ha=>?_;have:jk a=0:=by
     simp only[IS,List.not_mem_nil,or_false]at ha;rcases ha with rfl|rfl|rfl
     ·exact T8 l
     ·rfl
     ·rfl
    rw[this];rfl
   have hln:Nat.ble (cy l).length 100000=true:=Nat.ble_eq_true_of_le (by simp[cy];omega);have hsl:Nat.ble (fm l b name).2.length 100000=true:=Nat.ble_eq_true_of_le (by have:=Rg l b name;omega);have e:HU (qd l b) [.sl 11 (cy l),u1 β,.str name]=some (Ju (fm l b name)):=by
    have hlen:(cy l).length=l.length:=by simp[cy]
    have hro:rowsOf (.sl 11 (cy l))=some (cy l):=rfl;unfold HU;dsimp only;rw[hro];dsimp only;rw[hrd,hpu,hln];dsimp only;rw[hlen,hgo];dsimp only;rw[hsl]
   have c:=Ki (QT hall ih) e;exact⟨by simp[bf,Aw.Pure,fp],by simp[Aw.Pure,bf],(c.2 []).mono fun _ _ q=>q.1⟩
end
end
section
open Go Go.Aw Go.dz
theorem CE(v:Vv):jZ [1,2,1,1,1,1,1] (bL v) (bL v)=some true:=by
 have:jZ [1,2,1,1,1,1,1] (bL v) (bL v)=some (decide (v.kind=v.kind)&&(decide (v.word=v.word)&&(decide (v.num=v.num)&&(decide (v.cr=v.cr)&&(decide (v.cg=v.cg)&&(decide (v.cb=v.cb)&&(decide (v.ca=v.ca)&&true))))))):=rfl;rw[this];simp
end
section
open Go Go.Aw Go.dz Go.jC
variable{l:List Dc}{cus cs:List Cu}{i k:Nat}{root em rem:Int}{aq:List Vv}{v:Vv}{es:List (Nat×AV×AV)}{d:Dc}{vR:List (List AV)}{s:Sy}{KS:AV→aa→Prop}{c:Cu}{t:aD}{p:Rw}{h h':aa}{K:AV→Prop}{f:Nat→Vv}
/-! ### Names -/
theorem Ln(c:Nat)(s:List UInt8)(v:AV):∀L:EL,(mD c s v L).length≤L.length+1
 | []=>by simp[mD]
 | (n,k,x):: r=>by
  have:=Ln c s v r;rw[mD];split
  ·simp only[aah];omega
  ·simp only[aah];omega
theorem Mp.aa8{c:Nat}{f:List UInt8→Option AV}(h:Mp c es f)(s:List UInt8)(v:AV):∃c' es',oM c (.str s) v es=some (c',es')∧Mp c' es' (fun t=>if t=s then some v else f t)∧es'.length≤es.length+1:=by
 obtain⟨L,rfl,ml,hf⟩:=h;refine⟨_,_,Fq c s v L,⟨_,rfl,ml.put s v,fun t=>by rw[I8,hf]⟩, ?_⟩;unfold ki;rw[aai,aai];exact Ln c s v L
theorem Kb{n:Nat}:∀{L:EL},n∉L.map (·.1)→lr n (ki L)=none
 | [],_=>rfl
 | (m,k,v):: r,h=>by
  rw[IF,IS,not_or]at h;have ih:=Kb h.2;simp only[ki,IF]at ih ⊢;rw[lr,vC fun e=>h.1 e.symm];exact ih
theorem IY:∀{L:EL},(L.map (·.1)).Nodup→E1 (ki L)=true
 | [],_=>rfl
 | (n,k,v):: r,h=>by
  rw[IF,List.nodup_cons]at h;have ih:=IY h.2;have b:=Kb h.1;simp only[ki,IF]at ih b ⊢;rw[E1,b];exact ih
theorem Iu:∀L:EL,zM (ki L)=some (L.map (·.2.1))
 | []=>rfl
 | (n,k,v):: r=>by
  have ih:=Iu r;simp only[ki,IF]at ih ⊢;rw[zM,ih]
abbrev tp(l:List aD):Prop:=l.Pairwise fun a b=>a<b
theorem Xa{l:List aD}(h:l.Nodup):tp (mq l):=by
 have h1:=BQ l;have h2:(mq l).Pairwise (fun a b=>a≠b):=(mY l).nodup_iff.2 h;refine (h1.and h2).imp fun {a b} q=>?_;have:=q.1;simp only[leB,OF]at this;exact List.not_le.1 fun hb=>q.2 (List.le_antisymm this hb)
theorem Gn:∀{a b:List aD},tp a→tp b→(∀t,t∈a↔t∈b)→a=b
 | [],[],_,_,_=>rfl
 | [],y:: b,_,_,h=>absurd ((h y).2 (by simp)) (by simp)
 | x:: a,[],_,_,h=>absurd ((h x).1 (by simp)) (by simp)
 | x:: a,y:: b,ha,hb,h=>by
   unfold tp at ha hb;rw[List.pairwise_cons]at ha hb;have e:x=y:=by
    rcases IS.1 ((h x).1 (by simp)) with e|e
    ·exact e
    ·rcases IS.1 ((h y).2 (by simp)) with e' | e'
     ·exact e'.symm
     ·exact absurd (List.lt_trans (ha.1 _ e') (hb.1 _ e)) (List.lt_irrefl _)
   subst e
   congr 1
   refine Gn ha.2 hb.2 fun t=>⟨fun q=>?_,fun q=>?_⟩
   ·rcases IS.1 ((h t).1 (by simp[q])) with e|e
    ·subst e;exact absurd (ha.1 _ q) (List.lt_irrefl _)
    ·exact e
   ·rcases IS.1 ((h t).2 (by simp[q])) with e|e
    ·subst e;exact absurd (hb.1 _ q) (List.lt_irrefl _)
    ·exact e
open Classical in
def xr(P:aD→Prop):List aD:=if h:∃ns,tp ns∧∀t,t∈ns↔P t then Classical.choose h else []
theorem Wp{P:aD→Prop}{ns:List aD}(h1:tp ns)(h2:∀t,t∈ns↔P t):xr P=ns:=by
 have h:∃ns,tp ns∧∀t,t∈ns↔P t:=⟨ns,h1,h2⟩;unfold xr;rw[dif_pos h];have c:=Classical.choose_spec h;exact Gn c.1 h1 fun t=>(c.2 t).trans (h2 t).symm
theorem aa0{c:Nat}{f:aD→Option AV}(m:Mp c es f)(hl:es.length≤1000000):∃r,BS c es=some r∧tn r (.sl 1 (fa (xr fun t=>f t≠none)))∧tp (xr fun t=>f t≠none)∧(xr fun t=>f t≠none).length=es.length∧∀t,t∈xr (fun t=>f t≠none)↔f t≠none:=by
 obtain⟨L,rfl,ml,hf⟩:=m;have hs:=Xa ml.ks;have hm:∀t,t∈mq (L.map (·.2.1))↔f t≠none:=fun t=>by
  rw[(mY _).mem_iff];constructor
  ·intro h;obtain⟨⟨n,k,v⟩,hp,e⟩:=aas.1 h;dsimp only at e;subst e;rw[←hf,H8 ml.ks hp];exact fun q=>by cases q
  ·intro h;rw[←hf]at h;cases e:fL L t with
   | none=>exact absurd e h
   | some v=>obtain⟨n,hn⟩:=Et e;exact aas.2 ⟨_,hn,rfl⟩
 rw[Wp hs hm];have hlen:(mq (L.map (·.2.1))).length=(ki L).length:=by rw[(mY _).length_eq];simp[ki]
 unfold BS;rw[Iu,Ed ml.oT,IY ml.ns,Nat.ble_eq_true_of_le hl];simp only[La ml.ks];cases h:mq (L.map (·.2.1)) with
 | nil=>exact⟨_,rfl,tn.nil 1,by rw[←h];exact hs,by rw[←h];exact hlen,by rw[←h];exact hm⟩
 | cons a r=>exact⟨_,rfl,tn.refl _,by rw[←h];exact hs,by rw[←h];exact hlen,by rw[←h];exact hm⟩
/-! ### Wide -/
section
variable {l:List Dc} (hs:∀d∈l,kS d) (hl:l.length≤100000) (ha:mN l=0)
include hs hl ha
theorem wG{s:aD}{b:Bool}(hi:lR s=.aF [b_ b,i_ 0]):aP p_ 14 [.sl 11 (cy l),.str s] (.aF [i_ (fm l 4 s).1,.str (fm l 4 s).2,i_ 0]):=by
 refine (V14 _ _).gives (by simp[bf,Aw.Pure,fp]) (by simp[Aw.Pure,bf]) ?_;unfold W14;have c:=yz l hs (by omega);rw[ha]at c;have ci:=po s;rw[hi]at ci;refine zzS (by kernel_rfl) c (zzH (zzK rfl (zzS (by kernel_rfl) ci (zzB rfl (zzB rfl (zzH (zzK rfl (zzS (by kernel_rfl) (HS (nq ha).1 hl 4 4 s (by omega) rfl) (zzB rfl (zzB rfl ?_))))))))));exact .pure (by simp[Aw.Pure,bf]) rfl
theorem Q3{k:Nat}{d:Dc}{wd:aD}(h:l[k]?=some d)(hw:wd∈mr):aP p_ 148 [.sl 11 (cy l),i_ k,.str wd] (.aF [i_ (kO l d wd).1,.str (kO l d wd).2,i_ 0]):=by
 refine (aeb _ _ _).gives (by simp[bf,Aw.Pure,fp]) (by simp[Aw.Pure,bf]) ?_;unfold X5;have c:=yz l hs (by omega);rw[ha]at c;have hk:=(gE.1 h).1;refine zzS (by kernel_rfl) c (zzH (zzK rfl (zzC (ay (zzN (oN (by omega)) ?_)))));refine zzk (n:=l.length) (by simp[cy]) fun _=>?_;refine zzF (af (zzQ (ay (zzN (oN (by omega)) (cN (cs:=[.str vS,.str sJ,.str y9,.str Ax]) rfl (zzS (by kernel_rfl) (mv mr wd (by decide)) (zzO (af (zzQ (zzK (by rw[tO hw];rfl) (zzS (by kernel_rfl) (HO (nq ha).1 h (HS (nq ha).1 hl _)) (zzB rfl (zzB rfl ?_)))))))))))));exact .pure (by simp[Aw.Pure,bf]) rfl
theorem Mc:aP p_ 27 [.sl 11 (cy l),u8 1] (.aF [bw,i_ 0]):=by
 refine (V27 _ _).gives (by simp[bf,Aw.Pure,fp]) (by simp[Aw.Pure,bf]) ?_;unfold W27;have c:=yz l hs (by omega);rw[ha]at c;refine zzS (by kernel_rfl) c (zzH (zzK rfl (zzC (ay (zzN rfl (zzE (af (zzQ (zzK rfl ?_)))))))));refine zzk (n:=l.length) (by simp[cy]) fun _=>?_;refine aU (α:=Nat) (fun k=>k≤l.length) (fun k=>[bw,i_ k]) (fun _=>[]) (fun k=>l.length-k) 0 (by simp) (Wk.refl _ _ _ (by simp)) ?_;intro k hk;refine zzC ?_;rcases AT k l.length with q|q
 ·obtain⟨d,hd⟩:∃x,l[k]?=some x:=⟨l[k],dO q⟩;have ho:=(nq ha).1 d (gO hd);have hog:1≤d.origin:=by simp only[ij,On,OF]at ho;omega
  refine zzL (by simpa using q) (ay (zzg (f:=dD) rfl rfl hd (zzY (by simp[dD]) (dr rfl (eS (cs:=dD d) rfl rfl rfl rfl (aS _) rfl rfl (zzA (zzU (id:=0) rfl rfl (zzC (zzK (oN (by omega)) (af (zzP (by unfold aN;omega) (af ?_))))))))))));exact⟨k+1,q,Wk.back (M:=0) (by simp) (by simp) rfl rfl (by simp) (by simp[Bd]),by omega⟩
 ·refine zzK (oN (by omega)) ?_;exact .pure (by simp) rfl
end
abbrev lA(s:Sy)(l:List Dc)(own:AV)(root:Int):dh:=.aC ⟨77,[.sl 7 (bQ s.aq),.sl 2 (az s.bn),.sl 11 (cy l),own,.sl 12 lW,i_ root],true⟩
abbrev HT(d:Dc):dh:=.aC ⟨50,dD d,true⟩
theorem Z9{n:Nat}(hn:h.length=n)(hh:h++[HT d]=h')(q:KS (.op n 0) h'):
 br 50 (.agg [(.str []),(.v (.slice none 0 0)),(.str []),ff,(u8 0),ff,(i_ 0),(i_ 0),(i_ 0),(i_ 0),(i_ 0)]) h fun x g=>aE 11 x (.agg (dD d)) g fun g' => KS x g':=by
 subst hn;subst hh;refine cI (cs:=[(.str []),(.v (.slice none 0 0)),(.str []),ff,(u8 0),ff,(i_ 0),(i_ 0),(i_ 0),(i_ 0),(i_ 0)]) (n:=h.length) (h':=h++[.aC ⟨50,[(.str []),(.v (.slice none 0 0)),(.str []),ff,(u8 0),ff,(i_ 0),(i_ 0),(i_ 0),(i_ 0),(i_ 0)],true⟩]) rfl rfl rfl rfl ?_;refine cf (cs:=dD d) (h':=h++[HT d]) rfl (b:=⟨50,[(.str []),(.v (.slice none 0 0)),(.str []),ff,(u8 0),ff,(i_ 0),(i_ 0),(i_ 0),(i_ 0),(i_ 0)],true⟩) (by simp) rfl rfl (by simp[dD]) (by simp[dD]) (by simp[dD,dH]) (by rw[Lt _ _ (aS _)];simp[dD,dw]) q
theorem YN{a b:Nat}{x y:AV}(ex:x=i_ a)(ey:y=i_ b)(q:K (i_ (min a b:Nat))):mg x y K:=by
 by_cases h:a≤b
 ·rw[Nat.min_eq_left h]at q;exact YP ex ey h q
 ·rw[Nat.min_eq_right (by omega)]at q;subst ex;subst ey;refine⟨rfl, ?_⟩;rw[if_pos (by omega)];exact q
theorem UJ{n k:Nat}{x:AV}{rows:List (List AV)}(ex:x=.sl n rows)(hk:k≤rows.length)(q:K (.sl n (rows.take k))):nj n x none (some (i_ k)) K:=by
 subst ex;rw[CO];simp only[fc];refine⟨by simp,⟨by omega,by omega,by omega⟩, ?_⟩;simpa using q
/-! ### The parent's -/
theorem OZ{b:Nat}{l:List Cu}{s:aD}(hl:l.length≤64)(no:∀c∈l,c.name≠s)(hb:h[b]?=some (sB s)):
 Ex p_ 143 [.sl 2 (az l),.fn (.func 144) [] [.op b 0]] h (i_ (-1)):=by
 refine (XA _ _).ex fun hbd=>?_;unfold QM;refine zzk (n:=l.length) (by simp[az]) fun _=>?_;refine aU (α:=Nat) (fun i=>i≤l.length) (fun i=>[i_ i]) (fun _=>h) (fun i=>l.length-i) 0 (acr _) (Wk.refl _ _ _ (aS _)) ?_;intro i hi;refine zzC ?_;rcases AT i l.length with q|q
 ·obtain⟨d,hd⟩:∃x,l[i]?=some x:=⟨l[i],dO q⟩;refine zzL (tO (by omega)) (qk hd (Ux rfl (OY hb d) (zzK (oN (no d (gO hd))) (zzP (by unfold aN;omega) (af ?_)))));exact⟨i+1,q,Wk.refl _ _ _ (aS _),by omega⟩
 ·refine zzK (oN (by omega)) ?_;exact lB hbd (by simp[Bd]) (by simp)
theorem JF(pv:du vR){l:List Cu}{s:aD}(hl:l.length≤64)(no:∀c∈l,c.name≠s):
 aP p_ 97 [.agg [.sl 7 vR,.sl 2 (az l)],.str s] (.aF [bw,ff]):=by
 refine (V97 _ _).gives (by simp[bf,Aw.Pure,pv,dp]) (by simp[Aw.Pure,bf]) ?_;unfold YG;refine cI (n:=0) (h':=[pB vR l]) rfl rfl rfl rfl (cI (n:=1) (h':=[pB vR l,sB s]) rfl rfl rfl rfl (zzA (zzA (zzU rfl rfl (zzd (OZ hl no rfl) (zzC (zzL rfl ?_)))))));exact .pure (by simp[Aw.Pure,bf]) rfl
def Ev(l:List Cu)(s:aD):Option Cu:=l.find? fun c=>decide (c.name=s)
theorem FT{l:List Cu}{s:aD}(h:Ev l s=some c):c∈l∧c.name=s:=⟨List.mem_of_find?_eq_some h,by simpa using List.find?_some h⟩
theorem JE(pv:du vR){l:List Cu}(s:aD)(hl:l.length≤64)(inj:ny l):
 aP p_ 97 [.agg [.sl 7 vR,.sl 2 (az l)],.str s] (match Ev l s with|some c=>.aF [.sl 6 (ar c.value),tt]|none=>.aF [bw,ff]):=by
 cases h:Ev l s with
 | some c =>
   obtain⟨hm,rfl⟩:=FT h;obtain⟨k,hk⟩:=List.getElem?_of_mem hm;exact Mg pv hl inj hk
 | none =>
   refine JF pv hl fun c hc e=>?_;have:=List.find?_eq_none.1 h c hc;simp[e]at this
/-! ### The names -/
def uq(l:List Dc)(cus:List Cu)(t:aD):Prop:=(db t=true∧∃d∈l,d.name=t)∨∃c∈cus,c.name=t
open Classical in
def oV(l:List Dc)(cus:List Cu):aD→Option AV:=fun t=>if uq l cus t then some tt else none
theorem PU:oV l cus t≠none↔uq l cus t:=by
 unfold oV;split<;>simp_all
theorem EZ{l l':List Dc}{cus cus':List Cu}(h:uq l cus t↔uq l' cus' t):oV l cus t=oV l' cus' t:=by
 unfold oV
 by_cases q:uq l cus t
 ·rw[if_pos q,if_pos (h.1 q)]
 ·rw[if_neg q,if_neg fun p=>q (h.2 p)]
theorem DD(hd:l[k]?=some d)(t:aD):uq (l.take (k+1)) cus t↔(db t=true∧d.name=t)∨uq (l.take k) cus t:=by
 unfold uq;rw[Gt,hd];simp only[Option.toList,IN,Up];constructor
 ·rintro (⟨h1,x,hx|hx,e⟩|h)
  ·exact .inr (.inl ⟨h1,x,hx,e⟩)
  ·subst hx;exact .inl ⟨h1,e⟩
  ·exact .inr (.inr h)
 ·rintro (⟨h1,e⟩|⟨h1,x,hx,e⟩|h)
  ·exact .inl ⟨h1,d,.inr rfl,e⟩
  ·exact .inl ⟨h1,x,.inl hx,e⟩
  ·exact .inr h
theorem Nq(hd:cus[k]?=some c)(t:aD):uq l (cus.take (k+1)) t↔c.name=t∨uq l (cus.take k) t:=by
 unfold uq;rw[Gt,hd];simp only[Option.toList,IN,Up];constructor
 ·rintro (h|⟨x,hx|hx,e⟩)
  ·exact .inr (.inl h)
  ·exact .inr (.inr ⟨x,hx,e⟩)
  ·subst hx;exact .inl e
 ·rintro (e|h|⟨x,hx,e⟩)
  ·exact .inr ⟨c,.inr rfl,e⟩
  ·exact .inl h
  ·exact .inr ⟨x,.inl hx,e⟩
theorem SE(hd:l[k]?=some d)(hc:db d.name=true)(t:aD):(if t=d.name then some tt else oV (l.take k) cus t)=oV (l.take (k+1)) cus t:=by
 by_cases e:t=d.name
 ·rw[if_pos e];unfold oV;rw[if_pos ((DD hd t).2 (.inl ⟨by rw[e];exact hc,e.symm⟩))]
 ·rw[if_neg e];exact EZ ⟨fun q=>(DD hd t).2 (.inr q),fun q=>((DD hd t).1 q).elim (fun w=>absurd w.2.symm e) id⟩
theorem Wo(hd:l[k]?=some d)(hc:db d.name=false)(t:aD):oV (l.take k) cus t=oV (l.take (k+1)) cus t:=
 EZ ⟨fun q=>(DD hd t).2 (.inr q),fun q=>((DD hd t).1 q).elim (fun w=>by rw[←w.2,hc]at w;cases w.1) id⟩
theorem SD(hd:cus[k]?=some c)(t:aD):(if t=c.name then some tt else oV l (cus.take k) t)=oV l (cus.take (k+1)) t:=by
 by_cases e:t=c.name
 ·rw[if_pos e];unfold oV;rw[if_pos ((Nq hd t).2 (.inl e.symm))]
 ·rw[if_neg e];exact EZ ⟨fun q=>(Nq hd t).2 (.inr q),fun q=>((Nq hd t).1 q).elim (fun w=>absurd w.symm e) id⟩
theorem aad{M:Nat}(s:aD)(v:AV)(h:oV l cus s=some v):Bd M v:=by
 unfold oV at h;split at h
 ·cases h;simp[Bd]
 ·cases h
def vj(l:List Dc)(cus:List Cu):List aD:=xr (uq l cus)
theorem Wq(l:List Dc)(cus:List Cu):(xr fun t=>oV l cus t≠none)=vj l cus:=by
 unfold vj
 congr 1
 funext t
 exact propext PU
def jB(l:List Dc)(cus:List Cu)(t:aD):Option Cu:=
 if 0≤(fm l 4 t).1 then (l[(fm l 4 t).1.toNat]?).map fun d=>⟨t,d.value⟩ else match Ev cus t with|some c=>if (fm l 4 t).2=sJ then some ⟨t,c.value⟩ else none|none=>none
def kZ(l:List Dc)(cus:List Cu):List Cu:=((vj l cus).take 64).filterMap (jB l cus)
theorem zo(h:jB l cus t=some c):c.name=t:=by
 unfold jB at h;split at h
 ·cases hx:l[(fm l 4 t).1.toNat]? with
  | none=>rw[hx]at h;cases h
  | some d=>rw[hx]at h;cases h;rfl
 ·split at h
  ·split at h
   ·cases h;rfl
   ·cases h
  ·cases h
theorem BK(h:jB l cus t=some c):(∃d∈l,d.value=c.value)∨∃x∈cus,x.value=c.value:=by
 unfold jB at h;split at h
 ·cases hx:l[(fm l 4 t).1.toNat]? with
  | none=>rw[hx]at h;cases h
  | some d=>rw[hx]at h;cases h;exact .inl ⟨d,gO hx,rfl⟩
 ·split at h
  ·rename_i c0 hc0;split at h
   ·cases h;exact .inr ⟨c0,(FT hc0).1,rfl⟩
   ·cases h
  ·cases h
theorem uW{l:List Dc}{cus:List Cu}:∀ns:List aD,((ns.filterMap (jB l cus)).map Cu.name).Sublist ns
 | []=>by simp
 | t:: ns=>by
   rw[acv];cases h:jB l cus t with
   | none=>exact (uW ns).cons _
   | some c =>
     dsimp only;rw[IF,zo h];exact (uW ns).cons_cons _
theorem qY(l:List Dc):∀(b:Nat) (s:aD),(fm l b s).1=-1∨∃k d,(fm l b s).1=((k:Nat):Int)∧l[k]?=some d∧d.name=s∧(fm l b s).2=[]:=by
 intro b;induction b using Nat.strongRecOn with
 | _ b ih =>
   intro s;rw[q9];cases h:jr l b s l.length with
   | none=>exact .inl rfl
   | some p =>
     obtain⟨k,d⟩:=p;obtain⟨h1,h2,h3⟩:=ku _ h;dsimp only[xx,w5,kO];split
     ·exact .inr ⟨k,d,rfl,h1,h2,rfl⟩
     ·split
      ·rw[←h2];exact ih _ h3 _
      ·split
       ·exact .inl rfl
       ·exact .inl rfl
structure sA(s:Sy)(l:List Dc):Prop where
 hs:∀d∈l,kS d
 ln:l.length≤40
 hz:∀d∈l,aW d.value<2^20
 ask:mN l=0
 cl:s.bn.length≤64
 cn:fY s.bn=true
 cz:∀c∈s.bn,aW c.value≤2000
 cv:∀c∈s.bn,ct c.value=false
 ck:∀c∈s.bn,dC c.value=0
def fo(s:Sy)(l:List Dc):List Cu:=mX (kZ l s.bn)
theorem om(l:List Dc)(cus:List Cu):(kZ l cus).length≤64:=acx (List.length_filterMap_le _ _) (by rw[aaW];omega)
theorem sf(h:ij d=true):dC d.value=0:=by
 simp only[ij,On,OF]at h;exact h.1.1.1.1.2
theorem WE{top:List aD}(h:top[k]?=some t):(top.take (k+1)).filterMap (jB l cus)=(top.take k).filterMap (jB l cus)++(jB l cus t).toList:=by
 rw[Gt,h,List.filterMap_append];cases hs:jB l cus t<;>simp[hs]
theorem JB{d:Nat}(o:sA s l)(hd:h[d]?=some (lA s l bw root)):
 dY p_ 57 [.op d 0] h fun v h' => v=.aF []∧h'=h.set d (lA s l (.sl 2 (az (fo s l))) root):=by
 refine dY.bd fun hb=>(V57 _).kb ?_;unfold W57;obtain⟨aq,cus⟩:=s;obtain⟨hs,ln,hz,ask,cl,cn,cz,cv,ck⟩:=o;dsimp only at cl cn cz cv ck hd ⊢;have hall:=(nq ask).1;have inj:=uT cn;have hlt:=(gE.1 hd).1;have gd:∀t:aa,(h++t)[d]?=some (lA ⟨aq,cus⟩ l bw root):=fun t=>by rw[iD hlt];exact hd
 have mb:∀{c:Nat} {es:List (Nat×AV×AV)} {l':List Dc} {cus':List Cu},Mp c es (oV l' cus')→∀e∈h++[dh.mp c es],gr (h.length+1) e:=fun m e he=>by
  rcases IN.1 he with he|he
  ·exact nQ (by omega) (hb e he)
  ·rw[Up.1 he];exact m.bd aad
 have m0:Mp 0 [] (oV [] []):=Mp.new.ext fun t=>by
  unfold oV uq;rw[if_neg (by simp)]
 refine qa (n:=h.length) (h':=h++[.mp 0 []]) rfl rfl (iT (aV rfl (aR rfl (gd _) rfl ?_)));refine dg (n:=l.length) rfl (by simp[cy]) fun _=>?_;refine aU (α:=Nat×Nat×List (Nat×AV×AV)) (fun x=>x.1≤l.length∧Mp x.2.1 x.2.2 (oV (l.take x.1) [])∧x.2.2.length≤x.1) (fun x=>[i_ x.1]) (fun x=>h++[.mp x.2.1 x.2.2]) (fun x=>l.length-x.1) (0,0,[]) ⟨acr _,m0,aS _⟩ (Wk.refl _ _ _ (by simp)) ?_;rintro⟨k,mc,me⟩ ⟨hk,m,hml⟩;dsimp only at hk m hml ⊢;refine bB rfl rfl ?_;rcases AT k l.length with q|q
 ·obtain⟨x,hx⟩:∃x,l[k]?=some x:=⟨l[k],dO q⟩;refine ao rfl (tO (by omega)) ?_;refine gF (fun s G=>s=[]∧∃c' e',Mp c' e' (oV (l.take (k+1)) [])∧e'.length≤k+1∧G=h++[.mp c' e',HT x]) ?_ fun F hF=>?_
  ·rintro _ G ⟨rfl,c',e',m',hl',rfl⟩;refine di rfl rfl (by unfold aN;omega) ?_;refine af ?_;exact⟨(k+1,c',e'),⟨q,m',hl'⟩,Wk.back (M:=h.length+1) (by simp) (by simp) DW rfl (mb m') (by simp[Bd]),by dsimp only;omega⟩
  refine dm (f:=dD) rfl rfl rfl hx ?_;refine dV rfl (by simp[dD]) ?_;refine Z9 (n:=h.length+1) (h':=h++[.mp mc me,HT x]) (by simp) (by simp) ?_;have gB:(h++[.mp mc me,HT x])[h.length+1]?=some (HT x):=by rw[iF (by omega)];simp
  refine aV rfl (aV rfl (aR rfl gB rfl ?_));refine bK rfl (by kernel_rfl) (oB x.name) ?_;cases hc:db x.name with
  | true =>
    refine ao rfl rfl (aV rfl (aV rfl (aR rfl gB rfl ?_)));obtain⟨c',e',hu,m',hl'⟩:=Mp.aa8 m x.name tt;refine uu (h':=h++[.mp c' e',HT x]) rfl KL rfl hu (by simp) ?_;refine af ?_;exact hF _ _ ⟨rfl,c',e',m'.ext fun t=>SE hx hc t,by omega,rfl⟩
  | false =>
    refine ah rfl rfl (af ?_);exact hF _ _ ⟨rfl,mc,me,m.ext fun t=>Wo hx hc t,by omega,rfl⟩
 obtain rfl:k=l.length:=by omega
 rw[GO]at m;refine ah rfl (by simp) ?_;refine iT (aV rfl (aV rfl (aV rfl (aR rfl (gd _) rfl ?_))));refine dg (n:=cus.length) rfl (by simp[az]) fun _=>?_;refine aU (α:=Nat×Nat×List (Nat×AV×AV)) (fun x=>x.1≤cus.length∧Mp x.2.1 x.2.2 (oV l (cus.take x.1))∧x.2.2.length≤l.length+x.1) (fun x=>[i_ x.1]) (fun x=>h++[.mp x.2.1 x.2.2]) (fun x=>cus.length-x.1) (0,mc,me) ⟨acr _,m,by dsimp only;omega⟩ (Wk.refl _ _ _ (by simp)) ?_;rintro⟨k,mc,me⟩ ⟨hk',m,hml⟩;dsimp only at hk' m hml ⊢;refine bB rfl rfl ?_;rcases AT k cus.length with q|q
 ·obtain⟨c,hx⟩:∃x,cus[k]?=some x:=⟨cus[k],dO q⟩;refine ao rfl (tO (by omega)) ?_;refine qk hx ?_;refine tX (n:=h.length+1) (h':=h++[.mp mc me,cB c]) (by simp) (by simp) ?_;refine aV rfl ?_;refine oz (c:=c) (by rw[iF (by omega)];simp) ?_;obtain⟨c',e',hu,m',hl'⟩:=Mp.aa8 m c.name tt;refine uu (h':=h++[.mp c' e',cB c]) rfl KL rfl hu (by simp) ?_;refine di rfl rfl (by unfold aN;omega) ?_;refine af ?_;have m2:=m'.ext fun t=>SD (l:=l) hx t;exact⟨(k+1,c',e'),⟨q,m2,by dsimp only;omega⟩,Wk.back (M:=h.length+1) (by simp) (by simp) DW rfl (mb m2) (by simp[Bd]),by dsimp only;omega⟩
 obtain rfl:k=cus.length:=by omega
 rw[GO]at m;refine ah rfl (by simp) ?_;refine su (by kernel_rfl) rfl QQ fun r G ⟨er,eG⟩ hbG=>?_;obtain rfl:r=.fn (.func 142) [] [.op (h.length+1) 0]:=by rw[er];simp
 obtain⟨rr,hr1,hr2,hsd,hnl,hmem⟩:=aa0 m (by omega);rw[Wq]at hr2 hsd hnl hmem;have gT:∀t:aa,(G++t)[d]?=some (lA ⟨aq,cus⟩ l bw root):=fun t=>by rw[eG,TO,TO];exact gd _
 have gG:G[d]?=some (lA ⟨aq,cus⟩ l bw root):=by have:=gT [];rwa [aa1]at this
 refine yb rfl (O0 (mid:=h.length) (by rw[eG];simp) (by rw[eG,TO];exact KL) hr1 hr2) ?_;obtain⟨ns,hns⟩:∃ns,vj l cus=ns:=⟨_,rfl⟩;have hraw:kZ l cus=(ns.take 64).filterMap (jB l cus):=by unfold kZ;rw[hns]
 have hown:fo ⟨aq,cus⟩ l=mX (kZ l cus):=rfl;rw[hns]at hsd hnl hmem ⊢;have hcu:∀t∈ns,db t=true:=fun t ht=>by
  rcases PU.1 ((hmem t).1 ht) with w|⟨c,hc,e⟩
  ·exact w.1
  ·rw[←e];exact xm cn hc
 refine dg (n:=ns.length) rfl (by simp[fa]) fun _=>?_;refine YN (b:=64) rfl rfl ?_;refine UJ rfl (by simp only[fa,aai];omega) ?_;have etop:(fa ns).take (min ns.length 64)=fa (ns.take 64):=by
  unfold fa;rw[←List.map_take]
  congr 1
  rcases Nat.le_total ns.length 64 with q|q
  ·rw[Nat.min_eq_left q,GO,Of q]
  ·rw[Nat.min_eq_right q]
 rw[etop];obtain⟨top,htop⟩:∃top,ns.take 64=top:=⟨_,rfl⟩;rw[htop]at hraw ⊢;have htl:top.length≤64:=by rw[←htop,aaW];omega
 have hts:∀t∈top,db t=true:=fun t ht=>hcu t (by rw[←htop]at ht;exact List.mem_of_mem_take ht);have htp:tp top:=by rw[←htop];exact hsd.sublist (List.take_sublist _ _)
 refine dg (n:=top.length) rfl (by simp[fa]) fun _=>?_;refine aU (α:=Nat) (fun k=>k≤top.length) (fun k=>[.sb G.length 2 (az ((top.take k).filterMap (jB l cus))),i_ k]) (fun k=>G++[.tok 86 2 ((top.take k).filterMap (jB l cus)).length]) (fun k=>top.length-k) 0 (acr _) ?_ ?_
 ·have a:=(Wk.nil (s:=[bw,i_ 0]) (h:=G) (n:=G.length) (aS _) 0 rfl).trans (Wk.tok (aS _) 0 86 2 rfl);have e0:(top.take 0).filterMap (jB l cus)=[]:=by simp
  rw[e0];exact a
 intro k hk2;refine bB rfl rfl ?_;have hcl:((top.take k).filterMap (jB l cus)).length≤64:=acx (List.length_filterMap_le _ _) (by rw[aaW];omega);have pr:=dp ((top.take k).filterMap (jB l cus));rcases AT k top.length with q|q
 ·obtain⟨t,hx⟩:∃x,top[k]?=some x:=⟨top[k],dO q⟩;have hct:=hts t (gO hx);have hsn:=WE (l:=l) (cus:=cus) hx;obtain⟨R,hR⟩:∃R,(top.take k).filterMap (jB l cus)=R:=⟨_,rfl⟩;rw[hR]at hsn hcl ⊢;refine ao rfl (tO (by omega)) ?_;refine gF (fun s H=>s=[.sb G.length 2 (az (R++(jB l cus t).toList))]∧H=G++[.tok 86 2 (R++(jB l cus t).toList).length]) ?_ fun F hF=>?_
  ·rintro _ H ⟨rfl,rfl⟩;refine di rfl rfl (by unfold aN;omega) ?_;refine af ?_;exact⟨k+1,q,by rw[hsn];exact Wk.refl _ _ _ (by simp),by omega⟩
  have put:∀(c:Cu) {K:AV→aa→Prop},K (.sb G.length 2 (az (R++[c]))) (G++[.tok 86 2 (R++[c]).length])→eE false 86 2 40 (.sb G.length 2 (az R)) (.sl 2 [eT c]) (G++[.tok 86 2 R.length]) K:=fun c K kk=>by
   refine kP (id:=G.length) (k:=R.length) (base:=az R) (rows:=[eT c]) (h':=G++[.tok 86 2 (R.length+1)]) rfl (by simp) (by simp[az]) fw rfl (by unfold dU maxLen;simp;omega) (by rw[Lt _ _ (aS _)];simp) ?_;rw[CC,DO]at kk;exact kk
  refine dm (f:=fun s=>[.str s]) (l:=top) (a:=t) rfl rfl rfl hx (de rfl (iT (aV rfl (aR rfl (gT _) rfl ?_))));refine bK rfl (by kernel_rfl) (wG hs (by omega) ask (s:=t) (b:=true) (by unfold lR;rw[if_pos hct])) ?_;refine bl rfl rfl (bl rfl rfl (bl rfl rfl (iy rfl rfl ?_)));rcases qY l 4 t with e|⟨j,x,e1,e2,e3,e4⟩
  ·refine ah rfl (oN (by rw[e];omega)) ?_;refine iT (aV rfl ?_);refine cY rfl (gT _) (by show 2≤6;decide) ?_;have er:jB l cus t=(match Ev cus t with|some c=>if (fm l 4 t).2=sJ then some ⟨t,c.value⟩ else none|none=>none):=by unfold jB;rewrite[if_neg (by rw[e];omega)];rfl
   have cG:=JE (ik aq) t cl inj;cases hf:Ev cus t with
   | none =>
     rw[hf]at er cG;dsimp only at er cG;refine bK rfl (by kernel_rfl) cG ?_;refine bl rfl rfl (bl rfl rfl (ay (aX rfl rfl (af (aL rfl (ah rfl rfl (af ?_)))))));refine hF _ _ ?_;rw[er];simp
   | some c =>
     rw[hf]at er cG;dsimp only at er cG;refine bK rfl (by kernel_rfl) cG ?_;refine bl rfl rfl (bl rfl rfl (ay (aM rfl rfl (fx rfl rfl (af (aO rfl ?_))))))
     by_cases hw:(fm l 4 t).2=sJ
     ·rw[if_pos hw]at er;refine ao rfl (tO hw) (AN (c:=⟨t,c.value⟩) (LR (put _ (af (hF _ _ ?_)))));rw[er];exact⟨rfl,rfl⟩
     ·rw[if_neg hw]at er;refine ah rfl (oN hw) (af (hF _ _ ?_));rw[er];simp
  ·refine ao rfl (tO (by rw[e1];omega)) ?_;have er:jB l cus t=some ⟨t,x.value⟩:=by unfold jB;rw[if_pos (by rw[e1];omega),e1,NO,e2];rfl
   refine iT (aV rfl (aR rfl (gT _) rfl ?_));refine dm (f:=dD) rfl rfl (n:=j) (by rw[e1]) e2 ?_;refine dX rfl (dX rfl (de rfl (AN (c:=⟨t,x.value⟩) (LR (put _ (af (hF _ _ ?_)))))));rw[er];exact⟨rfl,rfl⟩
 ·obtain rfl:k=top.length:=by omega
  rw[GO]at hcl pr ⊢;rw[←hraw]at hcl pr ⊢;refine ah rfl (by simp) ?_;have hrn:fY (kZ l cus)=true:=by
   rw[hraw];refine zf (fun c hc=>?_) (htp.sublist (uW top));obtain⟨t,ht,e⟩:=acE.1 hc;rw[zo e];exact hts t ht
  have hrv:∀c∈kZ l cus,aW c.value<2^23∧dC c.value=0:=fun c hc=>by
   rw[hraw]at hc;obtain⟨t,ht,e⟩:=acE.1 hc;rcases BK e with⟨x,hx,e2⟩|⟨x,hx,e2⟩
   ·rw[←e2];exact⟨by have:=hz x hx;omega,sf (hall x hx)⟩
   ·rw[←e2];exact⟨by have:=cz x hx;omega,ck x hx⟩
  refine Ii (args':=[.sl 2 (az (kZ l cus))]) (by kernel_rfl) (Ar (om l cus) hrn (fun c hc=>(hrv c hc).1) fun c hc=>(hrv c hc).2) ⟨⟨rfl,rfl⟩,trivial⟩ ?_;refine bl rfl rfl (bl rfl rfl (iT (aV rfl ?_)));refine cf (id:=d) (o:=0+3) (cs:=[.sl 2 (az (mX (kZ l cus)))]) (h':=(G++[dh.tok 86 2 (kZ l cus).length]).set d (lA ⟨aq,cus⟩ l (.sl 2 (az (mX (kZ l cus)))) root)) rfl (gT _) rfl rfl (by show 0+3+1≤6;decide) rfl rfl rfl ?_;rw[hown];have et:((G++[dh.tok 86 2 (kZ l cus).length]).set d (lA ⟨aq,cus⟩ l (.sl 2 (az (mX (kZ l cus)))) root)).take h.length=h.set d (lA ⟨aq,cus⟩ l (.sl 2 (az (mX (kZ l cus)))) root):=by
   rw[eG,TO,TO,Mk _ _ hlt,acS (by simp),Of (by simp)]
  refine⟨_,_,Wk.back (M:=h.length) (aS _) (by rw[eG];simp) et rfl (fun e he=>?_) (by simp[Bd,gU]),rfl,rfl⟩;rcases List.mem_or_eq_of_mem_set he with he|rfl
  ·exact hb e he
  ·exact iZ _ _ (by simp[bf,Aw.Pure,ik,dp,fp,lW])
theorem K9(l:List Dc)(cus:List Cu):tp (vj l cus)∧∀t∈vj l cus,uq l cus t:=by
 unfold vj xr;split
 ·rename_i h;have c:=Classical.choose_spec h;exact⟨c.1,fun t ht=>(c.2 t).1 ht⟩
 ·exact⟨by simp[tp],fun t ht=>by simp at ht⟩
theorem oo(o:sA s l):fY (kZ l s.bn)=true:=by
 obtain⟨h1,h2⟩:=K9 l s.bn;unfold kZ;refine zf (fun c hc=>?_) ((h1.sublist (List.take_sublist _ _)).sublist (uW _));obtain⟨t,ht,e⟩:=acE.1 hc;rw[zo e];rcases h2 t (List.mem_of_mem_take ht) with w|⟨x,hx,e2⟩
 ·exact w.1
 ·rw[←e2];exact xm o.cn hx
def ui(i:Nat):aD:=match jl[i]? with|some p=>Fp p.FX|none=>[]
def sk(c:dJ)(v:List Vl):Option (List Vl):=if ct v=true then (if (dM c v).2=0 then some (jf (dM c v).1) else none) else some v
def xu(i:Nat)(v:List Vl):Vv×aD:=match lJ i v with|some w=>(w,[])|none=>(v0,ui i)
def ve(i:Nat)(d:Dc)(v:List Vl):Vv×aD:=if d.whole=[] then xu i v else match uV d.whole d.name v with|.error _=>(v0,ui i)|.ok p=>xu i p
def js(c:dJ)(l:List Dc)(i:Nat)(d:Dc):Vv×aD:=
 match sk c d.value with
 | none=>(v0,ui i)
 | some v =>
   if ct d.value=true∧eO v≠[] then
    (if 0≤(kO l d (eO v)).1 then (match l[(kO l d (eO v)).1.toNat]? with|some e=>if e.origin.toNat<d.origin.toNat then js c l i e else (v0,[])|none=>(v0,[])) else (v0,(kO l d (eO v)).2))
   else ve i d v
termination_by d.origin.toNat
theorem Rh(l:List Dc):∀(b:Nat) (s:aD) (k:Nat) (d:Dc),(fm l b s).1=((k:Nat):Int)→l[k]?=some d→d.origin.toNat<b:=by
 intro b;induction b using Nat.strongRecOn with
 | _ b ih =>
   intro s k d h1 h2;rw[q9]at h1;cases h:jr l b s l.length with
   | none=>rw[h]at h1;simp only[xx]at h1;omega
   | some p =>
     obtain⟨j,e⟩:=p;obtain⟨g1,g2,g3⟩:=ku _ h;rw[h]at h1;dsimp only[xx,w5,kO]at h1;split at h1
     ·obtain rfl:j=k:=by omega
      rw[g1]at h2;cases h2;exact g3
     ·split at h1
      ·exact Nat.lt_trans (ih _ g3 _ k d h1 h2) g3
      ·split at h1<;>(dsimp only at h1;omega)
theorem PO(l:List Dc)(d:Dc)(wd:aD):(kO l d wd).1=-1∨∃k e,(kO l d wd).1=((k:Nat):Int)∧l[k]?=some e∧e.origin.toNat<d.origin.toNat:=by
 unfold kO;split
 ·rcases qY l d.origin.toNat d.name with h|⟨k,e,h1,h2,_,_⟩
  ·exact .inl h
  ·exact .inr ⟨k,e,h1,h2,Rh l _ _ k e h1 h2⟩
 ·split<;>exact .inl rfl
theorem BL{c:dJ}{v:List Vl}(h:(dM c v).2=0):∃n,eA c v=some n∧(dM c v).1=dG c v∧dC (dG c v)=0∧(ct v=true→n≤2000):=by
 unfold dM at h ⊢;cases hm:eA c v with
 | none=>rw[hm]at h;cases h
 | some n =>
   rw[hm]at h;dsimp only at h ⊢;split at h
   ·cases h
   ·rename_i hn;rw[if_neg hn];split at h
    ·rename_i hc;rw[if_pos hc];exact⟨n,rfl,rfl,hc,fun hv=>by by_cases q:2000<n;exact absurd ⟨q,hv⟩ hn;omega⟩
    ·rename_i hc;exact absurd h hc
theorem Uk{c:dJ}(ok:oX c){v w:List Vl}(hv:aW v<2^20)(h:sk c v=some w):aW w<2^20:=by
 unfold sk at h;split at h
 ·rename_i hvar;split at h
  ·rename_i h0;cases h;obtain⟨n,h1,h2,h3,h4⟩:=BL h0;have:=xN (dM c v).1;have z:=(lS ok _ v n (aS _) h1).1;rw[h2]at this ⊢;have:=h4 hvar;omega
  ·cases h
 ·cases h;exact hv
theorem SL{w n:aD}{v p:List Vl}(h:uV w n v=.ok p):(∀x∈p,x∈v)∧p.length≤v.length+1:=by
 unfold uV at h;split at h
 ·cases h
 ·split at h
  ·cases h
  ·split at h
   ·cases h
   ·rename_i hp;cases h;have e:mU w v=jW w v:=by
     unfold mU at hp ⊢;split
     ·rfl
     ·rename_i q;rw[if_neg q]at hp;exact absurd rfl hp
    rw[e];refine⟨Ey (E3 w v), ?_⟩;rw[oF];cases q:(jW w v)[(nC n (dA w) 0).toNat]? with
    | none=>simp
    | some p =>
      show p.length≤_;rcases BJ w v p (gO q) with h|h
      ·omega
      ·rw[h];omega
abbrev qD(d:Dc):dh:=.aC ⟨46,[.str d.name,.sl 6 (ar d.value),.str d.whole],true⟩
theorem aaa{n:Nat}(hn:h.length=n)(hh:h++[qD d]=h')(q:KS (.op n 0) h'):
 br 46 (.agg [(.str []),(.v (.slice none 0 0)),(.str [])]) h fun x g=>aE 3 x (.agg [.str d.name,.sl 6 (ar d.value),.str d.whole]) g fun g' => KS x g':=by
 subst hn;subst hh;refine cI (cs:=[(.str []),(.v (.slice none 0 0)),(.str [])]) (n:=h.length) (h':=h++[.aC ⟨46,[(.str []),(.v (.slice none 0 0)),(.str [])],true⟩]) rfl rfl rfl rfl ?_;refine cf (cs:=[.str d.name,.sl 6 (ar d.value),.str d.whole]) (h':=h++[qD d]) rfl (b:=⟨46,[(.str []),(.v (.slice none 0 0)),(.str [])],true⟩) (by simp) rfl rfl (by simp) (by simp) (by simp[dH]) (by rw[Lt _ _ (aS _)];simp[dw]) q
theorem RV{own:AV}{dk i:Nat}(hd:h[dk]?=some (lA s l own root))(hp:jl[i]?=some p):Ex p_ 147 [.op dk 0,i_ i] h (.str (ui i)):=by
 refine (aea _ _).ex fun hb=>?_;unfold X4;have e:ui i=Fp p.FX:=by unfold ui;rw[hp]
 rw[e];refine iT (zzA (zzU hd rfl (zzg (f:=mh) ti rfl hp (zzX (zzW ?_)))));cases hi:p.FX with
 | true =>
   refine zzL rfl ?_;exact lB (h:=h) (h':=h) (r:=.str sJ) hb (by simp[Bd]) (by simp)
 | false =>
   refine zzK rfl ?_;exact lB (h:=h) (h':=h) (r:=.str vS) hb (by simp[Bd]) (by simp)
def Hn(c:dJ)(l:List Dc):Prop:=∀d∈l,∀v,sk c d.value=some v→∀x∈v,u7 x
theorem ue(c:dJ)(l:List Dc)(i:Nat)(d:Dc):js c l i d=match sk c d.value with
 | none=>(v0,ui i)
 | some v =>
   if ct d.value=true∧eO v≠[] then
    (if 0≤(kO l d (eO v)).1 then (match l[(kO l d (eO v)).1.toNat]? with|some e=>if e.origin.toNat<d.origin.toNat then js c l i e else (v0,[])|none=>(v0,[])) else (v0,(kO l d (eO v)).2))
   else ve i d v:=by
 rewrite[js];cases sk c d.value with
 | none=>rfl
 | some v=>rfl
theorem BX{v:List Vl}(h:eO v≠[]):eO v∈mr:=by
 match v,h with
 | [],h=>exact absurd rfl h
 | _:: _:: _,h=>exact absurd rfl h
 | [x],h =>
   by_cases q:x.kind=1∧bO x.text∈mr
   ·have e:eO [x]=bO x.text:=if_pos q;rw[e];exact q.2
   ·have e:eO [x]=[]:=if_neg q;exact absurd e h
theorem VF(o:sA s l)(hcs:fO cs=0)(rk:Hn (dv cs) l):∀(n k:Nat) (d:Dc),d.origin.toNat=n→l[k]?=some d→∀(h:aa) (dk i:Nat) (p:Rw),h[dk]?=some (lA s l (.sl 2 (az cs)) root)→jl[i]?=some p →
 Ex p_ 99 [.op dk 0,i_ i,i_ k] h (.aF [.agg (bL (js (dv cs) l i d).1),.str (js (dv cs) l i d).2]):=by
 intro n;induction n using Nat.strongRecOn with
 | _ n ih =>
 intro k d hn hk h dk i p hd hp;refine (V99 _ _ _).ex fun hb=>?_;unfold W99;obtain⟨hs,ln,hz,ask,cl,cn,cz,cv,ck⟩:=o;have hall:=(nq ask).1;have hmem:=gO hk;have hlt:=(gE.1 hd).1;have gd:∀t:aa,(h++t)[dk]?=some (lA s l (.sl 2 (az cs)) root):=fun t=>by rw[iD hlt];exact hd
 have hi:i<18:=by have:=(gE.1 hp).1;rw[mE]at this;exact this
 have okc:=Ad hcs;have hzd:=hz d hmem;have hrd:=ue (dv cs) l i d;have fin:∀(w:Vv) (r:aD) (t:aa),js (dv cs) l i d=(w,r)→∃r' h'',Wk h.length [.aF [.agg (bL w),.str r]] (h++t) [r'] h''∧r'=.aF [.agg (bL (js (dv cs) l i d).1),.str (js (dv cs) l i d).2]∧h''=h:=fun w r t e=>by
  rw[e];exact lB hb (iR _ _ (by simp[Aw.Pure,bf,eI])) (by simp)
 have bad:∀(t:aa),js (dv cs) l i d=(v0,ui i)→aY NQ [] fun v33=>eJ p_ (.fn (.func 147) [] []) [.op dk 0,i_ i] (h++wB v0:: t) fun v34 g35=>aE 7 (.op h.length 0) v33 g35 fun g36=>ag true 7 (.op h.length 0) g36 fun r37=>∃r' h'',Wk h.length [.aF [r37,v34]] g36 [r'] h''∧r'=.aF [.agg (bL (js (dv cs) l i d).1),.str (js (dv cs) l i d).2]∧h''=h:=fun t e=>by
  refine bt (cs:=bL v0) rfl (yb rfl (RV (gd _) hp) ?_);refine iz (v:=v0) (h':=h++wB v0:: t) (by simp) (by simp) ?_;refine iV (v:=v0) (by simp) ?_;exact fin v0 _ _ e
 refine cI (cs:=bL v0) (n:=h.length) (h':=h++[wB v0]) rfl rfl rfl rfl (iT (aV rfl (aR rfl (gd _) rfl (dm (f:=dD) rfl rfl (n:=k) rfl hk (dX rfl ?_)))));refine qQ rfl (by show 3≤11;decide) ?_;refine aaa (d:=d) (n:=h.length+1) (h':=h++[wB v0,qD d]) (by simp) (by simp) ?_;have gL:(h++[wB v0,qD d])[h.length+1]?=some (qD d):=by rw[iF (by omega)];simp
 refine aV rfl (aR rfl gL rfl ?_);refine gF (fun s G=>∃v,s=[.sl 6 (ar v)]∧sk (dv cs) d.value=some v∧¬(ct d.value=true∧eO v≠[])∧G=h++[wB v0,qD d]) ?_ fun F hF=>?_;rotate_left
 ·refine bK rfl (by kernel_rfl) (Ej d.value (by omega)) ?_;cases hv:ct d.value with
  | false =>
    refine ah rfl rfl (af ?_);exact hF _ _ ⟨d.value,rfl,by unfold sk;rw[hv];rfl,by simp[hv],rfl⟩
  | true =>
    refine ao rfl rfl (iT (aV rfl (aR rfl (gd _) rfl ?_)));refine bK rfl (by kernel_rfl) (Ao (by omega) (sf (hall d hmem)) hcs) ?_;unfold mn;refine bl rfl rfl (bl rfl rfl ?_);refine gF (fun s G=>G=h++[wB v0,qD d]∧((∃v,sk (dv cs) d.value=some v∧s=[.sl 6 (ar v),i_ 0])∨(sk (dv cs) d.value=none∧∃a e,s=[a,i_ e]∧e≠0))) ?_ fun F2 hF2=>?_;rotate_left
    ·refine dy rfl rfl ?_
     by_cases h0:(dM (dv cs) d.value).2=0
     ·refine ao rfl (tO h0) ?_;rw[if_pos h0];obtain⟨m,h1,h2,h3,h4⟩:=BL h0;have z:=(lS okc _ d.value m (aS _) h1).1;have z4:=h4 hv;refine bK rfl (by kernel_rfl) (Q5 (by rw[h2];omega) (by rw[h2];exact h3)) ?_;refine bl rfl rfl (bl rfl rfl (af ?_));exact hF2 _ _ ⟨rfl,.inl ⟨_,by unfold sk;rw[if_pos hv,if_pos h0],rfl⟩⟩
     ·refine ah rfl (oN h0) (af ?_);exact hF2 _ _ ⟨rfl,.inr ⟨by unfold sk;rw[if_pos hv,if_neg h0],_,_,rfl,h0⟩⟩
    rintro s2 G ⟨rfl,⟨v,hs1,rfl⟩|⟨hs1,a,e,rfl,he⟩⟩
    ·refine cZ rfl rfl (ah rfl rfl ?_);refine bK rfl (by kernel_rfl) (FF v) ?_;refine rY rfl rfl ?_;rw[hs1]at hrd;dsimp only at hrd
     by_cases hw:eO v=[]
     ·refine ah rfl (by simp[hw]) ?_;refine af ?_;exact hF _ _ ⟨v,rfl,hs1,by simp[hw],rfl⟩
     ·rw[if_pos ⟨hv,hw⟩]at hrd;refine ao rfl (by simp[hw]) ?_;refine iT (aV rfl (aR rfl (gd _) rfl ?_));refine bK rfl (by kernel_rfl) (Q3 hs (by omega) ask hk (BX hw)) ?_;refine bl rfl rfl (bl rfl rfl (bl rfl rfl (iy rfl rfl ?_)));rcases PO l d (eO v) with e|⟨j,x,e1,e2,e3⟩
      ·rw[if_neg (by rw[e];omega)]at hrd;refine ah rfl (oN (by rw[e];omega)) ?_;refine bt (cs:=bL v0) rfl ?_;refine iz (v:=v0) (h':=h++[wB v0,qD d]) (by simp) (by simp) ?_;refine iV (v:=v0) (by simp) ?_;exact fin v0 _ _ hrd
      ·rw[if_pos (by rw[e1];omega),e1,NO,e2]at hrd;dsimp only at hrd;rw[if_pos e3]at hrd;refine ao rfl (tO (by rw[e1];omega)) ?_;refine yb (by rw[e1]) (ih _ (by omega) j x rfl e2 _ dk i p (gd _) hp) ?_;refine bl rfl rfl (bl rfl rfl ?_);refine iz (v:=v0) (h':=h++[wB (js (dv cs) l i x).1,qD d]) (by simp) (by simp) ?_;refine iV (v:=(js (dv cs) l i x).1) (by simp) ?_;exact fin _ _ _ hrd
    ·refine cZ rfl rfl ?_;refine ao rfl (by simp[he]) ?_;rw[hs1]at hrd;exact bad [qD d] hrd
 rintro _ G ⟨v,rfl,hs1,hnw,rfl⟩;rw[hs1]at hrd;dsimp only at hrd;rw[if_neg hnw]at hrd;have hvz:=Uk okc hzd hs1;have hvl:=fu v;have hok:=rk d hmem v hs1;refine gF (fun s G=>∃q,s=[.sl 6 (ar q)]∧ve i d v=xu i q∧(∀x∈q,u7 x)∧q.length<2^40∧G=h++[wB v0,qD d]) ?_ fun F hF=>?_;rotate_left
 ·refine aV rfl (aR rfl gL rfl (rY rfl rfl ?_))
  by_cases hwh:d.whole=[]
  ·refine ah rfl (by simp[hwh]) ?_;refine af ?_;exact hF _ _ ⟨v,rfl,by unfold ve;rw[if_pos hwh],hok,by omega,rfl⟩
  ·refine ao rfl (by simp[hwh]) ?_;refine aV rfl (aR rfl gL rfl (aV rfl (aR rfl gL rfl ?_)));have hsm:=hs d hmem;refine bK rfl (by kernel_rfl) (Q4 (by have:=hsm.2.2;omega) (by omega) (by omega) hok) ?_;have hla:ve i d v=match uV d.whole d.name v with|.error _=>(v0,ui i)|.ok p=>xu i p:=by unfold ve;rewrite[if_neg hwh];rfl
   cases hpv:uV d.whole d.name v with
   | error e =>
     have he:e≠0:=by
      unfold uV at hpv;split at hpv
      ·cases hpv;assumption
      ·split at hpv
       ·cases hpv;omega
       ·split at hpv
        ·cases hpv;omega
        ·cases hpv
     rw[hpv]at hla;refine bl rfl rfl (bl rfl rfl (cZ rfl rfl ?_));refine ao rfl (by simp[he]) ?_;exact bad [qD d] (hrd.trans hla)
   | ok q =>
     rw[hpv]at hla;obtain⟨p1,p2⟩:=SL hpv;refine bl rfl rfl (bl rfl rfl (cZ rfl rfl (ah rfl rfl (af ?_))));exact hF _ _ ⟨q,rfl,hla,fun x hx=>hok x (p1 x hx),by omega,rfl⟩
 rintro _ G ⟨q,rfl,hla,hq,hql,rfl⟩;have hr2:=hrd.trans hla;unfold xu at hr2;refine bK rfl (by kernel_rfl) (yy (prop:=i) hi hql hq) ?_;unfold rV;cases hpf:lJ i q with
 | none =>
   rw[hpf]at hr2;refine bl rfl rfl (bl rfl rfl ?_);refine cI (cs:=bL v0) (n:=h.length+2) (h':=h++[wB v0,qD d,wB v0]) rfl rfl (by simp) (by simp) ?_;refine iz (v:=v0) (h':=h++[wB v0,qD d,wB v0]) (by simp) (by simp) ?_;refine cZ rfl rfl (ao rfl rfl ?_);exact bad [qD d,wB v0] hr2
 | some w =>
   rw[hpf]at hr2;refine bl rfl rfl (bl rfl rfl ?_);refine cI (cs:=bL v0) (n:=h.length+2) (h':=h++[wB v0,qD d,wB v0]) rfl rfl (by simp) (by simp) ?_;refine iz (v:=v0) (h':=h++[wB v0,qD d,wB w]) (by simp) (by simp) ?_;refine cZ rfl rfl (ah rfl rfl ?_);refine iV (v:=w) (by simp) ?_;refine iz (v:=v0) (h':=h++[wB w,qD d,wB w]) (by simp) (by simp) ?_;refine iV (v:=w) (by simp) ?_;exact fin w _ _ hr2
def kV(c:dJ)(l:List Dc)(i:Nat)(p:Rw):Vv×aD:=if 0≤(fm l 4 p.name).1 then (match l[(fm l 4 p.name).1.toNat]? with|some d=>js c l i d|none=>(v0,[])) else (v0,(fm l 4 p.name).2)
def jY(c:dJ)(l:List Dc)(aq:List Vv)(i:Nat):Vv:=match jl[i]?,aq[i]? with
 | some p,some x=>if (kV c l i p).2=sJ then x else if (kV c l i p).2=vS then oZ p else (kV c l i p).1
 | _,_=>v0
theorem RU(o:sA ⟨aq,cus⟩ l)(hcs:fO cs=0)(rk:Hn (dv cs) l){d i:Nat}(hd:h[d]?=some (lA ⟨aq,cus⟩ l (.sl 2 (az cs)) root))(hp:jl[i]?=some p)(hx:aq[i]?=some v):
 Ex p_ 58 [.op d 0,i_ i] h (.agg (bL (jY (dv cs) l aq i))):=by
 have hsd:jY (dv cs) l aq i=if (kV (dv cs) l i p).2=sJ then v else if (kV (dv cs) l i p).2=vS then oZ p else (kV (dv cs) l i p).1:=by unfold jY;rw[hp,hx]
 have hlt:=(gE.1 hd).1;have gd:∀t:aa,(h++t)[d]?=some (lA ⟨aq,cus⟩ l (.sl 2 (az cs)) root):=fun t=>by rw[iD hlt];exact hd
 refine (V58 _ _).ex fun hb=>?_;unfold W58;refine cI (cs:=bL v0) (n:=h.length) (h':=h++[wB v0]) rfl rfl rfl rfl (iT (zzA (zzU (gd _) rfl (iT (zzA (zzU (gd _) rfl (zzg (f:=mh) ti rfl hp (zzX (zzW (zzT (by kernel_rfl) (wG o.hs (by have:=o.ln;omega) o.ask (Ph hp)) (zzB rfl (zzB rfl (zzB rfl ?_)))))))))))));refine cI (cs:=bL v0) (n:=h.length+1) (h':=h++[wB v0,wB v0]) rfl rfl (by simp) (by simp) ?_;refine gF (fun s G=>s=[.str (kV (dv cs) l i p).2]∧G=h++[wB v0,wB (kV (dv cs) l i p).1]) ?_ fun F hF=>?_;rotate_left
 ·refine zzF ?_;rcases qY l 4 p.name with e|⟨j,x,e1,e2,e3,e4⟩
  ·have hg:kV (dv cs) l i p=(v0,(fm l 4 p.name).2):=by unfold kV;rw[if_neg (by rw[e];omega)]
   refine zzK (oN (by rw[e];omega)) (af ?_);exact hF _ _ ⟨by rw[hg],by rw[hg]⟩
  ·have hg:kV (dv cs) l i p=js (dv cs) l i x:=by unfold kV;rw[if_pos (by rw[e1];omega),e1,NO,e2]
   refine zzL (tO (by rw[e1];omega)) (yb (by rw[e1]) (VF o hcs rk _ j x rfl e2 _ d i p (gd _) hp) (zzB rfl (zzB rfl ?_)));refine iz (v:=v0) (h':=h++[wB v0,wB (js (dv cs) l i x).1]) (by rw[iF (by omega)];simp) (by rw[Lt _ _ (by omega)];simp) ?_;refine af ?_;exact hF _ _ ⟨by rw[hg],by rw[hg]⟩
 rintro _ G ⟨rfl,rfl⟩;rw[hsd];refine zzI ?_
 by_cases h1:(kV (dv cs) l i p).2=sJ
 ·rw[if_pos h1];refine zzL (tO h1) (iT (zzA (zzA (zzA (zzU (gd _) rfl (zzg (f:=bL) rfl rfl hx (zzY rfl (iz (v:=v0) (h':=h++[wB v,wB (kV (dv cs) l i p).1]) (by simp) (by simp) (iV (v:=v) (by simp) ?_)))))))));exact lB hb (iR _ _ (by rw[Aw.Pure];exact eI v)) (by simp)
 rw[if_neg h1];refine zzK (oN h1) (zzI ?_)
 by_cases h2:(kV (dv cs) l i p).2=vS
 ·rw[if_pos h2];refine zzL (tO h2) (iT (zzA (zzU (gd _) rfl (zzg (f:=mh) ti rfl hp (zzX (Hr (n:=7) (ds:=bL (oZ p)) rfl (by show 7≤10;decide) rfl (iz (v:=v0) (h':=h++[wB (oZ p),wB (kV (dv cs) l i p).1]) (by simp) (by simp) (iV (v:=oZ p) (by simp) ?_))))))));exact lB hb (iR _ _ (by rw[Aw.Pure];exact eI _)) (by simp)
 rw[if_neg h2];refine zzK (oN h2) ?_;refine iV (v:=(kV (dv cs) l i p).1) (by rw[iF (by omega)];simp) ?_;refine iz (v:=v0) (h':=h++[wB (kV (dv cs) l i p).1,wB (kV (dv cs) l i p).1]) (by simp) (by simp) (iV (v:=(kV (dv cs) l i p).1) (by simp) ?_);exact lB hb (iR _ _ (by rw[Aw.Pure];exact eI _)) (by simp)
def o9(v:Vv)(em rem:Int):Vv:=if v.kind=3 then { v with kind:=2,num:=fb v.num em } else if v.kind=4 then { v with kind:=2,num:=fb v.num rem } else v
theorem Kk(hv:v.kind=3∨v.kind=4→eD v.num)(he:eD em)(hr:eD rem):aP p_ 59 [.agg (bL v),i_ em,i_ rem] (.agg (bL (o9 v em rem))):=by
 by_cases h3:v.kind=3
 rotate_left
 ·by_cases h4:v.kind=4
  rotate_left
  ·have e:o9 v em rem=v:=by unfold o9;rw[if_neg h3,if_neg h4]
   rw[e];exact Y5 h3 h4
  ·have e:o9 v em rem={ v with kind:=2,num:=fb v.num rem }:=by unfold o9;rw[if_neg h3,if_pos h4]
   rw[e];refine (XC _ _ _).gives (by simp[bf,Aw.Pure,eI]) (by rw[Aw.Pure];exact eI _) ?_;unfold TB;refine cI (n:=0) (h':=[wB v]) rfl rfl rfl rfl (cI (n:=1) (h':=[wB v,wB v0]) rfl rfl rfl rfl (ay (zzA (zzU rfl rfl (zzG (zzK (oN h3) (zzG (zzL (tO h4) (zzA (oA (i:=2) (v:=v) rfl rfl (zzS (by kernel_rfl) (Kf (hv (.inr h4)) hr) (zzB rfl (zzB rfl ?_)))))))))))));refine zzA (cf (id:=0) (o:=0+2) (b:=⟨37,bL v,true⟩) (cs:=[i_ (fb v.num rem)]) (h':=[wB { v with num:=fb v.num rem },wB v0]) rfl rfl rfl rfl (by show 0+2+1≤7;decide) rfl rfl rfl (af (zzA (cf (id:=0) (o:=0+0) (b:=⟨37,bL { v with num:=fb v.num rem },true⟩) (cs:=[u8 2]) (h':=[wB { v with kind:=2,num:=fb v.num rem },wB v0]) rfl rfl rfl rfl (by show 0+0+1≤7;decide) rfl rfl rfl (iV (v:={ v with kind:=2,num:=fb v.num rem }) rfl (iz (v:=v0) (h':=[wB { v with kind:=2,num:=fb v.num rem },wB { v with kind:=2,num:=fb v.num rem }]) rfl rfl (iV (v:={ v with kind:=2,num:=fb v.num rem }) rfl ?_)))))));exact .pure (by rw[Aw.Pure];exact eI _) rfl
 ·have e:o9 v em rem={ v with kind:=2,num:=fb v.num em }:=by unfold o9;rw[if_pos h3]
  rw[e];refine (XC _ _ _).gives (by simp[bf,Aw.Pure,eI]) (by rw[Aw.Pure];exact eI _) ?_;unfold TB;refine cI (n:=0) (h':=[wB v]) rfl rfl rfl rfl (cI (n:=1) (h':=[wB v,wB v0]) rfl rfl rfl rfl (ay (zzA (zzU rfl rfl (zzG (zzL (tO h3) (zzA (oA (i:=2) (v:=v) rfl rfl (zzS (by kernel_rfl) (Kf (hv (.inl h3)) he) (zzB rfl (zzB rfl (zzA (cf (id:=0) (o:=0+2) (b:=⟨37,bL v,true⟩) (cs:=[i_ (fb v.num em)]) (h':=[wB { v with num:=fb v.num em },wB v0]) rfl rfl rfl rfl (by show 0+2+1≤7;decide) rfl rfl rfl ?_)))))))))))));refine af (zzA (cf (id:=0) (o:=0+0) (b:=⟨37,bL { v with num:=fb v.num em },true⟩) (cs:=[u8 2]) (h':=[wB { v with kind:=2,num:=fb v.num em },wB v0]) rfl rfl rfl rfl (by show 0+0+1≤7;decide) rfl rfl rfl (iV (v:={ v with kind:=2,num:=fb v.num em }) rfl (iz (v:=v0) (h':=[wB { v with kind:=2,num:=fb v.num em },wB { v with kind:=2,num:=fb v.num em }]) rfl rfl (iV (v:={ v with kind:=2,num:=fb v.num em }) rfl ?_)))));exact .pure (by rw[Aw.Pure];exact eI _) rfl
def pV(root:Int):Int:=if root<0 then 16000 else root
def iL(c:dJ)(l:List Dc)(aq:List Vv)(root:Int):Vv:=o9 (jY c l aq 12) (aq.getD 12 v0).num (pV root)
def vV(c:dJ)(l:List Dc)(aq:List Vv)(root:Int):Int:=if root<0 then (iL c l aq root).num else pV root
def qm(c:dJ)(l:List Dc)(aq:List Vv)(root:Int)(k:Nat):Vv:=if k=12 then iL c l aq root else o9 (jY c l aq k) (iL c l aq root).num (vV c l aq root)
def ju(c:dJ)(l:List Dc)(aq:List Vv)(root:Int)(k:Nat):Vv:=
 if k=0∧(qm c l aq root k).kind=8 then aq.getD 0 v0 else if k=15 then { qm c l aq root k with num:=max 0 (min 1000 (qm c l aq root k).num) } else qm c l aq root k
def lD(f:Nat→Vv):List Vv:=(List.range 18).map f
theorem ZP(hk:k<18):bQ ((lD f).take (k+1))=bQ ((lD f).take k)++[bL (f k)]:=by
 have:(lD f)[k]?=some (f k):=by unfold lD;rw[lE,aau hk];rfl
 unfold bQ;rw[Gt,this];simp
def stG(B:aa)(f:Nat→Vv)(cu:AV):Nat→aa
 | 0=>B++[dR bw cu]
 | k+1=>B++[dR (.sb 8 7 (bQ ((lD f).take (k+1)))) cu,wB (f 0),.tok 37 7 (k+1)]
theorem Fh{B:aa}{cu:AV}:∀{k:Nat},0<k→stG B f cu k=B++[dR (.sb 8 7 (bQ ((lD f).take k))) cu,wB (f 0),.tok 37 7 k]
 | k+1,_=>rfl
structure Xw(c:dJ)(l:List Dc)(aq:List Vv)(root:Int):Prop where
 len:aq.length=18
 num:∀i,i<18→(jY c l aq i).kind=3∨(jY c l aq i).kind=4→eD (jY c l aq i).num
 fs:∀x,aq[12]?=some x→eD x.num
 rt:eD (pV root)
 sz:eD (iL c l aq root).num
theorem LV(o:sA ⟨aq,cus⟩ l){own:List Cu}(hown:fo ⟨aq,cus⟩ l=own)(hcs:fO own=0)(rk:Hn (dv own) l)(so:Xw (dv own) l aq root)(A:dh)(hA:gr 0 A):
 dY p_ 29 [.op 2 0] [A,dR bw bw,lA ⟨aq,cus⟩ l bw root] fun v h' => v=.agg [.sl 7 (bQ (lD (ju (dv own) l aq root))),.sl 2 (az own)]∧h'[1]?=some (dR bw bw):=by
 obtain⟨c,hc⟩:∃c,dv own=c:=⟨_,rfl⟩;rw[hc]at rk so ⊢;obtain⟨hvl,hv,hv12,hr0,hsz⟩:=so;have hrm:eD (vV c l aq root):=by unfold vV;split;exact hsz;exact hr0
 have fsV:∀{d:Nat} {i:Nat} {p:Rw} {v:Vv} {h:aa},h[d]?=some (lA ⟨aq,cus⟩ l (.sl 2 (az own)) root)→jl[i]?=some p→aq[i]?=some v→Ex p_ 58 [.op d 0,i_ i] h (.agg (bL (jY c l aq i))):=fun a b d=>by
  have:=RU o hcs (by rw[hc];exact rk) a b d;rw[hc]at this;exact this
 refine (V29 _).kb ?_;unfold W29;refine cI (cs:=[bw,bw]) (n:=3) (h':=[A,dR bw bw,lA ⟨aq,cus⟩ l bw root,dR bw bw]) rfl rfl rfl rfl ?_;refine su (by kernel_rfl) rfl (JB (s:=⟨aq,cus⟩) (l:=l) (d:=2) (root:=root) o rfl) fun r G ⟨er,eG⟩ _=>?_;subst er;rw[hown]at eG;obtain rfl:G=[A,dR bw bw,lA ⟨aq,cus⟩ l (.sl 2 (az own)) root,dR bw bw]:=eG;obtain⟨D,hD⟩:∃D,lA ⟨aq,cus⟩ l (.sl 2 (az own)) root=D:=⟨_,rfl⟩;have hsze:iL c l aq root=o9 (jY c l aq 12) (aq.getD 12 v0).num (pV root):=rfl;obtain⟨p12,hp12⟩:=vX (i:=12) (by omega);obtain⟨x12,hx12⟩:∃x,aq[12]?=some x:=⟨_,dO (by omega)⟩;have hg12:aq.getD 12 v0=x12:=by rw[oF,hx12];rfl
 rw[hg12]at hsze;refine iT (zzA (zzU rfl rfl ?_));refine jx [i_ (pV root)] [A,dR bw bw,lA ⟨aq,cus⟩ l (.sl 2 (az own)) root,dR bw bw] ?_ fun F hF=>?_;rotate_left
 ·refine zzC ?_;refine fQ rfl (fun hb=>?_) (fun hb=>?_)
  ·refine af ?_;unfold pV at hF;rw[if_pos (uP hb)]at hF;exact hF
  ·refine af ?_;unfold pV at hF;rw[if_neg (AS hb)]at hF;exact hF
 refine Uw rfl (fun ext=>fsV (h:=[A,dR bw bw,lA ⟨aq,cus⟩ l (.sl 2 (az own)) root,dR bw bw]++ext) (d:=2) (i:=12) rfl hp12 hx12) (iT (zzA (zzA (zzA (zzU rfl rfl (zzg (f:=bL) (n:=12) rfl rfl hx12 (zzX (zzW (Uw rfl (fun ext=>(Kk (hv 12 (by omega)) (hv12 x12 hx12) hr0).ex (by kernel_rfl) _) ?_)))))))));show aE 7 _ _ _ _;rw[←hsze];refine iz (id:=5) (v:=v0) (h':=[A,dR bw bw,lA ⟨aq,cus⟩ l (.sl 2 (az own)) root,dR bw bw,.dead,wB (iL c l aq root)]) rfl rfl ?_;refine jx [i_ (vV c l aq root)] [A,dR bw bw,lA ⟨aq,cus⟩ l (.sl 2 (az own)) root,dR bw bw,.dead,wB (iL c l aq root)] ?_ fun F hF=>?_;rotate_left
 ·refine iT (zzA (zzU rfl rfl (zzC ?_)));refine fQ rfl (fun hb=>?_) (fun hb=>?_)
  ·refine zzA (oA (id:=5) (i:=2) (v:=iL c l aq root) rfl rfl (af ?_));unfold vV at hF;rw[if_pos (uP hb)]at hF;exact hF
  ·refine af ?_;unfold vV at hF;rw[if_neg (AS hb)]at hF;exact hF
 obtain⟨rem0,hrem⟩:∃r,vV c l aq root=r:=⟨_,rfl⟩;rw[hrem]at hrm ⊢;refine iT (zzA (zzU rfl rfl (bt (cs:=[bw,.sl 2 (az own)]) rfl (cI (cs:=[bw,bw]) (n:=6) (h':=[A,dR bw bw,lA ⟨aq,cus⟩ l (.sl 2 (az own)) root,dR bw bw,.dead,wB (iL c l aq root),dR bw bw]) rfl rfl rfl rfl (cf (id:=6) (cs:=[bw,.sl 2 (az own)]) (h':=[A,dR bw bw,lA ⟨aq,cus⟩ l (.sl 2 (az own)) root,dR bw bw,.dead,wB (iL c l aq root),dR bw (.sl 2 (az own))]) rfl rfl rfl rfl (aS _) rfl rfl rfl (iT (zzA (zzU rfl rfl ?_))))))));refine zzk (n:=18) rfl fun _=>?_;obtain⟨B,hB⟩:∃B:aa,[A,dR bw bw,lA ⟨aq,cus⟩ l (.sl 2 (az own)) root,dR bw bw,.dead,wB (iL c l aq root)]=B:=⟨_,rfl⟩;have hBl:B.length=6:=by subst hB;rfl
 have hB2:B[2]?=some (lA ⟨aq,cus⟩ l (.sl 2 (az own)) root):=by subst hB;rfl
 have hB5:B[5]?=some (wB (iL c l aq root)):=by subst hB;rfl
 have hB1:B[1]?=some (dR bw bw):=by subst hB;rfl
 have hB3:B[3]?=some (dR bw bw):=by subst hB;rfl
 have hBb:∀e∈B,gr 9 e:=by
  subst hB;intro e he;simp only[IS,List.not_mem_nil,or_false]at he;rcases he with rfl|rfl|rfl|rfl|rfl|rfl
  ·exact nQ (by omega) hA
  ·exact iZ _ _ (by simp[bf,Aw.Pure])
  ·exact iZ _ _ (by simp[bf,Aw.Pure,ik,dp,fp,lW])
  ·exact iZ _ _ (by simp[bf,Aw.Pure])
  ·trivial
  ·exact iZ _ _ (eI _)
 have gB:∀(t:aa) (i:Nat),i<6→(B++t)[i]?=B[i]?:=fun t i hi=>iD (by omega);have gT:∀(t:aa) (i:Nat),(B++t)[6+i]?=t[i]?:=fun t i=>by rw[iF (by omega),hBl,Nat.add_sub_cancel_left]
 have sT:∀(t:aa) (i:Nat) (x:dh),(B++t).set (6+i) x=B++t.set i x:=fun t i x=>by rw[Lt _ _ (by omega),hBl,Nat.add_sub_cancel_left]
 have lT:∀(t:aa),(B++t).length=6+t.length:=fun t=>by rw[DO,hBl]
 show bJ [i_ 0] ([A,dR bw bw,lA ⟨aq,cus⟩ l (.sl 2 (az own)) root,dR bw bw,.dead,wB (iL c l aq root)]++[dR bw (.sl 2 (az own))]) _;rw[hB];obtain⟨f,hf⟩:∃f,ju c l aq root=f:=⟨_,rfl⟩;obtain⟨m,hm⟩:∃m,qm c l aq root=m:=⟨_,rfl⟩;rw[hf];refine aU (α:=Nat) (fun k=>k≤18) (fun k=>[i_ k]) (stG B f (.sl 2 (az own))) (fun k=>18-k) 0 (acr _) (Wk.refl _ _ _ (aS _)) ?_;intro k hk;refine zzC ?_;rcases AT k 18 with q|q
 ·obtain⟨p,hp⟩:=vX q;obtain⟨x,hx⟩:∃x,aq[k]?=some x:=⟨_,dO (by omega)⟩;have hmk:m k=if k=12 then iL c l aq root else o9 (jY c l aq k) (iL c l aq root).num rem0:=by rw[←hm,←hrem];rfl
  have hfk:f k=if k=0∧(m k).kind=8 then aq.getD 0 v0 else if k=15 then { m k with num:=max 0 (min 1000 (m k).num) } else m k:=by rw[←hf,←hm];rfl
  have pxk:aP p_ 59 [.agg (bL (jY c l aq k)),i_ (iL c l aq root).num,i_ rem0] (.agg (bL (o9 (jY c l aq k) (iL c l aq root).num rem0))):=Kk (hv k q) hsz hrm;refine zzL (tO (by omega)) ?_;rcases Nat.eq_zero_or_pos k with rfl|hpos
  ·rw[show stG B f (.sl 2 (az own)) 0=B++[dR bw (.sl 2 (az own))] from rfl];refine iV (id:=5) (v:=iL c l aq root) (by rw[gB _ _ (by omega)];exact hB5) (cI (cs:=bL v0) (n:=6+1) (h':=B++[dR bw (.sl 2 (az own)),wB v0]) rfl rfl (lT _) (by simp) (iz (v:=v0) (h':=B++[dR bw (.sl 2 (az own)),wB (iL c l aq root)]) (gT _ _) (sT _ _ _) (ay (zzH (zzL (by decide) (zC rfl (fsV (h:=B++[dR bw (.sl 2 (az own)),wB (iL c l aq root)]) (d:=2) (i:=0) (by rw[gB _ _ (by omega)];exact hB2) hp hx) (zzA (oA (id:=5) (i:=2) (v:=iL c l aq root) (by rw[gB _ _ (by omega)];exact hB5) rfl (zzT (by kernel_rfl) pxk ?_)))))))));rw[if_neg (by decide)]at hmk;rw[←hmk];refine iz (v:=iL c l aq root) (h':=B++[dR bw (.sl 2 (az own)),wB (m 0)]) (gT _ _) (sT _ _ _) (af ?_);refine jx [] (B++[dR bw (.sl 2 (az own)),wB (f 0)]) ?_ fun F hF=>?_;rotate_left
   ·refine zzG (ay (zzN rfl (zzA (oA (i:=0) (v:=m 0) (gT _ _) rfl (zzG (af (zzR ?_)))))))
    by_cases h8:(m 0).kind=8
    ·have e0:f 0=x:=by rw[hfk,if_pos ⟨rfl,h8⟩,oF,hx];rfl
     refine zzL (tO h8) (iT (zzA (zzA (zzA (zzU (by rw[gB _ _ (by omega)];exact hB2) rfl (zzg (f:=bL) (n:=0) rfl rfl hx (zzY rfl (iz (v:=m 0) (h':=B++[dR bw (.sl 2 (az own)),wB x]) (gT _ _) (sT _ _ _) (af ?_)))))))));rw[e0]at hF;exact hF
    ·have e0:f 0=m 0:=by rw[hfk,if_neg (fun w=>h8 w.2),if_neg (by decide)]
     refine zzK (oN h8) (zzG (zzK (by decide) (af ?_)));rw[e0]at hF;exact hF
   refine zzA (zzU (gT _ 0) rfl (iV (v:=f 0) (gT _ _) (sL (ze (n:=8) (k:=1) (rows:=[bL (f 0)]) (h':=B++[dR bw (.sl 2 (az own)),wB (f 0),.tok 37 7 1]) rfl fw rfl rfl (by unfold dU maxLen;omega) (by rw[lT];rfl) (by simp) (zzA (cf (id:=6+0) (cs:=[.sb 8 7 [bL (f 0)]]) (h':=B++[dR (.sb 8 7 [bL (f 0)]) (.sl 2 (az own)),wB (f 0),.tok 37 7 1]) rfl (gT _ 0) rfl rfl (by show 0+0+1≤2;omega) rfl rfl (sT _ _ _) (zzP (by unfold aN;omega) (af ?_))))))));exact⟨1,by omega,Wk.refl _ _ _ (by rw[lT,lT];show 6+1≤6+3;omega),by omega⟩
  ·rw[Fh hpos];obtain⟨R,hR⟩:∃R,bQ ((lD f).take k)=R:=⟨_,rfl⟩;have hRl:R.length=k:=by rw[←hR];unfold bQ lD;simp;omega
   have d1:=ZP (f:=f) q;rw[hR]at d1 ⊢;refine iV (id:=5) (v:=iL c l aq root) (by rw[gB _ _ (by omega)];exact hB5) (cI (cs:=bL v0) (n:=6+3) (h':=B++[dR (.sb 8 7 R) (.sl 2 (az own)),wB (f 0),.tok 37 7 k,wB v0]) rfl rfl (lT _) (by simp) (iz (v:=v0) (h':=B++[dR (.sb 8 7 R) (.sl 2 (az own)),wB (f 0),.tok 37 7 k,wB (iL c l aq root)]) (gT _ _) (sT _ _ _) ?_));obtain⟨G,hG⟩:∃G:aa,B++[dR (.sb 8 7 R) (.sl 2 (az own)),wB (f 0),.tok 37 7 k,wB (iL c l aq root)]=G:=⟨_,rfl⟩;obtain⟨G1,hG1⟩:∃G:aa,B++[dR (.sb 8 7 R) (.sl 2 (az own)),wB (f 0),.tok 37 7 k,wB (m k)]=G:=⟨_,rfl⟩;obtain⟨G2,hG2⟩:∃G:aa,B++[dR (.sb 8 7 R) (.sl 2 (az own)),wB (f 0),.tok 37 7 k,wB (f k)]=G:=⟨_,rfl⟩;have hdk:G[2]?=some (lA ⟨aq,cus⟩ l (.sl 2 (az own)) root):=by rw[←hG,gB _ _ (by omega)];exact hB2
   have h5:G[5]?=some (wB (iL c l aq root)):=by rw[←hG,gB _ _ (by omega)];exact hB5
   have hN:G[6+3]?=some (wB (iL c l aq root)):=by rw[←hG];exact gT _ _
   have hS:G.set (6+3) (wB (m k))=G1:=by rw[←hG,←hG1];exact sT _ _ _
   have hM1:G1[6+3]?=some (wB (m k)):=by rw[←hG1];exact gT _ _
   have hS2:G1.set (6+3) (wB (f k))=G2:=by rw[←hG1,←hG2];exact sT _ _ _
   have hM:G2[6+3]?=some (wB (f k)):=by rw[←hG2];exact gT _ _
   rw[hG];refine jx [] G1 ?_ fun F hF=>?_;rotate_left
   ·refine zzH ?_
    by_cases h12:k=12
    ·subst h12;refine zzK (by decide) (af ?_);rw[if_pos rfl]at hmk;rw[show G1=G from by rw[←hG,←hG1,hmk]]at hF;exact hF
    ·refine zzL (by first|(simp;done)|(simp;omega)) (zC rfl (fsV (h:=G) hdk hp hx) (zzA (oA (id:=5) (i:=2) (v:=iL c l aq root) h5 rfl (zzT (by kernel_rfl) pxk ?_))));rw[if_neg h12]at hmk;rw[←hmk];refine iz (v:=iL c l aq root) hN hS (af ?_);exact hF
   rw[if_neg (fun w=>by omega)]at hfk;refine jx [] G2 ?_ fun F hF=>?_;rotate_left
   ·refine zzG (ay (zzM (by first|(simp;done)|(simp;omega)) (af (zzQ (zzK rfl (zzG ?_))))))
    by_cases h15:k=15
    ·subst h15;rw[if_pos rfl]at hfk;refine zzL (by decide) (zzA (oA (i:=2) (v:=m 15) hM1 rfl (zzi (zzh (zzA ?_)))));refine cf (cs:=[i_ (max 0 (min 1000 (m 15).num))]) (h':=G2) rfl hM1 rfl rfl (by simp[bL]) rfl rfl (by
      have e:dw (bL (m 15)) (0+2) [i_ (max 0 (min 1000 (m 15).num))]=bL (f 15):=by rw[hfk];rfl
      show G1.set _ (dh.aC ⟨37,dw (bL (m 15)) (0+2) [i_ (max 0 (min 1000 (m 15).num))],true⟩)=G2;rw[e];exact hS2) ?_
     refine af ?_;exact hF
    ·rw[if_neg h15]at hfk;refine zzK (by first|(simp;done)|(simp;omega)) (af ?_);rw[show G2=G1 from by rw[←hG1,←hG2,hfk]]at hF;exact hF
   refine zzA (zzU (b:=⟨26,[.sb 8 7 R,.sl 2 (az own)],true⟩) (by rw[←hG2];exact gT _ 0) rfl (iV hM (sL (kP (id:=8) (k:=k) (base:=R) (rows:=[bL (f k)]) (h':=B++[dR (.sb 8 7 R) (.sl 2 (az own)),wB (f 0),.tok 37 7 (k+1),wB (f k)]) rfl (by rw[←hG2];exact gT _ 2) hRl.symm fw rfl (by unfold dU maxLen;first|(simp;done)|(simp;omega)) (by rw[←hG2];exact sT _ 2 _) (zzA (cf (id:=6+0) (cs:=[.sb 8 7 (R++[bL (f k)])]) (h':=B++[dR (.sb 8 7 (R++[bL (f k)])) (.sl 2 (az own)),wB (f 0),.tok 37 7 (k+1),wB (f k)]) rfl (gT _ 0) rfl rfl (by show 0+0+1≤2;omega) rfl rfl (sT _ _ _) (zzP (by unfold aN;omega) (af ?_))))))));refine⟨k+1,q, ?_,by omega⟩;have pr:=ik ((lD f).take (k+1));rw[Fh (by omega),d1];rw[d1]at pr;refine Wk.back (M:=9) (by rw[lT];show 6+1≤9;omega) (by rw[lT];show 9≤6+4;omega) (by rw[List.take_append,Of (by omega),hBl];rfl) rfl (fun e he=>?_) (by simp[Bd]);rcases IN.1 he with he|he
   ·exact hBb e he
   ·simp only[IS,List.not_mem_nil,or_false]at he;rcases he with rfl|rfl|rfl
    ·have hb:=iR 9 (.sl 7 (R++[bL (f k)])) (by rw[Aw.Pure];exact pr);have hc:=iR 9 (.sl 2 (az own)) (by rw[Aw.Pure];exact dp own);rw[Bd]at hb;exact⟨by rw[Bd];exact⟨by omega,hb⟩,hc,trivial⟩
    ·exact iZ _ _ (eI _)
    ·trivial
 ·obtain rfl:k=18:=by omega
  refine zzK (by decide) ?_;rw[Fh (by omega)];have ht:(lD f).take 18=lD f:=Of (by simp[lD]);rw[ht];refine zzV (b:=⟨26,[.sb 8 7 (bQ (lD f)),.sl 2 (az own)],true⟩) (gT _ 0) (aS 2) (cf (id:=3) (cs:=[.sb 8 7 (bQ (lD f)),.sl 2 (az own)]) (b:=⟨26,[bw,bw],true⟩) rfl (by rw[gB _ _ (by omega)];exact hB3) rfl rfl (aS 2) rfl rfl rfl ?_);refine zzV (b:=⟨26,[.sb 8 7 (bQ (lD f)),.sl 2 (az own)],true⟩) (iN (by rw[lT];omega)) (aS 2) ?_;refine⟨_,_,Wk.le (s':=[.agg [.sl 7 (bQ (lD f)),.sl 2 (az own)]]) ?_ ⟨⟨⟨rfl,rfl⟩,Le.refl _,trivial⟩,trivial⟩,rfl, ?_⟩
  ·rw[abe,lT];show 3≤_;omega
  ·rw[iS (by omega),gB _ _ (by omega)];exact hB1
def xi(w:aD):Prop:=w=sJ∨w=vS
theorem Af(b:Bool):xi (Fp b):=by cases b;exact .inr rfl;exact .inl rfl
theorem LN{w:aD}(h:w∈mr)(h1:w≠Ax)(h2:w≠y9):xi w:=by
 simp only[mr,IS,List.not_mem_nil,or_false]at h;rcases h with h|h|h|h
 ·exact .inr h
 ·exact .inl h
 ·exact absurd h h2
 ·exact absurd h h1
theorem El(l:List Dc):∀(b:Nat) (s:aD),(fm l b s).1=-1→xi (fm l b s).2:=by
 intro b;induction b using Nat.strongRecOn with
 | _ b ih =>
   intro s h;rw[q9]at h ⊢;cases hl:jr l b s l.length with
   | none=>exact Af _
   | some p =>
     obtain⟨k,d⟩:=p;obtain⟨g1,g2,g3⟩:=ku _ hl;rw[hl]at h;dsimp only[xx,w5,kO]at h ⊢;split at h
     ·omega
     ·rename_i hn;rw[if_neg hn];split at h
      ·rename_i hr;rw[if_pos hr];exact ih _ g3 _ h
      ·rename_i hr;rw[if_neg hr]
       by_cases hu:eO d.value=y9
       ·rw[if_pos hu];exact Af _
       ·rw[if_neg hu];exact LN (BX fun e=>hn (.inr e)) hr hu
theorem Z4(l:List Dc)(d:Dc){w:aD}(hw:w∈mr)(h:(kO l d w).1=-1):xi (kO l d w).2:=by
 unfold kO at h ⊢
 by_cases hr:w=Ax
 ·rw[if_pos hr]at h ⊢;exact El l _ _ h
 ·rw[if_neg hr]at h ⊢
  by_cases hu:w=y9
  ·rw[if_pos hu];exact Af _
  ·rw[if_neg hu];exact LN hw hr hu
theorem Fo(hi:i<18):xi (ui i):=by
 obtain⟨p,hp⟩:=vX hi;unfold ui;rw[hp];exact Af _
theorem Ll(hi:i<18)(v:List Vl):xi (xu i v).2∨hasB i (xu i v).1=true:=by
 unfold xu;cases h:lJ i v with
 | none=>exact .inl (Fo hi)
 | some w =>
   right;unfold lJ at h;split at h
   ·exact List.find?_some h
   ·cases h
theorem Wa(hi:i<18)(d:Dc)(v:List Vl):xi (ve i d v).2∨hasB i (ve i d v).1=true:=by
 unfold ve;split
 ·exact Ll hi v
 ·split
  ·exact .inl (Fo hi)
  ·exact Ll hi _
theorem SQ(c:dJ)(l:List Dc)(hi:i<18):∀(n:Nat) (d:Dc),d.origin.toNat=n→xi (js c l i d).2∨hasB i (js c l i d).1=true:=by
 intro n;induction n using Nat.strongRecOn with
 | _ n ih =>
   intro d hn;rw[ue];cases h1:sk c d.value with
   | none=>exact .inl (Fo hi)
   | some v =>
     dsimp only
     by_cases hw:ct d.value=true∧eO v≠[]
     ·rw[if_pos hw];rcases PO l d (eO v) with e|⟨j,x,e1,e2,e3⟩
      ·rw[if_neg (by rw[e];omega)];exact .inl (Z4 l d (BX hw.2) e)
      ·rw[if_pos (by rw[e1];omega),e1,NO,e2];dsimp only;rw[if_pos e3];exact ih _ (by omega) x rfl
     ·rw[if_neg hw];exact Wa hi d v
theorem ZR(c:dJ)(l:List Dc)(hi:i<18)(p:Rw):xi (kV c l i p).2∨hasB i (kV c l i p).1=true:=by
 unfold kV;rcases qY l 4 p.name with e|⟨j,x,e1,e2,e3,e4⟩
 ·rw[if_neg (by rw[e];omega)];exact .inl (El l 4 _ e)
 ·rw[if_pos (by rw[e1];omega),e1,NO,e2];exact SQ c l hi _ x rfl
def abT:Bool:=(List.range 18).all fun i=>match jl[i]? with|some p=>hasB i (oZ p)|none=>false
theorem V0:abT=true:=by decide +kernel
theorem V1(hp:jl[i]?=some p):hasB i (oZ p)=true:=by
 have hi:i<18:=by have:=(gE.1 hp).1;rw[mE]at this;exact this
 have:=By.1 V0 i (ID.2 hi);rw[hp]at this;exact this
theorem WU(c:dJ)(l:List Dc)(hv:aq.length=18)(hh:∀(i:Nat) v,aq[i]?=some v→hasB i v=true)(hi:i<18):hasB i (jY c l aq i)=true:=by
 obtain⟨p,hp⟩:=vX hi;obtain⟨x,hx⟩:∃x,aq[i]?=some x:=⟨_,dO (by omega)⟩;unfold jY;rw[hp,hx];dsimp only;split
 ·exact hh i x hx
 ·rename_i h1;split
  ·exact V1 hp
  ·rename_i h2;rcases ZR c l hi p with (h|h)|h
   ·exact absurd h h1
   ·exact absurd h h2
   ·exact h
/-! ### Lengths -/
def kOk:Bool:=(List.range 18).all fun i=>let t:=qq.getD i ([],[],false);(!(decide ((3:Int)∈t.2.1)||decide ((4:Int)∈t.2.1))||decide ((2:Int)∈t.2.1))&&!decide ((1:Int)∈t.2.1)
theorem abW:kOk=true:=by decide +kernel
def TX:Bool:=decide ((qq.getD 12 ([],[],false)).1=[])&&(qq.getD 12 ([],[],false)).2.2
theorem abU:TX=true:=by decide +kernel
def k0:Bool:=decide ((qq.getD 0 ([],[],false)).1=[])&&(qq.getD 0 ([],[],false)).2.1.all fun k=>decide (k=7)||decide (k=8)
theorem ae3:k0=true:=by decide +kernel
def TY:Bool:=decide ((qq.getD 15 ([],[],false)).1=[])&&(qq.getD 15 ([],[],false)).2.1.all fun k=>decide (k=5)
theorem abV:TY=true:=by decide +kernel
theorem tf(hi:i<18)(v:Vv):hasB i v=kX (qq.getD i ([],[],false)) v:=by
 unfold hasB;rw[if_pos ⟨by omega,by omega⟩,NO]
theorem Wt(h:okW v=true):eD v.num:=by
 unfold okW at h;unfold eD;repeat' split at h
 all_goals first|(cases h;done)|(simp only[On,OF,BW]at h;omega)
theorem K5{a b:Int}(ha:0≤a)(hb:0≤b):0≤fb a b:=by
 unfold fb;rw[if_pos (by rw[oN (by omega),oN (by omega)])];omega
theorem pxK{t:List aD×List Int×Bool}{m:Int}(hk:v.kind=3∨v.kind=4)(h2:(2:Int)∈t.2.1)(hm:eD m)(hn:0≤v.num→0≤m)(h:kX t v=true):kX t { v with kind:=2,num:=m }=true:=by
 obtain⟨k,w,n,r,g,b,a⟩:=v;dsimp only at hk hn ⊢;unfold eD at hm;unfold kX okW sX BW at h ⊢;dsimp only at h ⊢;have k1:k≠1:=by omega
 have k2:k=2∨k=3∨k=4∨k=5:=by omega
 rw[if_neg k1,if_neg k1,if_pos k2]at h;rw[if_neg (show ¬((2:Int)=1) by decide),if_neg (show ¬((2:Int)=1) by decide),if_pos (show (2:Int)=2∨(2:Int)=3∨(2:Int)=4∨(2:Int)=5 from .inl rfl)];simp only[On,acL,OF,acM]at h ⊢;obtain⟨⟨⟨h1,h3⟩,h4⟩,h5,h6⟩:=h;refine⟨⟨⟨h1,h3⟩,by omega,by omega⟩,h2, ?_⟩;rcases h6 with h6|h6
 ·exact .inl h6
 ·exact .inr (hn h6)
theorem Qa(hi:i<18)(h:hasB i v=true)(he:0≤em)(hr:0≤rem):hasB i (o9 v em rem)=true∧(o9 v em rem).kind≠3∧(o9 v em rem).kind≠4:=by
 rw[tf hi]at h ⊢;have kk:=By.1 abW i (ID.2 hi);dsimp only at kk;generalize qq.getD i ([],[],false)=t at h kk ⊢;have mem:v.kind=3∨v.kind=4→(2:Int)∈t.2.1:=fun hk=>by
  have hm:v.kind∈t.2.1:=by
   unfold kX at h;rw[if_neg (by omega)]at h;simp only[On,OF]at h;exact h.2.1
  simp only[On,acL,acM,acW,decide_eq_false_iff_not,OF]at kk;rcases kk.1 with q|q
  ·rcases hk with e|e<;>rw[e]at hm
   ·exact absurd hm q.1
   ·exact absurd hm q.2
  ·exact q
 unfold o9
 by_cases h3:v.kind=3
 ·rw[if_pos h3];exact⟨pxK (.inl h3) (mem (.inl h3)) (EY _ _) (fun q=>K5 q he) h,by show (2:Int)≠3;decide,by show (2:Int)≠4;decide⟩
 ·rw[if_neg h3]
  by_cases h4:v.kind=4
  ·rw[if_pos h4];exact⟨pxK (.inr h4) (mem (.inr h4)) (EY _ _) (fun q=>K5 q hr) h,by show (2:Int)≠3;decide,by show (2:Int)≠4;decide⟩
  ·rw[if_neg h4];exact⟨h,h3,h4⟩
theorem Ew(h:hasB (12:Nat) v=true):0≤v.num:=by
 rw[tf (by omega)]at h;have k:=abU;unfold TX at k;generalize qq.getD 12 ([],[],false)=t at h k;simp only[On,OF]at k;unfold kX at h
 by_cases h1:v.kind=1
 ·rw[if_pos h1,k.1]at h;simp at h
 ·rw[if_neg h1,k.2]at h;simp only[On,OF,Bool.not_true,Bool.false_or]at h;exact h.2.2
theorem Y2(h:hasB (0:Nat) v=true):v.kind=7∨v.kind=8:=by
 rw[tf (by omega)]at h;have k:=ae3;unfold k0 at k;generalize qq.getD 0 ([],[],false)=t at h k;simp only[On,OF]at k;unfold kX at h
 by_cases h1:v.kind=1
 ·rw[if_pos h1,k.1]at h;simp at h
 ·rw[if_neg h1]at h;simp only[On,OF]at h;have:=By.1 k.2 _ h.2.1;simpa using this
theorem P0(h:hasB (15:Nat) v=true):hasB (15:Nat) { v with num:=max 0 (min 1000 v.num) }=true∧v.kind=5:=by
 rw[tf (by omega)]at h ⊢;have k:=abV;unfold TY at k;generalize qq.getD 15 ([],[],false)=t at h k ⊢;simp only[On,OF]at k;obtain⟨kd,w,n,r,g,b,a⟩:=v;unfold kX okW sX BW at h ⊢;dsimp only at h ⊢
 by_cases h1:kd=1
 ·rw[if_pos h1,if_pos h1,k.1]at h;simp at h
 ·rw[if_neg h1,if_neg h1]at h;rw[if_neg h1,if_neg h1];have h5:kd=5:=by
   simp only[On,OF]at h;have:=By.1 k.2 _ h.2.1;simpa using this
  rw[if_pos (.inr (.inr (.inr h5)))]at h ⊢;simp only[On,acL,OF,acM]at h ⊢;refine⟨⟨⟨h.1.1,by omega,by omega⟩,h.2.1,.inr (by omega)⟩,h5⟩
structure QI(aq:List Vv):Prop where
 len:aq.length=18
 has:∀(i:Nat) v,aq[i]?=some v→hasB i v=true∧v.kind≠3∧v.kind≠4
 HJ:∀v,aq[0]?=some v→v.kind=7
 opa:∀v,aq[15]?=some v→0≤v.num∧v.num≤1000
theorem qw(hs:iw s=true):QI s.aq:=by
 unfold iw za at hs;simp only[On,OF]at hs;obtain⟨⟨⟨h1,_⟩,h3⟩,⟨h4,h5⟩,h6⟩:=hs;refine⟨h1,fun i v hi=>?_,fun v hv=>?_,fun v hv=>?_⟩
 ·have hlt:=(gE.1 hi).1;have:=By.1 h3 i (ID.2 (by omega));unfold wg at this;rw[oF,hi]at this;simp only[On,acM,decide_eq_false_iff_not,Option.getD_some]at this;exact⟨this.1.1,this.1.2,this.2⟩
 ·rw[oF,hv]at h4;exact h4
 ·rw[oF,hv]at h5 h6;exact⟨h5,h6⟩
section
variable {aq:List Vv} (sv:QI aq) {root:Int} (r1:-1≤root) (r2:root≤1000000000000) (c:dJ) (l:List Dc)
include sv r1 r2
theorem Fb{i:Nat}(hi:i<18):hasB i (jY c l aq i)=true:=WU c l sv.len (fun j v h=>(sv.has j v h).1) hi
theorem nT{i:Nat}{v:Vv}(hi:i<18)(h:hasB i v=true):eD v.num:=by
 rw[tf hi]at h;unfold kX at h;rw[On]at h;exact Wt h.1
theorem Hf:0≤pV root∧eD (pV root):=by
 unfold pV eD;split<;>omega
theorem Ab:hasB (12:Nat) (iL c l aq root)=true∧(iL c l aq root).kind≠3∧(iL c l aq root).kind≠4:=by
 obtain⟨x,hx⟩:∃x,aq[12]?=some x:=⟨_,dO (by rw[sv.len];omega)⟩;unfold iL;refine Qa (by omega) (Fb sv r1 r2 c l (by omega)) ?_ (Hf sv r1 r2).1;rw[oF,hx];exact Ew (sv.has 12 x hx).1
theorem ab4:0≤vV c l aq root:=by
 unfold vV;split
 ·exact Ew (Ab sv r1 r2 c l).1
 ·exact (Hf sv r1 r2).1
theorem aff:Xw c l aq root:=⟨sv.len,fun i hi _=>nT sv r1 r2 hi (Fb sv r1 r2 c l hi),fun x hx=>nT sv r1 r2 (by omega) (sv.has 12 x hx).1,(Hf sv r1 r2).2,nT sv r1 r2 (by omega) (Ab sv r1 r2 c l).1⟩
theorem Pt{i:Nat}(hi:i<18):hasB i (qm c l aq root i)=true∧(qm c l aq root i).kind≠3∧(qm c l aq root i).kind≠4:=by
 unfold qm;split
 ·rename_i h;subst h;exact Ab sv r1 r2 c l
 ·exact Qa hi (Fb sv r1 r2 c l hi) (Ew (Ab sv r1 r2 c l).1) (ab4 sv r1 r2 c l)
theorem ZM{i:Nat}(hi:i<18):hasB i (ju c l aq root i)=true∧(ju c l aq root i).kind≠3∧(ju c l aq root i).kind≠4:=by
 have m:=Pt sv r1 r2 c l hi;unfold ju;split
 ·rename_i h;obtain⟨rfl,_⟩:=h;obtain⟨x,hx⟩:∃x,aq[0]?=some x:=⟨_,dO (by rw[sv.len];omega)⟩;rw[oF,hx];exact sv.has 0 x hx
 ·split
  ·rename_i h;subst h;obtain⟨h1,h2⟩:=P0 m.1;exact⟨h1,m.2⟩
  ·exact m
theorem ZN:(ju c l aq root 0).kind=7:=by
 have m:=Pt sv r1 r2 c l (i:=0) (by omega);unfold ju
 by_cases h:(qm c l aq root 0).kind=8
 ·rw[if_pos ⟨rfl,h⟩];obtain⟨x,hx⟩:∃x,aq[0]?=some x:=⟨_,dO (by rw[sv.len];omega)⟩;rw[oF,hx];exact sv.HJ x hx
 ·rw[if_neg fun w=>h w.2,if_neg (by decide)];exact (Y2 m.1).elim id fun q=>absurd q h
theorem ZO:0≤(ju c l aq root 15).num∧(ju c l aq root 15).num≤1000:=by
 unfold ju;rw[if_neg (fun w=>by cases w.1),if_pos rfl];dsimp only;omega
theorem Ic{own:List Cu}(ho:fO own=0):iw ⟨lD (ju c l aq root),own⟩=true:=by
 have hg:∀i,i<18→(lD (ju c l aq root)).getD i v0=ju c l aq root i:=fun i hi=>by
  unfold lD;rw[oF,lE,aau hi];rfl
 unfold iw za;dsimp only;rw[hg 0 (by omega),hg 15 (by omega)];obtain⟨o1,o2⟩:=ZO sv r1 r2 c l;have oc:=ZN sv r1 r2 c l;simp only[On,OF];refine⟨⟨⟨by simp[lD],ho⟩,By.2 fun i hi=>?_⟩,⟨oc,o1⟩,o2⟩;have hi:=ID.1 hi;rw[hg i hi];obtain⟨a1,a2,a3⟩:=ZM sv r1 r2 c l hi;unfold wg;rw[a1,oN a2,oN a3];rfl
end
theorem wI(ok:u6 s)(hs:iw s=true)(o:sA s l)(rk:Hn (dv (fo s l)) l)(h1:-1≤root)(h2:root≤1000000000000):
 aP p_ 7 [.sl 11 (cy l),.agg (eH s),i_ root] (.aF [.agg [.sl 7 (bQ (lD (ju (dv (fo s l)) l s.aq root))),.sl 2 (az (fo s l))],i_ 0]):=by
 refine (V7 _ _ _).gives (by simp[bf,Aw.Pure,kn,fp]) (by simp[bf,Aw.Pure,ik,dp]) ?_;unfold W7;have hC:=Aq s ok;have hcs:fO (fo s l)=0:=by
  have hrn:fY (kZ l s.bn)=true:=oo o;exact rG (om l s.bn) hrn
 have so:=aff (qw hs) h1 h2 (dv (fo s l)) l;rw[show lV s=0 by unfold lV;rw[if_pos hs]]at hC;obtain⟨aq,cus⟩:=s;dsimp only at hC so ⊢;refine cI (cs:=[.sl 7 (bQ aq),.sl 2 (az cus)]) (n:=0) (h':=[dR (.sl 7 (bQ aq)) (.sl 2 (az cus))]) rfl rfl rfl rfl (cI (cs:=[bw,bw]) (n:=1) (h':=[dR (.sl 7 (bQ aq)) (.sl 2 (az cus)),dR bw bw]) rfl rfl rfl rfl (zzS (by kernel_rfl) (Mc o.hs (by have:=o.ln;omega) o.ask) (zzB rfl (zzB rfl (zzH (zzK rfl (zzV (id:=0) rfl (aS 2) (zzS (by kernel_rfl) hC (zzH (zzK rfl (zzC (ay (zzN (oN (by omega)) ?_)))))))))))));refine zzE (af (zzQ (zzK (oN (by omega)) (zzV (id:=0) rfl (aS 2) (bt (cs:=[.sl 7 (bQ aq),.sl 2 (az cus)]) rfl (zzT (by kernel_rfl) lz (bt (cs:=[.sl 7 (bQ aq),.sl 2 (az cus),.sl 11 (cy l),bw,.sl 12 lW,i_ root]) rfl (cI (cs:=[.sl 7 (bQ aq),.sl 2 (az cus),.sl 11 (cy l),bw,.sl 12 lW,i_ root]) (n:=2) (h':=[dR (.sl 7 (bQ aq)) (.sl 2 (az cus)),dR bw bw,lA ⟨aq,cus⟩ l bw root]) rfl rfl rfl rfl ?_))))))));refine su (by kernel_rfl) rfl (LV (root:=root) o rfl hcs rk so (dR (.sl 7 (bQ aq)) (.sl 2 (az cus))) (iZ _ _ (by simp[bf,Aw.Pure,ik,dp]))) fun r G ⟨er,eG⟩ _=>?_;subst er;have hlt:=(gE.1 eG).1;refine cf (id:=1) (cs:=[.sl 7 (bQ (lD (ju (dv (fo ⟨aq,cus⟩ l)) l aq root))),.sl 2 (az (fo ⟨aq,cus⟩ l))]) (b:=⟨26,[bw,bw],true⟩) rfl eG rfl rfl (aS 2) rfl rfl rfl ?_;refine cY (id:=1) (b:=⟨26,[.sl 7 (bQ (lD (ju (dv (fo ⟨aq,cus⟩ l)) l aq root))),.sl 2 (az (fo ⟨aq,cus⟩ l))],true⟩) rfl (iN hlt) (aS 2) ?_;exact .pure (by simp[bf,Aw.Pure,ik,dp]) rfl
theorem tK{α β:Type}{f g:α→Option β}:∀{l:List α},(∀a∈l,f a=g a)→l.filterMap f=l.filterMap g
 | [],_=>rfl
 | a:: l,h=>by
   rw[acv,acv,h a (by simp),tK fun x hx=>h x (by simp[hx])]
section
variable {N:aD→Bool} {l:List Dc}
end
/-! ### A declaration that counts -/
theorem P9(h3:v.kind≠3)(h4:v.kind≠4):o9 v em rem=v:=by unfold o9;rw[if_neg h3,if_neg h4]
def ae2:Bool:=(List.range 18).all fun i=>match jl[i]? with|some p=>!decide (p.k=3)&&!decide (p.k=4)&&(!decide (i=0)||decide (p.k=7))&&(!decide (i=15)||(decide (0≤p.n)&&decide (p.n≤1000)))|none=>false
theorem ZX:ae2=true:=by decide +kernel
theorem KI{c:dJ}(h:jY c l aq i=v)(h3:v.kind≠3)(h4:v.kind≠4)(h0:i=0→v.kind≠8)(h15:i=15→0≤v.num∧v.num≤1000):ju c l aq root i=v:=by
 have hm:qm c l aq root i=v:=by
  unfold qm;split
  ·rename_i e;subst e;unfold iL;rw[h];exact P9 h3 h4
  ·rw[h];exact P9 h3 h4
 unfold ju;rw[hm]
 by_cases e0:i=0
 ·rw[if_neg fun w=>h0 e0 w.2,if_neg (by omega)]
 ·rw[if_neg fun w=>e0 w.1]
  by_cases e15:i=15
  ·rw[if_pos e15];obtain⟨a,b⟩:=h15 e15;have:max 0 (min 1000 v.num)=v.num:=by omega
   rw[this]
  ·rw[if_neg e15]
theorem Qo{c:dJ}(sv:QI aq){x:Vv}(hp:jl[i]?=some p)(hx:aq[i]?=some x)(hat:(fm l 4 p.name).1=-1):
 ((fm l 4 p.name).2=vS∧ju c l aq root i=oZ p)∨((fm l 4 p.name).2=sJ∧ju c l aq root i=x):=by
 have hi:i<18:=by have:=(gE.1 hp).1;rw[mE]at this;exact this
 have hg:kV c l i p=(v0,(fm l 4 p.name).2):=by unfold kV;rw[if_neg (by rw[hat];omega)]
 have hs:jY c l aq i=if (fm l 4 p.name).2=sJ then x else if (fm l 4 p.name).2=vS then oZ p else v0:=by
  unfold jY;rw[hp,hx];dsimp only;rw[hg]
 rcases El l 4 p.name hat with h|h
 ·right;rw[if_pos h]at hs;obtain⟨a1,a2,a3⟩:=sv.has i x hx;exact⟨h,KI hs a2 a3 (fun e=>by subst e;rw[sv.HJ x hx];decide) fun e=>by subst e;exact sv.opa x hx⟩
 ·left;rw[if_neg (by rw[h];decide),if_pos h]at hs;have k:=By.1 ZX i (ID.2 hi);rw[hp]at k;simp only[On,acL,acM,OF,decide_eq_false_iff_not]at k;obtain⟨⟨⟨k3,k4⟩,k0⟩,TY⟩:=k;refine⟨h,KI hs k3 k4 (fun e=>?_) fun e=>?_⟩
  ·rcases k0 with q|q
   ·exact absurd e q
   ·show p.k≠8;rw[q];decide
  ·rcases TY with q|q
   ·exact absurd e q
   ·exact q
theorem uc(c:dJ):∀(N:Nat) (l:List Vl),aW l≤N→ct l=false→dG c l=l∧eA c l=some (aW l)
 | N,[],_,_=>by rw[nZ,mS];exact⟨rfl,by rw[aW]⟩
 | 0,v:: l,hz,_=>by have:=mF v;rw[aW]at hz;omega
 | N+1,v:: l,hz,hv=>by
   rw[aW]at hz;have hp:=mF v;have hin:=qB v;rw[ct,acW]at hv;obtain⟨h1,h2⟩:=hv;obtain⟨i1,i2⟩:=uc c N l (by omega) h2;have h1':=h1;rw[Fu,acW]at h1';have hb:gJ v=false:=yZ h1;obtain⟨j1,j2⟩:=uc c N v.list (by omega) h1'.2;rw[mW,kA,i1,i2];have o1:ky c v=[v]:=by
    unfold ky;rw[hb,if_neg (by decide),j1];cases v;rfl
   have o2:nD c v=some (zV v):=by
    unfold nD;rw[hb,if_neg (by decide),j2,u5];rfl
   rw[o1,o2];exact⟨rfl,by rw[aW];rfl⟩
theorem zZ(c:dJ){l:List Vl}(hv:ct l=false)(hc:dC l=0):dM c l=(l,0):=by
 obtain⟨h1,h2⟩:=uc c _ l (aS _) hv;unfold dM;rw[h2];dsimp only;rw[if_neg (by rw[hv];simp),h1,if_pos hc]
def afu:Bool:=(List.range 18).all fun i=>mr.all fun w=>!hasB i ⟨1,w,0,0,0,0,0⟩
theorem abc:afu=true:=by decide +kernel
theorem Ww(hi:i<18){r:List Vl}{w:Vv}(h:lJ i r=some w):jf r=r∧eO r=[]:=by
 unfold lJ at h;split at h;rotate_left
 ·cases h
 rename_i y;constructor
 ·have hk:y.kind≠13:=fun hk=>by
   have:px y=[]:=by
    unfold px gV;rw[hk];rfl
   rw[this]at h;cases h
  have e:∀z:List Vl,z=[y]→dT z=[y]:=fun z hz=>by
   subst hz;rw[dT,if_neg hk]
  unfold jf;rw[e _ rfl,e _ (by simp)];rfl
 ·by_cases hq:y.kind=1∧bO y.text∈mr
  ·exfalso;have hm:=hq.2;have no:∀s∈mr,vh s=none∧s≠MA:=by decide
   obtain⟨n1,n2⟩:=no _ hm;have:px y=[⟨1,bO y.text,0,0,0,0,0⟩]:=by
    unfold px gV;rw[if_pos hq.1,if_pos hq.1,n1,if_neg n2];rfl
   rw[this]at h;have k:=By.1 (By.1 abc i (ID.2 hi)) _ hm;rw[List.find?_cons]at h;simp only[acM]at k;rw[k]at h;simp at h
  ·exact if_neg hq
theorem Qn{c:dJ}{x:Vv}(hp:jl[i]?=some p)(hx:aq[i]?=some x)(hat:(fm l 4 p.name).1=((k:Nat):Int))(hk:l[k]?=some d)(hw:d.whole=[])(hck:dC d.value=0)(hr:(dM c d.value).2=0){w:Vv}(hpar:lJ i (dM c d.value).1=some w):
 jY c l aq i=w:=by
 have hi:i<18:=by have:=(gE.1 hp).1;rw[mE]at this;exact this
 obtain⟨t1,t2⟩:=Ww hi hpar;have hs1:sk c d.value=some (dM c d.value).1:=by
  unfold sk;cases hv:ct d.value with
  | false=>rw[if_neg (by decide),zZ c hv hck]
  | true=>rw[if_pos rfl,if_pos hr,t1]
 have hrd:js c l i d=(w,[]):=by
  rw[ue,hs1];dsimp only;rw[if_neg (fun q=>q.2 t2)];unfold ve xu;rw[if_pos hw,hpar]
 have hg:kV c l i p=(w,[]):=by
  unfold kV;rw[if_pos (by rw[hat];omega),hat,NO,hk];exact hrd
 unfold jY;rw[hp,hx];dsimp only;rw[hg,if_neg (show ¬([]:aD)=sJ by decide),if_neg (show ¬([]:aD)=vS by decide)]
mutual
def nV:Vl→Prop
 | .mk _ _ n _ _ l=>aN n∧gK l
def gK:List Vl→Prop
 | []=>True
 | v:: l=>nV v∧gK l
end
theorem mC:∀{l:List Vl},gK l↔∀v∈l,nV v
 | []=>by simp[gK]
 | v:: l=>by rw[gK,mC (l:=l)];simp
theorem Dz(v:Vl):nV v↔aN v.num∧gK v.list:=by cases v;rw[nV];rfl
theorem K6{a b:List Vl}(h:∀x∈a,x∈b)(hb:gK b):gK a:=mC.2 fun v hv=>mC.1 hb v (h v hv)
theorem Wm{a b:List Vl}(ha:gK a)(hb:gK b):gK (a++b):=mC.2 fun v hv=>(IN.1 hv).elim (mC.1 ha v) (mC.1 hb v)
theorem r7:∀{l:List Vl} {x:Vl},x∈dT l→x∈l
 | [],x,h=>by simp[dT]at h
 | v:: l,x,h=>by
   rw[dT]at h;split at h
   ·exact MK _ (r7 h)
   ·exact h
theorem Gw{l:List Vl}{x:Vl}(h:x∈jf l):x∈l:=by
 unfold jf at h;exact r7 (List.mem_reverse.1 (r7 (List.mem_reverse.1 h)))
theorem ZH{v x:Vl}(h:x∈pQ v):x∈v.list:=by
 unfold pQ eB at h;split at h
 ·simp at h
 ·rename_i t r hd;have sub:∀y∈r,y∈v.list:=fun y hy=>r7 (by rw[hd];exact MK _ hy);split at h
  ·split at h
   ·simp at h
   ·rename_i u s he;split at h
    ·exact sub x (r7 (by rw[he];exact MK _ (Gw h)))
    ·simp at h
  ·simp at h
abbrev CN(c:dJ):Prop:=∀s x,c s=some x→gK x
theorem Hd{c:dJ}(hc:CN c):∀(N:Nat) (l:List Vl),aW l≤N→gK l→gK (dG c l)
 | N,[],_,_=>by rw[nZ,gK];trivial
 | 0,v:: l,hz,_=>by have:=mF v;rw[aW]at hz;omega
 | N+1,v:: l,hz,h=>by
   rw[aW]at hz;have hp:=mF v;have hin:=qB v;have hfb:=um v;rw[gK]at h;rw[mW];refine Wm ?_ (Hd hc N l (by omega) h.2);have hv:=(Dz v).1 h.1;unfold ky;cases hb:gJ v with
   | true =>
     rw[if_pos rfl];cases hcn:c (eB v).1 with
     | some w=>exact hc _ _ hcn
     | none=>exact Hd hc N (pQ v) (by omega) (K6 (fun x hx=>ZH hx) hv.2)
   | false =>
     rw[if_neg (by decide)];rw[gK,gK,nV];exact⟨⟨hv.1,Hd hc N v.list (by omega) hv.2⟩,trivial⟩
theorem E8{c:dJ}(hc:CN c){l:List Vl}(h:gK l):gK (dM c l).1:=by
 unfold dM;split
 ·rw[gK];trivial
 ·split
  ·rw[gK];trivial
  ·split
   ·exact Hd hc _ l (aS _) h
   ·rw[gK];trivial
theorem Uu{l:List Cu}(hl:∀c∈l,gK c.value)(i:Nat):gK (pX l i):=by
 unfold pX;rw[oF,lE];cases h:l[i]? with
 | none=>show gK [];rw[gK];trivial
 | some x=>exact hl x (gO h)
theorem aan{sv:dJ}(hc:CN sv){l:List Cu}(hl:∀i,gK (pX l i))(i:Nat):CN (nY sv l i):=by
 unfold nY;split
 ·intro s x h;dsimp only at h;split at h
  ·cases h;exact E8 hc (hl i)
  ·exact hc s x h
 ·exact hc
theorem Qd{l:List Cu}(hl:∀i,gK (pX l i)):∀(N:Nat) (op:Nat→Bool) (sv:dJ),CN sv→CN (pI l N op sv)
 | 0,_,sv,h=>h
 | N+1,op,sv,h=>by
   rw[pI];cases qh l op with
   | none=>exact h
   | some i=>exact Qd hl N _ _ (aan h hl i)
theorem Qr{l:List Cu}(hl:∀c∈l,gK c.value):∀c∈mX l,gK c.value:=by
 intro c hc;have hv:∀i,gK (pX l i):=fun i=>by
  exact Uu hl i
 unfold mX kR at hc;obtain⟨x,hx,e⟩:=acE.1 hc;obtain⟨v,hv2,rfl⟩:=aar.1 e;exact Qd hv _ _ _ (fun _ _ h=>by cases h) _ _ hv2
theorem Qx{cs:List Cu}(h:∀c∈cs,gK c.value):CN (dv cs):=by
 intro s x e;unfold dv at e;obtain⟨i,_,rfl⟩:=aar.1 e;exact Uu h i
theorem E6{s:Sy}{l:List Dc}(o:sA s l)(hd:∀d∈l,gK d.value)(hcu:∀c∈s.bn,gK c.value):Hn (dv (fo s l)) l:=by
 have hcs:fO (fo s l)=0:=rG (om l s.bn) (oo o);have hraw:∀c∈kZ l s.bn,gK c.value:=fun c hc=>by
  unfold kZ at hc;obtain⟨t,_,e⟩:=acE.1 hc;rcases BK e with⟨x,hx,e2⟩|⟨x,hx,e2⟩
  ·rw[←e2];exact hd x hx
  ·rw[←e2];exact hcu x hx
 have hcn:CN (dv (fo s l)):=Qx (Qr hraw);intro d hdl v hv x hx;have hz:=Uk (Ad hcs) (o.hz d hdl) hv;have hn:gK v:=by
  unfold sk at hv;split at hv
  ·split at hv
   ·cases hv;exact K6 (fun y hy=>Gw hy) (E8 hcn (hd d hdl))
   ·cases hv
  ·cases hv;exact hd d hdl
 have hxn:=(Dz x).1 (mC.1 hn x hx);have hxz:=gX hx;have e:=u5 x;have hl:=fu x.list;exact⟨by omega,by omega,fun w hw=>((Dz w).1 (mC.1 hxn.2 w hw)).1,hxn.1⟩
def jy(l:List Dc)(s:Sy)(root:Int):Bool:=!ng l&&!Ie s&&decide (mN l=0)&&iw s&&decide (-1≤root)&&decide (root≤1000000000000)
theorem FE{s:Sy}{l:List Dc}{root:Int}(ok:u6 s)(hl:s.aq.length<2^40)(hd:∀d∈l,kS d)(hdl:l.length<2^40):aP p_ 6 [.sl 11 (cy l),.agg (eH s),i_ root] (b_ (jy l s root)):=by
 refine (V6 _ _ _).gives (by simp[bf,Aw.Pure,kn,fp]) (by simp) ?_;unfold W6;have hG:=Ms s hl ok;have hC:=tA s ok;have e:jy l s root=(!ng l&&!Ie s&&decide (mN l=0)&&iw s&&decide (-1≤root)&&decide (root≤1000000000000)):=rfl;rw[e];clear e;refine cI (cs:=eH s) (n:=0) (h':=[.aC ⟨26,eH s,true⟩]) rfl rfl rfl rfl (zzS (by kernel_rfl) (Mb l hd hdl) (zzO (ay ?_)));cases hgl:ng l with
 | true =>
   refine zzM rfl (af (zzQ (ay (zzM rfl (af (zzQ (ay (zzM rfl (af (zzQ (ay (zzM rfl (af ?_)))))))))))));refine zzQ (ay (zzM rfl (zzQ ?_)));exact .pure (by simp) rfl
 | false =>
 refine zzN rfl (zzV (id:=0) rfl (aS 2) (zzS (by kernel_rfl) hG (zzO (af (zzR (ay ?_))))));cases hg:Ie s with
 | true =>
   refine zzM rfl (af (zzQ (ay (zzM rfl (af (zzQ (ay (zzM rfl (af (zzQ (ay (zzM rfl (zzQ ?_)))))))))))));exact .pure (by simp) rfl
 | false =>
   refine zzN rfl (zzS (by kernel_rfl) (Mm l hd hdl) (zzG (af (zzR (ay ?_)))));cases hak:decide (mN l=0) with
   | false =>
     refine zzM rfl (af (zzQ (ay (zzM rfl (af (zzQ (ay (zzM rfl (zzQ ?_)))))))));exact .pure (by simp) rfl
   | true =>
   refine zzN rfl (zzV (id:=0) rfl (aS 2) (zzS (by kernel_rfl) hC (zzG (af (zzR (ay ?_))))));cases hs:iw s with
   | false =>
     have e8:lV s=8:=by unfold lV;rw[hs];rfl
     refine zzM (by rw[e8];rfl) (af (zzQ (ay (zzM rfl (zzQ ?_)))));exact .pure (by simp) rfl
   | true =>
     have e0:lV s=0:=by unfold lV;rw[if_pos hs]
     refine zzN (by rw[e0];rfl) (zzF (af (zzR (ay ?_))));cases h1:decide (-1≤root) with
     | false =>
       refine zzM rfl (zzQ ?_);exact .pure (by simp) rfl
     | true =>
       refine zzN rfl (zzD (zzR ?_));exact .pure (by simp) rfl
theorem jz{l:List Dc}{s:Sy}{root:Int}(h:jy l s root=true):ng l=false∧mN l=0∧iw s=true∧-1≤root∧root≤1000000000000:=by
 unfold jy at h;simp only[On,OF,acM]at h;obtain⟨⟨⟨⟨⟨h1,_⟩,h3⟩,h4⟩,h5⟩,h6⟩:=h;exact⟨h1,h3,h4,h5,h6⟩
end
section
open Go Go.Aw Go.dz Go.jC
theorem R5{d:Dc}(h:gD d=false):aW d.value≤300:=by
 unfold gD vK at h;simp only[acW,decide_eq_false_iff_not]at h;have e:=(nw 300 0 d.value).2.2 (by omega);omega
theorem uJ{l:List Dc}(h:ng l=false):l.length≤40∧∀d∈l,gD d=false:=by
 unfold ng at h;simp only[acW,decide_eq_false_iff_not]at h;have hl:l.length≤40:=by omega
 refine⟨hl,fun d hd=>?_⟩;have ht:l.take 41=l:=Of (by omega);rw[ht]at h;cases q:gD d with
 | false=>rfl
 | true=>have:=List.any_eq_false.1 h.1 d hd;exact absurd q this
structure wm(s:Sy)(l:List Dc):Prop where
 sy:u6 s
 vl:s.aq.length<2^40
 sm:∀d∈l,kS d
 ll:l.length<2^38
 nd:∀d∈l,gK d.value
 nc:∀c∈s.bn,gK c.value
theorem oD{s:Sy}{l:List Dc}{root:Int}(i:wm s l)(h:jy l s root=true):sA s l:=by
 obtain⟨h1,h2,h3,_,_⟩:=jz h;obtain⟨g1,g2⟩:=uJ h1;obtain⟨c1,c2,c3,c4,c5⟩:=wc h3;exact⟨i.sm,g1,fun d hd=>by have:=R5 (g2 d hd);omega,h2,c1,c2,c3,c4,c5⟩
def je(l:List Dc)(s:Sy)(root:Int):Sy:=⟨lD (ju (dv (fo s l)) l s.aq root),fo s l⟩
section
variable {s:Sy} {l:List Dc} {root:Int} (i:wm s l) (h:jy l s root=true)
include i h
theorem wH:aP p_ 7 [.sl 11 (cy l),.agg (eH s),i_ root] (.aF [.agg (eH (je l s root)),i_ 0]):=by
 obtain⟨h1,h2,h3,h4,h5⟩:=jz h;exact wI i.sy h3 (oD i h) (E6 (oD i h) i.nd i.nc) h4 h5
theorem uh:iw (je l s root)=true:=by
 obtain⟨h1,h2,h3,h4,h5⟩:=jz h;exact Ic (qw h3) h4 h5 _ l (rG (om l s.bn) (oo (oD i h)))
end
theorem Ac{l:List Dc}{s:Sy}{root:Int}{k:Nat}(hk:k<18):(je l s root).aq[k]?=some (ju (dv (fo s l)) l s.aq root k):=by
 unfold je lD;dsimp only;rw[lE,aau hk];rfl
theorem Wz(a b:Nat):(if 0<a/1000∧1000000000000/(a/1000)<b then 1000000000000 else min (a/1000*b+a%1000*b/1000) 1000000000000)=min (a*b/1000) 1000000000000:=by
 have e:a*b/1000=a/1000*b+a%1000*b/1000:=by
  have h:=Nat.div_add_mod a 1000;generalize a/1000=x at h;generalize a%1000=y at h;rw[←h,acT,Nat.mul_assoc,Nat.mul_add_div (by omega)]
 rw[e];split
 ·rename_i h;have h1:=Nat.lt_mul_of_div_lt h.2 h.1;rw[Nat.mul_comm]at h1;omega
 ·rfl
theorem SA{a b:Int}(ha:0≤a)(hb:0≤b):fb a b=((min (a.toNat*b.toNat/1000) 1000000000000:Nat):Int):=by
 unfold fb;rw[if_pos (by rw[oN (by omega),oN (by omega)])];rw[show a.natAbs=a.toNat by omega,show b.natAbs=b.toNat by omega]
theorem PT{a b:Int}(ha:0≤a)(hb:b<0):fb a b=-((min (a.toNat*(-b).toNat/1000) 1000000000000:Nat):Int):=by
 unfold fb;rw[if_neg (by rw[oN (by omega),tO (by omega)];decide)];rw[show a.natAbs=a.toNat by omega,show b.natAbs=(-b).toNat by omega]
theorem PS{a b:Int}(ha:a<0):fb a b=- fb (-a) b:=by
 unfold fb;rw[Int.natAbs_neg]
 by_cases hb:b<0
 ·rw[if_pos (by rw[tO ha,tO hb]),if_neg (by rw[oN (by omega:¬-a<0),tO hb];decide)];omega
 ·rw[if_neg (by rw[tO ha,oN hb];decide),if_pos (by rw[oN (by omega:¬-a<0),oN hb])]
def rX(w:Vv)(i:Nat)(em rem:Int):Vv:=
 if w.kind=3 then ⟨2,[],fb w.num em,0,0,0,0⟩ else if w.kind=4 then ⟨2,[],fb w.num rem,0,0,0,0⟩ else if i=15 then { w with num:=max 0 (min 1000 w.num) } else w
theorem Lg{w:Vv}(h:okW w=true)(hk:w.kind=3∨w.kind=4):w.word=[]∧w.cr=0∧w.cg=0∧w.cb=0∧w.ca=0:=by
 unfold okW sX at h;rw[if_neg (by omega),if_pos (by omega)]at h;simp only[On,OF]at h;exact⟨h.1.1,h.1.2.1.1.1,h.1.2.1.1.2,h.1.2.1.2,h.1.2.2⟩
theorem WC{w:Vv}{em rem:Int}(h:okW w=true):o9 w em rem=if w.kind=3 then ⟨2,[],fb w.num em,0,0,0,0⟩ else if w.kind=4 then ⟨2,[],fb w.num rem,0,0,0,0⟩ else w:=by
 unfold o9
 by_cases h3:w.kind=3
 ·rw[if_pos h3,if_pos h3];obtain⟨a,b,c,d,e⟩:=Lg h (.inl h3);rw[a,b,c,d,e]
 ·rw[if_neg h3,if_neg h3]
  by_cases h4:w.kind=4
  ·rw[if_pos h4,if_pos h4];obtain⟨a,b,c,d,e⟩:=Lg h (.inr h4);rw[a,b,c,d,e]
  ·rw[if_neg h4,if_neg h4]
theorem WW{c:dJ}{l:List Dc}{aq:List Vv}{root:Int}{i:Nat}(hi:i<18){w:Vv}(hs:jY c l aq i=w)(hw:hasB i w=true)(h8:¬(w.kind=8∧i=0)):
 ju c l aq root i=rX w i (if i=12 then (aq.getD 12 v0).num else (ju c l aq root 12).num) (if i=12 then pV root else if root<0 then (ju c l aq root 12).num else root):=by
 have h12:ju c l aq root 12=iL c l aq root:=by
  unfold ju;rw[if_neg (fun q=>by cases q.1),if_neg (by decide)];unfold qm;rw[if_pos rfl]
 rw[h12];have ok:okW w=true:=by
  rw[tf hi]at hw;unfold kX at hw;rw[On]at hw;exact hw.1
 have hm:qm c l aq root i=o9 w (if i=12 then (aq.getD 12 v0).num else (iL c l aq root).num) (if i=12 then pV root else if root<0 then (iL c l aq root).num else root):=by
  unfold qm
  by_cases e:i=12
  ·subst e;rw[if_pos rfl,if_pos rfl,if_pos rfl];unfold iL;rw[hs]
  ·rw[if_neg e,if_neg e,if_neg e,hs]
   congr 1
   unfold vV pV
   by_cases hr:root<0
   ·rw[if_pos hr,if_pos hr]
   ·rw[if_neg hr,if_neg hr,if_neg hr]
 generalize (if i=12 then (aq.getD 12 v0).num else (iL c l aq root).num)=em at hm ⊢;generalize (if i=12 then pV root else if root<0 then (iL c l aq root).num else root)=rem at hm ⊢;rw[WC ok]at hm;have n8:¬(i=0∧(qm c l aq root i).kind=8):=fun q=>by
  rw[hm]at q;have q2:=q.2;split at q2
  ·cases q2
  ·split at q2
   ·cases q2
   ·exact h8 ⟨q2,q.1⟩
 unfold ju;rw[if_neg n8];unfold rX
 by_cases e:i=15
 ·have k5:w.kind=5:=by subst e;exact (P0 hw).2
  rw[if_neg (by omega),if_neg (by omega)]at hm;rw[if_pos e,if_neg (by omega),if_neg (by omega),if_pos e,hm]
 ·rw[if_neg e,if_neg e,hm]
end
section
open Go Go.Aw Go.dz Go.ChangeShapes Go.WideShapes Go.ChangeAt Go.RowKit
variable{ps:List MemPlace}{W:World}{v:Value}
theorem ma.map{F:Nat}{P:Program}{t:TypeId}{X Y:Type}{ea:X→List AV}{sz:X→Nat}{ea':Y→List AV}{sz':Y→Nat}{g:X→Y}(h:ma F P t ea sz)(e1:∀x,ea' (g x)=ea x)(e2:∀x,sz' (g x)=sz x):ma F P t ea' sz':=fun H enc W fuel cs d ps hF q=>by
 obtain⟨x,a,b,c⟩:=h H enc W fuel cs d ps hF q;exact⟨g x,by rw[e1];exact a,b,by rw[e2];exact c⟩
abbrev NU:={v:Vl // nV v}
abbrev TA:={l:List Vl // gK l}
abbrev Tu:={d:Dc // gK d.value}
abbrev CuN:={c:Cu // gK c.value}
theorem Nu(F:Nat):ma F p_ 98 (fun x:{x:Tkn // aN x.2.2.1} => TS x.1) (fun x=>1+x.1.2.1.length+x.1.2.2.2.1.length):=by
 intro H enc W fuel cs d ps hF h;obtain⟨xs,n,rfl,e1,hl,hn,hf⟩:=DataW.trod_struct Tryz.underlying98 h
 match xs,hn with
 | [y0,y1,y2,y3,y4],_ =>
   have h0:=hf 0 _ rfl;have h1:=hf 1 _ rfl;have h2:=hf 2 _ rfl;have h3:=hf 3 _ rfl;have h4:=hf 4 _ rfl;rw[show p_.cellsOf 98=5 by kernel_rfl]at hl
   match cs,hl with
   | [c0,c1,c2,c3,c4],_ =>
     obtain⟨k,r0,_,_⟩:=lk (F:=n) Tryz.underlying5 (by kernel_rfl) H enc W n _ y0.1 y0.2 (aS _) h0;obtain⟨t,r1,_,z1⟩:=oK (F:=n) Tryz.underlying9 (by kernel_rfl) H enc W n _ y1.1 y1.2 (aS _) h1;obtain⟨⟨m,hm⟩,r2,_,_⟩:=Li (F:=n) Tryz.underlying2 (by kernel_rfl) H enc W n _ y2.1 y2.2 (aS _) h2;obtain⟨u,r3,_,z3⟩:=oK (F:=n) Tryz.underlying9 (by kernel_rfl) H enc W n _ y3.1 y3.2 (aS _) h3;obtain⟨f,r4,_,_⟩:=BI (F:=n) Tryz.underlying4 (by kernel_rfl) H enc W n _ y4.1 y4.2 (aS _) h4;simp only[aaZ]at e1;obtain⟨rfl,_⟩:=e1;have r0:aI [] (old W) W [.v (.int .u8 k)] [c0]:=r0;have r1:aI [] (old W) W [.str t] [c1]:=r1;have r2:aI [] (old W) W [i_ m] [c2]:=r2;have r3:aI [] (old W) W [.str u] [c3]:=r3;have r4:aI [] (old W) W [b_ f] [c4]:=r4;refine⟨⟨(k,t,m,u,f),hm⟩,(((r0.append r1).append r2).append r3).append r4,by rw[show p_.cellsOf 98=5 by kernel_rfl];rfl, ?_⟩;simp only at z1 z3;rw[Rows.uptoBulk];simp only[IF,List.map_nil,Rows.uptoBulkAll];omega
theorem Nv{F:Nat}(hL:ma F p_ 44 (fun l:TA=>[.sl 6 (ar l.1)]) (fun l=>aW l.1+1)):ma (F+1) p_ 100 (fun v:NU=>cQ v.1) (fun v=>zV v.1):=by
 intro H enc W fuel cs d ps hF h;obtain⟨xs,n,rfl,e1,hl,hn,hf⟩:=DataW.trod_struct Tryz.underlying100 h
 match xs,hn with
 | [y0,y1],_ =>
   have h0:=hf 0 _ rfl;have h1:=hf 1 _ rfl;rw[show p_.cellsOf 100=6 by kernel_rfl]at hl
   match cs,hl with
   | [c0,c1,c2,c3,c4,c5],_ =>
     obtain⟨⟨⟨k,t,m,u,f⟩,hm⟩,r0,_,z0⟩:=Nu n H enc W n _ y0.1 y0.2 (aS _) h0;obtain⟨⟨l,hln⟩,r1,_,z1⟩:=hL H enc W n _ y1.1 y1.2 (by omega) h1;simp only[aaZ]at e1;obtain⟨rfl,_⟩:=e1;have r0:aI [] (old W) W (TS (k,t,m,u,f)) [c0,c1,c2,c3,c4]:=r0;have r1:aI [] (old W) W [.sl 6 (ar l)] [c5]:=r1;refine⟨⟨.mk k t m u f l,by rw[nV];exact⟨hm,hln⟩⟩, ?_,by rw[show p_.cellsOf 100=6 by kernel_rfl];rfl, ?_⟩
     ·show aI [] (old W) W (cQ (.mk k t m u f l)) _;rw[cQ];exact r0.append r1
     ·simp only at z0 z1;show zV (.mk k t m u f l)≤_;rw[zV,Rows.uptoBulk];simp only[IF,List.map_nil,Rows.uptoBulkAll];omega
def toVs(l:List NU):TA:=⟨l.map (·.1),mC.2 fun v hv=>by obtain⟨x,_,rfl⟩:=aas.1 hv;exact x.2⟩
theorem toVs_e(l:List NU):ar (toVs l).1=l.map fun v=>cQ v.1:=by unfold toVs;rw[aJ,List.map_map];rfl
theorem toVs_z(l:List NU):aW (toVs l).1=(l.map fun v=>zV v.1).sum:=by unfold toVs;rw[←LH,List.map_map];rfl
theorem Gj:∀F,ma F p_ 100 (fun v:NU=>cQ v.1) (fun v=>zV v.1)
 | 0=>fun H enc W fuel cs d ps hF h=>by
   obtain rfl:fuel=0:=by omega
   simp[DataW.trod]at h
 | F+1=>by
   have a:=si Tryz.underlying44 (by kernel_rfl) (nO (by kernel_rfl)) (Gj F);rw[show p_.cellsOf 100=6 by kernel_rfl]at a;exact Nv (ma.map (g:=toVs) a (fun l=>by rw[toVs_e]) (fun l=>by rw[toVs_z]))
theorem Gi(F:Nat):ma F p_ 44 (fun l:TA=>[.sl 6 (ar l.1)]) (fun l=>aW l.1+1):=by
 have a:=si Tryz.underlying44 (by kernel_rfl) (nO (by kernel_rfl)) (Gj F);rw[show p_.cellsOf 100=6 by kernel_rfl]at a;exact ma.map (g:=toVs) a (fun l=>by rw[toVs_e]) (fun l=>by rw[toVs_z])
theorem P3(F:Nat):ma F p_ 46 (fun x:aD×TA×aD=>[.str x.1,.sl 6 (ar x.2.1.1),.str x.2.2]) (fun x=>x.1.length+aW x.2.1.1+x.2.2.length):=by
 intro H enc W fuel cs d ps hF h;obtain⟨xs,n,rfl,e1,hl,hn,hf⟩:=DataW.trod_struct Tryz.underlying46 h
 match xs,hn with
 | [y0,y1,y2],_ =>
   have h0:=hf 0 _ rfl;have h1:=hf 1 _ rfl;have h2:=hf 2 _ rfl;rw[show p_.cellsOf 46=3 by kernel_rfl]at hl
   match cs,hl with
   | [c0,c1,c2],_ =>
     obtain⟨a,r0,_,z0⟩:=oK (F:=n) Tryz.underlying9 (by kernel_rfl) H enc W n _ y0.1 y0.2 (aS _) h0;obtain⟨⟨l,hln⟩,r1,_,z1⟩:=Gi n H enc W n _ y1.1 y1.2 (aS _) h1;obtain⟨b,r2,_,z2⟩:=oK (F:=n) Tryz.underlying9 (by kernel_rfl) H enc W n _ y2.1 y2.2 (aS _) h2;simp only[aaZ]at e1;obtain⟨rfl,_⟩:=e1;have r0:aI [] (old W) W [.str a] [c0]:=r0;have r1:aI [] (old W) W [.sl 6 (ar l)] [c1]:=r1;have r2:aI [] (old W) W [.str b] [c2]:=r2;refine⟨(a,⟨l,hln⟩,b),(r0.append r1).append r2,by rw[show p_.cellsOf 46=3 by kernel_rfl];rfl, ?_⟩;simp only at z0 z1 z2;rw[Rows.uptoBulk];simp only[IF,List.map_nil,Rows.uptoBulkAll];omega
theorem GC(F:Nat):ma F p_ 50 (fun x:Tu=>dD x.1) (fun x=>Jr x.1+1):=by
 intro H enc W fuel cs d ps hF h;obtain⟨xs,n,rfl,e1,hl,hn,hf⟩:=DataW.trod_struct Tryz.underlying50 h
 match xs,hn with
 | [y0,y1,y2,y3,y4,y5,y6],_ =>
   have h0:=hf 0 _ rfl;have h1:=hf 1 _ rfl;have h2:=hf 2 _ rfl;have h3:=hf 3 _ rfl;have h4:=hf 4 _ rfl;have h5:=hf 5 _ rfl;have h6:=hf 6 _ rfl;rw[show p_.cellsOf 50=11 by kernel_rfl]at hl
   match cs,hl with
   | [c0,c1,c2,c3,c4,c5,c6,c7,c8,c9,c10],_ =>
     obtain⟨⟨na,⟨va,hva⟩,wh⟩,r0,_,z0⟩:=P3 n H enc W n _ y0.1 y0.2 (aS _) h0;obtain⟨im,r1,_,_⟩:=BI (F:=n) Tryz.underlying4 (by kernel_rfl) H enc W n _ y1.1 y1.2 (aS _) h1;obtain⟨og,r2,_,_⟩:=lk (F:=n) Tryz.underlying5 (by kernel_rfl) H enc W n _ y2.1 y2.2 (aS _) h2;obtain⟨at',r3,_,_⟩:=BI (F:=n) Tryz.underlying4 (by kernel_rfl) H enc W n _ y3.1 y3.2 (aS _) h3;obtain⟨la,r4,_,_⟩:=lk (F:=n) Tryz.underlying3 (by kernel_rfl) H enc W n _ y4.1 y4.2 (aS _) h4;obtain⟨⟨w0,w1,w2⟩,r5,_,_⟩:=Nr n H enc W n _ y5.1 y5.2 (aS _) h5;obtain⟨od,r6,_,_⟩:=lk (F:=n) Tryz.underlying3 (by kernel_rfl) H enc W n _ y6.1 y6.2 (aS _) h6;simp only[aaZ]at e1;obtain⟨rfl,_⟩:=e1;have r0:aI [] (old W) W [.str na,.sl 6 (ar va),.str wh] [c0,c1,c2]:=r0;have r1:aI [] (old W) W [b_ im] [c3]:=r1;have r2:aI [] (old W) W [.v (.int .u8 og)] [c4]:=r2;have r3:aI [] (old W) W [b_ at'] [c5]:=r3;have r4:aI [] (old W) W [i_ la] [c6]:=r4;have r5:aI [] (old W) W [i_ w0,i_ w1,i_ w2] [c7,c8,c9]:=r5;have r6:aI [] (old W) W [i_ od] [c10]:=r6;refine⟨⟨⟨na,va,wh,im,og,at',la,w0,w1,w2,od⟩,hva⟩,(((((r0.append r1).append r2).append r3).append r4).append r5).append r6,by rw[show p_.cellsOf 50=11 by kernel_rfl];rfl, ?_⟩;simp only at z0;show Jr _+1≤_;unfold Jr;rw[Rows.uptoBulk];simp only[IF,List.map_nil,Rows.uptoBulkAll];omega
theorem Ns(F:Nat):ma F p_ 22 (fun l:List Tu=>[.sl 11 (cy (l.map (·.1)))]) (fun l=>(l.map fun x=>Jr x.1+1).sum+1):=by
 have a:=si Tryz.underlying22 (by kernel_rfl) (nO (by kernel_rfl)) (GC F);rw[show p_.cellsOf 50=11 by kernel_rfl]at a;refine ma.map (g:=fun l=>l) a (fun l=>?_) fun _=>rfl;unfold cy;rw[List.map_map];rfl
theorem FJ{H:Type}{enc:TypeId×Value→H}{d:DataW H}(hna:∀cs,v≠.agg cs)(hnt:∀cs,v≠.tuple cs)(h:DataW.Trod enc p_ W 0 (fun _=>true) true 22 v d ps)(hb:Rows.uptoBulk d≤1048576):
 ∃l:List Dc,ax [] (old W) W (.sl 11 (cy l)) v∧l.length<2^38∧(∀x∈l,kS x)∧∀x∈l,gK x.value:=by
 obtain⟨fuel,h⟩:=h;obtain⟨l,h2,_,h4⟩:=Ns fuel H enc W fuel _ d ps (aS _) h;have e:v.cells.toList=[v]:=by
  cases v<;>first|rfl|(exact absurd rfl (hna _))|(exact absurd rfl (hnt _))
 rw[e]at h2;have h5:=Jo (f:=fun x:Tu=>Jr x.1+1) (fun _=>by omega) l;simp only at h4;refine⟨l.map (·.1),by simpa using h2,by rw[aai];omega,fun x hx=>?_,fun x hx=>by obtain⟨y,_,rfl⟩:=aas.1 hx;exact y.2⟩;obtain⟨x,hx2,rfl⟩:=aas.1 hx;have h6:=Jp (f:=fun x:Tu=>Jr x.1+1) hx2;simp only[Jr]at h6 h4;exact⟨by omega,by omega,by omega⟩
theorem JQ(F:Nat):ma F p_ 86 (fun x:CuN=>eT x.1) (fun x=>aW x.1.value+1):=by
 intro H enc W fuel cs d ps hF h;obtain⟨xs,n,rfl,e1,hl,hn,hf⟩:=DataW.trod_struct Tryz.underlying86 h
 match xs,hn with
 | [y0,y1],_ =>
   have h0:=hf 0 _ rfl;have h1:=hf 1 _ rfl;rw[show p_.cellsOf 86=2 by kernel_rfl]at hl
   match cs,hl with
   | [c0,c1],_ =>
     obtain⟨nm,r0,_,z0⟩:=oK (F:=n) Tryz.underlying9 (by kernel_rfl) H enc W n _ y0.1 y0.2 (aS _) h0;obtain⟨⟨vs,hvs⟩,r1,_,z1⟩:=Gi n H enc W n _ y1.1 y1.2 (aS _) h1;simp only[aaZ]at e1;obtain⟨rfl,_⟩:=e1;have r0:aI [] (old W) W [.str nm] [c0]:=r0;have r1:aI [] (old W) W [.sl 6 (ar vs)] [c1]:=r1;refine⟨⟨⟨nm,vs⟩,hvs⟩,r0.append r1,by rw[show p_.cellsOf 86=2 by kernel_rfl];rfl, ?_⟩;simp only at z0 z1;show aW vs+1≤_;rw[Rows.uptoBulk];simp only[IF,List.map_nil,Rows.uptoBulkAll];omega
theorem I2(F:Nat):ma F p_ 24 (fun l:{l:List Cu // ∀c∈l,gK c.value} => [.sl 2 (az l.1)]) (fun l=>(l.1.map fun x=>aW x.value+1).sum+1):=by
 have a:=si Tryz.underlying24 (by kernel_rfl) (nO (by kernel_rfl)) (JQ F);rw[show p_.cellsOf 86=2 by kernel_rfl]at a;refine ma.map (g:=fun l=>⟨l.map (·.1),fun c hc=>by obtain⟨x,_,rfl⟩:=aas.1 hc;exact x.2⟩) a (fun l=>?_) fun l=>?_
 ·dsimp only;unfold az;rw[List.map_map];rfl
 ·dsimp only;rw[List.map_map];rfl
theorem Nt(F:Nat):ma F p_ 26 (fun x:{x:Sy // (∀v∈x.aq,aN v.num)∧∀c∈x.bn,gK c.value} => eH x.1) (fun x=>x.1.aq.length+(x.1.bn.map fun x=>aW x.value+1).sum):=by
 intro H enc W fuel cs d ps hF h;obtain⟨xs,n,rfl,e1,hl,hn,hf⟩:=DataW.trod_struct Tryz.underlying26 h
 match xs,hn with
 | [y0,y1],_ =>
   have h0:=hf 0 _ rfl;have h1:=hf 1 _ rfl;rw[show p_.cellsOf 26=2 by kernel_rfl]at hl
   match cs,hl with
   | [c0,c1],_ =>
     obtain⟨l,r0,_,z0⟩:=P2 n H enc W n _ y0.1 y0.2 (aS _) h0;obtain⟨⟨m,hmn⟩,r1,_,z1⟩:=I2 n H enc W n _ y1.1 y1.2 (aS _) h1;simp only[aaZ]at e1;obtain⟨rfl,_⟩:=e1;have r0:aI [] (old W) W [.sl 7 (bQ (l.map (·.1)))] [c0]:=r0;have r1:aI [] (old W) W [.sl 2 (az m)] [c1]:=r1;refine⟨⟨⟨l.map (fun v:{v:Vv // aN v.num} => v.1),m⟩,⟨fun v hv=>by obtain⟨x,_,rfl⟩:=aas.1 hv;exact x.2,hmn⟩⟩,(show aI [] (old W) W ([.sl 7 (bQ (l.map (·.1)))]++[.sl 2 (az m)]) ([c0]++[c1]) from r0.append r1),by rw[show p_.cellsOf 26=2 by kernel_rfl];rfl, ?_⟩;simp only at z0 z1;show (l.map (·.1)).length+(m.map fun x=>aW x.value+1).sum≤_;rw[aai];rw[Rows.uptoBulk];simp only[IF,List.map_nil,Rows.uptoBulkAll];omega
theorem Gq{H:Type}{enc:TypeId×Value→H}{d:DataW H}(hv:∃cs,v=.agg cs)(h:DataW.Trod enc p_ W 0 (fun _=>true) true 26 v d ps)(hb:Rows.uptoBulk d≤1048576):
 ∃x:Sy,ax [] (old W) W (.agg (eH x)) v∧u6 x∧x.aq.length<2^40∧∀c∈x.bn,gK c.value:=by
 obtain⟨cs,rfl⟩:=hv;obtain⟨fuel,h⟩:=h;obtain⟨⟨x,hx⟩,h2,_,h4⟩:=Nt fuel H enc W fuel _ d ps (aS _) h;simp only at h2 h4;have h5:=LF (f:=fun x:Cu=>aW x.value+1) (fun _=>by omega) x.bn;refine⟨x, ?_,⟨hx.1,by omega,fun c hc=>?_⟩,by omega,hx.2⟩
 ·rw[ax];exact⟨cs.toList,by simp,h2⟩
 ·have:=LG (f:=fun x:Cu=>aW x.value+1) hc;omega
end
section
open Go Go.Aw Go.dz Go.jC
theorem WG{s:Sy}{l:List Dc}(o:sA s l)(hd:∀d∈l,gK d.value)(hcu:∀c∈s.bn,gK c.value){d:Dc}(hdl:d∈l)(h0:(dM (dv (fo s l)) d.value).2=0):
 (∀x∈(dM (dv (fo s l)) d.value).1,u7 x)∧(dM (dv (fo s l)) d.value).1.length<2^40:=by
 have hcs:fO (fo s l)=0:=rG (om l s.bn) (oo o);have hraw:∀c∈kZ l s.bn,gK c.value:=fun c hc=>by
  unfold kZ at hc;obtain⟨t,_,e⟩:=acE.1 hc;rcases BK e with⟨x,hx,e2⟩|⟨x,hx,e2⟩
  ·rw[←e2];exact hd x hx
  ·rw[←e2];exact hcu x hx
 have hcn:CN (dv (fo s l)):=Qx (Qr hraw);have hn:=E8 hcn (hd d hdl);have hz:aW (dM (dv (fo s l)) d.value).1<2^20:=by
  have hz0:=o.hz d hdl;cases hv:ct d.value with
  | false=>rw[zZ _ hv (sf ((nq o.ask).1 d hdl))];exact hz0
  | true =>
    obtain⟨n,h1,h2,h3,h4⟩:=BL h0;have z:=(lS (Ad hcs) _ d.value n (aS _) h1).1;have:=h4 hv;rw[h2,z];omega
 refine⟨fun x hx=>?_,by have:=fu (dM (dv (fo s l)) d.value).1;omega⟩;have hxn:=(Dz x).1 (mC.1 hn x hx);have hxz:=gX hx;have e:=u5 x;have hl:=fu x.list;exact⟨by omega,by omega,fun w hw=>((Dz w).1 (mC.1 hxn.2 w hw)).1,hxn.1⟩
theorem WV{s:Sy}{l:List Dc}{root:Int}(i:wm s l)(h:jy l s root=true){j:Nat}{p:Rw}(hp:jl[j]?=some p){k:Nat}{d:Dc}(hat:(fm l 4 p.name).1=((k:Nat):Int))(hk:l[k]?=some d)(hw:d.whole=[])(hr:(dM (dv (fo s l)) d.value).2=0){w:Vv}(hpar:lJ j (dM (dv (fo s l)) d.value).1=some w)(h8:¬(w.kind=8∧j=0)):
 (je l s root).aq[j]?=some (rX w j (if j=12 then (s.aq.getD 12 v0).num else (ju (dv (fo s l)) l s.aq root 12).num) (if j=12 then pV root else if root<0 then (ju (dv (fo s l)) l s.aq root 12).num else root)):=by
 have hj:j<18:=by have:=(gE.1 hp).1;rw[mE]at this;exact this
 obtain⟨h1,h2,h3,h4,h5⟩:=jz h;have sv:=qw h3;obtain⟨x,hx⟩:∃x,s.aq[j]?=some x:=⟨_,dO (by rw[sv.len];exact hj)⟩;have hck:=sf ((nq h2).1 d (gO hk));have hs:=Qn hp hx hat hk hw hck hr hpar;have hb:hasB j w=true:=by
  unfold lJ at hpar;split at hpar
  ·exact List.find?_some hpar
  ·cases hpar
 rw[Ac hj,WW hj hs hb h8]
theorem WX{s:Sy}{l:List Dc}{root:Int}(h:jy l s root=true){j:Nat}{p:Rw}{x:Vv}(hp:jl[j]?=some p)(hx:s.aq[j]?=some x)(hat:(fm l 4 p.name).1=-1):
 ((fm l 4 p.name).2=vS∧(je l s root).aq[j]?=some (oZ p))∨((fm l 4 p.name).2=sJ∧(je l s root).aq[j]?=some x):=by
 have hj:j<18:=by have:=(gE.1 hp).1;rw[mE]at this;exact this
 obtain⟨h1,h2,h3,h4,h5⟩:=jz h;rw[Ac hj];rcases Qo (c:=dv (fo s l)) (l:=l) (qw h3) (root:=root) hp hx hat with⟨a,b⟩|⟨a,b⟩
 ·exact .inl ⟨a,by rw[b]⟩
 ·exact .inr ⟨a,by rw[b]⟩
end
end Go.Proofs.YtldpambpnajgiaaGreatDoor
end
