/-
 Colours read: eight hexadecimal digits.
 No conditions.
-/
import Derived.Test.YtldpambpnajgiaaGreatDoorZh
import Derived.Test.YtldpambpnajgiaaGreatDoorZf
set_option linter.unusedVariables false
set_option linter.unusedSimpArgs false
set_option maxRecDepth 1000000
set_option maxHeartbeats 16000000
open Go.Proofs.Tryz renaming prog→p_
noncomputable section
namespace Go.Proofs.YtldpambpnajgiaaGreatDoor
section
open Go Go.Aw Go.dz
variable{b:UInt8}{ws:List Vv}{s:aD}{k:Nat}{v:Vl}{x:AV}{H:aa}
section
variable {k:IntKind} {x y:AV} {a b c:Int} {K:AV→Prop}
theorem Nz(hk:k≠.i64)(ex:x=.v (.int k a))(ey:y=.v (.int k b))(hc:k.wrap (a+b)=c)(q:K (.v (.int k c))):ab .add x y K:=by
 subst ex;subst ey;subst hc;refine⟨rfl, ?_⟩;unfold re tR;cases k<;>first|exact q|exact absurd rfl hk
theorem DI(hk:k≠.i64)(ex:x=.v (.int k a))(ey:y=.v (.int k b))(hc:k.wrap (a-b)=c)(q:K (.v (.int k c))):ab .sub x y K:=by
 subst ex;subst ey;subst hc;refine⟨rfl, ?_⟩;unfold re tR;cases k<;>first|exact q|exact absurd rfl hk
theorem Uf(hk:k≠.i64)(ex:x=.v (.int k a))(ey:y=.v (.int k b))(hc:k.wrap (a*b)=c)(q:K (.v (.int k c))):ab .mul x y K:=by
 subst ex;subst ey;subst hc;refine⟨rfl, ?_⟩;unfold re tR;cases k<;>first|exact q|exact absurd rfl hk
theorem Ug{k':IntKind}(ex:x=.v (.int k a))(ey:y=.v (.int k' b))(h0:0≤b)(hc:k.wrap (a*2^(min b.toNat k.bits))=c)(q:K (.v (.int k c))):ab .shl x y K:=by
 subst ex;subst ey;subst hc;unfold ab;simp only[jQ,if_true];exact⟨h0,q⟩
theorem He{k':IntKind}(ex:x=.v (.int k a))(ey:y=.v (.int k' b))(h0:0≤b)(hc:a.fdiv (2^(min b.toNat k.bits))=c)(q:K (.v (.int k c))):ab .shr x y K:=by
 subst ex;subst ey;subst hc;unfold ab;simp only[jQ,if_true];exact⟨h0,q⟩
theorem oe{k':IntKind}(ex:x=.v (.int k' a))(hc:k.wrap a=c)(q:K (.v (.int k c))):gZ k x K:=by subst hc;exact⟨k',a,ex,q⟩
end
theorem u64_in{n:Int}(h0:0≤n)(h1:n<18446744073709551616):IntKind.u64.wrap n=n:=by
 simp[IntKind.wrap,IntKind.bits,IntKind.signed];omega
theorem u8_in{n:Int}(h0:0≤n)(h1:n<256):IntKind.u8.wrap n=n:=by
 simp[IntKind.wrap,IntKind.bits,IntKind.signed];omega
def kY(b:UInt8):Option Nat:=if 48≤b.toNat∧b.toNat≤57 then some (b.toNat-48) else if 97≤b.toNat∧b.toNat≤102 then some (b.toNat-87) else if 65≤b.toNat∧b.toNat≤70 then some (b.toNat-55) else none
theorem VT{d:Nat}(h:kY b=some d):d<16∧b.toNat≠95:=by
 unfold kY at h;split at h
 ·cases h;omega
 ·split at h
  ·cases h;omega
  ·split at h
   ·cases h;omega
   ·cases h
theorem VV{d:Nat}(h:kY b=some d)(hb:¬b.toNat≤57):97≤fk .or .u8 (b.toNat:Int) 32∧fk .or .u8 (b.toNat:Int) 32≤122∧fk .or .u8 (b.toNat:Int) 32=d+87:=by
 have key:∀n:Fin 256,∀d,kY (UInt8.ofNat n.val)=some d→¬n.val≤57→97≤fk .or .u8 ((n.val:Nat):Int) 32∧fk .or .u8 ((n.val:Nat):Int) 32≤122∧fk .or .u8 ((n.val:Nat):Int) 32=d+87:=by
  have:∀n:Fin 256,(match kY (UInt8.ofNat n.val) with|some d=>decide (¬n.val≤57→97≤fk .or .u8 ((n.val:Nat):Int) 32∧fk .or .u8 ((n.val:Nat):Int) 32≤122∧fk .or .u8 ((n.val:Nat):Int) 32=d+87)|none=>true)=true:=by decide +kernel
  intro n d h;have h2:=this n;rw[h]at h2;exact uP h2
 have h2:=key ⟨b.toNat,b.toNat_lt⟩ d (by simpa using h) hb;exact h2
def kJ(l:aD):Nat:=l.foldl (fun n b=>16*n+(kY b).getD 0) 0
theorem VU{l:aD}(h:l[k]?=some b):kJ (l.take (k+1))=16*kJ (l.take k)+(kY b).getD 0:=by
 unfold kJ;rw[Gt,h,Option.toList_some,List.foldl_append];rfl
theorem yB(b:UInt8):aP p_ 230 [iM b] (.v (.int .u8 (fk .or .u8 (b.toNat:Int) 32))):=by
 refine (aeI _).gives (by simp[iM]) (by simp) ?_;unfold YD;refine Ht rfl rfl ?_;exact .pure (by simp) rfl
theorem UW(h8:s.length=8)(hd:∀b∈s,(kY b).isSome=true):aP p_ 194 [.str s,i_ 16,i_ 32] (.aF [.v (.int .u64 (kJ s)),.v .nilIface]):=by
 refine (aeC _ _ _).gives (by simp) (by simp) ?_;unfold Yw;refine zzI (zzK (oN fun e=>by rw[e]at h8;cases h8) (zzG (ay (zzD (ay (zzN rfl (zzD (af (zzR (zzL rfl (af (ay (zzG ?_)))))))))))));refine zzK rfl (zzC (ay (zzN rfl (zzE (af (zzQ (zzK rfl (af (ay (zzG (zzK rfl (zzG (zzL rfl ?_)))))))))))));refine af (oe (c:=32) rfl (by decide) (Ug (c:=4294967296) rfl rfl (by omega) (by decide) (DI (c:=4294967295) (by decide) rfl rfl (by decide) ?_)));show kK 5 (.str s) [] _;rw[xc,CM];intro hlen;refine aU (α:=Nat) (fun k=>k≤s.length∧kJ (s.take k)<16^k) (fun k=>[ff,.v (.int .u64 (kJ (s.take k))),i_ k]) (fun _=>[.aC ⟨5,s.map iM,true⟩]) (fun k=>s.length-k) 0 ⟨by simp,by simp[kJ]⟩ (by simpa[kJ]using Wk.refl _ _ _ (by simp)) ?_;rintro k ⟨hk,hlt⟩;have hp:16^k≤16^8:=Nat.pow_le_pow_right (by omega) (by omega);refine zzC ?_;rcases AT k s.length with q|q
 ·obtain⟨b,hb⟩:∃b,s[k]?=some b:=⟨s[k],dO q⟩;obtain⟨d,hdb⟩:=Option.isSome_iff_exists.1 (hd b (gO hb));obtain⟨d16,d95⟩:=VT hdb;have hsn:=VU hb;rw[hdb,Option.getD_some]at hsn;have hp1:16^(k+1)=16*16^k:=by rw[Nat.pow_succ,Nat.mul_comm]
  have hp8:16^(k+1)≤16^8:=Nat.pow_le_pow_right (by omega) (by omega);have e8:16^8=4294967296:=by decide
  obtain⟨n,hn⟩:∃n,kJ (s.take k)=n:=⟨_,rfl⟩;rw[hn]at hlt hsn ⊢;refine zzL (by simpa using q) (ay (D8 (n:=k) rfl rfl (by omega) ?_));refine zzU (c:=iM b) rfl (by rw[acu,Nat.mul_one,lE,hb];rfl) ?_;refine jx [ff,.v (.int .u8 d)] [.aC ⟨5,s.map iM,true⟩] ?_ fun F hF=>?_
  ·refine D7 (n:=16) rfl (by omega) (by omega) (zzF (zzK (oN (by omega)) (zzF (zzK (oN (by omega)) (oe (c:=16) rfl (by decide) (Uf (c:=n*16) (by decide) rfl rfl (u64_in (by omega) (by omega)) (oe (c:=d) rfl (u64_in (by omega) (by omega)) (Nz (c:=n*16+d) (by decide) rfl rfl (u64_in (by omega) (by omega)) (zzC (ay (zzN (oN (by omega)) (zzE (af ?_)))))))))))));refine zzQ (zzK (oN (by omega)) (af (zzP (by unfold aN;omega) (af ?_))));refine⟨k+1,⟨q,by omega⟩, ?_,by omega⟩;rw[hsn];have e:((16*n+d:Nat):Int)=(n:Int)*16+d:=by omega
   rw[e];exact Wk.refl _ _ _ (by simp)
  ·refine zzG (ay (zzM (oN (by omega)) (af (zzQ (zzK rfl (zzD (ay ?_)))))));have fin:∀{x:Int},x=d→F [ff,.v (.int .u8 x)] [.aC ⟨5,s.map iM,true⟩]:=fun e=>by subst e;exact hF
   have h48:48≤b.toNat:=by
    have:=hdb;unfold kY at this;split at this
    ·omega
    ·split at this
     ·omega
     ·split at this
      ·omega
      ·cases this
   refine zzN (tO (by omega)) (zzD (af (zzR ?_)))
   by_cases h57:b.toNat≤57
   ·have ed:d=b.toNat-48:=by
     unfold kY at hdb;rw[if_pos ⟨h48,h57⟩]at hdb;cases hdb;rfl
    refine zzL (tO (by omega)) (DI (c:=d) (by decide) rfl rfl (by rw[u8_in (by omega) (by omega)];omega) (af ?_));exact hF
   ·obtain⟨l1,l2,l3⟩:=VV hdb h57;refine zzK (oN (by omega)) (zzS (by kernel_rfl) (yB b) (zzD (ay (zzN (tO (by omega)) (zzS (by kernel_rfl) (yB b) (zzD (af (zzR (zzL (tO (by omega)) (zzS (by kernel_rfl) (yB b) ?_))))))))));refine DI (c:=(d:Int)-10) (by decide) rfl rfl ?_ ?_
    ·rw[l3,show (d:Int)+87-97=d-10 by omega];exact u8_in (by
      unfold kY at hdb;rw[if_neg (by omega)]at hdb;split at hdb
      ·cases hdb;omega
      ·split at hdb
       ·cases hdb;omega
       ·cases hdb) (by omega)
    refine Nz (c:=d) (by decide) rfl rfl (by rw[u8_in (by omega) (by omega)];omega) (af ?_);exact hF
 ·obtain rfl:k=s.length:=by omega
  refine zzK (by simp) ?_;rw[GO];refine ay (zzM rfl (af (zzQ (zzK rfl ?_))));exact .pure (by simp) rfl
theorem Y3(h8:s.length=8)(hd:∀b∈s,(kY b).isSome=true):aP p_ 161 [.str s,i_ 16,i_ 32] (.aF [.v (.int .u64 (kJ s)),.v .nilIface]):=by
 refine (aeo _ _ _).gives (by simp) (by simp) ?_;unfold Yi;refine zzS (by kernel_rfl) (UW h8 hd) (zzB rfl (zzB rfl ?_));show nB true (some true) _;rw[yT];refine zzK rfl ?_;exact .pure (by simp) rfl
theorem TF{x i j:AV}{l:aD}{K:AV→Prop}(ex:x=.str l)(ei:i=i_ k)(ej:j=i_ ((k:Int)+1))(hb:l[k]?=some b)(q:K (.str [b])):mw x (some i) (some j) K:=by
 subst ex;subst ei;subst ej;obtain⟨h1,h2⟩:=gE.1 hb;rw[ZU];simp only[fc];refine⟨⟨by omega,by omega,by omega⟩, ?_⟩;rw[show ((k:Int)+1).toNat=k+1 by omega,NO,Gt,hb,Option.toList_some,List.drop_append_of_le_length (by simp;omega),List.drop_eq_nil_of_le (by rw[aaW];omega)];exact q
def wL(s:aD):aD:=s.flatMap fun b=>[b,b]
theorem U2(h:s[k]?=some b):wL (s.take (k+1))=wL (s.take k)++[b,b]:=by
 unfold wL;rw[Gt,h];simp
theorem A0:∀s:aD,(wL s).length=2*s.length
 | []=>rfl
 | b:: s=>by have:=A0 s;unfold wL at this ⊢;rw[List.flatMap_cons,DO,this];simp;omega
def qi(s:aD):aD:=if s.length=3∨s.length=4 then wL s else s
def iE(s:aD):aD:=if (qi s).length=6 then qi s++[102,102] else qi s
def A9(s:aD):Int×Int×Int×Int:=((kJ s/16777216%256:Nat),(kJ s/65536%256:Nat),(kJ s/256%256:Nat),(kJ s%256:Nat))
def wZ(s:aD):Option (Int×Int×Int×Int):=if (iE s).length=8∧(iE s).all (fun b=>(kY b).isSome)=true then some (A9 (iE s)) else none
theorem Q7(hl:s.length<2^40):aP p_ 120 [.str s] (rB (wZ s)):=by
 refine (ad2 _).gives (by simp) (oq _) ?_;unfold XW;refine cI (n:=0) (h':=[fB 0 0 0 0]) rfl rfl rfl rfl ?_;have zero:wZ s=none→aY xO [] fun v32=>aE 4 (.op 0 0) v32 [fB 0 0 0 0] fun g33=>ag true 4 (.op 0 0) g33 fun r34=>fg (rB (wZ s)) (.aF [r34,ff]) g33:=fun e=>by
  refine bt (cs:=fy 0 0 0 0) rfl (cf (id:=0) (cs:=fy 0 0 0 0) (h':=[fB 0 0 0 0]) rfl rfl rfl rfl (aS 4) rfl rfl rfl (zzV (id:=0) rfl (aS 4) ?_));rw[e];exact .pure (oq none) rfl
 refine jx [.str (qi s)] [fB 0 0 0 0] ?_ fun F hF=>?_;rotate_left
 ·refine zzb fun _=>?_;refine zzG (ay ?_);have go:(s.length=3∨s.length=4)→bJ [.str [],i_ 0] [fB 0 0 0 0] fun N11 s12 g13=>ab .lss (nx s12 1) (i_ s.length) fun v14=>ae v14 (ab .add (nx s12 1) (i_ 1) fun v15=>mw (.str s) (some (nx s12 1)) (some v15) fun v16=>ab .add (nx s12 1) (i_ 1) fun v17=>mw (.str s) (some (nx s12 1)) (some v17) fun v18=>ab .add v16 v18 fun v19=>ab .add (nx s12 0) v19 fun v20=>ab .add (nx s12 1) (i_ 1) fun v21=>[.str s,.op 0 0,i_ s.length]=[.str s,.op 0 0,i_ s.length]∧N11 [v20,v21] g13) ([AV.op 0 0]=[AV.op 0 0]∧F [nx s12 0] g13):=by
   intro h34;refine aU (α:=Nat) (fun k=>k≤s.length) (fun k=>[.str (wL (s.take k)),i_ k]) (fun _=>[fB 0 0 0 0]) (fun k=>s.length-k) 0 (acr _) (by simpa[wL]using Wk.refl _ _ _ (by simp)) ?_;intro k hk;refine zzC ?_;rcases AT k s.length with q|q
   ·obtain⟨b,hb⟩:∃b,s[k]?=some b:=⟨s[k],dO q⟩;refine zzL (by simpa using q) (zzP (by unfold aN;omega) (TF rfl rfl rfl hb (zzP (by unfold aN;omega) (TF rfl rfl rfl hb (zzc (by unfold maxLen;simp) (zzc (by unfold maxLen;rw[A0];simp;omega) (zzP (by unfold aN;omega) (af ?_))))))));refine⟨k+1,q, ?_,by omega⟩;rw[U2 hb];exact Wk.refl _ _ _ (by simp)
   ·obtain rfl:k=s.length:=by omega
    refine zzK (by simp) (af ?_);have e:qi s=wL s:=if_pos h34;rw[e]at hF;rw[GO];exact hF
  by_cases h3:s.length=3
  ·refine zzM (tO (by omega)) (af (zzR (zzL rfl ?_)));exact go (.inl h3)
  ·refine zzN (oN (by omega)) (zzG (af (zzQ ?_)))
   by_cases h4:s.length=4
   ·refine zzL (tO (by omega)) ?_;exact go (.inr h4)
   ·refine zzK (oN (by omega)) (af ?_);have e:qi s=s:=if_neg (by omega);rw[e]at hF;exact hF
 have hl1:(qi s).length<2^41:=by
  unfold qi;split
  ·rw[A0];omega
  ·omega
 refine jx [.str (iE s)] [fB 0 0 0 0] ?_ fun F hF=>?_;rotate_left
 ·refine zzb fun _=>?_;refine zzG ?_
  by_cases h6:(qi s).length=6
  ·refine zzL (tO (by omega)) (zzc (by unfold maxLen;simp;omega) (af ?_));have e:iE s=qi s++[102,102]:=if_pos h6;rw[e]at hF;exact hF
  ·refine zzK (oN (by omega)) (af ?_);have e:iE s=qi s:=if_neg h6;rw[e]at hF;exact hF
 refine zzb fun _=>?_;refine zzH ?_
 by_cases h8:(iE s).length=8
 rotate_left
 ·refine zzL (by simp;omega) ?_;exact zero (if_neg fun h=>h8 h.1)
 refine zzK (by simp;omega) ?_;refine zzb fun _=>?_;refine aU (α:=Nat) (fun k=>k≤8∧∀b∈(iE s).take k,(kY b).isSome=true) (fun k=>[i_ k]) (fun _=>[fB 0 0 0 0]) (fun k=>8-k) 0 ⟨acr _,by simp⟩ (Wk.refl _ _ _ (aS _)) ?_;rintro k ⟨hk,hall⟩;refine zzC ?_;rcases AT k 8 with q|q
 ·obtain⟨b,hb⟩:∃b,(iE s)[k]?=some b:=⟨_,dO (by omega)⟩;refine zzL (by simp;omega) (B4 (n:=k) rfl rfl hb ?_);have bad:kY b=none→wZ s=none:=fun e=>if_neg fun h=>by
   have:=By.1 h.2 b (gO hb);rw[e]at this;cases this
  have good:(kY b).isSome=true→∃y,(y≤8∧∀b∈(iE s).take y,(kY b).isSome=true)∧Wk ([fB 0 0 0 0]:aa).length [i_ ((k:Int)+1)] [fB 0 0 0 0] [i_ y] [fB 0 0 0 0]∧8-y<8-k:=fun e=>by
   refine⟨k+1,⟨q,fun b' hb' => ?_⟩,Wk.refl _ _ _ (aS _),by omega⟩;rw[Gt,hb]at hb';rcases IN.1 hb' with h|h
   ·exact hall b' h
   ·rw[Option.toList_some,Up]at h;subst h;exact e
  have lt:=b.toNat_lt;have hx:(kY b).isSome=true↔(48≤b.toNat∧b.toNat≤57)∨(97≤b.toNat∧b.toNat≤102)∨(65≤b.toNat∧b.toNat≤70):=by
   unfold kY;split
   ·simp;omega
   ·split
    ·simp;omega
    ·split
     ·simp;omega
     ·simp;omega
  have no:¬((48≤b.toNat∧b.toNat≤57)∨(97≤b.toNat∧b.toNat≤102)∨(65≤b.toNat∧b.toNat≤70))→kY b=none:=fun h=>by
   cases e:kY b with
   | none=>rfl
   | some d=>exact absurd (hx.1 (by rw[e];rfl)) h
  rcases (by omega:b.toNat<48∨(48≤b.toNat∧b.toNat≤57)∨(58≤b.toNat∧b.toNat≤64)∨(65≤b.toNat∧b.toNat≤70)∨(71≤b.toNat∧b.toNat≤96)∨(97≤b.toNat∧b.toNat≤102)∨103≤b.toNat) with r|r|r|r|r|r|r;all_goals
   repeat' (first|refine ay ?_|refine af ?_|refine zzC ?_|refine zzE ?_|refine zzQ ?_|refine zzR ?_|refine zzN (tO (by omega)) ?_|refine zzN (oN (by omega)) ?_|refine zzM (tO (by omega)) ?_|refine zzM (oN (by omega)) ?_|refine zzN rfl ?_|refine zzM rfl ?_|refine iG rfl ?_|refine zzL rfl ?_|refine zzK rfl ?_|refine zzL (tO (by omega)) ?_|refine zzK (oN (by omega)) ?_|exact zero (bad (no (by omega)))|refine zzP (by unfold aN;omega) ?_|exact good (hx.2 (by omega)))
 ·obtain rfl:k=8:=by omega
  have hd:∀b∈iE s,(kY b).isSome=true:=fun b hb=>hall b (by rw[←h8,GO];exact hb);have e:wZ s=some (A9 (iE s)):=if_pos ⟨h8,By.2 hd⟩;refine zzK (oN (by omega)) (zzS (by kernel_rfl) (Y3 h8 hd) (zzB rfl (zzB rfl ?_)));have fd:∀(m:Nat),0<m→((kJ (iE s):Nat):Int).fdiv (m:Int)=((kJ (iE s)/m:Nat):Int):=fun m hm=>by
   rw[Int.fdiv_eq_ediv_of_nonneg _ (by omega)];exact (Int.natCast_ediv _ _).symm
  have wr:∀n:Nat,IntKind.u8.wrap (n:Int)=((n%256:Nat):Int):=fun n=>by
   simp[IntKind.wrap,IntKind.bits,IntKind.signed]
  refine He (c:=((kJ (iE s)/16777216:Nat):Int)) rfl rfl (by omega) (fd 16777216 (by omega)) (oe (c:=((kJ (iE s)/16777216%256:Nat):Int)) rfl (wr _) (He (c:=((kJ (iE s)/65536:Nat):Int)) rfl rfl (by omega) (fd 65536 (by omega)) (oe (c:=((kJ (iE s)/65536%256:Nat):Int)) rfl (wr _) (He (c:=((kJ (iE s)/256:Nat):Int)) rfl rfl (by omega) (fd 256 (by omega)) (oe (c:=((kJ (iE s)/256%256:Nat):Int)) rfl (wr _) (oe (c:=((kJ (iE s)%256:Nat):Int)) rfl (wr _) (bt (cs:=kH (A9 (iE s))) rfl ?_)))))));show nB false (some true) _;rw[yT];refine cf (id:=0) (cs:=kH (A9 (iE s))) (h':=[.aC ⟨35,kH (A9 (iE s)),true⟩]) rfl rfl rfl rfl (aS 4) rfl rfl rfl (cY (id:=0) (b:=⟨35,kH (A9 (iE s)),true⟩) rfl rfl (aS 4) ?_);rw[e];exact .pure (oq (some (A9 (iE s)))) rfl
abbrev SR:aD:=[114,103,98]
abbrev NA:aD:=[114,103,98,97]
def gV(v:Vl):Option (Int×Int×Int×Int):=if v.kind=1 then vh (bO v.text) else if v.kind=4 then wZ v.text else if v.kind=2 then (if bO v.text=SR∨bO v.text=NA then sG v.list else none) else none
structure u7(v:Vl):Prop where
 txt:v.text.length<2^40
 len:v.list.length<2^30
 num:∀w∈v.list,aN w.num
 own:aN v.num
theorem Om(ok:u7 v):aP p_ 82 [.agg (cQ v)] (rB (gV v)):=by
 refine (V82 _).gives (by simp[zX]) (oq _) ?_;unfold W82;refine cI (cs:=cQ v) (n:=0) (h':=[vB v]) rfl (by simp[cK,dH]) rfl rfl (cI (n:=1) (h':=[vB v,fB 0 0 0 0]) rfl rfl rfl rfl ?_);have KG:∀(i:Nat) (c:AV) {K:AV→Prop},(cQ v)[i]?=some c→K c→ag false 1 (.op 0 (0+i)) [vB v,fB 0 0 0 0] K:=fun i c K h q=>aR rfl (b:=⟨100,cQ v,true⟩) rfl (by rw[acu];exact h) q;have fld2:∀(i:Nat) (c:AV) {K:AV→Prop},(cQ v)[i]?=some c→K c→ag false 1 (.op 0 (0+0+i)) [vB v,fB 0 0 0 0] K:=fun i c K h q=>KG i c h q;have out:∀(t:aa) (x:List AV) (b:Bool),x.length=4→x.all dH=true→bf x→rB (gV v)=.aF [.agg x,b_ b]→aE 4 (.op 1 0) (.agg x) (vB v:: fB 0 0 0 0:: t) fun g=>ag true 4 (.op 1 0) g fun r=>fg (rB (gV v)) (.aF [r,b_ b]) g:=fun t x b h4 hs hp e=>by
  match x,h4 with
  | [p,q,r,s],_ =>
    refine cf (id:=1) (cs:=[p,q,r,s]) (h':=vB v:: .aC ⟨35,[p,q,r,s],true⟩:: t) rfl rfl rfl rfl (aS 4) rfl hs rfl (zzV (id:=1) (b:=⟨35,[p,q,r,s],true⟩) rfl (aS 4) ?_);rw[e];exact .pure (by simpa[Aw.Pure,bf]using hp) rfl
 have outR:∀(t:aa) (R:Option (Int×Int×Int×Int)),gV v=R→aK 0 (rB R) fun v30=>aK 1 (rB R) fun v31=>aE 4 (.op 1 0) v30 (vB v:: fB 0 0 0 0:: t) fun g32=>ag true 4 (.op 1 0) g32 fun r33=>fg (rB (gV v)) (.aF [r33,v31]) g32:=fun t R e=>by
  cases R with
  | none=>exact zzB rfl (zzB rfl (out t (fy 0 0 0 0) false rfl rfl (by simp[bf,Aw.Pure,fy]) (by rw[e];rfl)))
  | some c=>exact zzB rfl (zzB rfl (out t (kH c) true rfl rfl (by simp[bf,Aw.Pure,kH,fy]) (by rw[e];rfl)))
 refine gF (fun s G=>s=[]∧G=[vB v,fB 0 0 0 0]∧gV v=none) ?_ fun F hF=>?_
 ·rintro _ _ ⟨rfl,rfl,e⟩;refine bt (cs:=fy 0 0 0 0) rfl ?_;exact out [] (fy 0 0 0 0) false rfl rfl (by simp[bf,Aw.Pure,fy]) (by rw[e];rfl)
 refine zzA (zzA (fld2 0 (u1 v.kind) (by simp[cK]) (zzG ?_)))
 by_cases h1:v.kind=1
 ·have e:gV v=vh (bO v.text):=if_pos h1;refine zzL (tO h1) (zzA (zzA (fld2 1 (.str v.text) (by simp[cK]) (zzS (by kernel_rfl) (Oh v.text) ?_))));cases hn:vh (bO v.text) with
  | some c =>
    rw[hn]at e;refine zzB rfl (zzB rfl (cI (n:=2) (h':=[vB v,fB 0 0 0 0,fB 0 0 0 0]) rfl rfl rfl rfl (cf (id:=2) (cs:=kH c) (h':=[vB v,fB 0 0 0 0,.aC ⟨35,kH c,true⟩]) rfl rfl rfl rfl (aS 4) rfl rfl rfl (zzV (id:=2) (b:=⟨35,kH c,true⟩) rfl (aS 4) (zzG ?_)))));exact out [_] (kH c) true rfl rfl (by simp[bf,Aw.Pure,kH,fy]) (by rw[e];rfl)
  | none =>
    rw[hn]at e;refine zzB rfl (zzB rfl (cI (n:=2) (h':=[vB v,fB 0 0 0 0,fB 0 0 0 0]) rfl rfl rfl rfl (cf (id:=2) (cs:=fy 0 0 0 0) (h':=[vB v,fB 0 0 0 0,fB 0 0 0 0]) rfl rfl rfl rfl (aS 4) rfl rfl rfl (zzV (id:=2) rfl (aS 4) (zzG ?_)))));exact out [_] (fy 0 0 0 0) false rfl rfl (by simp[bf,Aw.Pure,fy]) (by rw[e];rfl)
 refine zzK (oN h1) (zzG ?_)
 by_cases h4:v.kind=4
 ·have e:gV v=wZ v.text:=by unfold gV;rw[if_neg h1,if_pos h4]
  refine zzL (tO h4) (zzA (zzA (fld2 1 (.str v.text) (by simp[cK]) (zzS (by kernel_rfl) (Q7 ok.txt) ?_))));exact outR [] _ e
 refine zzK (oN h4) (zzG ?_)
 by_cases h2:v.kind=2
 ·refine zzL (tO h2) (zzA (zzA (fld2 1 (.str v.text) (by simp[cK]) (zzS (by kernel_rfl) (sQ v.text) (zzI (ay ?_))))));have yes:(bO v.text=SR∨bO v.text=NA)→bh 5 (.op 0 0) fun v46=>ag false 1 v46 [vB v,fB 0 0 0 0] fun v47=>eJ p_ (.fn (.func 121) [] []) [v47] [vB v,fB 0 0 0 0] fun v48 g49=>aK 0 v48 fun v50=>aK 1 v48 fun v51=>aE 4 (.op 1 0) v50 g49 fun g52=>ag true 4 (.op 1 0) g52 fun r53=>fg (rB (gV v)) (.aF [r53,v51]) g52:=fun hs=>by
   have e:gV v=sG v.list:=by unfold gV;rw[if_neg h1,if_neg h4,if_pos h2,if_pos hs]
   refine zzA (KG 5 (.sl 6 (ar v.list)) (by simp[cK,aJ]) (zzS (by kernel_rfl) (UY ok.len ok.num) ?_));exact outR [] _ e
  by_cases s1:bO v.text=SR
  ·refine zzM (tO s1) (af (zzR (zzL rfl ?_)));exact yes (.inl s1)
  ·refine zzN (oN s1) (zzI (af (zzQ ?_)))
   by_cases s2:bO v.text=NA
   ·refine zzL (tO s2) ?_;exact yes (.inr s2)
   ·refine zzK (oN s2) (af ?_);exact hF _ _ ⟨rfl,rfl,by unfold gV;rw[if_neg h1,if_neg h4,if_pos h2,if_neg fun h=>h.elim s1 s2]⟩
 ·refine zzK (oN h2) (af ?_);exact hF _ _ ⟨rfl,rfl,by unfold gV;rw[if_neg h1,if_neg h4,if_neg h2]⟩
def Fw(x:AV)(H:aa)(ws:List Vv):Prop:=(ws=[]∧x=bw)∨(ws≠[]∧∃id,x=.sb id 7 (bQ ws)∧H[id]?=some (.tok 37 7 ws.length))
def NT(H H':aa):Prop:=∀(i:Nat) (b:nJ),H[i]?=some (dh.aC b)→H'[i]?=some (dh.aC b)
theorem NT.app(H t:aa):NT H (H++t):=fun i b e=>by rw[iD (gE.1 e).1];exact e
theorem Fw.app(g:Fw x H ws)(t:aa):Fw x (H++t) ws:=by
 rcases g with g|⟨g,id,e,h⟩
 ·exact .inl g
 ·exact .inr ⟨g,id,e,by rw[iD (gE.1 h).1];exact h⟩
theorem tP(g:Fw x H ws)(hl:ws.length<100)(w:Vv){K:AV→aa→Prop}(q:∀x' H',Fw x' H' (ws++[w])→NT H H'→H.length≤H'.length→K x' H'):eE false 37 7 40 x (.sl 7 [bL w]) H K:=by
 rcases g with⟨rfl,rfl⟩|⟨g,id,rfl,h⟩
 ·refine ze (n:=H.length) (k:=1) (rows:=[bL w]) (h':=H++[.tok 37 7 1]) rfl fw rfl rfl (by unfold dU maxLen;omega) rfl rfl ?_;exact q _ _ (.inr ⟨by simp,H.length,rfl,by simp⟩) (NT.app _ _) (by simp)
 ·have hid:=(gE.1 h).1;refine kP (id:=id) (k:=ws.length) (base:=bQ ws) (rows:=[bL w]) (h':=H.set id (.tok 37 7 (ws.length+1))) rfl h (by simp[bQ]) fw rfl (by unfold dU maxLen;simp;omega) rfl ?_;refine q _ _ (.inr ⟨by simp,id,by simp[bQ],by rw[iN hid];simp⟩) (fun i b e=>?_) (by simp);rw[iS fun e2=>by subst e2;rw[h]at e;cases e];exact e
def Gd(ws:List Vv):AV:=if ws=[] then bw else .sl 7 (bQ ws)
theorem Sw(ws:List Vv):Aw.Pure (Gd ws):=by unfold Gd;split<;>simp[Aw.Pure,ik]
theorem tN(g:Fw x H ws):fg (Gd ws) x H:=by
 rcases g with⟨rfl,rfl⟩|⟨g,id,rfl,_⟩
 ·exact .pure (by simp) rfl
 ·rw[Gd,if_neg g];exact wY (ik ws)
abbrev MA:aD:=[99,117,114,114,101,110,116,99,111,108,111,114]
def oL(u:aD):Int:=if u=[114,101,109] then 4 else if u=[101,109] then 3 else if u=[112,120] then 2 else 0
def HK(c:Int×Int×Int×Int):Vv:=⟨7,[],0,c.1,c.2.1,c.2.2.1,c.2.2.2⟩
def px(v:Vl):List Vv:=(match gV v with|some c=>[HK c]|none=>[]) ++
 (if v.kind=1 then [⟨1,bO v.text,0,0,0,0,0⟩]++(if bO v.text=MA then [⟨8,[],0,0,0,0,0⟩] else [])
 else if v.kind=12 then (if 0<oL (bO v.unit) then [⟨oL (bO v.unit),[],v.num,0,0,0,0⟩] else [])
 else if v.kind=10 then (if v.flag then [⟨6,[],v.num.tdiv 1000,0,0,0,0⟩] else [])++[⟨5,[],v.num,0,0,0,0⟩]++(if v.num=0 then [⟨2,[],0,0,0,0,0⟩] else [])
 else [])
theorem NM(u:aD):(if u=[114,101,109] then some (u8 4) else if u=[101,109] then some (u8 3) else if u=[112,120] then some (u8 2) else none:Option AV)=if oL u=0 then none else some (u1 (oL u)):=by
 unfold oL
 by_cases h1:u=[114,101,109]
 ·simp[h1]
 ·by_cases h2:u=[101,109]
  ·simp[h2]
  ·by_cases h3:u=[112,120]
   ·simp[h3]
   ·simp[h1,h2,h3]
theorem Oq(ok:u7 v):aP p_ 43 [.agg (cQ v)] (Gd (px v)):=by
 refine (V43 _).gives (by simp[zX]) (Sw _) ?_;unfold W43;refine cI (cs:=cQ v) (n:=0) (h':=[vB v]) rfl (by simp[cK,dH]) rfl rfl (zzA (B8 (h:=[]) (cI (cs:=[(u8 0),(.str []),(i_ 0),(.str []),ff]) (n:=1) (h':=[vB v,.aC ⟨98,[(u8 0),(.str []),(i_ 0),(.str []),ff],true⟩]) rfl rfl rfl rfl (cf (id:=1) (cs:=pE v) (h':=[vB v,sK v]) rfl rfl rfl rfl (by simp[pE]) rfl (by simp[pE,dH]) rfl ?_))));refine gF (fun s G=>∃x,s=[x]∧Fw x G (match gV v with|some c=>[HK c]|none=>[])∧G[1]?=some (sK v)) ?_ fun F hF=>?_
 ·rintro _ G ⟨x,rfl,g,h1⟩;obtain⟨cl,hcl⟩:∃cl,(match gV v with|some c=>[HK c]|none=>[])=cl:=⟨_,rfl⟩;have hcl1:cl.length≤1:=by rw[←hcl];cases gV v<;>simp
  have eM:px v=cl++(if v.kind=1 then [⟨1,bO v.text,0,0,0,0,0⟩]++(if bO v.text=MA then [⟨8,[],0,0,0,0,0⟩] else [])
   else if v.kind=12 then (if 0<oL (bO v.unit) then [⟨oL (bO v.unit),[],v.num,0,0,0,0⟩] else [])
   else if v.kind=10 then (if v.flag then [⟨6,[],v.num.tdiv 1000,0,0,0,0⟩] else [])++[⟨5,[],v.num,0,0,0,0⟩]++(if v.num=0 then [⟨2,[],0,0,0,0,0⟩] else [])
   else []):=by rw[←hcl];rfl
  rw[hcl]at g;have tk:∀{H:aa} (i:Nat) (c:AV) {K:AV→Prop},H[1]?=some (sK v)→(pE v)[i]?=some c→K c→ag false 1 (.op 1 (0+i)) H K:=fun i c K hb h q=>aR rfl (b:=⟨98,pE v,true⟩) hb (by rw[acu];exact h) q;refine zzA (tk 0 (u1 v.kind) h1 rfl (zzG ?_))
  by_cases k1:v.kind=1
  ·rw[if_pos k1]at eM;refine zzL (tO k1) (zzA (tk 1 (.str v.text) h1 rfl (zzS (by kernel_rfl) (sQ v.text) (bt (cs:=bL ⟨1,bO v.text,0,0,0,0,0⟩) rfl (sL ?_)))));refine tP g (by omega) _ fun x2 G2 g2 _ _=>?_;refine zzI ?_
   by_cases hc:bO v.text=MA
   ·rw[if_pos hc,←TO]at eM;refine zzL (tO hc) (bt (cs:=bL ⟨8,[],0,0,0,0,0⟩) rfl (sL ?_));refine tP g2 (by simp;omega) _ fun x3 G3 g3 _ _=>?_;rw[eM];exact tN g3
   ·rw[if_neg hc,aa1]at eM;refine zzK (oN hc) ?_;rw[eM];exact tN g2
  refine zzK (oN k1) ?_;rw[if_neg k1]at eM;refine zzG ?_
  by_cases k2:v.kind=12
  ·rw[if_pos k2]at eM;refine zzL (tO k2) (qa (n:=G.length) (h':=G++[.mp 0 []]) rfl rfl ?_);obtain⟨c1,e1,u1',m1,_⟩:=Mp.new.Jw [112,120] (u8 2);obtain⟨c2,e2,u2',m2,_⟩:=m1.Jw [101,109] (u8 3);obtain⟨c3,e3,u3',m3,_⟩:=m2.Jw [114,101,109] (u8 4);have gm:∀x:dh,(G++[x])[G.length]?=some x:=fun x=>by simp
   refine zze (gm _) rfl u1' (wa rfl) (zze (gm _) rfl u2' (wa rfl) (zze (gm _) rfl u3' (wa rfl) ?_));have h1':∀x:dh,(G++[x])[1]?=some (sK v):=fun x=>NT.app _ _ 1 _ h1;refine zzA (tk 3 (.str v.unit) (h1' _) rfl (zzS (by kernel_rfl) (sQ v.unit) ?_));refine rN (q0:=if oL (bO v.unit)=0 then none else some (u1 (oL (bO v.unit)))) (v:=u1 (oL (bO v.unit))) rfl (gm _) rfl (by
    have:=m3.look (bO v.unit);rw[←NM];exact this) (by by_cases h:oL (bO v.unit)=0<;>simp[h,F8]) ?_
   refine zzE ?_
   by_cases hu:0<oL (bO v.unit)
   ·rw[if_pos hu]at eM;refine zzL (tO hu) (zzA (tk 2 (i_ v.num) (h1' _) rfl (bt (cs:=bL ⟨oL (bO v.unit),[],v.num,0,0,0,0⟩) rfl (sL ?_))));refine tP (g.app _) (by omega) _ fun x2 G2 g2 _ _=>?_;rw[eM];exact tN g2
   ·rw[if_neg hu,aa1]at eM;refine zzK (oN hu) ?_;rw[eM];exact tN (g.app _)
  refine zzK (oN k2) ?_;rw[if_neg k2]at eM;refine zzG ?_
  by_cases k3:v.kind=10
  ·rw[if_pos k3]at eM;refine zzL (tO k3) ?_;refine gF (fun s G' => ∃x,s=[x]∧Fw x G' (cl++if v.flag then [⟨6,[],v.num.tdiv 1000,0,0,0,0⟩] else [])∧G'[1]?=some (sK v)) ?_ fun F hF=>?_
   ·rintro _ G' ⟨x,rfl,g,h1⟩;have h2:(cl++if v.flag then [(⟨6,[],v.num.tdiv 1000,0,0,0,0⟩:Vv)] else []).length≤2:=by rw[DO];cases v.flag<;>simp<;>omega
    refine zzA (tk 2 (i_ v.num) h1 rfl (bt (cs:=bL ⟨5,[],v.num,0,0,0,0⟩) rfl (sL ?_)));refine tP g (by omega) _ fun x2 G2 g2 kp _=>?_;refine zzA (tk 2 (i_ v.num) (kp _ _ h1) rfl (zzG ?_))
    by_cases h0:v.num=0
    ·rw[if_pos h0,←TO,←TO]at eM;refine zzL (tO h0) (bt (cs:=bL ⟨2,[],0,0,0,0,0⟩) rfl (sL ?_));refine tP g2 (by rw[DO];simp only[aah,acR];omega) _ fun x3 G3 g3 _ _=>?_;rw[eM];exact tN g3
    ·rw[if_neg h0,aa1,←TO]at eM;refine zzK (oN h0) ?_;rw[eM];exact tN g2
   ·refine zzA (tk 4 (b_ v.flag) h1 rfl ?_);cases hf:v.flag with
    | true =>
      refine zzL rfl (zzA (tk 2 (i_ v.num) h1 rfl (B7 (c:=v.num.tdiv 1000) rfl rfl (by omega) (IntWalk.i64_in _ (Fk ok.own)) (bt (cs:=bL ⟨6,[],v.num.tdiv 1000,0,0,0,0⟩) rfl (sL ?_)))));refine tP g (by omega) _ fun x2 G2 g2 kp _=>?_;refine af ?_;exact hF _ _ ⟨_,rfl,by rw[hf];exact g2,kp _ _ h1⟩
    | false =>
      refine zzK rfl (af ?_);exact hF _ _ ⟨_,rfl,by rw[hf];simpa using g,h1⟩
  refine zzK (oN k3) ?_;rw[if_neg k3,aa1]at eM;rw[eM];exact tN g
 ·refine zzV (id:=0) (b:=⟨100,cQ v,true⟩) rfl (by simp[cK]) ?_;rw[show (List.take 6 (List.drop 0 (cQ v)))=cQ v by simp[cK]];refine zzS (by kernel_rfl) (Om ok) ?_;cases hc:gV v with
  | some c =>
    refine zzB rfl (zzB rfl (cI (n:=2) (h':=[vB v,sK v,fB 0 0 0 0]) rfl rfl rfl rfl (cf (id:=2) (cs:=kH c) (h':=[vB v,sK v,.aC ⟨35,kH c,true⟩]) rfl rfl rfl rfl (aS 4) rfl rfl rfl (zzL rfl (zzV (id:=2) (b:=⟨35,kH c,true⟩) rfl (aS 4) (bt (cs:=bL (HK c)) rfl (sL ?_)))))));refine tP (ws:=[]) (.inl ⟨rfl,rfl⟩) (by simp) _ fun x2 G2 g2 kp _=>?_;refine af ?_;exact hF _ _ ⟨_,rfl,by rw[hc];exact g2,kp 1 _ rfl⟩
  | none =>
    refine zzB rfl (zzB rfl (cI (n:=2) (h':=[vB v,sK v,fB 0 0 0 0]) rfl rfl rfl rfl (cf (id:=2) (cs:=fy 0 0 0 0) (h':=[vB v,sK v,fB 0 0 0 0]) rfl rfl rfl rfl (aS 4) rfl rfl rfl (zzK rfl (af ?_)))));exact hF _ _ ⟨_,rfl,by rw[hc];exact .inl ⟨rfl,rfl⟩,rfl⟩
theorem Ps(ok:u7 v):∀w∈px v,aN w.num:=by
 have z:aN 0:=by unfold aN;omega
 intro w hw;unfold px at hw;rcases IN.1 hw with h|h
 ·cases hc:gV v with
  | none=>rw[hc]at h;cases h
  | some c=>rw[hc]at h;rw[Up.1 h];exact z
 ·split at h
  ·rcases IN.1 h with h|h
   ·rw[Up.1 h];exact z
   ·split at h
    ·rw[Up.1 h];exact z
    ·cases h
  ·split at h
   ·split at h
    ·rw[Up.1 h];exact ok.own
    ·cases h
   ·split at h
    ·rcases IN.1 h with h|h
     ·rcases IN.1 h with h|h
      ·split at h
       ·rw[Up.1 h];exact Fk ok.own
       ·cases h
      ·rw[Up.1 h];exact ok.own
     ·split at h
      ·rw[Up.1 h];exact z
      ·cases h
    ·cases h
theorem Pq(v:Vl):(px v).length≤4:=by
 unfold px;rw[DO];have h1:(match gV v with|some c=>[HK c]|none=>[]).length≤1:=by cases gV v<;>simp
 refine acx (Nat.add_le_add h1 (?_:_≤3)) (by omega);clear h1;split
 ·rw[DO];split<;>simp only[aah,acR]<;>omega
 ·split
  ·split<;>simp only[aah,acR]<;>omega
  ·split
   ·rw[DO,DO];split<;>split<;>simp only[aah,acR]<;>omega
   ·simp only[acR];omega
def lJ(prop:Nat)(l:List Vl):Option Vv:=match l with
 | [v]=>(px v).find? fun w=>hasB prop w
 | _=>none
def rV(prop:Nat)(l:List Vl):AV:=match lJ prop l with|some w=>.aF [.agg (bL w),i_ 0]|none=>.aF [.agg (bL v0),i_ 12]
theorem Ny(prop:Nat)(l:List Vl):Aw.Pure (rV prop l):=by unfold rV;split<;>simp[Aw.Pure,bf,eI]
theorem yy{prop:Nat}{l:List Vl}(hp:prop<18)(hl:l.length<2^40)(ok:∀v∈l,u7 v):aP p_ 16 [i_ prop,.sl 6 (ar l)] (rV prop l):=by
 refine (V16 _ _).gives (by simp[bf,Aw.Pure,dd]) (Ny _ _) ?_;unfold W16;refine cI (n:=0) (h':=[wB v0]) rfl rfl rfl rfl ?_;have bad:∀(t:aa),lJ prop l=none→aY NQ [] fun v9=>aE 7 (.op 0 0) v9 (wB v0:: t) fun g10=>ag true 7 (.op 0 0) g10 fun r11=>fg (rV prop l) (.aF [r11,i_ 12]) g10:=fun t e=>by
  refine bt (cs:=bL v0) rfl (iz (id:=0) (v:=v0) (h':=wB v0:: t) rfl rfl (iV (id:=0) (v:=v0) rfl ?_));unfold rV;rw[e];exact .pure (by simp[Aw.Pure,bf,eI]) rfl
 refine zzC (ay (zzN (oN (by omega)) (zzF (af (zzQ (zzK (oN (by omega)) ?_))))));refine zzk (n:=l.length) (by simp[aJ]) fun _=>?_;refine zzH ?_
 match l with
 | []=>exact zzL rfl (bad [] rfl)
 | u:: w:: r=>exact zzL (by simp;omega) (bad [] rfl)
 | [v] =>
   have okv:=ok v (by simp);refine zzK rfl (zzg (f:=cQ) (l:=[v]) (a:=v) (aJ _) (n:=0) rfl rfl (zzY (by simp[cK]) (zzS (by kernel_rfl) (Oq okv) ?_)));obtain⟨ws,hws⟩:∃ws,px v=ws:=⟨_,rfl⟩;have hn:=Ps okv;have h4:=Pq v;have eF:lJ prop [v]=ws.find? fun w=>hasB prop w:=by rw[←hws];rfl
   rw[hws]at hn h4 ⊢;have ln:∀{K:AV→Prop},K (i_ ws.length)→bu (Gd ws) K:=fun q=>by
    unfold Gd;split
    ·rename_i e;subst e;exact Hq q
    ·exact zzk (n:=ws.length) (by simp[bQ]) fun _=>q
   refine ln (aU (α:=Nat) (fun k=>k≤ws.length∧∀w∈ws.take k,hasB prop w=false) (fun k=>[i_ k]) (fun _=>[wB v0]) (fun k=>ws.length-k) 0 ⟨acr _,by simp⟩ (Wk.refl _ _ _ (aS _)) ?_);rintro k ⟨hk,hno⟩;refine zzC ?_;rcases AT k ws.length with q|q
   ·obtain⟨w,hx⟩:∃w,ws[k]?=some w:=⟨ws[k],dO q⟩;refine zzL (by simpa using q) ?_;have em:Gd ws=.sl 7 (bQ ws):=if_neg fun e=>by subst e;simp at q
    refine dm (f:=bL) (l:=ws) (n:=k) (a:=w) em rfl rfl hx (zzY rfl (cI (cs:=bL v0) (n:=1) (h':=[wB v0,wB v0]) rfl rfl rfl rfl (iz (id:=1) (v:=v0) (h':=[wB v0,wB w]) rfl rfl (iV (id:=1) (v:=w) rfl (zzS (by kernel_rfl) (Ke prop w (hn w (gO hx))) (zzB rfl (zzB rfl ?_)))))));cases hb:hasB prop w with
    | true =>
      have ef:lJ prop [v]=some w:=by
       rw[eF];have e1:ws=ws.take k++w:: ws.drop (k+1):=by
        obtain⟨h1,h2⟩:=gE.1 hx;rw[←h2,←acO h1,List.take_append_drop]
       rw[e1,List.find?_append,List.find?_eq_none.2 (fun x hx' => by rw[hno x hx'];decide),List.find?_cons,hb];rfl
      refine zzL rfl (iV (id:=1) (v:=w) rfl (iz (id:=0) (v:=v0) (h':=[wB w,wB w]) rfl rfl (iV (id:=0) (v:=w) rfl ?_)));unfold rV;rw[ef];exact .pure (by simp[Aw.Pure,bf,eI]) rfl
    | false =>
      refine zzK rfl (zzP (by unfold aN;omega) (af ?_));refine⟨k+1,⟨q,fun x hx' => ?_⟩,Wk.back (M:=1) (aS _) (by simp) rfl rfl (fun e he=>?_) (by simp[Bd]),by omega⟩
      ·rw[Gt,hx]at hx';rcases IN.1 hx' with h|h
       ·exact hno x h
       ·rw[Option.toList_some,Up]at h;subst h;exact hb
      ·simp only[Up]at he;subst he;exact iZ _ _ (eI _)
   ·obtain rfl:k=ws.length:=by omega
    refine zzK (by simp) ?_;rw[GO]at hno;exact bad [] (by rw[eF];exact List.find?_eq_none.2 fun x hx' => by rw[hno x hx'];decide)
end
end Go.Proofs.YtldpambpnajgiaaGreatDoor
end
