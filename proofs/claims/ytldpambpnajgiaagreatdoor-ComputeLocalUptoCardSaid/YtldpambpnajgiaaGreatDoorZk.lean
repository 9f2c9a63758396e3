/-
 Arguments whose numbers are in range,all the way down.
 No conditions.
-/
import Derived.Test.YtldpambpnajgiaaGreatDoorProg
import Derived.KernelRfl
import Derived.Test.YtldpambpnajgiaaGreatDoorZf
import Derived.Test.YtldpambpnajgiaaGreatDoorZj
import Derived.Test.YtldpambpnajgiaaGreatDoorZg
import Derived.Test.YtldpambpnajgiaaGreatDoorZd
import Derived.Test.YtldpambpnajgiaaGreatDoorZh
import Derived.Test.YtldpambpnajgiaaGreatDoorZe
set_option linter.unusedVariables false
set_option linter.unusedSimpArgs false
set_option linter.unusedSectionVars false
set_option maxRecDepth 1000000
set_option maxHeartbeats 16000000
open Go.Proofs.Tryz renaming prog→p_
noncomputable section
namespace Go.Proofs.YtldpambpnajgiaaGreatDoor
section
open Go Go.Aw Go.dz Go.ChangeShapes Go.WideShapes Go.ChangeAt Go.RowKit
variable{ps:List MemPlace}{W:World}{v:Value}
theorem ma.map{F:Nat}{P:Program}{t:TypeId}{X Y:Type}{ea:X→List AV}{sz:X→Nat}{ea':Y→List AV}{sz':Y→Nat}{g:X→Y}(h:ma F P t ea sz)(e1:∀x,ea' (g x)=ea x)(e2:∀x,sz' (g x)=sz x):ma F P t ea' sz':=fun H enc W fuel cs d ps hF q=>by
 obtain⟨x,a,b,c⟩:=h H enc W fuel cs d ps hF q;exact⟨g x,by rw[e1];exact a,b,by rw[e2];exact c⟩
abbrev NU:={v:Vl // nV v}
abbrev TA:={l:List Vl // gK l}
abbrev Tu:={d:Dc // gK d.value}
abbrev CuN:={c:Cu // gK c.value}
theorem Nu(F:Nat):ma F p_ 98 (fun x:{x:Tkn // aN x.2.2.1} => TS x.1) (fun x=>1+x.1.2.1.length+x.1.2.2.2.1.length):=by
 intro H enc W fuel cs d ps hF h;obtain⟨xs,n,rfl,e1,hl,hn,hf⟩:=DataW.trod_struct Tryz.underlying98 h
 match xs,hn with
 | [y0,y1,y2,y3,y4],_ =>
   have h0:=hf 0 _ rfl;have h1:=hf 1 _ rfl;have h2:=hf 2 _ rfl;have h3:=hf 3 _ rfl;have h4:=hf 4 _ rfl;rw[show p_.cellsOf 98=5 by kernel_rfl]at hl
   match cs,hl with
   | [c0,c1,c2,c3,c4],_ =>
     obtain⟨k,r0,_,_⟩:=lk (F:=n) Tryz.underlying5 (by kernel_rfl) H enc W n _ y0.1 y0.2 (aS _) h0;obtain⟨t,r1,_,z1⟩:=oK (F:=n) Tryz.underlying9 (by kernel_rfl) H enc W n _ y1.1 y1.2 (aS _) h1;obtain⟨⟨m,hm⟩,r2,_,_⟩:=Li (F:=n) Tryz.underlying2 (by kernel_rfl) H enc W n _ y2.1 y2.2 (aS _) h2;obtain⟨u,r3,_,z3⟩:=oK (F:=n) Tryz.underlying9 (by kernel_rfl) H enc W n _ y3.1 y3.2 (aS _) h3;obtain⟨f,r4,_,_⟩:=BI (F:=n) Tryz.underlying4 (by kernel_rfl) H enc W n _ y4.1 y4.2 (aS _) h4;simp only[aaZ]at e1;obtain⟨rfl,_⟩:=e1;have r0:aI [] (old W) W [.v (.int .u8 k)] [c0]:=r0;have r1:aI [] (old W) W [.str t] [c1]:=r1;have r2:aI [] (old W) W [i_ m] [c2]:=r2;have r3:aI [] (old W) W [.str u] [c3]:=r3;have r4:aI [] (old W) W [b_ f] [c4]:=r4;refine⟨⟨(k,t,m,u,f),hm⟩,(((r0.append r1).append r2).append r3).append r4,by rw[show p_.cellsOf 98=5 by kernel_rfl];rfl, ?_⟩;simp only at z1 z3;rw[Rows.uptoBulk];simp only[IF,List.map_nil,Rows.uptoBulkAll];omega
theorem Nv{F:Nat}(hL:ma F p_ 44 (fun l:TA=>[.sl 6 (ar l.1)]) (fun l=>aW l.1+1)):ma (F+1) p_ 100 (fun v:NU=>cQ v.1) (fun v=>zV v.1):=by
 intro H enc W fuel cs d ps hF h;obtain⟨xs,n,rfl,e1,hl,hn,hf⟩:=DataW.trod_struct Tryz.underlying100 h
 match xs,hn with
 | [y0,y1],_ =>
   have h0:=hf 0 _ rfl;have h1:=hf 1 _ rfl;rw[show p_.cellsOf 100=6 by kernel_rfl]at hl
   match cs,hl with
   | [c0,c1,c2,c3,c4,c5],_ =>
     obtain⟨⟨⟨k,t,m,u,f⟩,hm⟩,r0,_,z0⟩:=Nu n H enc W n _ y0.1 y0.2 (aS _) h0;obtain⟨⟨l,hln⟩,r1,_,z1⟩:=hL H enc W n _ y1.1 y1.2 (by omega) h1;simp only[aaZ]at e1;obtain⟨rfl,_⟩:=e1;have r0:aI [] (old W) W (TS (k,t,m,u,f)) [c0,c1,c2,c3,c4]:=r0;have r1:aI [] (old W) W [.sl 6 (ar l)] [c5]:=r1;refine⟨⟨.mk k t m u f l,by rw[nV];exact⟨hm,hln⟩⟩, ?_,by rw[show p_.cellsOf 100=6 by kernel_rfl];rfl, ?_⟩
     ·show aI [] (old W) W (cQ (.mk k t m u f l)) _;rw[cQ];exact r0.append r1
     ·simp only at z0 z1;show zV (.mk k t m u f l)≤_;rw[zV,Rows.uptoBulk];simp only[IF,List.map_nil,Rows.uptoBulkAll];omega
def toVs(l:List NU):TA:=⟨l.map (·.1),mC.2 fun v hv=>by obtain⟨x,_,rfl⟩:=aas.1 hv;exact x.2⟩
theorem toVs_e(l:List NU):ar (toVs l).1=l.map fun v=>cQ v.1:=by unfold toVs;rw[aJ,List.map_map];rfl
theorem toVs_z(l:List NU):aW (toVs l).1=(l.map fun v=>zV v.1).sum:=by unfold toVs;rw[←LH,List.map_map];rfl
theorem Gj:∀F,ma F p_ 100 (fun v:NU=>cQ v.1) (fun v=>zV v.1)
 | 0=>fun H enc W fuel cs d ps hF h=>by
   obtain rfl:fuel=0:=by omega
   simp[DataW.trod]at h
 | F+1=>by
   have a:=si Tryz.underlying44 (by kernel_rfl) (nO (by kernel_rfl)) (Gj F);rw[show p_.cellsOf 100=6 by kernel_rfl]at a;exact Nv (ma.map (g:=toVs) a (fun l=>by rw[toVs_e]) (fun l=>by rw[toVs_z]))
theorem Gi(F:Nat):ma F p_ 44 (fun l:TA=>[.sl 6 (ar l.1)]) (fun l=>aW l.1+1):=by
 have a:=si Tryz.underlying44 (by kernel_rfl) (nO (by kernel_rfl)) (Gj F);rw[show p_.cellsOf 100=6 by kernel_rfl]at a;exact ma.map (g:=toVs) a (fun l=>by rw[toVs_e]) (fun l=>by rw[toVs_z])
theorem P3(F:Nat):ma F p_ 46 (fun x:aD×TA×aD=>[.str x.1,.sl 6 (ar x.2.1.1),.str x.2.2]) (fun x=>x.1.length+aW x.2.1.1+x.2.2.length):=by
 intro H enc W fuel cs d ps hF h;obtain⟨xs,n,rfl,e1,hl,hn,hf⟩:=DataW.trod_struct Tryz.underlying46 h
 match xs,hn with
 | [y0,y1,y2],_ =>
   have h0:=hf 0 _ rfl;have h1:=hf 1 _ rfl;have h2:=hf 2 _ rfl;rw[show p_.cellsOf 46=3 by kernel_rfl]at hl
   match cs,hl with
   | [c0,c1,c2],_ =>
     obtain⟨a,r0,_,z0⟩:=oK (F:=n) Tryz.underlying9 (by kernel_rfl) H enc W n _ y0.1 y0.2 (aS _) h0;obtain⟨⟨l,hln⟩,r1,_,z1⟩:=Gi n H enc W n _ y1.1 y1.2 (aS _) h1;obtain⟨b,r2,_,z2⟩:=oK (F:=n) Tryz.underlying9 (by kernel_rfl) H enc W n _ y2.1 y2.2 (aS _) h2;simp only[aaZ]at e1;obtain⟨rfl,_⟩:=e1;have r0:aI [] (old W) W [.str a] [c0]:=r0;have r1:aI [] (old W) W [.sl 6 (ar l)] [c1]:=r1;have r2:aI [] (old W) W [.str b] [c2]:=r2;refine⟨(a,⟨l,hln⟩,b),(r0.append r1).append r2,by rw[show p_.cellsOf 46=3 by kernel_rfl];rfl, ?_⟩;simp only at z0 z1 z2;rw[Rows.uptoBulk];simp only[IF,List.map_nil,Rows.uptoBulkAll];omega
theorem GC(F:Nat):ma F p_ 50 (fun x:Tu=>dD x.1) (fun x=>Jr x.1+1):=by
 intro H enc W fuel cs d ps hF h;obtain⟨xs,n,rfl,e1,hl,hn,hf⟩:=DataW.trod_struct Tryz.underlying50 h
 match xs,hn with
 | [y0,y1,y2,y3,y4,y5,y6],_ =>
   have h0:=hf 0 _ rfl;have h1:=hf 1 _ rfl;have h2:=hf 2 _ rfl;have h3:=hf 3 _ rfl;have h4:=hf 4 _ rfl;have h5:=hf 5 _ rfl;have h6:=hf 6 _ rfl;rw[show p_.cellsOf 50=11 by kernel_rfl]at hl
   match cs,hl with
   | [c0,c1,c2,c3,c4,c5,c6,c7,c8,c9,c10],_ =>
     obtain⟨⟨na,⟨va,hva⟩,wh⟩,r0,_,z0⟩:=P3 n H enc W n _ y0.1 y0.2 (aS _) h0;obtain⟨im,r1,_,_⟩:=BI (F:=n) Tryz.underlying4 (by kernel_rfl) H enc W n _ y1.1 y1.2 (aS _) h1;obtain⟨og,r2,_,_⟩:=lk (F:=n) Tryz.underlying5 (by kernel_rfl) H enc W n _ y2.1 y2.2 (aS _) h2;obtain⟨at',r3,_,_⟩:=BI (F:=n) Tryz.underlying4 (by kernel_rfl) H enc W n _ y3.1 y3.2 (aS _) h3;obtain⟨la,r4,_,_⟩:=lk (F:=n) Tryz.underlying3 (by kernel_rfl) H enc W n _ y4.1 y4.2 (aS _) h4;obtain⟨⟨w0,w1,w2⟩,r5,_,_⟩:=Nr n H enc W n _ y5.1 y5.2 (aS _) h5;obtain⟨od,r6,_,_⟩:=lk (F:=n) Tryz.underlying3 (by kernel_rfl) H enc W n _ y6.1 y6.2 (aS _) h6;simp only[aaZ]at e1;obtain⟨rfl,_⟩:=e1;have r0:aI [] (old W) W [.str na,.sl 6 (ar va),.str wh] [c0,c1,c2]:=r0;have r1:aI [] (old W) W [b_ im] [c3]:=r1;have r2:aI [] (old W) W [.v (.int .u8 og)] [c4]:=r2;have r3:aI [] (old W) W [b_ at'] [c5]:=r3;have r4:aI [] (old W) W [i_ la] [c6]:=r4;have r5:aI [] (old W) W [i_ w0,i_ w1,i_ w2] [c7,c8,c9]:=r5;have r6:aI [] (old W) W [i_ od] [c10]:=r6;refine⟨⟨⟨na,va,wh,im,og,at',la,w0,w1,w2,od⟩,hva⟩,(((((r0.append r1).append r2).append r3).append r4).append r5).append r6,by rw[show p_.cellsOf 50=11 by kernel_rfl];rfl, ?_⟩;simp only at z0;show Jr _+1≤_;unfold Jr;rw[Rows.uptoBulk];simp only[IF,List.map_nil,Rows.uptoBulkAll];omega
theorem Ns(F:Nat):ma F p_ 22 (fun l:List Tu=>[.sl 11 (cy (l.map (·.1)))]) (fun l=>(l.map fun x=>Jr x.1+1).sum+1):=by
 have a:=si Tryz.underlying22 (by kernel_rfl) (nO (by kernel_rfl)) (GC F);rw[show p_.cellsOf 50=11 by kernel_rfl]at a;refine ma.map (g:=fun l=>l) a (fun l=>?_) fun _=>rfl;unfold cy;rw[List.map_map];rfl
theorem FJ{H:Type}{enc:TypeId×Value→H}{d:DataW H}(hna:∀cs,v≠.agg cs)(hnt:∀cs,v≠.tuple cs)(h:DataW.Trod enc p_ W 0 (fun _=>true) true 22 v d ps)(hb:Rows.uptoBulk d≤1048576):
 ∃l:List Dc,ax [] (old W) W (.sl 11 (cy l)) v∧l.length<2^38∧(∀x∈l,kS x)∧∀x∈l,gK x.value:=by
 obtain⟨fuel,h⟩:=h;obtain⟨l,h2,_,h4⟩:=Ns fuel H enc W fuel _ d ps (aS _) h;have e:v.cells.toList=[v]:=by
  cases v<;>first|rfl|(exact absurd rfl (hna _))|(exact absurd rfl (hnt _))
 rw[e]at h2;have h5:=Jo (f:=fun x:Tu=>Jr x.1+1) (fun _=>by omega) l;simp only at h4;refine⟨l.map (·.1),by simpa using h2,by rw[aai];omega,fun x hx=>?_,fun x hx=>by obtain⟨y,_,rfl⟩:=aas.1 hx;exact y.2⟩;obtain⟨x,hx2,rfl⟩:=aas.1 hx;have h6:=Jp (f:=fun x:Tu=>Jr x.1+1) hx2;simp only[Jr]at h6 h4;exact⟨by omega,by omega,by omega⟩
theorem JQ(F:Nat):ma F p_ 86 (fun x:CuN=>eT x.1) (fun x=>aW x.1.value+1):=by
 intro H enc W fuel cs d ps hF h;obtain⟨xs,n,rfl,e1,hl,hn,hf⟩:=DataW.trod_struct Tryz.underlying86 h
 match xs,hn with
 | [y0,y1],_ =>
   have h0:=hf 0 _ rfl;have h1:=hf 1 _ rfl;rw[show p_.cellsOf 86=2 by kernel_rfl]at hl
   match cs,hl with
   | [c0,c1],_ =>
     obtain⟨nm,r0,_,z0⟩:=oK (F:=n) Tryz.underlying9 (by kernel_rfl) H enc W n _ y0.1 y0.2 (aS _) h0;obtain⟨⟨vs,hvs⟩,r1,_,z1⟩:=Gi n H enc W n _ y1.1 y1.2 (aS _) h1;simp only[aaZ]at e1;obtain⟨rfl,_⟩:=e1;have r0:aI [] (old W) W [.str nm] [c0]:=r0;have r1:aI [] (old W) W [.sl 6 (ar vs)] [c1]:=r1;refine⟨⟨⟨nm,vs⟩,hvs⟩,r0.append r1,by rw[show p_.cellsOf 86=2 by kernel_rfl];rfl, ?_⟩;simp only at z0 z1;show aW vs+1≤_;rw[Rows.uptoBulk];simp only[IF,List.map_nil,Rows.uptoBulkAll];omega
theorem I2(F:Nat):ma F p_ 24 (fun l:{l:List Cu // ∀c∈l,gK c.value} => [.sl 2 (az l.1)]) (fun l=>(l.1.map fun x=>aW x.value+1).sum+1):=by
 have a:=si Tryz.underlying24 (by kernel_rfl) (nO (by kernel_rfl)) (JQ F);rw[show p_.cellsOf 86=2 by kernel_rfl]at a;refine ma.map (g:=fun l=>⟨l.map (·.1),fun c hc=>by obtain⟨x,_,rfl⟩:=aas.1 hc;exact x.2⟩) a (fun l=>?_) fun l=>?_
 ·dsimp only;unfold az;rw[List.map_map];rfl
 ·dsimp only;rw[List.map_map];rfl
theorem Nt(F:Nat):ma F p_ 26 (fun x:{x:Sy // (∀v∈x.aq,aN v.num)∧∀c∈x.bn,gK c.value} => eH x.1) (fun x=>x.1.aq.length+(x.1.bn.map fun x=>aW x.value+1).sum):=by
 intro H enc W fuel cs d ps hF h;obtain⟨xs,n,rfl,e1,hl,hn,hf⟩:=DataW.trod_struct Tryz.underlying26 h
 match xs,hn with
 | [y0,y1],_ =>
   have h0:=hf 0 _ rfl;have h1:=hf 1 _ rfl;rw[show p_.cellsOf 26=2 by kernel_rfl]at hl
   match cs,hl with
   | [c0,c1],_ =>
     obtain⟨l,r0,_,z0⟩:=P2 n H enc W n _ y0.1 y0.2 (aS _) h0;obtain⟨⟨m,hmn⟩,r1,_,z1⟩:=I2 n H enc W n _ y1.1 y1.2 (aS _) h1;simp only[aaZ]at e1;obtain⟨rfl,_⟩:=e1;have r0:aI [] (old W) W [.sl 7 (bQ (l.map (·.1)))] [c0]:=r0;have r1:aI [] (old W) W [.sl 2 (az m)] [c1]:=r1;refine⟨⟨⟨l.map (fun v:{v:Vv // aN v.num} => v.1),m⟩,⟨fun v hv=>by obtain⟨x,_,rfl⟩:=aas.1 hv;exact x.2,hmn⟩⟩,(show aI [] (old W) W ([.sl 7 (bQ (l.map (·.1)))]++[.sl 2 (az m)]) ([c0]++[c1]) from r0.append r1),by rw[show p_.cellsOf 26=2 by kernel_rfl];rfl, ?_⟩;simp only at z0 z1;show (l.map (·.1)).length+(m.map fun x=>aW x.value+1).sum≤_;rw[aai];rw[Rows.uptoBulk];simp only[IF,List.map_nil,Rows.uptoBulkAll];omega
theorem Gq{H:Type}{enc:TypeId×Value→H}{d:DataW H}(hv:∃cs,v=.agg cs)(h:DataW.Trod enc p_ W 0 (fun _=>true) true 26 v d ps)(hb:Rows.uptoBulk d≤1048576):
 ∃x:Sy,ax [] (old W) W (.agg (eH x)) v∧u6 x∧x.aq.length<2^40∧∀c∈x.bn,gK c.value:=by
 obtain⟨cs,rfl⟩:=hv;obtain⟨fuel,h⟩:=h;obtain⟨⟨x,hx⟩,h2,_,h4⟩:=Nt fuel H enc W fuel _ d ps (aS _) h;simp only at h2 h4;have h5:=LF (f:=fun x:Cu=>aW x.value+1) (fun _=>by omega) x.bn;refine⟨x, ?_,⟨hx.1,by omega,fun c hc=>?_⟩,by omega,hx.2⟩
 ·rw[ax];exact⟨cs.toList,by simp,h2⟩
 ·have:=LG (f:=fun x:Cu=>aW x.value+1) hc;omega
end
section
open Go Go.Aw Go.dz Go.jC
theorem Tm{P:Program}{f:FuncId}{e sz:Nat}{x a b r:AV}{rows:List (List AV)}{h:aa}{K:AV→aa→Prop}(hb:cd P f=true)(g:qC e sz x h rows)(pa:Aw.Pure a)(pb:Aw.Pure b)(c:aP P f [.sl sz rows,a,b] r)(k:K r h):eJ P (.fn (.func f) [] []) [x,a,b] h K:=by
 rcases g with⟨rfl,rfl⟩|⟨_,id,rfl,_⟩
 ·exact zzS hb (c.arg (.cons (.nil sz) (.cons (.refl _) (.cons (.refl _) .nil))) (by simp[bf,Aw.Pure,pa,pb])) k
 ·exact Ii (args':=[.sl sz rows,a,b]) hb c ⟨⟨rfl,rfl⟩,Le.refl _,Le.refl _,trivial⟩ k
theorem WI{P:Program}{fS:FuncId}(bS:cd P fS=true){s:Sy}(hl:s.aq.length<2^40)(cS:aP P fS [.sl 2 (az s.bn),.sl 2 (az s.bn)] tt):
 br 26 (.agg (eH s)) [] fun v1 g2=>br 26 (.agg (eH s)) g2 fun v3 g4=>bh 0 v1 fun v5=>ag false 1 v5 g4 fun v6=>bu v6 fun v7=>bh 0 v3 fun v8=>ag false 1 v8 g4 fun v9=>bu v9 fun v10=>ab .neq v7 v10 fun v11=>aB (fun J12=>au v11 false (bh 1 v1 fun v13=>ag false 1 v13 g4 fun v14=>bh 1 v3 fun v15=>ag false 1 v15 g4 fun v16=>eJ P (.fn (.func fS) [] []) [v14,v16] g4 fun v17 g18=>fe v17 fun v19=>[v1,v3]=[v1,v3]∧J12 [ff,v19] g18) ([v1,v3]=[v1,v3]∧J12 [(aQ false v11),un] g4)) fun s20 g21=>aH (nx s20 0) tt (nx s20 1) fun v22=>ae v22 (fg tt ff g21) (bJ [(i_ 0)] g21 fun N23 s24 g25 =>
  bh 0 v1 fun v26=>ag false 1 v26 g25 fun v27=>bu v27 fun v28=>ab .lss (nx s24 0) v28 fun v29=>ae v29 (bh 0 v1 fun v30=>ag false 1 v30 g25 fun v31=>aG 7 v31 (nx s24 0) fun v32=>ag true 7 v32 g25 fun v33=>bh 0 v3 fun v34=>ag false 1 v34 g25 fun v35=>aG 7 v35 (nx s24 0) fun v36=>ag true 7 v36 g25 fun v37=>lQ true [1,2,1,1,1,1,1] v33 v37 fun v38=>ae v38 (fg tt ff g25) (ab .add (nx s24 0) (i_ 1) fun v39=>[v1,v3]=[v1,v3]∧N23 [v39] g25)) (fg tt tt g25)):=by
 obtain⟨aq,cus⟩:=s;dsimp only at hl cS ⊢;have el:(bQ aq).length=aq.length:=by simp[bQ]
 refine cI (cs:=[.sl 7 (bQ aq),.sl 2 (az cus)]) (n:=0) (h':=[dR (.sl 7 (bQ aq)) (.sl 2 (az cus))]) rfl rfl rfl rfl (cI (cs:=[.sl 7 (bQ aq),.sl 2 (az cus)]) (n:=1) (h':=[dR (.sl 7 (bQ aq)) (.sl 2 (az cus)),dR (.sl 7 (bQ aq)) (.sl 2 (az cus))]) rfl rfl rfl rfl (zzA (zzU rfl rfl ?_)));refine zzk (n:=aq.length) el fun _=>?_;refine zzA (zzU rfl rfl ?_);refine zzk (n:=aq.length) el fun _=>?_;refine zzH (ay (zzN (by simp) (zzA (zzU rfl rfl (zzA (zzU rfl rfl (zzS bS cS (zzO (af (zzQ (zzK rfl (aU (α:=Nat) (fun k=>k≤aq.length) (fun k=>[i_ k]) (fun _=>[dR (.sl 7 (bQ aq)) (.sl 2 (az cus)),dR (.sl 7 (bQ aq)) (.sl 2 (az cus))]) (fun k=>aq.length-k) 0 (acr _) (Wk.refl _ _ _ (by simp)) ?_))))))))))));intro k hk;refine zzA (zzU rfl rfl ?_);refine zzk (n:=aq.length) el fun _=>?_;refine zzC ?_;rcases AT k aq.length with q|q
 ·obtain⟨v,hv⟩:∃x,aq[k]?=some x:=⟨_,dO q⟩;refine zzL (tO (by omega)) (zzA (zzU rfl rfl (zzg (f:=bL) rfl (n:=k) rfl hv (zzY rfl (zzA (zzU rfl rfl (zzg (f:=bL) rfl (n:=k) rfl hv (zzY rfl (p9 rfl rfl (CE v) (zzK rfl (zzP (by unfold aN;omega) (af ?_))))))))))));exact⟨k+1,q,Wk.refl _ _ _ (by simp),by omega⟩
 ·refine zzK (oN (by omega)) ?_;exact .pure (by simp) rfl
end
section
open Go Go.Aw Go.dz Go.jC
theorem rnm{k:Nat}{p q:Rw}(hp:jl[k]?=some p)(hq:uX[k]?=some q):q.name=p.name:=by
 have t:((List.range 18).all fun i=>decide ((uX.map Rw.name)[i]?=(jl.map Rw.name)[i]?))=true:=by decide +kernel
 have hk:k<18:=by have:=(gE.1 hp).1;rw[mE]at this;exact this
 have:=uP (By.1 t k (ID.2 hk));rw[lE,lE,hp,hq]at this;simpa using this
end
section
open Go Go.Aw
variable [Laid]
def W3(x0 x1 x2 x3:AV)(h:aa)(K:AV→aa→Prop):Prop:=
 br 26 x1 h fun b c6=>iC p_ 5 [] c6 fun c o=>ag true 2 b o fun c7=>iC p_ 6 [x0,c7,x2] o fun c8 p=>fe c8 fun q=>aB (fun r=>au q false (ab .lss x3 (i_ 0) fun c9=>eC [x0,x2,x3,b,c] (r [ff,c9] p)) (eC [x0,x2,x3,b,c] (r [(aQ false q),un] p))) fun s t=>aH (nx s 0) tt (nx s 1) fun u=>aB (fun v=>au u false (ab .geq x3 (i_ 18) fun d0=>eC [x0,x2,x3,b,c] (v [ff,d0] t)) (eC [x0,x2,x3,b,c] (v [(aQ false u),un] t))) fun w x=>aH (nx w 0) tt (nx w 1) fun y=>aB (fun z=>au y false (fe c fun d1=>eC [x0,x2,x3,b,c] (z [ff,d1] x)) (eC [x0,x2,x3,b,c] (z [(aQ false y),un] x))) fun A k=>aH (nx A 0) tt (nx A 1) fun d2=>ae d2 (K c k) (ag true 2 b k fun d3=>iC p_ 7 [x0,d3,x2] k fun B d4=>aK 0 B fun d5=>aK 1 B fun d6=>br 26 (.agg [nS,nS]) d4 fun d d7=>aE 2 d d5 d7 fun l=>ab .neq d6 (i_ 0) fun C=>aB (fun D=>au C false (ag true 2 d l fun d8=>iC p_ 8 [d8] l fun d9 e0=>ab .neq d9 (i_ 0) fun e1=>eC [x0,x2,x3,b,c,d] (D [ff,e1] e0)) (eC [x0,x2,x3,b,c,d] (D [(aQ false C),un] l))) fun E m=>aH (nx E 0) tt (nx E 1) fun F=>aB (fun G=>au F false (ag true 2 d m fun e2=>iC p_ 9 [e2] m fun e3 e4=>ab .neq e3 (i_ 0) fun e5=>eC [x0,x2,x3,b,c,d] (G [ff,e5] e4)) (eC [x0,x2,x3,b,c,d] (G [(aQ false F),un] m))) fun H I=>aH (nx H 0) tt (nx H 1) fun e6=>ae e6 (K ff I) (iC p_ 10 [] I fun e7 J=>aG 12 e7 x3 fun e8=>iFL 0 false 1 e8 J fun f=>bJ [nS,(i_ 0)] J fun e9 e g =>
 bu x0 fun f0=>ab .lss (nx e 1) f0 fun f1=>ae f1 (aB (fun L=>aG 11 x0 (nx e 1) fun f2=>bh 0 f2 fun f3=>iFL 0 false 1 f3 g fun i=>ab .eql i f fun M=>aB (fun N=>au M false (ab .eql i (.str [102,111,110,116,45,115,105,122,101]) fun f4=>eC [x0,x2,x3,b,c,d,f,(nx e 0),(nx e 1),i] (N [ff,f4] g)) (eC [x0,x2,x3,b,c,d,f,(nx e 0),(nx e 1),i] (N [(aQ false M),un] g))) fun O P=>aH (nx O 0) tt (nx O 1) fun Q=>aB (fun R=>au Q false (iC p_ 11 [i] P fun f5 f6=>eC [x0,x2,x3,b,c,d,f,(nx e 0),(nx e 1)] (R [ff,f5] f6)) (eC [x0,x2,x3,b,c,d,f,(nx e 0),(nx e 1)] (R [(aQ false Q),un] P))) fun S n=>aH (nx S 0) tt (nx S 1) fun f7=>ae f7 (aG 11 x0 (nx e 1) fun f8=>ag true 11 f8 n fun f9=>bH 1 11 (.agg [(.str []),nS,(.str []),ff,(u8 0),ff,(i_ 0),(i_ 0),(i_ 0),(i_ 0),(i_ 0)]) [(0,11,f9)] fun g0=>eE false 50 11 104 (nx e 0) g0 n fun g1 g2=>eC [x0,x2,x3,b,c,d,f,(nx e 1)] (L [g1] g2)) (eC [x0,x2,x3,b,c,d,f,(nx e 1)] (L [(nx e 0)] n))) fun g3 g4=>ab .add (nx e 1) (i_ 1) fun g5=>eC [x0,x2,x3,b,c,d,f] (e9 [(nx g3 0),g5] g4)) (ag true 2 b g fun g6=>iC p_ 7 [(nx e 0),g6,x2] g fun T g7=>aK 0 T fun g8=>aK 1 T fun U=>br 26 (.agg [nS,nS]) g7 fun j g9=>aE 2 j g8 g9 fun V=>ag true 2 b V fun i0=>iC p_ 7 [x0,i0,x2] V fun W i1=>aK 0 W fun i2=>aK 1 W fun X=>br 26 (.agg [nS,nS]) i1 fun Y i3=>aE 2 Y i2 i3 fun a=>aB (fun Z=>au c true (ab .eql U (i_ 0) fun i4=>Z [U,i4] a) (Z [un,un] a)) fun i5 _=>aH c (nx i5 1) ff fun a0=>aB (fun a1=>au a0 true (ag true 2 j a fun a2=>iQ p_ 9 [a2] a fun a3=>ab .eql a3 (i_ 0) fun i6=>a1 [a2,a3,i6] a) (a1 [un,un,un] a)) fun i7 _=>aH a0 (nx i7 2) ff fun a4=>aB (fun a5=>au a4 true (bh 0 j fun a6=>ag false 1 a6 a fun a7=>aG 7 a7 x3 fun a8=>ag true 7 a8 a fun a9=>bh 0 d fun b0=>ag false 1 b0 a fun b1=>aG 7 b1 x3 fun b2=>ag true 7 b2 a fun b3=>lQ false [1,2,1,1,1,1,1] a9 b3 fun i8=>a5 [a6,a7,x3,a8,a9,b0,b1,x3,b2,b3,i8] a) (a5 [un,un,un,un,un,un,un,un,un,un,un] a)) fun i9 _=>aH a4 (nx i9 10) ff fun b4=>aB (fun b5=>au b4 true (bh 1 j fun b6=>ag false 1 b6 a fun b7=>bh 1 d fun b8=>ag false 1 b8 a fun b9=>iQ p_ 12 [b7,b9] a fun j0=>b5 [b6,b7,b8,b9,j0] a) (b5 [un,un,un,un,un] a)) fun j1 _=>aH b4 (nx j1 4) ff fun c0=>aB (fun c1=>au c0 true (ab .eql X (i_ 0) fun j2=>c1 [X,j2] a) (c1 [un,un] a)) fun j3 _=>aH c0 (nx j3 1) ff fun c2=>aB (fun c3=>au c2 true (ag true 2 Y a fun c4=>ag true 2 d a fun c5=>iQ p_ 13 [c4,c5] a fun j4=>c3 [c4,c5,j4] a) (c3 [un,un,un] a)) fun j5 _=>aH c2 (nx j5 2) ff fun j6=>K j6 a)))
theorem V3(x0 x1 x2 x3:AV):cp p_ 3 [x0,x1,x2,x3] (W3 x0 x1 x2 x3):=mkM Tryz.func3 (sn (sn (.seq (.seq (.bz (oR 0 6 (.bj 5 false (fR 6 2) [0,2,3,5,9] [26,28]::oR 8 2 (.bj 9 false (fR 10 2) [0,2,3,5,9] [30,32]::oR 12 2 (.bj 13 false (fR 14 2) [0,2,3,5,9] [34,36]::.op 16 false::[]))))) .nil) (sn (.seq (.seq (.bz (oR 0 3 (.bj 2 false (fR 3 3) [0,2,3,5,9,10] [48,51]::oR 6 2 (.bj 7 false (fR 8 3) [0,2,3,5,9,10] [53,56]::.op 11 false::[])))) .nil) (sn (sn (.seq (sn (.one (.loop [0,2,3,5,9,10,12] [13,14] (sn (.join [0,2,3,5,9,10,12,14] [13] (.one (sn (.seq (.bz (oR 0 4 (.bj 3 false (fR 4 2) [0,2,3,5,9,10,12,13,14,15] [78,80]::oR 6 2 (.bj 7 false (fR 8 2) [0,2,3,5,9,10,12,13,14] [82,84]::.op 10 false::[])))) (.two (.bz (oR 0 5 (.op 5 true::oR 6 2 []))) .nil)))) .nil))))) (sn (sn (.seq (.draw 40 (oR 0 2 (.bj 1 true (fR 2 2) [] [109,110]::oR 4 2 (.bj 5 true (fR 6 3) [] [113,114,115]::oR 9 2 (.bj 10 true (fR 11 11) [] [118,119,120,121,122,123,124,125,126,127,128]::oR 22 2 (.bj 23 true (fR 24 5) [] [131,132,133,134,135]::oR 29 2 (.bj 30 true (fR 31 2) [] [138,139]::oR 33 2 (.bj 34 true (fR 35 3) [] [142,143,144]::oR 38 2 []))))))) [] []) .nil))))))))))) 146 [.tmp 8] (by kernel_rfl) fun _ _=>by kernel_rfl
def W13(x0 x1:AV)(h:aa)(K:AV→aa→Prop):Prop:=
 br 26 x0 h fun b k=>br 26 x1 k fun c d=>iFL 0 false 1 b d fun l=>bu l fun m=>iFL 0 false 1 c d fun n=>bu n fun o=>ab .neq m o fun f=>aB (fun g=>au f false (iFL 1 false 1 b d fun p=>iFL 1 false 1 c d fun q=>iC p_ 12 [p,q] d fun r s=>fe r fun t=>eC [b,c] (g [ff,t] s)) (eC [b,c] (g [(aQ false f),un] d))) fun i j=>aH (nx i 0) tt (nx i 1) fun u=>ae u (K ff j) (bJ [(i_ 0)] j fun v e a =>
 iFL 0 false 1 b a fun w=>bu w fun x=>ab .lss (nx e 0) x fun y=>ae y (iFL 0 false 1 b a fun z=>aG 7 z (nx e 0) fun A=>ag true 7 A a fun B=>iFL 0 false 1 c a fun C=>aG 7 C (nx e 0) fun D=>ag true 7 D a fun E=>lQ true [1,2,1,1,1,1,1] B E fun F=>ae F (K ff a) (ab .add (nx e 0) (i_ 1) fun G=>eC [b,c] (v [G] a))) (K tt a))
theorem V13(x0 x1:AV):cp p_ 13 [x0,x1] (W13 x0 x1):=mkM Tryz.func13 (sn (.seq (.seq (.bz (oR 0 8 (.bj 7 false (fR 8 6) [2,3] [13,19]::.op 14 false::[]))) .nil) (.seq (sn (.one (.loop [2,3] [5] (sn (.seq (.one (.seq (.draw 11 (oR 0 11 []) [] []) .nil)) .nil))))) .nil))) 39 [.tmp 4] (by kernel_rfl) fun _ _=>by kernel_rfl
end
section
open Go Go.Aw Go.dz Go.jC
def G6:aD:=[102,111,110,116,45,115,105,122,101]
def jq(name:aD):aD→Bool:=fun t=>decide (t=name)||(decide (t=G6)||db t)
theorem R7{e sz bytes:Nat}{x:AV}{H:aa}{rows:List (List AV)}(g:qC e sz x H rows){r:List AV}(hr:([r].all (gh sz))=true)(hb:bytes≤1000)(hl:rows.length<2^20){K:AV→aa→Prop}(q:∀x' H',qC e sz x' H' (rows++[r])→H.length≤H'.length→(∀(j:Nat) (b:nJ),H[j]?=some (.aC b)→H'[j]?=some (.aC b))→K x' H'):eE false e sz bytes x (.sl sz [r]) H K:=by
 have room:∀k,k≤2^20→dU bytes k:=fun k hk=>by
  unfold dU maxLen;have:k*bytes≤2^20*1000:=Nat.mul_le_mul hk hb;omega
 rcases g with⟨rfl,rfl⟩|⟨g,id,rfl,h⟩
 ·refine ze (n:=H.length) (k:=1) (rows:=[r]) (h':=H++[.tok e sz 1]) rfl fw hr rfl (room 1 (by omega)) rfl rfl ?_;exact q _ _ (.inr ⟨by simp,H.length,rfl,by simp⟩) (by simp) fun j b hj=>by rw[iD (gE.1 hj).1];exact hj
 ·have hid:=(gE.1 h).1;refine kP (id:=id) (k:=rows.length) (base:=rows) (rows:=[r]) (h':=H.set id (.tok e sz (rows.length+1))) rfl h rfl fw hr (room _ (by simp;omega)) rfl ?_;refine q _ _ (.inr ⟨by simp,id,rfl,by rw[iN hid];simp⟩) (by simp) fun j b hj=>?_
  by_cases ej:id=j
  ·subst ej;rw[h]at hj;cases hj
  ·rw[iS ej];exact hj
theorem VK{N:aD→Bool}{l:List Dc}{k:Nat}{d:Dc}(h:l[k]?=some d):fh N (l.take (k+1))=fh N (l.take k)++(if N d.name=true then [d] else []):=by
 unfold fh;rw[Gt,h,acD];cases q:N d.name<;>simp[q]
structure LcF(P:Program)(fA fF fS fC fR fT fU fE fW:FuncId):Prop where
 bA:cd P fA=true
 bF:cd P fF=true
 bS:cd P fS=true
 bC:cd P fC=true
 bR:cd P fR=true
 bT:cd P fT=true
 bU:cd P fU=true
 bE:cd P fE=true
 bW:cd P fW=true
 cA:aP P fA [] tt
 cT:aP P fT [] (.sl 12 xH)
 cU:∀s,aP P fU [.str s] (b_ (db s))
theorem Wf(f:LcF p_ 5 6 7 8 9 10 11 12 13){s:Sy}{l:List Dc}{root pr:Int}(hll:l.length<2^38)
 (cF:aP p_ 6 [.sl 11 (cy l),.agg (eH s),i_ root] (b_ (jy l s root)))
 (cS:jy l s root=true→aP p_ 7 [.sl 11 (cy l),.agg (eH s),i_ root] (.aF [.agg (eH (je l s root)),i_ 0]))
 (cS2:jy l s root=true→∀N:aD→Bool,(∀t,db t=true→N t=true)→aP p_ 7 [.sl 11 (cy (fh N l)),.agg (eH s),i_ root] (.aF [.agg (eH (je (fh N l) s root)),i_ 0]))
 (cC:jy l s root=true→aP p_ 8 [.agg (eH (je l s root))] (i_ 0)) (cR:jy l s root=true→aP p_ 9 [.agg (eH (je l s root))] (i_ 0))
 (cR2:jy l s root=true→∀N:aD→Bool,aP p_ 9 [.agg (eH (je (fh N l) s root))] (i_ 0))
 (cE:jy l s root=true→aP p_ 12 [.sl 2 (az (je l s root).bn),.sl 2 (az (je l s root).bn)] tt)
 (cW:jy l s root=true→aP p_ 13 [.agg (eH (je l s root)),.agg (eH (je l s root))] tt)
 (law:jy l s root=true→∀(N:aD→Bool) (k:Nat),(∀t,db t=true→N t=true)→(∀p,jl[12]?=some p→N p.name=true)→(∀p,jl[k]?=some p→N p.name=true)→(je (fh N l) s root).bn=(je l s root).bn∧(je (fh N l) s root).aq[k]?=(je l s root).aq[k]?) :
 W3 (.sl 11 (cy l)) (.agg (eH s)) (i_ root) (i_ pr) [] (fg tt):=by
 unfold W3;obtain⟨aq,cus⟩:=s;obtain⟨S,hS⟩:∃S,dR (.sl 7 (bQ aq)) (.sl 2 (az cus))=S:=⟨_,rfl⟩;refine cI (cs:=[.sl 7 (bQ aq),.sl 2 (az cus)]) (n:=0) (h':=[S]) rfl rfl rfl (by rw[←hS];rfl) ?_;have g0:∀t:aa,(S:: t)[0]?=some (dR (.sl 7 (bQ aq)) (.sl 2 (az cus))):=fun t=>by rw[hS];rfl
 refine zzS f.bA f.cA (zzV (id:=0) (g0 _) (aS 2) (zzS f.bF cF (zzO (ay ?_))));cases hf:jy l ⟨aq,cus⟩ root with
 | false =>
   refine zzM rfl (af (zzR (ay (zzM rfl (af (zzR (ay (zzM rfl (af (zzR (zzL rfl ?_)))))))))));exact .pure (by simp) rfl
 | true =>
 refine zzN rfl (zzC (af (zzQ (ay ?_))))
 by_cases p0:pr<0
 ·refine zzM (tO p0) (af (zzR (ay (zzM rfl (af (zzR (zzL rfl ?_)))))));exact .pure (by simp) rfl
 refine zzN (oN p0) (zzF (af (zzQ (ay ?_))))
 by_cases p1:18≤pr
 ·refine zzM (tO p1) (af (zzR (zzL rfl ?_)));exact .pure (by simp) rfl
 refine zzN (oN p1) (zzO (af (zzQ (zzK rfl ?_))));have cS:=cS hf;have cS2:=cS2 hf;have cC:=cC hf;have cR:=cR hf;have cR2:=cR2 hf;have cE:=cE hf;have cW:=cW hf;have law:=law hf;obtain⟨k,rfl⟩:∃k:Nat,pr=k:=⟨pr.toNat,by omega⟩;obtain⟨t,ht⟩:∃t,je l ⟨aq,cus⟩ root=t:=⟨_,rfl⟩;have htv:∃v,t.aq[k]?=some v:=⟨_,by rw[←ht];exact Ac (by omega)⟩;rw[ht]at cS cC cR cE cW law;obtain⟨v,hv⟩:=htv;obtain⟨T,hT⟩:∃T,dR (.sl 7 (bQ t.aq)) (.sl 2 (az t.bn))=T:=⟨_,rfl⟩;have g1:∀u:aa,(S:: T:: u)[1]?=some (dR (.sl 7 (bQ t.aq)) (.sl 2 (az t.bn))):=fun u=>by rw[hT];rfl
 refine zzV (id:=0) (g0 _) (aS 2) (zzS f.bS cS (zzB rfl (zzB rfl (cI (cs:=[bw,bw]) (n:=1) (h':=[S,dR bw bw]) rfl rfl rfl rfl (cf (id:=1) (cs:=[.sl 7 (bQ t.aq),.sl 2 (az t.bn)]) (b:=⟨26,[bw,bw],true⟩) (h':=[S,T]) rfl rfl rfl rfl (aS 2) rfl rfl (by rw[←hT];rfl) (zzH (ay (zzN rfl (zzV (id:=1) (g1 _) (aS 2) (zzS f.bC cC (zzH (af (zzQ ?_)))))))))))));refine ay (zzN rfl (zzV (id:=1) (g1 _) (aS 2) (zzS f.bR cR (zzH (af (zzQ (zzK rfl (zzS f.bT f.cT ?_))))))));obtain⟨q,hq⟩:∃q,uX[k]?=some q:=⟨_,dO (by rw[z7];omega)⟩;obtain⟨p,hp⟩:=vX (i:=k) (by omega);have hnm:=rnm hp hq;refine zzg (f:=mh) Fi rfl hq (zzX (zzW (c:=.str q.name) ?_));rw[hnm];have hN:∀z,db z=true→jq p.name z=true:=fun z hz=>by unfold jq;rw[hz];simp
 refine aU (α:=Nat×AV×aa) (fun x=>x.1≤l.length∧qC 50 11 x.2.1 x.2.2 (cy (fh (jq p.name) (l.take x.1)))∧x.2.2[0]?=some (dR (.sl 7 (bQ aq)) (.sl 2 (az cus)))∧x.2.2[1]?=some (dR (.sl 7 (bQ t.aq)) (.sl 2 (az t.bn)))) (fun x=>[x.2.1,i_ x.1]) (fun x=>x.2.2) (fun x=>l.length-x.1) (0,bw,[S,T]) ⟨acr _,.inl ⟨rfl,rfl⟩,by rw[hS];rfl,by rw[hT];rfl⟩ (Wk.refl _ _ _ (aS _)) ?_;rintro⟨i,x,H⟩ ⟨hi,g,k0,k1⟩;dsimp only at hi g k0 k1 ⊢;have hH2:2≤H.length:=(gE.1 k1).1;refine zzk (n:=l.length) (by simp[cy]) fun _=>?_;refine zzC ?_;have fl:(cy (fh (jq p.name) (l.take i))).length≤l.length:=by
  unfold cy fh;rw[aai];exact acx (List.length_filter_le _ _) (by rw[aaW];omega)
 have h40:l.length≤40:=(uJ (jz hf).1).1;rcases AT i l.length with ql|ql
 ·obtain⟨d,hx⟩:∃d,l[i]?=some d:=⟨_,dO ql⟩;have hsn:=VK (N:=jq p.name) hx;refine zzL (tO (by omega)) ?_;refine gF (fun s G=>∃x',s=[x']∧qC 50 11 x' G (cy (fh (jq p.name) (l.take (i+1))))∧H.length≤G.length∧∀(j:Nat) (b:nJ),H[j]?=some (.aC b)→G[j]?=some (.aC b)) ?_ fun F hF=>?_
  ·rintro _ G ⟨x',rfl,g',hG,hk⟩;refine zzP (by unfold aN;omega) (af ?_);exact⟨(i+1,x',G),⟨ql,g',hk 0 _ k0,hk 1 _ k1⟩,Wk.refl _ _ _ (by show 2≤_;omega),by dsimp only;omega⟩
  have app:∀K:AV→aa→Prop,jq p.name d.name=true→(∀x' G,qC 50 11 x' G (cy (fh (jq p.name) (l.take (i+1))))→H.length≤G.length→(∀(j:Nat) (b:nJ),H[j]?=some (.aC b)→G[j]?=some (.aC b))→K x' G)→aG 11 (.sl 11 (cy l)) (i_ i) fun v76=>ag true 11 v76 H fun v77=>bH 1 11 (.agg [(.str []),(.v (.slice none 0 0)),(.str []),ff,(u8 0),ff,(i_ 0),(i_ 0),(i_ 0),(i_ 0),(i_ 0)]) [(0,11,v77)] fun v78=>eE false 50 11 104 x v78 H K:=fun K hk kk=>by
   refine zzg (f:=dD) rfl (n:=i) rfl hx (zzY (by simp[dD]) (cN (cs:=dD d) rfl ?_));refine R7 g rfl (by omega) (by omega) fun x' G g' hG hj=>?_;refine kk x' G ?_ hG hj;rw[hsn,if_pos hk];unfold cy at g' ⊢;rw[List.map_append];exact g'
  have no:jq p.name d.name=false→qC 50 11 x H (cy (fh (jq p.name) (l.take (i+1)))):=fun hk=>by
   rw[hsn,if_neg (by rw[hk];decide),aa1];exact g
  refine zzg (f:=dD) rfl (n:=i) rfl hx (zzX (zzX (zzW (c:=.str d.name) (zzI (ay ?_)))))
  by_cases e1:d.name=p.name
  ·have hk:jq p.name d.name=true:=by unfold jq;rw[tO e1];rfl
   refine zzM (tO e1) (af (aO (by rw[tO e1];rfl) (ay (zzM rfl (af (zzR (zzL rfl ?_)))))));refine app _ hk fun x' G g' hG hj=>?_;refine af ?_;exact hF _ _ ⟨x',rfl,g',hG,hj⟩
  refine zzN (oN e1) (zzI (af (zzQ (ay ?_))))
  by_cases e2:d.name=G6
  ·have hk:jq p.name d.name=true:=by unfold jq;rw[tO e2];simp
   refine zzM (tO e2) (af (aO (by rw[show decide (d.name=[102,111,110,116,45,115,105,122,101])=true from tO e2];rfl) (zzL rfl ?_)));refine app _ hk fun x' G g' hG hj=>?_;refine af ?_;exact hF _ _ ⟨x',rfl,g',hG,hj⟩
  refine zzN (oN e2) (zzS f.bU (f.cU d.name) (af (zzQ ?_)));have hkk:jq p.name d.name=db d.name:=by unfold jq;rw[oN e1,oN e2];rfl
  cases hc:db d.name with
  | true =>
    refine zzL rfl ?_;refine app _ (by rw[hkk,hc]) fun x' G g' hG hj=>?_;refine af ?_;exact hF _ _ ⟨x',rfl,g',hG,hj⟩
  | false =>
    refine zzK rfl (af ?_);exact hF _ _ ⟨x,rfl,no (by rw[hkk,hc]),aS _,fun _ _ h=>h⟩
 ·obtain rfl:i=l.length:=by omega
  rw[GO]at g;refine zzK (by simp) ?_;obtain⟨w,hw⟩:∃w,je (fh (jq p.name) l) ⟨aq,cus⟩ root=w:=⟨_,rfl⟩;have cS3:=cS2 (jq p.name) hN;have cR3:=cR2 (jq p.name);have lw:=law (jq p.name) k hN (fun p12 h12=>by
   have e:p12.name=G6:=by
    have t:(jl.map Rw.name)[12]?=some G6:=by decide +kernel
    rw[lE,h12]at t;simpa using t
   unfold jq;rw[tO e];simp) (fun p' hp' => by rw[hp]at hp';cases hp';unfold jq;simp)
  rw[hw]at cS3 cR3 lw;obtain⟨l1,l2⟩:=lw;have hwv:w.aq[k]?=some v:=l2.trans hv;have a0:∀u:aa,(H++u)[0]?=some (dR (.sl 7 (bQ aq)) (.sl 2 (az cus))):=fun u=>by rw[iD (by omega)];exact k0
  have a1:∀u:aa,(H++u)[1]?=some (dR (.sl 7 (bQ t.aq)) (.sl 2 (az t.bn))):=fun u=>by rw[iD (by omega)];exact k1
  refine zzV (id:=0) k0 (aS 2) (Tm f.bS g (by rw[Aw.Pure];exact kn ⟨aq,cus⟩) (by simp) cS3 (zzB rfl (zzB rfl (cI (cs:=[bw,bw]) (n:=H.length) (h':=H++[dR bw bw]) rfl rfl rfl rfl (cf (id:=H.length) (cs:=[.sl 7 (bQ w.aq),.sl 2 (az w.bn)]) (b:=⟨26,[bw,bw],true⟩) (h':=H++[dR (.sl 7 (bQ w.aq)) (.sl 2 (az w.bn))]) rfl (by simp) rfl rfl (aS 2) rfl rfl (by simp[dw]) (zzV (id:=0) (a0 _) (aS 2) (zzS f.bS cS (zzB rfl (zzB rfl (cI (cs:=[bw,bw]) (n:=H.length+1) (h':=H++[dR (.sl 7 (bQ w.aq)) (.sl 2 (az w.bn)),dR bw bw]) rfl rfl (by simp) (by simp) ?_))))))))));refine cf (id:=H.length+1) (cs:=[.sl 7 (bQ t.aq),.sl 2 (az t.bn)]) (b:=⟨26,[bw,bw],true⟩) (h':=H++[dR (.sl 7 (bQ w.aq)) (.sl 2 (az w.bn)),dR (.sl 7 (bQ t.aq)) (.sl 2 (az t.bn))]) rfl (by rw[iF (by omega)];simp) rfl rfl (aS 2) rfl rfl (by rw[Lt _ _ (by omega)];simp[dw]) ?_;have aw:(H++[dR (.sl 7 (bQ w.aq)) (.sl 2 (az w.bn)),dR (.sl 7 (bQ t.aq)) (.sl 2 (az t.bn))])[H.length]?=some (dR (.sl 7 (bQ w.aq)) (.sl 2 (az w.bn))):=by simp
  have at':(H++[dR (.sl 7 (bQ w.aq)) (.sl 2 (az w.bn)),dR (.sl 7 (bQ t.aq)) (.sl 2 (az t.bn))])[H.length+1]?=some (dR (.sl 7 (bQ t.aq)) (.sl 2 (az t.bn))):=by rw[iF (by omega)];simp
  refine ay (zzN rfl (zzG (zzR (ay (zzN rfl (zzV (id:=H.length) aw (aS 2) (zzT f.bR cR3 (zzG (zzR (ay (zzN rfl (zzA (zzU aw rfl ?_)))))))))))));refine zzg (f:=bL) rfl (n:=k) rfl hwv (zzY rfl (zzA (zzU (a1 _) rfl (zzg (f:=bL) rfl (n:=k) rfl hv (zzY rfl (p9 rfl rfl (CE v) (zzR (ay (zzN rfl (zzA (zzU aw rfl (zzA (zzU (a1 _) rfl ?_)))))))))))));refine ig (by rw[l1]) f.bE cE (zzR (ay (zzN rfl (zzG (zzR (ay (zzN rfl ?_)))))));refine zzV (id:=H.length+1) at' (aS 2) ?_;refine zzV (id:=1) (a1 _) (aS 2) (zzT f.bW cW (zzR ?_));exact .pure (by simp) rfl
end
section
open Go Go.Aw Go.RowKit
variable{args:List AV}{P:Program}
abbrev nK:=List (Nat×List AV×AV)
def yp(xs ys:List AV):Bool:=ke (.aF xs) (.aF ys)
def mB[Laid](P:Program)(C:yf)(known:aZ)(l:nK):Bool:=qc (fun p=>match cd P p.1,jJ p.2.1,jJ [p.2.2],sN P C known 80 p.1 p.2.1 [] with|true,true,true,some (r,none)=>ke r p.2.2|_,_,_,_=>false) l
def G4(l:nK)(f:Nat)(args:List AV):Option AV:=List.rec (motive:=fun _=>Option AV) none (fun p _ ih=>match Nat.beq p.1 f with|true=>(match yp p.2.1 args with|true=>some p.2.2|false=>ih)|false=>ih) l
def pz(l:nK)(known:aZ):aZ:=fun f args h=>match G4 l f args with|some r=>some (r,none)|none=>known f args h
variable{l:nK}
theorem O5{f:Nat}{r:AV}(e:G4 l f args=some r):(f,args,r)∈l:=by
 induction l with
 | nil=>cases e
 | cons p l ih =>
   have e:(match Nat.beq p.1 f with|true=>(match yp p.2.1 args with|true=>some p.2.2|false=>G4 l f args)|false=>G4 l f args)=some r:=e;split at e
   ·rename_i h1;split at e
    ·rename_i h2;cases e;have h2:=qS _ _ h2;cases h2;have h1:=nE h1;subst h1;exact acN
    ·exact MK _ (ih e)
   ·exact MK _ (ih e)
theorem Sx[Laid]{C:yf}{known:aZ}(hk:dZ P known)(h:mB P C known l=true){f:Nat}{r:AV}(m:(f,args,r)∈l):cd P f=true∧aP P f args r:=by
 unfold mB at h;rw[iU]at h;have:=By.1 h _ m;split at this
 ·rename_i r' h1 h2 h3 h4;simp only at h1 h2 h3 h4 this;have:=qS _ _ this;subst this;exact⟨h1,uz hk h2 h3 h1 h4⟩
 ·cases this
theorem lY[Laid]{C:yf}{known known':aZ}(hk:dZ P known)(hk':dZ P known')(h:∀p∈l,∃m:nK,p∈m∧mB P C known m=true):dZ P (pz l known'):=by
 intro f args hp v oh e;unfold pz at e;split at e
 ·rename_i r hr;cases e;obtain⟨m,hm,ho⟩:=h _ (O5 hr);obtain⟨hb,c⟩:=Sx hk ho hm;exact .inl ⟨hb,c.call ⟨rfl,rfl⟩⟩
 ·exact hk' _ _ _ _ _ e
def S6(args:List AV)(h:aa):Option (AV×Option aa):=match args with
 | [.fn (.func g) [] [.op id o]]=>(match Nat.beq g 142,Nat.beq o 0 with
   | true,true=>(match nR h id with
     | some (.aC x)=>(match x.cells with
       | .mp mid:: _=>(match nR h mid with
         | some (.mp c es)=>(match BS c es with|some r=>some (r,none)|none=>none)
         | _=>none)
       | _=>none)
     | _=>none)
   | _,_=>none)
 | _=>none
theorem W5{h:aa}{v:AV}{oh:Option aa}(e:S6 args h=some (v,oh)):oh=none∧dY p_ 95 args h fun r hh=>r=v∧hh=h:=by
 unfold S6 at e;split at e
 ·rename_i g id o;split at e
  ·rename_i h1 h2;obtain rfl:=nE h1;obtain rfl:=nE h2;split at e
   ·rename_i x hx;split at e
    ·rename_i mid tl hc;split at e
     ·rename_i c es hm;split at e
      ·rename_i r hr;cases e;rw[lh]at hx hm;exact⟨rfl,J6 hx (by rw[hc];rfl) hm hr⟩
      ·cases e
     ·cases e
    ·cases e
   ·cases e
  ·cases e
 ·cases e
def zN:aZ:=fun f args h=>match Nat.beq f 28 with
 | true=>(match args with|[]=>some (.sl 12 lW,none)|_=>none)
 | false=>(match Nat.beq f 10 with
   | true=>(match args with|[]=>some (.sl 12 xH,none)|_=>none)
   | false=>(match Nat.beq f 95 with
     | true=>S6 args h
     | false=>none))
theorem Ds:dZ p_ zN:=by
 intro f args h v oh e;unfold zN at e;split at e
 ·rename_i hf;obtain rfl:=nE hf;split at e
  ·cases e;exact .inl ⟨by kernel_rfl,lz.call ⟨rfl,rfl⟩⟩
  ·cases e
 ·split at e
  ·rename_i hf;obtain rfl:=nE hf;split at e
   ·cases e;exact .inl ⟨by kernel_rfl,oC.call ⟨rfl,rfl⟩⟩
   ·cases e
  ·split at e
   ·rename_i hf;obtain rfl:=nE hf;obtain⟨rfl,q⟩:=W5 e;exact .inl ⟨by kernel_rfl,q⟩
   ·cases e
def aeJ:yf:=⟨fun _ _ _=>false,fun _=>false,100000⟩
def abl:aZ:=sN p_ aeJ zN 80
def Iv:aZ:=fun f args h=>match Nat.beq f 39 with
 | true=>(match HU abl args with|some r=>some (r,none)|none=>none)
 | false=>zN f args h
theorem Pl:dZ p_ Iv:=by
 intro f args h v oh e;unfold Iv at e;split at e
 ·rename_i hf;obtain rfl:=nE hf;split at e
  ·rename_i r hr;cases e;obtain⟨q1,q2⟩:=Ki (AQ Ds 80) hr;exact .inl ⟨q1,q2 h⟩
  ·cases e
 ·exact Ds _ _ _ _ _ e
def inP(l:List (Nat×Nat))(a b:Nat):Bool:=match l with
 | []=>false
 | x:: l=>match Nat.beq x.1 a,Nat.beq x.2 b with|true,true=>true|_,_=>inP l a b
def afb:List (Nat×List (Nat×Nat)):=
 [(226,[(3,2)]),
  (178,[(6,2),(8,15),(8,16),(10,14),(10,15)]),
  (89,[(6,13)]),
  (131,[(8,2)]),
  (19,[(6,8)])]
def aal:List (Nat×List (Nat×Nat))→Nat→Nat→Nat→Bool
 | [],_,_,_=>false
 | x:: l,f,id,i=>match Nat.beq x.1 f with|true=>inP x.2 id i|false=>aal l f id i
def lM:yf:=⟨aal afb,fun f=>(match f with|19=>true|42=>true|96=>true|226=>true|_=>false),100000⟩
end
section
open Go Go.Aw Go.dz
variable{l:List Cu}
def zx(l:List Cu)(k:Nat):dJ:=fun s=>match my l s with
 | some i=>if i<k then some (pX l i) else none
 | none=>none
theorem W2(inj:ny l)(hz:∀c∈l,aW c.value≤2000)(hv:∀c∈l,ct c.value=false)(hk:∀c∈l,dC c.value=0){k:Nat}(h:k<l.length):nY (zx l k) l k=zx l (k+1):=by
 have e:pX l k=l[k].value:=uk (dO h);have hm:=acA h;have r:=zZ (zx l k) (hv _ hm) (hk _ hm);unfold nY;rw[e,r,if_pos ⟨rfl,hz _ hm⟩]
 funext s
 unfold zx
 by_cases q:s=dQ l k
 ·subst q;rw[if_pos rfl,EC inj h];dsimp only;rw[if_pos (by omega),e]
 ·rw[if_neg q];cases hx:my l s with
  | none=>rfl
  | some i =>
    dsimp only;have hi:=nU hx;have:i≠k:=fun x=>q (by rw[←hi.2,x])
    by_cases h2:i<k
    ·rw[if_pos h2,if_pos (by omega)]
    ·rw[if_neg h2,if_neg (by omega)]
theorem LA{l:List Cu}(inj:ny l)(hz:∀c∈l,aW c.value≤2000)(hv:∀c∈l,ct c.value=false)(hk:∀c∈l,dC c.value=0)(hu:∀c∈l,iO c.value=[]):∀n k,k+n=l.length→pI l n (fun i=>decide (k≤i)) (zx l k)=zx l l.length
 | 0,k,h=>by rw[pI,show k=l.length by omega]
 | n+1,k,h=>by
   have f:qh l (fun i=>decide (k≤i))=some k:=by
    unfold qh;rw[List.range_eq_range'];refine wW _ _ (acr _) (by omega) ?_ fun i _ hi=>?_
    ·unfold rA;rw[uk (dO (by omega)),hu _ (acA (by omega))];simp
    ·unfold rA;dsimp only;rw[show decide (k≤i)=false from oN (by omega)];rfl
   rw[pI,f];dsimp only;rw[W2 inj hz hv hk (by omega),←LA inj hz hv hk hu n (k+1) (by omega)]
   congr 1
   funext j
   unfold sF
   by_cases q:j=k
   ·rw[if_pos q,oN (by omega)]
   ·rw[if_neg q];exact decide_eq_decide.2 ⟨fun _=>by omega,fun _=>by omega⟩
theorem S0(inj:ny l)(hz:∀c∈l,aW c.value≤2000)(hv:∀c∈l,ct c.value=false)(hk:∀c∈l,dC c.value=0)(hu:∀c∈l,iO c.value=[]):mX l=l:=by
 have hu':∀i,iO (pX l i)=[]:=fun i=>by
  cases e:l[i]? with
  | none=>unfold pX;rw[oF,lE,e];rfl
  | some c=>rw[uk e];exact hu c (gO e)
 have hc:∀i,jH l i=false:=fun i=>Za fun h=>by
  rcases h with⟨⟨j,_,_,hj⟩,_⟩|⟨⟨⟨j,_,_,hj⟩,_⟩,_⟩<;>(rw[hu' j]at hj;cases hj)
 have hs:uZ l=zx l l.length:=by
  unfold uZ;rw[←LA inj hz hv hk hu l.length 0 (by omega)]
  congr 1
  ·funext i;rw[hc];simp
  ·funext s;unfold zx;split<;>simp
 unfold mX kR;rw[hs];have key:∀x∈l,((zx l l.length x.name).map fun v=>(⟨x.name,v⟩:Cu))=some x:=fun x hx=>by
  obtain⟨i,hi,rfl⟩:=List.mem_iff_getElem.1 hx;have e:=dO hi;have:zx l l.length l[i].name=some l[i].value:=by
   unfold zx;rw[←nk e,EC inj hi];dsimp only;rw[if_pos hi,uk e]
  rw[this];rfl
 rw[tK key];clear key hs hc hu' hu hk hv hz inj;induction l with
 | nil=>rfl
 | cons a l ih=>rw[acv];dsimp only;rw[ih]
end
section
open Go Go.Aw Go.RowKit Go.dz
theorem Ea{P:Program}{f:FuncId}{a b:AV}{h:aa}{K:AV→aa→Prop}(q:tn a b)(c:dY P f [b] h K):dY P f [a] h K:=by
 intro base ι S w vs h1 h2;refine c base ι S w vs ?_ h2
 match vs,h1 with
 | [],h1=>simp at h1
 | _:: _:: _,h1=>simp at h1
 | [v],h1 =>
   simp only[dc,kF,and_true]at h1 ⊢;exact q _ _ _ _ h1
theorem zF{K:AV→Prop}(q:K (i_ 0)):bu (.v (.slice none 0 0)) K:=q
theorem JM:aP p_ 145 [.v (.slice none 0 0)] (.v (.slice none 0 0)):=by
 refine (XB _).gives (by simp) (by simp) ?_;unfold QN;have inj:ny []:=fun x y hx=>by simp at hx
 refine KQ (α:=Empty) (fun _=>True) (fun _=>[]) (fun _=>[]) (fun _=>0) ?_ (fun x=>x.elim);refine su (by kernel_rfl) rfl (Ea (tn.nil 2) (yk (l:=[]) (by simp) inj (by simp))) fun r h1 ⟨id,er,hid⟩ _=>?_;subst er;have hlt:=(gE.1 hid).1;refine qa (n:=h1.length) (h':=h1++[.mp 0 []]) rfl rfl ?_;refine su (by kernel_rfl) rfl (Ea (tn.nil 2) (yn (l:=[]) (by simp) inj)) fun r G ⟨er,eG⟩ _=>?_;subst er;subst eG;refine GH (es:=[]) (c:=0) rfl (by rw[TO,iD hlt];exact hid) rfl rfl ?_;refine aU (α:=Unit) (fun _=>True) (fun _=>[]) (fun _=>h1++[.mp 0 []]++[.mp 0 []]++[.it id 0 [] 0]) (fun _=>0) () trivial (Wk.refl _ _ _ (aS _)) ?_;intro _ _;refine GG (m:=id) (sn:=[]) (es:=[]) rfl KL (by rw[TO,TO,iD hlt];exact hid) rfl (aS _) (fun _=>?_) fun p hp=>by simp[fq]at hp
 refine zzB rfl (zzK rfl (zF (aU (α:=Unit) (fun _=>True) (fun _=>[i_ 0]) (fun _=>_) (fun _=>0) () trivial (Wk.refl _ _ _ (aS _)) ?_)));intro _ _;refine zzC (zzK rfl (zF (aU (α:=Unit) (fun _=>True) (fun _=>[.v (.slice none 0 0),i_ 0]) (fun _=>_) (fun _=>0) () trivial (Wk.refl _ _ _ (aS _)) ?_)));intro _ _;refine zzC (zzK rfl ?_);exact .pure (by simp) rfl
theorem Mj:aP p_ 60 [.v (.slice none 0 0)] tt:=by
 have h:=yC [] (by simp);exact h.arg (.cons (.nil 2) .nil) (by simp)
theorem JK:aP p_ 98 [.v (.slice none 0 0)] (.aF [.v (.slice none 0 0),i_ 0]):=by
 refine (V98 _).gives (by simp) (by simp) ?_;unfold YH;refine zF (zzE (zzK rfl (zzS (by kernel_rfl) Mj (zzO (zzK rfl (zF (aU (α:=Unit) (fun _=>True) (fun _=>[i_ 0]) (fun _=>[]) (fun _=>0) () trivial (Wk.refl _ _ _ (aS _)) ?_)))))));intro _ _;refine zzC (zzK rfl (zzS (by kernel_rfl) JM ?_));exact .pure (by simp) rfl
def Ue(n:Int):Vl:=.mk 12 [] n [112,120] true []
def Y8:List Cu:=[⟨[45,45,112],[Ue 5000]⟩]
def Y9:List Cu:=[⟨[45,45,97],[Ue 1000]⟩,⟨[45,45,112],[Ue 5000]⟩]
def DN(n:aD)(k:Int):List AV:=[.str n,.sl 6 [[u1 12,.str [],i_ k,.str [112,120],tt,.v (.slice none 0 0)]]]
theorem Rx(n:aD)(k:Int):qJ (DN n k) (eT ⟨n,[Ue k]⟩):=
 .cons (.refl _) (.cons (.sl (.cons (.cons (.refl _) (.cons (.refl _) (.cons (.refl _) (.cons (.refl _) (.cons (.refl _) (.cons (.nil 6) .nil)))))) .nil)) .nil)
theorem TM{l:List Cu}(h:(Nat.ble l.length 64&&fY l&&l.all fun c=>Nat.ble (aW c.value) 2000&&!ct c.value&&decide (dC c.value=0)&&decide (iO c.value=[]))=true):aP p_ 98 [.sl 2 (az l)] (.aF [.sl 2 (az l),i_ 0]):=by
 simp only[On,By,OF,acM]at h;obtain⟨⟨h1,h2⟩,h3⟩:=h;have hz:∀c∈l,aW c.value≤2000:=fun c hc=>nO (h3 c hc).1.1.1;have:=Ar (nO h1) h2 (fun c hc=>acy (hz c hc) (by decide)) (fun c hc=>(h3 c hc).1.2)
 rwa [S0 (uT h2) hz (fun c hc=>(h3 c hc).1.1.2) (fun c hc=>(h3 c hc).1.2) (fun c hc=>(h3 c hc).2)]at this
theorem Y6:aP p_ 98 [.sl 2 [DN [45,45,112] 5000]] (.aF [.sl 2 (az Y8),i_ 0]):=
 (TM (l:=Y8) (by decide +kernel)).arg (.cons (.sl (.cons (Rx _ _) .nil)) .nil) (by simp[DN])
theorem Y7:aP p_ 98 [.sl 2 [DN [45,45,97] 1000,DN [45,45,112] 5000]] (.aF [.sl 2 (az Y9),i_ 0]):=
 (TM (l:=Y9) (by decide +kernel)).arg (.cons (.sl (.cons (Rx _ _) (.cons (Rx _ _) .nil))) .nil) (by simp[DN])
theorem zG{xs ys:List AV}(h:yp xs ys=true):xs=ys:=by
 unfold yp at h;have:=qS _ _ h;cases this;rfl
def Ut(a:AV):AV:=match a with|.sb _ sz rows=>.sl sz rows|_=>a
theorem aav(id sz:Nat)(rows:List (List AV)):tn (.sb id sz rows) (.sl sz rows):=by
 intro ι S w v r;rw[ax]at r;rw[ax];exact r.1
theorem Qc(a:AV):tn a (Ut a):=by
 cases a with
 | sb id sz rows=>exact aav id sz rows
 | _=>exact tn.refl _
def SZ(a:AV):Option AV:=match yp [a] [.v (.slice none 0 0)] with
 | true=>some (.aF [.v (.slice none 0 0),i_ 0])
 | false=>(match yp [a] [.sl 2 [DN [45,45,112] 5000]] with
   | true=>some (.aF [.sl 2 (az Y8),i_ 0])
   | false=>(match yp [a] [.sl 2 [DN [45,45,97] 1000,DN [45,45,112] 5000]] with
     | true=>some (.aF [.sl 2 (az Y9),i_ 0])
     | false=>none))
theorem W0{a r:AV}(e:SZ a=some r):aP p_ 98 [a] r:=by
 unfold SZ at e;split at e
 ·rename_i ha;have:=zG ha;cases this;cases e;exact JK
 ·split at e
  ·rename_i ha;have:=zG ha;cases this;cases e;exact Y6
  ·split at e
   ·rename_i ha;have:=zG ha;cases this;cases e;exact Y7
   ·cases e
def Iw:aZ:=fun f args h=>match Nat.beq f 98 with
 | true=>(match args with
   | [a]=>(match SZ (Ut a) with|some r=>some (r,none)|none=>none)
   | _=>none)
 | false=>Iv f args h
theorem Pm:dZ p_ Iw:=by
 intro f args h v oh e;unfold Iw at e;split at e
 ·rename_i hf;obtain rfl:=nE hf;split at e
  ·split at e
   ·rename_i r hr;cases e;exact .inl ⟨by kernel_rfl,Ea (Qc _) ((W0 hr).call ⟨rfl,rfl⟩)⟩
   ·cases e
  ·cases e
 ·exact Pl _ _ _ _ _ e
end
section
open Go Go.Aw
variable{K:AV→Prop}
abbrev atR(n:List UInt8)(v:AV)(wh:List UInt8)(o:Int):List AV:=[.str n,v,.str wh,ff,u8 3,tt,i_ 0,i_ 0,i_ 0,i_ 0,i_ o]
abbrev xU(o:Int):List AV:=[i_ 3,i_ 1,i_ 0,i_ 0,i_ 0,i_ 0,i_ o]
abbrev JA:List AV:=[i_ 0,i_ 0,i_ 0,i_ 0,i_ 0,i_ 0,i_ 0]
abbrev ux(l:List AV):dh:=.aC ⟨231,l,true⟩
theorem rM{len sz id o:Nat}{x i:AV}{n:Nat}(ex:x=.op id o)(ei:i=i_ n)(hn:n<len)(q:K (.op id (o+n*sz))):gM len sz x i K:=by
 subst ex;subst ei;exact⟨⟨by omega,by omega⟩,by simpa using q⟩
theorem abh{k k':IntKind}{x:AV}{n m:Int}(e:x=.v (.int k' n))(hm:k.wrap n=m)(q:K (.v (.int k m))):gZ k x K:=by subst hm;exact⟨k',n,e,q⟩
theorem Kg{n wh:List UInt8}{v:AV}{o:Int}(pv:Aw.Pure v)(sv:dH v=true):aP p_ 137 [.agg (atR n v wh o)] (.agg (xU o)):=by
 refine (Xz _).gives (by simp[bf,Aw.Pure,pv]) (by simp[bf,Aw.Pure]) ?_;unfold QL;refine cI (cs:=atR n v wh o) (n:=0) (h':=[.aC ⟨50,atR n v wh o,true⟩]) rfl (by show (dH (.str _)&&(dH _&&_))=true;rw[sv];rfl) rfl rfl ?_;refine cI (cs:=JA) (n:=1) (h':=[_,ux JA]) rfl rfl rfl rfl (aV rfl (aR (id:=0) rfl rfl rfl (abh (m:=3) rfl rfl (aV rfl (aR (id:=0) rfl rfl rfl (aV rfl ?_))))));refine rM (n:=0) rfl rfl (by omega) ?_;refine aR (id:=0) rfl rfl rfl (aV rfl ?_);refine rM (n:=1) rfl rfl (by omega) ?_;refine aR (id:=0) rfl rfl rfl (aV rfl ?_);refine rM (n:=2) rfl rfl (by omega) ?_;refine aR (id:=0) rfl rfl rfl (aV rfl (aR (id:=0) rfl rfl rfl (bt (cs:=[i_ 3,i_ 0,i_ 0,i_ 0,i_ 0,i_ 0,i_ o]) rfl (cI (cs:=JA) (n:=2) (h':=[_,_,ux JA]) rfl rfl rfl rfl (cf (id:=2) (cs:=[i_ 3,i_ 0,i_ 0,i_ 0,i_ 0,i_ 0,i_ o]) (h':=[.aC ⟨50,atR n v wh o,true⟩,ux JA,ux [i_ 3,i_ 0,i_ 0,i_ 0,i_ 0,i_ 0,i_ o]]) rfl rfl rfl rfl (aS _) rfl rfl rfl (ay (aV rfl ?_)))))));refine aR (id:=0) rfl rfl rfl (ao rfl rfl ?_);refine rM (n:=1) rfl rfl (by omega) ?_;refine cf (id:=2) (cs:=[i_ 1]) (h':=[.aC ⟨50,atR n v wh o,true⟩,ux JA,ux (xU o)]) rfl rfl rfl rfl (by show 0+1*1+1≤7;omega) rfl rfl rfl ?_;refine af (ay (aV rfl (aR (id:=0) rfl rfl rfl (ah rfl rfl (af (cY (id:=2) rfl rfl (aS 7) (cf (id:=1) (cs:=xU o) (h':=[.aC ⟨50,atR n v wh o,true⟩,ux (xU o),ux (xU o)]) rfl rfl rfl rfl (aS _) rfl rfl rfl ?_)))))));refine cY (id:=1) rfl rfl (aS 7) ?_;exact .pure (by simp[bf,Aw.Pure]) rfl
theorem QZ{n wh n' wh':List UInt8}{v v':AV}{o o':Int}(pv:Aw.Pure v)(sv:dH v=true)(pv':Aw.Pure v')(sv':dH v'=true):aP p_ 93 [.agg (atR n v wh o),.agg (atR n' v' wh' o')] (b_ (decide (o<o'))):=by
 refine (V93 _ _).gives (by simp[bf,Aw.Pure,pv,pv']) (by simp) ?_;unfold YF;refine cI (cs:=atR n v wh o) (n:=0) (h':=[.aC ⟨50,atR n v wh o,true⟩]) rfl (by show (dH (.str _)&&(dH _&&_))=true;rw[sv];rfl) rfl rfl ?_;refine cI (cs:=atR n' v' wh' o') (n:=1) (h':=[.aC ⟨50,atR n v wh o,true⟩,.aC ⟨50,atR n' v' wh' o',true⟩]) rfl (by show (dH (.str _)&&(dH _&&_))=true;rw[sv'];rfl) rfl rfl ?_;refine cY (id:=0) rfl rfl (aS 11) ?_;refine sw rfl (by kernel_rfl) (Kg pv sv) ?_;refine cY (id:=1) rfl rfl (aS 11) ?_;refine sw rfl (by kernel_rfl) (Kg pv' sv') ?_;refine cf (id:=4) (o:=0) (cs:=xU o) (h':=[.aC ⟨50,atR n v wh o,true⟩,.aC ⟨50,atR n' v' wh' o',true⟩,.dead,.dead,ux (xU o),ux JA]) rfl rfl rfl rfl (aS _) rfl rfl rfl (cf (id:=5) (o:=0) (cs:=xU o') (h':=[.aC ⟨50,atR n v wh o,true⟩,.aC ⟨50,atR n' v' wh' o',true⟩,.dead,.dead,ux (xU o),ux (xU o')]) rfl rfl rfl rfl (aS _) rfl rfl rfl ?_);refine aU (α:=Nat) (fun k=>k≤7∧(k=7→o=o')) (fun k=>[i_ k]) (fun _=>[.aC ⟨50,atR n v wh o,true⟩,.aC ⟨50,atR n' v' wh' o',true⟩,.dead,.dead,ux (xU o),ux (xU o')]) (fun k=>7-k) 0 ⟨by omega,by omega⟩ (Wk.refl _ _ _ (aS _)) ?_;rintro k ⟨hk,hf⟩;refine bB rfl rfl ?_;obtain rfl|rfl|rfl|rfl|rfl|rfl|rfl|rfl:k=0∨k=1∨k=2∨k=3∨k=4∨k=5∨k=6∨k=7:=by omega
 iterate 6
  ·refine ao rfl (by decide) ?_;refine rM (id:=4) (o:=0) rfl rfl (by omega) ?_;refine aR (id:=4) rfl rfl rfl ?_;refine rM (id:=5) (o:=0) rfl rfl (by omega) ?_;refine aR (id:=5) rfl rfl rfl (cZ rfl rfl ?_);refine ah rfl (by simp) ?_;refine di rfl rfl (by unfold aN;omega) ?_;refine af ?_;exact⟨_,⟨by omega,by omega⟩,Wk.refl _ [i_ (((_:Nat)+1:Nat):Int)] _ (aS _),by omega⟩
 ·refine ao rfl (by decide) ?_;refine rM (id:=4) (o:=0) (n:=6) rfl rfl (by omega) ?_;refine aR (id:=4) (c:=i_ o) rfl rfl rfl ?_;refine rM (id:=5) (o:=0) (n:=6) rfl rfl (by omega) ?_;refine aR (id:=5) (c:=i_ o') rfl rfl rfl (cZ rfl rfl ?_);refine fQ rfl (fun hc=>?_) (fun hc=>?_)
  ·refine rM (id:=4) (o:=0) (n:=6) rfl rfl (by omega) ?_;refine aR (id:=4) (c:=i_ o) rfl rfl rfl ?_;refine rM (id:=5) (o:=0) (n:=6) rfl rfl (by omega) ?_;refine aR (id:=5) (c:=i_ o') rfl rfl rfl (bB rfl rfl ?_);exact .pure (by simp) rfl
  ·have e:o=o':=by simpa using hc
   refine di rfl rfl (by unfold aN;omega) ?_;refine af ?_;exact⟨7,⟨by omega,fun _=>e⟩,Wk.refl _ _ _ (aS _),by omega⟩
 ·refine ah rfl (by decide) ?_;refine .pure (by simp) ?_;rw[hf rfl];simp
end
section
open Go Go.Aw Go.RowKit
theorem WB{v:AV}(h:jJ [v]=true):Aw.Pure v:=by
 unfold jJ at h;rw[iU]at h;have:∀a∈[v],Bd 0 a:=fun a ha=>by
  have:=By.1 h a ha;split at this
  ·rename_i z;exact se 0 a (by omega)
  ·cases this
 exact tz v (this v (by simp))
def TH(a:AV):Option (List UInt8×AV×List UInt8×Int):=match a with
 | .agg [.str n,v,.str wh,i,g,t,a,b,c,d,.v (.int .i64 o)]=>(match yp [i,g,t,a,b,c,d] [.v (.bool false),u8 3,.v (.bool true),i_ 0,i_ 0,i_ 0,i_ 0],jJ [v],dH v with
   | true,true,true=>some (n,v,wh,o)
   | _,_,_=>none)
 | _=>none
theorem N5{a:AV}{n wh:List UInt8}{v:AV}{o:Int}(h:TH a=some (n,v,wh,o)):a=.agg (atR n v wh o)∧Aw.Pure v∧dH v=true:=by
 unfold TH at h;split at h
 ·split at h
  ·rename_i h1 h2 h3;have e:=zG h1;cases e;cases h;exact⟨rfl,WB h2,h3⟩
  ·cases h
 ·cases h
def Z0(args:List AV):Option AV:=match args with
 | [x,y]=>(match TH x,TH y with
   | some (_,_,_,o),some (_,_,_,o')=>some (.v (.bool (tW o o')))
   | _,_=>none)
 | _=>none
def vQ:aZ:=fun f args h=>match Nat.beq f 93 with
 | true=>(match Z0 args with|some r=>some (r,none)|none=>none)
 | false=>Iw f args h
theorem uM:dZ p_ vQ:=by
 intro f args h v oh e;unfold vQ at e;split at e
 ·rename_i hf;obtain rfl:=nE hf;split at e
  ·rename_i r hr;cases e;unfold Z0 at hr;split at hr
   ·split at hr
    ·rename_i q1 q2;cases hr;obtain⟨rfl,p1,s1⟩:=N5 q1;obtain⟨rfl,p2,s2⟩:=N5 q2;rw[o8];exact .inl ⟨by kernel_rfl,(QZ p1 s1 p2 s2).call ⟨rfl,rfl⟩⟩
    ·cases hr
   ·cases hr
  ·cases e
 ·exact Pm _ _ _ _ _ e
def qZ:AV:=.v (.int .u8 0)
def qN:AV:=.v (.slice none 0 0)
def qF:AV:=.v (.bool false)
def qT:AV:=.v (.bool true)
def qE:AV:=.str []
def qO:AV:=i_ 0
def qR(l:List UInt8):List AV:=[.v (.int .u8 1),.str l,i_ 0,.v (.int .u8 0),.v (.int .u8 0),.v (.int .u8 0),.v (.int .u8 0)]
def qV(k:Int)(n:Int):List AV:=[.v (.int .u8 k),.str [],i_ n,.v (.int .u8 0),.v (.int .u8 0),.v (.int .u8 0),.v (.int .u8 0)]
def qK(k:Int)(l:List UInt8):List AV:=[.v (.int .u8 k),.str l,i_ 0,.str [],.v (.bool false),.v (.slice none 0 0)]
end
end Go.Proofs.YtldpambpnajgiaaGreatDoor
end
