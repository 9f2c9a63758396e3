/-
 The law ComputeSaid answers true,its arguments being such as the laws consider.
 No conditions.
-/
import Derived.Test.YtldpambpnajgiaaGreatDoorZk
import Derived.Test.YtldpambpnajgiaaGreatDoorAlRun
import Derived.Test.YtldpambpnajgiaaGreatDoorZd
import Derived.Test.YtldpambpnajgiaaGreatDoorZj
set_option linter.unusedVariables false
set_option linter.unusedSimpArgs false
set_option maxRecDepth 1000000
set_option maxHeartbeats 16000000
open Go.Proofs.Tryz renaming prog→p_
noncomputable section
namespace Go.Proofs.YtldpambpnajgiaaGreatDoor
section
open Go Go.Aw Go.dz Go.jC
theorem SJ{s:Sy}(hs:iw s=true):u6 s:=by
 obtain⟨c1,c2,c3,c4,c5⟩:=wc hs;have sv:=qw hs;refine⟨fun v hv=>?_,by omega,fun c hc=>by have:=c3 c hc;omega⟩;obtain⟨i,hi,e⟩:=List.mem_iff_getElem.1 hv;have hl:=sv.len;have h:=nT sv (root:=0) (by decide) (by decide) (i:=i) (by omega) (sv.has i v (by rw[←e];exact dO hi)).1;unfold eD at h;unfold aN;omega
theorem QY(n:Int):aP p_ 84 [i_ n] (i_ (M8 n)):=by
 refine (V84 _).gives (by simp) (by simp) ?_;unfold W84;refine zzi (zzh ?_);exact .pure (by simp) rfl
theorem JG(a b:Nat)(ha:a≤1000000000000)(hb:b≤1000000000000):aP p_ 44 [i_ a,i_ b] (i_ (min (a*b/1000) 1000000000000:Nat)):=by
 refine (V44 _ _).gives (by simp) (by simp) ?_;unfold W44;exact P7 (by kernel_rfl) QY ha hb (.pure (by simp) rfl)
theorem Cm{a b:Int}(ha:eD a)(hb:eD b)(cT:a<0→aP p_ 17 [i_ (0-a),i_ b] (i_ (fb (-a) b))):aP p_ 17 [i_ a,i_ b] (i_ (fb a b)):=by
 refine (V17 _ _).gives (by simp) (by simp) ?_;unfold W17;exact Xc (by kernel_rfl) (by kernel_rfl) JG ha hb cT (.pure (by simp) rfl)
theorem Oj(a b:Int)(ha:eD a)(hb:eD b):aP p_ 17 [i_ a,i_ b] (i_ (fb a b)):=by
 refine Cm ha hb fun h=>?_;rw[show (0-a)=-a by omega];unfold eD at ha;exact Cm (by unfold eD;omega) hb fun h2=>by omega
theorem Ck{s:Sy}{l:List Dc}{root pr:Int}(io:wm s l):aP p_ 4 [.sl 11 (cy l),.agg (eH s),i_ root,i_ pr] tt:=by
 refine (V4 _ _ _ _).gives (by simp[bf,Aw.Pure,kn,fp]) (by simp) ?_;refine aaU ⟨by kernel_rfl,by kernel_rfl,by kernel_rfl,by kernel_rfl,by kernel_rfl,by kernel_rfl,by kernel_rfl,by kernel_rfl,by kernel_rfl,TL,oC,Oj⟩ io
  (FE io.sy io.vl io.sm (by have:=io.ll;omega)) (wH io) (fun h=>?_) (fun h k p hp=>?_) (fun h d hd=>?_) (fun h d hd h0 j hj=>?_)
 ·have hs:=uh io h;have c:=tA _ (SJ hs);unfold lV at c;rw[if_pos hs]at c;exact c
 ·have o:=oD io h;exact wG o.hs (by have:=o.ln;omega) o.ask (Ph hp)
 ·have o:=oD io h;exact Ao (by have:=o.hz d hd;omega) (sf ((nq o.ask).1 d hd)) (rG (om l s.bn) (oo o))
 ·obtain⟨h1,h2⟩:=WG (oD io h) io.nd io.nc hd h0;exact yy hj h2 h1
end
section
open Go Go.Aw Go.dz Go.ChangeShapes Go.WideShapes Go.ChangeAt Go.RowKit
set_option maxRecDepth 100000 in
theorem yx(os:Os)(started:os.Started)(H:Type)(enc:TypeId×Value→H)(F:Stop.Interp):
 ReturnsInHanded {} Tryz.checked os 4 .any (fun w args=>((Rows.OpenSpec.upto Rows.computeSaidSpec).pre enc p_ Tryz.f4 Rows.computeSaidUptoRow.domain false w args∧laidMetH p_ oJ w)∧sizedMet enc p_ Tryz.f4 (Rows.OpenSpec.upto Rows.computeSaidSpec) false w args)
  (((Rows.OpenSpec.upto Rows.computeSaidSpec).at F).post enc p_ Tryz.f4 false true false false):=by
 refine qH (C:=Tryz.checked) (k:=Rows.uptoSmall) rfl (X:=fun w _=>laidMetH p_ oJ w) (fun _ _ _ hh h=>h.of_heap hh) I5 started (by kernel_rfl) Tryz.func4
  (zE (enc:=enc) (C:=Tryz.checked) (os:=os) (k:=Rows.uptoSmall) rfl (X:=fun w _=>laidMetH p_ oJ w) false (World.laidAll p_ os oJ) #[.slice none 0 0,.agg #[.slice none 0 0,.slice none 0 0],.int .i64 0,.int .i64 0] 8 (World.laidAll_os _ _ _) (zv os _) (by kernel_rfl) (x:=([.nil,.agg [.nil,.nil],.lit (.int .i64 0),.lit (.int .i64 0)],[],[])) (by kernel_rfl) (by kernel_rfl) (by kernel_rfl) (by kernel_rfl) (Gp os _)) ?_
 intro W base args ds gs before hval0 hW hkk hL hsh;have hval:∀(j:Nat) t v,Tryz.f4.params[j]?=some t→args[j]?=some v→Value.okWide p_ W .any base t v:=hval0;have hW':=hW;obtain⟨p,q,hA0,hV,rfl,hfz,hnd⟩:=hW;have hA:DataW.TrodAll enc p_ W 0 (fun _=>true) true Tryz.f4.params.toList args.toList ds p:=hA0;rw[Tryz.params4]at hA hval;obtain⟨v0,vs,d0,ds',p0,p1,ea,rfl,rfl,h0,h1⟩:=trodAll_cons hA;obtain⟨v1,vs1,d1,ds1,p2,p3,ea1,rfl,rfl,h2,h3⟩:=trodAll_cons h1;obtain⟨v2,vs2,d2,ds2,p4,p5,ea2,rfl,rfl,h4,h5⟩:=trodAll_cons h3;obtain⟨v3,vs3,d3,ds3,p6,p7,ea3,rfl,rfl,h6,h7⟩:=trodAll_cons h5;obtain⟨rfl,rfl,rfl⟩:=trodAll_nil h7;have ea:args=#[v0,v1,v2,v3]:=by apply Array.ext';simpa[ea1,ea2,ea3]using ea
 subst ea;obtain⟨rfl,rfl⟩:=trodVars_none hV;have hb:Rows.uptoBulk d0+Rows.uptoBulk d1+Rows.uptoBulk d2+Rows.uptoBulk d3≤1048576:=by
  simp only[Rows.uptoSmall,aa1,Rows.uptoBulkAll,OF]at hkk;omega
 have w0:=hval 0 22 v0 rfl rfl;obtain⟨l,rl,hl,hs,hn⟩:=FJ (fun cs e=>by subst e;simp[Value.okWide,Cell.okWide,Cell.ok,Tryz.underlying22]at w0) (fun cs e=>by subst e;simp[Value.okWide,Cell.okWide,Cell.ok,Tryz.underlying22]at w0) h0 (by omega);have w1:=hval 1 26 v1 rfl rfl;obtain⟨a,ra,oa,la,na⟩:=Gq (let ⟨cs,e,_⟩:=okWide_struct Tryz.underlying26 w1;⟨cs,e⟩) h2 (by omega);have w2:=hval 2 2 v2 rfl rfl;obtain⟨f2,h4⟩:=h4;obtain⟨n,et2,_,hn2⟩:=DataW.trod_int Tryz.underlying2 h4;have q2:v2=.int .i64 n:=by
  have e:v2.cells.toList=[v2]:=by
   cases v2<;>first|rfl|(simp[Value.okWide,Cell.okWide,Cell.ok,Tryz.underlying2]at w2)
  rw[e]at et2;simpa using et2
 subst q2;have w3:=hval 3 3 v3 rfl rfl;obtain⟨f3,h6⟩:=h6;obtain⟨m,et3,_,hn3⟩:=DataW.trod_int Tryz.underlying3 h6;have q3:v3=.int .i64 m:=by
  have e:v3.cells.toList=[v3]:=by
   cases v3<;>first|rfl|(simp[Value.okWide,Cell.okWide,Cell.ok,Tryz.underlying3]at w3)
  rw[e]at et3;simpa using et3
 subst q3;refine ((Ck (root:=n) (pr:=m) ⟨oa,la,hs,hl,hn,na⟩).calls (W:=W) (vs:=[v0,v1,.int .i64 n,.int .i64 m]) (Pe hL) (by simpa using⟨rl,ra⟩)).mono fun e W' ⟨he,hb⟩=>?_;exact⟨_,he,Gk Iy (by kernel_rfl) (by kernel_rfl) (by kernel_rfl) Tryz.underlying4 hW' rfl hb⟩
end
end Go.Proofs.YtldpambpnajgiaaGreatDoor
end
