/-
 The law ComputeLocal answers true,its arguments being such as the laws consider.
 No conditions.
-/
import Derived.Test.YtldpambpnajgiaaGreatDoorZk
import Derived.Test.YtldpambpnajgiaaGreatDoorAlRun
import Derived.Test.YtldpambpnajgiaaGreatDoorZd
set_option linter.unusedVariables false
set_option linter.unusedSimpArgs false
set_option maxRecDepth 1000000
set_option maxHeartbeats 16000000
open Go.Proofs.Tryz renaming prog→p_
noncomputable section
namespace Go.Proofs.YtldpambpnajgiaaGreatDoor
section
open Go Go.Aw Go.dz Go.jC
variable{s:Sy}
theorem Lf(hs:iw s=true):u6 s:=by
 obtain⟨c1,c2,c3,c4,c5⟩:=wc hs;have sv:=qw hs;refine⟨fun v hv=>?_,by omega,fun c hc=>by have:=c3 c hc;omega⟩;obtain⟨i,hi,e⟩:=List.mem_iff_getElem.1 hv;have hl:=sv.len;have h:=nT sv (root:=0) (by decide) (by decide) (i:=i) (by omega) (sv.has i v (by rw[←e];exact dO hi)).1;unfold eD at h;unfold aN;omega
theorem HR(hs:iw s=true):aP p_ 9 [.agg (eH s)] (i_ 0):=by
 have h:=tA s (Lf hs);unfold lV at h;rw[if_pos hs]at h;exact h
theorem UZ(hs:iw s=true):aP p_ 8 [.agg (eH s)] (i_ 0):=by
 have h:=Aq s (Lf hs);unfold lV at h;rw[if_pos hs]at h;exact h
theorem Kh(hs:iw s=true):aP p_ 12 [.sl 2 (az s.bn),.sl 2 (az s.bn)] tt:=by
 obtain⟨c1,c2,c3,c4,c5⟩:=wc hs;exact Mf (by omega) c3
theorem Mw(hs:iw s=true):aP p_ 13 [.agg (eH s),.agg (eH s)] tt:=by
 refine (V13 _ _).gives (by simp[bf,Aw.Pure,kn]) (by simp) ?_;unfold W13;exact WI (by kernel_rfl) (by rw[(qw hs).len];decide) (Kh hs)
theorem AY{l:List Dc}{root pr:Int}(io:wm s l):aP p_ 3 [.sl 11 (cy l),.agg (eH s),i_ root,i_ pr] tt:=by
 refine (V3 _ _ _ _).gives (by simp[bf,Aw.Pure,kn,fp]) (by simp) ?_;exact Wf ⟨by kernel_rfl,by kernel_rfl,by kernel_rfl,by kernel_rfl,by kernel_rfl,by kernel_rfl,by kernel_rfl,by kernel_rfl,by kernel_rfl,TL,oC,lO⟩ io.ll
  (FE io.sy io.vl io.sm (by have:=io.ll;omega)) (wH io) (fun h N hN=>HN io h hN) (fun h=>UZ (uh io h)) (fun h=>HR (uh io h)) (fun h N=>HR (Qt io h)) (fun h=>Kh (uh io h)) (fun h=>Mw (uh io h)) (fun h N k hN h12 hk=>acp io h hN h12 hk)
end
section
open Go Go.Aw Go.dz Go.ChangeShapes Go.WideShapes Go.ChangeAt Go.RowKit
set_option maxRecDepth 100000 in
theorem xY(os:Os)(started:os.Started)(H:Type)(enc:TypeId×Value→H)(F:Stop.Interp):
 ReturnsInHanded {} Tryz.checked os 3 .any (fun w args=>((Rows.OpenSpec.upto Rows.computeLocalSpec).pre enc p_ Tryz.f3 Rows.computeLocalUptoRow.domain false w args∧laidMetH p_ oJ w)∧sizedMet enc p_ Tryz.f3 (Rows.OpenSpec.upto Rows.computeLocalSpec) false w args)
  (((Rows.OpenSpec.upto Rows.computeLocalSpec).at F).post enc p_ Tryz.f3 false true false false):=by
 refine qH (C:=Tryz.checked) (k:=Rows.uptoSmall) rfl (X:=fun w _=>laidMetH p_ oJ w) (fun _ _ _ hh h=>h.of_heap hh) I5 started (by kernel_rfl) Tryz.func3
  (zE (enc:=enc) (C:=Tryz.checked) (os:=os) (k:=Rows.uptoSmall) rfl (X:=fun w _=>laidMetH p_ oJ w) false (World.laidAll p_ os oJ) #[.slice none 0 0,.agg #[.slice none 0 0,.slice none 0 0],.int .i64 0,.int .i64 0] 8 (World.laidAll_os _ _ _) (zv os _) (by kernel_rfl) (x:=([.nil,.agg [.nil,.nil],.lit (.int .i64 0),.lit (.int .i64 0)],[],[])) (by kernel_rfl) (by kernel_rfl) (by kernel_rfl) (by kernel_rfl) (Gp os _)) ?_
 intro W base args ds gs before hval0 hW hkk hL hsh;have hval:∀(j:Nat) t v,Tryz.f3.params[j]?=some t→args[j]?=some v→Value.okWide p_ W .any base t v:=hval0;have hW':=hW;obtain⟨p,q,hA0,hV,rfl,hfz,hnd⟩:=hW;have hA:DataW.TrodAll enc p_ W 0 (fun _=>true) true Tryz.f3.params.toList args.toList ds p:=hA0;rw[Tryz.params3]at hA hval;obtain⟨v0,vs,d0,ds',p0,p1,ea,rfl,rfl,h0,h1⟩:=trodAll_cons hA;obtain⟨v1,vs1,d1,ds1,p2,p3,ea1,rfl,rfl,h2,h3⟩:=trodAll_cons h1;obtain⟨v2,vs2,d2,ds2,p4,p5,ea2,rfl,rfl,h4,h5⟩:=trodAll_cons h3;obtain⟨v3,vs3,d3,ds3,p6,p7,ea3,rfl,rfl,h6,h7⟩:=trodAll_cons h5;obtain⟨rfl,rfl,rfl⟩:=trodAll_nil h7;have ea:args=#[v0,v1,v2,v3]:=by apply Array.ext';simpa[ea1,ea2,ea3]using ea
 subst ea;obtain⟨rfl,rfl⟩:=trodVars_none hV;have hb:Rows.uptoBulk d0+Rows.uptoBulk d1+Rows.uptoBulk d2+Rows.uptoBulk d3≤1048576:=by
  simp only[Rows.uptoSmall,aa1,Rows.uptoBulkAll,OF]at hkk;omega
 have w0:=hval 0 22 v0 rfl rfl;obtain⟨l,rl,hl,hs,hn⟩:=FJ (fun cs e=>by subst e;simp[Value.okWide,Cell.okWide,Cell.ok,Tryz.underlying22]at w0) (fun cs e=>by subst e;simp[Value.okWide,Cell.okWide,Cell.ok,Tryz.underlying22]at w0) h0 (by omega);have w1:=hval 1 26 v1 rfl rfl;obtain⟨a,ra,oa,la,na⟩:=Gq (let ⟨cs,e,_⟩:=okWide_struct Tryz.underlying26 w1;⟨cs,e⟩) h2 (by omega);have w2:=hval 2 2 v2 rfl rfl;obtain⟨f2,h4⟩:=h4;obtain⟨n,et2,_,hn2⟩:=DataW.trod_int Tryz.underlying2 h4;have q2:v2=.int .i64 n:=by
  have e:v2.cells.toList=[v2]:=by
   cases v2<;>first|rfl|(simp[Value.okWide,Cell.okWide,Cell.ok,Tryz.underlying2]at w2)
  rw[e]at et2;simpa using et2
 subst q2;have w3:=hval 3 3 v3 rfl rfl;obtain⟨f3,h6⟩:=h6;obtain⟨m,et3,_,hn3⟩:=DataW.trod_int Tryz.underlying3 h6;have q3:v3=.int .i64 m:=by
  have e:v3.cells.toList=[v3]:=by
   cases v3<;>first|rfl|(simp[Value.okWide,Cell.okWide,Cell.ok,Tryz.underlying3]at w3)
  rw[e]at et3;simpa using et3
 subst q3;refine ((AY (root:=n) (pr:=m) ⟨oa,la,hs,hl,hn,na⟩).calls (W:=W) (vs:=[v0,v1,.int .i64 n,.int .i64 m]) (Pe hL) (by simpa using⟨rl,ra⟩)).mono fun e W' ⟨he,hb⟩=>?_;exact⟨_,he,Gk Iy (by kernel_rfl) (by kernel_rfl) (by kernel_rfl) Tryz.underlying4 hW' rfl hb⟩
end
end Go.Proofs.YtldpambpnajgiaaGreatDoor
end
