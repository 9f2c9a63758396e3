/-
  What the rows list,read by the contracts;a start that meets it. As the library's wraps for rows with a condition,where package variables are listed too. No declarations,a style,a root's size: the call returns true from any start.
  No conditions.
-/
import Derived.Test.YtfageokhpklkbaaGreatDoorL2
import Derived.Test.YtfageokhpklkbaaGreatDoorTab
import Derived.Test.YtfageokhpklkbaaGreatDoorTie
import Derived.Test.YtfageokhpklkbaaGreatDoorCards
import Derived.Lib.LaidTab
import Derived.Lay
import Derived.LaidMore
import Derived.LaidHandle
import Derived.Stop.Joined
import Derived.ChangeSame
import Derived.JoinedCond
import Derived.Test.YtfageokhpklkbaaGreatDoorO1
import Derived.Test.YtfageokhpklkbaaGreatDoorV2
import Derived.Test.YtfageokhpklkbaaGreatDoorAlRun
set_option linter.unusedVariables false
set_option linter.unusedSimpArgs false
section
namespace Go.Proofs.YtfageokhpklkbaaGreatDoor
open Go Go.Aw Go.ChangeShapes Go.WideShapes Go.ChangeAt Go.RowKit
set_option maxRecDepth 100000
theorem Hu : ownKnob Tryz.prog.godebug = none:=by kernel_rfl
theorem He : laidOutB Tryz.prog = true:=by kernel_rfl
abbrev ko : List (String × DataW Unit):=Rows.computeNoneRow.laid
theorem FI (os : Os) (args : Array Value) : laidMetH Tryz.prog ko ((World.laidAll Tryz.prog os ko).forCall (fun _ _=>0) ⟨#[],args,[]⟩).memory:=by
 rw [MakeChecks.laidMetH_plain _ _ _ (by kernel_rfl)]
 exact laidMet_laidAll _ (by kernel_rfl) (by kernel_rfl)
theorem xF (os : Os) (args : Array Value) : ((World.laidAll Tryz.prog os ko).forCall (fun _ _=>0) ⟨#[],args,[]⟩).Shaped Tryz.prog:=World.shaped_of_ZipB (by kernel_rfl) (by kernel_rfl)
def A2 : List Int:=[0,0,0,0,0,0,0,0,0,1,1,1,1,1,0,0,0,0,0,0,0,0,0,0,0,0,0,0,0,0,0,0,1,0,0,0,0,0,0,0,0,0,0,0,0,0,0,0,0,0,0,0,0,0,0,0,0,0,0,0,0,0,0,0,0,0,0,0,0,0,0,0,0,0,0,0,0,0,0,0,0,0,0,0,0,0,0,0,0,0,0,0,0,0,0,0,0,0,0,0,0,0,0,0,0,0,0,0,0,0,0,0,0,0,0,0,0,0,0,0,0,0,0,0,0,0,0,0,0,0,0,0,0,0,0,0,0,0,0,0,0,0,0,0,0,0,0,0,0,0,0,0,0,0,0,0,0,0,0,0,0,0,0,0,0,0,0,0,0,0,0,0,0,0,0,0,0,0,0,0,0,0,0,0,0,0,0,0,0,0,0,0,0,0,0,0,0,0,0,0,0,0,0,0,0,0,0,0,0,0,0,0,0,0,0,0,0,0,0,0,0,0,0,0,0,0,0,0,0,0,0,0,0,0,0,0,0,0,0,0,0,0,0,0,0,0,0,0,0,0,0,0,0,0,0,0]
theorem DW {W : World} (h : laidMetH Tryz.prog ko W) : Lib.TabIs Tryz.prog W "strings.asciiSpace" .u8 A2:=by
 rw [MakeChecks.laidMetH_plain _ _ _ (by kernel_rfl)] at h
 obtain ⟨ps,⟨_,_,_,_,_,_,_,_,_,_,⟨_,_,_,_,_,_,_,_,_,_,⟨_,_,_,_,_,_,_,_,_,_,⟨_,_,_,_,_,_,_,_,_,_,⟨_,_,_,_,_,_,_,_,_,_,⟨_,_,_,_,_,_,_,_,_,_,⟨g,t,cs,fuel,p,q,hg,ht,hv,hd,_,_⟩,_⟩,_⟩,_⟩,_⟩,_⟩,_⟩,_⟩:=h
 obtain rfl:=Option.some.inj ((show Tryz.prog.globalNamed "strings.asciiSpace" = some 0 by kernel_rfl).symm.trans hg)
 obtain rfl:=Option.some.inj ((show (Tryz.prog.globals[0]?).map (·.type) = some 159 by kernel_rfl).symm.trans ht)
 unfold Lib.TabIs
 rw [hv,← Lib.cells_of_tab (zs:=A2) Tryz.underlying159 Tryz.underlying5 (by kernel_rfl) (by kernel_rfl) hd]
theorem HB {P : Program} {W : World} {name : String} {k : IntKind} {zs : List Int} {g : Nat} (h : Lib.TabIs P W name k zs) (hg : P.globalNamed name = some g) : ∃ ty,W.shape? g = some (ty,zs.length):=by
 unfold Lib.TabIs World.var? at h
 rw [hg,Option.bind_some] at h
 split at h
 ·rename_i c t f hh
  simp only [Option.some.injEq] at h
  subst h
  exact ⟨t,by unfold World.shape?;rw [hh];simp⟩
 ·cases h
theorem LH {W : World} (h : laidMetH Tryz.prog ko W) : GOK (old W) W:=by
 intro g cs e
 have e : xI g = some cs:=e
 unfold xI at e
 split at e
 ·cases e
  exact ⟨bn.ints (W:=W) (g:=0) (k:=.u8) (zs:=A2) (fun i hi=>(DW h).cell (by kernel_rfl) i hi),by simpa [A2,u8s,spL] using HB (DW h) (g:=0) (by kernel_rfl)⟩
 ·cases e
end Go.Proofs.YtfageokhpklkbaaGreatDoor
end

section
namespace Go.Proofs.YtfageokhpklkbaaGreatDoor
open Go Go.Aw Go.ChangeShapes Go.WideShapes Go.ChangeAt Go.RowKit
set_option maxRecDepth 100000
theorem nU {H : Type} {enc : TypeId × Value → H} {a : Assume} {C : Checked} {os : Os} {f : FuncId} {fn : Func} {s : OpenSpec} {F : Stop.Interp} {k : (H : Type) → List (DataW H) → Bool} (hk : s.cond = some k) {conds : List PathCond} {apart fresh handsOn again : Bool} {X : World → Array Value → Prop}
 (hX : ∀ (w w' : World) (args : Array Value),w.heap = w'.heap → X w args → X w' args)
 (own : ownKnob C.prog.godebug = none) (started : os.Started) (noInit : C.prog.inits.idxOf? f = none) (hfn : C.prog.funcs[f]? = some fn)
 (witness : ∃ (w : World) (tape : Tape) (i : Input),w.os = os ∧ (w.forCall tape i).Shaped C.prog ∧ i.vars = [] ∧ Input.okWide C.prog (w.forCall tape i) .any w.heap.size f i ∧
  ((s.pre enc C.prog fn conds apart (w.forCall tape i).memory i.args ∧ X (w.forCall tape i).memory i.args) ∧ sizedMet enc C.prog fn s apart (w.forCall tape i).memory i.args) ∧ a.holds C.prog (lone (Frame.enter C.prog f i.args .normal) [] (w.forCall tape i)))
 (contract : ∀ (W : World) (base : Nat) (args : Array Value) (ds gs : List (DataW H)) (before : List MemPlace),
  (∀ (j : Nat) t v,fn.params[j]? = some t → args[j]? = some v → Value.okWide C.prog W .any base t v) →
  DataW.Whole enc C.prog fn.params.toList s.vars apart W args.toList ds gs before → k H (ds ++ gs) = true → X W args → W.ShapedOpen C.prog →
  Calls C.prog f args W fun e W' => ∃ v,e = .returned v ∧ (s.at F).post enc C.prog fn apart fresh handsOn again W args v W') :
 ReturnsInHanded a C os f .any (fun w args=>(s.pre enc C.prog fn conds apart w args ∧ X w args) ∧ sizedMet enc C.prog fn s apart w args) ((s.at F).post enc C.prog fn apart fresh handsOn again):=by
 refine returnsInHanded_of_calls own started noInit witness ?_
 intro w tape i _ hsh _ hok hpre _
 obtain ⟨_,_,_,fn',hfn',_,_,_,_,hval⟩:=hok
 obtain rfl : fn' = fn:=Option.some.inj (hfn'.symm.trans hfn)
 obtain ⟨⟨h0,hx⟩,_⟩:=hpre
 obtain ⟨ds,gs,before,hw,_,hkk⟩:=(OpenSpec.pre_some hk conds apart _ _).1 h0
 refine (contract (w.forCall tape i) w.heap.size i.args ds gs before hval (DataW.Whole.of_heap (w':=w.forCall tape i) (by rfl) hw) hkk (hX _ _ _ (by rfl) hx) hsh).mono fun e W' ⟨v,he,hp⟩=>?_
 subst he
 exact ChangeSpec.post_blind hp
theorem xP {H : Type} {enc : TypeId × Value → H} {C : Checked} {os : Os} {f : FuncId} {fn : Func} {s : OpenSpec} {k : (H : Type) → List (DataW H) → Bool} (hk : s.cond = some k) {conds : List PathCond} {apart : Bool} {X : World → Array Value → Prop} (modest : Bool) (w0 : World) (args : Array Value) (fuel : Nat) (hos : w0.os = os)
 (hsh : (w0.forCall (fun _ _=>0) ⟨#[],args,[]⟩).Shaped C.prog)
 (hok : Input.okWideB C.prog (w0.forCall (fun _ _=>0) ⟨#[],args,[]⟩) f ⟨#[],args,[]⟩ = true)
 {x : List (DataW H) × List (DataW H) × List MemPlace} (hx : DataW.whole enc C.prog (w0.forCall (fun _ _=>0) ⟨#[],args,[]⟩).memory fn.params.toList s.vars apart args.toList fuel = some x)
 (hconds : conds.all (PathCond.test C.prog ⟨fn.params.toList,x.1,s.bare.plain.varTypes C.prog,x.2.1⟩) = true) (hkk : k H (x.1 ++ x.2.1) = true)
 (hsz : s.bare.sizedB enc C.prog fn apart (w0.forCall (fun _ _=>0) ⟨#[],args,[]⟩).memory args fuel = true)
 (hX : X (w0.forCall (fun _ _=>0) ⟨#[],args,[]⟩).memory args) :
 ∃ (w : World) (tape : Tape) (i : Input),w.os = os ∧ (w.forCall tape i).Shaped C.prog ∧ i.vars = [] ∧ Input.okWide C.prog (w.forCall tape i) .any w.heap.size f i ∧
  ((s.pre enc C.prog fn conds apart (w.forCall tape i).memory i.args ∧ X (w.forCall tape i).memory i.args) ∧ sizedMet enc C.prog fn s apart (w.forCall tape i).memory i.args) ∧ ({ modest:=modest } : Assume).holds C.prog (lone (Frame.enter C.prog f i.args .normal) [] (w.forCall tape i)) :=
 ⟨w0,fun _ _=>0,⟨#[],args,[]⟩,hos,hsh,(Input.okWide_of_okWideB (base:=0) hok).1,(Input.okWide_of_okWideB hok).2,
  ⟨⟨(OpenSpec.pre_some hk conds apart _ _).2 ⟨x.1,x.2.1,x.2.2,DataW.Whole_of_whole hx,hconds,hkk⟩,hX⟩,sizedMet_of_sizedB hsz⟩,by
  simp only [Assume.holds]
  exact ⟨by simp,by simp,fun _=>Modest.zero,by simp,by simp⟩⟩
end Go.Proofs.YtfageokhpklkbaaGreatDoor
end

section
namespace Go.Proofs.YtfageokhpklkbaaGreatDoor
open Go Go.Aw Go.Nst Go.ChangeShapes Go.WideShapes Go.ChangeAt Go.RowKit

set_option maxRecDepth 100000 in
theorem ot (os : Os) (started : os.Started) (H : Type) (enc : TypeId × Value → H) (F : Stop.Interp) :
 ReturnsInHanded {} Tryz.checked os 3 .any (fun w args=>((Rows.OpenSpec.upto Rows.computeNoneSpec).pre enc Tryz.prog Tryz.f3 Rows.computeNoneUptoRow.domain false w args ∧ laidMetH Tryz.prog ko w) ∧ sizedMet enc Tryz.prog Tryz.f3 (Rows.OpenSpec.upto Rows.computeNoneSpec) false w args)
  (((Rows.OpenSpec.upto Rows.computeNoneSpec).at F).post enc Tryz.prog Tryz.f3 false true false false):=by
 refine nU (C:=Tryz.checked) (k:=Rows.uptoSmall) rfl (X:=fun w _=>laidMetH Tryz.prog ko w) (fun _ _ _ hh h=>h.of_heap hh) Hu started (by kernel_rfl) Tryz.func3
  (xP (enc:=enc) (C:=Tryz.checked) (os:=os) (k:=Rows.uptoSmall) rfl (X:=fun w _=>laidMetH Tryz.prog ko w) false (World.laidAll Tryz.prog os ko) #[.agg #[.slice none 0 0,.slice none 0 0],.int .i64 0] 8 (World.laidAll_os _ _ _) (xF os _) (by kernel_rfl) (x:=([.agg [.nil,.nil],.lit (.int .i64 0)],[],[])) (by kernel_rfl) (by kernel_rfl) (by kernel_rfl) (by kernel_rfl) (FI os _)) ?_
 intro W base args ds gs before hval0 hW hkk hL hsh
 have hval : ∀ (j : Nat) t v,Tryz.f3.params[j]? = some t → args[j]? = some v → Value.okWide Tryz.prog W .any base t v:=hval0
 have hW':=hW
 obtain ⟨p,q,hA0,hV,rfl,hfz,hnd⟩:=hW
 have hA : DataW.TrodAll enc Tryz.prog W 0 (fun _=>true) true Tryz.f3.params.toList args.toList ds p:=hA0
 rw [Tryz.params3] at hA hval
 obtain ⟨v0,vs,d0,ds',p0,p1,ea,rfl,rfl,h0,h1⟩:=trodAll_cons hA
 obtain ⟨v1,vs1,d1,ds1,p2,p3,ea1,rfl,rfl,h2,h3⟩:=trodAll_cons h1
 obtain ⟨rfl,rfl,rfl⟩:=trodAll_nil h3
 have ea : args = #[v0,v1]:=by apply Array.ext';simpa [ea1] using ea
 subst ea
 obtain ⟨rfl,rfl⟩:=trodVars_none hV
 have hb : Rows.uptoBulk d0 + Rows.uptoBulk d1 ≤ 1048576:=by
  simp only [Rows.uptoSmall,List.append_nil,Rows.uptoBulkAll,decide_eq_true_eq] at hkk
  omega
 have w0:=hval 0 25 v0 rfl rfl
 obtain ⟨a,ra,oa,la⟩:=HG (let ⟨cs,e,_⟩:=okWide_struct Tryz.underlying25 w0;⟨cs,e⟩) h0 (by omega)
 have w1:=hval 1 2 v1 rfl rfl
 obtain ⟨f1,h2⟩:=h2
 obtain ⟨n,et1,_,hn⟩:=DataW.trod_int Tryz.underlying2 h2
 have q1 : v1 = .int .i64 n:=by
  have e : v1.cells.toList = [v1]:=by
   cases v1 <;> first|rfl|(simp [Value.okWide,Cell.okWide,Cell.ok,Tryz.underlying2] at w1)
  rw [e] at et1
  simpa using et1
 subst q1
 refine ((rA (root:=n) MB oa la).calls (W:=W) (vs:=[v0,.int .i64 n]) (LH hL) (by simpa using ra)).mono fun e W' ⟨he,hb⟩=>?_
 exact ⟨_,he,Fg He (by kernel_rfl) (by kernel_rfl) (by kernel_rfl) Tryz.underlying4 hW' rfl hb⟩
end Go.Proofs.YtfageokhpklkbaaGreatDoor
end
