/-
  What the rows list, read by the runs; a start that meets it. One text for each progression: the call returns true from any start.
  No conditions.
-/
import Derived.Test.YtfijncpmhnnpiaaGreatDoorL2
import Derived.Test.YtfijncpmhnnpiaaGreatDoorCfg
import Derived.Test.YtfijncpmhnnpiaaGreatDoorTie
import Derived.Test.YtfijncpmhnnpiaaGreatDoorCards
import Derived.Lib.LaidTab
import Derived.Lay
import Derived.LaidMore
import Derived.LaidHandle
import Derived.Stop.Joined
import Derived.ChangeSame
import Derived.Test.YtfijncpmhnnpiaaGreatDoorShelfIx
import Derived.Test.YtfijncpmhnnpiaaGreatDoorA1
import Derived.Test.YtfijncpmhnnpiaaGreatDoorAl07
set_option linter.unusedVariables false
set_option linter.unusedSimpArgs false
section
namespace Go.Proofs.YtfijncpmhnnpiaaGreatDoor
open Go Go.Aw Go.ChangeShapes Go.WideShapes Go.ChangeAt Go.RowKit
set_option maxRecDepth 100000
theorem ownKnob0 : ownKnob Tryz.prog.godebug = none := by kernel_rfl
theorem laidOut0 : laidOutB Tryz.prog = true := by kernel_rfl
/-- What the row lists. -/
abbrev laidL : List (String × DataW Unit) := Rows.anbBackRow.laid
theorem start_met (os : Os) (args : Array Value) : laidMetH Tryz.prog laidL ((World.laidAll Tryz.prog os laidL).forCall (fun _ _ => 0) ⟨#[], args, []⟩).memory := by
  rw [MakeChecks.laidMetH_plain _ _ _ (by kernel_rfl)]
  exact laidMet_laidAll _ (by kernel_rfl) (by kernel_rfl)
theorem start_shaped (os : Os) (args : Array Value) : ((World.laidAll Tryz.prog os laidL).forCall (fun _ _ => 0) ⟨#[], args, []⟩).Shaped Tryz.prog := World.shaped_of_ZipB (by kernel_rfl) (by kernel_rfl)
def powL : List Int := [1, 10, 100, 1000, 10000, 100000, 1000000, 10000000, 100000000, 1000000000, 10000000000, 100000000000, 1000000000000, 10000000000000, 100000000000000, 1000000000000000, 10000000000000000, 100000000000000000, 1000000000000000000, 10000000000000000000]
theorem pow_is {W : World} (h : laidMetH Tryz.prog laidL W) : Lib.TabIs Tryz.prog W "internal/strconv.uint64pow10" .u64 powL := by
  rw [MakeChecks.laidMetH_plain _ _ _ (by kernel_rfl)] at h
  obtain ⟨ps, ⟨_, _, _, _, _, _, _, _, _, _, ⟨_, _, _, _, _, _, _, _, _, _, ⟨g, t, cs, fuel, p, q, hg, ht, hv, hd, _, _⟩, _⟩, _⟩, _⟩ := h
  obtain rfl := Option.some.inj ((show Tryz.prog.globalNamed "internal/strconv.uint64pow10" = some 0 by kernel_rfl).symm.trans hg)
  obtain rfl := Option.some.inj ((show (Tryz.prog.globals[0]?).map (·.type) = some 90 by kernel_rfl).symm.trans ht)
  unfold Lib.TabIs
  rw [hv, ← Lib.cells_of_tab (zs := powL) Tryz.underlying90 Tryz.underlying70 (by kernel_rfl) (by kernel_rfl) hd]
theorem shape_of {P : Program} {W : World} {name : String} {k : IntKind} {zs : List Int} {g : Nat} (h : Lib.TabIs P W name k zs) (hg : P.globalNamed name = some g) : ∃ ty, W.shape? g = some (ty, zs.length) := by
  unfold Lib.TabIs World.var? at h
  rw [hg, Option.bind_some] at h
  split at h
  · rename_i c t f hh
    simp only [Option.some.injEq] at h
    subst h
    exact ⟨t, by unfold World.shape?; rw [hh]; simp⟩
  · cases h
/-- As the library's wrap for listed variables; the contract is handed the world's shape too. -/
theorem returns_shaped {H : Type} {enc : TypeId × Value → H} {a : Assume} {C : Checked} {os : Os} {f : FuncId} {fn : Func} {s : ChangeSpec} {conds : List PathCond} {apart fresh handsOn again : Bool} {X : World → Array Value → Prop}
    (hX : ∀ (w w' : World) (args : Array Value), w.heap = w'.heap → X w args → X w' args)
    (own : ownKnob C.prog.godebug = none) (started : os.Started) (noInit : C.prog.inits.idxOf? f = none) (hfn : C.prog.funcs[f]? = some fn)
    (witness : ∃ (w : World) (tape : Tape) (i : Input), w.os = os ∧ (w.forCall tape i).Shaped C.prog ∧ i.vars = [] ∧ Input.okWide C.prog (w.forCall tape i) .any w.heap.size f i ∧
      ((s.pre enc C.prog fn conds apart (w.forCall tape i).memory i.args ∧ X (w.forCall tape i).memory i.args) ∧ sizedMet enc C.prog fn (OpenSpec.ofChange s) apart (w.forCall tape i).memory i.args) ∧ a.holds C.prog (lone (Frame.enter C.prog f i.args .normal) [] (w.forCall tape i)))
    (contract : ∀ (W : World) (base : Nat) (args : Array Value) (ds gs : List (DataW H)) (before : List MemPlace),
      (∀ (j : Nat) t v, fn.params[j]? = some t → args[j]? = some v → Value.okWide C.prog W .any base t v) →
      DataW.Whole enc C.prog fn.params.toList s.vars apart W args.toList ds gs before → X W args → W.ShapedOpen C.prog →
      Calls C.prog f args W fun e W' => ∃ v, e = .returned v ∧ s.post enc C.prog fn apart fresh handsOn again W args v W') :
    ReturnsInHanded a C os f .any (fun w args => (s.pre enc C.prog fn conds apart w args ∧ X w args) ∧ sizedMet enc C.prog fn (OpenSpec.ofChange s) apart w args) (s.post enc C.prog fn apart fresh handsOn again) := by
  refine returnsInHanded_of_calls own started noInit witness ?_
  intro w tape i _ hsh _ hok hpre _
  obtain ⟨_, _, _, fn', hfn', _, _, _, _, hval⟩ := hok
  obtain rfl : fn' = fn := Option.some.inj (hfn'.symm.trans hfn)
  obtain ⟨⟨⟨ds, gs, before, hw, _⟩, hx⟩, _⟩ := hpre
  refine (contract (w.forCall tape i) w.heap.size i.args ds gs before hval (DataW.Whole.of_heap (w' := w.forCall tape i) (by rfl) hw) (hX _ _ _ (by rfl) hx) hsh).mono fun e W' ⟨v, he, hp⟩ => ?_
  subst he
  exact ChangeSpec.post_blind hp
/-- The library's number that the machine sets: some number. -/
theorem maxLen_of {W : World} (h : W.ShapedOpen Tryz.prog) : ∃ m : Int, W.cell? ⟨1, 0, none⟩ = some (.int .i64 m) ∧ ∃ ty, W.shape? 1 = some (ty, 1) := by
  obtain ⟨m, hm⟩ := laysM143.s1_3 W h
  refine ⟨m, hm, ?_⟩
  obtain ⟨cs, hh, hs, _⟩ := h.1 1 #[.int .i64 0] 3 (of_decide_eq_true (by kernel_rfl)) (by kernel_rfl)
  exact ⟨3, by unfold World.shape?; rw [hh]; simp only [hs]; rfl⟩
theorem gok_of {W : World} [MaxL] (h : laidMetH Tryz.prog laidL W) (hm : W.cell? ⟨1, 0, none⟩ = some (.int .i64 MaxL.m)) (hs : ∃ ty, W.shape? 1 = some (ty, 1)) : GOK (old W) W := by
  intro g cs e
  have e : tabZ g = some cs := e
  unfold tabZ at e
  split at e
  · cases e
    exact ⟨RepC.ints (W := W) (g := 0) (k := .u64) (zs := powL) (fun i hi => (pow_is h).cell (by kernel_rfl) i hi), by simpa [powL, u64s] using shape_of (pow_is h) (g := 0) (by kernel_rfl)⟩
  · cases e
    exact ⟨RepC.ints (W := W) (g := 1) (k := .i64) (zs := [MaxL.m]) (fun i hi => by
      obtain rfl : i = 0 := by simpa using hi
      exact hm), by simpa using hs⟩
  · cases e
end Go.Proofs.YtfijncpmhnnpiaaGreatDoor
end

section
namespace Go.Proofs.YtfijncpmhnnpiaaGreatDoor
open Go Go.Aw Go.ChangeShapes Go.WideShapes Go.ChangeAt Go.RowKit
set_option maxRecDepth 100000
theorem anb_of {H : Type} {enc : TypeId × Value → H} {W : World} {base : Nat} {v : Value} {d : DataW H} {k : Nat} {ps : List MemPlace} (hval : Value.okWide Tryz.prog W .any base 23 v) (h : DataW.Trod enc Tryz.prog W k (fun _ => true) true 23 v d ps) :
    ∃ A B : Int, Rep [] (old W) W (.agg [int A, int B]) v := by
  obtain ⟨cs, rfl, hsz⟩ := okWide_struct Tryz.underlying23 hval
  obtain ⟨fuel, h⟩ := h
  obtain ⟨y0, y1, n, _, hl, h0, h1⟩ := trod_struct2 Tryz.underlying23 h
  obtain ⟨A, e0, _, _⟩ := DataW.trod_int Tryz.underlying2 h0
  obtain ⟨B, e1, _, _⟩ := DataW.trod_int Tryz.underlying2 h1
  have c2 : Tryz.prog.cellsOf 2 = 1 := by kernel_rfl
  have c36 : Tryz.prog.cellsOf 23 = 2 := by kernel_rfl
  rw [c36] at hl
  simp only [c2] at e0 e1
  refine ⟨A, B, ?_⟩
  have hcs : cs.toList = [.int .i64 A, .int .i64 B] := by
    have hl' : cs.toList.length = 2 := hl
    match hq : cs.toList, hl' with
    | [x, y], _ =>
      have q : (Value.agg cs).cells.toList = [x, y] := hq
      rw [q] at e0 e1
      simp at e0 e1
      rw [e0, e1]
  rw [Rep]
  refine ⟨[.int .i64 A, .int .i64 B], ?_, by simp⟩
  rw [← hcs]
theorem anbBack_lifted (os : Os) (started : os.Started) (H : Type) (enc : TypeId × Value → H) :
    ReturnsInHanded {} Tryz.checked os 3 .any (fun w args => (Rows.anbBackSpec.pre enc Tryz.prog Tryz.f3 Rows.anbBackRow.domain false w args ∧ laidMetH Tryz.prog laidL w) ∧ sizedMet enc Tryz.prog Tryz.f3 (OpenSpec.ofChange Rows.anbBackSpec) false w args)
      (Rows.anbBackSpec.post enc Tryz.prog Tryz.f3 false true false false) := by
  refine returns_shaped (C := Tryz.checked) (X := fun w _ => laidMetH Tryz.prog laidL w) (fun _ _ _ hh h => h.of_heap hh) ownKnob0 started (by kernel_rfl) Tryz.func3
    (ChangeSpec.witness_shaped (enc := enc) (C := Tryz.checked) (os := os) (X := fun w _ => laidMetH Tryz.prog laidL w) false (World.laidAll Tryz.prog os laidL) #[.agg #[.int .i64 0, .int .i64 0], .agg #[.int .i64 0, .int .i64 0]] 8 (World.laidAll_os _ _ _) (start_shaped os _) (by kernel_rfl) (by kernel_rfl) (by kernel_rfl) (start_met os _)) ?_
  intro W base args ds gs before hval0 hW hL hsh
  have hval : ∀ (j : Nat) t v, Tryz.f3.params[j]? = some t → args[j]? = some v → Value.okWide Tryz.prog W .any base t v := hval0
  have hW' := hW
  obtain ⟨p, q, hA0, hV, rfl, hfz, hnd⟩ := hW
  have hA : DataW.TrodAll enc Tryz.prog W 0 (fun _ => true) true Tryz.f3.params.toList args.toList ds p := hA0
  rw [Tryz.params3] at hA hval
  obtain ⟨v0, v1, d0, d1, p0, p1, rfl, rfl, rfl, h0, h1⟩ := trodAll_two hA
  obtain ⟨rfl, rfl⟩ := trodVars_none hV
  obtain ⟨A, B, ra⟩ := anb_of (hval 0 23 v0 rfl rfl) h0
  obtain ⟨C, D, rc⟩ := anb_of (hval 1 23 v1 rfl rfl) h1
  obtain ⟨m, hm, hs⟩ := maxLen_of hsh
  letI : MaxL := ⟨m⟩
  refine ((con_law con07 A B C D).calls (W := W) (vs := [v0, v1]) (gok_of hL hm hs) (by simpa using ⟨ra, rc⟩)).mono fun e W' ⟨he, hb⟩ => ?_
  exact ⟨_, he, post_true laidOut0 (by kernel_rfl) (by kernel_rfl) (by kernel_rfl) Tryz.underlying4 hW' rfl hb⟩
end Go.Proofs.YtfijncpmhnnpiaaGreatDoor
end
