/-
  What the row of AnbTells lists, read by the contracts; a start that meets it; a progression that comes in, told.
  No conditions.
-/
import Derived.Test.YtedaaincibcbkaaDoorFin
import Derived.Test.YtedaaincibcbkaaDoorTells
import Derived.Test.YtedaaincibcbkaaDoorTie
import Derived.Test.YtedaaincibcbkaaDoorCards
import Derived.Lib.LaidTab
import Derived.Lay
import Derived.LaidMore
import Derived.LaidHandle
import Derived.Stop.Joined
import Derived.ChangeSame
namespace Go.Proofs.YtedaaincibcbkaaDoor
open Go Go.Aw Go.ChangeShapes Go.WideShapes Go.ChangeAt Go.RowKit
set_option maxRecDepth 100000
theorem ownKnob0 : ownKnob Tryd.prog.godebug = none := by kernel_rfl
theorem laidOut0 : laidOutB Tryd.prog = true := by kernel_rfl
/-- What the row lists. -/
abbrev laidL : List (String × DataW Unit) := Rows.anbTellsRow.laid
theorem start_met (os : Os) (args : Array Value) : laidMetH Tryd.prog laidL ((World.laidAll Tryd.prog os laidL).forCall (fun _ _ => 0) ⟨#[], args, []⟩).memory := by
  rw [MakeChecks.laidMetH_plain _ _ _ (by kernel_rfl)]
  exact laidMet_laidAll _ (by kernel_rfl) (by kernel_rfl)
theorem start_shaped (os : Os) (args : Array Value) : ((World.laidAll Tryd.prog os laidL).forCall (fun _ _ => 0) ⟨#[], args, []⟩).Shaped Tryd.prog := World.shaped_of_ZipB (by kernel_rfl) (by kernel_rfl)
theorem pow_is {W : World} (h : laidMetH Tryd.prog laidL W) : Lib.TabIs Tryd.prog W "internal/strconv.uint64pow10" .u64 powL := by
  rw [MakeChecks.laidMetH_plain _ _ _ (by kernel_rfl)] at h
  obtain ⟨ps, ⟨_, _, _, _, _, _, _, _, _, _, ⟨_, _, _, _, _, _, _, _, _, _, ⟨g, t, cs, fuel, p, q, hg, ht, hv, hd, _, _⟩, _⟩, _⟩, _⟩ := h
  obtain rfl := Option.some.inj ((show Tryd.prog.globalNamed "internal/strconv.uint64pow10" = some 0 by kernel_rfl).symm.trans hg)
  obtain rfl := Option.some.inj ((show (Tryd.prog.globals[0]?).map (·.type) = some 186 by kernel_rfl).symm.trans ht)
  unfold Lib.TabIs
  rw [hv, ← Lib.cells_of_tab (zs := powL) Tryd.underlying186 Tryd.underlying163 (by kernel_rfl) (by kernel_rfl) hd]
theorem shape_of {P : Program} {W : World} {name : String} {k : IntKind} {zs : List Int} {g : Nat} (h : Lib.TabIs P W name k zs) (hg : P.globalNamed name = some g) : ∃ ty, W.shape? g = some (ty, zs.length) := by
  unfold Lib.TabIs World.var? at h
  rw [hg, Option.bind_some] at h
  split at h
  · rename_i c t f hh
    simp only [Option.some.injEq] at h
    subst h
    exact ⟨t, by unfold World.shape?; rw [hh]; simp⟩
  · cases h
theorem gok_of {W : World} (h : laidMetH Tryd.prog laidL W) : GOK (old W) W := by
  intro g cs e
  have e : tabA g = some cs := e
  unfold tabA at e
  split at e
  · rename_i hg
    subst hg
    cases e
    exact ⟨RepC.ints (W := W) (g := 0) (k := .u64) (zs := powL) (fun i hi => (pow_is h).cell (by kernel_rfl) i hi), by simpa [powA] using shape_of (pow_is h) (g := 0) (by kernel_rfl)⟩
  · cases e
theorem anb_of {H : Type} {enc : TypeId × Value → H} {W : World} {base : Nat} {v : Value} {d : DataW H} {ps : List MemPlace} (hval : Value.okWide Tryd.prog W .any base 23 v) (h : DataW.Trod enc Tryd.prog W 0 (fun _ => true) true 23 v d ps) :
    ∃ A B : Int, Rep [] (old W) W (anbA A B) v := by
  obtain ⟨cs, rfl, hsz⟩ := okWide_struct Tryd.underlying23 hval
  obtain ⟨fuel, h⟩ := h
  obtain ⟨y0, y1, n, _, hl, h0, h1⟩ := trod_struct2 Tryd.underlying23 h
  obtain ⟨A, e0, _, _⟩ := DataW.trod_int Tryd.underlying2 h0
  obtain ⟨B, e1, _, _⟩ := DataW.trod_int Tryd.underlying2 h1
  have c2 : Tryd.prog.cellsOf 2 = 1 := by kernel_rfl
  have c36 : Tryd.prog.cellsOf 23 = 2 := by kernel_rfl
  rw [c36] at hl
  simp only [c2] at e0 e1
  refine ⟨A, B, ?_⟩
  have hcs : cs.toList = [.int .i64 A, .int .i64 B] := by
    have hl' : cs.toList.length = 2 := hl
    match hq : cs.toList, hl' with
    | [x, y], _ =>
      have q : (Value.agg cs).cells.toList = [x, y] := hq
      rw [q] at e0 e1
      simp at e0 e1
      rw [e0, e1]
  unfold anbA
  rw [Rep]
  refine ⟨[.int .i64 A, .int .i64 B], ?_, by simp⟩
  rw [← hcs]
end Go.Proofs.YtedaaincibcbkaaDoor
