/-
  What the rows list, read by the runs; a start that meets it.
  No conditions.
-/
import Derived.Test.YtpggiljgcckmoaaGreatDoorFin
import Derived.Test.YtpggiljgcckmoaaGreatDoorCfg
import Derived.Test.YtpggiljgcckmoaaGreatDoorTie
import Derived.Test.YtpggiljgcckmoaaGreatDoorCards
import Derived.Lib.LaidTab
import Derived.Lay
import Derived.LaidMore
import Derived.LaidHandle
import Derived.Stop.Joined
import Derived.ChangeSame
namespace Go.Proofs.YtpggiljgcckmoaaGreatDoor
open Go Go.Aw Go.ChangeShapes Go.WideShapes Go.ChangeAt Go.RowKit
set_option maxRecDepth 100000
theorem ownKnob0 : ownKnob Tryz.prog.godebug = none := by kernel_rfl
theorem laidOut0 : laidOutB Tryz.prog = true := by kernel_rfl
/-- What the row lists. -/
abbrev laidL : List (String × DataW Unit) := Rows.weighNamesRow.laid
theorem start_met (os : Os) (args : Array Value) : laidMetH Tryz.prog laidL ((World.laidAll Tryz.prog os laidL).forCall (fun _ _ => 0) ⟨#[], args, []⟩).memory := by
  rw [MakeChecks.laidMetH_plain _ _ _ (by kernel_rfl)]
  exact laidMet_laidAll _ (by kernel_rfl) (by kernel_rfl)
theorem start_shaped (os : Os) (args : Array Value) : ((World.laidAll Tryz.prog os laidL).forCall (fun _ _ => 0) ⟨#[], args, []⟩).Shaped Tryz.prog := World.shaped_of_ZipB (by kernel_rfl) (by kernel_rfl)
def powL : List Int := [1, 10, 100, 1000, 10000, 100000, 1000000, 10000000, 100000000, 1000000000, 10000000000, 100000000000, 1000000000000, 10000000000000, 100000000000000, 1000000000000000, 10000000000000000, 100000000000000000, 1000000000000000000, 10000000000000000000]
theorem pow_is {W : World} (h : laidMetH Tryz.prog laidL W) : Lib.TabIs Tryz.prog W "internal/strconv.uint64pow10" .u64 powL := by
  rw [MakeChecks.laidMetH_plain _ _ _ (by kernel_rfl)] at h
  obtain ⟨ps, ⟨_, _, _, _, _, _, _, _, _, _, ⟨_, _, _, _, _, _, _, _, _, _, ⟨g, t, cs, fuel, p, q, hg, ht, hv, hd, _, _⟩, _⟩, _⟩, _⟩ := h
  obtain rfl := Option.some.inj ((show Tryz.prog.globalNamed "internal/strconv.uint64pow10" = some 1 by kernel_rfl).symm.trans hg)
  obtain rfl := Option.some.inj ((show (Tryz.prog.globals[1]?).map (·.type) = some 258 by kernel_rfl).symm.trans ht)
  unfold Lib.TabIs
  rw [hv, ← Lib.cells_of_tab (zs := powL) Tryz.underlying258 Tryz.underlying219 (by kernel_rfl) (by kernel_rfl) hd]
theorem shape_of {P : Program} {W : World} {name : String} {k : IntKind} {zs : List Int} {g : Nat} (h : Lib.TabIs P W name k zs) (hg : P.globalNamed name = some g) : ∃ ty, W.shape? g = some (ty, zs.length) := by
  unfold Lib.TabIs World.var? at h
  rw [hg, Option.bind_some] at h
  split at h
  · rename_i c t f hh
    simp only [Option.some.injEq] at h
    subst h
    exact ⟨t, by unfold World.shape?; rw [hh]; simp⟩
  · cases h
theorem gok_of {W : World} (h : laidMetH Tryz.prog laidL W) : GOK (old W) W := by
  intro g cs e
  have e : tabZ g = some cs := e
  unfold tabZ at e
  split at e
  · cases e
    exact ⟨RepC.ints (W := W) (g := 1) (k := .u64) (zs := powL) (fun i hi => (pow_is h).cell (by kernel_rfl) i hi), by simpa [powL, u64s] using shape_of (pow_is h) (g := 1) (by kernel_rfl)⟩
  · cases e
end Go.Proofs.YtpggiljgcckmoaaGreatDoor
