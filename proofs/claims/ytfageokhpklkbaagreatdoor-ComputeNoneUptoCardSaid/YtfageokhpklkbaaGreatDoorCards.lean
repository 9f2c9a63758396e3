/-
  DERIVED. GIVEN WITH THE SEED: THE CARDS: each row of YtfageokhpklkbaaGreatDoorRows.lean that lists a variable, with what it lists TIED to the program's text (the seventh form; the later family's looks); each row that meets fmt, with fmt's text TOLD by the authors' own Lean function (tested against real Go, not proved from fmt's source: count such statements apart). THE CARD IS WHAT COUNTS. Prove the row's statement (the work); the ties are given (YtfageokhpklkbaaGreatDoorTie.lean); close each card by the builder's one call (the guide's Derived/Test/ToyasCard.lean, 'card_holds'). Laid BY PROGRAM, IN A SANDBOX (cutbox-door.mjs). By AI agents, Wed Nov 11 2026. No macro, syntax, notation, axiom, sorry.
-/
import Derived.Test.YtfageokhpklkbaaGreatDoorRows
import GoSem.ClaimSeven
namespace Go.Proofs.YtfageokhpklkbaaGreatDoor
namespace Rows

/-- THE TIED CARD OF 'vitrinelaw32.ComputeNone'. -/
def computeNoneCard : Claim7 := { stood := { row := computeNoneRow, standIns := [], harness := (true, "82466ed68692038966fdd3503d005395f98c262cb17a83ae49007035f7d23609"), looks := true }, kinds := [], alts := [], laidByText := true, laidKinds := [.data, .data, .data, .sentinel, .sentinel, .listed, .data], laidTests := true, laidLooks := .later }
def ComputeNoneCardSaid : Prop := Claim7.holds Tryz.pinned (.plain (OpenSpec.ofChange computeNoneSpec)) computeNoneCard

/-- THE SECOND FORM's CARD OF 'vitrinelaw32.ComputeNone'. -/
def computeNoneUptoCard : Claim7 := { stood := { row := computeNoneUptoRow, standIns := [], harness := (true, "82466ed68692038966fdd3503d005395f98c262cb17a83ae49007035f7d23609"), looks := true }, kinds := [], alts := [], laidByText := true, laidKinds := [.data, .data, .data, .sentinel, .sentinel, .listed, .data], laidTests := true, laidLooks := .later }
def ComputeNoneUptoCardSaid : Prop := Claim7.holds Tryz.pinned (.plain (OpenSpec.upto computeNoneSpec)) computeNoneUptoCard
end Rows
end Go.Proofs.YtfageokhpklkbaaGreatDoor
