/-
  DERIVED. GIVEN WITH THE SEED: THE CARDS: each row of YtldpambpnajgiaaGreatDoorRows.lean that lists a variable, with what it lists TIED to the program's text (the seventh form; the later family's looks); each row that meets fmt, with fmt's text TOLD by the authors' own Lean function (tested against real Go, not proved from fmt's source: count such statements apart). THE CARD IS WHAT COUNTS. Prove the row's statement (the work); the ties are given (YtldpambpnajgiaaGreatDoorTie.lean); close each card by the builder's one call (the guide's Derived/Test/ToyasCard.lean, 'card_holds'). Laid BY PROGRAM, IN A SANDBOX (cutbox-door.mjs). By AI agents, Wed Nov 11 2026. No macro, syntax, notation, axiom, sorry.
-/
import Derived.Test.YtldpambpnajgiaaGreatDoorRows
import GoSem.ClaimSeven
namespace Go.Proofs.YtldpambpnajgiaaGreatDoor
namespace Rows

/-- THE TIED CARD OF 'vitrinelaw32.ComputeLocal'. -/
def computeLocalCard : Claim7 := { stood := { row := computeLocalRow, standIns := [], harness := (true, "05f855492932fb6dbd4d8961eaf78c2da0e994c8fef93f6e3bdadc11218ea46a"), looks := true }, kinds := [], alts := [], laidByText := true, laidKinds := [.data, .data, .data, .sentinel, .sentinel, .listed, .data], laidTests := true, laidLooks := .later }
def ComputeLocalCardSaid : Prop := Claim7.holds Tryz.pinned (.plain (OpenSpec.ofChange computeLocalSpec)) computeLocalCard

/-- THE TIED CARD OF 'vitrinelaw32.ComputeSaid'. -/
def computeSaidCard : Claim7 := { stood := { row := computeSaidRow, standIns := [], harness := (true, "05f855492932fb6dbd4d8961eaf78c2da0e994c8fef93f6e3bdadc11218ea46a"), looks := true }, kinds := [], alts := [], laidByText := true, laidKinds := [.data, .data, .data, .sentinel, .sentinel, .listed, .data], laidTests := true, laidLooks := .later }
def ComputeSaidCardSaid : Prop := Claim7.holds Tryz.pinned (.plain (OpenSpec.ofChange computeSaidSpec)) computeSaidCard

/-- THE SECOND FORM's CARD OF 'vitrinelaw32.ComputeLocal'. -/
def computeLocalUptoCard : Claim7 := { stood := { row := computeLocalUptoRow, standIns := [], harness := (true, "05f855492932fb6dbd4d8961eaf78c2da0e994c8fef93f6e3bdadc11218ea46a"), looks := true }, kinds := [], alts := [], laidByText := true, laidKinds := [.data, .data, .data, .sentinel, .sentinel, .listed, .data], laidTests := true, laidLooks := .later }
def ComputeLocalUptoCardSaid : Prop := Claim7.holds Tryz.pinned (.plain (OpenSpec.upto computeLocalSpec)) computeLocalUptoCard

/-- THE SECOND FORM's CARD OF 'vitrinelaw32.ComputeSaid'. -/
def computeSaidUptoCard : Claim7 := { stood := { row := computeSaidUptoRow, standIns := [], harness := (true, "05f855492932fb6dbd4d8961eaf78c2da0e994c8fef93f6e3bdadc11218ea46a"), looks := true }, kinds := [], alts := [], laidByText := true, laidKinds := [.data, .data, .data, .sentinel, .sentinel, .listed, .data], laidTests := true, laidLooks := .later }
def ComputeSaidUptoCardSaid : Prop := Claim7.holds Tryz.pinned (.plain (OpenSpec.upto computeSaidSpec)) computeSaidUptoCard
end Rows
end Go.Proofs.YtldpambpnajgiaaGreatDoor
