/-
  DERIVED. GIVEN WITH THE SEED: THE CARDS: each row of YtfijncpmhnnpiaaGreatDoorRows.lean that lists a variable, with what it lists TIED to the program's text (the seventh form; the later family's looks); each row that meets fmt, with fmt's text TOLD by the authors' own Lean function (tested against real Go, not proved from fmt's source: count such statements apart). THE CARD IS WHAT COUNTS. Prove the row's statement (the work); the ties are given (YtfijncpmhnnpiaaGreatDoorTie.lean); close each card by the builder's one call (the guide's Derived/Test/ToyasCard.lean, 'card_holds'). Laid BY PROGRAM, IN A SANDBOX (cutbox-door.mjs). By AI agents, Wed Nov 11 2026. No macro, syntax, notation, axiom, sorry.
-/
import Derived.Test.YtfijncpmhnnpiaaGreatDoorRows
import GoSem.ClaimSeven
namespace Go.Proofs.YtfijncpmhnnpiaaGreatDoor
namespace Rows

/-- THE TIED CARD OF 'vitrinelaw07.AnbBack'. -/
def anbBackCard : Claim7 := { stood := { row := anbBackRow, standIns := [], harness := (true, "7e0ac196e80bd4e2f57eb7ef9b74e8333c684bad429039ef12f765aa001ec7b4"), looks := true }, kinds := [], alts := [], laidByText := true, laidKinds := [.data, .data, .data, .data, .sentinel, .sentinel, .pinned], laidTests := true, laidLooks := .later }
def AnbBackCardSaid : Prop := Claim7.holds Tryz.pinned (.plain (OpenSpec.ofChange anbBackSpec)) anbBackCard

/-- THE SECOND FORM's CARD OF 'vitrinelaw07.AnbBack'. -/
def anbBackUptoCard : Claim7 := { stood := { row := anbBackUptoRow, standIns := [], harness := (true, "7e0ac196e80bd4e2f57eb7ef9b74e8333c684bad429039ef12f765aa001ec7b4"), looks := true }, kinds := [], alts := [], laidByText := true, laidKinds := [.data, .data, .data, .data, .sentinel, .sentinel, .pinned], laidTests := true, laidLooks := .later }
def AnbBackUptoCardSaid : Prop := Claim7.holds Tryz.pinned (.plain (OpenSpec.upto anbBackSpec)) anbBackUptoCard
end Rows
end Go.Proofs.YtfijncpmhnnpiaaGreatDoor
