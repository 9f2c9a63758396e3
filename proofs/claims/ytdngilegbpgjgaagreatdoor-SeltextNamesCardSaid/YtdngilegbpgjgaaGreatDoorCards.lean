/-
  DERIVED. GIVEN WITH THE SEED: THE CARDS: each row of YtdngilegbpgjgaaGreatDoorRows.lean that lists a variable, with what it lists TIED to the program's text (the seventh form; the later family's looks); each row that meets fmt, with fmt's text TOLD by the authors' own Lean function (tested against real Go, not proved from fmt's source: count such statements apart). THE CARD IS WHAT COUNTS. Prove the row's statement (the work); the ties are given (YtdngilegbpgjgaaGreatDoorTie.lean); close each card by the builder's one call (the guide's Derived/Test/ToyasCard.lean, 'card_holds'). Laid BY PROGRAM, IN A SANDBOX (cutbox-door.mjs). By AI agents, Wed Nov 11 2026. No macro, syntax, notation, axiom, sorry.
-/
import Derived.Test.YtdngilegbpgjgaaGreatDoorRows
import GoSem.ClaimSeven
namespace Go.Proofs.YtdngilegbpgjgaaGreatDoor
namespace Rows

/-- THE TIED CARD OF 'vitrinelaw08.SeltextNames'. -/
def seltextNamesCard : Claim7 := { stood := { row := seltextNamesRow, standIns := [], harness := (true, "6373f0478161d42f6fb810999cad22f4f365e8a8374b28caa868dc78782008e4"), looks := true }, kinds := [], alts := [], laidByText := true, laidKinds := [.data, .data, .data, .data, .sentinel, .sentinel, .pinned], laidTests := true, laidLooks := .later }
def SeltextNamesCardSaid : Prop := Claim7.holds Tryz.pinned (.plain (OpenSpec.ofChange seltextNamesSpec)) seltextNamesCard

/-- THE TIED CARD OF 'vitrinelaw24.QueryNames'. -/
def queryNamesCard : Claim7 := { stood := { row := queryNamesRow, standIns := [], harness := (true, "6373f0478161d42f6fb810999cad22f4f365e8a8374b28caa868dc78782008e4"), looks := true }, kinds := [], alts := [], laidByText := true, laidKinds := [.data, .data, .data, .data, .sentinel, .sentinel, .pinned], laidTests := true, laidLooks := .later }
def QueryNamesCardSaid : Prop := Claim7.holds Tryz.pinned (.plain (OpenSpec.ofChange queryNamesSpec)) queryNamesCard

/-- THE SECOND FORM's CARD OF 'vitrinelaw08.SeltextNames'. -/
def seltextNamesUptoCard : Claim7 := { stood := { row := seltextNamesUptoRow, standIns := [], harness := (true, "6373f0478161d42f6fb810999cad22f4f365e8a8374b28caa868dc78782008e4"), looks := true }, kinds := [], alts := [], laidByText := true, laidKinds := [.data, .data, .data, .data, .sentinel, .sentinel, .pinned], laidTests := true, laidLooks := .later }
def SeltextNamesUptoCardSaid : Prop := Claim7.holds Tryz.pinned (.plain (OpenSpec.upto seltextNamesSpec)) seltextNamesUptoCard

/-- THE SECOND FORM's CARD OF 'vitrinelaw24.QueryNames'. -/
def queryNamesUptoCard : Claim7 := { stood := { row := queryNamesUptoRow, standIns := [], harness := (true, "6373f0478161d42f6fb810999cad22f4f365e8a8374b28caa868dc78782008e4"), looks := true }, kinds := [], alts := [], laidByText := true, laidKinds := [.data, .data, .data, .data, .sentinel, .sentinel, .pinned], laidTests := true, laidLooks := .later }
def QueryNamesUptoCardSaid : Prop := Claim7.holds Tryz.pinned (.plain (OpenSpec.upto queryNamesSpec)) queryNamesUptoCard
end Rows
end Go.Proofs.YtdngilegbpgjgaaGreatDoor
