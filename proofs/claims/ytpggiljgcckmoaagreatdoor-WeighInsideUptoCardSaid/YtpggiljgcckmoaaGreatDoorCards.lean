/-
  DERIVED. GIVEN WITH THE SEED: THE CARDS: each row of YtpggiljgcckmoaaGreatDoorRows.lean that lists a variable, with what it lists TIED to the program's text (the seventh form; the later family's looks); each row that meets fmt, with fmt's text TOLD by the authors' own Lean function (tested against real Go, not proved from fmt's source: count such statements apart). THE CARD IS WHAT COUNTS. Prove the row's statement (the work); the ties are given (YtpggiljgcckmoaaGreatDoorTie.lean); close each card by the builder's one call (the guide's Derived/Test/ToyasCard.lean, 'card_holds'). Laid BY PROGRAM, IN A SANDBOX (cutbox-door.mjs). By AI agents, Wed Nov 11 2026. No macro, syntax, notation, axiom, sorry.
-/
import Derived.Test.YtpggiljgcckmoaaGreatDoorRows
import GoSem.ClaimSeven
namespace Go.Proofs.YtpggiljgcckmoaaGreatDoor
namespace Rows

/-- THE TIED CARD OF 'vitrinelaw09.WeighInside'. -/
def weighInsideCard : Claim7 := { stood := { row := weighInsideRow, standIns := [], harness := (true, "a1b511d6f36f044a5b10a0dbbf831ff2d52f93d045a0e5c8f01bc5fd3f50d1d4"), looks := true }, kinds := [], alts := [], laidByText := true, laidKinds := [.data, .data, .data, .data, .sentinel, .sentinel, .pinned], laidTests := true, laidLooks := .later }
def WeighInsideCardSaid : Prop := Claim7.holds Tryz.pinned (.plain (OpenSpec.ofChange weighInsideSpec)) weighInsideCard

/-- THE TIED CARD OF 'vitrinelaw09.WeighMore'. -/
def weighMoreCard : Claim7 := { stood := { row := weighMoreRow, standIns := [], harness := (true, "a1b511d6f36f044a5b10a0dbbf831ff2d52f93d045a0e5c8f01bc5fd3f50d1d4"), looks := true }, kinds := [], alts := [], laidByText := true, laidKinds := [.data, .data, .data, .data, .sentinel, .sentinel, .pinned], laidTests := true, laidLooks := .later }
def WeighMoreCardSaid : Prop := Claim7.holds Tryz.pinned (.plain (OpenSpec.ofChange weighMoreSpec)) weighMoreCard

/-- THE TIED CARD OF 'vitrinelaw09.WeighCut'. -/
def weighCutCard : Claim7 := { stood := { row := weighCutRow, standIns := [], harness := (true, "a1b511d6f36f044a5b10a0dbbf831ff2d52f93d045a0e5c8f01bc5fd3f50d1d4"), looks := true }, kinds := [], alts := [], laidByText := true, laidKinds := [.data, .data, .data, .data, .sentinel, .sentinel, .pinned], laidTests := true, laidLooks := .later }
def WeighCutCardSaid : Prop := Claim7.holds Tryz.pinned (.plain (OpenSpec.ofChange weighCutSpec)) weighCutCard

/-- THE TIED CARD OF 'vitrinelaw09.WeighOrder'. -/
def weighOrderCard : Claim7 := { stood := { row := weighOrderRow, standIns := [], harness := (true, "a1b511d6f36f044a5b10a0dbbf831ff2d52f93d045a0e5c8f01bc5fd3f50d1d4"), looks := true }, kinds := [], alts := [], laidByText := true, laidKinds := [.data, .data, .data, .data, .sentinel, .sentinel, .pinned], laidTests := true, laidLooks := .later }
def WeighOrderCardSaid : Prop := Claim7.holds Tryz.pinned (.plain (OpenSpec.ofChange weighOrderSpec)) weighOrderCard

/-- THE TIED CARD OF 'vitrinelaw09.WeighNames'. -/
def weighNamesCard : Claim7 := { stood := { row := weighNamesRow, standIns := [], harness := (true, "a1b511d6f36f044a5b10a0dbbf831ff2d52f93d045a0e5c8f01bc5fd3f50d1d4"), looks := true }, kinds := [], alts := [], laidByText := true, laidKinds := [.data, .data, .data, .data, .sentinel, .sentinel, .pinned], laidTests := true, laidLooks := .later }
def WeighNamesCardSaid : Prop := Claim7.holds Tryz.pinned (.plain (OpenSpec.ofChange weighNamesSpec)) weighNamesCard

/-- THE TIED CARD OF 'vitrinelaw08.SeltextNames'. -/
def seltextNamesCard : Claim7 := { stood := { row := seltextNamesRow, standIns := [], harness := (true, "a1b511d6f36f044a5b10a0dbbf831ff2d52f93d045a0e5c8f01bc5fd3f50d1d4"), looks := true }, kinds := [], alts := [], laidByText := true, laidKinds := [.data, .data, .data, .data, .sentinel, .sentinel, .pinned], laidTests := true, laidLooks := .later }
def SeltextNamesCardSaid : Prop := Claim7.holds Tryz.pinned (.plain (OpenSpec.ofChange seltextNamesSpec)) seltextNamesCard

/-- THE SECOND FORM's CARD OF 'vitrinelaw09.WeighInside'. -/
def weighInsideUptoCard : Claim7 := { stood := { row := weighInsideUptoRow, standIns := [], harness := (true, "a1b511d6f36f044a5b10a0dbbf831ff2d52f93d045a0e5c8f01bc5fd3f50d1d4"), looks := true }, kinds := [], alts := [], laidByText := true, laidKinds := [.data, .data, .data, .data, .sentinel, .sentinel, .pinned], laidTests := true, laidLooks := .later }
def WeighInsideUptoCardSaid : Prop := Claim7.holds Tryz.pinned (.plain (OpenSpec.upto weighInsideSpec)) weighInsideUptoCard

/-- THE SECOND FORM's CARD OF 'vitrinelaw09.WeighMore'. -/
def weighMoreUptoCard : Claim7 := { stood := { row := weighMoreUptoRow, standIns := [], harness := (true, "a1b511d6f36f044a5b10a0dbbf831ff2d52f93d045a0e5c8f01bc5fd3f50d1d4"), looks := true }, kinds := [], alts := [], laidByText := true, laidKinds := [.data, .data, .data, .data, .sentinel, .sentinel, .pinned], laidTests := true, laidLooks := .later }
def WeighMoreUptoCardSaid : Prop := Claim7.holds Tryz.pinned (.plain (OpenSpec.upto weighMoreSpec)) weighMoreUptoCard

/-- THE SECOND FORM's CARD OF 'vitrinelaw09.WeighCut'. -/
def weighCutUptoCard : Claim7 := { stood := { row := weighCutUptoRow, standIns := [], harness := (true, "a1b511d6f36f044a5b10a0dbbf831ff2d52f93d045a0e5c8f01bc5fd3f50d1d4"), looks := true }, kinds := [], alts := [], laidByText := true, laidKinds := [.data, .data, .data, .data, .sentinel, .sentinel, .pinned], laidTests := true, laidLooks := .later }
def WeighCutUptoCardSaid : Prop := Claim7.holds Tryz.pinned (.plain (OpenSpec.upto weighCutSpec)) weighCutUptoCard

/-- THE SECOND FORM's CARD OF 'vitrinelaw09.WeighOrder'. -/
def weighOrderUptoCard : Claim7 := { stood := { row := weighOrderUptoRow, standIns := [], harness := (true, "a1b511d6f36f044a5b10a0dbbf831ff2d52f93d045a0e5c8f01bc5fd3f50d1d4"), looks := true }, kinds := [], alts := [], laidByText := true, laidKinds := [.data, .data, .data, .data, .sentinel, .sentinel, .pinned], laidTests := true, laidLooks := .later }
def WeighOrderUptoCardSaid : Prop := Claim7.holds Tryz.pinned (.plain (OpenSpec.upto weighOrderSpec)) weighOrderUptoCard

/-- THE SECOND FORM's CARD OF 'vitrinelaw09.WeighNames'. -/
def weighNamesUptoCard : Claim7 := { stood := { row := weighNamesUptoRow, standIns := [], harness := (true, "a1b511d6f36f044a5b10a0dbbf831ff2d52f93d045a0e5c8f01bc5fd3f50d1d4"), looks := true }, kinds := [], alts := [], laidByText := true, laidKinds := [.data, .data, .data, .data, .sentinel, .sentinel, .pinned], laidTests := true, laidLooks := .later }
def WeighNamesUptoCardSaid : Prop := Claim7.holds Tryz.pinned (.plain (OpenSpec.upto weighNamesSpec)) weighNamesUptoCard

/-- THE SECOND FORM's CARD OF 'vitrinelaw08.SeltextNames'. -/
def seltextNamesUptoCard : Claim7 := { stood := { row := seltextNamesUptoRow, standIns := [], harness := (true, "a1b511d6f36f044a5b10a0dbbf831ff2d52f93d045a0e5c8f01bc5fd3f50d1d4"), looks := true }, kinds := [], alts := [], laidByText := true, laidKinds := [.data, .data, .data, .data, .sentinel, .sentinel, .pinned], laidTests := true, laidLooks := .later }
def SeltextNamesUptoCardSaid : Prop := Claim7.holds Tryz.pinned (.plain (OpenSpec.upto seltextNamesSpec)) seltextNamesUptoCard
end Rows
end Go.Proofs.YtpggiljgcckmoaaGreatDoor
