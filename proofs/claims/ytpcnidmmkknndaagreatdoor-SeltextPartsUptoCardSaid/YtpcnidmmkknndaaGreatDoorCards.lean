/-
  DERIVED. GIVEN WITH THE SEED: THE CARDS: each row of YtpcnidmmkknndaaGreatDoorRows.lean that lists a variable, with what it lists TIED to the program's text (the seventh form; the later family's looks); each row that meets fmt, with fmt's text TOLD by the authors' own Lean function (tested against real Go, not proved from fmt's source: count such statements apart). THE CARD IS WHAT COUNTS. Prove the row's statement (the work); the ties are given (YtpcnidmmkknndaaGreatDoorTie.lean); close each card by the builder's one call (the guide's Derived/Test/ToyasCard.lean, 'card_holds'). Laid BY PROGRAM, IN A SANDBOX (cutbox-door.mjs). By AI agents, Wed Nov 11 2026. No macro, syntax, notation, axiom, sorry.
-/
import Derived.Test.YtpcnidmmkknndaaGreatDoorRows
import GoSem.ClaimSeven
namespace Go.Proofs.YtpcnidmmkknndaaGreatDoor
namespace Rows

/-- THE TIED CARD OF 'vitrinelaw08.SeltextBack'. -/
def seltextBackCard : Claim7 := { stood := { row := seltextBackRow, standIns := [], harness := (true, "f43b45cd2ab8153972a20ec23f4c42ff99b23d6a802022ed84a9f576846e514c"), looks := true }, kinds := [], alts := [], laidByText := true, laidKinds := [.data, .data, .data, .data, .sentinel, .sentinel, .pinned], laidTests := true, laidLooks := .later }
def SeltextBackCardSaid : Prop := Claim7.holds Tryz.pinned (.plain (OpenSpec.ofChange seltextBackSpec)) seltextBackCard

/-- THE TIED CARD OF 'vitrinelaw08.SeltextSpaces'. -/
def seltextSpacesCard : Claim7 := { stood := { row := seltextSpacesRow, standIns := [], harness := (true, "f43b45cd2ab8153972a20ec23f4c42ff99b23d6a802022ed84a9f576846e514c"), looks := true }, kinds := [], alts := [], laidByText := true, laidKinds := [.data, .data, .data, .data, .sentinel, .sentinel, .pinned], laidTests := true, laidLooks := .later }
def SeltextSpacesCardSaid : Prop := Claim7.holds Tryz.pinned (.plain (OpenSpec.ofChange seltextSpacesSpec)) seltextSpacesCard

/-- THE TIED CARD OF 'vitrinelaw08.SeltextParts'. -/
def seltextPartsCard : Claim7 := { stood := { row := seltextPartsRow, standIns := [], harness := (true, "f43b45cd2ab8153972a20ec23f4c42ff99b23d6a802022ed84a9f576846e514c"), looks := true }, kinds := [], alts := [], laidByText := true, laidKinds := [.data, .data, .data, .data, .sentinel, .sentinel, .pinned], laidTests := true, laidLooks := .later }
def SeltextPartsCardSaid : Prop := Claim7.holds Tryz.pinned (.plain (OpenSpec.ofChange seltextPartsSpec)) seltextPartsCard

/-- THE SECOND FORM's CARD OF 'vitrinelaw08.SeltextBack'. -/
def seltextBackUptoCard : Claim7 := { stood := { row := seltextBackUptoRow, standIns := [], harness := (true, "f43b45cd2ab8153972a20ec23f4c42ff99b23d6a802022ed84a9f576846e514c"), looks := true }, kinds := [], alts := [], laidByText := true, laidKinds := [.data, .data, .data, .data, .sentinel, .sentinel, .pinned], laidTests := true, laidLooks := .later }
def SeltextBackUptoCardSaid : Prop := Claim7.holds Tryz.pinned (.plain (OpenSpec.upto seltextBackSpec)) seltextBackUptoCard

/-- THE SECOND FORM's CARD OF 'vitrinelaw08.SeltextSpaces'. -/
def seltextSpacesUptoCard : Claim7 := { stood := { row := seltextSpacesUptoRow, standIns := [], harness := (true, "f43b45cd2ab8153972a20ec23f4c42ff99b23d6a802022ed84a9f576846e514c"), looks := true }, kinds := [], alts := [], laidByText := true, laidKinds := [.data, .data, .data, .data, .sentinel, .sentinel, .pinned], laidTests := true, laidLooks := .later }
def SeltextSpacesUptoCardSaid : Prop := Claim7.holds Tryz.pinned (.plain (OpenSpec.upto seltextSpacesSpec)) seltextSpacesUptoCard

/-- THE SECOND FORM's CARD OF 'vitrinelaw08.SeltextParts'. -/
def seltextPartsUptoCard : Claim7 := { stood := { row := seltextPartsUptoRow, standIns := [], harness := (true, "f43b45cd2ab8153972a20ec23f4c42ff99b23d6a802022ed84a9f576846e514c"), looks := true }, kinds := [], alts := [], laidByText := true, laidKinds := [.data, .data, .data, .data, .sentinel, .sentinel, .pinned], laidTests := true, laidLooks := .later }
def SeltextPartsUptoCardSaid : Prop := Claim7.holds Tryz.pinned (.plain (OpenSpec.upto seltextPartsSpec)) seltextPartsUptoCard
end Rows
end Go.Proofs.YtpcnidmmkknndaaGreatDoor
