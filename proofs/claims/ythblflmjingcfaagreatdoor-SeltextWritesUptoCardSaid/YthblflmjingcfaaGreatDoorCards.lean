/-
  DERIVED. GIVEN WITH THE SEED: THE CARDS: each row of YthblflmjingcfaaGreatDoorRows.lean that lists a variable, with what it lists TIED to the program's text (the seventh form; the later family's looks); each row that meets fmt, with fmt's text TOLD by the authors' own Lean function (tested against real Go, not proved from fmt's source: count such statements apart). THE CARD IS WHAT COUNTS. Prove the row's statement (the work); the ties are given (YthblflmjingcfaaGreatDoorTie.lean); close each card by the builder's one call (the guide's Derived/Test/ToyasCard.lean, 'card_holds'). Laid BY PROGRAM, IN A SANDBOX (cutbox-door.mjs). By AI agents, Wed Nov 11 2026. No macro, syntax, notation, axiom, sorry.
-/
import Derived.Test.YthblflmjingcfaaGreatDoorRows
import GoSem.ClaimSeven
namespace Go.Proofs.YthblflmjingcfaaGreatDoor
namespace Rows

/-- THE TIED CARD OF 'vitrinelaw08.SeltextWrites'. -/
def seltextWritesCard : Claim7 := { stood := { row := seltextWritesRow, standIns := [], harness := (true, "def1d1dd380be1227639edc40a28263f517ffcedcd915a0d961ff5f80f7202e4"), looks := true }, kinds := [], alts := [], laidByText := true, laidKinds := [.data, .data, .data, .data, .pinned], laidTests := true, laidLooks := .later }
def SeltextWritesCardSaid : Prop := Claim7.holds Tryz.pinned (.plain (OpenSpec.ofChange seltextWritesSpec)) seltextWritesCard

/-- THE TIED CARD OF 'vitrinelaw09.WeighCut'. -/
def weighCutCard : Claim7 := { stood := { row := weighCutRow, standIns := [], harness := (true, "def1d1dd380be1227639edc40a28263f517ffcedcd915a0d961ff5f80f7202e4"), looks := true }, kinds := [], alts := [], laidByText := true, laidKinds := [.data, .data, .data, .data, .sentinel, .sentinel, .pinned], laidTests := true, laidLooks := .later }
def WeighCutCardSaid : Prop := Claim7.holds Tryz.pinned (.plain (OpenSpec.ofChange weighCutSpec)) weighCutCard

/-- THE SECOND FORM's CARD OF 'vitrinelaw08.SeltextWrites'. -/
def seltextWritesUptoCard : Claim7 := { stood := { row := seltextWritesUptoRow, standIns := [], harness := (true, "def1d1dd380be1227639edc40a28263f517ffcedcd915a0d961ff5f80f7202e4"), looks := true }, kinds := [], alts := [], laidByText := true, laidKinds := [.data, .data, .data, .data, .pinned], laidTests := true, laidLooks := .later }
def SeltextWritesUptoCardSaid : Prop := Claim7.holds Tryz.pinned (.plain (OpenSpec.upto seltextWritesSpec)) seltextWritesUptoCard

/-- THE SECOND FORM's CARD OF 'vitrinelaw09.WeighCut'. -/
def weighCutUptoCard : Claim7 := { stood := { row := weighCutUptoRow, standIns := [], harness := (true, "def1d1dd380be1227639edc40a28263f517ffcedcd915a0d961ff5f80f7202e4"), looks := true }, kinds := [], alts := [], laidByText := true, laidKinds := [.data, .data, .data, .data, .sentinel, .sentinel, .pinned], laidTests := true, laidLooks := .later }
def WeighCutUptoCardSaid : Prop := Claim7.holds Tryz.pinned (.plain (OpenSpec.upto weighCutSpec)) weighCutUptoCard
end Rows
end Go.Proofs.YthblflmjingcfaaGreatDoor
