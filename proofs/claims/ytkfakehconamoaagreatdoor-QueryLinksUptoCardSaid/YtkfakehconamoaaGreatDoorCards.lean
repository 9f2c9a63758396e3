/-
  DERIVED. GIVEN WITH THE SEED: THE CARDS: each row of YtkfakehconamoaaGreatDoorRows.lean that lists a variable, with what it lists TIED to the program's text (the seventh form; the later family's looks); each row that meets fmt, with fmt's text TOLD by the authors' own Lean function (tested against real Go, not proved from fmt's source: count such statements apart). THE CARD IS WHAT COUNTS. Prove the row's statement (the work); the ties are given (YtkfakehconamoaaGreatDoorTie.lean); close each card by the builder's one call (the guide's Derived/Test/ToyasCard.lean, 'card_holds'). Laid BY PROGRAM, IN A SANDBOX (cutbox-door.mjs). By AI agents, Wed Nov 11 2026. No macro, syntax, notation, axiom, sorry.
-/
import Derived.Test.YtkfakehconamoaaGreatDoorRows
import GoSem.ClaimSeven
namespace Go.Proofs.YtkfakehconamoaaGreatDoor
namespace Rows

/-- THE TIED CARD OF 'vitrinelaw24.QueryLinks'. -/
def queryLinksCard : Claim7 := { stood := { row := queryLinksRow, standIns := [], harness := (true, "3665751982fbac7748dff38b8162a45a895b0b9655b16775e4daf8907363fcd4"), looks := true }, kinds := [], alts := [], laidByText := true, laidKinds := [.data, .data, .data, .data, .sentinel, .sentinel, .pinned], laidTests := true, laidLooks := .later }
def QueryLinksCardSaid : Prop := Claim7.holds Tryz.pinned (.plain (OpenSpec.ofChange queryLinksSpec)) queryLinksCard

/-- THE TIED CARD OF 'vitrinelaw24.QueryParts'. -/
def queryPartsCard : Claim7 := { stood := { row := queryPartsRow, standIns := [], harness := (true, "3665751982fbac7748dff38b8162a45a895b0b9655b16775e4daf8907363fcd4"), looks := true }, kinds := [], alts := [], laidByText := true, laidKinds := [.data, .data, .data, .data, .sentinel, .sentinel, .pinned], laidTests := true, laidLooks := .later }
def QueryPartsCardSaid : Prop := Claim7.holds Tryz.pinned (.plain (OpenSpec.ofChange queryPartsSpec)) queryPartsCard

/-- THE TIED CARD OF 'vitrinelaw24.QueryClosest'. -/
def queryClosestCard : Claim7 := { stood := { row := queryClosestRow, standIns := [], harness := (true, "3665751982fbac7748dff38b8162a45a895b0b9655b16775e4daf8907363fcd4"), looks := true }, kinds := [], alts := [], laidByText := true, laidKinds := [.data, .data, .data, .data, .sentinel, .sentinel, .pinned], laidTests := true, laidLooks := .later }
def QueryClosestCardSaid : Prop := Claim7.holds Tryz.pinned (.plain (OpenSpec.ofChange queryClosestSpec)) queryClosestCard

/-- THE TIED CARD OF 'vitrinelaw24.QueryOrder'. -/
def queryOrderCard : Claim7 := { stood := { row := queryOrderRow, standIns := [], harness := (true, "3665751982fbac7748dff38b8162a45a895b0b9655b16775e4daf8907363fcd4"), looks := true }, kinds := [], alts := [], laidByText := true, laidKinds := [.data, .data, .data, .data, .sentinel, .sentinel, .pinned], laidTests := true, laidLooks := .later }
def QueryOrderCardSaid : Prop := Claim7.holds Tryz.pinned (.plain (OpenSpec.ofChange queryOrderSpec)) queryOrderCard

/-- THE SECOND FORM's CARD OF 'vitrinelaw24.QueryLinks'. -/
def queryLinksUptoCard : Claim7 := { stood := { row := queryLinksUptoRow, standIns := [], harness := (true, "3665751982fbac7748dff38b8162a45a895b0b9655b16775e4daf8907363fcd4"), looks := true }, kinds := [], alts := [], laidByText := true, laidKinds := [.data, .data, .data, .data, .sentinel, .sentinel, .pinned], laidTests := true, laidLooks := .later }
def QueryLinksUptoCardSaid : Prop := Claim7.holds Tryz.pinned (.plain (OpenSpec.upto queryLinksSpec)) queryLinksUptoCard

/-- THE SECOND FORM's CARD OF 'vitrinelaw24.QueryParts'. -/
def queryPartsUptoCard : Claim7 := { stood := { row := queryPartsUptoRow, standIns := [], harness := (true, "3665751982fbac7748dff38b8162a45a895b0b9655b16775e4daf8907363fcd4"), looks := true }, kinds := [], alts := [], laidByText := true, laidKinds := [.data, .data, .data, .data, .sentinel, .sentinel, .pinned], laidTests := true, laidLooks := .later }
def QueryPartsUptoCardSaid : Prop := Claim7.holds Tryz.pinned (.plain (OpenSpec.upto queryPartsSpec)) queryPartsUptoCard

/-- THE SECOND FORM's CARD OF 'vitrinelaw24.QueryClosest'. -/
def queryClosestUptoCard : Claim7 := { stood := { row := queryClosestUptoRow, standIns := [], harness := (true, "3665751982fbac7748dff38b8162a45a895b0b9655b16775e4daf8907363fcd4"), looks := true }, kinds := [], alts := [], laidByText := true, laidKinds := [.data, .data, .data, .data, .sentinel, .sentinel, .pinned], laidTests := true, laidLooks := .later }
def QueryClosestUptoCardSaid : Prop := Claim7.holds Tryz.pinned (.plain (OpenSpec.upto queryClosestSpec)) queryClosestUptoCard

/-- THE SECOND FORM's CARD OF 'vitrinelaw24.QueryOrder'. -/
def queryOrderUptoCard : Claim7 := { stood := { row := queryOrderUptoRow, standIns := [], harness := (true, "3665751982fbac7748dff38b8162a45a895b0b9655b16775e4daf8907363fcd4"), looks := true }, kinds := [], alts := [], laidByText := true, laidKinds := [.data, .data, .data, .data, .sentinel, .sentinel, .pinned], laidTests := true, laidLooks := .later }
def QueryOrderUptoCardSaid : Prop := Claim7.holds Tryz.pinned (.plain (OpenSpec.upto queryOrderSpec)) queryOrderUptoCard
end Rows
end Go.Proofs.YtkfakehconamoaaGreatDoor
