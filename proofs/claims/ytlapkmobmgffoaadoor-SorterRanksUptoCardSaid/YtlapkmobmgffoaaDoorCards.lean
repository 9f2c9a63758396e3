/-
  DERIVED. GIVEN WITH THE SEED: THE CARDS: each row of YtlapkmobmgffoaaDoorRows.lean that lists a variable, with what it lists TIED to the program's text (the seventh form; the later family's looks); each row that meets fmt, with fmt's text TOLD by the authors' own Lean function (tested against real Go, not proved from fmt's source: count such statements apart). THE CARD IS WHAT COUNTS. Prove the row's statement (the work); the ties are given (YtlapkmobmgffoaaDoorTie.lean); close each card by the builder's one call (the guide's Derived/Test/ToyasCard.lean, 'card_holds'). Laid BY PROGRAM, IN A SANDBOX (cutbox-door.mjs). By AI agents, Wed Nov 11 2026. No macro, syntax, notation, axiom, sorry.
-/
import Derived.Test.YtlapkmobmgffoaaDoorRows
import GoSem.ClaimSeven
namespace Go.Proofs.YtlapkmobmgffoaaDoor
namespace Rows

/-- THE TIED CARD OF 'vitrinelaw29.SorterRanks'. -/
def sorterRanksCard : Claim7 := { stood := { row := sorterRanksRow, standIns := [], harness := (true, "e59f93f9aab743362266dbb45ee91881096c1369589623043509988c2f6cf04c"), looks := false }, kinds := [], alts := [], laidByText := true, laidKinds := [.listed, .data], laidTests := true, laidLooks := .later }
def SorterRanksCardSaid : Prop := Claim7.holds Tryd.pinned (.plain (OpenSpec.ofChange sorterRanksSpec)) sorterRanksCard

/-- THE TIED CARD OF 'vitrinelaw35.PaintTells'. -/
def paintTellsCard : Claim7 := { stood := { row := paintTellsRow, standIns := [], harness := (true, "e59f93f9aab743362266dbb45ee91881096c1369589623043509988c2f6cf04c"), looks := false }, kinds := [], alts := [], laidByText := true, laidKinds := [.listed, .data], laidTests := true, laidLooks := .later }
def PaintTellsCardSaid : Prop := Claim7.holds Tryd.pinned (.plain (OpenSpec.ofChange paintTellsSpec)) paintTellsCard

/-- THE TIED CARD OF 'vitrinelaw29.SorterSorts'. -/
def sorterSortsCard : Claim7 := { stood := { row := sorterSortsRow, standIns := [], harness := (true, "e59f93f9aab743362266dbb45ee91881096c1369589623043509988c2f6cf04c"), looks := false }, kinds := [], alts := [], laidByText := true, laidKinds := [.listed, .data], laidTests := true, laidLooks := .later }
def SorterSortsCardSaid : Prop := Claim7.holds Tryd.pinned (.plain (OpenSpec.ofChange sorterSortsSpec)) sorterSortsCard

/-- THE SECOND FORM's CARD OF 'vitrinelaw29.SorterRanks'. -/
def sorterRanksUptoCard : Claim7 := { stood := { row := sorterRanksUptoRow, standIns := [], harness := (true, "e59f93f9aab743362266dbb45ee91881096c1369589623043509988c2f6cf04c"), looks := false }, kinds := [], alts := [], laidByText := true, laidKinds := [.listed, .data], laidTests := true, laidLooks := .later }
def SorterRanksUptoCardSaid : Prop := Claim7.holds Tryd.pinned (.plain (OpenSpec.upto sorterRanksSpec)) sorterRanksUptoCard

/-- THE SECOND FORM's CARD OF 'vitrinelaw35.PaintTells'. -/
def paintTellsUptoCard : Claim7 := { stood := { row := paintTellsUptoRow, standIns := [], harness := (true, "e59f93f9aab743362266dbb45ee91881096c1369589623043509988c2f6cf04c"), looks := false }, kinds := [], alts := [], laidByText := true, laidKinds := [.listed, .data], laidTests := true, laidLooks := .later }
def PaintTellsUptoCardSaid : Prop := Claim7.holds Tryd.pinned (.plain (OpenSpec.upto paintTellsSpec)) paintTellsUptoCard

/-- THE SECOND FORM's CARD OF 'vitrinelaw29.SorterSorts'. -/
def sorterSortsUptoCard : Claim7 := { stood := { row := sorterSortsUptoRow, standIns := [], harness := (true, "e59f93f9aab743362266dbb45ee91881096c1369589623043509988c2f6cf04c"), looks := false }, kinds := [], alts := [], laidByText := true, laidKinds := [.listed, .data], laidTests := true, laidLooks := .later }
def SorterSortsUptoCardSaid : Prop := Claim7.holds Tryd.pinned (.plain (OpenSpec.upto sorterSortsSpec)) sorterSortsUptoCard
end Rows
end Go.Proofs.YtlapkmobmgffoaaDoor
