/-
  DERIVED. GIVEN WITH THE SEED: THE CARDS: each row of YtedaaincibcbkaaDoorRows.lean that lists a variable, with what it lists TIED to the program's text (the seventh form; the later family's looks); each row that meets fmt, with fmt's text TOLD by the authors' own Lean function (tested against real Go, not proved from fmt's source: count such statements apart). THE CARD IS WHAT COUNTS. Prove the row's statement (the work); the ties are given (YtedaaincibcbkaaDoorTie.lean); close each card by the builder's one call (the guide's Derived/Test/ToyasCard.lean, 'card_holds'). Laid BY PROGRAM, IN A SANDBOX (cutbox-door.mjs). By AI agents, Wed Nov 11 2026. No macro, syntax, notation, axiom, sorry.
-/
import Derived.Test.YtedaaincibcbkaaDoorRows
import GoSem.ClaimSeven
namespace Go.Proofs.YtedaaincibcbkaaDoor
namespace Rows

/-- THE TIED CARD OF 'vitrinelaw07.AnbTells'. -/
def anbTellsCard : Claim7 := { stood := { row := anbTellsRow, standIns := [], harness := (true, "99c6049e6bf496d34df9e8901b6801875b77bd17bece0231cc78aac83295a567"), looks := false }, kinds := [], alts := [], laidByText := true, laidKinds := [.data, .data, .data], laidTests := true, laidLooks := .later }
def AnbTellsCardSaid : Prop := Claim7.holds Tryd.pinned (.plain (OpenSpec.ofChange anbTellsSpec)) anbTellsCard

/-- THE TIED CARD OF 'vitrinelaw29.SorterRanks'. -/
def sorterRanksCard : Claim7 := { stood := { row := sorterRanksRow, standIns := [], harness := (true, "99c6049e6bf496d34df9e8901b6801875b77bd17bece0231cc78aac83295a567"), looks := false }, kinds := [], alts := [], laidByText := true, laidKinds := [.listed, .data], laidTests := true, laidLooks := .later }
def SorterRanksCardSaid : Prop := Claim7.holds Tryd.pinned (.plain (OpenSpec.ofChange sorterRanksSpec)) sorterRanksCard

/-- THE TIED CARD OF 'vitrinelaw35.PaintTells'. -/
def paintTellsCard : Claim7 := { stood := { row := paintTellsRow, standIns := [], harness := (true, "99c6049e6bf496d34df9e8901b6801875b77bd17bece0231cc78aac83295a567"), looks := false }, kinds := [], alts := [], laidByText := true, laidKinds := [.listed, .data], laidTests := true, laidLooks := .later }
def PaintTellsCardSaid : Prop := Claim7.holds Tryd.pinned (.plain (OpenSpec.ofChange paintTellsSpec)) paintTellsCard

/-- THE TIED CARD OF 'vitrinelaw29.SorterSorts'. -/
def sorterSortsCard : Claim7 := { stood := { row := sorterSortsRow, standIns := [], harness := (true, "99c6049e6bf496d34df9e8901b6801875b77bd17bece0231cc78aac83295a567"), looks := false }, kinds := [], alts := [], laidByText := true, laidKinds := [.listed, .data], laidTests := true, laidLooks := .later }
def SorterSortsCardSaid : Prop := Claim7.holds Tryd.pinned (.plain (OpenSpec.ofChange sorterSortsSpec)) sorterSortsCard

/-- THE SECOND FORM's CARD OF 'vitrinelaw07.AnbTells'. -/
def anbTellsUptoCard : Claim7 := { stood := { row := anbTellsUptoRow, standIns := [], harness := (true, "99c6049e6bf496d34df9e8901b6801875b77bd17bece0231cc78aac83295a567"), looks := false }, kinds := [], alts := [], laidByText := true, laidKinds := [.data, .data, .data], laidTests := true, laidLooks := .later }
def AnbTellsUptoCardSaid : Prop := Claim7.holds Tryd.pinned (.plain (OpenSpec.upto anbTellsSpec)) anbTellsUptoCard

/-- THE SECOND FORM's CARD OF 'vitrinelaw29.SorterRanks'. -/
def sorterRanksUptoCard : Claim7 := { stood := { row := sorterRanksUptoRow, standIns := [], harness := (true, "99c6049e6bf496d34df9e8901b6801875b77bd17bece0231cc78aac83295a567"), looks := false }, kinds := [], alts := [], laidByText := true, laidKinds := [.listed, .data], laidTests := true, laidLooks := .later }
def SorterRanksUptoCardSaid : Prop := Claim7.holds Tryd.pinned (.plain (OpenSpec.upto sorterRanksSpec)) sorterRanksUptoCard

/-- THE SECOND FORM's CARD OF 'vitrinelaw35.PaintTells'. -/
def paintTellsUptoCard : Claim7 := { stood := { row := paintTellsUptoRow, standIns := [], harness := (true, "99c6049e6bf496d34df9e8901b6801875b77bd17bece0231cc78aac83295a567"), looks := false }, kinds := [], alts := [], laidByText := true, laidKinds := [.listed, .data], laidTests := true, laidLooks := .later }
def PaintTellsUptoCardSaid : Prop := Claim7.holds Tryd.pinned (.plain (OpenSpec.upto paintTellsSpec)) paintTellsUptoCard

/-- THE SECOND FORM's CARD OF 'vitrinelaw29.SorterSorts'. -/
def sorterSortsUptoCard : Claim7 := { stood := { row := sorterSortsUptoRow, standIns := [], harness := (true, "99c6049e6bf496d34df9e8901b6801875b77bd17bece0231cc78aac83295a567"), looks := false }, kinds := [], alts := [], laidByText := true, laidKinds := [.listed, .data], laidTests := true, laidLooks := .later }
def SorterSortsUptoCardSaid : Prop := Claim7.holds Tryd.pinned (.plain (OpenSpec.upto sorterSortsSpec)) sorterSortsUptoCard
end Rows
end Go.Proofs.YtedaaincibcbkaaDoor
