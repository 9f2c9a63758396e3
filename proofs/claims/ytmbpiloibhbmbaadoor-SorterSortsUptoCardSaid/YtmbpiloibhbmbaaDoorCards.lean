/-
  DERIVED. GIVEN WITH THE SEED: THE CARDS: each row of YtmbpiloibhbmbaaDoorRows.lean that lists a variable, with what it lists TIED to the program's text (the seventh form; the later family's looks); each row that meets fmt, with fmt's text TOLD by the authors' own Lean function (tested against real Go, not proved from fmt's source: count such statements apart). THE CARD IS WHAT COUNTS. Prove the row's statement (the work); the ties are given (YtmbpiloibhbmbaaDoorTie.lean); close each card by the builder's one call (the guide's Derived/Test/ToyasCard.lean, 'card_holds'). Laid BY PROGRAM, IN A SANDBOX (cutbox-door.mjs). By AI agents, Wed Nov 11 2026. No macro, syntax, notation, axiom, sorry.
-/
import Derived.Test.YtmbpiloibhbmbaaDoorRows
import GoSem.ClaimSeven
namespace Go.Proofs.YtmbpiloibhbmbaaDoor
namespace Rows

/-- THE TIED CARD OF 'vitrinelaw29.SorterSorts'. -/
def sorterSortsCard : Claim7 := { stood := { row := sorterSortsRow, standIns := [], harness := (true, "5e046c2d2e0ab6a52a6ab6360bee08d12afd7ce2aefb910a02c6760c30770ad0"), looks := false }, kinds := [], alts := [], laidByText := true, laidKinds := [.listed, .data], laidTests := true, laidLooks := .later }
def SorterSortsCardSaid : Prop := Claim7.holds Tryd.pinned (.plain (OpenSpec.ofChange sorterSortsSpec)) sorterSortsCard

/-- THE SECOND FORM's CARD OF 'vitrinelaw29.SorterSorts'. -/
def sorterSortsUptoCard : Claim7 := { stood := { row := sorterSortsUptoRow, standIns := [], harness := (true, "5e046c2d2e0ab6a52a6ab6360bee08d12afd7ce2aefb910a02c6760c30770ad0"), looks := false }, kinds := [], alts := [], laidByText := true, laidKinds := [.listed, .data], laidTests := true, laidLooks := .later }
def SorterSortsUptoCardSaid : Prop := Claim7.holds Tryd.pinned (.plain (OpenSpec.upto sorterSortsSpec)) sorterSortsUptoCard
end Rows
end Go.Proofs.YtmbpiloibhbmbaaDoor
