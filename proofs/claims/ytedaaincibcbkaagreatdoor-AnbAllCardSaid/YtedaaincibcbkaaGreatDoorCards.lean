/-
  DERIVED. GIVEN WITH THE SEED: THE CARDS: each row of YtedaaincibcbkaaGreatDoorRows.lean that lists a variable, with what it lists TIED to the program's text (the seventh form; the later family's looks); each row that meets fmt, with fmt's text TOLD by the authors' own Lean function (tested against real Go, not proved from fmt's source: count such statements apart). THE CARD IS WHAT COUNTS. Prove the row's statement (the work); the ties are given (YtedaaincibcbkaaGreatDoorTie.lean); close each card by the builder's one call (the guide's Derived/Test/ToyasCard.lean, 'card_holds'). Laid BY PROGRAM, IN A SANDBOX (cutbox-door.mjs). By AI agents, Wed Nov 11 2026. No macro, syntax, notation, axiom, sorry.
-/
import Derived.Test.YtedaaincibcbkaaGreatDoorRows
import GoSem.ClaimSeven
namespace Go.Proofs.YtedaaincibcbkaaGreatDoor
namespace Rows

/-- THE TIED CARD OF 'vitrinelaw08.SeltextWrites'. -/
def seltextWritesCard : Claim7 := { stood := { row := seltextWritesRow, standIns := [], harness := (true, "6cd11aaac5ed3236f5a1cba57b833859b3942989ff7dff89c9a1f18f46fa9af4"), looks := true }, kinds := [], alts := [], laidByText := true, laidKinds := [.data, .data, .data, .data, .pinned], laidTests := true, laidLooks := .later }
def SeltextWritesCardSaid : Prop := Claim7.holds Tryz.pinned (.plain (OpenSpec.ofChange seltextWritesSpec)) seltextWritesCard

/-- THE TIED CARD OF 'vitrinelaw07.AnbBack'. -/
def anbBackCard : Claim7 := { stood := { row := anbBackRow, standIns := [], harness := (true, "6cd11aaac5ed3236f5a1cba57b833859b3942989ff7dff89c9a1f18f46fa9af4"), looks := true }, kinds := [], alts := [], laidByText := true, laidKinds := [.data, .data, .data, .data, .sentinel, .sentinel, .pinned], laidTests := true, laidLooks := .later }
def AnbBackCardSaid : Prop := Claim7.holds Tryz.pinned (.plain (OpenSpec.ofChange anbBackSpec)) anbBackCard

/-- THE TIED CARD OF 'vitrinelaw07.AnbNames'. -/
def anbNamesCard : Claim7 := { stood := { row := anbNamesRow, standIns := [], harness := (true, "6cd11aaac5ed3236f5a1cba57b833859b3942989ff7dff89c9a1f18f46fa9af4"), looks := true }, kinds := [], alts := [], laidByText := true, laidKinds := [.data, .data, .data, .data, .sentinel, .sentinel, .pinned], laidTests := true, laidLooks := .later }
def AnbNamesCardSaid : Prop := Claim7.holds Tryz.pinned (.plain (OpenSpec.ofChange anbNamesSpec)) anbNamesCard

/-- THE TIED CARD OF 'vitrinelaw07.AnbSum'. -/
def anbSumCard : Claim7 := { stood := { row := anbSumRow, standIns := [], harness := (true, "6cd11aaac5ed3236f5a1cba57b833859b3942989ff7dff89c9a1f18f46fa9af4"), looks := true }, kinds := [], alts := [], laidByText := true, laidKinds := [.data, .data, .data, .data, .sentinel, .sentinel, .pinned], laidTests := true, laidLooks := .later }
def AnbSumCardSaid : Prop := Claim7.holds Tryz.pinned (.plain (OpenSpec.ofChange anbSumSpec)) anbSumCard

/-- THE TIED CARD OF 'vitrinelaw07.AnbStep'. -/
def anbStepCard : Claim7 := { stood := { row := anbStepRow, standIns := [], harness := (true, "6cd11aaac5ed3236f5a1cba57b833859b3942989ff7dff89c9a1f18f46fa9af4"), looks := true }, kinds := [], alts := [], laidByText := true, laidKinds := [.data, .data, .data, .data, .sentinel, .sentinel, .pinned], laidTests := true, laidLooks := .later }
def AnbStepCardSaid : Prop := Claim7.holds Tryz.pinned (.plain (OpenSpec.ofChange anbStepSpec)) anbStepCard

/-- THE TIED CARD OF 'vitrinelaw07.AnbAll'. -/
def anbAllCard : Claim7 := { stood := { row := anbAllRow, standIns := [], harness := (true, "6cd11aaac5ed3236f5a1cba57b833859b3942989ff7dff89c9a1f18f46fa9af4"), looks := true }, kinds := [], alts := [], laidByText := true, laidKinds := [.data, .data, .data, .data, .sentinel, .sentinel, .pinned], laidTests := true, laidLooks := .later }
def AnbAllCardSaid : Prop := Claim7.holds Tryz.pinned (.plain (OpenSpec.ofChange anbAllSpec)) anbAllCard

/-- THE SECOND FORM's CARD OF 'vitrinelaw08.SeltextWrites'. -/
def seltextWritesUptoCard : Claim7 := { stood := { row := seltextWritesUptoRow, standIns := [], harness := (true, "6cd11aaac5ed3236f5a1cba57b833859b3942989ff7dff89c9a1f18f46fa9af4"), looks := true }, kinds := [], alts := [], laidByText := true, laidKinds := [.data, .data, .data, .data, .pinned], laidTests := true, laidLooks := .later }
def SeltextWritesUptoCardSaid : Prop := Claim7.holds Tryz.pinned (.plain (OpenSpec.upto seltextWritesSpec)) seltextWritesUptoCard

/-- THE SECOND FORM's CARD OF 'vitrinelaw07.AnbBack'. -/
def anbBackUptoCard : Claim7 := { stood := { row := anbBackUptoRow, standIns := [], harness := (true, "6cd11aaac5ed3236f5a1cba57b833859b3942989ff7dff89c9a1f18f46fa9af4"), looks := true }, kinds := [], alts := [], laidByText := true, laidKinds := [.data, .data, .data, .data, .sentinel, .sentinel, .pinned], laidTests := true, laidLooks := .later }
def AnbBackUptoCardSaid : Prop := Claim7.holds Tryz.pinned (.plain (OpenSpec.upto anbBackSpec)) anbBackUptoCard

/-- THE SECOND FORM's CARD OF 'vitrinelaw07.AnbNames'. -/
def anbNamesUptoCard : Claim7 := { stood := { row := anbNamesUptoRow, standIns := [], harness := (true, "6cd11aaac5ed3236f5a1cba57b833859b3942989ff7dff89c9a1f18f46fa9af4"), looks := true }, kinds := [], alts := [], laidByText := true, laidKinds := [.data, .data, .data, .data, .sentinel, .sentinel, .pinned], laidTests := true, laidLooks := .later }
def AnbNamesUptoCardSaid : Prop := Claim7.holds Tryz.pinned (.plain (OpenSpec.upto anbNamesSpec)) anbNamesUptoCard

/-- THE SECOND FORM's CARD OF 'vitrinelaw07.AnbSum'. -/
def anbSumUptoCard : Claim7 := { stood := { row := anbSumUptoRow, standIns := [], harness := (true, "6cd11aaac5ed3236f5a1cba57b833859b3942989ff7dff89c9a1f18f46fa9af4"), looks := true }, kinds := [], alts := [], laidByText := true, laidKinds := [.data, .data, .data, .data, .sentinel, .sentinel, .pinned], laidTests := true, laidLooks := .later }
def AnbSumUptoCardSaid : Prop := Claim7.holds Tryz.pinned (.plain (OpenSpec.upto anbSumSpec)) anbSumUptoCard

/-- THE SECOND FORM's CARD OF 'vitrinelaw07.AnbStep'. -/
def anbStepUptoCard : Claim7 := { stood := { row := anbStepUptoRow, standIns := [], harness := (true, "6cd11aaac5ed3236f5a1cba57b833859b3942989ff7dff89c9a1f18f46fa9af4"), looks := true }, kinds := [], alts := [], laidByText := true, laidKinds := [.data, .data, .data, .data, .sentinel, .sentinel, .pinned], laidTests := true, laidLooks := .later }
def AnbStepUptoCardSaid : Prop := Claim7.holds Tryz.pinned (.plain (OpenSpec.upto anbStepSpec)) anbStepUptoCard

/-- THE SECOND FORM's CARD OF 'vitrinelaw07.AnbAll'. -/
def anbAllUptoCard : Claim7 := { stood := { row := anbAllUptoRow, standIns := [], harness := (true, "6cd11aaac5ed3236f5a1cba57b833859b3942989ff7dff89c9a1f18f46fa9af4"), looks := true }, kinds := [], alts := [], laidByText := true, laidKinds := [.data, .data, .data, .data, .sentinel, .sentinel, .pinned], laidTests := true, laidLooks := .later }
def AnbAllUptoCardSaid : Prop := Claim7.holds Tryz.pinned (.plain (OpenSpec.upto anbAllSpec)) anbAllUptoCard
end Rows
end Go.Proofs.YtedaaincibcbkaaGreatDoor
