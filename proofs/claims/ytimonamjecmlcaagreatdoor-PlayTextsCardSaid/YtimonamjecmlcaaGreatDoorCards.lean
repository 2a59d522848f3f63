/-
  DERIVED. GIVEN WITH THE SEED: THE CARDS: each row of YtimonamjecmlcaaGreatDoorRows.lean that lists a variable, with what it lists TIED to the program's text (the seventh form; the later family's looks); each row that meets fmt, with fmt's text TOLD by the authors' own Lean function (tested against real Go, not proved from fmt's source: count such statements apart). THE CARD IS WHAT COUNTS. Prove the row's statement (the work); the ties are given (YtimonamjecmlcaaGreatDoorTie.lean); close each card by the builder's one call (the guide's Derived/Test/ToyasCard.lean, 'card_holds'). Laid BY PROGRAM, IN A SANDBOX (cutbox-door.mjs). By AI agents, Wed Nov 11 2026. No macro, syntax, notation, axiom, sorry.
-/
import Derived.Test.YtimonamjecmlcaaGreatDoorRows
import GoSem.ClaimSeven
namespace Go.Proofs.YtimonamjecmlcaaGreatDoor
namespace Rows

/-- THE TIED CARD OF 'donjonlaw29.PlayLines'. -/
def playLinesCard : Claim7 := { stood := { row := playLinesRow, standIns := [], harness := (true, "64f5d66471e92c66024a73255d8218491a65ddf0d3dd5e70790581fff900b730"), looks := true }, kinds := [], alts := [], laidByText := true, laidKinds := [.data, .data, .data, .data, .sentinel, .sentinel, .pinned], laidTests := true, laidLooks := .later }
def PlayLinesCardSaid : Prop := Claim7.holds Tryz.pinned (.plain (OpenSpec.ofChange playLinesSpec)) playLinesCard

/-- THE TIED CARD OF 'donjonlaw29.PlayUnlines'. -/
def playUnlinesCard : Claim7 := { stood := { row := playUnlinesRow, standIns := [], harness := (true, "64f5d66471e92c66024a73255d8218491a65ddf0d3dd5e70790581fff900b730"), looks := true }, kinds := [], alts := [], laidByText := true, laidKinds := [.data, .data, .data, .data, .sentinel, .sentinel, .pinned], laidTests := true, laidLooks := .later }
def PlayUnlinesCardSaid : Prop := Claim7.holds Tryz.pinned (.plain (OpenSpec.ofChange playUnlinesSpec)) playUnlinesCard

/-- THE TIED CARD OF 'donjonlaw29.PlayParses'. -/
def playParsesCard : Claim7 := { stood := { row := playParsesRow, standIns := [], harness := (true, "64f5d66471e92c66024a73255d8218491a65ddf0d3dd5e70790581fff900b730"), looks := true }, kinds := [], alts := [], laidByText := true, laidKinds := [.data, .data, .data, .data, .sentinel, .sentinel, .pinned], laidTests := true, laidLooks := .later }
def PlayParsesCardSaid : Prop := Claim7.holds Tryz.pinned (.plain (OpenSpec.ofChange playParsesSpec)) playParsesCard

/-- THE TIED CARD OF 'donjonlaw29.PlayNotes'. -/
def playNotesCard : Claim7 := { stood := { row := playNotesRow, standIns := [], harness := (true, "64f5d66471e92c66024a73255d8218491a65ddf0d3dd5e70790581fff900b730"), looks := true }, kinds := [], alts := [], laidByText := true, laidKinds := [.data, .data, .data, .data, .sentinel, .sentinel, .pinned], laidTests := true, laidLooks := .later }
def PlayNotesCardSaid : Prop := Claim7.holds Tryz.pinned (.plain (OpenSpec.ofChange playNotesSpec)) playNotesCard

/-- THE TIED CARD OF 'donjonlaw29.PlayTexts'. -/
def playTextsCard : Claim7 := { stood := { row := playTextsRow, standIns := [], harness := (true, "64f5d66471e92c66024a73255d8218491a65ddf0d3dd5e70790581fff900b730"), looks := true }, kinds := [], alts := [], laidByText := true, laidKinds := [.data, .data, .data, .data, .sentinel, .sentinel, .pinned], laidTests := true, laidLooks := .later }
def PlayTextsCardSaid : Prop := Claim7.holds Tryz.pinned (.plain (OpenSpec.ofChange playTextsSpec)) playTextsCard

/-- THE SECOND FORM's CARD OF 'donjonlaw29.PlayLines'. -/
def playLinesUptoCard : Claim7 := { stood := { row := playLinesUptoRow, standIns := [], harness := (true, "64f5d66471e92c66024a73255d8218491a65ddf0d3dd5e70790581fff900b730"), looks := true }, kinds := [], alts := [], laidByText := true, laidKinds := [.data, .data, .data, .data, .sentinel, .sentinel, .pinned], laidTests := true, laidLooks := .later }
def PlayLinesUptoCardSaid : Prop := Claim7.holds Tryz.pinned (.plain (OpenSpec.upto playLinesSpec)) playLinesUptoCard

/-- THE SECOND FORM's CARD OF 'donjonlaw29.PlayUnlines'. -/
def playUnlinesUptoCard : Claim7 := { stood := { row := playUnlinesUptoRow, standIns := [], harness := (true, "64f5d66471e92c66024a73255d8218491a65ddf0d3dd5e70790581fff900b730"), looks := true }, kinds := [], alts := [], laidByText := true, laidKinds := [.data, .data, .data, .data, .sentinel, .sentinel, .pinned], laidTests := true, laidLooks := .later }
def PlayUnlinesUptoCardSaid : Prop := Claim7.holds Tryz.pinned (.plain (OpenSpec.upto playUnlinesSpec)) playUnlinesUptoCard

/-- THE SECOND FORM's CARD OF 'donjonlaw29.PlayParses'. -/
def playParsesUptoCard : Claim7 := { stood := { row := playParsesUptoRow, standIns := [], harness := (true, "64f5d66471e92c66024a73255d8218491a65ddf0d3dd5e70790581fff900b730"), looks := true }, kinds := [], alts := [], laidByText := true, laidKinds := [.data, .data, .data, .data, .sentinel, .sentinel, .pinned], laidTests := true, laidLooks := .later }
def PlayParsesUptoCardSaid : Prop := Claim7.holds Tryz.pinned (.plain (OpenSpec.upto playParsesSpec)) playParsesUptoCard

/-- THE SECOND FORM's CARD OF 'donjonlaw29.PlayNotes'. -/
def playNotesUptoCard : Claim7 := { stood := { row := playNotesUptoRow, standIns := [], harness := (true, "64f5d66471e92c66024a73255d8218491a65ddf0d3dd5e70790581fff900b730"), looks := true }, kinds := [], alts := [], laidByText := true, laidKinds := [.data, .data, .data, .data, .sentinel, .sentinel, .pinned], laidTests := true, laidLooks := .later }
def PlayNotesUptoCardSaid : Prop := Claim7.holds Tryz.pinned (.plain (OpenSpec.upto playNotesSpec)) playNotesUptoCard

/-- THE SECOND FORM's CARD OF 'donjonlaw29.PlayTexts'. -/
def playTextsUptoCard : Claim7 := { stood := { row := playTextsUptoRow, standIns := [], harness := (true, "64f5d66471e92c66024a73255d8218491a65ddf0d3dd5e70790581fff900b730"), looks := true }, kinds := [], alts := [], laidByText := true, laidKinds := [.data, .data, .data, .data, .sentinel, .sentinel, .pinned], laidTests := true, laidLooks := .later }
def PlayTextsUptoCardSaid : Prop := Claim7.holds Tryz.pinned (.plain (OpenSpec.upto playTextsSpec)) playTextsUptoCard
end Rows
end Go.Proofs.YtimonamjecmlcaaGreatDoor
