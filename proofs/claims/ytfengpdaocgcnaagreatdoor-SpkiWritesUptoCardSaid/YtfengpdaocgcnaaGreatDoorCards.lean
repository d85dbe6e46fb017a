/-
  DERIVED. GIVEN WITH THE SEED: THE CARDS: each row of YtfengpdaocgcnaaGreatDoorRows.lean that lists a variable, with what it lists TIED to the program's text (the seventh form; the later family's looks); each row that meets fmt, with fmt's text TOLD by the authors' own Lean function (tested against real Go, not proved from fmt's source: count such statements apart). THE CARD IS WHAT COUNTS. Prove the row's statement (the work); the ties are given (YtfengpdaocgcnaaGreatDoorTie.lean); close each card by the builder's one call (the guide's Derived/Test/ToyasCard.lean, 'card_holds'). Laid BY PROGRAM, IN A SANDBOX (cutbox-door.mjs). By AI agents, Wed Nov 11 2026. No macro, syntax, notation, axiom, sorry.
-/
import Derived.Test.YtfengpdaocgcnaaGreatDoorRows
import GoSem.ClaimSeven
namespace Go.Proofs.YtfengpdaocgcnaaGreatDoor
namespace Rows

/-- THE TIED CARD OF 'signetlaw14.SpkiWrites'. -/
def spkiWritesCard : Claim7 := { stood := { row := spkiWritesRow, standIns := [], harness := (true, "6c8f57759246a036dcd7245f8f241440b7264a886f54c6261ac57c59d5d9b6e0"), looks := true }, kinds := [], alts := [], laidByText := true, laidKinds := [.data, .data, .data, .data, .sentinel, .sentinel, .data, .data, .data, .pinned], laidTests := true, laidLooks := .later }
def SpkiWritesCardSaid : Prop := Claim7.holds Tryz.pinned (.plain (OpenSpec.ofChange spkiWritesSpec)) spkiWritesCard

/-- THE TIED CARD OF 'signetlaw14.SpkiBack'. -/
def spkiBackCard : Claim7 := { stood := { row := spkiBackRow, standIns := [], harness := (true, "6c8f57759246a036dcd7245f8f241440b7264a886f54c6261ac57c59d5d9b6e0"), looks := true }, kinds := [], alts := [], laidByText := true, laidKinds := [.data, .data, .data, .data, .sentinel, .sentinel, .data, .data, .data, .pinned], laidTests := true, laidLooks := .later }
def SpkiBackCardSaid : Prop := Claim7.holds Tryz.pinned (.plain (OpenSpec.ofChange spkiBackSpec)) spkiBackCard

/-- THE TIED CARD OF 'signetlaw14.SpkiOne'. -/
def spkiOneCard : Claim7 := { stood := { row := spkiOneRow, standIns := [], harness := (true, "6c8f57759246a036dcd7245f8f241440b7264a886f54c6261ac57c59d5d9b6e0"), looks := true }, kinds := [], alts := [], laidByText := true, laidKinds := [.data, .data, .data, .data, .sentinel, .sentinel, .data, .data, .data, .pinned], laidTests := true, laidLooks := .later }
def SpkiOneCardSaid : Prop := Claim7.holds Tryz.pinned (.plain (OpenSpec.ofChange spkiOneSpec)) spkiOneCard

/-- THE TIED CARD OF 'signetlaw14.SpkiShape'. -/
def spkiShapeCard : Claim7 := { stood := { row := spkiShapeRow, standIns := [], harness := (true, "6c8f57759246a036dcd7245f8f241440b7264a886f54c6261ac57c59d5d9b6e0"), looks := true }, kinds := [], alts := [], laidByText := true, laidKinds := [.data, .data, .data, .data, .sentinel, .sentinel, .data, .data, .data, .pinned], laidTests := true, laidLooks := .later }
def SpkiShapeCardSaid : Prop := Claim7.holds Tryz.pinned (.plain (OpenSpec.ofChange spkiShapeSpec)) spkiShapeCard

/-- THE TIED CARD OF 'signetlaw14.SpkiFrames'. -/
def spkiFramesCard : Claim7 := { stood := { row := spkiFramesRow, standIns := [], harness := (true, "6c8f57759246a036dcd7245f8f241440b7264a886f54c6261ac57c59d5d9b6e0"), looks := true }, kinds := [], alts := [], laidByText := true, laidKinds := [.data, .data, .data, .data, .sentinel, .sentinel, .data, .data, .data, .pinned], laidTests := true, laidLooks := .later }
def SpkiFramesCardSaid : Prop := Claim7.holds Tryz.pinned (.plain (OpenSpec.ofChange spkiFramesSpec)) spkiFramesCard

/-- THE SECOND FORM's CARD OF 'signetlaw14.SpkiWrites'. -/
def spkiWritesUptoCard : Claim7 := { stood := { row := spkiWritesUptoRow, standIns := [], harness := (true, "6c8f57759246a036dcd7245f8f241440b7264a886f54c6261ac57c59d5d9b6e0"), looks := true }, kinds := [], alts := [], laidByText := true, laidKinds := [.data, .data, .data, .data, .sentinel, .sentinel, .data, .data, .data, .pinned], laidTests := true, laidLooks := .later }
def SpkiWritesUptoCardSaid : Prop := Claim7.holds Tryz.pinned (.plain (OpenSpec.upto spkiWritesSpec)) spkiWritesUptoCard

/-- THE SECOND FORM's CARD OF 'signetlaw14.SpkiBack'. -/
def spkiBackUptoCard : Claim7 := { stood := { row := spkiBackUptoRow, standIns := [], harness := (true, "6c8f57759246a036dcd7245f8f241440b7264a886f54c6261ac57c59d5d9b6e0"), looks := true }, kinds := [], alts := [], laidByText := true, laidKinds := [.data, .data, .data, .data, .sentinel, .sentinel, .data, .data, .data, .pinned], laidTests := true, laidLooks := .later }
def SpkiBackUptoCardSaid : Prop := Claim7.holds Tryz.pinned (.plain (OpenSpec.upto spkiBackSpec)) spkiBackUptoCard

/-- THE SECOND FORM's CARD OF 'signetlaw14.SpkiOne'. -/
def spkiOneUptoCard : Claim7 := { stood := { row := spkiOneUptoRow, standIns := [], harness := (true, "6c8f57759246a036dcd7245f8f241440b7264a886f54c6261ac57c59d5d9b6e0"), looks := true }, kinds := [], alts := [], laidByText := true, laidKinds := [.data, .data, .data, .data, .sentinel, .sentinel, .data, .data, .data, .pinned], laidTests := true, laidLooks := .later }
def SpkiOneUptoCardSaid : Prop := Claim7.holds Tryz.pinned (.plain (OpenSpec.upto spkiOneSpec)) spkiOneUptoCard

/-- THE SECOND FORM's CARD OF 'signetlaw14.SpkiShape'. -/
def spkiShapeUptoCard : Claim7 := { stood := { row := spkiShapeUptoRow, standIns := [], harness := (true, "6c8f57759246a036dcd7245f8f241440b7264a886f54c6261ac57c59d5d9b6e0"), looks := true }, kinds := [], alts := [], laidByText := true, laidKinds := [.data, .data, .data, .data, .sentinel, .sentinel, .data, .data, .data, .pinned], laidTests := true, laidLooks := .later }
def SpkiShapeUptoCardSaid : Prop := Claim7.holds Tryz.pinned (.plain (OpenSpec.upto spkiShapeSpec)) spkiShapeUptoCard

/-- THE SECOND FORM's CARD OF 'signetlaw14.SpkiFrames'. -/
def spkiFramesUptoCard : Claim7 := { stood := { row := spkiFramesUptoRow, standIns := [], harness := (true, "6c8f57759246a036dcd7245f8f241440b7264a886f54c6261ac57c59d5d9b6e0"), looks := true }, kinds := [], alts := [], laidByText := true, laidKinds := [.data, .data, .data, .data, .sentinel, .sentinel, .data, .data, .data, .pinned], laidTests := true, laidLooks := .later }
def SpkiFramesUptoCardSaid : Prop := Claim7.holds Tryz.pinned (.plain (OpenSpec.upto spkiFramesSpec)) spkiFramesUptoCard
end Rows
end Go.Proofs.YtfengpdaocgcnaaGreatDoor
