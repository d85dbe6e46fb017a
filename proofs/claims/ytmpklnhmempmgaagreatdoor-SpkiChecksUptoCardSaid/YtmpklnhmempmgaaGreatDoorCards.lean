/-
  DERIVED. GIVEN WITH THE SEED: THE CARDS: each row of YtmpklnhmempmgaaGreatDoorRows.lean that lists a variable, with what it lists TIED to the program's text (the seventh form; the later family's looks); each row that meets fmt, with fmt's text TOLD by the authors' own Lean function (tested against real Go, not proved from fmt's source: count such statements apart). THE CARD IS WHAT COUNTS. Prove the row's statement (the work); the ties are given (YtmpklnhmempmgaaGreatDoorTie.lean); close each card by the builder's one call (the guide's Derived/Test/ToyasCard.lean, 'card_holds'). Laid BY PROGRAM, IN A SANDBOX (cutbox-door.mjs). By AI agents, Wed Nov 11 2026. No macro, syntax, notation, axiom, sorry.
-/
import Derived.Test.YtmpklnhmempmgaaGreatDoorRows
import GoSem.ClaimSeven
namespace Go.Proofs.YtmpklnhmempmgaaGreatDoor
namespace Rows

/-- THE TIED CARD OF 'signetlaw14.SpkiChecks'. -/
def spkiChecksCard : Claim7 := { stood := { row := spkiChecksRow, standIns := [], harness := (true, "ed81760839c4bd9d40b88c2547f8dca45eda2eef0bc054fcd02eb40312683eb5"), looks := false }, kinds := [], alts := [], laidByText := true, laidKinds := [.data, .data, .data], laidTests := true, laidLooks := .later }
def SpkiChecksCardSaid : Prop := Claim7.holds Tryz.pinned (.plain (OpenSpec.ofChange spkiChecksSpec)) spkiChecksCard

/-- THE SECOND FORM's CARD OF 'signetlaw14.SpkiChecks'. -/
def spkiChecksUptoCard : Claim7 := { stood := { row := spkiChecksUptoRow, standIns := [], harness := (true, "ed81760839c4bd9d40b88c2547f8dca45eda2eef0bc054fcd02eb40312683eb5"), looks := false }, kinds := [], alts := [], laidByText := true, laidKinds := [.data, .data, .data], laidTests := true, laidLooks := .later }
def SpkiChecksUptoCardSaid : Prop := Claim7.holds Tryz.pinned (.plain (OpenSpec.upto spkiChecksSpec)) spkiChecksUptoCard
end Rows
end Go.Proofs.YtmpklnhmempmgaaGreatDoor
