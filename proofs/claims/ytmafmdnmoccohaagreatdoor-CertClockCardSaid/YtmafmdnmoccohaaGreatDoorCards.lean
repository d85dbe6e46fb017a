/-
  DERIVED. GIVEN WITH THE SEED: THE CARDS: each row of YtmafmdnmoccohaaGreatDoorRows.lean that lists a variable, with what it lists TIED to the program's text (the seventh form; the later family's looks); each row that meets fmt, with fmt's text TOLD by the authors' own Lean function (tested against real Go, not proved from fmt's source: count such statements apart). THE CARD IS WHAT COUNTS. Prove the row's statement (the work); the ties are given (YtmafmdnmoccohaaGreatDoorTie.lean); close each card by the builder's one call (the guide's Derived/Test/ToyasCard.lean, 'card_holds'). Laid BY PROGRAM, IN A SANDBOX (cutbox-door.mjs). By AI agents, Wed Nov 11 2026. No macro, syntax, notation, axiom, sorry.
-/
import Derived.Test.YtmafmdnmoccohaaGreatDoorRows
import GoSem.ClaimSeven
namespace Go.Proofs.YtmafmdnmoccohaaGreatDoor
namespace Rows

/-- THE TIED CARD OF 'signetlaw32.CertClock'. -/
def certClockCard : Claim7 := { stood := { row := certClockRow, standIns := [], harness := (true, "acf4213aefe43e60e05615b39f66c87ea37771a45b0022c49e8b53f724d6b746"), looks := true }, kinds := [], alts := [], laidByText := true, laidKinds := [.data, .data, .data, .sentinel, .sentinel, .data, .data, .data, .data], laidTests := true, laidLooks := .later }
def CertClockCardSaid : Prop := Claim7.holds Tryz.pinned (.plain (OpenSpec.ofChange certClockSpec)) certClockCard

/-- THE SECOND FORM's CARD OF 'signetlaw32.CertClock'. -/
def certClockUptoCard : Claim7 := { stood := { row := certClockUptoRow, standIns := [], harness := (true, "acf4213aefe43e60e05615b39f66c87ea37771a45b0022c49e8b53f724d6b746"), looks := true }, kinds := [], alts := [], laidByText := true, laidKinds := [.data, .data, .data, .sentinel, .sentinel, .data, .data, .data, .data], laidTests := true, laidLooks := .later }
def CertClockUptoCardSaid : Prop := Claim7.holds Tryz.pinned (.plain (OpenSpec.upto certClockSpec)) certClockUptoCard
end Rows
end Go.Proofs.YtmafmdnmoccohaaGreatDoor
