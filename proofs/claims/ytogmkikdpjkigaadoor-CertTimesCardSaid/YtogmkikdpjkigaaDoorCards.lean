/-
  DERIVED. GIVEN WITH THE SEED: THE CARDS: each row of YtogmkikdpjkigaaDoorRows.lean that lists a variable, with what it lists TIED to the program's text (the seventh form; the later family's looks); each row that meets fmt, with fmt's text TOLD by the authors' own Lean function (tested against real Go, not proved from fmt's source: count such statements apart). THE CARD IS WHAT COUNTS. Prove the row's statement (the work); the ties are given (YtogmkikdpjkigaaDoorTie.lean); close each card by the builder's one call (the guide's Derived/Test/ToyasCard.lean, 'card_holds'). Laid BY PROGRAM, IN A SANDBOX (cutbox-door.mjs). By AI agents, Wed Nov 11 2026. No macro, syntax, notation, axiom, sorry.
-/
import Derived.Test.YtogmkikdpjkigaaDoorRows
import GoSem.ClaimSeven
namespace Go.Proofs.YtogmkikdpjkigaaDoor
namespace Rows

/-- THE TIED CARD OF 'signetlaw32.CertTimes'. -/
def certTimesCard : Claim7 := { stood := { row := certTimesRow, standIns := [], harness := (true, "beac3c13611b3fb42d3c2ca25bf9baf29969fbd00fb0c410d3bf54767b243902"), looks := true }, kinds := [], alts := [], laidByText := true, laidKinds := [.data, .data, .data, .sentinel, .sentinel], laidTests := true, laidLooks := .later }
def CertTimesCardSaid : Prop := Claim7.holds Tryd.pinned (.plain (OpenSpec.ofChange certTimesSpec)) certTimesCard

/-- THE SECOND FORM's CARD OF 'signetlaw32.CertTimes'. -/
def certTimesUptoCard : Claim7 := { stood := { row := certTimesUptoRow, standIns := [], harness := (true, "beac3c13611b3fb42d3c2ca25bf9baf29969fbd00fb0c410d3bf54767b243902"), looks := true }, kinds := [], alts := [], laidByText := true, laidKinds := [.data, .data, .data, .sentinel, .sentinel], laidTests := true, laidLooks := .later }
def CertTimesUptoCardSaid : Prop := Claim7.holds Tryd.pinned (.plain (OpenSpec.upto certTimesSpec)) certTimesUptoCard
end Rows
end Go.Proofs.YtogmkikdpjkigaaDoor
