/-
  DERIVED. GIVEN WITH THE SEED: THE CARDS: each row of YtbjfhnbgiajnjaaDoorRows.lean that lists a variable, with what it lists TIED to the program's text (the seventh form; the later family's looks); each row that meets fmt, with fmt's text TOLD by the authors' own Lean function (tested against real Go, not proved from fmt's source: count such statements apart). THE CARD IS WHAT COUNTS. Prove the row's statement (the work); the ties are given (YtbjfhnbgiajnjaaDoorTie.lean); close each card by the builder's one call (the guide's Derived/Test/ToyasCard.lean, 'card_holds'). Laid BY PROGRAM, IN A SANDBOX (cutbox-door.mjs). By AI agents, Wed Nov 11 2026. No macro, syntax, notation, axiom, sorry.
-/
import Derived.Test.YtbjfhnbgiajnjaaDoorRows
import GoSem.ClaimSeven
namespace Go.Proofs.YtbjfhnbgiajnjaaDoor
namespace Rows

/-- THE TIED CARD OF 'signetlaw29.DpopBounds'. -/
def dpopBoundsCard : Claim7 := { stood := { row := dpopBoundsRow, standIns := [], harness := (true, "bd2d3a92c0723d94222eab5ac05696c8361c5ebf4caccdd83ee91d9ce28aeccb"), looks := false }, kinds := [], alts := [], laidByText := true, laidKinds := [.data, .pinned], laidTests := true, laidLooks := .later }
def DpopBoundsCardSaid : Prop := Claim7.holds Tryd.pinned (.plain (OpenSpec.ofChange dpopBoundsSpec)) dpopBoundsCard

/-- THE SECOND FORM's CARD OF 'signetlaw29.DpopBounds'. -/
def dpopBoundsUptoCard : Claim7 := { stood := { row := dpopBoundsUptoRow, standIns := [], harness := (true, "bd2d3a92c0723d94222eab5ac05696c8361c5ebf4caccdd83ee91d9ce28aeccb"), looks := false }, kinds := [], alts := [], laidByText := true, laidKinds := [.data, .pinned], laidTests := true, laidLooks := .later }
def DpopBoundsUptoCardSaid : Prop := Claim7.holds Tryd.pinned (.plain (OpenSpec.upto dpopBoundsSpec)) dpopBoundsUptoCard
end Rows
end Go.Proofs.YtbjfhnbgiajnjaaDoor
