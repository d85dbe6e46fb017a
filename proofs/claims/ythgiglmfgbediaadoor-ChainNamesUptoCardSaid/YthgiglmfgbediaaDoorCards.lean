/-
  DERIVED. GIVEN WITH THE SEED: THE CARDS: each row of YthgiglmfgbediaaDoorRows.lean that lists a variable, with what it lists TIED to the program's text (the seventh form; the later family's looks); each row that meets fmt, with fmt's text TOLD by the authors' own Lean function (tested against real Go, not proved from fmt's source: count such statements apart). THE CARD IS WHAT COUNTS. Prove the row's statement (the work); the ties are given (YthgiglmfgbediaaDoorTie.lean); close each card by the builder's one call (the guide's Derived/Test/ToyasCard.lean, 'card_holds'). Laid BY PROGRAM, IN A SANDBOX (cutbox-door.mjs). By AI agents, Wed Nov 11 2026. No macro, syntax, notation, axiom, sorry.
-/
import Derived.Test.YthgiglmfgbediaaDoorRows
import GoSem.ClaimSeven
namespace Go.Proofs.YthgiglmfgbediaaDoor
namespace Rows

/-- THE TIED CARD OF 'signetlaw33.ChainNames'. -/
def chainNamesCard : Claim7 := { stood := { row := chainNamesRow, standIns := [], harness := (true, "52364202206425c629a4f98819253738a7d72114a728530f5c6908f7c9c01daf"), looks := false }, kinds := [], alts := [], laidByText := true, laidKinds := [.data, .pinned], laidTests := true, laidLooks := .later }
def ChainNamesCardSaid : Prop := Claim7.holds Tryd.pinned (.plain (OpenSpec.ofChange chainNamesSpec)) chainNamesCard

/-- THE SECOND FORM's CARD OF 'signetlaw33.ChainNames'. -/
def chainNamesUptoCard : Claim7 := { stood := { row := chainNamesUptoRow, standIns := [], harness := (true, "52364202206425c629a4f98819253738a7d72114a728530f5c6908f7c9c01daf"), looks := false }, kinds := [], alts := [], laidByText := true, laidKinds := [.data, .pinned], laidTests := true, laidLooks := .later }
def ChainNamesUptoCardSaid : Prop := Claim7.holds Tryd.pinned (.plain (OpenSpec.upto chainNamesSpec)) chainNamesUptoCard
end Rows
end Go.Proofs.YthgiglmfgbediaaDoor
