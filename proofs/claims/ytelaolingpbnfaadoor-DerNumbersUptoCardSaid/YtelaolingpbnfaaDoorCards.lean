/-
  DERIVED. GIVEN WITH THE SEED: THE CARDS: each row of YtelaolingpbnfaaDoorRows.lean that lists a variable, with what it lists TIED to the program's text (the seventh form; the later family's looks); each row that meets fmt, with fmt's text TOLD by the authors' own Lean function (tested against real Go, not proved from fmt's source: count such statements apart). THE CARD IS WHAT COUNTS. Prove the row's statement (the work); the ties are given (YtelaolingpbnfaaDoorTie.lean); close each card by the builder's one call (the guide's Derived/Test/ToyasCard.lean, 'card_holds'). Laid BY PROGRAM, IN A SANDBOX (cutbox-door.mjs). By AI agents, Wed Nov 11 2026. No macro, syntax, notation, axiom, sorry.
-/
import Derived.Test.YtelaolingpbnfaaDoorRows
import GoSem.ClaimSeven
namespace Go.Proofs.YtelaolingpbnfaaDoor
namespace Rows

/-- THE TIED CARD OF 'signetlaw8.DerBack'. -/
def derBackCard : Claim7 := { stood := { row := derBackRow, standIns := [], harness := (true, "60a2c2e0fbc29723c8e72b216b61eaba83c871c2003259869e395253215d7993"), looks := true }, kinds := [], alts := [], laidByText := true, laidKinds := [.data, .data, .data], laidTests := true, laidLooks := .later }
def DerBackCardSaid : Prop := Claim7.holds Tryd.pinned (.plain (OpenSpec.ofChange derBackSpec)) derBackCard

/-- THE TIED CARD OF 'signetlaw8.DerOne'. -/
def derOneCard : Claim7 := { stood := { row := derOneRow, standIns := [], harness := (true, "60a2c2e0fbc29723c8e72b216b61eaba83c871c2003259869e395253215d7993"), looks := true }, kinds := [], alts := [], laidByText := true, laidKinds := [.data, .data, .data], laidTests := true, laidLooks := .later }
def DerOneCardSaid : Prop := Claim7.holds Tryd.pinned (.plain (OpenSpec.ofChange derOneSpec)) derOneCard

/-- THE TIED CARD OF 'signetlaw8.DerCuts'. -/
def derCutsCard : Claim7 := { stood := { row := derCutsRow, standIns := [], harness := (true, "60a2c2e0fbc29723c8e72b216b61eaba83c871c2003259869e395253215d7993"), looks := true }, kinds := [], alts := [], laidByText := true, laidKinds := [.data, .data, .data], laidTests := true, laidLooks := .later }
def DerCutsCardSaid : Prop := Claim7.holds Tryd.pinned (.plain (OpenSpec.ofChange derCutsSpec)) derCutsCard

/-- THE TIED CARD OF 'signetlaw8.DerNests'. -/
def derNestsCard : Claim7 := { stood := { row := derNestsRow, standIns := [], harness := (true, "60a2c2e0fbc29723c8e72b216b61eaba83c871c2003259869e395253215d7993"), looks := true }, kinds := [], alts := [], laidByText := true, laidKinds := [.data, .data, .data], laidTests := true, laidLooks := .later }
def DerNestsCardSaid : Prop := Claim7.holds Tryd.pinned (.plain (OpenSpec.ofChange derNestsSpec)) derNestsCard

/-- THE TIED CARD OF 'signetlaw8.DerNumbers'. -/
def derNumbersCard : Claim7 := { stood := { row := derNumbersRow, standIns := [], harness := (true, "60a2c2e0fbc29723c8e72b216b61eaba83c871c2003259869e395253215d7993"), looks := true }, kinds := [], alts := [], laidByText := true, laidKinds := [.data, .data, .data, .data, .sentinel, .sentinel, .pinned], laidTests := true, laidLooks := .later }
def DerNumbersCardSaid : Prop := Claim7.holds Tryd.pinned (.plain (OpenSpec.ofChange derNumbersSpec)) derNumbersCard

/-- THE TIED CARD OF 'signetlaw8.DerValues'. -/
def derValuesCard : Claim7 := { stood := { row := derValuesRow, standIns := [], harness := (true, "60a2c2e0fbc29723c8e72b216b61eaba83c871c2003259869e395253215d7993"), looks := true }, kinds := [], alts := [], laidByText := true, laidKinds := [.data, .data, .data, .data, .sentinel, .sentinel, .pinned], laidTests := true, laidLooks := .later }
def DerValuesCardSaid : Prop := Claim7.holds Tryd.pinned (.plain (OpenSpec.ofChange derValuesSpec)) derValuesCard

/-- THE SECOND FORM's CARD OF 'signetlaw8.DerBack'. -/
def derBackUptoCard : Claim7 := { stood := { row := derBackUptoRow, standIns := [], harness := (true, "60a2c2e0fbc29723c8e72b216b61eaba83c871c2003259869e395253215d7993"), looks := true }, kinds := [], alts := [], laidByText := true, laidKinds := [.data, .data, .data], laidTests := true, laidLooks := .later }
def DerBackUptoCardSaid : Prop := Claim7.holds Tryd.pinned (.plain (OpenSpec.upto derBackSpec)) derBackUptoCard

/-- THE SECOND FORM's CARD OF 'signetlaw8.DerOne'. -/
def derOneUptoCard : Claim7 := { stood := { row := derOneUptoRow, standIns := [], harness := (true, "60a2c2e0fbc29723c8e72b216b61eaba83c871c2003259869e395253215d7993"), looks := true }, kinds := [], alts := [], laidByText := true, laidKinds := [.data, .data, .data], laidTests := true, laidLooks := .later }
def DerOneUptoCardSaid : Prop := Claim7.holds Tryd.pinned (.plain (OpenSpec.upto derOneSpec)) derOneUptoCard

/-- THE SECOND FORM's CARD OF 'signetlaw8.DerCuts'. -/
def derCutsUptoCard : Claim7 := { stood := { row := derCutsUptoRow, standIns := [], harness := (true, "60a2c2e0fbc29723c8e72b216b61eaba83c871c2003259869e395253215d7993"), looks := true }, kinds := [], alts := [], laidByText := true, laidKinds := [.data, .data, .data], laidTests := true, laidLooks := .later }
def DerCutsUptoCardSaid : Prop := Claim7.holds Tryd.pinned (.plain (OpenSpec.upto derCutsSpec)) derCutsUptoCard

/-- THE SECOND FORM's CARD OF 'signetlaw8.DerNests'. -/
def derNestsUptoCard : Claim7 := { stood := { row := derNestsUptoRow, standIns := [], harness := (true, "60a2c2e0fbc29723c8e72b216b61eaba83c871c2003259869e395253215d7993"), looks := true }, kinds := [], alts := [], laidByText := true, laidKinds := [.data, .data, .data], laidTests := true, laidLooks := .later }
def DerNestsUptoCardSaid : Prop := Claim7.holds Tryd.pinned (.plain (OpenSpec.upto derNestsSpec)) derNestsUptoCard

/-- THE SECOND FORM's CARD OF 'signetlaw8.DerNumbers'. -/
def derNumbersUptoCard : Claim7 := { stood := { row := derNumbersUptoRow, standIns := [], harness := (true, "60a2c2e0fbc29723c8e72b216b61eaba83c871c2003259869e395253215d7993"), looks := true }, kinds := [], alts := [], laidByText := true, laidKinds := [.data, .data, .data, .data, .sentinel, .sentinel, .pinned], laidTests := true, laidLooks := .later }
def DerNumbersUptoCardSaid : Prop := Claim7.holds Tryd.pinned (.plain (OpenSpec.upto derNumbersSpec)) derNumbersUptoCard

/-- THE SECOND FORM's CARD OF 'signetlaw8.DerValues'. -/
def derValuesUptoCard : Claim7 := { stood := { row := derValuesUptoRow, standIns := [], harness := (true, "60a2c2e0fbc29723c8e72b216b61eaba83c871c2003259869e395253215d7993"), looks := true }, kinds := [], alts := [], laidByText := true, laidKinds := [.data, .data, .data, .data, .sentinel, .sentinel, .pinned], laidTests := true, laidLooks := .later }
def DerValuesUptoCardSaid : Prop := Claim7.holds Tryd.pinned (.plain (OpenSpec.upto derValuesSpec)) derValuesUptoCard
end Rows
end Go.Proofs.YtelaolingpbnfaaDoor
