/-
  DERIVED. GIVEN WITH THE SEED: THE CARDS: each row of YtconmkhoiomeiaaDoorRows.lean that lists a variable, with what it lists TIED to the program's text (the seventh form; the later family's looks); each row that meets fmt, with fmt's text TOLD by the authors' own Lean function (tested against real Go, not proved from fmt's source: count such statements apart). THE CARD IS WHAT COUNTS. Prove the row's statement (the work); the ties are given (YtconmkhoiomeiaaDoorTie.lean); close each card by the builder's one call (the guide's Derived/Test/ToyasCard.lean, 'card_holds'). Laid BY PROGRAM, IN A SANDBOX (cutbox-door.mjs). By AI agents, Wed Nov 11 2026. No macro, syntax, notation, axiom, sorry.
-/
import Derived.Test.YtconmkhoiomeiaaDoorRows
import GoSem.ClaimSeven
namespace Go.Proofs.YtconmkhoiomeiaaDoor
namespace Rows

/-- THE TIED CARD OF 'switchyardlaw31.TapePrints'. -/
def tapePrintsCard : Claim7 := { stood := { row := tapePrintsRow, standIns := [], harness := (true, "6bd9d083458fc41b86dc40abb5409cb7291c836ab26592e541c9768ff46c5a6f"), looks := true }, kinds := [], alts := [], laidByText := true, laidKinds := [.data, .data, .data, .data, .sentinel, .sentinel, .widerDeep, .pinned], laidTests := true, laidLooks := .later }
def TapePrintsCardSaid : Prop := Claim7.holds Tryd.pinned (.plain (OpenSpec.ofChange tapePrintsSpec)) tapePrintsCard

/-- THE TIED CARD OF 'switchyardlaw31.TapeParses'. -/
def tapeParsesCard : Claim7 := { stood := { row := tapeParsesRow, standIns := [], harness := (true, "6bd9d083458fc41b86dc40abb5409cb7291c836ab26592e541c9768ff46c5a6f"), looks := true }, kinds := [], alts := [], laidByText := true, laidKinds := [.data, .data, .data, .data, .sentinel, .sentinel, .widerDeep, .pinned], laidTests := true, laidLooks := .later }
def TapeParsesCardSaid : Prop := Claim7.holds Tryd.pinned (.plain (OpenSpec.ofChange tapeParsesSpec)) tapeParsesCard

/-- THE TIED CARD OF 'switchyardlaw31.TapeBack'. -/
def tapeBackCard : Claim7 := { stood := { row := tapeBackRow, standIns := [], harness := (true, "6bd9d083458fc41b86dc40abb5409cb7291c836ab26592e541c9768ff46c5a6f"), looks := true }, kinds := [], alts := [], laidByText := true, laidKinds := [.data, .data, .data, .data, .sentinel, .sentinel, .widerDeep, .pinned], laidTests := true, laidLooks := .later }
def TapeBackCardSaid : Prop := Claim7.holds Tryd.pinned (.plain (OpenSpec.ofChange tapeBackSpec)) tapeBackCard

/-- THE SECOND FORM's CARD OF 'switchyardlaw31.TapePrints'. -/
def tapePrintsUptoCard : Claim7 := { stood := { row := tapePrintsUptoRow, standIns := [], harness := (true, "6bd9d083458fc41b86dc40abb5409cb7291c836ab26592e541c9768ff46c5a6f"), looks := true }, kinds := [], alts := [], laidByText := true, laidKinds := [.data, .data, .data, .data, .sentinel, .sentinel, .widerDeep, .pinned], laidTests := true, laidLooks := .later }
def TapePrintsUptoCardSaid : Prop := Claim7.holds Tryd.pinned (.plain (OpenSpec.upto tapePrintsSpec)) tapePrintsUptoCard

/-- THE SECOND FORM's CARD OF 'switchyardlaw31.TapeParses'. -/
def tapeParsesUptoCard : Claim7 := { stood := { row := tapeParsesUptoRow, standIns := [], harness := (true, "6bd9d083458fc41b86dc40abb5409cb7291c836ab26592e541c9768ff46c5a6f"), looks := true }, kinds := [], alts := [], laidByText := true, laidKinds := [.data, .data, .data, .data, .sentinel, .sentinel, .widerDeep, .pinned], laidTests := true, laidLooks := .later }
def TapeParsesUptoCardSaid : Prop := Claim7.holds Tryd.pinned (.plain (OpenSpec.upto tapeParsesSpec)) tapeParsesUptoCard

/-- THE SECOND FORM's CARD OF 'switchyardlaw31.TapeBack'. -/
def tapeBackUptoCard : Claim7 := { stood := { row := tapeBackUptoRow, standIns := [], harness := (true, "6bd9d083458fc41b86dc40abb5409cb7291c836ab26592e541c9768ff46c5a6f"), looks := true }, kinds := [], alts := [], laidByText := true, laidKinds := [.data, .data, .data, .data, .sentinel, .sentinel, .widerDeep, .pinned], laidTests := true, laidLooks := .later }
def TapeBackUptoCardSaid : Prop := Claim7.holds Tryd.pinned (.plain (OpenSpec.upto tapeBackSpec)) tapeBackUptoCard
end Rows
end Go.Proofs.YtconmkhoiomeiaaDoor
