/-
  DERIVED. GIVEN WITH THE SEED: THE CARDS: each row of YtfdmmnfjdifccaaGreatDoorRows.lean that lists a variable, with what it lists TIED to the program's text (the seventh form; the later family's looks); each row that meets fmt, with fmt's text TOLD by the authors' own Lean function (tested against real Go, not proved from fmt's source: count such statements apart). THE CARD IS WHAT COUNTS. Prove the row's statement (the work); the ties are given (YtfdmmnfjdifccaaGreatDoorTie.lean); close each card by the builder's one call (the guide's Derived/Test/ToyasCard.lean, 'card_holds'). Laid BY PROGRAM, IN A SANDBOX (cutbox-door.mjs). By AI agents, Wed Nov 11 2026. No macro, syntax, notation, axiom, sorry.
-/
import Derived.Test.YtfdmmnfjdifccaaGreatDoorRows
import GoSem.ClaimSeven
namespace Go.Proofs.YtfdmmnfjdifccaaGreatDoor
namespace Rows

/-- THE TIED CARD OF 'ratchettop.TopArithFilter'. -/
def topArithFilterCard : Claim7 := { stood := { row := topArithFilterRow, standIns := [], harness := (true, "480f621143cae037b1b0571f5df5194417bfc035b83c758d2b310076616948cd"), looks := false }, kinds := [], alts := [], laidByText := true, laidKinds := [.data, .data, .data], laidTests := true, laidLooks := .later }
def TopArithFilterCardSaid : Prop := Claim7.holds Tryz.pinned (.plain (OpenSpec.ofChange topArithFilterSpec)) topArithFilterCard

/-- THE TIED CARD OF 'ratchetlaw30.ArithFilters'. -/
def arithFiltersCard : Claim7 := { stood := { row := arithFiltersRow, standIns := [], harness := (true, "480f621143cae037b1b0571f5df5194417bfc035b83c758d2b310076616948cd"), looks := false }, kinds := [], alts := [], laidByText := true, laidKinds := [.data, .data, .data], laidTests := true, laidLooks := .later }
def ArithFiltersCardSaid : Prop := Claim7.holds Tryz.pinned (.plain (OpenSpec.ofChange arithFiltersSpec)) arithFiltersCard

/-- THE TIED CARD OF 'ratchettop.TopArithBits'. -/
def topArithBitsCard : Claim7 := { stood := { row := topArithBitsRow, standIns := [], harness := (true, "480f621143cae037b1b0571f5df5194417bfc035b83c758d2b310076616948cd"), looks := false }, kinds := [], alts := [], laidByText := true, laidKinds := [.data, .data, .data], laidTests := true, laidLooks := .later }
def TopArithBitsCardSaid : Prop := Claim7.holds Tryz.pinned (.plain (OpenSpec.ofChange topArithBitsSpec)) topArithBitsCard

/-- THE SECOND FORM's CARD OF 'ratchettop.TopArithFilter'. -/
def topArithFilterUptoCard : Claim7 := { stood := { row := topArithFilterUptoRow, standIns := [], harness := (true, "480f621143cae037b1b0571f5df5194417bfc035b83c758d2b310076616948cd"), looks := false }, kinds := [], alts := [], laidByText := true, laidKinds := [.data, .data, .data], laidTests := true, laidLooks := .later }
def TopArithFilterUptoCardSaid : Prop := Claim7.holds Tryz.pinned (.plain (OpenSpec.upto topArithFilterSpec)) topArithFilterUptoCard

/-- THE SECOND FORM's CARD OF 'ratchetlaw30.ArithFilters'. -/
def arithFiltersUptoCard : Claim7 := { stood := { row := arithFiltersUptoRow, standIns := [], harness := (true, "480f621143cae037b1b0571f5df5194417bfc035b83c758d2b310076616948cd"), looks := false }, kinds := [], alts := [], laidByText := true, laidKinds := [.data, .data, .data], laidTests := true, laidLooks := .later }
def ArithFiltersUptoCardSaid : Prop := Claim7.holds Tryz.pinned (.plain (OpenSpec.upto arithFiltersSpec)) arithFiltersUptoCard

/-- THE SECOND FORM's CARD OF 'ratchettop.TopArithBits'. -/
def topArithBitsUptoCard : Claim7 := { stood := { row := topArithBitsUptoRow, standIns := [], harness := (true, "480f621143cae037b1b0571f5df5194417bfc035b83c758d2b310076616948cd"), looks := false }, kinds := [], alts := [], laidByText := true, laidKinds := [.data, .data, .data], laidTests := true, laidLooks := .later }
def TopArithBitsUptoCardSaid : Prop := Claim7.holds Tryz.pinned (.plain (OpenSpec.upto topArithBitsSpec)) topArithBitsUptoCard
end Rows
end Go.Proofs.YtfdmmnfjdifccaaGreatDoor
