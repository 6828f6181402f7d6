/-
  DERIVED. GIVEN WITH THE SEED: THE CARDS: each row of YteamkapbkccdeaaGreatDoorRows.lean that lists a variable, with what it lists TIED to the program's text (the seventh form; the later family's looks); each row that meets fmt, with fmt's text TOLD by the authors' own Lean function (tested against real Go, not proved from fmt's source: count such statements apart). THE CARD IS WHAT COUNTS. Prove the row's statement (the work); the ties are given (YteamkapbkccdeaaGreatDoorTie.lean); close each card by the builder's one call (the guide's Derived/Test/ToyasCard.lean, 'card_holds'). Laid BY PROGRAM, IN A SANDBOX (cutbox-door.mjs). By AI agents, Wed Nov 11 2026. No macro, syntax, notation, axiom, sorry.
-/
import Derived.Test.YteamkapbkccdeaaGreatDoorRows
import GoSem.ClaimSeven
namespace Go.Proofs.YteamkapbkccdeaaGreatDoor
namespace Rows

/-- THE TIED CARD OF 'ratchetlaw30.ArithErrors'. -/
def arithErrorsCard : Claim7 := { stood := { row := arithErrorsRow, standIns := [], harness := (true, "f28e190118e96c91c9ab50467ddcf69039d65b45a7f29f5a67a876bc735c5a1c"), looks := false }, kinds := [], alts := [], laidByText := true, laidKinds := [.data, .data, .data], laidTests := true, laidLooks := .later }
def ArithErrorsCardSaid : Prop := Claim7.holds Tryz.pinned (.plain (OpenSpec.ofChange arithErrorsSpec)) arithErrorsCard

/-- THE TIED CARD OF 'ratchetlaw30.ArithEqualizer'. -/
def arithEqualizerCard : Claim7 := { stood := { row := arithEqualizerRow, standIns := [], harness := (true, "f28e190118e96c91c9ab50467ddcf69039d65b45a7f29f5a67a876bc735c5a1c"), looks := false }, kinds := [], alts := [], laidByText := true, laidKinds := [.data, .data, .data], laidTests := true, laidLooks := .later }
def ArithEqualizerCardSaid : Prop := Claim7.holds Tryz.pinned (.plain (OpenSpec.ofChange arithEqualizerSpec)) arithEqualizerCard

/-- THE TIED CARD OF 'ratchetlaw30.ArithStrings'. -/
def arithStringsCard : Claim7 := { stood := { row := arithStringsRow, standIns := [], harness := (true, "f28e190118e96c91c9ab50467ddcf69039d65b45a7f29f5a67a876bc735c5a1c"), looks := false }, kinds := [], alts := [], laidByText := true, laidKinds := [.data, .data, .data], laidTests := true, laidLooks := .later }
def ArithStringsCardSaid : Prop := Claim7.holds Tryz.pinned (.plain (OpenSpec.ofChange arithStringsSpec)) arithStringsCard

/-- THE SECOND FORM's CARD OF 'ratchetlaw30.ArithErrors'. -/
def arithErrorsUptoCard : Claim7 := { stood := { row := arithErrorsUptoRow, standIns := [], harness := (true, "f28e190118e96c91c9ab50467ddcf69039d65b45a7f29f5a67a876bc735c5a1c"), looks := false }, kinds := [], alts := [], laidByText := true, laidKinds := [.data, .data, .data], laidTests := true, laidLooks := .later }
def ArithErrorsUptoCardSaid : Prop := Claim7.holds Tryz.pinned (.plain (OpenSpec.upto arithErrorsSpec)) arithErrorsUptoCard

/-- THE SECOND FORM's CARD OF 'ratchetlaw30.ArithEqualizer'. -/
def arithEqualizerUptoCard : Claim7 := { stood := { row := arithEqualizerUptoRow, standIns := [], harness := (true, "f28e190118e96c91c9ab50467ddcf69039d65b45a7f29f5a67a876bc735c5a1c"), looks := false }, kinds := [], alts := [], laidByText := true, laidKinds := [.data, .data, .data], laidTests := true, laidLooks := .later }
def ArithEqualizerUptoCardSaid : Prop := Claim7.holds Tryz.pinned (.plain (OpenSpec.upto arithEqualizerSpec)) arithEqualizerUptoCard

/-- THE SECOND FORM's CARD OF 'ratchetlaw30.ArithStrings'. -/
def arithStringsUptoCard : Claim7 := { stood := { row := arithStringsUptoRow, standIns := [], harness := (true, "f28e190118e96c91c9ab50467ddcf69039d65b45a7f29f5a67a876bc735c5a1c"), looks := false }, kinds := [], alts := [], laidByText := true, laidKinds := [.data, .data, .data], laidTests := true, laidLooks := .later }
def ArithStringsUptoCardSaid : Prop := Claim7.holds Tryz.pinned (.plain (OpenSpec.upto arithStringsSpec)) arithStringsUptoCard
end Rows
end Go.Proofs.YteamkapbkccdeaaGreatDoor
