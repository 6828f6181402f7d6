/-
  DERIVED. GIVEN WITH THE SEED: THE CARDS: each row of YteamkapbkccdeaaDoorRows.lean that lists a variable, with what it lists TIED to the program's text (the seventh form; the later family's looks); each row that meets fmt, with fmt's text TOLD by the authors' own Lean function (tested against real Go, not proved from fmt's source: count such statements apart). THE CARD IS WHAT COUNTS. Prove the row's statement (the work); the ties are given (YteamkapbkccdeaaDoorTie.lean); close each card by the builder's one call (the guide's Derived/Test/ToyasCard.lean, 'card_holds'). Laid BY PROGRAM, IN A SANDBOX (cutbox-door.mjs). By AI agents, Wed Nov 11 2026. No macro, syntax, notation, axiom, sorry.
-/
import Derived.Test.YteamkapbkccdeaaDoorRows
import GoSem.ClaimSeven
namespace Go.Proofs.YteamkapbkccdeaaDoor
namespace Rows

/-- THE TIED CARD OF 'ratchetlaw30.ArithSums'. -/
def arithSumsCard : Claim7 := { stood := { row := arithSumsRow, standIns := [], harness := (true, "fd370509dd192eb1593e59490a081ff537bcb27c8bc1032b7057f5f44e825168"), looks := false }, kinds := [], alts := [], laidByText := true, laidKinds := [.data, .data, .data], laidTests := true, laidLooks := .later }
def ArithSumsCardSaid : Prop := Claim7.holds Tryd.pinned (.plain (OpenSpec.ofChange arithSumsSpec)) arithSumsCard

/-- THE TIED CARD OF 'ratchetlaw30.ArithNumbers'. -/
def arithNumbersCard : Claim7 := { stood := { row := arithNumbersRow, standIns := [], harness := (true, "fd370509dd192eb1593e59490a081ff537bcb27c8bc1032b7057f5f44e825168"), looks := false }, kinds := [], alts := [], laidByText := true, laidKinds := [.data, .data, .data], laidTests := true, laidLooks := .later }
def ArithNumbersCardSaid : Prop := Claim7.holds Tryd.pinned (.plain (OpenSpec.ofChange arithNumbersSpec)) arithNumbersCard

/-- THE TIED CARD OF 'ratchetlaw30.ArithInverse'. -/
def arithInverseCard : Claim7 := { stood := { row := arithInverseRow, standIns := [], harness := (true, "fd370509dd192eb1593e59490a081ff537bcb27c8bc1032b7057f5f44e825168"), looks := false }, kinds := [], alts := [], laidByText := true, laidKinds := [.data, .data, .data], laidTests := true, laidLooks := .later }
def ArithInverseCardSaid : Prop := Claim7.holds Tryd.pinned (.plain (OpenSpec.ofChange arithInverseSpec)) arithInverseCard

/-- THE TIED CARD OF 'ratchetlaw30.ArithTransforms'. -/
def arithTransformsCard : Claim7 := { stood := { row := arithTransformsRow, standIns := [], harness := (true, "fd370509dd192eb1593e59490a081ff537bcb27c8bc1032b7057f5f44e825168"), looks := false }, kinds := [], alts := [], laidByText := true, laidKinds := [.data, .data, .data], laidTests := true, laidLooks := .later }
def ArithTransformsCardSaid : Prop := Claim7.holds Tryd.pinned (.plain (OpenSpec.ofChange arithTransformsSpec)) arithTransformsCard

/-- THE TIED CARD OF 'ratchetlaw30.ArithBoth'. -/
def arithBothCard : Claim7 := { stood := { row := arithBothRow, standIns := [], harness := (true, "fd370509dd192eb1593e59490a081ff537bcb27c8bc1032b7057f5f44e825168"), looks := false }, kinds := [], alts := [], laidByText := true, laidKinds := [.data, .data, .data], laidTests := true, laidLooks := .later }
def ArithBothCardSaid : Prop := Claim7.holds Tryd.pinned (.plain (OpenSpec.ofChange arithBothSpec)) arithBothCard

/-- THE SECOND FORM's CARD OF 'ratchetlaw30.ArithSums'. -/
def arithSumsUptoCard : Claim7 := { stood := { row := arithSumsUptoRow, standIns := [], harness := (true, "fd370509dd192eb1593e59490a081ff537bcb27c8bc1032b7057f5f44e825168"), looks := false }, kinds := [], alts := [], laidByText := true, laidKinds := [.data, .data, .data], laidTests := true, laidLooks := .later }
def ArithSumsUptoCardSaid : Prop := Claim7.holds Tryd.pinned (.plain (OpenSpec.upto arithSumsSpec)) arithSumsUptoCard

/-- THE SECOND FORM's CARD OF 'ratchetlaw30.ArithNumbers'. -/
def arithNumbersUptoCard : Claim7 := { stood := { row := arithNumbersUptoRow, standIns := [], harness := (true, "fd370509dd192eb1593e59490a081ff537bcb27c8bc1032b7057f5f44e825168"), looks := false }, kinds := [], alts := [], laidByText := true, laidKinds := [.data, .data, .data], laidTests := true, laidLooks := .later }
def ArithNumbersUptoCardSaid : Prop := Claim7.holds Tryd.pinned (.plain (OpenSpec.upto arithNumbersSpec)) arithNumbersUptoCard

/-- THE SECOND FORM's CARD OF 'ratchetlaw30.ArithInverse'. -/
def arithInverseUptoCard : Claim7 := { stood := { row := arithInverseUptoRow, standIns := [], harness := (true, "fd370509dd192eb1593e59490a081ff537bcb27c8bc1032b7057f5f44e825168"), looks := false }, kinds := [], alts := [], laidByText := true, laidKinds := [.data, .data, .data], laidTests := true, laidLooks := .later }
def ArithInverseUptoCardSaid : Prop := Claim7.holds Tryd.pinned (.plain (OpenSpec.upto arithInverseSpec)) arithInverseUptoCard

/-- THE SECOND FORM's CARD OF 'ratchetlaw30.ArithTransforms'. -/
def arithTransformsUptoCard : Claim7 := { stood := { row := arithTransformsUptoRow, standIns := [], harness := (true, "fd370509dd192eb1593e59490a081ff537bcb27c8bc1032b7057f5f44e825168"), looks := false }, kinds := [], alts := [], laidByText := true, laidKinds := [.data, .data, .data], laidTests := true, laidLooks := .later }
def ArithTransformsUptoCardSaid : Prop := Claim7.holds Tryd.pinned (.plain (OpenSpec.upto arithTransformsSpec)) arithTransformsUptoCard

/-- THE SECOND FORM's CARD OF 'ratchetlaw30.ArithBoth'. -/
def arithBothUptoCard : Claim7 := { stood := { row := arithBothUptoRow, standIns := [], harness := (true, "fd370509dd192eb1593e59490a081ff537bcb27c8bc1032b7057f5f44e825168"), looks := false }, kinds := [], alts := [], laidByText := true, laidKinds := [.data, .data, .data], laidTests := true, laidLooks := .later }
def ArithBothUptoCardSaid : Prop := Claim7.holds Tryd.pinned (.plain (OpenSpec.upto arithBothSpec)) arithBothUptoCard
end Rows
end Go.Proofs.YteamkapbkccdeaaDoor
