/-
  DERIVED. GIVEN WITH THE SEED: THE CARDS: each row of YtkmbhgggpfbffaaGreatDoorRows.lean that lists a variable, with what it lists TIED to the program's text (the seventh form; the later family's looks); each row that meets fmt, with fmt's text TOLD by the authors' own Lean function (tested against real Go, not proved from fmt's source: count such statements apart). THE CARD IS WHAT COUNTS. Prove the row's statement (the work); the ties are given (YtkmbhgggpfbffaaGreatDoorTie.lean); close each card by the builder's one call (the guide's Derived/Test/ToyasCard.lean, 'card_holds'). Laid BY PROGRAM, IN A SANDBOX (cutbox-door.mjs). By AI agents, Wed Nov 11 2026. No macro, syntax, notation, axiom, sorry.
-/
import Derived.Test.YtkmbhgggpfbffaaGreatDoorRows
import GoSem.ClaimSeven
namespace Go.Proofs.YtkmbhgggpfbffaaGreatDoor
namespace Rows

/-- THE TIED CARD OF 'ratchetlaw21.ClocksFlops'. -/
def clocksFlopsCard : Claim7 := { stood := { row := clocksFlopsRow, standIns := [], harness := (true, "06807d05539f34e3ab25c109a86e3c54130d81223492c9983059fa95addfb9a1"), looks := false }, kinds := [], alts := [], laidByText := true, laidKinds := [.data, .data, .data], laidTests := true, laidLooks := .later }
def ClocksFlopsCardSaid : Prop := Claim7.holds Tryz.pinned (.plain (OpenSpec.ofChange clocksFlopsSpec)) clocksFlopsCard

/-- THE TIED CARD OF 'ratchetlaw21.ClocksQueue'. -/
def clocksQueueCard : Claim7 := { stood := { row := clocksQueueRow, standIns := [], harness := (true, "06807d05539f34e3ab25c109a86e3c54130d81223492c9983059fa95addfb9a1"), looks := false }, kinds := [], alts := [], laidByText := true, laidKinds := [.data, .data, .data], laidTests := true, laidLooks := .later }
def ClocksQueueCardSaid : Prop := Claim7.holds Tryz.pinned (.plain (OpenSpec.ofChange clocksQueueSpec)) clocksQueueCard

/-- THE TIED CARD OF 'ratchetlaw21.ClocksDomains'. -/
def clocksDomainsCard : Claim7 := { stood := { row := clocksDomainsRow, standIns := [], harness := (true, "06807d05539f34e3ab25c109a86e3c54130d81223492c9983059fa95addfb9a1"), looks := false }, kinds := [], alts := [], laidByText := true, laidKinds := [.data, .data, .data], laidTests := true, laidLooks := .later }
def ClocksDomainsCardSaid : Prop := Claim7.holds Tryz.pinned (.plain (OpenSpec.ofChange clocksDomainsSpec)) clocksDomainsCard

/-- THE TIED CARD OF 'ratchetlaw21.ClocksHandshake'. -/
def clocksHandshakeCard : Claim7 := { stood := { row := clocksHandshakeRow, standIns := [], harness := (true, "06807d05539f34e3ab25c109a86e3c54130d81223492c9983059fa95addfb9a1"), looks := false }, kinds := [], alts := [], laidByText := true, laidKinds := [.data, .data, .data], laidTests := true, laidLooks := .later }
def ClocksHandshakeCardSaid : Prop := Claim7.holds Tryz.pinned (.plain (OpenSpec.ofChange clocksHandshakeSpec)) clocksHandshakeCard

/-- THE TIED CARD OF 'ratchetlaw21.ClocksNothingLost'. -/
def clocksNothingLostCard : Claim7 := { stood := { row := clocksNothingLostRow, standIns := [], harness := (true, "06807d05539f34e3ab25c109a86e3c54130d81223492c9983059fa95addfb9a1"), looks := false }, kinds := [], alts := [], laidByText := true, laidKinds := [.data, .data, .data], laidTests := true, laidLooks := .later }
def ClocksNothingLostCardSaid : Prop := Claim7.holds Tryz.pinned (.plain (OpenSpec.ofChange clocksNothingLostSpec)) clocksNothingLostCard

/-- THE TIED CARD OF 'ratchetlaw21.ClocksResets'. -/
def clocksResetsCard : Claim7 := { stood := { row := clocksResetsRow, standIns := [], harness := (true, "06807d05539f34e3ab25c109a86e3c54130d81223492c9983059fa95addfb9a1"), looks := false }, kinds := [], alts := [], laidByText := true, laidKinds := [.data, .data, .data], laidTests := true, laidLooks := .later }
def ClocksResetsCardSaid : Prop := Claim7.holds Tryz.pinned (.plain (OpenSpec.ofChange clocksResetsSpec)) clocksResetsCard

/-- THE TIED CARD OF 'ratchetlaw21.ClocksSyncs'. -/
def clocksSyncsCard : Claim7 := { stood := { row := clocksSyncsRow, standIns := [], harness := (true, "06807d05539f34e3ab25c109a86e3c54130d81223492c9983059fa95addfb9a1"), looks := false }, kinds := [], alts := [], laidByText := true, laidKinds := [.data, .data, .data], laidTests := true, laidLooks := .later }
def ClocksSyncsCardSaid : Prop := Claim7.holds Tryz.pinned (.plain (OpenSpec.ofChange clocksSyncsSpec)) clocksSyncsCard

/-- THE TIED CARD OF 'ratchetlaw21.ClocksTicks'. -/
def clocksTicksCard : Claim7 := { stood := { row := clocksTicksRow, standIns := [], harness := (true, "06807d05539f34e3ab25c109a86e3c54130d81223492c9983059fa95addfb9a1"), looks := false }, kinds := [], alts := [], laidByText := true, laidKinds := [.data, .data, .data], laidTests := true, laidLooks := .later }
def ClocksTicksCardSaid : Prop := Claim7.holds Tryz.pinned (.plain (OpenSpec.ofChange clocksTicksSpec)) clocksTicksCard

/-- THE TIED CARD OF 'ratchettop.TopClocksApart'. -/
def topClocksApartCard : Claim7 := { stood := { row := topClocksApartRow, standIns := [], harness := (true, "06807d05539f34e3ab25c109a86e3c54130d81223492c9983059fa95addfb9a1"), looks := false }, kinds := [], alts := [], laidByText := true, laidKinds := [.data, .data, .data], laidTests := true, laidLooks := .later }
def TopClocksApartCardSaid : Prop := Claim7.holds Tryz.pinned (.plain (OpenSpec.ofChange topClocksApartSpec)) topClocksApartCard

/-- THE SECOND FORM's CARD OF 'ratchetlaw21.ClocksFlops'. -/
def clocksFlopsUptoCard : Claim7 := { stood := { row := clocksFlopsUptoRow, standIns := [], harness := (true, "06807d05539f34e3ab25c109a86e3c54130d81223492c9983059fa95addfb9a1"), looks := false }, kinds := [], alts := [], laidByText := true, laidKinds := [.data, .data, .data], laidTests := true, laidLooks := .later }
def ClocksFlopsUptoCardSaid : Prop := Claim7.holds Tryz.pinned (.plain (OpenSpec.upto clocksFlopsSpec)) clocksFlopsUptoCard

/-- THE SECOND FORM's CARD OF 'ratchetlaw21.ClocksQueue'. -/
def clocksQueueUptoCard : Claim7 := { stood := { row := clocksQueueUptoRow, standIns := [], harness := (true, "06807d05539f34e3ab25c109a86e3c54130d81223492c9983059fa95addfb9a1"), looks := false }, kinds := [], alts := [], laidByText := true, laidKinds := [.data, .data, .data], laidTests := true, laidLooks := .later }
def ClocksQueueUptoCardSaid : Prop := Claim7.holds Tryz.pinned (.plain (OpenSpec.upto clocksQueueSpec)) clocksQueueUptoCard

/-- THE SECOND FORM's CARD OF 'ratchetlaw21.ClocksDomains'. -/
def clocksDomainsUptoCard : Claim7 := { stood := { row := clocksDomainsUptoRow, standIns := [], harness := (true, "06807d05539f34e3ab25c109a86e3c54130d81223492c9983059fa95addfb9a1"), looks := false }, kinds := [], alts := [], laidByText := true, laidKinds := [.data, .data, .data], laidTests := true, laidLooks := .later }
def ClocksDomainsUptoCardSaid : Prop := Claim7.holds Tryz.pinned (.plain (OpenSpec.upto clocksDomainsSpec)) clocksDomainsUptoCard

/-- THE SECOND FORM's CARD OF 'ratchetlaw21.ClocksHandshake'. -/
def clocksHandshakeUptoCard : Claim7 := { stood := { row := clocksHandshakeUptoRow, standIns := [], harness := (true, "06807d05539f34e3ab25c109a86e3c54130d81223492c9983059fa95addfb9a1"), looks := false }, kinds := [], alts := [], laidByText := true, laidKinds := [.data, .data, .data], laidTests := true, laidLooks := .later }
def ClocksHandshakeUptoCardSaid : Prop := Claim7.holds Tryz.pinned (.plain (OpenSpec.upto clocksHandshakeSpec)) clocksHandshakeUptoCard

/-- THE SECOND FORM's CARD OF 'ratchetlaw21.ClocksNothingLost'. -/
def clocksNothingLostUptoCard : Claim7 := { stood := { row := clocksNothingLostUptoRow, standIns := [], harness := (true, "06807d05539f34e3ab25c109a86e3c54130d81223492c9983059fa95addfb9a1"), looks := false }, kinds := [], alts := [], laidByText := true, laidKinds := [.data, .data, .data], laidTests := true, laidLooks := .later }
def ClocksNothingLostUptoCardSaid : Prop := Claim7.holds Tryz.pinned (.plain (OpenSpec.upto clocksNothingLostSpec)) clocksNothingLostUptoCard

/-- THE SECOND FORM's CARD OF 'ratchetlaw21.ClocksResets'. -/
def clocksResetsUptoCard : Claim7 := { stood := { row := clocksResetsUptoRow, standIns := [], harness := (true, "06807d05539f34e3ab25c109a86e3c54130d81223492c9983059fa95addfb9a1"), looks := false }, kinds := [], alts := [], laidByText := true, laidKinds := [.data, .data, .data], laidTests := true, laidLooks := .later }
def ClocksResetsUptoCardSaid : Prop := Claim7.holds Tryz.pinned (.plain (OpenSpec.upto clocksResetsSpec)) clocksResetsUptoCard

/-- THE SECOND FORM's CARD OF 'ratchetlaw21.ClocksSyncs'. -/
def clocksSyncsUptoCard : Claim7 := { stood := { row := clocksSyncsUptoRow, standIns := [], harness := (true, "06807d05539f34e3ab25c109a86e3c54130d81223492c9983059fa95addfb9a1"), looks := false }, kinds := [], alts := [], laidByText := true, laidKinds := [.data, .data, .data], laidTests := true, laidLooks := .later }
def ClocksSyncsUptoCardSaid : Prop := Claim7.holds Tryz.pinned (.plain (OpenSpec.upto clocksSyncsSpec)) clocksSyncsUptoCard

/-- THE SECOND FORM's CARD OF 'ratchetlaw21.ClocksTicks'. -/
def clocksTicksUptoCard : Claim7 := { stood := { row := clocksTicksUptoRow, standIns := [], harness := (true, "06807d05539f34e3ab25c109a86e3c54130d81223492c9983059fa95addfb9a1"), looks := false }, kinds := [], alts := [], laidByText := true, laidKinds := [.data, .data, .data], laidTests := true, laidLooks := .later }
def ClocksTicksUptoCardSaid : Prop := Claim7.holds Tryz.pinned (.plain (OpenSpec.upto clocksTicksSpec)) clocksTicksUptoCard

/-- THE SECOND FORM's CARD OF 'ratchettop.TopClocksApart'. -/
def topClocksApartUptoCard : Claim7 := { stood := { row := topClocksApartUptoRow, standIns := [], harness := (true, "06807d05539f34e3ab25c109a86e3c54130d81223492c9983059fa95addfb9a1"), looks := false }, kinds := [], alts := [], laidByText := true, laidKinds := [.data, .data, .data], laidTests := true, laidLooks := .later }
def TopClocksApartUptoCardSaid : Prop := Claim7.holds Tryz.pinned (.plain (OpenSpec.upto topClocksApartSpec)) topClocksApartUptoCard
end Rows
end Go.Proofs.YtkmbhgggpfbffaaGreatDoor
