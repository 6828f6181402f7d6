/-
  NARROWER THAN 'FOR EVERY INPUT', by the rows' own cells (each row's printed sentence says how): ClocksFlops: laid · ClocksQueue: laid · ClocksDomains: laid · ClocksHandshake: laid · ClocksNothingLost: laid · ClocksResets: laid · ClocksSyncs: laid · ClocksTicks: laid · TopClocksApart: laid.
  DERIVED. THE GIVEN ROWS OF THIS SEAT. 9 by the template 'for every input the law returns true; each argument reads behind the call as it read before'; 0 by the template 'total and deterministic' (their statements: YtkmbhgggpfbffaaGreatDoorTotals.lean).
  GIVEN WITH THE SEED: the statements are not yours to turn. If you find one false, say at which input.
  Laid BY PROGRAM, IN A SANDBOX (cutbox-rows.mjs): the forced cells as the released guide's own fill.sh prints them over the translation dd7babb5c73572b5… (all of the seat's roots in one cut). By AI agents, Wed Nov 11 2026. No macro, syntax, notation, axiom, sorry.
-/
import Derived.Test.YtkmbhgggpfbffaaGreatDoorChecked
import GoSem.Claim
import GoSem.ClaimJoined
import GoSem.ClaimMapViews
import Derived.JoinedTies
import Derived.KernelRfl
namespace Go.Proofs.YtkmbhgggpfbffaaGreatDoor
/- THE CELL 'sum', in the pinned program and in every row, IS THE sha256 OF THE DUMP (.gsa) THAT YtkmbhgggpfbffaaGreatDoorProg.lean LOADS. Nothing in Lean hashes anything: it is a label: what it is worth is what the hold of that sum in a sandbox is worth. -/
noncomputable def Tryz.pinned : Pinned := { name := "ytkmbhgggpfbffaagreatdoor", sum := "dd7babb5c73572b5e567a30e13c104a587bed3bf3abf82153dd856977e082091", checked := Tryz.checked }
namespace Rows
def none {H : Type} : Left H := { results := [], args := [] }

/- WHAT THE LISTED PACKAGE-LEVEL VARIABLES READ AS WHEN THE CALL BEGINS. Each datum BY PROGRAM (the guide's laid-datum.mjs) off the statement by which the dump's own 'gosem.cut.vars' lays the variable. In a bare row this is a premise. The card (YtkmbhgggpfbffaaGreatDoorCards.lean) ties it to the program's text. -/
def laid_math_bits_deBruijn32tab {H : Type} : DataW H := .agg [.lit (.int .u8 0), .lit (.int .u8 1), .lit (.int .u8 28), .lit (.int .u8 2), .lit (.int .u8 29), .lit (.int .u8 14), .lit (.int .u8 24), .lit (.int .u8 3), .lit (.int .u8 30), .lit (.int .u8 22), .lit (.int .u8 20), .lit (.int .u8 15), .lit (.int .u8 25), .lit (.int .u8 17), .lit (.int .u8 4), .lit (.int .u8 8), .lit (.int .u8 31), .lit (.int .u8 27), .lit (.int .u8 13), .lit (.int .u8 23), .lit (.int .u8 21), .lit (.int .u8 19), .lit (.int .u8 16), .lit (.int .u8 7), .lit (.int .u8 26), .lit (.int .u8 12), .lit (.int .u8 18), .lit (.int .u8 6), .lit (.int .u8 11), .lit (.int .u8 5), .lit (.int .u8 10), .lit (.int .u8 9)]
def laid_math_bits_deBruijn64tab {H : Type} : DataW H := .agg [.lit (.int .u8 0), .lit (.int .u8 1), .lit (.int .u8 56), .lit (.int .u8 2), .lit (.int .u8 57), .lit (.int .u8 49), .lit (.int .u8 28), .lit (.int .u8 3), .lit (.int .u8 61), .lit (.int .u8 58), .lit (.int .u8 42), .lit (.int .u8 50), .lit (.int .u8 38), .lit (.int .u8 29), .lit (.int .u8 17), .lit (.int .u8 4), .lit (.int .u8 62), .lit (.int .u8 47), .lit (.int .u8 59), .lit (.int .u8 36), .lit (.int .u8 45), .lit (.int .u8 43), .lit (.int .u8 51), .lit (.int .u8 22), .lit (.int .u8 53), .lit (.int .u8 39), .lit (.int .u8 33), .lit (.int .u8 30), .lit (.int .u8 24), .lit (.int .u8 18), .lit (.int .u8 12), .lit (.int .u8 5), .lit (.int .u8 63), .lit (.int .u8 55), .lit (.int .u8 48), .lit (.int .u8 27), .lit (.int .u8 60), .lit (.int .u8 41), .lit (.int .u8 37), .lit (.int .u8 16), .lit (.int .u8 46), .lit (.int .u8 35), .lit (.int .u8 44), .lit (.int .u8 21), .lit (.int .u8 52), .lit (.int .u8 32), .lit (.int .u8 23), .lit (.int .u8 11), .lit (.int .u8 54), .lit (.int .u8 26), .lit (.int .u8 40), .lit (.int .u8 15), .lit (.int .u8 34), .lit (.int .u8 20), .lit (.int .u8 31), .lit (.int .u8 10), .lit (.int .u8 25), .lit (.int .u8 14), .lit (.int .u8 19), .lit (.int .u8 9), .lit (.int .u8 13), .lit (.int .u8 8), .lit (.int .u8 7), .lit (.int .u8 6)]
def laid_internal_strconv_uint64pow10 {H : Type} : DataW H := .agg [.lit (.int .u64 1), .lit (.int .u64 10), .lit (.int .u64 100), .lit (.int .u64 1000), .lit (.int .u64 10000), .lit (.int .u64 100000), .lit (.int .u64 1000000), .lit (.int .u64 10000000), .lit (.int .u64 100000000), .lit (.int .u64 1000000000), .lit (.int .u64 10000000000), .lit (.int .u64 100000000000), .lit (.int .u64 1000000000000), .lit (.int .u64 10000000000000), .lit (.int .u64 100000000000000), .lit (.int .u64 1000000000000000), .lit (.int .u64 10000000000000000), .lit (.int .u64 100000000000000000), .lit (.int .u64 1000000000000000000), .lit (.int .u64 10000000000000000000)]

/-- 'ratchetlaw21.ClocksFlops': WHATEVER THE INPUT: true; the input reads as it did. -/
def clocksFlopsSpec : ChangeSpec := { name := "clocksFlops", fn := fun _ => fun
  | [d1, d2] => { results := [.lit (.bool true)], args := [d1, d2] }
  | _ => none }
def clocksFlopsRow : OpenClaim := { program := "ytkmbhgggpfbffaagreatdoor", sum := "dd7babb5c73572b5e567a30e13c104a587bed3bf3abf82153dd856977e082091", func := "ratchet/ratchetlaw21.ClocksFlops", spec := "clocksFlops", unfollowed := true, recurses := true, named := ["internal/strconv.uint64pow10", "math/bits.deBruijn32tab", "math/bits.deBruijn64tab"], apart := false, laid := [("math/bits.deBruijn32tab", laid_math_bits_deBruijn32tab), ("math/bits.deBruijn64tab", laid_math_bits_deBruijn64tab), ("internal/strconv.uint64pow10", laid_internal_strconv_uint64pow10)] }
def ClocksFlopsSaid : Prop := clocksFlopsRow.holds Tryz.pinned (OpenSpec.ofChange clocksFlopsSpec)

/-- ITS FALSE NEIGHBOUR: 'it returns false'. Refute it at one input. -/
def clocksFlopsWrong : ChangeSpec := { name := "clocksFlops", fn := fun _ => fun
  | [d1, d2] => { results := [.lit (.bool false)], args := [d1, d2] }
  | _ => none }
def ClocksFlopsWrongFalsely : Prop := clocksFlopsRow.holds Tryz.pinned (OpenSpec.ofChange clocksFlopsWrong)

/-- 'ratchetlaw21.ClocksQueue': WHATEVER THE INPUT: true; the input reads as it did. -/
def clocksQueueSpec : ChangeSpec := { name := "clocksQueue", fn := fun _ => fun
  | [d1, d2] => { results := [.lit (.bool true)], args := [d1, d2] }
  | _ => none }
def clocksQueueRow : OpenClaim := { program := "ytkmbhgggpfbffaagreatdoor", sum := "dd7babb5c73572b5e567a30e13c104a587bed3bf3abf82153dd856977e082091", func := "ratchet/ratchetlaw21.ClocksQueue", spec := "clocksQueue", unfollowed := true, recurses := true, named := ["internal/strconv.uint64pow10", "math/bits.deBruijn32tab", "math/bits.deBruijn64tab"], apart := false, laid := [("math/bits.deBruijn32tab", laid_math_bits_deBruijn32tab), ("math/bits.deBruijn64tab", laid_math_bits_deBruijn64tab), ("internal/strconv.uint64pow10", laid_internal_strconv_uint64pow10)] }
def ClocksQueueSaid : Prop := clocksQueueRow.holds Tryz.pinned (OpenSpec.ofChange clocksQueueSpec)

/-- ITS FALSE NEIGHBOUR: 'it returns false'. Refute it at one input. -/
def clocksQueueWrong : ChangeSpec := { name := "clocksQueue", fn := fun _ => fun
  | [d1, d2] => { results := [.lit (.bool false)], args := [d1, d2] }
  | _ => none }
def ClocksQueueWrongFalsely : Prop := clocksQueueRow.holds Tryz.pinned (OpenSpec.ofChange clocksQueueWrong)

/-- 'ratchetlaw21.ClocksDomains': WHATEVER THE INPUT: true; the input reads as it did. -/
def clocksDomainsSpec : ChangeSpec := { name := "clocksDomains", fn := fun _ => fun
  | [d] => { results := [.lit (.bool true)], args := [d] }
  | _ => none }
def clocksDomainsRow : OpenClaim := { program := "ytkmbhgggpfbffaagreatdoor", sum := "dd7babb5c73572b5e567a30e13c104a587bed3bf3abf82153dd856977e082091", func := "ratchet/ratchetlaw21.ClocksDomains", spec := "clocksDomains", unfollowed := true, recurses := true, named := ["internal/strconv.uint64pow10", "math/bits.deBruijn32tab", "math/bits.deBruijn64tab"], apart := false, laid := [("math/bits.deBruijn32tab", laid_math_bits_deBruijn32tab), ("math/bits.deBruijn64tab", laid_math_bits_deBruijn64tab), ("internal/strconv.uint64pow10", laid_internal_strconv_uint64pow10)] }
def ClocksDomainsSaid : Prop := clocksDomainsRow.holds Tryz.pinned (OpenSpec.ofChange clocksDomainsSpec)

/-- ITS FALSE NEIGHBOUR: 'it returns false'. Refute it at one input. -/
def clocksDomainsWrong : ChangeSpec := { name := "clocksDomains", fn := fun _ => fun
  | [d] => { results := [.lit (.bool false)], args := [d] }
  | _ => none }
def ClocksDomainsWrongFalsely : Prop := clocksDomainsRow.holds Tryz.pinned (OpenSpec.ofChange clocksDomainsWrong)

/-- 'ratchetlaw21.ClocksHandshake': WHATEVER THE INPUT: true; the input reads as it did. -/
def clocksHandshakeSpec : ChangeSpec := { name := "clocksHandshake", fn := fun _ => fun
  | [d1, d2] => { results := [.lit (.bool true)], args := [d1, d2] }
  | _ => none }
def clocksHandshakeRow : OpenClaim := { program := "ytkmbhgggpfbffaagreatdoor", sum := "dd7babb5c73572b5e567a30e13c104a587bed3bf3abf82153dd856977e082091", func := "ratchet/ratchetlaw21.ClocksHandshake", spec := "clocksHandshake", unfollowed := true, recurses := true, named := ["internal/strconv.uint64pow10", "math/bits.deBruijn32tab", "math/bits.deBruijn64tab"], apart := false, laid := [("math/bits.deBruijn32tab", laid_math_bits_deBruijn32tab), ("math/bits.deBruijn64tab", laid_math_bits_deBruijn64tab), ("internal/strconv.uint64pow10", laid_internal_strconv_uint64pow10)] }
def ClocksHandshakeSaid : Prop := clocksHandshakeRow.holds Tryz.pinned (OpenSpec.ofChange clocksHandshakeSpec)

/-- ITS FALSE NEIGHBOUR: 'it returns false'. Refute it at one input. -/
def clocksHandshakeWrong : ChangeSpec := { name := "clocksHandshake", fn := fun _ => fun
  | [d1, d2] => { results := [.lit (.bool false)], args := [d1, d2] }
  | _ => none }
def ClocksHandshakeWrongFalsely : Prop := clocksHandshakeRow.holds Tryz.pinned (OpenSpec.ofChange clocksHandshakeWrong)

/-- 'ratchetlaw21.ClocksNothingLost': WHATEVER THE INPUT: true; the input reads as it did. -/
def clocksNothingLostSpec : ChangeSpec := { name := "clocksNothingLost", fn := fun _ => fun
  | [d1, d2] => { results := [.lit (.bool true)], args := [d1, d2] }
  | _ => none }
def clocksNothingLostRow : OpenClaim := { program := "ytkmbhgggpfbffaagreatdoor", sum := "dd7babb5c73572b5e567a30e13c104a587bed3bf3abf82153dd856977e082091", func := "ratchet/ratchetlaw21.ClocksNothingLost", spec := "clocksNothingLost", unfollowed := true, recurses := true, named := ["internal/strconv.uint64pow10", "math/bits.deBruijn32tab", "math/bits.deBruijn64tab"], apart := false, laid := [("math/bits.deBruijn32tab", laid_math_bits_deBruijn32tab), ("math/bits.deBruijn64tab", laid_math_bits_deBruijn64tab), ("internal/strconv.uint64pow10", laid_internal_strconv_uint64pow10)] }
def ClocksNothingLostSaid : Prop := clocksNothingLostRow.holds Tryz.pinned (OpenSpec.ofChange clocksNothingLostSpec)

/-- ITS FALSE NEIGHBOUR: 'it returns false'. Refute it at one input. -/
def clocksNothingLostWrong : ChangeSpec := { name := "clocksNothingLost", fn := fun _ => fun
  | [d1, d2] => { results := [.lit (.bool false)], args := [d1, d2] }
  | _ => none }
def ClocksNothingLostWrongFalsely : Prop := clocksNothingLostRow.holds Tryz.pinned (OpenSpec.ofChange clocksNothingLostWrong)

/-- 'ratchetlaw21.ClocksResets': WHATEVER THE INPUT: true; the input reads as it did. -/
def clocksResetsSpec : ChangeSpec := { name := "clocksResets", fn := fun _ => fun
  | [d1, d2, d3] => { results := [.lit (.bool true)], args := [d1, d2, d3] }
  | _ => none }
def clocksResetsRow : OpenClaim := { program := "ytkmbhgggpfbffaagreatdoor", sum := "dd7babb5c73572b5e567a30e13c104a587bed3bf3abf82153dd856977e082091", func := "ratchet/ratchetlaw21.ClocksResets", spec := "clocksResets", unfollowed := true, recurses := true, named := ["internal/strconv.uint64pow10", "math/bits.deBruijn32tab", "math/bits.deBruijn64tab"], apart := false, laid := [("math/bits.deBruijn32tab", laid_math_bits_deBruijn32tab), ("math/bits.deBruijn64tab", laid_math_bits_deBruijn64tab), ("internal/strconv.uint64pow10", laid_internal_strconv_uint64pow10)] }
def ClocksResetsSaid : Prop := clocksResetsRow.holds Tryz.pinned (OpenSpec.ofChange clocksResetsSpec)

/-- ITS FALSE NEIGHBOUR: 'it returns false'. Refute it at one input. -/
def clocksResetsWrong : ChangeSpec := { name := "clocksResets", fn := fun _ => fun
  | [d1, d2, d3] => { results := [.lit (.bool false)], args := [d1, d2, d3] }
  | _ => none }
def ClocksResetsWrongFalsely : Prop := clocksResetsRow.holds Tryz.pinned (OpenSpec.ofChange clocksResetsWrong)

/-- 'ratchetlaw21.ClocksSyncs': WHATEVER THE INPUT: true; the input reads as it did. -/
def clocksSyncsSpec : ChangeSpec := { name := "clocksSyncs", fn := fun _ => fun
  | [d1, d2] => { results := [.lit (.bool true)], args := [d1, d2] }
  | _ => none }
def clocksSyncsRow : OpenClaim := { program := "ytkmbhgggpfbffaagreatdoor", sum := "dd7babb5c73572b5e567a30e13c104a587bed3bf3abf82153dd856977e082091", func := "ratchet/ratchetlaw21.ClocksSyncs", spec := "clocksSyncs", unfollowed := true, recurses := true, named := ["internal/strconv.uint64pow10", "math/bits.deBruijn32tab", "math/bits.deBruijn64tab"], apart := false, laid := [("math/bits.deBruijn32tab", laid_math_bits_deBruijn32tab), ("math/bits.deBruijn64tab", laid_math_bits_deBruijn64tab), ("internal/strconv.uint64pow10", laid_internal_strconv_uint64pow10)] }
def ClocksSyncsSaid : Prop := clocksSyncsRow.holds Tryz.pinned (OpenSpec.ofChange clocksSyncsSpec)

/-- ITS FALSE NEIGHBOUR: 'it returns false'. Refute it at one input. -/
def clocksSyncsWrong : ChangeSpec := { name := "clocksSyncs", fn := fun _ => fun
  | [d1, d2] => { results := [.lit (.bool false)], args := [d1, d2] }
  | _ => none }
def ClocksSyncsWrongFalsely : Prop := clocksSyncsRow.holds Tryz.pinned (OpenSpec.ofChange clocksSyncsWrong)

/-- 'ratchetlaw21.ClocksTicks': WHATEVER THE INPUT: true; the input reads as it did. -/
def clocksTicksSpec : ChangeSpec := { name := "clocksTicks", fn := fun _ => fun
  | [d1, d2, d3] => { results := [.lit (.bool true)], args := [d1, d2, d3] }
  | _ => none }
def clocksTicksRow : OpenClaim := { program := "ytkmbhgggpfbffaagreatdoor", sum := "dd7babb5c73572b5e567a30e13c104a587bed3bf3abf82153dd856977e082091", func := "ratchet/ratchetlaw21.ClocksTicks", spec := "clocksTicks", unfollowed := true, recurses := true, named := ["internal/strconv.uint64pow10", "math/bits.deBruijn32tab", "math/bits.deBruijn64tab"], apart := false, laid := [("math/bits.deBruijn32tab", laid_math_bits_deBruijn32tab), ("math/bits.deBruijn64tab", laid_math_bits_deBruijn64tab), ("internal/strconv.uint64pow10", laid_internal_strconv_uint64pow10)] }
def ClocksTicksSaid : Prop := clocksTicksRow.holds Tryz.pinned (OpenSpec.ofChange clocksTicksSpec)

/-- ITS FALSE NEIGHBOUR: 'it returns false'. Refute it at one input. -/
def clocksTicksWrong : ChangeSpec := { name := "clocksTicks", fn := fun _ => fun
  | [d1, d2, d3] => { results := [.lit (.bool false)], args := [d1, d2, d3] }
  | _ => none }
def ClocksTicksWrongFalsely : Prop := clocksTicksRow.holds Tryz.pinned (OpenSpec.ofChange clocksTicksWrong)

/-- 'ratchettop.TopClocksApart': WHATEVER THE INPUT: true; the input reads as it did. -/
def topClocksApartSpec : ChangeSpec := { name := "topClocksApart", fn := fun _ => fun
  | [d1, d2, d3] => { results := [.lit (.bool true)], args := [d1, d2, d3] }
  | _ => none }
def topClocksApartRow : OpenClaim := { program := "ytkmbhgggpfbffaagreatdoor", sum := "dd7babb5c73572b5e567a30e13c104a587bed3bf3abf82153dd856977e082091", func := "ratchet/ratchettop.TopClocksApart", spec := "topClocksApart", unfollowed := true, recurses := true, named := ["internal/strconv.uint64pow10", "math/bits.deBruijn32tab", "math/bits.deBruijn64tab"], apart := false, laid := [("math/bits.deBruijn32tab", laid_math_bits_deBruijn32tab), ("math/bits.deBruijn64tab", laid_math_bits_deBruijn64tab), ("internal/strconv.uint64pow10", laid_internal_strconv_uint64pow10)] }
def TopClocksApartSaid : Prop := topClocksApartRow.holds Tryz.pinned (OpenSpec.ofChange topClocksApartSpec)

/-- ITS FALSE NEIGHBOUR: 'it returns false'. Refute it at one input. -/
def topClocksApartWrong : ChangeSpec := { name := "topClocksApart", fn := fun _ => fun
  | [d1, d2, d3] => { results := [.lit (.bool false)], args := [d1, d2, d3] }
  | _ => none }
def TopClocksApartWrongFalsely : Prop := topClocksApartRow.holds Tryz.pinned (OpenSpec.ofChange topClocksApartWrong)

/- THE SECOND FORM. 'bulk': how many values and letters a reading holds, each counted each time it is reached (what is shared counts as often as it is met; a slice's spare places count too). A statement '..UptoSaid' is the law's where the arguments, and the package variables that the reading takes, are together of bulk at most 1048576: NARROWER than '..Said'. Prove '..Said' where nothing that the law and all that it calls make is longer than what came in: it says more and counts as full. Else prove '..UptoSaid'. A law counts once. -/
mutual
def uptoBulk {H : Type} : DataW H → Nat
  | .lit (.string bytes) => bytes.length + 1
  | .lit _ => 1
  | .nil => 1
  | .ptr d => uptoBulk d + 1
  | .slice elems spare => uptoBulkAll elems + uptoBulkAll spare + 1
  | .agg parts => uptoBulkAll parts + 1
  | .iface _ d => uptoBulk d + 1
  | .map entries => uptoBulkEntries entries + 1
  | .held _ => 1
def uptoBulkAll {H : Type} : List (DataW H) → Nat
  | [] => 0
  | d :: r => uptoBulk d + uptoBulkAll r
def uptoBulkEntries {H : Type} : List (Lit × DataW H) → Nat
  | [] => 0
  | x :: r => uptoBulkEntry x + uptoBulkEntries r
def uptoBulkEntry {H : Type} : Lit × DataW H → Nat
  | (.string bytes, d) => bytes.length + uptoBulk d + 1
  | (_, d) => uptoBulk d + 1
 end
def uptoSmall : (H : Type) → List (DataW H) → Bool := fun _ ds => decide (uptoBulkAll ds ≤ 1048576)
def OpenSpec.upto (s : _root_.Go.ChangeSpec) : _root_.Go.OpenSpec := { _root_.Go.OpenSpec.ofChange s with cond := some uptoSmall }

/-- 'ratchetlaw21.ClocksFlops', WHERE WHAT IT READS IS OF BULK AT MOST 1048576: true; the input reads as it did. -/
def clocksFlopsUptoRow : OpenClaim := { program := "ytkmbhgggpfbffaagreatdoor", sum := "dd7babb5c73572b5e567a30e13c104a587bed3bf3abf82153dd856977e082091", func := "ratchet/ratchetlaw21.ClocksFlops", spec := "clocksFlops", unfollowed := true, recurses := true, named := ["internal/strconv.uint64pow10", "math/bits.deBruijn32tab", "math/bits.deBruijn64tab"], apart := false, laid := [("math/bits.deBruijn32tab", laid_math_bits_deBruijn32tab), ("math/bits.deBruijn64tab", laid_math_bits_deBruijn64tab), ("internal/strconv.uint64pow10", laid_internal_strconv_uint64pow10)], narrowed := true }
def ClocksFlopsUptoSaid : Prop := clocksFlopsUptoRow.holds Tryz.pinned (OpenSpec.upto clocksFlopsSpec)

/-- 'ratchetlaw21.ClocksQueue', WHERE WHAT IT READS IS OF BULK AT MOST 1048576: true; the input reads as it did. -/
def clocksQueueUptoRow : OpenClaim := { program := "ytkmbhgggpfbffaagreatdoor", sum := "dd7babb5c73572b5e567a30e13c104a587bed3bf3abf82153dd856977e082091", func := "ratchet/ratchetlaw21.ClocksQueue", spec := "clocksQueue", unfollowed := true, recurses := true, named := ["internal/strconv.uint64pow10", "math/bits.deBruijn32tab", "math/bits.deBruijn64tab"], apart := false, laid := [("math/bits.deBruijn32tab", laid_math_bits_deBruijn32tab), ("math/bits.deBruijn64tab", laid_math_bits_deBruijn64tab), ("internal/strconv.uint64pow10", laid_internal_strconv_uint64pow10)], narrowed := true }
def ClocksQueueUptoSaid : Prop := clocksQueueUptoRow.holds Tryz.pinned (OpenSpec.upto clocksQueueSpec)

/-- 'ratchetlaw21.ClocksDomains', WHERE WHAT IT READS IS OF BULK AT MOST 1048576: true; the input reads as it did. -/
def clocksDomainsUptoRow : OpenClaim := { program := "ytkmbhgggpfbffaagreatdoor", sum := "dd7babb5c73572b5e567a30e13c104a587bed3bf3abf82153dd856977e082091", func := "ratchet/ratchetlaw21.ClocksDomains", spec := "clocksDomains", unfollowed := true, recurses := true, named := ["internal/strconv.uint64pow10", "math/bits.deBruijn32tab", "math/bits.deBruijn64tab"], apart := false, laid := [("math/bits.deBruijn32tab", laid_math_bits_deBruijn32tab), ("math/bits.deBruijn64tab", laid_math_bits_deBruijn64tab), ("internal/strconv.uint64pow10", laid_internal_strconv_uint64pow10)], narrowed := true }
def ClocksDomainsUptoSaid : Prop := clocksDomainsUptoRow.holds Tryz.pinned (OpenSpec.upto clocksDomainsSpec)

/-- 'ratchetlaw21.ClocksHandshake', WHERE WHAT IT READS IS OF BULK AT MOST 1048576: true; the input reads as it did. -/
def clocksHandshakeUptoRow : OpenClaim := { program := "ytkmbhgggpfbffaagreatdoor", sum := "dd7babb5c73572b5e567a30e13c104a587bed3bf3abf82153dd856977e082091", func := "ratchet/ratchetlaw21.ClocksHandshake", spec := "clocksHandshake", unfollowed := true, recurses := true, named := ["internal/strconv.uint64pow10", "math/bits.deBruijn32tab", "math/bits.deBruijn64tab"], apart := false, laid := [("math/bits.deBruijn32tab", laid_math_bits_deBruijn32tab), ("math/bits.deBruijn64tab", laid_math_bits_deBruijn64tab), ("internal/strconv.uint64pow10", laid_internal_strconv_uint64pow10)], narrowed := true }
def ClocksHandshakeUptoSaid : Prop := clocksHandshakeUptoRow.holds Tryz.pinned (OpenSpec.upto clocksHandshakeSpec)

/-- 'ratchetlaw21.ClocksNothingLost', WHERE WHAT IT READS IS OF BULK AT MOST 1048576: true; the input reads as it did. -/
def clocksNothingLostUptoRow : OpenClaim := { program := "ytkmbhgggpfbffaagreatdoor", sum := "dd7babb5c73572b5e567a30e13c104a587bed3bf3abf82153dd856977e082091", func := "ratchet/ratchetlaw21.ClocksNothingLost", spec := "clocksNothingLost", unfollowed := true, recurses := true, named := ["internal/strconv.uint64pow10", "math/bits.deBruijn32tab", "math/bits.deBruijn64tab"], apart := false, laid := [("math/bits.deBruijn32tab", laid_math_bits_deBruijn32tab), ("math/bits.deBruijn64tab", laid_math_bits_deBruijn64tab), ("internal/strconv.uint64pow10", laid_internal_strconv_uint64pow10)], narrowed := true }
def ClocksNothingLostUptoSaid : Prop := clocksNothingLostUptoRow.holds Tryz.pinned (OpenSpec.upto clocksNothingLostSpec)

/-- 'ratchetlaw21.ClocksResets', WHERE WHAT IT READS IS OF BULK AT MOST 1048576: true; the input reads as it did. -/
def clocksResetsUptoRow : OpenClaim := { program := "ytkmbhgggpfbffaagreatdoor", sum := "dd7babb5c73572b5e567a30e13c104a587bed3bf3abf82153dd856977e082091", func := "ratchet/ratchetlaw21.ClocksResets", spec := "clocksResets", unfollowed := true, recurses := true, named := ["internal/strconv.uint64pow10", "math/bits.deBruijn32tab", "math/bits.deBruijn64tab"], apart := false, laid := [("math/bits.deBruijn32tab", laid_math_bits_deBruijn32tab), ("math/bits.deBruijn64tab", laid_math_bits_deBruijn64tab), ("internal/strconv.uint64pow10", laid_internal_strconv_uint64pow10)], narrowed := true }
def ClocksResetsUptoSaid : Prop := clocksResetsUptoRow.holds Tryz.pinned (OpenSpec.upto clocksResetsSpec)

/-- 'ratchetlaw21.ClocksSyncs', WHERE WHAT IT READS IS OF BULK AT MOST 1048576: true; the input reads as it did. -/
def clocksSyncsUptoRow : OpenClaim := { program := "ytkmbhgggpfbffaagreatdoor", sum := "dd7babb5c73572b5e567a30e13c104a587bed3bf3abf82153dd856977e082091", func := "ratchet/ratchetlaw21.ClocksSyncs", spec := "clocksSyncs", unfollowed := true, recurses := true, named := ["internal/strconv.uint64pow10", "math/bits.deBruijn32tab", "math/bits.deBruijn64tab"], apart := false, laid := [("math/bits.deBruijn32tab", laid_math_bits_deBruijn32tab), ("math/bits.deBruijn64tab", laid_math_bits_deBruijn64tab), ("internal/strconv.uint64pow10", laid_internal_strconv_uint64pow10)], narrowed := true }
def ClocksSyncsUptoSaid : Prop := clocksSyncsUptoRow.holds Tryz.pinned (OpenSpec.upto clocksSyncsSpec)

/-- 'ratchetlaw21.ClocksTicks', WHERE WHAT IT READS IS OF BULK AT MOST 1048576: true; the input reads as it did. -/
def clocksTicksUptoRow : OpenClaim := { program := "ytkmbhgggpfbffaagreatdoor", sum := "dd7babb5c73572b5e567a30e13c104a587bed3bf3abf82153dd856977e082091", func := "ratchet/ratchetlaw21.ClocksTicks", spec := "clocksTicks", unfollowed := true, recurses := true, named := ["internal/strconv.uint64pow10", "math/bits.deBruijn32tab", "math/bits.deBruijn64tab"], apart := false, laid := [("math/bits.deBruijn32tab", laid_math_bits_deBruijn32tab), ("math/bits.deBruijn64tab", laid_math_bits_deBruijn64tab), ("internal/strconv.uint64pow10", laid_internal_strconv_uint64pow10)], narrowed := true }
def ClocksTicksUptoSaid : Prop := clocksTicksUptoRow.holds Tryz.pinned (OpenSpec.upto clocksTicksSpec)

/-- 'ratchettop.TopClocksApart', WHERE WHAT IT READS IS OF BULK AT MOST 1048576: true; the input reads as it did. -/
def topClocksApartUptoRow : OpenClaim := { program := "ytkmbhgggpfbffaagreatdoor", sum := "dd7babb5c73572b5e567a30e13c104a587bed3bf3abf82153dd856977e082091", func := "ratchet/ratchettop.TopClocksApart", spec := "topClocksApart", unfollowed := true, recurses := true, named := ["internal/strconv.uint64pow10", "math/bits.deBruijn32tab", "math/bits.deBruijn64tab"], apart := false, laid := [("math/bits.deBruijn32tab", laid_math_bits_deBruijn32tab), ("math/bits.deBruijn64tab", laid_math_bits_deBruijn64tab), ("internal/strconv.uint64pow10", laid_internal_strconv_uint64pow10)], narrowed := true }
def TopClocksApartUptoSaid : Prop := topClocksApartUptoRow.holds Tryz.pinned (OpenSpec.upto topClocksApartSpec)

end Rows
end Go.Proofs.YtkmbhgggpfbffaaGreatDoor
