/-
  No cell of these rows narrows 'for every input' (looked for: loops, veiled, ifaces, maps, wideKeys, modest, calm, conditions, laid).
  DERIVED. THE GIVEN ROWS OF THIS SEAT. 6 by the template 'for every input the law returns true; each argument reads behind the call as it read before'; 0 by the template 'total and deterministic' (their statements: YthnmckbgoleomaaTotals.lean).
  GIVEN WITH THE SEED: the statements are not yours to turn. If you find one false, say at which input.
  Laid BY PROGRAM, IN A SANDBOX (cutbox-rows.mjs): the forced cells as the released guide's own fill.sh prints them over the translation 1f0a686381edd393… (all of the seat's roots in one cut). By AI agents, Wed Nov 11 2026. No macro, syntax, notation, axiom, sorry.
-/
import Derived.Test.YthnmckbgoleomaaChecked
import GoSem.Claim
import GoSem.ClaimJoined
import GoSem.ClaimMapViews
import Derived.JoinedTies
import Derived.KernelRfl
namespace Go.Proofs.Ythnmckbgoleomaa
/- THE CELL 'sum', in the pinned program and in every row, IS THE sha256 OF THE DUMP (.gsa) THAT YthnmckbgoleomaaProg.lean LOADS. Nothing in Lean hashes anything: it is a label: what it is worth is what the hold of that sum in a sandbox is worth. -/
noncomputable def Try.pinned : Pinned := { name := "ythnmckbgoleomaa", sum := "1f0a686381edd39304b7ec39944d88925221844c1131f1f73385c16bee775759", checked := Try.checked }
namespace Rows
def none {H : Type} : Left H := { results := [], args := [] }

/-- 'ratchetlaw19.QueuesBuffers': WHATEVER THE INPUT: true; the input reads as it did. -/
def queuesBuffersSpec : ChangeSpec := { name := "queuesBuffers", fn := fun _ => fun
  | [d1, d2] => { results := [.lit (.bool true)], args := [d1, d2] }
  | _ => none }
def queuesBuffersRow : OpenClaim := { program := "ythnmckbgoleomaa", sum := "1f0a686381edd39304b7ec39944d88925221844c1131f1f73385c16bee775759", func := "ratchet/ratchetlaw19.QueuesBuffers", spec := "queuesBuffers", unfollowed := true, recurses := true, apart := false }
def QueuesBuffersSaid : Prop := queuesBuffersRow.holds Try.pinned (OpenSpec.ofChange queuesBuffersSpec)

/-- ITS FALSE NEIGHBOUR: 'it returns false'. Refute it at one input. -/
def queuesBuffersWrong : ChangeSpec := { name := "queuesBuffers", fn := fun _ => fun
  | [d1, d2] => { results := [.lit (.bool false)], args := [d1, d2] }
  | _ => none }
def QueuesBuffersWrongFalsely : Prop := queuesBuffersRow.holds Try.pinned (OpenSpec.ofChange queuesBuffersWrong)

/-- 'ratchetlaw19.QueuesTurns': WHATEVER THE INPUT: true; the input reads as it did. -/
def queuesTurnsSpec : ChangeSpec := { name := "queuesTurns", fn := fun _ => fun
  | [d1, d2, d3] => { results := [.lit (.bool true)], args := [d1, d2, d3] }
  | _ => none }
def queuesTurnsRow : OpenClaim := { program := "ythnmckbgoleomaa", sum := "1f0a686381edd39304b7ec39944d88925221844c1131f1f73385c16bee775759", func := "ratchet/ratchetlaw19.QueuesTurns", spec := "queuesTurns", unfollowed := true, recurses := true, apart := false }
def QueuesTurnsSaid : Prop := queuesTurnsRow.holds Try.pinned (OpenSpec.ofChange queuesTurnsSpec)

/-- ITS FALSE NEIGHBOUR: 'it returns false'. Refute it at one input. -/
def queuesTurnsWrong : ChangeSpec := { name := "queuesTurns", fn := fun _ => fun
  | [d1, d2, d3] => { results := [.lit (.bool false)], args := [d1, d2, d3] }
  | _ => none }
def QueuesTurnsWrongFalsely : Prop := queuesTurnsRow.holds Try.pinned (OpenSpec.ofChange queuesTurnsWrong)

/-- 'ratchetlaw19.QueuesRuns': WHATEVER THE INPUT: true; the input reads as it did. -/
def queuesRunsSpec : ChangeSpec := { name := "queuesRuns", fn := fun _ => fun
  | [d1, d2, d3] => { results := [.lit (.bool true)], args := [d1, d2, d3] }
  | _ => none }
def queuesRunsRow : OpenClaim := { program := "ythnmckbgoleomaa", sum := "1f0a686381edd39304b7ec39944d88925221844c1131f1f73385c16bee775759", func := "ratchet/ratchetlaw19.QueuesRuns", spec := "queuesRuns", unfollowed := true, recurses := true, apart := false }
def QueuesRunsSaid : Prop := queuesRunsRow.holds Try.pinned (OpenSpec.ofChange queuesRunsSpec)

/-- ITS FALSE NEIGHBOUR: 'it returns false'. Refute it at one input. -/
def queuesRunsWrong : ChangeSpec := { name := "queuesRuns", fn := fun _ => fun
  | [d1, d2, d3] => { results := [.lit (.bool false)], args := [d1, d2, d3] }
  | _ => none }
def QueuesRunsWrongFalsely : Prop := queuesRunsRow.holds Try.pinned (OpenSpec.ofChange queuesRunsWrong)

/-- 'ratchetlaw19.QueuesGrants': WHATEVER THE INPUT: true; the input reads as it did. -/
def queuesGrantsSpec : ChangeSpec := { name := "queuesGrants", fn := fun _ => fun
  | [d1, d2, d3] => { results := [.lit (.bool true)], args := [d1, d2, d3] }
  | _ => none }
def queuesGrantsRow : OpenClaim := { program := "ythnmckbgoleomaa", sum := "1f0a686381edd39304b7ec39944d88925221844c1131f1f73385c16bee775759", func := "ratchet/ratchetlaw19.QueuesGrants", spec := "queuesGrants", unfollowed := true, recurses := true, apart := false }
def QueuesGrantsSaid : Prop := queuesGrantsRow.holds Try.pinned (OpenSpec.ofChange queuesGrantsSpec)

/-- ITS FALSE NEIGHBOUR: 'it returns false'. Refute it at one input. -/
def queuesGrantsWrong : ChangeSpec := { name := "queuesGrants", fn := fun _ => fun
  | [d1, d2, d3] => { results := [.lit (.bool false)], args := [d1, d2, d3] }
  | _ => none }
def QueuesGrantsWrongFalsely : Prop := queuesGrantsRow.holds Try.pinned (OpenSpec.ofChange queuesGrantsWrong)

/-- 'ratchetlaw19.QueuesLinks': WHATEVER THE INPUT: true; the input reads as it did. -/
def queuesLinksSpec : ChangeSpec := { name := "queuesLinks", fn := fun _ => fun
  | [d1, d2, d3] => { results := [.lit (.bool true)], args := [d1, d2, d3] }
  | _ => none }
def queuesLinksRow : OpenClaim := { program := "ythnmckbgoleomaa", sum := "1f0a686381edd39304b7ec39944d88925221844c1131f1f73385c16bee775759", func := "ratchet/ratchetlaw19.QueuesLinks", spec := "queuesLinks", unfollowed := true, recurses := true, apart := false }
def QueuesLinksSaid : Prop := queuesLinksRow.holds Try.pinned (OpenSpec.ofChange queuesLinksSpec)

/-- ITS FALSE NEIGHBOUR: 'it returns false'. Refute it at one input. -/
def queuesLinksWrong : ChangeSpec := { name := "queuesLinks", fn := fun _ => fun
  | [d1, d2, d3] => { results := [.lit (.bool false)], args := [d1, d2, d3] }
  | _ => none }
def QueuesLinksWrongFalsely : Prop := queuesLinksRow.holds Try.pinned (OpenSpec.ofChange queuesLinksWrong)

/-- 'ratchetlaw19.QueuesStates': WHATEVER THE INPUT: true; the input reads as it did. -/
def queuesStatesSpec : ChangeSpec := { name := "queuesStates", fn := fun _ => fun
  | [d1, d2, d3] => { results := [.lit (.bool true)], args := [d1, d2, d3] }
  | _ => none }
def queuesStatesRow : OpenClaim := { program := "ythnmckbgoleomaa", sum := "1f0a686381edd39304b7ec39944d88925221844c1131f1f73385c16bee775759", func := "ratchet/ratchetlaw19.QueuesStates", spec := "queuesStates", unfollowed := true, recurses := true, apart := false }
def QueuesStatesSaid : Prop := queuesStatesRow.holds Try.pinned (OpenSpec.ofChange queuesStatesSpec)

/-- ITS FALSE NEIGHBOUR: 'it returns false'. Refute it at one input. -/
def queuesStatesWrong : ChangeSpec := { name := "queuesStates", fn := fun _ => fun
  | [d1, d2, d3] => { results := [.lit (.bool false)], args := [d1, d2, d3] }
  | _ => none }
def QueuesStatesWrongFalsely : Prop := queuesStatesRow.holds Try.pinned (OpenSpec.ofChange queuesStatesWrong)

/- THE SECOND FORM. 'bulk': how many values and letters a reading holds, each counted each time it is reached (what is shared counts as often as it is met; a slice's spare places count too). A statement '..UptoSaid' is the law's where the arguments, and the package variables that the reading takes, are together of bulk at most 1048576: NARROWER than '..Said'. Prove '..Said' where nothing that the law and all that it calls make is longer than what came in: it says more and counts as full. Else prove '..UptoSaid'. A law counts once. -/
mutual
def uptoBulk {H : Type} : DataW H → Nat
  | .lit (.string bytes) => bytes.length + 1
  | .lit _ => 1
  | .nil => 1
  | .ptr d => uptoBulk d + 1
  | .slice elems spare => uptoBulkAll elems + uptoBulkAll spare + 1
  | .agg parts => uptoBulkAll parts + 1
  | .iface _ d => uptoBulk d + 1
  | .map entries => uptoBulkEntries entries + 1
  | .held _ => 1
def uptoBulkAll {H : Type} : List (DataW H) → Nat
  | [] => 0
  | d :: r => uptoBulk d + uptoBulkAll r
def uptoBulkEntries {H : Type} : List (Lit × DataW H) → Nat
  | [] => 0
  | x :: r => uptoBulkEntry x + uptoBulkEntries r
def uptoBulkEntry {H : Type} : Lit × DataW H → Nat
  | (.string bytes, d) => bytes.length + uptoBulk d + 1
  | (_, d) => uptoBulk d + 1
 end
def uptoSmall : (H : Type) → List (DataW H) → Bool := fun _ ds => decide (uptoBulkAll ds ≤ 1048576)
def OpenSpec.upto (s : _root_.Go.ChangeSpec) : _root_.Go.OpenSpec := { _root_.Go.OpenSpec.ofChange s with cond := some uptoSmall }

/-- 'ratchetlaw19.QueuesBuffers', WHERE WHAT IT READS IS OF BULK AT MOST 1048576: true; the input reads as it did. -/
def queuesBuffersUptoRow : OpenClaim := { program := "ythnmckbgoleomaa", sum := "1f0a686381edd39304b7ec39944d88925221844c1131f1f73385c16bee775759", func := "ratchet/ratchetlaw19.QueuesBuffers", spec := "queuesBuffers", unfollowed := true, recurses := true, apart := false, narrowed := true }
def QueuesBuffersUptoSaid : Prop := queuesBuffersUptoRow.holds Try.pinned (OpenSpec.upto queuesBuffersSpec)

/-- 'ratchetlaw19.QueuesTurns', WHERE WHAT IT READS IS OF BULK AT MOST 1048576: true; the input reads as it did. -/
def queuesTurnsUptoRow : OpenClaim := { program := "ythnmckbgoleomaa", sum := "1f0a686381edd39304b7ec39944d88925221844c1131f1f73385c16bee775759", func := "ratchet/ratchetlaw19.QueuesTurns", spec := "queuesTurns", unfollowed := true, recurses := true, apart := false, narrowed := true }
def QueuesTurnsUptoSaid : Prop := queuesTurnsUptoRow.holds Try.pinned (OpenSpec.upto queuesTurnsSpec)

/-- 'ratchetlaw19.QueuesRuns', WHERE WHAT IT READS IS OF BULK AT MOST 1048576: true; the input reads as it did. -/
def queuesRunsUptoRow : OpenClaim := { program := "ythnmckbgoleomaa", sum := "1f0a686381edd39304b7ec39944d88925221844c1131f1f73385c16bee775759", func := "ratchet/ratchetlaw19.QueuesRuns", spec := "queuesRuns", unfollowed := true, recurses := true, apart := false, narrowed := true }
def QueuesRunsUptoSaid : Prop := queuesRunsUptoRow.holds Try.pinned (OpenSpec.upto queuesRunsSpec)

/-- 'ratchetlaw19.QueuesGrants', WHERE WHAT IT READS IS OF BULK AT MOST 1048576: true; the input reads as it did. -/
def queuesGrantsUptoRow : OpenClaim := { program := "ythnmckbgoleomaa", sum := "1f0a686381edd39304b7ec39944d88925221844c1131f1f73385c16bee775759", func := "ratchet/ratchetlaw19.QueuesGrants", spec := "queuesGrants", unfollowed := true, recurses := true, apart := false, narrowed := true }
def QueuesGrantsUptoSaid : Prop := queuesGrantsUptoRow.holds Try.pinned (OpenSpec.upto queuesGrantsSpec)

/-- 'ratchetlaw19.QueuesLinks', WHERE WHAT IT READS IS OF BULK AT MOST 1048576: true; the input reads as it did. -/
def queuesLinksUptoRow : OpenClaim := { program := "ythnmckbgoleomaa", sum := "1f0a686381edd39304b7ec39944d88925221844c1131f1f73385c16bee775759", func := "ratchet/ratchetlaw19.QueuesLinks", spec := "queuesLinks", unfollowed := true, recurses := true, apart := false, narrowed := true }
def QueuesLinksUptoSaid : Prop := queuesLinksUptoRow.holds Try.pinned (OpenSpec.upto queuesLinksSpec)

/-- 'ratchetlaw19.QueuesStates', WHERE WHAT IT READS IS OF BULK AT MOST 1048576: true; the input reads as it did. -/
def queuesStatesUptoRow : OpenClaim := { program := "ythnmckbgoleomaa", sum := "1f0a686381edd39304b7ec39944d88925221844c1131f1f73385c16bee775759", func := "ratchet/ratchetlaw19.QueuesStates", spec := "queuesStates", unfollowed := true, recurses := true, apart := false, narrowed := true }
def QueuesStatesUptoSaid : Prop := queuesStatesUptoRow.holds Try.pinned (OpenSpec.upto queuesStatesSpec)

end Rows
end Go.Proofs.Ythnmckbgoleomaa
