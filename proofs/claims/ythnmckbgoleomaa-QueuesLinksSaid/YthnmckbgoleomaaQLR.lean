/- The row of QueuesLinks, out of the statement on plain data. -/
import Derived.Test.YthnmckbgoleomaaRows
import Derived.Test.YthnmckbgoleomaaAs7
import Derived.Test.YthnmckbgoleomaaQLP
import Derived.ProofKit
set_option maxRecDepth 100000
namespace Go.Proofs.Ythnmckbgoleomaa
open Go.ChangeShapes Go.WideShapes Go.ChangeAt Go.RowKit Am
theorem law7 (hp : PureQueuesLinks) : ∀ uss, FitsA Try.prog 20 Try.f7.params.toList uss → runF T 7 (argDs Try.prog Try.f7.params.toList uss) [] = some ([], [.p (.b true)], []) := by
  intro uss h
  have ht : Try.f7.params.toList = [71, 24, 72] := by kernel_rfl
  rw [ht] at h ⊢
  match uss, h with
  | [u0, u1, u2], h =>
    obtain ⟨h0, h1, h2, _⟩ := h
    obtain ⟨x0, rfl, ok0⟩ := arg_of (ss := [.i .i64, .i .i64]) (by kernel_rfl) h0
    obtain ⟨x1, rfl, ok1⟩ := arg_of (ss := [.sl [.i .i64]]) (by kernel_rfl) h1
    obtain ⟨x2, rfl, ok2⟩ := arg_of (ss := [.sl [.i .i64, .i .i64]]) (by kernel_rfl) h2
    obtain ⟨N, hN⟩ := hp x0 x1 x2 ok0 ok1 ok2
    have e : F50 N 7 [.agg [.p (.i .i64 x0.1), .p (.i .i64 x0.2)], .p (.l (.t [.i .i64] x1)), .p (.l (.t [.i .i64, .i .i64] x2))] [] (fun a b c => some (a, b, c)) = ratchetlaw19_QueuesLinks N x0.1 x0.2 x1 x2 (fun r0 => some ([], [.p (.b r0)], [])) := by kernel_rfl
    have := law_out (F50_ok N) (v := 7) (ds := [.agg [.p (.i .i64 x0.1), .p (.i .i64 x0.2)], .p (.l (.t [.i .i64] x1)), .p (.l (.t [.i .i64, .i .i64] x2))]) (e.trans (hN _))
    have e0 : argD Try.prog 71 (encL [.i .i64, .i .i64] x0) = DS.enc (.agg [.p (.i .i64 x0.1), .p (.i .i64 x0.2)]) := argD_agg (by kernel_rfl)
    have e1 : argD Try.prog 24 (encL [.sl [.i .i64]] x1) = DS.enc (.p (.l (.t [.i .i64] x1))) := argD_one (by kernel_rfl)
    have e2 : argD Try.prog 72 (encL [.sl [.i .i64, .i .i64]] x2) = DS.enc (.p (.l (.t [.i .i64, .i .i64] x2))) := argD_one (by kernel_rfl)
    show runF T 7 [argD Try.prog 71 (encL [.i .i64, .i .i64] x0), argD Try.prog 24 (encL [.sl [.i .i64]] x1), argD Try.prog 72 (encL [.sl [.i .i64, .i .i64]] x2)] [] = _
    rw [e0, e1, e2]
    exact this
theorem own : ownKnob Try.prog.godebug = none := by kernel_rfl
theorem laidOut : laidOutB Try.prog = true := by kernel_rfl
theorem lifted (hp : PureQueuesLinks) (os : Os) (started : os.Started) (H : Type) (enc : TypeId × Value → H) :
    ReturnsInHanded {} Try.checked os 7 .any (Rows.queuesLinksSpec.pre6 enc Try.prog Try.f7 Rows.queuesLinksRow.domain false) (Rows.queuesLinksSpec.post enc Try.prog Try.f7 false true false false) := by
  refine returnsInHanded_of_change (C := Try.checked) own started (by kernel_rfl) Try.func7
    (ChangeSpec.witness6 (enc := enc) (C := Try.checked) false ⟨#[], #[.agg #[.int .i64 0, .int .i64 0], .slice none 0 0, .slice none 0 0], []⟩ 8 (by kernel_rfl) (by kernel_rfl) (by kernel_rfl) (by kernel_rfl)) ?_
  intro W base args ds gs before hval hW _ _
  refine law_calls (n := 20) (fo := theFo) callsOK rfl Try.func7 (by kernel_rfl) (by kernel_rfl) laidOut (by kernel_rfl) (tb := 4) (by kernel_rfl) (by kernel_rfl) (by rfl) ?_ (law7 hp) W base args ds gs before hval hW (fun g cs h => by cases h)
  intro ds hd
  match ds, hd with
  | [d0, d1, d2], _ => exact ⟨rfl, rfl, rfl⟩
theorem f_holds : Rows.QueuesLinksSaid :=
  OpenClaim.holds_of_wide 7 Try.f7 rfl rfl rfl rfl rfl rfl rfl ⟨rfl, rfl, rfl, rfl, rfl⟩ rfl rfl rfl rfl rfl (by kernel_rfl) Try.func7 (by kernel_rfl)
    (of_decide_eq_true (by kernel_rfl)) (by unfold Func.isWrapper; first | (rw [if_pos (by decide +kernel)]; kernel_rfl) | (rw [if_neg (by decide +kernel)]; exact ⟨rfl, rfl⟩))
    (fun os started H enc _ => lifted pureQueuesLinks os started H enc)
end Go.Proofs.Ythnmckbgoleomaa
