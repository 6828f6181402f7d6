/- The row of ArithBoth, out of the statement on plain data. -/
import Derived.Test.YteamkapbkccdeaaDoorRows
import Derived.Test.YteamkapbkccdeaaDoorAs7
import Derived.Test.YteamkapbkccdeaaDoorABP
import Derived.ProofKit
import Derived.Test.YteamkapbkccdeaaDoorCards
import Derived.Test.YteamkapbkccdeaaDoorTie
import Derived.SevenTiedAt
import Derived.LaidMore
import Derived.OpenShut
import Derived.Stop.Joined
import Derived.Stop.LaidErr
set_option maxRecDepth 100000
namespace Go.Proofs.YteamkapbkccdeaaDoor
open Go.ChangeShapes Go.WideShapes Go.ChangeAt Go.RowKit Am
theorem law7 (hp : PureArithBoth) : ∀ uss, FitsA Tryd.prog 20 Tryd.f7.params.toList uss → runF T 7 (argDs Tryd.prog Tryd.f7.params.toList uss) [] = some ([], [.p (.b true)], []) := by
  intro uss h
  have ht : Tryd.f7.params.toList = [51, 51] := by kernel_rfl
  rw [ht] at h ⊢
  match uss, h with
  | [u0, u1], h =>
    obtain ⟨h0, h1, _⟩ := h
    obtain ⟨x0, rfl, ok0⟩ := arg_of (ss := [.sl [.i .i64, .i .i64]]) (by kernel_rfl) h0
    obtain ⟨x1, rfl, ok1⟩ := arg_of (ss := [.sl [.i .i64, .i .i64]]) (by kernel_rfl) h1
    obtain ⟨N, hN⟩ := hp x0 x1 ok0 ok1
    have e : F72 N 7 [.p (.l (.t [.i .i64, .i .i64] x0)), .p (.l (.t [.i .i64, .i .i64] x1))] [] (fun a b c => some (a, b, c)) = ratchetlaw30_ArithBoth N x0 x1 (fun r0 => some ([], [.p (.b r0)], [])) := by kernel_rfl
    have := law_out (F72_ok N) (v := 7) (ds := [.p (.l (.t [.i .i64, .i .i64] x0)), .p (.l (.t [.i .i64, .i .i64] x1))]) (e.trans (hN _))
    have e0 : argD Tryd.prog 51 (encL [.sl [.i .i64, .i .i64]] x0) = DS.enc (.p (.l (.t [.i .i64, .i .i64] x0))) := argD_one (by kernel_rfl)
    have e1 : argD Tryd.prog 51 (encL [.sl [.i .i64, .i .i64]] x1) = DS.enc (.p (.l (.t [.i .i64, .i .i64] x1))) := argD_one (by kernel_rfl)
    show runF T 7 [argD Tryd.prog 51 (encL [.sl [.i .i64, .i .i64]] x0), argD Tryd.prog 51 (encL [.sl [.i .i64, .i .i64]] x1)] [] = _
    rw [e0, e1]
    exact this
theorem own : ownKnob Tryd.prog.godebug = none := by kernel_rfl
theorem laidOut : laidOutB Tryd.prog = true := by kernel_rfl
theorem Tryd.pow10ty : (Tryd.prog.globals[0]?).map (·.type) = some 150 ∧ Tryd.prog.underlying 150 = some (.array 20 136) ∧ Tryd.prog.underlying 136 = some (.int .u64) ∧ Tryd.prog.cellsOf 136 = 1 ∧ Tryd.prog.cellsOf 150 = 20 := ⟨by kernel_rfl, by kernel_rfl, by kernel_rfl, by kernel_rfl, by kernel_rfl⟩
theorem door_met (os : Os) (args : Array Value) : laidMetH Tryd.prog Rows.arithBothRow.laid ((World.doorLaid Tryd.prog 400 os).forCall (fun _ _ => 0) ⟨#[], args, []⟩).memory := by
  rw [MakeChecks.laidMetH_plain _ _ _ (by kernel_rfl)]
  exact laidMet_of_run' 8 (by kernel_rfl) (by kernel_rfl)
theorem lifted (hp : PureArithBoth) (os : Os) (started : os.Started) (H : Type) (enc : TypeId × Value → H) :
    ReturnsInHanded {} Tryd.checked os 7 .any (fun w args => (Rows.arithBothSpec.pre enc Tryd.prog Tryd.f7 [] false w args ∧ laidMetH Tryd.prog Rows.arithBothRow.laid w) ∧ sizedMet enc Tryd.prog Tryd.f7 (OpenSpec.ofChange Rows.arithBothSpec) false w args)
      (Rows.arithBothSpec.post enc Tryd.prog Tryd.f7 false true false false) := by
  refine returnsInHanded_of_change_and (C := Tryd.checked) (X := fun w _ => laidMetH Tryd.prog Rows.arithBothRow.laid w) (fun _ _ _ hh h => h.of_heap hh) own started (by kernel_rfl) Tryd.func7
    (ChangeSpec.witness_shaped (enc := enc) (C := Tryd.checked) (os := os) (X := fun w _ => laidMetH Tryd.prog Rows.arithBothRow.laid w) false (World.doorLaid Tryd.prog 400 os) #[.slice none 0 0, .slice none 0 0] 8 rfl (World.shaped_of_RefB (by kernel_rfl) (by kernel_rfl)) (by kernel_rfl) (by kernel_rfl) (by kernel_rfl) (door_met os _)) ?_
  intro W base args ds gs before hval hW _ _ hL _
  have hL' : laidMet Tryd.prog Rows.arithBothRow.laid W := by
    rwa [MakeChecks.laidMetH_plain _ _ _ (by kernel_rfl)] at hL
  have htab : ∀ g cs, theFo.tab g = some cs → ∃ t f, W.heap[g]? = some (.cells cs t f) := by
    intro g cs hg
    have hT : laidMet Tryd.prog (Rows.arithBothRow.laid.drop 2) W := laidMet.tail (laidMet.tail (hL'))
    by_cases e : g = 0
    · subst e
      have e2 : pow10Cells = cs := by simpa [theFo] using hg
      subst e2
      have hty := Tryd.pow10ty
      exact tab_of_laid (rest := (Rows.arithBothRow.laid.drop 2).tail) (by kernel_rfl) hty.1 hty.2.1 hty.2.2.1 hty.2.2.2.1 hty.2.2.2.2 (show laidMet Tryd.prog (("internal/strconv.uint64pow10", Lib.tabData .u64 Lib.pow10Tab) :: (Rows.arithBothRow.laid.drop 2).tail) W from hT)
    · simp [theFo, e] at hg
  refine law_calls (n := 20) (fo := theFo) callsOK rfl Tryd.func7 (by kernel_rfl) (by kernel_rfl) laidOut (by kernel_rfl) (tb := 4) (by kernel_rfl) (by kernel_rfl) (by rfl) ?_ (law7 hp) W base args ds gs before hval hW htab
  intro ds hd
  match ds, hd with
  | [d0, d1], _ => exact ⟨rfl, rfl, rfl⟩
theorem row_holds : Rows.ArithBothSaid :=
  OpenClaim.holds_of_wide 7 Tryd.f7 rfl rfl rfl rfl rfl rfl rfl ⟨rfl, rfl, rfl, rfl, rfl⟩ rfl rfl rfl rfl rfl (by kernel_rfl) Tryd.func7 (by kernel_rfl)
    (of_decide_eq_true (by kernel_rfl)) (by unfold Func.isWrapper; first | (rw [if_pos (by decide +kernel)]; kernel_rfl) | (rw [if_neg (by decide +kernel)]; exact ⟨rfl, rfl⟩))
    (fun os started H enc _ => lifted pureArithBoth os started H enc)
theorem f_holds : Rows.ArithBothCardSaid :=
  Claim7.holds_tied_plain_at .later [] [.data, .data, .data] true (true, "fd370509dd192eb1593e59490a081ff537bcb27c8bc1032b7057f5f44e825168") false
    row_holds (fun _ h => by cases h) (by kernel_rfl) (fun _ h => by cases h) arithBoth_row_tie rfl ⟨rfl, rfl⟩ (by kernel_rfl) rfl
    (fun f fn hf hfn => by
      obtain rfl : f = 7 := Option.some.inj ((show Tryd.prog.funcNamed "ratchet/ratchetlaw30.ArithBoth" = some 7 by kernel_rfl).symm.trans hf) |>.symm
      obtain rfl : fn = Tryd.f7 := (Option.some.inj (Tryd.func7.symm.trans hfn)).symm
      exact ⟨by kernel_rfl, fun j t ht => by
        have hpar : Tryd.f7.params = #[51, 51] := by kernel_rfl
        rw [hpar] at ht
        have hm : t ∈ [51, 51] := by simpa using Array.mem_of_getElem? ht
        have hall : ([51, 51].all fun u => !Tryd.prog.wantsStandIn u) = true := by kernel_rfl
        exact (show Tryd.prog.wantsStandIn t = false by simpa using List.all_eq_true.1 hall t hm)⟩)
    (by kernel_rfl)
end Go.Proofs.YteamkapbkccdeaaDoor
