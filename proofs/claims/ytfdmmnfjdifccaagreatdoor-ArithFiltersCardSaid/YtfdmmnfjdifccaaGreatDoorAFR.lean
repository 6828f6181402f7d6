/- The row of ArithFilters, out of the statement on plain data. -/
import Derived.Test.YtfdmmnfjdifccaaGreatDoorRows
import Derived.Test.YtfdmmnfjdifccaaGreatDoorAs7
import Derived.Test.YtfdmmnfjdifccaaGreatDoorAFP
import Derived.ProofKit
import Derived.Test.YtfdmmnfjdifccaaGreatDoorCards
import Derived.Test.YtfdmmnfjdifccaaGreatDoorTie
import Derived.SevenTiedAt
import Derived.LaidMore
import Derived.OpenShut
import Derived.Stop.Joined
import Derived.Stop.LaidErr
set_option maxRecDepth 100000
namespace Go.Proofs.YtfdmmnfjdifccaaGreatDoor
open Go.ChangeShapes Go.WideShapes Go.ChangeAt Go.RowKit Am
theorem law4 (hp : PureArithFilters) : ∀ uss, FitsA Tryz.prog 20 Tryz.f4.params.toList uss → runF T 4 (argDs Tryz.prog Tryz.f4.params.toList uss) [] = some ([], [.p (.b true)], []) := by
  intro uss h
  have ht : Tryz.f4.params.toList = [24, 22, 22] := by kernel_rfl
  rw [ht] at h ⊢
  match uss, h with
  | [u0, u1, u2], h =>
    obtain ⟨h0, h1, h2, _⟩ := h
    obtain ⟨x0, rfl, ok0⟩ := arg_of (ss := [.sl [hI], hI, hI]) (by kernel_rfl) h0
    obtain ⟨x1, rfl, ok1⟩ := arg_of (ss := [.sl [hI]]) (by kernel_rfl) h1
    obtain ⟨x2, rfl, ok2⟩ := arg_of (ss := [.sl [hI]]) (by kernel_rfl) h2
    obtain ⟨N, hN⟩ := hp x0 x1 x2 ok0 ok1 ok2
    have e : F242 N 4 [.agg [.p (.l (.t [hI] x0.1)), .p (.i .i64 x0.2.1), .p (.i .i64 x0.2.2)], .p (.l (.t [hI] x1)), .p (.l (.t [hI] x2))] [] (fun a b c => some (a, b, c)) = ratchetlaw30_ArithFilters N x0.1 x0.2.1 x0.2.2 x1 x2 (fun r0 => some ([], [.p (.b r0)], [])) := by kernel_rfl
    have := law_out (F242_ok N) (v := 4) (ds := [.agg [.p (.l (.t [hI] x0.1)), .p (.i .i64 x0.2.1), .p (.i .i64 x0.2.2)], .p (.l (.t [hI] x1)), .p (.l (.t [hI] x2))]) (e.trans (hN _))
    have e0 : argD Tryz.prog 24 (encL [.sl [hI], hI, hI] x0) = DS.enc (.agg [.p (.l (.t [hI] x0.1)), .p (.i .i64 x0.2.1), .p (.i .i64 x0.2.2)]) := argD_agg (by kernel_rfl)
    have e1 : argD Tryz.prog 22 (encL [.sl [hI]] x1) = DS.enc (.p (.l (.t [hI] x1))) := argD_one (by kernel_rfl)
    have e2 : argD Tryz.prog 22 (encL [.sl [hI]] x2) = DS.enc (.p (.l (.t [hI] x2))) := argD_one (by kernel_rfl)
    show runF T 4 [argD Tryz.prog 24 (encL [.sl [hI], hI, hI] x0), argD Tryz.prog 22 (encL [.sl [hI]] x1), argD Tryz.prog 22 (encL [.sl [hI]] x2)] [] = _
    rw [e0, e1, e2]
    exact this
theorem own : ownKnob Tryz.prog.godebug = none := by kernel_rfl
theorem laidOut : laidOutB Tryz.prog = true := by kernel_rfl
theorem Tryz.pow10ty : (Tryz.prog.globals[0]?).map (·.type) = some 237 ∧ Tryz.prog.underlying 237 = some (.array 20 213) ∧ Tryz.prog.underlying 213 = some (.int .u64) ∧ Tryz.prog.cellsOf 213 = 1 ∧ Tryz.prog.cellsOf 237 = 20 := ⟨by kernel_rfl, by kernel_rfl, by kernel_rfl, by kernel_rfl, by kernel_rfl⟩
theorem door_met (os : Os) (args : Array Value) : laidMetH Tryz.prog Rows.arithFiltersRow.laid ((World.doorLaid Tryz.prog 400 os).forCall (fun _ _ => 0) ⟨#[], args, []⟩).memory := by
  rw [MakeChecks.laidMetH_plain _ _ _ (by kernel_rfl)]
  exact laidMet_of_run' 8 (by kernel_rfl) (by kernel_rfl)
theorem lifted (hp : PureArithFilters) (os : Os) (started : os.Started) (H : Type) (enc : TypeId × Value → H) :
    ReturnsInHanded {} Tryz.checked os 4 .any (fun w args => (Rows.arithFiltersSpec.pre enc Tryz.prog Tryz.f4 [] false w args ∧ laidMetH Tryz.prog Rows.arithFiltersRow.laid w) ∧ sizedMet enc Tryz.prog Tryz.f4 (OpenSpec.ofChange Rows.arithFiltersSpec) false w args)
      (Rows.arithFiltersSpec.post enc Tryz.prog Tryz.f4 false true false false) := by
  refine returnsInHanded_of_change_and (C := Tryz.checked) (X := fun w _ => laidMetH Tryz.prog Rows.arithFiltersRow.laid w) (fun _ _ _ hh h => h.of_heap hh) own started (by kernel_rfl) Tryz.func4
    (ChangeSpec.witness_shaped (enc := enc) (C := Tryz.checked) (os := os) (X := fun w _ => laidMetH Tryz.prog Rows.arithFiltersRow.laid w) false (World.doorLaid Tryz.prog 400 os) #[.agg #[.slice none 0 0, .int .i64 0, .int .i64 0], .slice none 0 0, .slice none 0 0] 8 rfl (World.shaped_of_RefB (by kernel_rfl) (by kernel_rfl)) (by kernel_rfl) (by kernel_rfl) (by kernel_rfl) (door_met os _)) ?_
  intro W base args ds gs before hval hW _ _ hL _
  have hL' : laidMet Tryz.prog Rows.arithFiltersRow.laid W := by
    rwa [MakeChecks.laidMetH_plain _ _ _ (by kernel_rfl)] at hL
  have htab : ∀ g cs, theFo.tab g = some cs → ∃ t f, W.heap[g]? = some (.cells cs t f) := by
    intro g cs hg
    have hT : laidMet Tryz.prog (Rows.arithFiltersRow.laid.drop 2) W := laidMet.tail (laidMet.tail (hL'))
    by_cases e : g = 0
    · subst e
      have e2 : pow10Cells = cs := by simpa [theFo] using hg
      subst e2
      have hty := Tryz.pow10ty
      exact tab_of_laid (rest := (Rows.arithFiltersRow.laid.drop 2).tail) (by kernel_rfl) hty.1 hty.2.1 hty.2.2.1 hty.2.2.2.1 hty.2.2.2.2 (show laidMet Tryz.prog (("internal/strconv.uint64pow10", Lib.tabData .u64 Lib.pow10Tab) :: (Rows.arithFiltersRow.laid.drop 2).tail) W from hT)
    · simp [theFo, e] at hg
  refine law_calls (n := 20) (fo := theFo) callsOK rfl Tryz.func4 (by kernel_rfl) (by kernel_rfl) laidOut (by kernel_rfl) (tb := 4) (by kernel_rfl) (by kernel_rfl) (by rfl) ?_ (law4 hp) W base args ds gs before hval hW htab
  intro ds hd
  match ds, hd with
  | [d0, d1, d2], _ => exact ⟨rfl, rfl, rfl⟩
theorem row_holds : Rows.ArithFiltersSaid :=
  OpenClaim.holds_of_wide 4 Tryz.f4 rfl rfl rfl rfl rfl rfl rfl ⟨rfl, rfl, rfl, rfl, rfl⟩ rfl rfl rfl rfl rfl (by kernel_rfl) Tryz.func4 (by kernel_rfl)
    (of_decide_eq_true (by kernel_rfl)) (by unfold Func.isWrapper; first | (rw [if_pos (by decide +kernel)]; kernel_rfl) | (rw [if_neg (by decide +kernel)]; exact ⟨rfl, rfl⟩))
    (fun os started H enc _ => lifted pureArithFilters os started H enc)
theorem f_holds : Rows.ArithFiltersCardSaid :=
  Claim7.holds_tied_plain_at .later [] [.data, .data, .data] true (true, "480f621143cae037b1b0571f5df5194417bfc035b83c758d2b310076616948cd") false
    row_holds (fun _ h => by cases h) (by kernel_rfl) (fun _ h => by cases h) arithFilters_row_tie rfl ⟨rfl, rfl⟩ (by kernel_rfl) rfl
    (fun f fn hf hfn => by
      obtain rfl : f = 4 := Option.some.inj ((show Tryz.prog.funcNamed "ratchet/ratchetlaw30.ArithFilters" = some 4 by kernel_rfl).symm.trans hf) |>.symm
      obtain rfl : fn = Tryz.f4 := (Option.some.inj (Tryz.func4.symm.trans hfn)).symm
      exact ⟨by kernel_rfl, fun j t ht => by
        have hpar : Tryz.f4.params = #[24, 22, 22] := by kernel_rfl
        rw [hpar] at ht
        have hm : t ∈ [24, 22, 22] := by simpa using Array.mem_of_getElem? ht
        have hall : ([24, 22, 22].all fun u => !Tryz.prog.wantsStandIn u) = true := by kernel_rfl
        exact (show Tryz.prog.wantsStandIn t = false by simpa using List.all_eq_true.1 hall t hm)⟩)
    (by kernel_rfl)
end Go.Proofs.YtfdmmnfjdifccaaGreatDoor
