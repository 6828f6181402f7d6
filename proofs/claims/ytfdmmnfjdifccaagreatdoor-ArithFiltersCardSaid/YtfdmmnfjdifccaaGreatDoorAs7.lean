/- A law's arguments as typed data, and its row. -/
import Derived.Test.YtfdmmnfjdifccaaGreatDoorAs6
import Derived.Test.YtfdmmnfjdifccaaGreatDoorAm30
set_option linter.unusedVariables false
set_option linter.unusedSimpArgs false
set_option linter.constructorNameAsVariable false
namespace Go.Proofs.YtfdmmnfjdifccaaGreatDoor
namespace Am
mutual
/-- Numbers of their kinds, lists and strings as long as arguments may be. -/
def Sh.ok : (s : Sh) → s.den → Prop
  | .i k, n => (Lit.int k n).wf = true
  | .b, _ => True
  | .s, x => ByteArray.size x ≤ maxLen
  | .sl es, xs => List.length (α := denL es) xs ≤ maxLen ∧ ∀ x, List.Mem (α := denL es) x xs → okL es x
def okL : (es : List Sh) → denL es → Prop
  | [], _ => True
  | [s], x => s.ok x
  | s :: t :: q, x => s.ok x.1 ∧ okL (t :: q) x.2
end

theorem list_fits {es : List Sh} (h : ∀ us, FitsL es us → ∃ x, us = encL es x ∧ okL es x) : ∀ xs : List (List V), (∀ x, x ∈ xs → FitsL es x) → ∃ ys : List (denL es), xs = ys.map (encL es) ∧ ∀ y, y ∈ ys → okL es y
  | [], _ => ⟨[], rfl, fun y hy => by cases hy⟩
  | u :: r, hf => by
    obtain ⟨x, h1, h2⟩ := h u (hf u (by simp))
    obtain ⟨ys, h3, h4⟩ := list_fits h r fun x hx => hf x (by simp [hx])
    refine ⟨x :: ys, by rw [List.map_cons, h1, h3], fun y hy => ?_⟩
    rcases List.mem_cons.1 hy with rfl | hy
    · exact h2
    · exact h4 y hy
mutual
theorem Sh.fits : ∀ (s : Sh) (u : V), Fits s u → ∃ x : s.den, u = s.enc x ∧ s.ok x
  | .i k, u, h => by
    cases u <;> simp only [Fits] at h
    obtain ⟨rfl, h⟩ := h
    exact ⟨_, rfl, h⟩
  | .b, u, h => by
    cases u <;> simp only [Fits] at h
    exact ⟨_, rfl, trivial⟩
  | .s, u, h => by
    cases u <;> simp only [Fits] at h
    exact ⟨_, rfl, h⟩
  | .sl es, u, h => by
    cases u <;> simp only [Fits] at h
    rename_i sz xs
    obtain ⟨rfl, h1, h2⟩ := h
    obtain ⟨ys, h3, h4⟩ := list_fits (fitsL es) xs h2
    refine ⟨ys, ?_, ?_⟩
    · rw [h3]; rfl
    · refine ⟨?_, fun x hx => h4 x hx⟩
      rw [h3, List.length_map] at h1; exact h1
theorem fitsL : ∀ (es : List Sh) (us : List V), FitsL es us → ∃ x : denL es, us = encL es x ∧ okL es x
  | [], us, h => by
    cases us with
    | nil => exact ⟨(), rfl, trivial⟩
    | cons _ _ => exact h.elim
  | [s], us, h => by
    match us, h with
    | [u], h =>
      obtain ⟨x, h1, h2⟩ := Sh.fits s u h.1
      exact ⟨x, by rw [h1]; rfl, h2⟩
    | [], h => exact h.elim
    | _ :: _ :: _, h => exact h.2.elim
  | s :: t :: q, us, h => by
    match us, h with
    | u :: r, h =>
      obtain ⟨x, h1, h2⟩ := Sh.fits s u h.1
      obtain ⟨y, h3, h4⟩ := fitsL (t :: q) r h.2
      refine ⟨(x, y), ?_, h2, h4⟩
      rw [h1, h3]; rfl
    | [], h => exact h.elim
end
theorem arg_of {P : Program} {t : TypeId} {ss : List Sh} {us : List V} (hs : shT P 20 t = some ss) (h : ∃ ss, shT P 20 t = some ss ∧ FitsL ss us) : ∃ x : denL ss, us = encL ss x ∧ okL ss x := by
  obtain ⟨ss', h1, h2⟩ := h
  rw [hs] at h1; injection h1 with h1; subst h1
  exact fitsL _ _ h2
theorem argD_one {P : Program} {t : TypeId} {u : V} (h : isAggT P t = false) : argD P t [u] = .p u := by
  unfold argD; rw [h]; rfl
theorem argD_agg {P : Program} {t : TypeId} {us : List V} (h : isAggT P t = true) : argD P t us = .agg (us.map .p) := by
  unfold argD; rw [if_pos h]

/-- What the table says of a law's version. -/
theorem law_out {FS : CfS (List Nat × List DS × HeapS)} {T : Tab} (hF : FOK FS (runF T)) {v : Nat} {ds : List DS} (h : FS v ds [] (fun a b c => some (a, b, c)) = some ([], [.p (.b true)], [])) :
    runF T v (DS.encs ds) [] = some ([], [.p (.b true)], []) := by
  obtain ⟨roots, res, h', h1, h2⟩ := hF v ds [] _ _ h
  injection h2 with h2
  injection h2 with e1 e2
  injection e2 with e2 e3
  subst e1 e2 e3
  exact h1
end Am
end Go.Proofs.YtfdmmnfjdifccaaGreatDoor
