/- The typed layer: tables, loops, functions. -/
import Derived.Test.YtfdmmnfjdifccaaGreatDoorAs4
set_option linter.unusedVariables false
set_option linter.unusedSimpArgs false
set_option linter.constructorNameAsVariable false
namespace Go.Proofs.YtfdmmnfjdifccaaGreatDoor
namespace Am
section
variable {R : Type} {T : Tab}

/-- A version's entry. -/
abbrev En (R : Type) := List DS → HeapS → (List Nat → List DS → HeapS → Option R) → Option R
def Snd (T : Tab) (v : Nat) (g : En R) : Prop :=
  ∀ ds h k r, g ds h k = some r → ∃ roots res h', runF T v (DS.encs ds) (encH h) = some (roots, DS.encs res, encH h') ∧ k roots res h' = some r
def noE : En R := fun _ _ _ => none
def ent (P : AP) (f : P.den → (List Nat → List DS → HeapS → Option R) → Option R) (rest : En R) : En R := fun ds h k => match P.mt ds h with
  | some x => f x k
  | none => rest ds h k
theorem Snd_no {v : Nat} : Snd T v (noE : En R) := fun _ _ _ _ h => by cases h
theorem Snd_ent {FS : CfS R} (hF : FOK FS (runF T)) {H : Nat → Option (List Sh)} {Lp : Nat → StS → KS R → Option R} {X : Nat → List SP} {rp : List AP} {v : Nat} {ver : Ver} (hv : T.ver v = some ver) (hl : LOK (runF T) Lp 1 ver.code)
    {P : AP} {f : P.den → (List Nat → List DS → HeapS → Option R) → Option R} {rest : En R}
    (h : ∀ x k, f x k = verS FS H Lp X rp ver (bdD P.ds x.1) (bdH P.heap x.2) k) (hr : Snd T v rest) : Snd T v (ent P f rest) := by
  intro ds hp k r hk
  unfold ent at hk
  split at hk
  · rename_i x hx
    rw [h] at hk
    obtain ⟨e1, e2⟩ := AP.bd_enc hx
    obtain ⟨roots, res, h', h1, h2⟩ := ver_sound' hF hv hl hk
    rw [e1, e2] at h1
    exact ⟨roots, res, h', h1, h2⟩
  · exact hr ds hp k r hk
theorem FOK_nil {F : Cf} : FOK (nilC : CfS R) F := fun _ _ _ _ _ h => by cases h
theorem FOK_upd {FS : CfS R} (hF : FOK FS (runF T)) {v : Nat} {g : En R} (h : Snd T v g) : FOK (updC FS v g) (runF T) := by
  intro v' ds hp k r hk
  unfold updC at hk
  split at hk
  · rename_i e; subst e; exact h ds hp k r hk
  · exact hF v' ds hp k r hk
/-- What a table says, said anew. -/
theorem Snd_of {FS : CfS R} (hF : FOK FS (runF T)) (v : Nat) {g : En R} (h : ∀ ds hp k r, g ds hp k = some r → FS v ds hp k = some r) : Snd T v g :=
  fun ds hp k r hk => hF v ds hp k r (h ds hp k r hk)

/-! ### Loops -/
def lps : Nat → C → List (Nat × List Nat × C)
  | p, .seq a b => lps (2 * p) a ++ lps (2 * p + 1) b
  | p, .cond _ a b => lps (2 * p) a ++ lps (2 * p + 1) b
  | p, .block _ c => lps (2 * p) c
  | p, .loop keep c => [(p, keep, c)]
  | _, _ => []
def LpOK (F : Cf) (Lp : Nat → StS → KS R → Option R) (p : Nat) (keep : List Nat) (c : C) : Prop :=
  ∀ s k r, Lp p s k = some r → ∃ e s', runL F keep c s.enc = some (e, s'.enc) ∧ k e s' = some r
def AllL (F : Cf) (Lp : Nat → StS → KS R → Option R) : List (Nat × List Nat × C) → Prop
  | [] => True
  | y :: r => LpOK F Lp y.1 y.2.1 y.2.2 ∧ AllL F Lp r
theorem AllL_app {F : Cf} {Lp : Nat → StS → KS R → Option R} : ∀ {a b : List (Nat × List Nat × C)}, AllL F Lp (a ++ b) → AllL F Lp a ∧ AllL F Lp b
  | [], _, h => ⟨trivial, h⟩
  | _ :: _, _, h => ⟨⟨h.1, (AllL_app h.2).1⟩, (AllL_app h.2).2⟩
theorem LOK_all {F : Cf} {Lp : Nat → StS → KS R → Option R} : ∀ (c : C) (p : Nat), AllL F Lp (lps p c) → LOK F Lp p c
  | .seq a b, p, h => ⟨LOK_all a _ (AllL_app h).1, LOK_all b _ (AllL_app h).2⟩
  | .cond _ a b, p, h => ⟨LOK_all a _ (AllL_app h).1, LOK_all b _ (AllL_app h).2⟩
  | .block _ c, p, h => LOK_all c _ h
  | .loop _ _, p, h => h.1
  | .skip, _, _ => trivial
  | .reg _, _, _ => trivial
  | .drw _, _, _ => trivial
  | .exit _ _, _, _ => trivial
  | .ret _, _, _ => trivial
theorem LOK_of {F : Cf} {Lp : Nat → StS → KS R → Option R} {c : C} {p : Nat} {l : List (Nat × List Nat × C)} (hl : lps p c = l) (h : AllL F Lp l) : LOK F Lp p c := LOK_all c p (hl ▸ h)

/-- A loop's entry. -/
def lent' (P : SP) (l : P.den → KS R → Option R) : StS → KS R → Option R := fun s k => (P.mt s).bind fun x => l x k
/-- A loop's next round. -/
def nextS (keep : List Nat) (P : SP) (l : P.den → KS R → Option R) : StS → KS R → Option R := fun s k => (keepStS keep s).bind fun s0 => (P.mt s0).bind fun x => l x k
theorem loop_ok {FS : CfS R} (hF : FOK FS (runF T)) {H : Nat → Option (List Sh)} {Lp : Nat → StS → KS R → Option R} {X : Nat → List SP} {p : Nat} {keep : List Nat} {c : C} (hl : LOK (runF T) Lp (2 * p) c)
    {P : SP} {l : Nat → P.den → KS R → Option R} (h0 : ∀ x k, l 0 x k = none) (hs : ∀ n x k, l (n + 1) x k = exS FS H Lp X (2 * p) c (P.bd x) (seqS (nextS keep P (l n)) k)) :
    ∀ (n : Nat) (s : StS) (k : KS R) (r : R), lent' P (l n) s k = some r → ∃ e s', runL (runF T) keep c s.enc = some (e, s'.enc) ∧ k e s' = some r := by
  intro n
  induction n with
  | zero =>
    intro s k r h
    obtain ⟨x, _, h⟩ := Option.bind_eq_some_iff.1 h
    rw [h0] at h; cases h
  | succ n ih =>
    intro s k r h
    obtain ⟨x, hx, h⟩ := Option.bind_eq_some_iff.1 h
    rw [hs] at h
    obtain ⟨e, s1, h1, h2⟩ := exS_sound hF c _ hl _ _ _ h
    rw [SP.bd_enc hx] at h1
    rw [runL_step, h1]
    cases e with
    | nrm =>
      obtain ⟨s0, h3, h4⟩ := Option.bind_eq_some_iff.1 h2
      obtain ⟨e', s', h5, h6⟩ := ih s0 k r h4
      refine ⟨e', s', ?_, h6⟩
      simp only [Option.bind_some, seqK, nextL, keepSt_enc h3]
      exact h5
    | ex id => exact ⟨_, s1, rfl, h2⟩
    | ret => exact ⟨_, s1, rfl, h2⟩
/-- A loop's first round by itself. -/
def peelS (FS : CfS R) (H : Nat → Option (List Sh)) (Lp : Nat → StS → KS R → Option R) (X : Nat → List SP) (p : Nat) (keep : List Nat) (c : C) (g : StS → KS R → Option R) : StS → KS R → Option R :=
  fun s k => exS FS H Lp X (2 * p) c s (seqS (fun s k => (keepStS keep s).bind fun s0 => g s0 k) k)
theorem peel_ok {FS : CfS R} (hF : FOK FS (runF T)) {H : Nat → Option (List Sh)} {Lp : Nat → StS → KS R → Option R} {X : Nat → List SP} {p : Nat} {keep : List Nat} {c : C} (hl : LOK (runF T) Lp (2 * p) c) {g : StS → KS R → Option R}
    (hg : ∀ s k r, g s k = some r → ∃ e s', runL (runF T) keep c s.enc = some (e, s'.enc) ∧ k e s' = some r) :
    ∀ (s : StS) (k : KS R) (r : R), peelS FS H Lp X p keep c g s k = some r → ∃ e s', runL (runF T) keep c s.enc = some (e, s'.enc) ∧ k e s' = some r := by
  intro s k r h
  obtain ⟨e, s1, h1, h2⟩ := exS_sound hF c _ hl _ _ _ h
  rw [runL_step, h1]
  cases e with
  | nrm =>
    obtain ⟨s0, h3, h4⟩ := Option.bind_eq_some_iff.1 h2
    obtain ⟨e', s', h5, h6⟩ := hg s0 k r h4
    refine ⟨e', s', ?_, h6⟩
    simp only [Option.bind_some, seqK, nextL, keepSt_enc h3]
    exact h5
  | ex id => exact ⟨_, s1, rfl, h2⟩
  | ret => exact ⟨_, s1, rfl, h2⟩
theorem updL_ok {F : Cf} {Lp : Nat → StS → KS R → Option R} {p : Nat} {keep : List Nat} {c : C} {g : StS → KS R → Option R} (h : ∀ s k r, g s k = some r → ∃ e s', runL F keep c s.enc = some (e, s'.enc) ∧ k e s' = some r) : LpOK F (updL Lp p g) p keep c := by
  intro s k r hk
  unfold updL at hk
  rw [if_pos rfl] at hk
  exact h s k r hk
theorem updL_ne {F : Cf} {Lp : Nat → StS → KS R → Option R} {p q : Nat} {keep : List Nat} {c : C} {g : StS → KS R → Option R} (hq : q ≠ p) (h : LpOK F Lp q keep c) : LpOK F (updL Lp p g) q keep c := by
  intro s k r hk
  unfold updL at hk
  rw [if_neg hq] at hk
  exact h s k r hk
end
end Am
end Go.Proofs.YtfdmmnfjdifccaaGreatDoor
