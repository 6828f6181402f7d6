/- Short forms for printed texts. -/
import Derived.Test.YtfdmmnfjdifccaaGreatDoorAs7
set_option linter.unusedVariables false
namespace Go.Proofs.YtfdmmnfjdifccaaGreatDoor
namespace Am
abbrev hI : Sh := .i .i64
abbrev pI : PD := .p (.s (.i .i64))
abbrev pB : PD := .p (.s .b)
abbrev pS : PD := .p (.s .s)
abbrev pL (es : List Sh) : PD := .p (.s (.sl es))
abbrev dI (n : Int) : DS := .p (.i .i64 n)
abbrev dB (b : Bool) : DS := .p (.b b)
abbrev dS (s : ByteArray) : DS := .p (.s s)
abbrev dL (es : List Sh) (xs : List (denL es)) : DS := .p (.l (.t es xs))
abbrev KK (R : Type) := List Nat → List DS → HeapS → Option R
abbrev LpS (R : Type) := Nat → StS → KS R → Option R
abbrev noX : Nat → List SP := fun _ => []
abbrev noH : Nat → Option (List Sh) := fun _ => none
section
variable {R : Type} {T : Tab}
abbrev LpG (T : Tab) (P : SP) (l : Nat → P.den → KS R → Option R) (keep : List Nat) (c : C) : Prop :=
  ∀ (n : Nat) (s : StS) (k : KS R) (r : R), lent' P (l n) s k = some r → ∃ e s', runL (runF T) keep c s.enc = some (e, s'.enc) ∧ k e s' = some r
theorem LOK0 {F : Cf} {Lp : LpS R} {c : C} {p : Nat} (h : lps p c = []) : LOK F Lp p c := LOK_of h trivial
def uC (FS : CfS R) (v : Nat) (P : AP) (f : P.den → KK R → Option R) : CfS R := updC FS v (ent P f (FS v))
theorem uC_ok {FS : CfS R} (hF : FOK FS (runF T)) {H : Nat → Option (List Sh)} {Lp : LpS R} {X : Nat → List SP} {rp : List AP} {v : Nat} {ver : Ver} {P : AP} {f : P.den → KK R → Option R}
    (hv : T.ver v = some ver) (hl : LOK (runF T) Lp 1 ver.code) (h : ∀ x k, f x k = verS FS H Lp X rp ver (bdD P.ds x.1) (bdH P.heap x.2) k) : FOK (uC FS v P f) (runF T) :=
  FOK_upd hF (Snd_ent hF hv hl h (Snd_of hF v fun _ _ _ _ h => h))
end
end Am
end Go.Proofs.YtfdmmnfjdifccaaGreatDoor
