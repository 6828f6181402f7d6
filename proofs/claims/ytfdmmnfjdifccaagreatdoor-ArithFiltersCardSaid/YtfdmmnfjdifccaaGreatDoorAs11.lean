/- Short forms for printed texts. -/
import Derived.Test.YtfdmmnfjdifccaaGreatDoorAs7
import Derived.KernelRfl
set_option linter.unusedVariables false
namespace Go.Proofs.YtfdmmnfjdifccaaGreatDoor
namespace Am
abbrev hI : Sh := .i .i64
abbrev pI : PD := .p (.s (.i .i64))
abbrev pB : PD := .p (.s .b)
abbrev pS : PD := .p (.s .s)
abbrev pL (es : List Sh) : PD := .p (.s (.sl es))
abbrev dI (n : Int) : DS := .p (.i .i64 n)
abbrev dB (b : Bool) : DS := .p (.b b)
abbrev dS (s : ByteArray) : DS := .p (.s s)
abbrev dL (es : List Sh) (xs : List (denL es)) : DS := .p (.l (.t es xs))
abbrev KK (R : Type) := List Nat → List DS → HeapS → Option R
abbrev LpS (R : Type) := Nat → StS → KS R → Option R
abbrev noX : Nat → List SP := fun _ => []
abbrev noH : Nat → Option (List Sh) := fun _ => none
section
variable {R : Type} {T : Tab}
abbrev LpG (T : Tab) (P : SP) (l : Nat → P.den → KS R → Option R) (keep : List Nat) (c : C) : Prop :=
  ∀ (n : Nat) (s : StS) (k : KS R) (r : R), lent' P (l n) s k = some r → ∃ e s', runL (runF T) keep c s.enc = some (e, s'.enc) ∧ k e s' = some r
theorem LOK0 {F : Cf} {Lp : LpS R} {c : C} {p : Nat} (h : lps p c = []) : LOK F Lp p c := LOK_of h trivial
def uC (FS : CfS R) (v : Nat) (P : AP) (f : P.den → KK R → Option R) : CfS R := updC FS v (ent P f (FS v))
theorem uC_ok {FS : CfS R} (hF : FOK FS (runF T)) {H : Nat → Option (List Sh)} {Lp : LpS R} {X : Nat → List SP} {rp : List AP} {v : Nat} {ver : Ver} {P : AP} {f : P.den → KK R → Option R}
    (hv : T.ver v = some ver) (hl : LOK (runF T) Lp 1 ver.code) (h : ∀ x k, f x k = verS FS H Lp X rp ver (bdD P.ds x.1) (bdH P.heap x.2) k) : FOK (uC FS v P f) (runF T) :=
  FOK_upd hF (Snd_ent hF hv hl h (Snd_of hF v fun _ _ _ _ h => h))
theorem uCk {FS : CfS R} (hF : FOK FS (runF T)) {v : Nat} {P : AP} {f : P.den → KK R → Option R} (ver : Ver) (H : Nat → Option (List Sh) := noH) (Lp : LpS R := noL) (X : Nat → List SP := noX) (rp : List AP := [])
    (hv : T.ver v = some ver := by rfl) (hl : LOK (runF T) Lp 1 ver.code := by exact LOK0 (by kernel_rfl)) (h : ∀ x k, f x k = verS FS H Lp X rp ver (bdD P.ds x.1) (bdH P.heap x.2) k := by intro x k; kernel_rfl) : FOK (uC FS v P f) (runF T) :=
  uC_ok hF hv hl h
theorem lpk {FS : CfS R} (hF : FOK FS (runF T)) (p : Nat) {keep : List Nat} {c : C} (H : Nat → Option (List Sh) := noH) (Lp : LpS R := noL) (X : Nat → List SP := noX) (hl : LOK (runF T) Lp (2 * p) c := by exact LOK0 (by kernel_rfl))
    {P : SP} {l : Nat → P.den → KS R → Option R} (h0 : ∀ x k, l 0 x k = none := by exact fun _ _ => rfl) (hs : ∀ n x k, l (n + 1) x k = exS FS H Lp X (2 * p) c (P.bd x) (seqS (nextS keep P (l n)) k) := by intro n x k; kernel_rfl) : LpG T P l keep c :=
  loop_ok hF hl h0 hs
end
/-! ### The table of versions -/
def verD : Option Ver → Ver
  | some x => x
  | none => ⟨0, 0, .skip, [], false⟩
def atD (c : C) (l : List Bool) : C := match c.at l with
  | some x => x
  | none => .skip
abbrev nh : Hint := ⟨fun _ => none, []⟩
abbrev jh (js : List Nat) : Hint := ⟨fun _ => none, js⟩
abbrev V0 : Nat → Option FuncId := some
structure GV (P : Program) (modes : Nat → List Nat) (ver : Ver) (f : Nat) : Prop where
  ex : ∃ hint, cVer P id modes V0 hint f ver.own = some ver
  fid : ver.fid = f
theorem GV.of {P : Program} {modes : Nat → List Nat} {ver : Ver} {f : Nat} {hint : Hint} {own : Bool} (h : cVer P id modes V0 hint f own = some ver) (hf : ver.fid = f) (ho : ver.own = own) : GV P modes ver f := ⟨⟨hint, by rw [ho]; exact h⟩, hf⟩
def vlk : List (Nat × Ver) → Nat → Option Ver
  | [], _ => none
  | (k, x) :: r, v => if v = k then some x else vlk r v
def AllG (P : Program) (modes : Nat → List Nat) : List (Nat × Ver) → Prop
  | [] => True
  | (k, x) :: r => GV P modes x k ∧ AllG P modes r
theorem AllG.at {P : Program} {modes : Nat → List Nat} : ∀ {l : List (Nat × Ver)}, AllG P modes l → ∀ {v : Nat} {ver : Ver}, vlk l v = some ver → GV P modes ver v
  | [], _, _, _, h => by cases h
  | (k, x) :: r, hg, v, ver, h => by
    unfold vlk at h
    split at h
    · rename_i e; subst e; injection h with h; subst h; exact hg.1
    · exact AllG.at hg.2 h
theorem tab_ok {P : Program} {modes : Nat → List Nat} {fo : Fo} (hfo : fo.fn = V0) {l : List (Nat × Ver)} (hg : AllG P modes l) {ext : Cf}
    (he : ∀ v ds h r1 r2 r3, ext v ds h = some (r1, r2, r3) → deep ds h = [] ∧ ∀ φ Im w args, HS fo φ Im w h → RepDs fo φ Im w ds args → Lands P (callFunc v args.toArray) w (CallPost fo φ Im w h ds args r1 r2 r3)) :
    TabOK P id modes fo ⟨vlk l, ext⟩ := by
  refine ⟨fun v ver h => ?_, fun v ver f h hf => ?_, fun v f ds h r1 r2 r3 _ hf hx => ?_⟩
  · obtain ⟨⟨hint, hx⟩, hf⟩ := hg.at h
    refine ⟨hint, ?_⟩
    rw [hf, hfo]; exact hx
  · rw [hfo] at hf
    injection hf with hf
    rw [(hg.at h).fid]; exact hf
  · rw [hfo] at hf
    injection hf with hf
    subst hf
    exact he v ds h r1 r2 r3 hx
end Am
end Go.Proofs.YtfdmmnfjdifccaaGreatDoor
