/- Each function that is reached as a function on plain data, and that the version comes to it. -/
import Derived.Test.YteamkapbkccdeaaDoorABC
set_option linter.unusedVariables false
set_option linter.constructorNameAsVariable false
set_option maxRecDepth 100000
namespace Go.Proofs.YteamkapbkccdeaaDoor
namespace Am
noncomputable def F0 (N : Nat) {R : Type} : CfS R := (updC (updC nilC 78 itoaE) 79 repE)
theorem F0_ok (N : Nat) {R : Type} : FOK (F0 N : CfS R) (runF T) := (FOK_upd (FOK_upd FOK_nil (Snd_itoa rfl rfl)) (Snd_rep rfl rfl))
def X_ratchetlaw30_Form : Nat → List SP := fun _ => []
def H_ratchetlaw30_Form : Nat → Option (List Sh) := fun n => none
noncomputable def Lratchetlaw30_Form_0 (N : Nat) {R : Type} : Nat → StS → KS R → Option R := noL
def ratchetlaw30_Form (N : Nat) {R : Type} (k0 : Int → Int → Int → Int → Option R) : Option R := (k0 8 4 1 1)
def P_ratchetlaw30_Form : AP := ⟨[], []⟩
def e_ratchetlaw30_Form (N : Nat) {R : Type} (x : P_ratchetlaw30_Form.den) (k : List Nat → List DS → HeapS → Option R) : Option R := ratchetlaw30_Form N (fun r0 r1 r2 r3 => k [] [.agg [.p (.i .i64 r0), .p (.i .i64 r1), .p (.i .i64 r2), .p (.i .i64 r3)]] [])
noncomputable def F1 (N : Nat) {R : Type} : CfS R := updC (F0 N) 40 (ent P_ratchetlaw30_Form (e_ratchetlaw30_Form N) (F0 N 40))
theorem F1_ok (N : Nat) {R : Type} : FOK (F1 N : CfS R) (runF T) :=
  FOK_upd (F0_ok N) (Snd_ent (F0_ok N) (H := H_ratchetlaw30_Form) (Lp := Lratchetlaw30_Form_0 N) (X := X_ratchetlaw30_Form) (rp := []) (ver := c40) rfl (LOK_of (l := []) (by kernel_rfl) trivial) (fun x k => by kernel_rfl) (Snd_of (F0_ok N) 40 fun _ _ _ _ h => h))
def X_arith_divisor : Nat → List SP := fun _ => []
def H_arith_divisor : Nat → Option (List Sh) := fun n => none
noncomputable def Larith_divisor_0 (N : Nat) {R : Type} : Nat → StS → KS R → Option R := noL
def arith_divisor_l0 (N : Nat) {R : Type} (k0 : Int → Option R) : Nat → Int → Int → Option R
  | 0, _, _ => none
  | n + 1, b0, b1 => (bif decide (b1 ≠ 0) then (bif decide (b1 = 0) then none else (arith_divisor_l0 N k0 n b1 (Int.tmod b0 b1))) else (k0 b0))
def Parith_divisor_l0 : SP := ⟨[(0, .p (.s (.i .i64))), (1, .p (.s (.i .i64)))], []⟩
def earith_divisor_l0 (N : Nat) {R : Type} (n : Nat) (x : Parith_divisor_l0.den) (k : KS R) : Option R := arith_divisor_l0 N (fun r0 => k (.ex 0) ⟨[(0, .p (.i .i64 r0))], []⟩) n x.1.1 x.1.2.1
theorem loop_arith_divisor_l0 (N : Nat) {R : Type} : ∀ (n : Nat) (s : StS) (k : KS R) (r : R), lent' Parith_divisor_l0 (earith_divisor_l0 N n) s k = some r → ∃ e s', runL (runF T) [0, 1] c83_l0 s.enc = some (e, s'.enc) ∧ k e s' = some r :=
  loop_ok (F1_ok N) (H := H_arith_divisor) (Lp := Larith_divisor_0 N) (X := X_arith_divisor) (p := 12) (LOK_of (l := []) (by kernel_rfl) trivial) (fun _ _ => rfl) (fun n x k => by kernel_rfl)
noncomputable def Larith_divisor_1 (N : Nat) {R : Type} : Nat → StS → KS R → Option R := updL (Larith_divisor_0 N) 12 (lent' Parith_divisor_l0 (earith_divisor_l0 N N))
def arith_divisor (N : Nat) {R : Type} (a0 : Int) (a1 : Int) (k0 : Int → Option R) : Option R := (arith_divisor_l0 N (fun z1 => (k0 (max z1 (w64 (0 - z1))))) N a0 a1)
def P_arith_divisor : AP := ⟨[.p (.s (.i .i64)), .p (.s (.i .i64))], []⟩
def e_arith_divisor (N : Nat) {R : Type} (x : P_arith_divisor.den) (k : List Nat → List DS → HeapS → Option R) : Option R := arith_divisor N x.1.1 x.1.2.1 (fun r0 => k [] [.p (.i .i64 r0)] [])
noncomputable def F2 (N : Nat) {R : Type} : CfS R := updC (F1 N) 83 (ent P_arith_divisor (e_arith_divisor N) (F1 N 83))
theorem F2_ok (N : Nat) {R : Type} : FOK (F2 N : CfS R) (runF T) :=
  FOK_upd (F1_ok N) (Snd_ent (F1_ok N) (H := H_arith_divisor) (Lp := Larith_divisor_1 N) (X := X_arith_divisor) (rp := []) (ver := c83) rfl (LOK_of (l := [(12, [0, 1], c83_l0)]) (by kernel_rfl) ⟨(updL_ok (loop_arith_divisor_l0 N N)), trivial⟩) (fun x k => by kernel_rfl) (Snd_of (F1_ok N) 83 fun _ _ _ _ h => h))
def X_arith_unless : Nat → List SP := fun _ => []
def H_arith_unless : Nat → Option (List Sh) := fun n => none
noncomputable def Larith_unless_0 (N : Nat) {R : Type} : Nat → StS → KS R → Option R := noL
def arith_unless (N : Nat) {R : Type} (a0 : Bool) (a1 : Int) (k0 : Int → Option R) : Option R := (bif a0 then (k0 0) else (k0 a1))
def P_arith_unless : AP := ⟨[.p (.s .b), .p (.s (.i .i64))], []⟩
def e_arith_unless (N : Nat) {R : Type} (x : P_arith_unless.den) (k : List Nat → List DS → HeapS → Option R) : Option R := arith_unless N x.1.1 x.1.2.1 (fun r0 => k [] [.p (.i .i64 r0)] [])
noncomputable def F3 (N : Nat) {R : Type} : CfS R := updC (F2 N) 52 (ent P_arith_unless (e_arith_unless N) (F2 N 52))
theorem F3_ok (N : Nat) {R : Type} : FOK (F3 N : CfS R) (runF T) :=
  FOK_upd (F2_ok N) (Snd_ent (F2_ok N) (H := H_arith_unless) (Lp := Larith_unless_0 N) (X := X_arith_unless) (rp := []) (ver := c52) rfl (LOK_of (l := []) (by kernel_rfl) trivial) (fun x k => by kernel_rfl) (Snd_of (F2_ok N) 52 fun _ _ _ _ h => h))
def X_arith_within : Nat → List SP := fun _ => []
def H_arith_within : Nat → Option (List Sh) := fun n => none
noncomputable def Larith_within_0 (N : Nat) {R : Type} : Nat → StS → KS R → Option R := noL
def arith_within (N : Nat) {R : Type} (a0 : Int) (a1 : Int) (a2 : Int) (k0 : Bool → Option R) : Option R := (bif decide (a1 ≤ a0) then (k0 (decide (a0 ≤ a2))) else (k0 false))
def P_arith_within : AP := ⟨[.p (.s (.i .i64)), .p (.s (.i .i64)), .p (.s (.i .i64))], []⟩
def e_arith_within (N : Nat) {R : Type} (x : P_arith_within.den) (k : List Nat → List DS → HeapS → Option R) : Option R := arith_within N x.1.1 x.1.2.1 x.1.2.2.1 (fun r0 => k [] [.p (.b r0)] [])
noncomputable def F4 (N : Nat) {R : Type} : CfS R := updC (F3 N) 53 (ent P_arith_within (e_arith_within N) (F3 N 53))
theorem F4_ok (N : Nat) {R : Type} : FOK (F4 N : CfS R) (runF T) :=
  FOK_upd (F3_ok N) (Snd_ent (F3_ok N) (H := H_arith_within) (Lp := Larith_within_0 N) (X := X_arith_within) (rp := []) (ver := c53) rfl (LOK_of (l := []) (by kernel_rfl) trivial) (fun x k => by kernel_rfl) (Snd_of (F3_ok N) 53 fun _ _ _ _ h => h))
def X_arith_first : Nat → List SP := fun _ => []
def H_arith_first : Nat → Option (List Sh) := fun n => none
noncomputable def Larith_first_0 (N : Nat) {R : Type} : Nat → StS → KS R → Option R := noL
def arith_first_l0 (N : Nat) {R : Type} (k0 : Int → Option R) (k1 : Option R) : Nat → List Int → Int → Int → Option R
  | 0, _, _, _ => none
  | n + 1, b0, b1, b2 => (bif decide (b2 < b1) then ((at? b0 b2).bind fun x1 => (bif decide (x1 ≠ 0) then (k0 x1) else (arith_first_l0 N k0 k1 n b0 b1 (w64 (b2 + 1))))) else k1)
def Parith_first_l0 : SP := ⟨[(5, .p (.s (.sl [.i .i64]))), (6, .p (.s (.i .i64))), (7, .p (.s (.i .i64)))], []⟩
def earith_first_l0 (N : Nat) {R : Type} (n : Nat) (x : Parith_first_l0.den) (k : KS R) : Option R := arith_first_l0 N (fun r0 => k .ret ⟨[(2, .p (.i .i64 r0))], []⟩) (k (.ex 0) ⟨[], []⟩) n x.1.1 x.1.2.1 x.1.2.2.1
theorem loop_arith_first_l0 (N : Nat) {R : Type} : ∀ (n : Nat) (s : StS) (k : KS R) (r : R), lent' Parith_first_l0 (earith_first_l0 N n) s k = some r → ∃ e s', runL (runF T) [5, 6, 7] c51_l0 s.enc = some (e, s'.enc) ∧ k e s' = some r :=
  loop_ok (F4_ok N) (H := H_arith_first) (Lp := Larith_first_0 N) (X := X_arith_first) (p := 26) (LOK_of (l := []) (by kernel_rfl) trivial) (fun _ _ => rfl) (fun n x k => by kernel_rfl)
noncomputable def Larith_first_1 (N : Nat) {R : Type} : Nat → StS → KS R → Option R := updL (Larith_first_0 N) 26 (lent' Parith_first_l0 (earith_first_l0 N N))
def arith_first (N : Nat) {R : Type} (a0 : List Int) (k0 : Int → Option R) : Option R := (arith_first_l0 N (fun z2 => (k0 z2)) (k0 0) N a0 ((a0.length : Nat) : Int) 0)
def P_arith_first : AP := ⟨[.p (.s (.sl [.i .i64]))], []⟩
def e_arith_first (N : Nat) {R : Type} (x : P_arith_first.den) (k : List Nat → List DS → HeapS → Option R) : Option R := arith_first N x.1.1 (fun r0 => k [] [.p (.i .i64 r0)] [])
noncomputable def F5 (N : Nat) {R : Type} : CfS R := updC (F4 N) 51 (ent P_arith_first (e_arith_first N) (F4 N 51))
theorem F5_ok (N : Nat) {R : Type} : FOK (F5 N : CfS R) (runF T) :=
  FOK_upd (F4_ok N) (Snd_ent (F4_ok N) (H := H_arith_first) (Lp := Larith_first_1 N) (X := X_arith_first) (rp := []) (ver := c51) rfl (LOK_of (l := [(26, [5, 6, 7], c51_l0)]) (by kernel_rfl) ⟨(updL_ok (loop_arith_first_l0 N N)), trivial⟩) (fun x k => by kernel_rfl) (Snd_of (F4_ok N) 51 fun _ _ _ _ h => h))
def X_arith_fractionErr : Nat → List SP := fun _ => []
def H_arith_fractionErr : Nat → Option (List Sh) := fun n => if n = 24000 then some [.i .i64] else none
noncomputable def Larith_fractionErr_0 (N : Nat) {R : Type} : Nat → StS → KS R → Option R := noL
def arith_fractionErr (N : Nat) {R : Type} (a0 : Int) (a1 : Int) (k0 : Int → Option R) : Option R := (bif decide (0 < a1) then (arith_divisor N a0 a1 (fun y1 => (arith_unless N (decide (y1 = 1)) 3 (fun y2 => (arith_within N a0 (-1000000000) 1000000000 (fun y3 => (bif y3 then (arith_unless N (decide (a1 ≤ 1000000000)) 2 (fun y4 => (arith_first N [y2, y4] (fun y5 => (k0 y5))))) else (arith_unless N false 2 (fun y6 => (arith_first N [y2, y6] (fun y7 => (k0 y7)))))))))))) else (arith_unless N false 3 (fun y8 => (arith_within N a0 (-1000000000) 1000000000 (fun y9 => (bif y9 then (arith_unless N (decide (a1 ≤ 1000000000)) 2 (fun y10 => (arith_first N [y8, y10] (fun y11 => (k0 y11))))) else (arith_unless N false 2 (fun y12 => (arith_first N [y8, y12] (fun y13 => (k0 y13)))))))))))
def P_arith_fractionErr : AP := ⟨[.agg [.p (.s (.i .i64)), .p (.s (.i .i64))]], []⟩
def e_arith_fractionErr (N : Nat) {R : Type} (x : P_arith_fractionErr.den) (k : List Nat → List DS → HeapS → Option R) : Option R := arith_fractionErr N x.1.1.1 x.1.1.2.1 (fun r0 => k [] [.p (.i .i64 r0)] [])
noncomputable def F6 (N : Nat) {R : Type} : CfS R := updC (F5 N) 54 (ent P_arith_fractionErr (e_arith_fractionErr N) (F5 N 54))
theorem F6_ok (N : Nat) {R : Type} : FOK (F6 N : CfS R) (runF T) :=
  FOK_upd (F5_ok N) (Snd_ent (F5_ok N) (H := H_arith_fractionErr) (Lp := Larith_fractionErr_0 N) (X := X_arith_fractionErr) (rp := []) (ver := c54) rfl (LOK_of (l := []) (by kernel_rfl) trivial) (fun x k => by kernel_rfl) (Snd_of (F5_ok N) 54 fun _ _ _ _ h => h))
def X_arith_CheckForm : Nat → List SP := fun _ => []
def H_arith_CheckForm : Nat → Option (List Sh) := fun n => if n = 23000 then some [.i .i64] else none
noncomputable def Larith_CheckForm_0 (N : Nat) {R : Type} : Nat → StS → KS R → Option R := noL
def arith_CheckForm (N : Nat) {R : Type} (a0 : Int) (a1 : Int) (a2 : Int) (a3 : Int) (k0 : Int → Option R) : Option R := (arith_within N a0 2 16 (fun y1 => (arith_unless N y1 25 (fun y2 => (arith_within N a1 0 (w64 (a0 - 1)) (fun y3 => (arith_unless N y3 2 (fun y4 => (arith_within N a2 0 2 (fun y5 => (bif y5 then (arith_within N a3 0 1 (fun y6 => (arith_unless N y6 15 (fun y7 => (arith_first N [y2, y4, y7] (fun y8 => (k0 y8))))))) else (arith_unless N false 15 (fun y9 => (arith_first N [y2, y4, y9] (fun y10 => (k0 y10))))))))))))))))
def P_arith_CheckForm : AP := ⟨[.agg [.p (.s (.i .i64)), .p (.s (.i .i64)), .p (.s (.i .i64)), .p (.s (.i .i64))]], []⟩
def e_arith_CheckForm (N : Nat) {R : Type} (x : P_arith_CheckForm.den) (k : List Nat → List DS → HeapS → Option R) : Option R := arith_CheckForm N x.1.1.1 x.1.1.2.1 x.1.1.2.2.1 x.1.1.2.2.2.1 (fun r0 => k [] [.p (.i .i64 r0)] [])
noncomputable def F7 (N : Nat) {R : Type} : CfS R := updC (F6 N) 17 (ent P_arith_CheckForm (e_arith_CheckForm N) (F6 N 17))
theorem F7_ok (N : Nat) {R : Type} : FOK (F7 N : CfS R) (runF T) :=
  FOK_upd (F6_ok N) (Snd_ent (F6_ok N) (H := H_arith_CheckForm) (Lp := Larith_CheckForm_0 N) (X := X_arith_CheckForm) (rp := []) (ver := c17) rfl (LOK_of (l := []) (by kernel_rfl) trivial) (fun x k => by kernel_rfl) (Snd_of (F6_ok N) 17 fun _ _ _ _ h => h))
def X_arith_form_one : Nat → List SP := fun _ => []
def H_arith_form_one : Nat → Option (List Sh) := fun n => none
noncomputable def Larith_form_one_0 (N : Nat) {R : Type} : Nat → StS → KS R → Option R := noL
def arith_form_one (N : Nat) {R : Type} (a0 : Int) (a1 : Int) (a2 : Int) (a3 : Int) (k0 : Int → Option R) : Option R := (bif decide (a1 < 0) then none else (k0 (shl' .i64 1 a1)))
def P_arith_form_one : AP := ⟨[.agg [.p (.s (.i .i64)), .p (.s (.i .i64)), .p (.s (.i .i64)), .p (.s (.i .i64))]], []⟩
def e_arith_form_one (N : Nat) {R : Type} (x : P_arith_form_one.den) (k : List Nat → List DS → HeapS → Option R) : Option R := arith_form_one N x.1.1.1 x.1.1.2.1 x.1.1.2.2.1 x.1.1.2.2.2.1 (fun r0 => k [] [.p (.i .i64 r0)] [])
noncomputable def F8 (N : Nat) {R : Type} : CfS R := updC (F7 N) 47 (ent P_arith_form_one (e_arith_form_one N) (F7 N 47))
theorem F8_ok (N : Nat) {R : Type} : FOK (F8 N : CfS R) (runF T) :=
  FOK_upd (F7_ok N) (Snd_ent (F7_ok N) (H := H_arith_form_one) (Lp := Larith_form_one_0 N) (X := X_arith_form_one) (rp := []) (ver := c47) rfl (LOK_of (l := []) (by kernel_rfl) trivial) (fun x k => by kernel_rfl) (Snd_of (F7_ok N) 47 fun _ _ _ _ h => h))
def X_arith_form_rounded : Nat → List SP := fun _ => []
def H_arith_form_rounded : Nat → Option (List Sh) := fun n => none
noncomputable def Larith_form_rounded_0 (N : Nat) {R : Type} : Nat → StS → KS R → Option R := noL
def arith_form_rounded_j0 (N : Nat) {R : Type} (k0 : Int → Option R) (b0 : Int) (b1 : Int) (b2 : Int) (b3 : Int) (b4 : Int) (b5 : Int) (b6 : Int) : Option R := (bif decide (b5 = 1) then (bif decide (b1 < (w64 (2 * (w64 (b0 - (w64 (b2 * b1))))))) then (k0 (w64 (b2 + 1))) else (bif decide ((w64 (2 * (w64 (b0 - (w64 (b2 * b1)))))) = b1) then (bif decide ((Int.tmod b2 2) ≠ 0) then (k0 (w64 (b2 + 1))) else (bif decide (b5 = 2) then (bif decide (b0 < 0) then (bif decide (0 < (w64 (b0 - (w64 (b2 * b1))))) then (k0 (w64 (b2 + 1))) else (k0 b2)) else (k0 b2)) else (k0 b2))) else (bif decide (b5 = 2) then (bif decide (b0 < 0) then (bif decide (0 < (w64 (b0 - (w64 (b2 * b1))))) then (k0 (w64 (b2 + 1))) else (k0 b2)) else (k0 b2)) else (k0 b2)))) else (bif decide (b5 = 2) then (bif decide (b0 < 0) then (bif decide (0 < (w64 (b0 - (w64 (b2 * b1))))) then (k0 (w64 (b2 + 1))) else (k0 b2)) else (k0 b2)) else (k0 b2)))
def Parith_form_rounded_j0 : SP := ⟨[(1, .p (.s (.i .i64))), (2, .p (.s (.i .i64))), (3, .ptr 0 0), (7, .p (.s (.i .i64)))], [(0, .box [.p (.s (.i .i64)), .p (.s (.i .i64)), .p (.s (.i .i64)), .p (.s (.i .i64))])]⟩
def earith_form_rounded_j0 (N : Nat) {R : Type} (n : Nat) (x : Parith_form_rounded_j0.den) (k : KS R) : Option R := match n with
  | 0 => none
  | _ + 1 => arith_form_rounded_j0 N (fun r0 => k .ret ⟨[(6, .p (.i .i64 r0))], []⟩) x.1.1 x.1.2.1 x.1.2.2.2.1 x.2.1.1 x.2.1.2.1 x.2.1.2.2.1 x.2.1.2.2.2.1
theorem loop_arith_form_rounded_j0 (N : Nat) {R : Type} : ∀ (n : Nat) (s : StS) (k : KS R) (r : R), lent' Parith_form_rounded_j0 (earith_form_rounded_j0 N n) s k = some r → ∃ e s', runL (runF T) [1, 2, 3, 7] c80_j0 s.enc = some (e, s'.enc) ∧ k e s' = some r :=
  loop_ok (F8_ok N) (H := H_arith_form_rounded) (Lp := Larith_form_rounded_0 N) (X := X_arith_form_rounded) (p := 30) (LOK_of (l := []) (by kernel_rfl) trivial) (fun _ _ => rfl) (fun n x k => by kernel_rfl)
noncomputable def Larith_form_rounded_1 (N : Nat) {R : Type} : Nat → StS → KS R → Option R := updL (Larith_form_rounded_0 N) 30 (lent' Parith_form_rounded_j0 (earith_form_rounded_j0 N 1))
def arith_form_rounded (N : Nat) {R : Type} (a0 : Int) (a1 : Int) (a2 : Int) (a3 : Int) (a4 : Int) (a5 : Int) (k0 : Int → Option R) : Option R := (bif decide (a5 = 0) then none else (bif decide (a5 = 0) then none else (bif decide ((Int.tmod a4 a5) < 0) then (arith_form_rounded_j0 N (fun z1 => (k0 z1)) a4 a5 (w64 ((w64 (Int.tdiv a4 a5)) - 1)) a0 a1 a2 a3) else (arith_form_rounded_j0 N (fun z2 => (k0 z2)) a4 a5 (w64 (Int.tdiv a4 a5)) a0 a1 a2 a3))))
def P_arith_form_rounded : AP := ⟨[.agg [.p (.s (.i .i64)), .p (.s (.i .i64)), .p (.s (.i .i64)), .p (.s (.i .i64))], .p (.s (.i .i64)), .p (.s (.i .i64))], []⟩
def e_arith_form_rounded (N : Nat) {R : Type} (x : P_arith_form_rounded.den) (k : List Nat → List DS → HeapS → Option R) : Option R := arith_form_rounded N x.1.1.1 x.1.1.2.1 x.1.1.2.2.1 x.1.1.2.2.2.1 x.1.2.1 x.1.2.2.1 (fun r0 => k [] [.p (.i .i64 r0)] [])
noncomputable def F9 (N : Nat) {R : Type} : CfS R := updC (F8 N) 80 (ent P_arith_form_rounded (e_arith_form_rounded N) (F8 N 80))
theorem F9_ok (N : Nat) {R : Type} : FOK (F9 N : CfS R) (runF T) :=
  FOK_upd (F8_ok N) (Snd_ent (F8_ok N) (H := H_arith_form_rounded) (Lp := Larith_form_rounded_1 N) (X := X_arith_form_rounded) (rp := []) (ver := c80) rfl (LOK_of (l := [(30, [1, 2, 3, 7], c80_j0)]) (by kernel_rfl) ⟨(updL_ok (loop_arith_form_rounded_j0 N 1)), trivial⟩) (fun x k => by kernel_rfl) (Snd_of (F8_ok N) 80 fun _ _ _ _ h => h))
def X_arith_form_size : Nat → List SP := fun _ => []
def H_arith_form_size : Nat → Option (List Sh) := fun n => none
noncomputable def Larith_form_size_0 (N : Nat) {R : Type} : Nat → StS → KS R → Option R := noL
def arith_form_size (N : Nat) {R : Type} (a0 : Int) (a1 : Int) (a2 : Int) (a3 : Int) (k0 : Int → Option R) : Option R := (bif decide (a0 < 0) then none else (k0 (shl' .i64 1 a0)))
def P_arith_form_size : AP := ⟨[.agg [.p (.s (.i .i64)), .p (.s (.i .i64)), .p (.s (.i .i64)), .p (.s (.i .i64))]], []⟩
def e_arith_form_size (N : Nat) {R : Type} (x : P_arith_form_size.den) (k : List Nat → List DS → HeapS → Option R) : Option R := arith_form_size N x.1.1.1 x.1.1.2.1 x.1.1.2.2.1 x.1.1.2.2.2.1 (fun r0 => k [] [.p (.i .i64 r0)] [])
noncomputable def F10 (N : Nat) {R : Type} : CfS R := updC (F9 N) 81 (ent P_arith_form_size (e_arith_form_size N) (F9 N 81))
theorem F10_ok (N : Nat) {R : Type} : FOK (F10 N : CfS R) (runF T) :=
  FOK_upd (F9_ok N) (Snd_ent (F9_ok N) (H := H_arith_form_size) (Lp := Larith_form_size_0 N) (X := X_arith_form_size) (rp := []) (ver := c81) rfl (LOK_of (l := []) (by kernel_rfl) trivial) (fun x k => by kernel_rfl) (Snd_of (F9_ok N) 81 fun _ _ _ _ h => h))
def X_arith_form_fixed : Nat → List SP := fun _ => []
def H_arith_form_fixed : Nat → Option (List Sh) := fun n => none
noncomputable def Larith_form_fixed_0 (N : Nat) {R : Type} : Nat → StS → KS R → Option R := noL
def arith_form_fixed (N : Nat) {R : Type} (a0 : Int) (a1 : Int) (a2 : Int) (a3 : Int) (a4 : Int) (a5 : Int) (k0 : Int → Option R) : Option R := (arith_form_rounded N a0 a1 a2 a3 a4 a5 (fun y1 => (arith_form_size N a0 a1 a2 a3 (fun y2 => (bif decide (a3 = 1) then (arith_form_size N a0 a1 a2 a3 (fun y3 => (k0 (andI .i64 (max (w64 (0 - (w64 (Int.tdiv y2 2)))) (min (w64 ((w64 (Int.tdiv y2 2)) - 1)) y1)) (w64 (y3 - 1)))))) else (arith_form_size N a0 a1 a2 a3 (fun y4 => (k0 (andI .i64 y1 (w64 (y4 - 1)))))))))))
def P_arith_form_fixed : AP := ⟨[.agg [.p (.s (.i .i64)), .p (.s (.i .i64)), .p (.s (.i .i64)), .p (.s (.i .i64))], .p (.s (.i .i64)), .p (.s (.i .i64))], []⟩
def e_arith_form_fixed (N : Nat) {R : Type} (x : P_arith_form_fixed.den) (k : List Nat → List DS → HeapS → Option R) : Option R := arith_form_fixed N x.1.1.1 x.1.1.2.1 x.1.1.2.2.1 x.1.1.2.2.2.1 x.1.2.1 x.1.2.2.1 (fun r0 => k [] [.p (.i .i64 r0)] [])
noncomputable def F11 (N : Nat) {R : Type} : CfS R := updC (F10 N) 45 (ent P_arith_form_fixed (e_arith_form_fixed N) (F10 N 45))
theorem F11_ok (N : Nat) {R : Type} : FOK (F11 N : CfS R) (runF T) :=
  FOK_upd (F10_ok N) (Snd_ent (F10_ok N) (H := H_arith_form_fixed) (Lp := Larith_form_fixed_0 N) (X := X_arith_form_fixed) (rp := []) (ver := c45) rfl (LOK_of (l := []) (by kernel_rfl) trivial) (fun x k => by kernel_rfl) (Snd_of (F10_ok N) 45 fun _ _ _ _ h => h))
def X_arith_FixedOf : Nat → List SP := fun _ => []
def H_arith_FixedOf : Nat → Option (List Sh) := fun n => if n = 9000 then some [.i .i64] else none
noncomputable def Larith_FixedOf_0 (N : Nat) {R : Type} : Nat → StS → KS R → Option R := noL
def arith_FixedOf (N : Nat) {R : Type} (a0 : Int) (a1 : Int) (a2 : Int) (a3 : Int) (a4 : Int) (a5 : Int) (k0 : Int → Int → Option R) : Option R := (arith_fractionErr N a0 a1 (fun y1 => (arith_CheckForm N a2 a3 a4 a5 (fun y2 => (arith_first N [y1, y2] (fun y3 => (bif decide (y3 ≠ 0) then (k0 0 y3) else (arith_form_one N a2 a3 a4 a5 (fun y4 => (arith_form_fixed N a2 a3 a4 a5 (w64 (a0 * y4)) a1 (fun y5 => (k0 y5 0))))))))))))
def P_arith_FixedOf : AP := ⟨[.agg [.p (.s (.i .i64)), .p (.s (.i .i64))], .agg [.p (.s (.i .i64)), .p (.s (.i .i64)), .p (.s (.i .i64)), .p (.s (.i .i64))]], []⟩
def e_arith_FixedOf (N : Nat) {R : Type} (x : P_arith_FixedOf.den) (k : List Nat → List DS → HeapS → Option R) : Option R := arith_FixedOf N x.1.1.1 x.1.1.2.1 x.1.2.1.1 x.1.2.1.2.1 x.1.2.1.2.2.1 x.1.2.1.2.2.2.1 (fun r0 r1 => k [] [.p (.i .i64 r0), .p (.i .i64 r1)] [])
noncomputable def F12 (N : Nat) {R : Type} : CfS R := updC (F11 N) 18 (ent P_arith_FixedOf (e_arith_FixedOf N) (F11 N 18))
theorem F12_ok (N : Nat) {R : Type} : FOK (F12 N : CfS R) (runF T) :=
  FOK_upd (F11_ok N) (Snd_ent (F11_ok N) (H := H_arith_FixedOf) (Lp := Larith_FixedOf_0 N) (X := X_arith_FixedOf) (rp := []) (ver := c18) rfl (LOK_of (l := []) (by kernel_rfl) trivial) (fun x k => by kernel_rfl) (Snd_of (F11_ok N) 18 fun _ _ _ _ h => h))
def X_arith_form_valuesErr_c1 : Nat → List SP := fun _ => []
def H_arith_form_valuesErr_c1 : Nat → Option (List Sh) := fun n => none
noncomputable def Larith_form_valuesErr_c1_0 (N : Nat) {R : Type} : Nat → StS → KS R → Option R := noL
def arith_form_valuesErr_c1 (N : Nat) {R : Type} (a0 : Int) (a1 : Int) (a2 : Int) (a3 : Int) (a4 : Int) (k0 : Bool → Int → Int → Int → Int → Option R) : Option R := (arith_form_size N a1 a2 a3 a4 (fun y1 => (arith_within N a0 0 (w64 (y1 - 1)) (fun y2 => (k0 y2 a1 a2 a3 a4)))))
def P_arith_form_valuesErr_c1 : AP := ⟨[.p (.s (.i .i64)), .ptr 0 0], [(0, .box [.p (.s (.i .i64)), .p (.s (.i .i64)), .p (.s (.i .i64)), .p (.s (.i .i64))])]⟩
def e_arith_form_valuesErr_c1 (N : Nat) {R : Type} (x : P_arith_form_valuesErr_c1.den) (k : List Nat → List DS → HeapS → Option R) : Option R := arith_form_valuesErr_c1 N x.1.1 x.2.1.1 x.2.1.2.1 x.2.1.2.2.1 x.2.1.2.2.2.1 (fun r0 r1 r2 r3 r4 => k [0] [.p (.b r0)] [(0, .box [.p (.i .i64 r1), .p (.i .i64 r2), .p (.i .i64 r3), .p (.i .i64 r4)])])
noncomputable def F13 (N : Nat) {R : Type} : CfS R := updC (F12 N) 85 (ent P_arith_form_valuesErr_c1 (e_arith_form_valuesErr_c1 N) (F12 N 85))
theorem F13_ok (N : Nat) {R : Type} : FOK (F13 N : CfS R) (runF T) :=
  FOK_upd (F12_ok N) (Snd_ent (F12_ok N) (H := H_arith_form_valuesErr_c1) (Lp := Larith_form_valuesErr_c1_0 N) (X := X_arith_form_valuesErr_c1) (rp := []) (ver := c85) rfl (LOK_of (l := []) (by kernel_rfl) trivial) (fun x k => by kernel_rfl) (Snd_of (F12_ok N) 85 fun _ _ _ _ h => h))
def X_arith_each_int__c1 : Nat → List SP := fun _ => []
def H_arith_each_int__c1 : Nat → Option (List Sh) := fun n => none
noncomputable def Larith_each_int__c1_0 (N : Nat) {R : Type} : Nat → StS → KS R → Option R := noL
def arith_each_int__c1 (N : Nat) {R : Type} (a0 : Int) (a1 : Int) (a2 : Int) (a3 : Int) (a4 : Int) (k0 : Bool → Int → Int → Int → Int → Option R) : Option R := (arith_form_valuesErr_c1 N a0 a1 a2 a3 a4 (fun y1 y2 y3 y4 y5 => (k0 (!y1) y2 y3 y4 y5)))
def P_arith_each_int__c1 : AP := ⟨[.p (.s (.i .i64)), .ptr 0 0], [(0, .box [.fn 85 [.ptr 1 0]]), (1, .box [.p (.s (.i .i64)), .p (.s (.i .i64)), .p (.s (.i .i64)), .p (.s (.i .i64))])]⟩
def e_arith_each_int__c1 (N : Nat) {R : Type} (x : P_arith_each_int__c1.den) (k : List Nat → List DS → HeapS → Option R) : Option R := arith_each_int__c1 N x.1.1 x.2.2.1.1 x.2.2.1.2.1 x.2.2.1.2.2.1 x.2.2.1.2.2.2.1 (fun r0 r1 r2 r3 r4 => k [0] [.p (.b r0)] [(0, .box [.fn 85 [.ptr 1 0]]), (1, .box [.p (.i .i64 r1), .p (.i .i64 r2), .p (.i .i64 r3), .p (.i .i64 r4)])])
noncomputable def F14 (N : Nat) {R : Type} : CfS R := updC (F13 N) 103 (ent P_arith_each_int__c1 (e_arith_each_int__c1 N) (F13 N 103))
theorem F14_ok (N : Nat) {R : Type} : FOK (F14 N : CfS R) (runF T) :=
  FOK_upd (F13_ok N) (Snd_ent (F13_ok N) (H := H_arith_each_int__c1) (Lp := Larith_each_int__c1_0 N) (X := X_arith_each_int__c1) (rp := []) (ver := c103) rfl (LOK_of (l := []) (by kernel_rfl) trivial) (fun x k => by kernel_rfl) (Snd_of (F13_ok N) 103 fun _ _ _ _ h => h))
def X_slices_IndexFunc_Lint_int : Nat → List SP := fun _ => []
def H_slices_IndexFunc_Lint_int : Nat → Option (List Sh) := fun n => none
noncomputable def Lslices_IndexFunc_Lint_int_0 (N : Nat) {R : Type} : Nat → StS → KS R → Option R := noL
def slices_IndexFunc_Lint_int_l0 (N : Nat) {R : Type} (k0 : Int → Int → Int → Int → Int → Option R) (k1 : Int → Int → Int → Int → Option R) : Nat → List Int → Int → Int → Int → Int → Int → Int → Option R
  | 0, _, _, _, _, _, _, _ => none
  | n + 1, b0, b1, b2, b3, b4, b5, b6 => (bif decide (b2 < b1) then ((at? b0 b2).bind fun x1 => (arith_each_int__c1 N x1 b3 b4 b5 b6 (fun y2 y3 y4 y5 y6 => (bif y2 then (k0 b2 y3 y4 y5 y6) else (slices_IndexFunc_Lint_int_l0 N k0 k1 n b0 b1 (w64 (b2 + 1)) y3 y4 y5 y6))))) else (k1 b3 b4 b5 b6))
def Pslices_IndexFunc_Lint_int_l0 : SP := ⟨[(0, .p (.s (.sl [.i .i64]))), (1, .fn 103 [.ptr 0 0]), (7, .p (.s (.i .i64))), (8, .p (.s (.i .i64))), (100001, .fn 103 [.ptr 0 0])], [(0, .box [.fn 85 [.ptr 1 0]]), (1, .box [.p (.s (.i .i64)), .p (.s (.i .i64)), .p (.s (.i .i64)), .p (.s (.i .i64))])]⟩
def eslices_IndexFunc_Lint_int_l0 (N : Nat) {R : Type} (n : Nat) (x : Pslices_IndexFunc_Lint_int_l0.den) (k : KS R) : Option R := slices_IndexFunc_Lint_int_l0 N (fun r0 r1 r2 r3 r4 => k .ret ⟨[(4, .p (.i .i64 r0)), (100001, .fn 103 [.ptr 0 0])], [(0, .box [.fn 85 [.ptr 1 0]]), (1, .box [.p (.i .i64 r1), .p (.i .i64 r2), .p (.i .i64 r3), .p (.i .i64 r4)])]⟩) (fun r0 r1 r2 r3 => k (.ex 0) ⟨[(100001, .fn 103 [.ptr 0 0])], [(0, .box [.fn 85 [.ptr 1 0]]), (1, .box [.p (.i .i64 r0), .p (.i .i64 r1), .p (.i .i64 r2), .p (.i .i64 r3)])]⟩) n x.1.1 x.1.2.2.1 x.1.2.2.2.1 x.2.2.1.1 x.2.2.1.2.1 x.2.2.1.2.2.1 x.2.2.1.2.2.2.1
theorem loop_slices_IndexFunc_Lint_int_l0 (N : Nat) {R : Type} : ∀ (n : Nat) (s : StS) (k : KS R) (r : R), lent' Pslices_IndexFunc_Lint_int_l0 (eslices_IndexFunc_Lint_int_l0 N n) s k = some r → ∃ e s', runL (runF T) [0, 1, 7, 8] c113_l0 s.enc = some (e, s'.enc) ∧ k e s' = some r :=
  loop_ok (F14_ok N) (H := H_slices_IndexFunc_Lint_int) (Lp := Lslices_IndexFunc_Lint_int_0 N) (X := X_slices_IndexFunc_Lint_int) (p := 26) (LOK_of (l := []) (by kernel_rfl) trivial) (fun _ _ => rfl) (fun n x k => by kernel_rfl)
noncomputable def Lslices_IndexFunc_Lint_int_1 (N : Nat) {R : Type} : Nat → StS → KS R → Option R := updL (Lslices_IndexFunc_Lint_int_0 N) 26 (lent' Pslices_IndexFunc_Lint_int_l0 (eslices_IndexFunc_Lint_int_l0 N N))
def slices_IndexFunc_Lint_int (N : Nat) {R : Type} (a0 : List Int) (a1 : Int) (a2 : Int) (a3 : Int) (a4 : Int) (k0 : Int → Int → Int → Int → Int → Option R) : Option R := (slices_IndexFunc_Lint_int_l0 N (fun z7 z8 z9 z10 z11 => (k0 z7 z8 z9 z10 z11)) (fun z12 z13 z14 z15 => (k0 (-1) z12 z13 z14 z15)) N a0 ((a0.length : Nat) : Int) 0 a1 a2 a3 a4)
def P_slices_IndexFunc_Lint_int : AP := ⟨[.p (.s (.sl [.i .i64])), .fn 103 [.ptr 0 0]], [(0, .box [.fn 85 [.ptr 1 0]]), (1, .box [.p (.s (.i .i64)), .p (.s (.i .i64)), .p (.s (.i .i64)), .p (.s (.i .i64))])]⟩
def e_slices_IndexFunc_Lint_int (N : Nat) {R : Type} (x : P_slices_IndexFunc_Lint_int.den) (k : List Nat → List DS → HeapS → Option R) : Option R := slices_IndexFunc_Lint_int N x.1.1 x.2.2.1.1 x.2.2.1.2.1 x.2.2.1.2.2.1 x.2.2.1.2.2.2.1 (fun r0 r1 r2 r3 r4 => k [0] [.p (.i .i64 r0)] [(0, .box [.fn 85 [.ptr 1 0]]), (1, .box [.p (.i .i64 r1), .p (.i .i64 r2), .p (.i .i64 r3), .p (.i .i64 r4)])])
noncomputable def F15 (N : Nat) {R : Type} : CfS R := updC (F14 N) 113 (ent P_slices_IndexFunc_Lint_int (e_slices_IndexFunc_Lint_int N) (F14 N 113))
theorem F15_ok (N : Nat) {R : Type} : FOK (F15 N : CfS R) (runF T) :=
  FOK_upd (F14_ok N) (Snd_ent (F14_ok N) (H := H_slices_IndexFunc_Lint_int) (Lp := Lslices_IndexFunc_Lint_int_1 N) (X := X_slices_IndexFunc_Lint_int) (rp := []) (ver := c113) rfl (LOK_of (l := [(26, [0, 1, 7, 8], c113_l0)]) (by kernel_rfl) ⟨(updL_ok (loop_slices_IndexFunc_Lint_int_l0 N N)), trivial⟩) (fun x k => by kernel_rfl) (Snd_of (F14_ok N) 113 fun _ _ _ _ h => h))
def X_slices_ContainsFunc_Lint_int : Nat → List SP := fun _ => []
def H_slices_ContainsFunc_Lint_int : Nat → Option (List Sh) := fun n => none
noncomputable def Lslices_ContainsFunc_Lint_int_0 (N : Nat) {R : Type} : Nat → StS → KS R → Option R := noL
def slices_ContainsFunc_Lint_int (N : Nat) {R : Type} (a0 : List Int) (a1 : Int) (a2 : Int) (a3 : Int) (a4 : Int) (k0 : Bool → Int → Int → Int → Int → Option R) : Option R := (slices_IndexFunc_Lint_int N a0 a1 a2 a3 a4 (fun y1 y2 y3 y4 y5 => (k0 (decide (0 ≤ y1)) y2 y3 y4 y5)))
def P_slices_ContainsFunc_Lint_int : AP := ⟨[.p (.s (.sl [.i .i64])), .fn 103 [.ptr 0 0]], [(0, .box [.fn 85 [.ptr 1 0]]), (1, .box [.p (.s (.i .i64)), .p (.s (.i .i64)), .p (.s (.i .i64)), .p (.s (.i .i64))])]⟩
def e_slices_ContainsFunc_Lint_int (N : Nat) {R : Type} (x : P_slices_ContainsFunc_Lint_int.den) (k : List Nat → List DS → HeapS → Option R) : Option R := slices_ContainsFunc_Lint_int N x.1.1 x.2.2.1.1 x.2.2.1.2.1 x.2.2.1.2.2.1 x.2.2.1.2.2.2.1 (fun r0 r1 r2 r3 r4 => k [0] [.p (.b r0)] [(0, .box [.fn 85 [.ptr 1 0]]), (1, .box [.p (.i .i64 r1), .p (.i .i64 r2), .p (.i .i64 r3), .p (.i .i64 r4)])])
noncomputable def F16 (N : Nat) {R : Type} : CfS R := updC (F15 N) 102 (ent P_slices_ContainsFunc_Lint_int (e_slices_ContainsFunc_Lint_int N) (F15 N 102))
theorem F16_ok (N : Nat) {R : Type} : FOK (F16 N : CfS R) (runF T) :=
  FOK_upd (F15_ok N) (Snd_ent (F15_ok N) (H := H_slices_ContainsFunc_Lint_int) (Lp := Lslices_ContainsFunc_Lint_int_0 N) (X := X_slices_ContainsFunc_Lint_int) (rp := []) (ver := c102) rfl (LOK_of (l := []) (by kernel_rfl) trivial) (fun x k => by kernel_rfl) (Snd_of (F15_ok N) 102 fun _ _ _ _ h => h))
def X_arith_each_int : Nat → List SP := fun _ => []
def H_arith_each_int : Nat → Option (List Sh) := fun n => none
noncomputable def Larith_each_int_0 (N : Nat) {R : Type} : Nat → StS → KS R → Option R := noL
def arith_each_int (N : Nat) {R : Type} (a0 : List Int) (a1 : Int) (a2 : Int) (a3 : Int) (a4 : Int) (k0 : Bool → Option R) : Option R := (slices_ContainsFunc_Lint_int N a0 a1 a2 a3 a4 (fun y1 y2 y3 y4 y5 => (k0 (!y1))))
def P_arith_each_int : AP := ⟨[.p (.s (.sl [.i .i64])), .fn 85 [.ptr 0 0]], [(0, .box [.p (.s (.i .i64)), .p (.s (.i .i64)), .p (.s (.i .i64)), .p (.s (.i .i64))])]⟩
def e_arith_each_int (N : Nat) {R : Type} (x : P_arith_each_int.den) (k : List Nat → List DS → HeapS → Option R) : Option R := arith_each_int N x.1.1 x.2.1.1 x.2.1.2.1 x.2.1.2.2.1 x.2.1.2.2.2.1 (fun r0 => k [0] [.p (.b r0)] [(0, .dead)])
noncomputable def F17 (N : Nat) {R : Type} : CfS R := updC (F16 N) 84 (ent P_arith_each_int (e_arith_each_int N) (F16 N 84))
theorem F17_ok (N : Nat) {R : Type} : FOK (F17 N : CfS R) (runF T) :=
  FOK_upd (F16_ok N) (Snd_ent (F16_ok N) (H := H_arith_each_int) (Lp := Larith_each_int_0 N) (X := X_arith_each_int) (rp := []) (ver := c84) rfl (LOK_of (l := []) (by kernel_rfl) trivial) (fun x k => by kernel_rfl) (Snd_of (F16_ok N) 84 fun _ _ _ _ h => h))
def X_arith_form_valuesErr : Nat → List SP := fun _ => []
def H_arith_form_valuesErr : Nat → Option (List Sh) := fun n => none
noncomputable def Larith_form_valuesErr_0 (N : Nat) {R : Type} : Nat → StS → KS R → Option R := noL
def arith_form_valuesErr (N : Nat) {R : Type} (a0 : Int) (a1 : Int) (a2 : Int) (a3 : Int) (a4 : List Int) (k0 : Int → Option R) : Option R := (arith_each_int N a4 a0 a1 a2 a3 (fun y1 => (arith_unless N y1 2 (fun y2 => (k0 y2)))))
def P_arith_form_valuesErr : AP := ⟨[.agg [.p (.s (.i .i64)), .p (.s (.i .i64)), .p (.s (.i .i64)), .p (.s (.i .i64))], .p (.s (.sl [.i .i64]))], []⟩
def e_arith_form_valuesErr (N : Nat) {R : Type} (x : P_arith_form_valuesErr.den) (k : List Nat → List DS → HeapS → Option R) : Option R := arith_form_valuesErr N x.1.1.1 x.1.1.2.1 x.1.1.2.2.1 x.1.1.2.2.2.1 x.1.2.1 (fun r0 => k [] [.p (.i .i64 r0)] [])
noncomputable def F18 (N : Nat) {R : Type} : CfS R := updC (F17 N) 55 (ent P_arith_form_valuesErr (e_arith_form_valuesErr N) (F17 N 55))
theorem F18_ok (N : Nat) {R : Type} : FOK (F18 N : CfS R) (runF T) :=
  FOK_upd (F17_ok N) (Snd_ent (F17_ok N) (H := H_arith_form_valuesErr) (Lp := Larith_form_valuesErr_0 N) (X := X_arith_form_valuesErr) (rp := []) (ver := c55) rfl (LOK_of (l := []) (by kernel_rfl) trivial) (fun x k => by kernel_rfl) (Snd_of (F17_ok N) 55 fun _ _ _ _ h => h))
def X_arith_opened : Nat → List SP := fun _ => []
def H_arith_opened : Nat → Option (List Sh) := fun n => none
noncomputable def Larith_opened_0 (N : Nat) {R : Type} : Nat → StS → KS R → Option R := noL
def arith_opened (N : Nat) {R : Type} (a0 : Int) (a1 : Int) (a2 : Int) (a3 : Int) (a4 : List Int) (k0 : Int → Int → Int → Int → Int → Option R) : Option R := (arith_CheckForm N a0 a1 a2 a3 (fun y1 => (bif decide (y1 ≠ 0) then (k0 a0 a1 a2 a3 y1) else (arith_form_valuesErr N a0 a1 a2 a3 a4 (fun y2 => (k0 a0 a1 a2 a3 y2))))))
def P_arith_opened : AP := ⟨[.agg [.p (.s (.i .i64)), .p (.s (.i .i64)), .p (.s (.i .i64)), .p (.s (.i .i64))], .p (.s (.sl [.i .i64]))], []⟩
def e_arith_opened (N : Nat) {R : Type} (x : P_arith_opened.den) (k : List Nat → List DS → HeapS → Option R) : Option R := arith_opened N x.1.1.1 x.1.1.2.1 x.1.1.2.2.1 x.1.1.2.2.2.1 x.1.2.1 (fun r0 r1 r2 r3 r4 => k [] [.agg [.p (.i .i64 r0), .p (.i .i64 r1), .p (.i .i64 r2), .p (.i .i64 r3)], .p (.i .i64 r4)] [])
noncomputable def F19 (N : Nat) {R : Type} : CfS R := updC (F18 N) 44 (ent P_arith_opened (e_arith_opened N) (F18 N 44))
theorem F19_ok (N : Nat) {R : Type} : FOK (F19 N : CfS R) (runF T) :=
  FOK_upd (F18_ok N) (Snd_ent (F18_ok N) (H := H_arith_opened) (Lp := Larith_opened_0 N) (X := X_arith_opened) (rp := []) (ver := c44) rfl (LOK_of (l := []) (by kernel_rfl) trivial) (fun x k => by kernel_rfl) (Snd_of (F18_ok N) 44 fun _ _ _ _ h => h))
def X_arith_form_signed : Nat → List SP := fun _ => []
def H_arith_form_signed : Nat → Option (List Sh) := fun n => none
noncomputable def Larith_form_signed_0 (N : Nat) {R : Type} : Nat → StS → KS R → Option R := noL
def arith_form_signed (N : Nat) {R : Type} (a0 : Int) (a1 : Int) (a2 : Int) (a3 : Int) (a4 : Int) (k0 : Int → Option R) : Option R := (arith_form_size N a0 a1 a2 a3 (fun y1 => (bif decide ((w64 (Int.tdiv y1 2)) ≤ a4) then (arith_form_size N a0 a1 a2 a3 (fun y2 => (k0 (w64 (a4 - y2))))) else (k0 a4))))
def P_arith_form_signed : AP := ⟨[.agg [.p (.s (.i .i64)), .p (.s (.i .i64)), .p (.s (.i .i64)), .p (.s (.i .i64))], .p (.s (.i .i64))], []⟩
def e_arith_form_signed (N : Nat) {R : Type} (x : P_arith_form_signed.den) (k : List Nat → List DS → HeapS → Option R) : Option R := arith_form_signed N x.1.1.1 x.1.1.2.1 x.1.1.2.2.1 x.1.1.2.2.2.1 x.1.2.1 (fun r0 => k [] [.p (.i .i64 r0)] [])
noncomputable def F20 (N : Nat) {R : Type} : CfS R := updC (F19 N) 46 (ent P_arith_form_signed (e_arith_form_signed N) (F19 N 46))
theorem F20_ok (N : Nat) {R : Type} : FOK (F20 N : CfS R) (runF T) :=
  FOK_upd (F19_ok N) (Snd_ent (F19_ok N) (H := H_arith_form_signed) (Lp := Larith_form_signed_0 N) (X := X_arith_form_signed) (rp := []) (ver := c46) rfl (LOK_of (l := []) (by kernel_rfl) trivial) (fun x k => by kernel_rfl) (Snd_of (F19_ok N) 46 fun _ _ _ _ h => h))
def X_arith_MulFixed : Nat → List SP := fun _ => []
def H_arith_MulFixed : Nat → Option (List Sh) := fun n => if n = 7000 then some [.i .i64] else none
noncomputable def Larith_MulFixed_0 (N : Nat) {R : Type} : Nat → StS → KS R → Option R := noL
def arith_MulFixed (N : Nat) {R : Type} (a0 : Int) (a1 : Int) (a2 : Int) (a3 : Int) (a4 : Int) (a5 : Int) (k0 : Int → Int → Option R) : Option R := (arith_opened N a2 a3 a4 a5 [a0, a1] (fun y1 y2 y3 y4 y5 => (bif decide (y5 ≠ 0) then (k0 0 y5) else (arith_form_signed N y1 y2 y3 y4 a0 (fun y6 => (arith_form_signed N y1 y2 y3 y4 a1 (fun y7 => (arith_form_one N y1 y2 y3 y4 (fun y8 => (arith_form_fixed N y1 y2 y3 y4 (w64 (y6 * y7)) y8 (fun y9 => (k0 y9 0))))))))))))
def P_arith_MulFixed : AP := ⟨[.p (.s (.i .i64)), .p (.s (.i .i64)), .agg [.p (.s (.i .i64)), .p (.s (.i .i64)), .p (.s (.i .i64)), .p (.s (.i .i64))]], []⟩
def e_arith_MulFixed (N : Nat) {R : Type} (x : P_arith_MulFixed.den) (k : List Nat → List DS → HeapS → Option R) : Option R := arith_MulFixed N x.1.1 x.1.2.1 x.1.2.2.1.1 x.1.2.2.1.2.1 x.1.2.2.1.2.2.1 x.1.2.2.1.2.2.2.1 (fun r0 r1 => k [] [.p (.i .i64 r0), .p (.i .i64 r1)] [])
noncomputable def F21 (N : Nat) {R : Type} : CfS R := updC (F20 N) 10 (ent P_arith_MulFixed (e_arith_MulFixed N) (F20 N 10))
theorem F21_ok (N : Nat) {R : Type} : FOK (F21 N : CfS R) (runF T) :=
  FOK_upd (F20_ok N) (Snd_ent (F20_ok N) (H := H_arith_MulFixed) (Lp := Larith_MulFixed_0 N) (X := X_arith_MulFixed) (rp := []) (ver := c10) rfl (LOK_of (l := []) (by kernel_rfl) trivial) (fun x k => by kernel_rfl) (Snd_of (F20_ok N) 10 fun _ _ _ _ h => h))
def X_arith_isCount : Nat → List SP := fun _ => []
def H_arith_isCount : Nat → Option (List Sh) := fun n => none
noncomputable def Larith_isCount_0 (N : Nat) {R : Type} : Nat → StS → KS R → Option R := noL
def arith_isCount (N : Nat) {R : Type} (a0 : Int) (k0 : Bool → Option R) : Option R := (bif decide (a0 = 1) then (k0 true) else (bif decide (a0 = 2) then (k0 true) else (bif decide (a0 = 4) then (k0 true) else (k0 (decide (a0 = 8))))))
def P_arith_isCount : AP := ⟨[.p (.s (.i .i64))], []⟩
def e_arith_isCount (N : Nat) {R : Type} (x : P_arith_isCount.den) (k : List Nat → List DS → HeapS → Option R) : Option R := arith_isCount N x.1.1 (fun r0 => k [] [.p (.b r0)] [])
noncomputable def F22 (N : Nat) {R : Type} : CfS R := updC (F21 N) 61 (ent P_arith_isCount (e_arith_isCount N) (F21 N 61))
theorem F22_ok (N : Nat) {R : Type} : FOK (F22 N : CfS R) (runF T) :=
  FOK_upd (F21_ok N) (Snd_ent (F21_ok N) (H := H_arith_isCount) (Lp := Larith_isCount_0 N) (X := X_arith_isCount) (rp := []) (ver := c61) rfl (LOK_of (l := []) (by kernel_rfl) trivial) (fun x k => by kernel_rfl) (Snd_of (F21_ok N) 61 fun _ _ _ _ h => h))
def X_arith_isSample : Nat → List SP := fun _ => []
def H_arith_isSample : Nat → Option (List Sh) := fun n => none
noncomputable def Larith_isSample_0 (N : Nat) {R : Type} : Nat → StS → KS R → Option R := noL
def arith_isSample (N : Nat) {R : Type} (a0 : Int) (k0 : Bool → Option R) : Option R := (arith_within N a0 (-1000) 1000 (fun y1 => (k0 y1)))
def P_arith_isSample : AP := ⟨[.p (.s (.i .i64))], []⟩
def e_arith_isSample (N : Nat) {R : Type} (x : P_arith_isSample.den) (k : List Nat → List DS → HeapS → Option R) : Option R := arith_isSample N x.1.1 (fun r0 => k [] [.p (.b r0)] [])
noncomputable def F23 (N : Nat) {R : Type} : CfS R := updC (F22 N) 93 (ent P_arith_isSample (e_arith_isSample N) (F22 N 93))
theorem F23_ok (N : Nat) {R : Type} : FOK (F23 N : CfS R) (runF T) :=
  FOK_upd (F22_ok N) (Snd_ent (F22_ok N) (H := H_arith_isSample) (Lp := Larith_isSample_0 N) (X := X_arith_isSample) (rp := []) (ver := c93) rfl (LOK_of (l := []) (by kernel_rfl) trivial) (fun x k => by kernel_rfl) (Snd_of (F22_ok N) 93 fun _ _ _ _ h => h))
def X_arith_pointsErr_c1 : Nat → List SP := fun _ => []
def H_arith_pointsErr_c1 : Nat → Option (List Sh) := fun n => none
noncomputable def Larith_pointsErr_c1_0 (N : Nat) {R : Type} : Nat → StS → KS R → Option R := noL
def arith_pointsErr_c1 (N : Nat) {R : Type} (a0 : Int) (a1 : Int) (k0 : Bool → Option R) : Option R := (arith_isSample N a0 (fun y1 => (bif y1 then (arith_isSample N a1 (fun y2 => (k0 y2))) else (k0 false))))
def P_arith_pointsErr_c1 : AP := ⟨[.agg [.p (.s (.i .i64)), .p (.s (.i .i64))]], []⟩
def e_arith_pointsErr_c1 (N : Nat) {R : Type} (x : P_arith_pointsErr_c1.den) (k : List Nat → List DS → HeapS → Option R) : Option R := arith_pointsErr_c1 N x.1.1.1 x.1.1.2.1 (fun r0 => k [] [.p (.b r0)] [])
noncomputable def F24 (N : Nat) {R : Type} : CfS R := updC (F23 N) 92 (ent P_arith_pointsErr_c1 (e_arith_pointsErr_c1 N) (F23 N 92))
theorem F24_ok (N : Nat) {R : Type} : FOK (F24 N : CfS R) (runF T) :=
  FOK_upd (F23_ok N) (Snd_ent (F23_ok N) (H := H_arith_pointsErr_c1) (Lp := Larith_pointsErr_c1_0 N) (X := X_arith_pointsErr_c1) (rp := []) (ver := c92) rfl (LOK_of (l := []) (by kernel_rfl) trivial) (fun x k => by kernel_rfl) (Snd_of (F23_ok N) 92 fun _ _ _ _ h => h))
def X_api_Gauss__c1 : Nat → List SP := fun _ => []
def H_api_Gauss__c1 : Nat → Option (List Sh) := fun n => none
noncomputable def Lapi_Gauss__c1_0 (N : Nat) {R : Type} : Nat → StS → KS R → Option R := noL
def api_Gauss__c1 (N : Nat) {R : Type} (a0 : Int) (a1 : Int) (k0 : Bool → Option R) : Option R := (arith_pointsErr_c1 N a0 a1 (fun y1 => (k0 (!y1))))
def P_api_Gauss__c1 : AP := ⟨[.agg [.p (.s (.i .i64)), .p (.s (.i .i64))], .ptr 0 0], [(0, .box [.p (.fn 92 [])])]⟩
def e_api_Gauss__c1 (N : Nat) {R : Type} (x : P_api_Gauss__c1.den) (k : List Nat → List DS → HeapS → Option R) : Option R := api_Gauss__c1 N x.1.1.1 x.1.1.2.1 (fun r0 => k [0] [.p (.b r0)] [(0, .box [.p (.fn 92 [])])])
noncomputable def F25 (N : Nat) {R : Type} : CfS R := updC (F24 N) 106 (ent P_api_Gauss__c1 (e_api_Gauss__c1 N) (F24 N 106))
theorem F25_ok (N : Nat) {R : Type} : FOK (F25 N : CfS R) (runF T) :=
  FOK_upd (F24_ok N) (Snd_ent (F24_ok N) (H := H_api_Gauss__c1) (Lp := Lapi_Gauss__c1_0 N) (X := X_api_Gauss__c1) (rp := []) (ver := c106) rfl (LOK_of (l := []) (by kernel_rfl) trivial) (fun x k => by kernel_rfl) (Snd_of (F24_ok N) 106 fun _ _ _ _ h => h))
def X_slices_IndexFunc_Gauss_Gauss : Nat → List SP := fun _ => []
def H_slices_IndexFunc_Gauss_Gauss : Nat → Option (List Sh) := fun n => none
noncomputable def Lslices_IndexFunc_Gauss_Gauss_0 (N : Nat) {R : Type} : Nat → StS → KS R → Option R := noL
def slices_IndexFunc_Gauss_Gauss_l0 (N : Nat) {R : Type} (k0 : Int → Option R) (k1 : Option R) : Nat → (List (Int × Int)) → Int → Int → Option R
  | 0, _, _, _ => none
  | n + 1, b0, b1, b2 => (bif decide (b2 < b1) then ((at? b0 b2).bind fun x1 => (api_Gauss__c1 N x1.1 x1.2 (fun y2 => (bif y2 then (k0 b2) else (slices_IndexFunc_Gauss_Gauss_l0 N k0 k1 n b0 b1 (w64 (b2 + 1))))))) else k1)
def Pslices_IndexFunc_Gauss_Gauss_l0 : SP := ⟨[(0, .p (.s (.sl [.i .i64, .i .i64]))), (1, .fn 106 [.ptr 0 0]), (7, .p (.s (.i .i64))), (8, .p (.s (.i .i64))), (100001, .fn 106 [.ptr 0 0])], [(0, .box [.p (.fn 92 [])])]⟩
def eslices_IndexFunc_Gauss_Gauss_l0 (N : Nat) {R : Type} (n : Nat) (x : Pslices_IndexFunc_Gauss_Gauss_l0.den) (k : KS R) : Option R := slices_IndexFunc_Gauss_Gauss_l0 N (fun r0 => k .ret ⟨[(4, .p (.i .i64 r0)), (100001, .fn 106 [.ptr 0 0])], [(0, .box [.p (.fn 92 [])])]⟩) (k (.ex 0) ⟨[(100001, .fn 106 [.ptr 0 0])], [(0, .box [.p (.fn 92 [])])]⟩) n x.1.1 x.1.2.2.1 x.1.2.2.2.1
theorem loop_slices_IndexFunc_Gauss_Gauss_l0 (N : Nat) {R : Type} : ∀ (n : Nat) (s : StS) (k : KS R) (r : R), lent' Pslices_IndexFunc_Gauss_Gauss_l0 (eslices_IndexFunc_Gauss_Gauss_l0 N n) s k = some r → ∃ e s', runL (runF T) [0, 1, 7, 8] c114_l0 s.enc = some (e, s'.enc) ∧ k e s' = some r :=
  loop_ok (F25_ok N) (H := H_slices_IndexFunc_Gauss_Gauss) (Lp := Lslices_IndexFunc_Gauss_Gauss_0 N) (X := X_slices_IndexFunc_Gauss_Gauss) (p := 26) (LOK_of (l := []) (by kernel_rfl) trivial) (fun _ _ => rfl) (fun n x k => by kernel_rfl)
noncomputable def Lslices_IndexFunc_Gauss_Gauss_1 (N : Nat) {R : Type} : Nat → StS → KS R → Option R := updL (Lslices_IndexFunc_Gauss_Gauss_0 N) 26 (lent' Pslices_IndexFunc_Gauss_Gauss_l0 (eslices_IndexFunc_Gauss_Gauss_l0 N N))
def slices_IndexFunc_Gauss_Gauss (N : Nat) {R : Type} (a0 : List (Int × Int)) (k0 : Int → Option R) : Option R := (slices_IndexFunc_Gauss_Gauss_l0 N (fun z3 => (k0 z3)) (k0 (-1)) N a0 ((a0.length : Nat) : Int) 0)
def P_slices_IndexFunc_Gauss_Gauss : AP := ⟨[.p (.s (.sl [.i .i64, .i .i64])), .fn 106 [.ptr 0 0]], [(0, .box [.p (.fn 92 [])])]⟩
def e_slices_IndexFunc_Gauss_Gauss (N : Nat) {R : Type} (x : P_slices_IndexFunc_Gauss_Gauss.den) (k : List Nat → List DS → HeapS → Option R) : Option R := slices_IndexFunc_Gauss_Gauss N x.1.1 (fun r0 => k [0] [.p (.i .i64 r0)] [(0, .box [.p (.fn 92 [])])])
noncomputable def F26 (N : Nat) {R : Type} : CfS R := updC (F25 N) 114 (ent P_slices_IndexFunc_Gauss_Gauss (e_slices_IndexFunc_Gauss_Gauss N) (F25 N 114))
theorem F26_ok (N : Nat) {R : Type} : FOK (F26 N : CfS R) (runF T) :=
  FOK_upd (F25_ok N) (Snd_ent (F25_ok N) (H := H_slices_IndexFunc_Gauss_Gauss) (Lp := Lslices_IndexFunc_Gauss_Gauss_1 N) (X := X_slices_IndexFunc_Gauss_Gauss) (rp := []) (ver := c114) rfl (LOK_of (l := [(26, [0, 1, 7, 8], c114_l0)]) (by kernel_rfl) ⟨(updL_ok (loop_slices_IndexFunc_Gauss_Gauss_l0 N N)), trivial⟩) (fun x k => by kernel_rfl) (Snd_of (F25_ok N) 114 fun _ _ _ _ h => h))
def X_slices_ContainsFunc_Gauss_Gauss : Nat → List SP := fun _ => []
def H_slices_ContainsFunc_Gauss_Gauss : Nat → Option (List Sh) := fun n => none
noncomputable def Lslices_ContainsFunc_Gauss_Gauss_0 (N : Nat) {R : Type} : Nat → StS → KS R → Option R := noL
def slices_ContainsFunc_Gauss_Gauss (N : Nat) {R : Type} (a0 : List (Int × Int)) (k0 : Bool → Option R) : Option R := (slices_IndexFunc_Gauss_Gauss N a0 (fun y1 => (k0 (decide (0 ≤ y1)))))
def P_slices_ContainsFunc_Gauss_Gauss : AP := ⟨[.p (.s (.sl [.i .i64, .i .i64])), .fn 106 [.ptr 0 0]], [(0, .box [.p (.fn 92 [])])]⟩
def e_slices_ContainsFunc_Gauss_Gauss (N : Nat) {R : Type} (x : P_slices_ContainsFunc_Gauss_Gauss.den) (k : List Nat → List DS → HeapS → Option R) : Option R := slices_ContainsFunc_Gauss_Gauss N x.1.1 (fun r0 => k [0] [.p (.b r0)] [(0, .box [.p (.fn 92 [])])])
noncomputable def F27 (N : Nat) {R : Type} : CfS R := updC (F26 N) 105 (ent P_slices_ContainsFunc_Gauss_Gauss (e_slices_ContainsFunc_Gauss_Gauss N) (F26 N 105))
theorem F27_ok (N : Nat) {R : Type} : FOK (F27 N : CfS R) (runF T) :=
  FOK_upd (F26_ok N) (Snd_ent (F26_ok N) (H := H_slices_ContainsFunc_Gauss_Gauss) (Lp := Lslices_ContainsFunc_Gauss_Gauss_0 N) (X := X_slices_ContainsFunc_Gauss_Gauss) (rp := []) (ver := c105) rfl (LOK_of (l := []) (by kernel_rfl) trivial) (fun x k => by kernel_rfl) (Snd_of (F26_ok N) 105 fun _ _ _ _ h => h))
def X_arith_each_Gauss : Nat → List SP := fun _ => []
def H_arith_each_Gauss : Nat → Option (List Sh) := fun n => none
noncomputable def Larith_each_Gauss_0 (N : Nat) {R : Type} : Nat → StS → KS R → Option R := noL
def arith_each_Gauss (N : Nat) {R : Type} (a0 : List (Int × Int)) (k0 : Bool → Option R) : Option R := (slices_ContainsFunc_Gauss_Gauss N a0 (fun y1 => (k0 (!y1))))
def P_arith_each_Gauss : AP := ⟨[.p (.s (.sl [.i .i64, .i .i64])), .p (.fn 92 [])], []⟩
def e_arith_each_Gauss (N : Nat) {R : Type} (x : P_arith_each_Gauss.den) (k : List Nat → List DS → HeapS → Option R) : Option R := arith_each_Gauss N x.1.1 (fun r0 => k [] [.p (.b r0)] [])
noncomputable def F28 (N : Nat) {R : Type} : CfS R := updC (F27 N) 91 (ent P_arith_each_Gauss (e_arith_each_Gauss N) (F27 N 91))
theorem F28_ok (N : Nat) {R : Type} : FOK (F28 N : CfS R) (runF T) :=
  FOK_upd (F27_ok N) (Snd_ent (F27_ok N) (H := H_arith_each_Gauss) (Lp := Larith_each_Gauss_0 N) (X := X_arith_each_Gauss) (rp := []) (ver := c91) rfl (LOK_of (l := []) (by kernel_rfl) trivial) (fun x k => by kernel_rfl) (Snd_of (F27_ok N) 91 fun _ _ _ _ h => h))
def X_arith_pointsErr : Nat → List SP := fun _ => []
def H_arith_pointsErr : Nat → Option (List Sh) := fun n => if n = 9000 then some [.i .i64] else none
noncomputable def Larith_pointsErr_0 (N : Nat) {R : Type} : Nat → StS → KS R → Option R := noL
def arith_pointsErr (N : Nat) {R : Type} (a0 : List (Int × Int)) (k0 : Int → Option R) : Option R := (arith_isCount N ((a0.length : Nat) : Int) (fun y1 => (arith_unless N y1 10 (fun y2 => (arith_each_Gauss N a0 (fun y3 => (arith_unless N y3 2 (fun y4 => (arith_first N [y2, y4] (fun y5 => (k0 y5)))))))))))
def P_arith_pointsErr : AP := ⟨[.p (.s (.sl [.i .i64, .i .i64]))], []⟩
def e_arith_pointsErr (N : Nat) {R : Type} (x : P_arith_pointsErr.den) (k : List Nat → List DS → HeapS → Option R) : Option R := arith_pointsErr N x.1.1 (fun r0 => k [] [.p (.i .i64 r0)] [])
noncomputable def F29 (N : Nat) {R : Type} : CfS R := updC (F28 N) 70 (ent P_arith_pointsErr (e_arith_pointsErr N) (F28 N 70))
theorem F29_ok (N : Nat) {R : Type} : FOK (F29 N : CfS R) (runF T) :=
  FOK_upd (F28_ok N) (Snd_ent (F28_ok N) (H := H_arith_pointsErr) (Lp := Larith_pointsErr_0 N) (X := X_arith_pointsErr) (rp := []) (ver := c70) rfl (LOK_of (l := []) (by kernel_rfl) trivial) (fun x k => by kernel_rfl) (Snd_of (F28_ok N) 70 fun _ _ _ _ h => h))
def X_arith_of : Nat → List SP := fun _ => []
def H_arith_of : Nat → Option (List Sh) := fun n => none
noncomputable def Larith_of_0 (N : Nat) {R : Type} : Nat → StS → KS R → Option R := noL
def arith_of (N : Nat) {R : Type} (a0 : Int) (a1 : Int) (k0 : Int → Int → Int → Int → Option R) : Option R := (k0 a0 0 a1 0)
def P_arith_of : AP := ⟨[.agg [.p (.s (.i .i64)), .p (.s (.i .i64))]], []⟩
def e_arith_of (N : Nat) {R : Type} (x : P_arith_of.den) (k : List Nat → List DS → HeapS → Option R) : Option R := arith_of N x.1.1.1 x.1.1.2.1 (fun r0 r1 r2 r3 => k [] [.agg [.p (.i .i64 r0), .p (.i .i64 r1), .p (.i .i64 r2), .p (.i .i64 r3)]] [])
noncomputable def F30 (N : Nat) {R : Type} : CfS R := updC (F29 N) 72 (ent P_arith_of (e_arith_of N) (F29 N 72))
theorem F30_ok (N : Nat) {R : Type} : FOK (F30 N : CfS R) (runF T) :=
  FOK_upd (F29_ok N) (Snd_ent (F29_ok N) (H := H_arith_of) (Lp := Larith_of_0 N) (X := X_arith_of) (rp := []) (ver := c72) rfl (LOK_of (l := []) (by kernel_rfl) trivial) (fun x k => by kernel_rfl) (Snd_of (F29_ok N) 72 fun _ _ _ _ h => h))
def X_arith_powers : Nat → List SP := fun _ => []
def H_arith_powers : Nat → Option (List Sh) := fun n => none
noncomputable def Larith_powers_0 (N : Nat) {R : Type} : Nat → StS → KS R → Option R := noL
def arith_powers (N : Nat) {R : Type} (k0 : Int → Int → Int → Int → Int → Int → Int → Int → Int → Int → Int → Int → Int → Int → Int → Int → Int → Int → Int → Int → Int → Int → Int → Int → Int → Int → Int → Int → Int → Int → Int → Int → Option R) : Option R := (k0 1 0 0 0 0 1 0 (-1) 0 0 (-1) 0 0 (-1) 0 (-1) (-1) 0 0 0 0 (-1) 0 1 0 0 1 0 0 1 0 1)
def P_arith_powers : AP := ⟨[], []⟩
def e_arith_powers (N : Nat) {R : Type} (x : P_arith_powers.den) (k : List Nat → List DS → HeapS → Option R) : Option R := arith_powers N (fun r0 r1 r2 r3 r4 r5 r6 r7 r8 r9 r10 r11 r12 r13 r14 r15 r16 r17 r18 r19 r20 r21 r22 r23 r24 r25 r26 r27 r28 r29 r30 r31 => k [] [.agg [.p (.i .i64 r0), .p (.i .i64 r1), .p (.i .i64 r2), .p (.i .i64 r3), .p (.i .i64 r4), .p (.i .i64 r5), .p (.i .i64 r6), .p (.i .i64 r7), .p (.i .i64 r8), .p (.i .i64 r9), .p (.i .i64 r10), .p (.i .i64 r11), .p (.i .i64 r12), .p (.i .i64 r13), .p (.i .i64 r14), .p (.i .i64 r15), .p (.i .i64 r16), .p (.i .i64 r17), .p (.i .i64 r18), .p (.i .i64 r19), .p (.i .i64 r20), .p (.i .i64 r21), .p (.i .i64 r22), .p (.i .i64 r23), .p (.i .i64 r24), .p (.i .i64 r25), .p (.i .i64 r26), .p (.i .i64 r27), .p (.i .i64 r28), .p (.i .i64 r29), .p (.i .i64 r30), .p (.i .i64 r31)]] [])
noncomputable def F31 (N : Nat) {R : Type} : CfS R := updC (F30 N) 64 (ent P_arith_powers (e_arith_powers N) (F30 N 64))
theorem F31_ok (N : Nat) {R : Type} : FOK (F31 N : CfS R) (runF T) :=
  FOK_upd (F30_ok N) (Snd_ent (F30_ok N) (H := H_arith_powers) (Lp := Larith_powers_0 N) (X := X_arith_powers) (rp := []) (ver := c64) rfl (LOK_of (l := []) (by kernel_rfl) trivial) (fun x k => by kernel_rfl) (Snd_of (F30_ok N) 64 fun _ _ _ _ h => h))
def X_arith_number_turned : Nat → List SP := fun _ => []
def H_arith_number_turned : Nat → Option (List Sh) := fun n => none
noncomputable def Larith_number_turned_0 (N : Nat) {R : Type} : Nat → StS → KS R → Option R := noL
def arith_number_turned (N : Nat) {R : Type} (a0 : Int) (a1 : Int) (a2 : Int) (a3 : Int) (a4 : Int) (k0 : Int → Int → Int → Int → Option R) : Option R := (arith_powers N (fun y1 y2 y3 y4 y5 y6 y7 y8 y9 y10 y11 y12 y13 y14 y15 y16 y17 y18 y19 y20 y21 y22 y23 y24 y25 y26 y27 y28 y29 y30 y31 y32 => (bif decide ((Int.tmod a4 8) = 7) then (k0 (w64 ((w64 (a0 * y29)) - (w64 (a2 * y31)))) (w64 ((w64 (a0 * y30)) - (w64 (a2 * y32)))) (w64 ((w64 (a0 * y31)) + (w64 (a2 * y29)))) (w64 ((w64 (a0 * y32)) + (w64 (a2 * y30))))) else (bif decide ((Int.tmod a4 8) = 6) then (k0 (w64 ((w64 (a0 * y25)) - (w64 (a2 * y27)))) (w64 ((w64 (a0 * y26)) - (w64 (a2 * y28)))) (w64 ((w64 (a0 * y27)) + (w64 (a2 * y25)))) (w64 ((w64 (a0 * y28)) + (w64 (a2 * y26))))) else (bif decide ((Int.tmod a4 8) = 5) then (k0 (w64 ((w64 (a0 * y21)) - (w64 (a2 * y23)))) (w64 ((w64 (a0 * y22)) - (w64 (a2 * y24)))) (w64 ((w64 (a0 * y23)) + (w64 (a2 * y21)))) (w64 ((w64 (a0 * y24)) + (w64 (a2 * y22))))) else (bif decide ((Int.tmod a4 8) = 4) then (k0 (w64 ((w64 (a0 * y17)) - (w64 (a2 * y19)))) (w64 ((w64 (a0 * y18)) - (w64 (a2 * y20)))) (w64 ((w64 (a0 * y19)) + (w64 (a2 * y17)))) (w64 ((w64 (a0 * y20)) + (w64 (a2 * y18))))) else (bif decide ((Int.tmod a4 8) = 3) then (k0 (w64 ((w64 (a0 * y13)) - (w64 (a2 * y15)))) (w64 ((w64 (a0 * y14)) - (w64 (a2 * y16)))) (w64 ((w64 (a0 * y15)) + (w64 (a2 * y13)))) (w64 ((w64 (a0 * y16)) + (w64 (a2 * y14))))) else (bif decide ((Int.tmod a4 8) = 2) then (k0 (w64 ((w64 (a0 * y9)) - (w64 (a2 * y11)))) (w64 ((w64 (a0 * y10)) - (w64 (a2 * y12)))) (w64 ((w64 (a0 * y11)) + (w64 (a2 * y9)))) (w64 ((w64 (a0 * y12)) + (w64 (a2 * y10))))) else (bif decide ((Int.tmod a4 8) = 1) then (k0 (w64 ((w64 (a0 * y5)) - (w64 (a2 * y7)))) (w64 ((w64 (a0 * y6)) - (w64 (a2 * y8)))) (w64 ((w64 (a0 * y7)) + (w64 (a2 * y5)))) (w64 ((w64 (a0 * y8)) + (w64 (a2 * y6))))) else (bif decide ((Int.tmod a4 8) = 0) then (k0 (w64 ((w64 (a0 * y1)) - (w64 (a2 * y3)))) (w64 ((w64 (a0 * y2)) - (w64 (a2 * y4)))) (w64 ((w64 (a0 * y3)) + (w64 (a2 * y1)))) (w64 ((w64 (a0 * y4)) + (w64 (a2 * y2))))) else none))))))))))
def P_arith_number_turned : AP := ⟨[.agg [.p (.s (.i .i64)), .p (.s (.i .i64)), .p (.s (.i .i64)), .p (.s (.i .i64))], .p (.s (.i .i64))], []⟩
def e_arith_number_turned (N : Nat) {R : Type} (x : P_arith_number_turned.den) (k : List Nat → List DS → HeapS → Option R) : Option R := arith_number_turned N x.1.1.1 x.1.1.2.1 x.1.1.2.2.1 x.1.1.2.2.2.1 x.1.2.1 (fun r0 r1 r2 r3 => k [] [.agg [.p (.i .i64 r0), .p (.i .i64 r1), .p (.i .i64 r2), .p (.i .i64 r3)]] [])
noncomputable def F32 (N : Nat) {R : Type} : CfS R := updC (F31 N) 73 (ent P_arith_number_turned (e_arith_number_turned N) (F31 N 73))
theorem F32_ok (N : Nat) {R : Type} : FOK (F32 N : CfS R) (runF T) :=
  FOK_upd (F31_ok N) (Snd_ent (F31_ok N) (H := H_arith_number_turned) (Lp := Larith_number_turned_0 N) (X := X_arith_number_turned) (rp := []) (ver := c73) rfl (LOK_of (l := []) (by kernel_rfl) trivial) (fun x k => by kernel_rfl) (Snd_of (F31_ok N) 73 fun _ _ _ _ h => h))
def X_arith_number_plus : Nat → List SP := fun _ => []
def H_arith_number_plus : Nat → Option (List Sh) := fun n => none
noncomputable def Larith_number_plus_0 (N : Nat) {R : Type} : Nat → StS → KS R → Option R := noL
def arith_number_plus (N : Nat) {R : Type} (a0 : Int) (a1 : Int) (a2 : Int) (a3 : Int) (a4 : Int) (a5 : Int) (a6 : Int) (a7 : Int) (k0 : Int → Int → Int → Int → Option R) : Option R := (k0 (w64 (a0 + a4)) (w64 (a1 + a5)) (w64 (a2 + a6)) (w64 (a3 + a7)))
def P_arith_number_plus : AP := ⟨[.agg [.p (.s (.i .i64)), .p (.s (.i .i64)), .p (.s (.i .i64)), .p (.s (.i .i64))], .agg [.p (.s (.i .i64)), .p (.s (.i .i64)), .p (.s (.i .i64)), .p (.s (.i .i64))]], []⟩
def e_arith_number_plus (N : Nat) {R : Type} (x : P_arith_number_plus.den) (k : List Nat → List DS → HeapS → Option R) : Option R := arith_number_plus N x.1.1.1 x.1.1.2.1 x.1.1.2.2.1 x.1.1.2.2.2.1 x.1.2.1.1 x.1.2.1.2.1 x.1.2.1.2.2.1 x.1.2.1.2.2.2.1 (fun r0 r1 r2 r3 => k [] [.agg [.p (.i .i64 r0), .p (.i .i64 r1), .p (.i .i64 r2), .p (.i .i64 r3)]] [])
noncomputable def F33 (N : Nat) {R : Type} : CfS R := updC (F32 N) 71 (ent P_arith_number_plus (e_arith_number_plus N) (F32 N 71))
theorem F33_ok (N : Nat) {R : Type} : FOK (F33 N : CfS R) (runF T) :=
  FOK_upd (F32_ok N) (Snd_ent (F32_ok N) (H := H_arith_number_plus) (Lp := Larith_number_plus_0 N) (X := X_arith_number_plus) (rp := []) (ver := c71) rfl (LOK_of (l := []) (by kernel_rfl) trivial) (fun x k => by kernel_rfl) (Snd_of (F32_ok N) 71 fun _ _ _ _ h => h))
def X_arith_TransformOf : Nat → List SP := fun p => if p = 63 then [⟨[(2, .own 0), (3, .p (.s (.i .i64)))], [(0, .arr [.i .i64, .i .i64, .i .i64, .i .i64])]⟩] else if p = 109 then [⟨[(2, .own 0), (3, .p (.s (.i .i64)))], [(0, .arr [.i .i64, .i .i64, .i .i64, .i .i64])]⟩] else []
def H_arith_TransformOf : Nat → Option (List Sh) := fun n => if n = 47000 then some [.i .i64, .i .i64, .i .i64, .i .i64] else none
noncomputable def Larith_TransformOf_0 (N : Nat) {R : Type} : Nat → StS → KS R → Option R := noL
def arith_TransformOf_l1 (N : Nat) {R : Type} (k0 : (List (Int × Int)) → Int → Int → Int → Int → Int → Int → Option R) (k1 : (List (Int × Int)) → Int → Int → (List (Int × Int × Int × Int)) → Int → Int → Int → Int → Option R) : Nat → (List (Int × Int)) → Int → Int → Int → (List (Int × Int)) → Int → Int → (List (Int × Int × Int × Int)) → Int → Int → Int → Int → Option R
  | 0, _, _, _, _, _, _, _, _, _, _, _, _ => none
  | n + 1, b0, b1, b2, b3, b4, b5, b6, b7, b8, b9, b10, b11 => (bif decide (b6 < b5) then ((at? b4 b6).bind fun x1 => (arith_of N x1.1 x1.2 (fun y2 y3 y4 y5 => (bif decide (((b0.length : Nat) : Int) = 0) then none else (arith_number_turned N y2 y3 y4 y5 (w64 ((w64 (b6 * b1)) * (w64 (Int.tdiv 8 ((b0.length : Nat) : Int))))) (fun y6 y7 y8 y9 => (arith_number_plus N b8 b9 b10 b11 y6 y7 y8 y9 (fun y10 y11 y12 y13 => (arith_TransformOf_l1 N k0 k1 n b0 b1 b2 b3 b4 b5 (w64 (b6 + 1)) b7 y10 y11 y12 y13))))))))) else (k1 b0 b2 b3 b7 b8 b9 b10 b11))
def Parith_TransformOf_l1 : SP := ⟨[(0, .p (.s (.sl [.i .i64, .i .i64]))), (5, .own 0), (6, .p (.s (.i .i64))), (7, .ptr 1 0), (16, .p (.s (.i .i64))), (17, .p (.s (.i .i64))), (20, .p (.s (.sl [.i .i64, .i .i64]))), (21, .p (.s (.i .i64))), (22, .p (.s (.i .i64)))], [(0, .arr [.i .i64, .i .i64, .i .i64, .i .i64]), (1, .box [.p (.s (.i .i64)), .p (.s (.i .i64)), .p (.s (.i .i64)), .p (.s (.i .i64))])]⟩
def earith_TransformOf_l1 (N : Nat) {R : Type} (n : Nat) (x : Parith_TransformOf_l1.den) (k : KS R) : Option R := arith_TransformOf_l1 N (fun r0 r1 r2 r3 r4 r5 r6 => k (.ex 2) ⟨[(0, .p (.l (.t [.i .i64, .i .i64] r0))), (5, .own 0), (7, .ptr 1 0), (16, .p (.i .i64 r1)), (17, .p (.i .i64 r2))], [(0, .arr (.e 4)), (1, .box [.p (.i .i64 r3), .p (.i .i64 r4), .p (.i .i64 r5), .p (.i .i64 r6)])]⟩) (fun r0 r1 r2 r3 r4 r5 r6 r7 => k (.ex 2) ⟨[(0, .p (.l (.t [.i .i64, .i .i64] r0))), (5, .own 0), (7, .ptr 1 0), (16, .p (.i .i64 r1)), (17, .p (.i .i64 r2))], [(0, .arr (.t [.i .i64, .i .i64, .i .i64, .i .i64] r3)), (1, .box [.p (.i .i64 r4), .p (.i .i64 r5), .p (.i .i64 r6), .p (.i .i64 r7)])]⟩) n x.1.1 x.1.2.2.1 x.1.2.2.2.2.1 x.1.2.2.2.2.2.1 x.1.2.2.2.2.2.2.1 x.1.2.2.2.2.2.2.2.1 x.1.2.2.2.2.2.2.2.2.1 x.2.1 x.2.2.1.1 x.2.2.1.2.1 x.2.2.1.2.2.1 x.2.2.1.2.2.2.1
theorem loop_arith_TransformOf_l1 (N : Nat) {R : Type} : ∀ (n : Nat) (s : StS) (k : KS R) (r : R), lent' Parith_TransformOf_l1 (earith_TransformOf_l1 N n) s k = some r → ∃ e s', runL (runF T) [0, 5, 6, 7, 16, 17, 20, 21, 22] c32_l1 s.enc = some (e, s'.enc) ∧ k e s' = some r :=
  loop_ok (F33_ok N) (H := H_arith_TransformOf) (Lp := Larith_TransformOf_0 N) (X := X_arith_TransformOf) (p := 125338) (LOK_of (l := []) (by kernel_rfl) trivial) (fun _ _ => rfl) (fun n x k => by kernel_rfl)
noncomputable def Larith_TransformOf_1 (N : Nat) {R : Type} : Nat → StS → KS R → Option R := updL (Larith_TransformOf_0 N) 125338 (lent' Parith_TransformOf_l1 (earith_TransformOf_l1 N N))
def arith_TransformOf_l0 (N : Nat) {R : Type} (k0 : Option R) (k1 : (List (Int × Int × Int × Int)) → Option R) : Nat → (List (Int × Int)) → Int → Int → (List (Int × Int × Int × Int)) → Option R
  | 0, _, _, _, _ => none
  | n + 1, b0, b1, b2, b3 => (bif decide (b2 < b1) then (arith_TransformOf_l1 N (fun z14 z15 z16 z17 z18 z19 z20 => (arith_TransformOf_l0 N k0 k1 n z14 z15 (w64 (z16 + 1)) [(z17, z18, z19, z20)])) (fun z21 z22 z23 z24 z25 z26 z27 z28 => (bif roomB (z24.length + 1) 32 then (arith_TransformOf_l0 N k0 k1 n z21 z22 (w64 (z23 + 1)) (z24 ++ [(z25, z26, z27, z28)])) else none)) N b0 b2 b1 b2 b0 ((b0.length : Nat) : Int) 0 b3 0 0 0 0) else (k1 b3))
def Parith_TransformOf_l0 : SP := ⟨[(0, .p (.s (.sl [.i .i64, .i .i64]))), (5, .own 0), (16, .p (.s (.i .i64))), (17, .p (.s (.i .i64)))], [(0, .arr [.i .i64, .i .i64, .i .i64, .i .i64])]⟩
def earith_TransformOf_l0 (N : Nat) {R : Type} (n : Nat) (x : Parith_TransformOf_l0.den) (k : KS R) : Option R := arith_TransformOf_l0 N (k (.ex 0) ⟨[(5, .own 0)], [(0, .arr (.e 4))]⟩) (fun r0 => k (.ex 0) ⟨[(5, .own 0)], [(0, .arr (.t [.i .i64, .i .i64, .i .i64, .i .i64] r0))]⟩) n x.1.1 x.1.2.2.1 x.1.2.2.2.1 x.2.1
theorem loop_arith_TransformOf_l0 (N : Nat) {R : Type} : ∀ (n : Nat) (s : StS) (k : KS R) (r : R), lent' Parith_TransformOf_l0 (earith_TransformOf_l0 N n) s k = some r → ∃ e s', runL (runF T) [0, 5, 16, 17] c32_l0 s.enc = some (e, s'.enc) ∧ k e s' = some r :=
  loop_ok (F33_ok N) (H := H_arith_TransformOf) (Lp := Larith_TransformOf_1 N) (X := X_arith_TransformOf) (p := 122) (LOK_of (l := [(125338, [0, 5, 6, 7, 16, 17, 20, 21, 22], c32_l1)]) (by kernel_rfl) ⟨(updL_ok (loop_arith_TransformOf_l1 N N)), trivial⟩) (fun _ _ => rfl) (fun n x k => by kernel_rfl)
noncomputable def Larith_TransformOf_2 (N : Nat) {R : Type} : Nat → StS → KS R → Option R := updL (Larith_TransformOf_1 N) 122 (lent' Parith_TransformOf_l0 (earith_TransformOf_l0 N N))
def arith_TransformOf (N : Nat) {R : Type} (a0 : List (Int × Int)) (k0 : (List (Int × Int × Int × Int)) → Int → Option R) : Option R := (arith_pointsErr N a0 (fun y1 => (bif decide (y1 ≠ 0) then (k0 [] y1) else (arith_TransformOf_l0 N (k0 [] 0) (fun z29 => (k0 z29 0)) N a0 ((a0.length : Nat) : Int) 0 []))))
def P_arith_TransformOf : AP := ⟨[.p (.s (.sl [.i .i64, .i .i64]))], []⟩
def e_arith_TransformOf (N : Nat) {R : Type} (x : P_arith_TransformOf.den) (k : List Nat → List DS → HeapS → Option R) : Option R := arith_TransformOf N x.1.1 (fun r0 r1 => k [] [.p (.l (.t [.i .i64, .i .i64, .i .i64, .i .i64] r0)), .p (.i .i64 r1)] [])
noncomputable def F34 (N : Nat) {R : Type} : CfS R := updC (F33 N) 32 (ent P_arith_TransformOf (e_arith_TransformOf N) (F33 N 32))
theorem F34_ok (N : Nat) {R : Type} : FOK (F34 N : CfS R) (runF T) :=
  FOK_upd (F33_ok N) (Snd_ent (F33_ok N) (H := H_arith_TransformOf) (Lp := Larith_TransformOf_2 N) (X := X_arith_TransformOf) (rp := []) (ver := c32) rfl (LOK_of (l := [(122, [0, 5, 16, 17], c32_l0)]) (by kernel_rfl) ⟨(updL_ok (loop_arith_TransformOf_l0 N N)), trivial⟩) (fun x k => by kernel_rfl) (Snd_of (F33_ok N) 32 fun _ _ _ _ h => h))
def X_arith_each_int__c1_v1 : Nat → List SP := fun _ => []
def H_arith_each_int__c1_v1 : Nat → Option (List Sh) := fun n => none
noncomputable def Larith_each_int__c1_v1_0 (N : Nat) {R : Type} : Nat → StS → KS R → Option R := noL
def arith_each_int__c1_v1 (N : Nat) {R : Type} (a0 : Int) (k0 : Bool → Option R) : Option R := (arith_isSample N a0 (fun y1 => (k0 (!y1))))
def P_arith_each_int__c1_v1 : AP := ⟨[.p (.s (.i .i64)), .ptr 0 0], [(0, .box [.p (.fn 93 [])])]⟩
def e_arith_each_int__c1_v1 (N : Nat) {R : Type} (x : P_arith_each_int__c1_v1.den) (k : List Nat → List DS → HeapS → Option R) : Option R := arith_each_int__c1_v1 N x.1.1 (fun r0 => k [0] [.p (.b r0)] [(0, .box [.p (.fn 93 [])])])
noncomputable def F35 (N : Nat) {R : Type} : CfS R := updC (F34 N) 103 (ent P_arith_each_int__c1_v1 (e_arith_each_int__c1_v1 N) (F34 N 103))
theorem F35_ok (N : Nat) {R : Type} : FOK (F35 N : CfS R) (runF T) :=
  FOK_upd (F34_ok N) (Snd_ent (F34_ok N) (H := H_arith_each_int__c1_v1) (Lp := Larith_each_int__c1_v1_0 N) (X := X_arith_each_int__c1_v1) (rp := []) (ver := c103) rfl (LOK_of (l := []) (by kernel_rfl) trivial) (fun x k => by kernel_rfl) (Snd_of (F34_ok N) 103 fun _ _ _ _ h => h))
def X_slices_IndexFunc_Lint_int_v1 : Nat → List SP := fun _ => []
def H_slices_IndexFunc_Lint_int_v1 : Nat → Option (List Sh) := fun n => none
noncomputable def Lslices_IndexFunc_Lint_int_v1_0 (N : Nat) {R : Type} : Nat → StS → KS R → Option R := noL
def slices_IndexFunc_Lint_int_v1_l0 (N : Nat) {R : Type} (k0 : Int → Option R) (k1 : Option R) : Nat → List Int → Int → Int → Option R
  | 0, _, _, _ => none
  | n + 1, b0, b1, b2 => (bif decide (b2 < b1) then ((at? b0 b2).bind fun x1 => (arith_each_int__c1_v1 N x1 (fun y2 => (bif y2 then (k0 b2) else (slices_IndexFunc_Lint_int_v1_l0 N k0 k1 n b0 b1 (w64 (b2 + 1))))))) else k1)
def Pslices_IndexFunc_Lint_int_v1_l0 : SP := ⟨[(0, .p (.s (.sl [.i .i64]))), (1, .fn 103 [.ptr 0 0]), (7, .p (.s (.i .i64))), (8, .p (.s (.i .i64))), (100001, .fn 103 [.ptr 0 0])], [(0, .box [.p (.fn 93 [])])]⟩
def eslices_IndexFunc_Lint_int_v1_l0 (N : Nat) {R : Type} (n : Nat) (x : Pslices_IndexFunc_Lint_int_v1_l0.den) (k : KS R) : Option R := slices_IndexFunc_Lint_int_v1_l0 N (fun r0 => k .ret ⟨[(4, .p (.i .i64 r0)), (100001, .fn 103 [.ptr 0 0])], [(0, .box [.p (.fn 93 [])])]⟩) (k (.ex 0) ⟨[(100001, .fn 103 [.ptr 0 0])], [(0, .box [.p (.fn 93 [])])]⟩) n x.1.1 x.1.2.2.1 x.1.2.2.2.1
theorem loop_slices_IndexFunc_Lint_int_v1_l0 (N : Nat) {R : Type} : ∀ (n : Nat) (s : StS) (k : KS R) (r : R), lent' Pslices_IndexFunc_Lint_int_v1_l0 (eslices_IndexFunc_Lint_int_v1_l0 N n) s k = some r → ∃ e s', runL (runF T) [0, 1, 7, 8] c113_l0 s.enc = some (e, s'.enc) ∧ k e s' = some r :=
  loop_ok (F35_ok N) (H := H_slices_IndexFunc_Lint_int_v1) (Lp := Lslices_IndexFunc_Lint_int_v1_0 N) (X := X_slices_IndexFunc_Lint_int_v1) (p := 26) (LOK_of (l := []) (by kernel_rfl) trivial) (fun _ _ => rfl) (fun n x k => by kernel_rfl)
noncomputable def Lslices_IndexFunc_Lint_int_v1_1 (N : Nat) {R : Type} : Nat → StS → KS R → Option R := updL (Lslices_IndexFunc_Lint_int_v1_0 N) 26 (lent' Pslices_IndexFunc_Lint_int_v1_l0 (eslices_IndexFunc_Lint_int_v1_l0 N N))
def slices_IndexFunc_Lint_int_v1 (N : Nat) {R : Type} (a0 : List Int) (k0 : Int → Option R) : Option R := (slices_IndexFunc_Lint_int_v1_l0 N (fun z3 => (k0 z3)) (k0 (-1)) N a0 ((a0.length : Nat) : Int) 0)
def P_slices_IndexFunc_Lint_int_v1 : AP := ⟨[.p (.s (.sl [.i .i64])), .fn 103 [.ptr 0 0]], [(0, .box [.p (.fn 93 [])])]⟩
def e_slices_IndexFunc_Lint_int_v1 (N : Nat) {R : Type} (x : P_slices_IndexFunc_Lint_int_v1.den) (k : List Nat → List DS → HeapS → Option R) : Option R := slices_IndexFunc_Lint_int_v1 N x.1.1 (fun r0 => k [0] [.p (.i .i64 r0)] [(0, .box [.p (.fn 93 [])])])
noncomputable def F36 (N : Nat) {R : Type} : CfS R := updC (F35 N) 113 (ent P_slices_IndexFunc_Lint_int_v1 (e_slices_IndexFunc_Lint_int_v1 N) (F35 N 113))
theorem F36_ok (N : Nat) {R : Type} : FOK (F36 N : CfS R) (runF T) :=
  FOK_upd (F35_ok N) (Snd_ent (F35_ok N) (H := H_slices_IndexFunc_Lint_int_v1) (Lp := Lslices_IndexFunc_Lint_int_v1_1 N) (X := X_slices_IndexFunc_Lint_int_v1) (rp := []) (ver := c113) rfl (LOK_of (l := [(26, [0, 1, 7, 8], c113_l0)]) (by kernel_rfl) ⟨(updL_ok (loop_slices_IndexFunc_Lint_int_v1_l0 N N)), trivial⟩) (fun x k => by kernel_rfl) (Snd_of (F35_ok N) 113 fun _ _ _ _ h => h))
def X_slices_ContainsFunc_Lint_int_v1 : Nat → List SP := fun _ => []
def H_slices_ContainsFunc_Lint_int_v1 : Nat → Option (List Sh) := fun n => none
noncomputable def Lslices_ContainsFunc_Lint_int_v1_0 (N : Nat) {R : Type} : Nat → StS → KS R → Option R := noL
def slices_ContainsFunc_Lint_int_v1 (N : Nat) {R : Type} (a0 : List Int) (k0 : Bool → Option R) : Option R := (slices_IndexFunc_Lint_int_v1 N a0 (fun y1 => (k0 (decide (0 ≤ y1)))))
def P_slices_ContainsFunc_Lint_int_v1 : AP := ⟨[.p (.s (.sl [.i .i64])), .fn 103 [.ptr 0 0]], [(0, .box [.p (.fn 93 [])])]⟩
def e_slices_ContainsFunc_Lint_int_v1 (N : Nat) {R : Type} (x : P_slices_ContainsFunc_Lint_int_v1.den) (k : List Nat → List DS → HeapS → Option R) : Option R := slices_ContainsFunc_Lint_int_v1 N x.1.1 (fun r0 => k [0] [.p (.b r0)] [(0, .box [.p (.fn 93 [])])])
noncomputable def F37 (N : Nat) {R : Type} : CfS R := updC (F36 N) 102 (ent P_slices_ContainsFunc_Lint_int_v1 (e_slices_ContainsFunc_Lint_int_v1 N) (F36 N 102))
theorem F37_ok (N : Nat) {R : Type} : FOK (F37 N : CfS R) (runF T) :=
  FOK_upd (F36_ok N) (Snd_ent (F36_ok N) (H := H_slices_ContainsFunc_Lint_int_v1) (Lp := Lslices_ContainsFunc_Lint_int_v1_0 N) (X := X_slices_ContainsFunc_Lint_int_v1) (rp := []) (ver := c102) rfl (LOK_of (l := []) (by kernel_rfl) trivial) (fun x k => by kernel_rfl) (Snd_of (F36_ok N) 102 fun _ _ _ _ h => h))
def X_arith_each_int_v1 : Nat → List SP := fun _ => []
def H_arith_each_int_v1 : Nat → Option (List Sh) := fun n => none
noncomputable def Larith_each_int_v1_0 (N : Nat) {R : Type} : Nat → StS → KS R → Option R := noL
def arith_each_int_v1 (N : Nat) {R : Type} (a0 : List Int) (k0 : Bool → Option R) : Option R := (slices_ContainsFunc_Lint_int_v1 N a0 (fun y1 => (k0 (!y1))))
def P_arith_each_int_v1 : AP := ⟨[.p (.s (.sl [.i .i64])), .p (.fn 93 [])], []⟩
def e_arith_each_int_v1 (N : Nat) {R : Type} (x : P_arith_each_int_v1.den) (k : List Nat → List DS → HeapS → Option R) : Option R := arith_each_int_v1 N x.1.1 (fun r0 => k [] [.p (.b r0)] [])
noncomputable def F38 (N : Nat) {R : Type} : CfS R := updC (F37 N) 84 (ent P_arith_each_int_v1 (e_arith_each_int_v1 N) (F37 N 84))
theorem F38_ok (N : Nat) {R : Type} : FOK (F38 N : CfS R) (runF T) :=
  FOK_upd (F37_ok N) (Snd_ent (F37_ok N) (H := H_arith_each_int_v1) (Lp := Larith_each_int_v1_0 N) (X := X_arith_each_int_v1) (rp := []) (ver := c84) rfl (LOK_of (l := []) (by kernel_rfl) trivial) (fun x k => by kernel_rfl) (Snd_of (F37_ok N) 84 fun _ _ _ _ h => h))
def X_arith_samplesErr : Nat → List SP := fun _ => []
def H_arith_samplesErr : Nat → Option (List Sh) := fun n => if n = 13000 then some [.i .i64] else none
noncomputable def Larith_samplesErr_0 (N : Nat) {R : Type} : Nat → StS → KS R → Option R := noL
def arith_samplesErr (N : Nat) {R : Type} (a0 : List Int) (k0 : Int → Option R) : Option R := (arith_unless N (decide (0 < ((a0.length : Nat) : Int))) 10 (fun y1 => (arith_unless N (decide (((a0.length : Nat) : Int) ≤ 30)) 8 (fun y2 => (arith_each_int_v1 N a0 (fun y3 => (arith_unless N y3 2 (fun y4 => (arith_first N [y1, y2, y4] (fun y5 => (k0 y5)))))))))))
def P_arith_samplesErr : AP := ⟨[.p (.s (.sl [.i .i64]))], []⟩
def e_arith_samplesErr (N : Nat) {R : Type} (x : P_arith_samplesErr.den) (k : List Nat → List DS → HeapS → Option R) : Option R := arith_samplesErr N x.1.1 (fun r0 => k [] [.p (.i .i64 r0)] [])
noncomputable def F39 (N : Nat) {R : Type} : CfS R := updC (F38 N) 76 (ent P_arith_samplesErr (e_arith_samplesErr N) (F38 N 76))
theorem F39_ok (N : Nat) {R : Type} : FOK (F39 N : CfS R) (runF T) :=
  FOK_upd (F38_ok N) (Snd_ent (F38_ok N) (H := H_arith_samplesErr) (Lp := Larith_samplesErr_0 N) (X := X_arith_samplesErr) (rp := []) (ver := c76) rfl (LOK_of (l := []) (by kernel_rfl) trivial) (fun x k => by kernel_rfl) (Snd_of (F38_ok N) 76 fun _ _ _ _ h => h))
def X_arith_ConvolvedBy : Nat → List SP := fun p => if p = 109 then [⟨[(4, .own 0), (5, .p (.s (.i .i64)))], [(0, .arr [.i .i64])]⟩] else []
def H_arith_ConvolvedBy : Nat → Option (List Sh) := fun n => if n = 7000 then some [.i .i64] else if n = 21000 then some [.i .i64] else none
noncomputable def Larith_ConvolvedBy_0 (N : Nat) {R : Type} : Nat → StS → KS R → Option R := noL
def arith_ConvolvedBy_l1 (N : Nat) {R : Type} (k0 : List Int → List Int → Int → Int → List Int → Option R) : Nat → List Int → Int → Int → List Int → Int → Int → List Int → Int → Int → List Int → Option R
  | 0, _, _, _, _, _, _, _, _, _, _ => none
  | n + 1, b0, b1, b2, b3, b4, b5, b6, b7, b8, b9 => (bif decide (b8 < b7) then ((at? b6 b8).bind fun x1 => (bif inR (w64 (b1 + b8)) b9.length then ((b9[(w64 (b1 + b8)).toNat]?).bind fun x2 => (bif inR (w64 (b1 + b8)) b9.length then ((b9[(w64 (b1 + b8)).toNat]?).bind fun x3 => (arith_ConvolvedBy_l1 N k0 n b0 b1 b2 b3 b4 b5 b6 b7 (w64 (b8 + 1)) (List.set b9 ((w64 (b1 + b8)).toNat) (w64 (x2 + (w64 (b2 * x1))))))) else none)) else none)) else (k0 b0 b3 b4 b5 b9))
def Parith_ConvolvedBy_l1 : SP := ⟨[(1, .p (.s (.sl [.i .i64]))), (7, .own 0), (8, .p (.s (.i .i64))), (9, .p (.s (.i .i64))), (28, .p (.s (.sl [.i .i64]))), (29, .p (.s (.i .i64))), (30, .p (.s (.i .i64))), (35, .p (.s (.sl [.i .i64]))), (36, .p (.s (.i .i64))), (37, .p (.s (.i .i64)))], [(0, .arr [.i .i64])]⟩
def earith_ConvolvedBy_l1 (N : Nat) {R : Type} (n : Nat) (x : Parith_ConvolvedBy_l1.den) (k : KS R) : Option R := arith_ConvolvedBy_l1 N (fun r0 r1 r2 r3 r4 => k (.ex 2) ⟨[(1, .p (.l (.t [.i .i64] r0))), (7, .own 0), (28, .p (.l (.t [.i .i64] r1))), (29, .p (.i .i64 r2)), (30, .p (.i .i64 r3))], [(0, .arr (.t [.i .i64] r4))]⟩) n x.1.1 x.1.2.2.1 x.1.2.2.2.1 x.1.2.2.2.2.1 x.1.2.2.2.2.2.1 x.1.2.2.2.2.2.2.1 x.1.2.2.2.2.2.2.2.1 x.1.2.2.2.2.2.2.2.2.1 x.1.2.2.2.2.2.2.2.2.2.1 x.2.1
theorem loop_arith_ConvolvedBy_l1 (N : Nat) {R : Type} : ∀ (n : Nat) (s : StS) (k : KS R) (r : R), lent' Parith_ConvolvedBy_l1 (earith_ConvolvedBy_l1 N n) s k = some r → ∃ e s', runL (runF T) [1, 7, 8, 9, 28, 29, 30, 35, 36, 37] c41_l1 s.enc = some (e, s'.enc) ∧ k e s' = some r :=
  loop_ok (F39_ok N) (H := H_arith_ConvolvedBy) (Lp := Larith_ConvolvedBy_0 N) (X := X_arith_ConvolvedBy) (p := 31334) (LOK_of (l := []) (by kernel_rfl) trivial) (fun _ _ => rfl) (fun n x k => by kernel_rfl)
noncomputable def Larith_ConvolvedBy_1 (N : Nat) {R : Type} : Nat → StS → KS R → Option R := updL (Larith_ConvolvedBy_0 N) 31334 (lent' Parith_ConvolvedBy_l1 (earith_ConvolvedBy_l1 N N))
def arith_ConvolvedBy_l0 (N : Nat) {R : Type} (k0 : List Int → Option R) : Nat → List Int → List Int → Int → Int → List Int → Option R
  | 0, _, _, _, _, _ => none
  | n + 1, b0, b1, b2, b3, b4 => (bif decide (b3 < b2) then ((at? b1 b3).bind fun x1 => (arith_ConvolvedBy_l1 N (fun z4 z5 z6 z7 z8 => (arith_ConvolvedBy_l0 N k0 n z4 z5 z6 (w64 (z7 + 1)) z8)) N b0 b3 x1 b1 b2 b3 b0 ((b0.length : Nat) : Int) 0 b4)) else (k0 b4))
def Parith_ConvolvedBy_l0 : SP := ⟨[(1, .p (.s (.sl [.i .i64]))), (7, .own 0), (28, .p (.s (.sl [.i .i64]))), (29, .p (.s (.i .i64))), (30, .p (.s (.i .i64)))], [(0, .arr [.i .i64])]⟩
def earith_ConvolvedBy_l0 (N : Nat) {R : Type} (n : Nat) (x : Parith_ConvolvedBy_l0.den) (k : KS R) : Option R := arith_ConvolvedBy_l0 N (fun r0 => k (.ex 0) ⟨[(7, .own 0)], [(0, .arr (.t [.i .i64] r0))]⟩) n x.1.1 x.1.2.2.1 x.1.2.2.2.1 x.1.2.2.2.2.1 x.2.1
theorem loop_arith_ConvolvedBy_l0 (N : Nat) {R : Type} : ∀ (n : Nat) (s : StS) (k : KS R) (r : R), lent' Parith_ConvolvedBy_l0 (earith_ConvolvedBy_l0 N n) s k = some r → ∃ e s', runL (runF T) [1, 7, 28, 29, 30] c41_l0 s.enc = some (e, s'.enc) ∧ k e s' = some r :=
  loop_ok (F39_ok N) (H := H_arith_ConvolvedBy) (Lp := Larith_ConvolvedBy_1 N) (X := X_arith_ConvolvedBy) (p := 122) (LOK_of (l := [(31334, [1, 7, 8, 9, 28, 29, 30, 35, 36, 37], c41_l1)]) (by kernel_rfl) ⟨(updL_ok (loop_arith_ConvolvedBy_l1 N N)), trivial⟩) (fun _ _ => rfl) (fun n x k => by kernel_rfl)
noncomputable def Larith_ConvolvedBy_2 (N : Nat) {R : Type} : Nat → StS → KS R → Option R := updL (Larith_ConvolvedBy_1 N) 122 (lent' Parith_ConvolvedBy_l0 (earith_ConvolvedBy_l0 N N))
def arith_ConvolvedBy (N : Nat) {R : Type} (a0 : List Int) (a1 : List Int) (k0 : List Int → Int → Option R) : Option R := (arith_samplesErr N a0 (fun y1 => (arith_samplesErr N a1 (fun y2 => (arith_first N [y1, y2] (fun y3 => (bif decide (y3 ≠ 0) then (k0 [] y3) else (bif decide (0 ≤ (w64 ((w64 (((a0.length : Nat) : Int) + ((a1.length : Nat) : Int))) - 1)) ∧ (w64 ((w64 (((a0.length : Nat) : Int) + ((a1.length : Nat) : Int))) - 1)) ≤ (w64 ((w64 (((a0.length : Nat) : Int) + ((a1.length : Nat) : Int))) - 1))) then (bif roomB ((w64 ((w64 (((a0.length : Nat) : Int) + ((a1.length : Nat) : Int))) - 1)).toNat) 8 then (arith_ConvolvedBy_l0 N (fun z9 => (k0 z9 0)) N a1 a0 ((a0.length : Nat) : Int) 0 (List.replicate ((w64 ((w64 (((a0.length : Nat) : Int) + ((a1.length : Nat) : Int))) - 1)).toNat) 0)) else none) else none))))))))
def P_arith_ConvolvedBy : AP := ⟨[.p (.s (.sl [.i .i64])), .p (.s (.sl [.i .i64]))], []⟩
def e_arith_ConvolvedBy (N : Nat) {R : Type} (x : P_arith_ConvolvedBy.den) (k : List Nat → List DS → HeapS → Option R) : Option R := arith_ConvolvedBy N x.1.1 x.1.2.1 (fun r0 r1 => k [] [.p (.l (.t [.i .i64] r0)), .p (.i .i64 r1)] [])
noncomputable def F40 (N : Nat) {R : Type} : CfS R := updC (F39 N) 41 (ent P_arith_ConvolvedBy (e_arith_ConvolvedBy N) (F39 N 41))
theorem F40_ok (N : Nat) {R : Type} : FOK (F40 N : CfS R) (runF T) :=
  FOK_upd (F39_ok N) (Snd_ent (F39_ok N) (H := H_arith_ConvolvedBy) (Lp := Larith_ConvolvedBy_2 N) (X := X_arith_ConvolvedBy) (rp := []) (ver := c41) rfl (LOK_of (l := [(122, [1, 7, 28, 29, 30], c41_l0)]) (by kernel_rfl) ⟨(updL_ok (loop_arith_ConvolvedBy_l0 N N)), trivial⟩) (fun x k => by kernel_rfl) (Snd_of (F39_ok N) 41 fun _ _ _ _ h => h))
def X_arith_power : Nat → List SP := fun _ => []
def H_arith_power : Nat → Option (List Sh) := fun n => none
noncomputable def Larith_power_0 (N : Nat) {R : Type} : Nat → StS → KS R → Option R := noL
def arith_power_l0 (N : Nat) {R : Type} (k0 : Int → Option R) : Nat → Int → Int → Int → Int → Option R
  | 0, _, _, _, _ => none
  | n + 1, b0, b1, b2, b3 => (bif decide (b3 < b2) then (arith_power_l0 N k0 n b0 (w64 (b1 * b0)) b2 (w64 (b3 + 1))) else (k0 b1))
def Parith_power_l0 : SP := ⟨[(0, .p (.s (.i .i64))), (5, .p (.s (.i .i64))), (6, .p (.s (.i .i64))), (7, .p (.s (.i .i64)))], []⟩
def earith_power_l0 (N : Nat) {R : Type} (n : Nat) (x : Parith_power_l0.den) (k : KS R) : Option R := arith_power_l0 N (fun r0 => k (.ex 0) ⟨[(5, .p (.i .i64 r0))], []⟩) n x.1.1 x.1.2.1 x.1.2.2.1 x.1.2.2.2.1
theorem loop_arith_power_l0 (N : Nat) {R : Type} : ∀ (n : Nat) (s : StS) (k : KS R) (r : R), lent' Parith_power_l0 (earith_power_l0 N n) s k = some r → ∃ e s', runL (runF T) [0, 5, 6, 7] c77_l0 s.enc = some (e, s'.enc) ∧ k e s' = some r :=
  loop_ok (F40_ok N) (H := H_arith_power) (Lp := Larith_power_0 N) (X := X_arith_power) (p := 58) (LOK_of (l := []) (by kernel_rfl) trivial) (fun _ _ => rfl) (fun n x k => by kernel_rfl)
noncomputable def Larith_power_1 (N : Nat) {R : Type} : Nat → StS → KS R → Option R := updL (Larith_power_0 N) 58 (lent' Parith_power_l0 (earith_power_l0 N N))
def arith_power (N : Nat) {R : Type} (a0 : Int) (a1 : Int) (k0 : Int → Option R) : Option R := (arith_power_l0 N (fun z1 => (k0 z1)) N a0 1 a1 0)
def P_arith_power : AP := ⟨[.p (.s (.i .i64)), .p (.s (.i .i64))], []⟩
def e_arith_power (N : Nat) {R : Type} (x : P_arith_power.den) (k : List Nat → List DS → HeapS → Option R) : Option R := arith_power N x.1.1 x.1.2.1 (fun r0 => k [] [.p (.i .i64 r0)] [])
noncomputable def F41 (N : Nat) {R : Type} : CfS R := updC (F40 N) 77 (ent P_arith_power (e_arith_power N) (F40 N 77))
theorem F41_ok (N : Nat) {R : Type} : FOK (F41 N : CfS R) (runF T) :=
  FOK_upd (F40_ok N) (Snd_ent (F40_ok N) (H := H_arith_power) (Lp := Larith_power_1 N) (X := X_arith_power) (rp := []) (ver := c77) rfl (LOK_of (l := [(58, [0, 5, 6, 7], c77_l0)]) (by kernel_rfl) ⟨(updL_ok (loop_arith_power_l0 N N)), trivial⟩) (fun x k => by kernel_rfl) (Snd_of (F40_ok N) 77 fun _ _ _ _ h => h))
def X_arith_FormatFixed : Nat → List SP := fun _ => []
def H_arith_FormatFixed : Nat → Option (List Sh) := fun n => if n = 6000 then some [.i .i64] else none
noncomputable def Larith_FormatFixed_0 (N : Nat) {R : Type} : Nat → StS → KS R → Option R := noL
def arith_FormatFixed_j0 (N : Nat) {R : Type} (k0 : ByteArray → Int → Option R) (b0 : Int) (b1 : ByteArray) (b2 : Int) (b3 : Int) (b4 : Int) (b5 : Int) : Option R := (bif decide (-9223372036854775808 ≤ b0 ∧ b0 ≤ 9223372036854775807) then (bif repOk (ByteArray.mk #[48]) (max 0 (w64 ((w64 (b3 + 1)) - (((itoaB b0).size : Nat) : Int)))) then (bif decide (((((repB (ByteArray.mk #[48]) ((max 0 (w64 ((w64 (b3 + 1)) - (((itoaB b0).size : Nat) : Int)))).toNat)).size + (itoaB b0).size : Nat)) : Int) > 9223372036854775807) then none else (bif decide (0 < b3) then (bif slP 0 (w64 (((((repB (ByteArray.mk #[48]) ((max 0 (w64 ((w64 (b3 + 1)) - (((itoaB b0).size : Nat) : Int)))).toNat)) ++ (itoaB b0)).size : Nat) : Int) - b3)) ((repB (ByteArray.mk #[48]) ((max 0 (w64 ((w64 (b3 + 1)) - (((itoaB b0).size : Nat) : Int)))).toNat)) ++ (itoaB b0)).size then (bif decide (((((ByteArray.extract ((repB (ByteArray.mk #[48]) ((max 0 (w64 ((w64 (b3 + 1)) - (((itoaB b0).size : Nat) : Int)))).toNat)) ++ (itoaB b0)) 0 ((w64 (((((repB (ByteArray.mk #[48]) ((max 0 (w64 ((w64 (b3 + 1)) - (((itoaB b0).size : Nat) : Int)))).toNat)) ++ (itoaB b0)).size : Nat) : Int) - b3)).toNat)).size + (ByteArray.mk #[46]).size : Nat)) : Int) > 9223372036854775807) then none else (bif slP (w64 (((((repB (ByteArray.mk #[48]) ((max 0 (w64 ((w64 (b3 + 1)) - (((itoaB b0).size : Nat) : Int)))).toNat)) ++ (itoaB b0)).size : Nat) : Int) - b3)) ((((repB (ByteArray.mk #[48]) ((max 0 (w64 ((w64 (b3 + 1)) - (((itoaB b0).size : Nat) : Int)))).toNat)) ++ (itoaB b0)).size : Nat) : Int) ((repB (ByteArray.mk #[48]) ((max 0 (w64 ((w64 (b3 + 1)) - (((itoaB b0).size : Nat) : Int)))).toNat)) ++ (itoaB b0)).size then (bif decide ((((((ByteArray.extract ((repB (ByteArray.mk #[48]) ((max 0 (w64 ((w64 (b3 + 1)) - (((itoaB b0).size : Nat) : Int)))).toNat)) ++ (itoaB b0)) 0 ((w64 (((((repB (ByteArray.mk #[48]) ((max 0 (w64 ((w64 (b3 + 1)) - (((itoaB b0).size : Nat) : Int)))).toNat)) ++ (itoaB b0)).size : Nat) : Int) - b3)).toNat)) ++ (ByteArray.mk #[46])).size + (ByteArray.extract ((repB (ByteArray.mk #[48]) ((max 0 (w64 ((w64 (b3 + 1)) - (((itoaB b0).size : Nat) : Int)))).toNat)) ++ (itoaB b0)) ((w64 (((((repB (ByteArray.mk #[48]) ((max 0 (w64 ((w64 (b3 + 1)) - (((itoaB b0).size : Nat) : Int)))).toNat)) ++ (itoaB b0)).size : Nat) : Int) - b3)).toNat) (((repB (ByteArray.mk #[48]) ((max 0 (w64 ((w64 (b3 + 1)) - (((itoaB b0).size : Nat) : Int)))).toNat)) ++ (itoaB b0)).size)).size : Nat)) : Int) > 9223372036854775807) then none else (bif decide ((((b1.size + (((ByteArray.extract ((repB (ByteArray.mk #[48]) ((max 0 (w64 ((w64 (b3 + 1)) - (((itoaB b0).size : Nat) : Int)))).toNat)) ++ (itoaB b0)) 0 ((w64 (((((repB (ByteArray.mk #[48]) ((max 0 (w64 ((w64 (b3 + 1)) - (((itoaB b0).size : Nat) : Int)))).toNat)) ++ (itoaB b0)).size : Nat) : Int) - b3)).toNat)) ++ (ByteArray.mk #[46])) ++ (ByteArray.extract ((repB (ByteArray.mk #[48]) ((max 0 (w64 ((w64 (b3 + 1)) - (((itoaB b0).size : Nat) : Int)))).toNat)) ++ (itoaB b0)) ((w64 (((((repB (ByteArray.mk #[48]) ((max 0 (w64 ((w64 (b3 + 1)) - (((itoaB b0).size : Nat) : Int)))).toNat)) ++ (itoaB b0)).size : Nat) : Int) - b3)).toNat) (((repB (ByteArray.mk #[48]) ((max 0 (w64 ((w64 (b3 + 1)) - (((itoaB b0).size : Nat) : Int)))).toNat)) ++ (itoaB b0)).size))).size : Nat)) : Int) > 9223372036854775807) then none else (k0 (b1 ++ (((ByteArray.extract ((repB (ByteArray.mk #[48]) ((max 0 (w64 ((w64 (b3 + 1)) - (((itoaB b0).size : Nat) : Int)))).toNat)) ++ (itoaB b0)) 0 ((w64 (((((repB (ByteArray.mk #[48]) ((max 0 (w64 ((w64 (b3 + 1)) - (((itoaB b0).size : Nat) : Int)))).toNat)) ++ (itoaB b0)).size : Nat) : Int) - b3)).toNat)) ++ (ByteArray.mk #[46])) ++ (ByteArray.extract ((repB (ByteArray.mk #[48]) ((max 0 (w64 ((w64 (b3 + 1)) - (((itoaB b0).size : Nat) : Int)))).toNat)) ++ (itoaB b0)) ((w64 (((((repB (ByteArray.mk #[48]) ((max 0 (w64 ((w64 (b3 + 1)) - (((itoaB b0).size : Nat) : Int)))).toNat)) ++ (itoaB b0)).size : Nat) : Int) - b3)).toNat) (((repB (ByteArray.mk #[48]) ((max 0 (w64 ((w64 (b3 + 1)) - (((itoaB b0).size : Nat) : Int)))).toNat)) ++ (itoaB b0)).size)))) 0))) else none)) else none) else (bif decide ((((b1.size + ((repB (ByteArray.mk #[48]) ((max 0 (w64 ((w64 (b3 + 1)) - (((itoaB b0).size : Nat) : Int)))).toNat)) ++ (itoaB b0)).size : Nat)) : Int) > 9223372036854775807) then none else (k0 (b1 ++ ((repB (ByteArray.mk #[48]) ((max 0 (w64 ((w64 (b3 + 1)) - (((itoaB b0).size : Nat) : Int)))).toNat)) ++ (itoaB b0))) 0)))) else none) else none)
def Parith_FormatFixed_j0 : SP := ⟨[(6, .ptr 0 0), (8, .p (.s (.i .i64))), (9, .p (.s .s))], [(0, .box [.p (.s (.i .i64)), .p (.s (.i .i64)), .p (.s (.i .i64)), .p (.s (.i .i64))])]⟩
def earith_FormatFixed_j0 (N : Nat) {R : Type} (n : Nat) (x : Parith_FormatFixed_j0.den) (k : KS R) : Option R := match n with
  | 0 => none
  | _ + 1 => arith_FormatFixed_j0 N (fun r0 r1 => k .ret ⟨[(4, .p (.s r0)), (5, .p (.i .i64 r1))], []⟩) x.1.2.1 x.1.2.2.1 x.2.1.1 x.2.1.2.1 x.2.1.2.2.1 x.2.1.2.2.2.1
theorem loop_arith_FormatFixed_j0 (N : Nat) {R : Type} : ∀ (n : Nat) (s : StS) (k : KS R) (r : R), lent' Parith_FormatFixed_j0 (earith_FormatFixed_j0 N n) s k = some r → ∃ e s', runL (runF T) [6, 8, 9] c42_j0 s.enc = some (e, s'.enc) ∧ k e s' = some r :=
  loop_ok (F41_ok N) (H := H_arith_FormatFixed) (Lp := Larith_FormatFixed_0 N) (X := X_arith_FormatFixed) (p := 254) (LOK_of (l := []) (by kernel_rfl) trivial) (fun _ _ => rfl) (fun n x k => by kernel_rfl)
noncomputable def Larith_FormatFixed_1 (N : Nat) {R : Type} : Nat → StS → KS R → Option R := updL (Larith_FormatFixed_0 N) 254 (lent' Parith_FormatFixed_j0 (earith_FormatFixed_j0 N 1))
def arith_FormatFixed (N : Nat) {R : Type} (a0 : Int) (a1 : Int) (a2 : Int) (a3 : Int) (a4 : Int) (k0 : ByteArray → Int → Option R) : Option R := (arith_opened N a1 a2 a3 a4 [a0] (fun y1 y2 y3 y4 y5 => (bif decide (y5 ≠ 0) then (k0 (ByteArray.mk #[]) y5) else (arith_form_signed N y1 y2 y3 y4 a0 (fun y6 => (arith_power N 5 y2 (fun y7 => (bif decide ((w64 (y6 * y7)) < 0) then (arith_FormatFixed_j0 N (fun z8 z9 => (k0 z8 z9)) (w64 (0 - (w64 (y6 * y7)))) (ByteArray.mk #[45]) y1 y2 y3 y4) else (arith_FormatFixed_j0 N (fun z10 z11 => (k0 z10 z11)) (w64 (y6 * y7)) (ByteArray.mk #[]) y1 y2 y3 y4)))))))))
def P_arith_FormatFixed : AP := ⟨[.p (.s (.i .i64)), .agg [.p (.s (.i .i64)), .p (.s (.i .i64)), .p (.s (.i .i64)), .p (.s (.i .i64))]], []⟩
def e_arith_FormatFixed (N : Nat) {R : Type} (x : P_arith_FormatFixed.den) (k : List Nat → List DS → HeapS → Option R) : Option R := arith_FormatFixed N x.1.1 x.1.2.1.1 x.1.2.1.2.1 x.1.2.1.2.2.1 x.1.2.1.2.2.2.1 (fun r0 r1 => k [] [.p (.s r0), .p (.i .i64 r1)] [])
noncomputable def F42 (N : Nat) {R : Type} : CfS R := updC (F41 N) 42 (ent P_arith_FormatFixed (e_arith_FormatFixed N) (F41 N 42))
theorem F42_ok (N : Nat) {R : Type} : FOK (F42 N : CfS R) (runF T) :=
  FOK_upd (F41_ok N) (Snd_ent (F41_ok N) (H := H_arith_FormatFixed) (Lp := Larith_FormatFixed_1 N) (X := X_arith_FormatFixed) (rp := []) (ver := c42) rfl (LOK_of (l := [(254, [6, 8, 9], c42_j0)]) (by kernel_rfl) ⟨(updL_ok (loop_arith_FormatFixed_j0 N 1)), trivial⟩) (fun x k => by kernel_rfl) (Snd_of (F41_ok N) 42 fun _ _ _ _ h => h))
def X_ratchetbase_Ints : Nat → List SP := fun _ => []
def H_ratchetbase_Ints : Nat → Option (List Sh) := fun n => none
noncomputable def Lratchetbase_Ints_0 (N : Nat) {R : Type} : Nat → StS → KS R → Option R := noL
def ratchetbase_Ints_l0 (N : Nat) {R : Type} (k0 : Bool → Option R) (k1 : Option R) : Nat → List Int → List Int → Int → Option R
  | 0, _, _, _ => none
  | n + 1, b0, b1, b2 => (bif decide (b2 < ((b0.length : Nat) : Int)) then ((at? b0 b2).bind fun x1 => ((at? b1 b2).bind fun x2 => (bif decide (x1 ≠ x2) then (k0 false) else (ratchetbase_Ints_l0 N k0 k1 n b0 b1 (w64 (b2 + 1)))))) else k1)
def Pratchetbase_Ints_l0 : SP := ⟨[(0, .p (.s (.sl [.i .i64]))), (1, .p (.s (.sl [.i .i64]))), (5, .p (.s (.i .i64)))], []⟩
def eratchetbase_Ints_l0 (N : Nat) {R : Type} (n : Nat) (x : Pratchetbase_Ints_l0.den) (k : KS R) : Option R := ratchetbase_Ints_l0 N (fun r0 => k .ret ⟨[(4, .p (.b r0))], []⟩) (k (.ex 0) ⟨[], []⟩) n x.1.1 x.1.2.1 x.1.2.2.1
theorem loop_ratchetbase_Ints_l0 (N : Nat) {R : Type} : ∀ (n : Nat) (s : StS) (k : KS R) (r : R), lent' Pratchetbase_Ints_l0 (eratchetbase_Ints_l0 N n) s k = some r → ∃ e s', runL (runF T) [0, 1, 5] c43_l0 s.enc = some (e, s'.enc) ∧ k e s' = some r :=
  loop_ok (F42_ok N) (H := H_ratchetbase_Ints) (Lp := Lratchetbase_Ints_0 N) (X := X_ratchetbase_Ints) (p := 58) (LOK_of (l := []) (by kernel_rfl) trivial) (fun _ _ => rfl) (fun n x k => by kernel_rfl)
noncomputable def Lratchetbase_Ints_1 (N : Nat) {R : Type} : Nat → StS → KS R → Option R := updL (Lratchetbase_Ints_0 N) 58 (lent' Pratchetbase_Ints_l0 (eratchetbase_Ints_l0 N N))
def ratchetbase_Ints (N : Nat) {R : Type} (a0 : List Int) (a1 : List Int) (k0 : Bool → Option R) : Option R := (bif decide (((a0.length : Nat) : Int) ≠ ((a1.length : Nat) : Int)) then (k0 false) else (ratchetbase_Ints_l0 N (fun z3 => (k0 z3)) (k0 true) N a0 a1 0))
def P_ratchetbase_Ints : AP := ⟨[.p (.s (.sl [.i .i64])), .p (.s (.sl [.i .i64]))], []⟩
def e_ratchetbase_Ints (N : Nat) {R : Type} (x : P_ratchetbase_Ints.den) (k : List Nat → List DS → HeapS → Option R) : Option R := ratchetbase_Ints N x.1.1 x.1.2.1 (fun r0 => k [] [.p (.b r0)] [])
noncomputable def F43 (N : Nat) {R : Type} : CfS R := updC (F42 N) 43 (ent P_ratchetbase_Ints (e_ratchetbase_Ints N) (F42 N 43))
theorem F43_ok (N : Nat) {R : Type} : FOK (F43 N : CfS R) (runF T) :=
  FOK_upd (F42_ok N) (Snd_ent (F42_ok N) (H := H_ratchetbase_Ints) (Lp := Lratchetbase_Ints_1 N) (X := X_ratchetbase_Ints) (rp := []) (ver := c43) rfl (LOK_of (l := [(58, [0, 1, 5], c43_l0)]) (by kernel_rfl) ⟨(updL_ok (loop_ratchetbase_Ints_l0 N N)), trivial⟩) (fun x k => by kernel_rfl) (Snd_of (F42_ok N) 43 fun _ _ _ _ h => h))
def X_ratchetlaw30_awake : Nat → List SP := fun _ => []
def H_ratchetlaw30_awake : Nat → Option (List Sh) := fun n => if n = 21000 then some [.i .i64, .i .i64] else if n = 28000 then some [.i .i64] else if n = 29000 then some [.i .i64] else if n = 86000 then some [.i .i64] else none
noncomputable def Lratchetlaw30_awake_0 (N : Nat) {R : Type} : Nat → StS → KS R → Option R := noL
def ratchetlaw30_awake (N : Nat) {R : Type} (k0 : Bool → Option R) : Option R := (ratchetlaw30_Form N (fun y1 y2 y3 y4 => (arith_FixedOf N 5 3 y1 y2 y3 y4 (fun y5 y6 => (ratchetlaw30_Form N (fun y7 y8 y9 y10 => (arith_MulFixed N 27 24 y7 y8 y9 y10 (fun y11 y12 => (arith_TransformOf N [(1, 0), (2, 0), (3, 0), (4, 0)] (fun y13 y14 => (arith_ConvolvedBy N [1, 2] [3, 4] (fun y15 y16 => (ratchetlaw30_Form N (fun y17 y18 y19 y20 => (arith_FormatFixed N 229 y17 y18 y19 y20 (fun y21 y22 => (bif decide (y6 = 0) then (bif decide (y5 = 27) then (bif decide (y12 = 0) then (bif decide (y11 = 40) then (bif decide (y14 = 0) then (bif decide (((y13.length : Nat) : Int) = 4) then ((at? y13 0).bind fun x23 => (bif (false != (decide (x23.1 = 10) && (decide (x23.2.1 = 0) && (decide (x23.2.2.1 = 0) && (decide (x23.2.2.2 = 0) && true))))) then ((at? y13 1).bind fun x24 => (bif (false != (decide (x24.1 = (-2)) && (decide (x24.2.1 = 0) && (decide (x24.2.2.1 = 2) && (decide (x24.2.2.2 = 0) && true))))) then (bif decide (y16 = 0) then (ratchetbase_Ints N y15 [3, 10, 8] (fun y25 => (bif y25 then (bif decide (y22 = 0) then (k0 (decide (y21 = (ByteArray.mk #[45, 49, 46, 54, 56, 55, 53])))) else (k0 false)) else (k0 false)))) else (k0 false)) else (k0 false))) else (k0 false))) else (k0 false)) else (k0 false)) else (k0 false)) else (k0 false)) else (k0 false)) else (k0 false))))))))))))))))))
def P_ratchetlaw30_awake : AP := ⟨[], []⟩
def e_ratchetlaw30_awake (N : Nat) {R : Type} (x : P_ratchetlaw30_awake.den) (k : List Nat → List DS → HeapS → Option R) : Option R := ratchetlaw30_awake N (fun r0 => k [] [.p (.b r0)] [])
noncomputable def F44 (N : Nat) {R : Type} : CfS R := updC (F43 N) 8 (ent P_ratchetlaw30_awake (e_ratchetlaw30_awake N) (F43 N 8))
theorem F44_ok (N : Nat) {R : Type} : FOK (F44 N : CfS R) (runF T) :=
  FOK_upd (F43_ok N) (Snd_ent (F43_ok N) (H := H_ratchetlaw30_awake) (Lp := Lratchetlaw30_awake_0 N) (X := X_ratchetlaw30_awake) (rp := []) (ver := c8) rfl (LOK_of (l := []) (by kernel_rfl) trivial) (fun x k => by kernel_rfl) (Snd_of (F43_ok N) 8 fun _ _ _ _ h => h))
def X_ratchetref30_CountErr : Nat → List SP := fun _ => []
def H_ratchetref30_CountErr : Nat → Option (List Sh) := fun n => none
noncomputable def Lratchetref30_CountErr_0 (N : Nat) {R : Type} : Nat → StS → KS R → Option R := noL
def ratchetref30_CountErr (N : Nat) {R : Type} (a0 : Int) (k0 : Int → Option R) : Option R := (bif decide (a0 ≠ 1) then (bif decide (a0 ≠ 2) then (bif decide (a0 ≠ 4) then (bif decide (a0 ≠ 8) then (k0 10) else (k0 0)) else (k0 0)) else (k0 0)) else (k0 0))
def P_ratchetref30_CountErr : AP := ⟨[.p (.s (.i .i64))], []⟩
def e_ratchetref30_CountErr (N : Nat) {R : Type} (x : P_ratchetref30_CountErr.den) (k : List Nat → List DS → HeapS → Option R) : Option R := ratchetref30_CountErr N x.1.1 (fun r0 => k [] [.p (.i .i64 r0)] [])
noncomputable def F45 (N : Nat) {R : Type} : CfS R := updC (F44 N) 65 (ent P_ratchetref30_CountErr (e_ratchetref30_CountErr N) (F44 N 65))
theorem F45_ok (N : Nat) {R : Type} : FOK (F45 N : CfS R) (runF T) :=
  FOK_upd (F44_ok N) (Snd_ent (F44_ok N) (H := H_ratchetref30_CountErr) (Lp := Lratchetref30_CountErr_0 N) (X := X_ratchetref30_CountErr) (rp := []) (ver := c65) rfl (LOK_of (l := []) (by kernel_rfl) trivial) (fun x k => by kernel_rfl) (Snd_of (F44_ok N) 65 fun _ _ _ _ h => h))
def X_ratchetbase_Within : Nat → List SP := fun _ => []
def H_ratchetbase_Within : Nat → Option (List Sh) := fun n => none
noncomputable def Lratchetbase_Within_0 (N : Nat) {R : Type} : Nat → StS → KS R → Option R := noL
def ratchetbase_Within (N : Nat) {R : Type} (a0 : Int) (a1 : Int) (a2 : Int) (k0 : Bool → Option R) : Option R := (bif decide (a1 ≤ a0) then (k0 (decide (a0 ≤ a2))) else (k0 false))
def P_ratchetbase_Within : AP := ⟨[.p (.s (.i .i64)), .p (.s (.i .i64)), .p (.s (.i .i64))], []⟩
def e_ratchetbase_Within (N : Nat) {R : Type} (x : P_ratchetbase_Within.den) (k : List Nat → List DS → HeapS → Option R) : Option R := ratchetbase_Within N x.1.1 x.1.2.1 x.1.2.2.1 (fun r0 => k [] [.p (.b r0)] [])
noncomputable def F46 (N : Nat) {R : Type} : CfS R := updC (F45 N) 48 (ent P_ratchetbase_Within (e_ratchetbase_Within N) (F45 N 48))
theorem F46_ok (N : Nat) {R : Type} : FOK (F46 N : CfS R) (runF T) :=
  FOK_upd (F45_ok N) (Snd_ent (F45_ok N) (H := H_ratchetbase_Within) (Lp := Lratchetbase_Within_0 N) (X := X_ratchetbase_Within) (rp := []) (ver := c48) rfl (LOK_of (l := []) (by kernel_rfl) trivial) (fun x k => by kernel_rfl) (Snd_of (F45_ok N) 48 fun _ _ _ _ h => h))
def X_ratchetref30_PointsErr : Nat → List SP := fun _ => []
def H_ratchetref30_PointsErr : Nat → Option (List Sh) := fun n => none
noncomputable def Lratchetref30_PointsErr_0 (N : Nat) {R : Type} : Nat → StS → KS R → Option R := noL
def ratchetref30_PointsErr_l0 (N : Nat) {R : Type} (k0 : Int → Option R) (k1 : Option R) : Nat → (List (Int × Int)) → Int → Option R
  | 0, _, _ => none
  | n + 1, b0, b1 => (bif decide (b1 < ((b0.length : Nat) : Int)) then ((at? b0 b1).bind fun x1 => (ratchetbase_Within N x1.1 (-1000) 1000 (fun y2 => (bif (!y2) then (k0 2) else ((at? b0 b1).bind fun x3 => (ratchetbase_Within N x3.2 (-1000) 1000 (fun y4 => (bif (!y4) then (k0 2) else (ratchetref30_PointsErr_l0 N k0 k1 n b0 (w64 (b1 + 1))))))))))) else k1)
def Pratchetref30_PointsErr_l0 : SP := ⟨[(0, .p (.s (.sl [.i .i64, .i .i64]))), (4, .p (.s (.i .i64)))], []⟩
def eratchetref30_PointsErr_l0 (N : Nat) {R : Type} (n : Nat) (x : Pratchetref30_PointsErr_l0.den) (k : KS R) : Option R := ratchetref30_PointsErr_l0 N (fun r0 => k .ret ⟨[(2, .p (.i .i64 r0))], []⟩) (k (.ex 0) ⟨[], []⟩) n x.1.1 x.1.2.1
theorem loop_ratchetref30_PointsErr_l0 (N : Nat) {R : Type} : ∀ (n : Nat) (s : StS) (k : KS R) (r : R), lent' Pratchetref30_PointsErr_l0 (eratchetref30_PointsErr_l0 N n) s k = some r → ∃ e s', runL (runF T) [0, 4] c35_l0 s.enc = some (e, s'.enc) ∧ k e s' = some r :=
  loop_ok (F46_ok N) (H := H_ratchetref30_PointsErr) (Lp := Lratchetref30_PointsErr_0 N) (X := X_ratchetref30_PointsErr) (p := 58) (LOK_of (l := []) (by kernel_rfl) trivial) (fun _ _ => rfl) (fun n x k => by kernel_rfl)
noncomputable def Lratchetref30_PointsErr_1 (N : Nat) {R : Type} : Nat → StS → KS R → Option R := updL (Lratchetref30_PointsErr_0 N) 58 (lent' Pratchetref30_PointsErr_l0 (eratchetref30_PointsErr_l0 N N))
def ratchetref30_PointsErr (N : Nat) {R : Type} (a0 : List (Int × Int)) (k0 : Int → Option R) : Option R := (ratchetref30_CountErr N ((a0.length : Nat) : Int) (fun y1 => (bif decide (y1 ≠ 0) then (k0 y1) else (ratchetref30_PointsErr_l0 N (fun z5 => (k0 z5)) (k0 0) N a0 0))))
def P_ratchetref30_PointsErr : AP := ⟨[.p (.s (.sl [.i .i64, .i .i64]))], []⟩
def e_ratchetref30_PointsErr (N : Nat) {R : Type} (x : P_ratchetref30_PointsErr.den) (k : List Nat → List DS → HeapS → Option R) : Option R := ratchetref30_PointsErr N x.1.1 (fun r0 => k [] [.p (.i .i64 r0)] [])
noncomputable def F47 (N : Nat) {R : Type} : CfS R := updC (F46 N) 35 (ent P_ratchetref30_PointsErr (e_ratchetref30_PointsErr N) (F46 N 35))
theorem F47_ok (N : Nat) {R : Type} : FOK (F47 N : CfS R) (runF T) :=
  FOK_upd (F46_ok N) (Snd_ent (F46_ok N) (H := H_ratchetref30_PointsErr) (Lp := Lratchetref30_PointsErr_1 N) (X := X_ratchetref30_PointsErr) (rp := []) (ver := c35) rfl (LOK_of (l := [(58, [0, 4], c35_l0)]) (by kernel_rfl) ⟨(updL_ok (loop_ratchetref30_PointsErr_l0 N N)), trivial⟩) (fun x k => by kernel_rfl) (Snd_of (F46_ok N) 35 fun _ _ _ _ h => h))
def X_ratchetbase_Size : Nat → List SP := fun _ => []
def H_ratchetbase_Size : Nat → Option (List Sh) := fun n => none
noncomputable def Lratchetbase_Size_0 (N : Nat) {R : Type} : Nat → StS → KS R → Option R := noL
def ratchetbase_Size (N : Nat) {R : Type} (a0 : Int) (k0 : Int → Option R) : Option R := (k0 (max a0 (w64 (0 - a0))))
def P_ratchetbase_Size : AP := ⟨[.p (.s (.i .i64))], []⟩
def e_ratchetbase_Size (N : Nat) {R : Type} (x : P_ratchetbase_Size.den) (k : List Nat → List DS → HeapS → Option R) : Option R := ratchetbase_Size N x.1.1 (fun r0 => k [] [.p (.i .i64 r0)] [])
noncomputable def F48 (N : Nat) {R : Type} : CfS R := updC (F47 N) 75 (ent P_ratchetbase_Size (e_ratchetbase_Size N) (F47 N 75))
theorem F48_ok (N : Nat) {R : Type} : FOK (F48 N : CfS R) (runF T) :=
  FOK_upd (F47_ok N) (Snd_ent (F47_ok N) (H := H_ratchetbase_Size) (Lp := Lratchetbase_Size_0 N) (X := X_ratchetbase_Size) (rp := []) (ver := c75) rfl (LOK_of (l := []) (by kernel_rfl) trivial) (fun x k => by kernel_rfl) (Snd_of (F47_ok N) 75 fun _ _ _ _ h => h))
def X_ratchetbase_GPart : Nat → List SP := fun _ => []
def H_ratchetbase_GPart : Nat → Option (List Sh) := fun n => none
noncomputable def Lratchetbase_GPart_0 (N : Nat) {R : Type} : Nat → StS → KS R → Option R := noL
def ratchetbase_GPart (N : Nat) {R : Type} (a0 : Int) (a1 : Int) (k0 : Int → Option R) : Option R := (ratchetbase_Size N a0 (fun y1 => (ratchetbase_Size N a1 (fun y2 => (k0 (max y1 y2))))))
def P_ratchetbase_GPart : AP := ⟨[.agg [.p (.s (.i .i64)), .p (.s (.i .i64))]], []⟩
def e_ratchetbase_GPart (N : Nat) {R : Type} (x : P_ratchetbase_GPart.den) (k : List Nat → List DS → HeapS → Option R) : Option R := ratchetbase_GPart N x.1.1.1 x.1.1.2.1 (fun r0 => k [] [.p (.i .i64 r0)] [])
noncomputable def F49 (N : Nat) {R : Type} : CfS R := updC (F48 N) 38 (ent P_ratchetbase_GPart (e_ratchetbase_GPart N) (F48 N 38))
theorem F49_ok (N : Nat) {R : Type} : FOK (F49 N : CfS R) (runF T) :=
  FOK_upd (F48_ok N) (Snd_ent (F48_ok N) (H := H_ratchetbase_GPart) (Lp := Lratchetbase_GPart_0 N) (X := X_ratchetbase_GPart) (rp := []) (ver := c38) rfl (LOK_of (l := []) (by kernel_rfl) trivial) (fun x k => by kernel_rfl) (Snd_of (F48_ok N) 38 fun _ _ _ _ h => h))
def X_ratchetbase_GAdd : Nat → List SP := fun _ => []
def H_ratchetbase_GAdd : Nat → Option (List Sh) := fun n => none
noncomputable def Lratchetbase_GAdd_0 (N : Nat) {R : Type} : Nat → StS → KS R → Option R := noL
def ratchetbase_GAdd (N : Nat) {R : Type} (a0 : Int) (a1 : Int) (a2 : Int) (a3 : Int) (k0 : Int → Int → Option R) : Option R := (k0 (w64 (a0 + a2)) (w64 (a1 + a3)))
def P_ratchetbase_GAdd : AP := ⟨[.agg [.p (.s (.i .i64)), .p (.s (.i .i64))], .agg [.p (.s (.i .i64)), .p (.s (.i .i64))]], []⟩
def e_ratchetbase_GAdd (N : Nat) {R : Type} (x : P_ratchetbase_GAdd.den) (k : List Nat → List DS → HeapS → Option R) : Option R := ratchetbase_GAdd N x.1.1.1 x.1.1.2.1 x.1.2.1.1 x.1.2.1.2.1 (fun r0 r1 => k [] [.agg [.p (.i .i64 r0), .p (.i .i64 r1)]] [])
noncomputable def F50 (N : Nat) {R : Type} : CfS R := updC (F49 N) 39 (ent P_ratchetbase_GAdd (e_ratchetbase_GAdd N) (F49 N 39))
theorem F50_ok (N : Nat) {R : Type} : FOK (F50 N : CfS R) (runF T) :=
  FOK_upd (F49_ok N) (Snd_ent (F49_ok N) (H := H_ratchetbase_GAdd) (Lp := Lratchetbase_GAdd_0 N) (X := X_ratchetbase_GAdd) (rp := []) (ver := c39) rfl (LOK_of (l := []) (by kernel_rfl) trivial) (fun x k => by kernel_rfl) (Snd_of (F49_ok N) 39 fun _ _ _ _ h => h))
def X_ratchetbase_CopyGausses : Nat → List SP := fun _ => []
def H_ratchetbase_CopyGausses : Nat → Option (List Sh) := fun n => if n = 2000 then some [.i .i64, .i .i64] else none
noncomputable def Lratchetbase_CopyGausses_0 (N : Nat) {R : Type} : Nat → StS → KS R → Option R := noL
def ratchetbase_CopyGausses (N : Nat) {R : Type} (a0 : List (Int × Int)) (k0 : (List (Int × Int)) → Option R) : Option R := (bif roomB (0 + a0.length) 16 then (k0 a0) else none)
def P_ratchetbase_CopyGausses : AP := ⟨[.p (.s (.sl [.i .i64, .i .i64]))], []⟩
def e_ratchetbase_CopyGausses (N : Nat) {R : Type} (x : P_ratchetbase_CopyGausses.den) (k : List Nat → List DS → HeapS → Option R) : Option R := ratchetbase_CopyGausses N x.1.1 (fun r0 => k [] [.p (.l (.t [.i .i64, .i .i64] r0))] [])
noncomputable def F51 (N : Nat) {R : Type} : CfS R := updC (F50 N) 33 (ent P_ratchetbase_CopyGausses (e_ratchetbase_CopyGausses N) (F50 N 33))
theorem F51_ok (N : Nat) {R : Type} : FOK (F51 N : CfS R) (runF T) :=
  FOK_upd (F50_ok N) (Snd_ent (F50_ok N) (H := H_ratchetbase_CopyGausses) (Lp := Lratchetbase_CopyGausses_0 N) (X := X_ratchetbase_CopyGausses) (rp := []) (ver := c33) rfl (LOK_of (l := []) (by kernel_rfl) trivial) (fun x k => by kernel_rfl) (Snd_of (F50_ok N) 33 fun _ _ _ _ h => h))
def X_arith_fast : Nat → List SP := fun p => if p = 4005 then [⟨[(3, .p (.s (.i .i64))), (4, .ptr 0 0)], [(0, .box [.own 1, .own 2]), (1, .arr [.i .i64, .i .i64]), (2, .arr [.i .i64, .i .i64])]⟩] else []
def H_arith_fast : Nat → Option (List Sh) := fun n => if n = 11000 then some [.i .i64, .i .i64, .i .i64, .i .i64] else if n = 31000 then some [.i .i64, .i .i64] else if n = 46000 then some [.i .i64, .i .i64, .i .i64, .i .i64] else none
noncomputable def Larith_fast_0 (N : Nat) {R : Type} : Nat → StS → KS R → Option R := noL
def arith_fast_l0 (N : Nat) {R : Type} (k0 : Int → (List (Int × Int)) → (List (Int × Int)) → Option R) : Nat → Int → (List (Int × Int)) → Int → Int → (List (Int × Int)) → (List (Int × Int)) → Option R
  | 0, _, _, _, _, _, _ => none
  | n + 1, b0, b1, b2, b3, b4, b5 => (bif decide (b3 < b2) then ((at? b1 b3).bind fun x1 => (bif decide ((Int.tmod b3 2) = 1) then (bif roomB (b5.length + 1) 16 then (bif decide ((Int.tmod b3 2) = 1) then (arith_fast_l0 N k0 n b0 b1 b2 (w64 (b3 + 1)) b4 (b5 ++ [x1])) else (bif decide ((Int.tmod b3 2) = 0) then none else none)) else none) else (bif decide ((Int.tmod b3 2) = 0) then (bif roomB (b4.length + 1) 16 then (bif decide ((Int.tmod b3 2) = 1) then none else (bif decide ((Int.tmod b3 2) = 0) then (arith_fast_l0 N k0 n b0 b1 b2 (w64 (b3 + 1)) (b4 ++ [x1]) b5) else none)) else none) else none))) else (k0 b0 b4 b5))
def Parith_fast_l0 : SP := ⟨[(3, .p (.s (.i .i64))), (4, .ptr 0 0), (21, .p (.s (.sl [.i .i64, .i .i64]))), (22, .p (.s (.i .i64))), (23, .p (.s (.i .i64)))], [(0, .box [.own 1, .own 2]), (1, .arr [.i .i64, .i .i64]), (2, .arr [.i .i64, .i .i64])]⟩
def earith_fast_l0 (N : Nat) {R : Type} (n : Nat) (x : Parith_fast_l0.den) (k : KS R) : Option R := arith_fast_l0 N (fun r0 r1 r2 => k (.ex 0) ⟨[(3, .p (.i .i64 r0)), (4, .ptr 0 0)], [(0, .box [.own 1, .own 2]), (1, .arr (.t [.i .i64, .i .i64] r1)), (2, .arr (.t [.i .i64, .i .i64] r2))]⟩) n x.1.1 x.1.2.2.1 x.1.2.2.2.1 x.1.2.2.2.2.1 x.2.2.1 x.2.2.2.1
theorem loop_arith_fast_l0 (N : Nat) {R : Type} : ∀ (n : Nat) (s : StS) (k : KS R) (r : R), lent' Parith_fast_l0 (earith_fast_l0 N n) s k = some r → ∃ e s', runL (runF T) [3, 4, 21, 22, 23] c74_l0 s.enc = some (e, s'.enc) ∧ k e s' = some r :=
  loop_ok (F51_ok N) (H := H_arith_fast) (Lp := Larith_fast_0 N) (X := X_arith_fast) (p := 250) (LOK_of (l := []) (by kernel_rfl) trivial) (fun _ _ => rfl) (fun n x k => by kernel_rfl)
noncomputable def Larith_fast_1 (N : Nat) {R : Type} : Nat → StS → KS R → Option R := updL (Larith_fast_0 N) 250 (peelS (F51 N) H_arith_fast (Larith_fast_0 N) X_arith_fast 250 [3, 4, 21, 22, 23] c74_l0 (peelS (F51 N) H_arith_fast (Larith_fast_0 N) X_arith_fast 250 [3, 4, 21, 22, 23] c74_l0 (lent' Parith_fast_l0 (earith_fast_l0 N N))))
def arith_fast_j0 (N : Nat) {R : Type} (b0 : Int) (b1 : List (Int × Int)) (b2 : List (Int × Int)) : Option R := none
def Parith_fast_j0 : SP := ⟨[(3, .p (.s (.i .i64))), (4, .ptr 0 0)], [(0, .box [.own 1, .own 2]), (1, .arr [.i .i64, .i .i64]), (2, .arr [.i .i64, .i .i64])]⟩
def earith_fast_j0 (N : Nat) {R : Type} (n : Nat) (x : Parith_fast_j0.den) (k : KS R) : Option R := match n with
  | 0 => none
  | _ + 1 => arith_fast_j0 N  x.1.1 x.2.2.1 x.2.2.2.1
theorem loop_arith_fast_j0 (N : Nat) {R : Type} : ∀ (n : Nat) (s : StS) (k : KS R) (r : R), lent' Parith_fast_j0 (earith_fast_j0 N n) s k = some r → ∃ e s', runL (runF T) [3, 4] c74_j0 s.enc = some (e, s'.enc) ∧ k e s' = some r :=
  loop_ok (F51_ok N) (H := H_arith_fast) (Lp := Larith_fast_1 N) (X := X_arith_fast) (p := 126) (LOK_of (l := [(16154, [3, 7, 8, 9, 48, 49], c74_l1)]) (by kernel_rfl) ⟨(fun _ _ _ h => by cases h), trivial⟩) (fun _ _ => rfl) (fun n x k => by kernel_rfl)
noncomputable def Larith_fast_2 (N : Nat) {R : Type} : Nat → StS → KS R → Option R := updL (Larith_fast_1 N) 126 (lent' Parith_fast_j0 (earith_fast_j0 N 1))
def arith_fast (N : Nat) {R : Type} (a0 : List (Int × Int)) (k0 : (List (Int × Int × Int × Int)) → Option R) : Option R := (bif decide (((a0.length : Nat) : Int) = 1) then ((at? a0 0).bind fun x1 => (arith_of N x1.1 x1.2 (fun y2 y3 y4 y5 => (k0 [(y2, y3, y4, y5)])))) else (bif decide (0 < ((a0.length : Nat) : Int)) then ((at? a0 0).bind fun x6 => (bif decide (1 < ((a0.length : Nat) : Int)) then ((at? a0 1).bind fun x7 => (arith_fast_l0 N (fun z8 z9 z10 => (arith_fast_j0 N z8 z9 z10)) N ((a0.length : Nat) : Int) a0 ((a0.length : Nat) : Int) 2 [x6] [x7])) else (arith_fast_j0 N ((a0.length : Nat) : Int) [x6] []))) else (arith_fast_j0 N ((a0.length : Nat) : Int) [] [])))
def P_arith_fast : AP := ⟨[.p (.s (.sl [.i .i64, .i .i64]))], []⟩
def e_arith_fast (N : Nat) {R : Type} (x : P_arith_fast.den) (k : List Nat → List DS → HeapS → Option R) : Option R := arith_fast N x.1.1 (fun r0 => k [] [.p (.l (.t [.i .i64, .i .i64, .i .i64, .i .i64] r0))] [])
noncomputable def F52 (N : Nat) {R : Type} : CfS R := updC (F51 N) 74 (ent P_arith_fast (e_arith_fast N) (F51 N 74))
theorem F52_ok (N : Nat) {R : Type} : FOK (F52 N : CfS R) (runF T) :=
  FOK_upd (F51_ok N) (Snd_ent (F51_ok N) (H := H_arith_fast) (Lp := Larith_fast_2 N) (X := X_arith_fast) (rp := []) (ver := c74) rfl (LOK_of (l := [(250, [3, 4, 21, 22, 23], c74_l0), (126, [3, 4], c74_j0)]) (by kernel_rfl) ⟨(updL_ne (by decide) (updL_ok (peel_ok (F51_ok N) (LOK_of (l := []) (by kernel_rfl) trivial) (peel_ok (F51_ok N) (LOK_of (l := []) (by kernel_rfl) trivial) (loop_arith_fast_l0 N N))))), (updL_ok (loop_arith_fast_j0 N 1)), trivial⟩) (fun x k => by kernel_rfl) (Snd_of (F51_ok N) 74 fun _ _ _ _ h => h))
def X_arith_number_minus : Nat → List SP := fun _ => []
def H_arith_number_minus : Nat → Option (List Sh) := fun n => none
noncomputable def Larith_number_minus_0 (N : Nat) {R : Type} : Nat → StS → KS R → Option R := noL
def arith_number_minus (N : Nat) {R : Type} (a0 : Int) (a1 : Int) (a2 : Int) (a3 : Int) (k0 : Int → Int → Int → Int → Option R) : Option R := (k0 (w64 (0 - a0)) (w64 (0 - a1)) (w64 (0 - a2)) (w64 (0 - a3)))
def P_arith_number_minus : AP := ⟨[.agg [.p (.s (.i .i64)), .p (.s (.i .i64)), .p (.s (.i .i64)), .p (.s (.i .i64))]], []⟩
def e_arith_number_minus (N : Nat) {R : Type} (x : P_arith_number_minus.den) (k : List Nat → List DS → HeapS → Option R) : Option R := arith_number_minus N x.1.1.1 x.1.1.2.1 x.1.1.2.2.1 x.1.1.2.2.2.1 (fun r0 r1 r2 r3 => k [] [.agg [.p (.i .i64 r0), .p (.i .i64 r1), .p (.i .i64 r2), .p (.i .i64 r3)]] [])
noncomputable def F53 (N : Nat) {R : Type} : CfS R := updC (F52 N) 94 (ent P_arith_number_minus (e_arith_number_minus N) (F52 N 94))
theorem F53_ok (N : Nat) {R : Type} : FOK (F53 N : CfS R) (runF T) :=
  FOK_upd (F52_ok N) (Snd_ent (F52_ok N) (H := H_arith_number_minus) (Lp := Larith_number_minus_0 N) (X := X_arith_number_minus) (rp := []) (ver := c94) rfl (LOK_of (l := []) (by kernel_rfl) trivial) (fun x k => by kernel_rfl) (Snd_of (F52_ok N) 94 fun _ _ _ _ h => h))
def X_arith_fast_v1 : Nat → List SP := fun p => if p = 4005 then [⟨[(3, .p (.s (.i .i64))), (4, .ptr 0 0)], [(0, .box [.own 1, .own 2]), (1, .arr [.i .i64, .i .i64]), (2, .arr [.i .i64, .i .i64])]⟩] else []
def H_arith_fast_v1 : Nat → Option (List Sh) := fun n => if n = 11000 then some [.i .i64, .i .i64, .i .i64, .i .i64] else if n = 31000 then some [.i .i64, .i .i64] else if n = 46000 then some [.i .i64, .i .i64, .i .i64, .i .i64] else none
noncomputable def Larith_fast_v1_0 (N : Nat) {R : Type} : Nat → StS → KS R → Option R := noL
def arith_fast_v1_l0 (N : Nat) {R : Type} (k0 : Int → (List (Int × Int)) → (List (Int × Int)) → Option R) : Nat → Int → (List (Int × Int)) → Int → Int → (List (Int × Int)) → (List (Int × Int)) → Option R
  | 0, _, _, _, _, _, _ => none
  | n + 1, b0, b1, b2, b3, b4, b5 => (bif decide (b3 < b2) then ((at? b1 b3).bind fun x1 => (bif decide ((Int.tmod b3 2) = 1) then (bif roomB (b5.length + 1) 16 then (bif decide ((Int.tmod b3 2) = 1) then (arith_fast_v1_l0 N k0 n b0 b1 b2 (w64 (b3 + 1)) b4 (b5 ++ [x1])) else (bif decide ((Int.tmod b3 2) = 0) then none else none)) else none) else (bif decide ((Int.tmod b3 2) = 0) then (bif roomB (b4.length + 1) 16 then (bif decide ((Int.tmod b3 2) = 1) then none else (bif decide ((Int.tmod b3 2) = 0) then (arith_fast_v1_l0 N k0 n b0 b1 b2 (w64 (b3 + 1)) (b4 ++ [x1]) b5) else none)) else none) else none))) else (k0 b0 b4 b5))
def Parith_fast_v1_l0 : SP := ⟨[(3, .p (.s (.i .i64))), (4, .ptr 0 0), (21, .p (.s (.sl [.i .i64, .i .i64]))), (22, .p (.s (.i .i64))), (23, .p (.s (.i .i64)))], [(0, .box [.own 1, .own 2]), (1, .arr [.i .i64, .i .i64]), (2, .arr [.i .i64, .i .i64])]⟩
def earith_fast_v1_l0 (N : Nat) {R : Type} (n : Nat) (x : Parith_fast_v1_l0.den) (k : KS R) : Option R := arith_fast_v1_l0 N (fun r0 r1 r2 => k (.ex 0) ⟨[(3, .p (.i .i64 r0)), (4, .ptr 0 0)], [(0, .box [.own 1, .own 2]), (1, .arr (.t [.i .i64, .i .i64] r1)), (2, .arr (.t [.i .i64, .i .i64] r2))]⟩) n x.1.1 x.1.2.2.1 x.1.2.2.2.1 x.1.2.2.2.2.1 x.2.2.1 x.2.2.2.1
theorem loop_arith_fast_v1_l0 (N : Nat) {R : Type} : ∀ (n : Nat) (s : StS) (k : KS R) (r : R), lent' Parith_fast_v1_l0 (earith_fast_v1_l0 N n) s k = some r → ∃ e s', runL (runF T) [3, 4, 21, 22, 23] c74_l0 s.enc = some (e, s'.enc) ∧ k e s' = some r :=
  loop_ok (F53_ok N) (H := H_arith_fast_v1) (Lp := Larith_fast_v1_0 N) (X := X_arith_fast_v1) (p := 250) (LOK_of (l := []) (by kernel_rfl) trivial) (fun _ _ => rfl) (fun n x k => by kernel_rfl)
noncomputable def Larith_fast_v1_1 (N : Nat) {R : Type} : Nat → StS → KS R → Option R := updL (Larith_fast_v1_0 N) 250 (peelS (F53 N) H_arith_fast_v1 (Larith_fast_v1_0 N) X_arith_fast_v1 250 [3, 4, 21, 22, 23] c74_l0 (peelS (F53 N) H_arith_fast_v1 (Larith_fast_v1_0 N) X_arith_fast_v1 250 [3, 4, 21, 22, 23] c74_l0 (lent' Parith_fast_v1_l0 (earith_fast_v1_l0 N N))))
def arith_fast_v1_l1 (N : Nat) {R : Type} (k0 : (List (Int × Int × Int × Int)) → Option R) : Nat → Int → (List (Int × Int × Int × Int)) → (List (Int × Int × Int × Int)) → Int → Int → (List (Int × Int × Int × Int)) → Option R
  | 0, _, _, _, _, _, _ => none
  | n + 1, b0, b1, b2, b3, b4, b5 => (bif decide (b4 < b3) then ((at? b2 b4).bind fun x1 => (bif decide (b0 = 0) then none else (arith_number_turned N x1.1 x1.2.1 x1.2.2.1 x1.2.2.2 (w64 (b4 * (w64 (Int.tdiv 8 b0)))) (fun y2 y3 y4 y5 => ((at? b1 b4).bind fun x6 => (arith_number_plus N x6.1 x6.2.1 x6.2.2.1 x6.2.2.2 y2 y3 y4 y5 (fun y7 y8 y9 y10 => ((at? b1 b4).bind fun x11 => (arith_number_minus N y2 y3 y4 y5 (fun y12 y13 y14 y15 => (arith_number_plus N x11.1 x11.2.1 x11.2.2.1 x11.2.2.2 y12 y13 y14 y15 (fun y16 y17 y18 y19 => (bif inR b4 b5.length then ((b5[b4.toNat]?).bind fun x20 => (bif inR (w64 (b4 + (w64 (Int.tdiv b0 2)))) ((List.set b5 b4.toNat (y7, y8, y9, y10)).length) then (((List.set b5 b4.toNat (y7, y8, y9, y10))[(w64 (b4 + (w64 (Int.tdiv b0 2)))).toNat]?).bind fun x21 => (arith_fast_v1_l1 N k0 n b0 b1 b2 b3 (w64 (b4 + 1)) (List.set (List.set b5 b4.toNat (y7, y8, y9, y10)) ((w64 (b4 + (w64 (Int.tdiv b0 2)))).toNat) (y16, y17, y18, y19)))) else none)) else none))))))))))))) else (k0 b5))
def Parith_fast_v1_l1 : SP := ⟨[(3, .p (.s (.i .i64))), (7, .p (.s (.sl [.i .i64, .i .i64, .i .i64, .i .i64]))), (8, .p (.s (.sl [.i .i64, .i .i64, .i .i64, .i .i64]))), (9, .own 0), (48, .p (.s (.i .i64))), (49, .p (.s (.i .i64)))], [(0, .arr [.i .i64, .i .i64, .i .i64, .i .i64])]⟩
def earith_fast_v1_l1 (N : Nat) {R : Type} (n : Nat) (x : Parith_fast_v1_l1.den) (k : KS R) : Option R := arith_fast_v1_l1 N (fun r0 => k (.ex 2) ⟨[(9, .own 0)], [(0, .arr (.t [.i .i64, .i .i64, .i .i64, .i .i64] r0))]⟩) n x.1.1 x.1.2.1 x.1.2.2.1 x.1.2.2.2.2.1 x.1.2.2.2.2.2.1 x.2.1
theorem loop_arith_fast_v1_l1 (N : Nat) {R : Type} : ∀ (n : Nat) (s : StS) (k : KS R) (r : R), lent' Parith_fast_v1_l1 (earith_fast_v1_l1 N n) s k = some r → ∃ e s', runL (runF T) [3, 7, 8, 9, 48, 49] c74_l1 s.enc = some (e, s'.enc) ∧ k e s' = some r :=
  loop_ok (F53_ok N) (H := H_arith_fast_v1) (Lp := Larith_fast_v1_1 N) (X := X_arith_fast_v1) (p := 16154) (LOK_of (l := []) (by kernel_rfl) trivial) (fun _ _ => rfl) (fun n x k => by kernel_rfl)
noncomputable def Larith_fast_v1_2 (N : Nat) {R : Type} : Nat → StS → KS R → Option R := updL (Larith_fast_v1_1 N) 16154 (lent' Parith_fast_v1_l1 (earith_fast_v1_l1 N N))
def arith_fast_v1_j0 (N : Nat) {R : Type} (k0 : (List (Int × Int × Int × Int)) → Option R) (b0 : Int) (b1 : List (Int × Int)) (b2 : List (Int × Int)) : Option R := (arith_fast N b1 (fun y1 => (arith_fast N b2 (fun y2 => (bif decide (0 ≤ b0 ∧ b0 ≤ b0) then (bif roomB b0.toNat 32 then (arith_fast_v1_l1 N (fun z22 => (k0 z22)) N b0 y1 y2 (w64 (Int.tdiv b0 2)) 0 (List.replicate b0.toNat (0, 0, 0, 0))) else none) else none)))))
def Parith_fast_v1_j0 : SP := ⟨[(3, .p (.s (.i .i64))), (4, .ptr 0 0)], [(0, .box [.own 1, .own 2]), (1, .arr [.i .i64, .i .i64]), (2, .arr [.i .i64, .i .i64])]⟩
def earith_fast_v1_j0 (N : Nat) {R : Type} (n : Nat) (x : Parith_fast_v1_j0.den) (k : KS R) : Option R := match n with
  | 0 => none
  | _ + 1 => arith_fast_v1_j0 N (fun r0 => k .ret ⟨[(2, .own 0)], [(0, .arr (.t [.i .i64, .i .i64, .i .i64, .i .i64] r0))]⟩) x.1.1 x.2.2.1 x.2.2.2.1
theorem loop_arith_fast_v1_j0 (N : Nat) {R : Type} : ∀ (n : Nat) (s : StS) (k : KS R) (r : R), lent' Parith_fast_v1_j0 (earith_fast_v1_j0 N n) s k = some r → ∃ e s', runL (runF T) [3, 4] c74_j0 s.enc = some (e, s'.enc) ∧ k e s' = some r :=
  loop_ok (F53_ok N) (H := H_arith_fast_v1) (Lp := Larith_fast_v1_2 N) (X := X_arith_fast_v1) (p := 126) (LOK_of (l := [(16154, [3, 7, 8, 9, 48, 49], c74_l1)]) (by kernel_rfl) ⟨(updL_ok (loop_arith_fast_v1_l1 N N)), trivial⟩) (fun _ _ => rfl) (fun n x k => by kernel_rfl)
noncomputable def Larith_fast_v1_3 (N : Nat) {R : Type} : Nat → StS → KS R → Option R := updL (Larith_fast_v1_2 N) 126 (lent' Parith_fast_v1_j0 (earith_fast_v1_j0 N 1))
def arith_fast_v1 (N : Nat) {R : Type} (a0 : List (Int × Int)) (k0 : (List (Int × Int × Int × Int)) → Option R) : Option R := (bif decide (((a0.length : Nat) : Int) = 1) then ((at? a0 0).bind fun x1 => (arith_of N x1.1 x1.2 (fun y2 y3 y4 y5 => (k0 [(y2, y3, y4, y5)])))) else (bif decide (0 < ((a0.length : Nat) : Int)) then ((at? a0 0).bind fun x6 => (bif decide (1 < ((a0.length : Nat) : Int)) then ((at? a0 1).bind fun x7 => (arith_fast_v1_l0 N (fun z8 z9 z10 => (arith_fast_v1_j0 N (fun z23 => (k0 z23)) z8 z9 z10)) N ((a0.length : Nat) : Int) a0 ((a0.length : Nat) : Int) 2 [x6] [x7])) else (arith_fast_v1_j0 N (fun z24 => (k0 z24)) ((a0.length : Nat) : Int) [x6] []))) else (arith_fast_v1_j0 N (fun z25 => (k0 z25)) ((a0.length : Nat) : Int) [] [])))
def P_arith_fast_v1 : AP := ⟨[.p (.s (.sl [.i .i64, .i .i64]))], []⟩
def e_arith_fast_v1 (N : Nat) {R : Type} (x : P_arith_fast_v1.den) (k : List Nat → List DS → HeapS → Option R) : Option R := arith_fast_v1 N x.1.1 (fun r0 => k [] [.p (.l (.t [.i .i64, .i .i64, .i .i64, .i .i64] r0))] [])
noncomputable def F54 (N : Nat) {R : Type} : CfS R := updC (F53 N) 74 (ent P_arith_fast_v1 (e_arith_fast_v1 N) (F53 N 74))
theorem F54_ok (N : Nat) {R : Type} : FOK (F54 N : CfS R) (runF T) :=
  FOK_upd (F53_ok N) (Snd_ent (F53_ok N) (H := H_arith_fast_v1) (Lp := Larith_fast_v1_3 N) (X := X_arith_fast_v1) (rp := []) (ver := c74) rfl (LOK_of (l := [(250, [3, 4, 21, 22, 23], c74_l0), (126, [3, 4], c74_j0)]) (by kernel_rfl) ⟨(updL_ne (by decide) (updL_ne (by decide) (updL_ok (peel_ok (F53_ok N) (LOK_of (l := []) (by kernel_rfl) trivial) (peel_ok (F53_ok N) (LOK_of (l := []) (by kernel_rfl) trivial) (loop_arith_fast_v1_l0 N N)))))), (updL_ok (loop_arith_fast_v1_j0 N 1)), trivial⟩) (fun x k => by kernel_rfl) (Snd_of (F53_ok N) 74 fun _ _ _ _ h => h))
def X_arith_fast_v2 : Nat → List SP := fun p => if p = 4005 then [⟨[(3, .p (.s (.i .i64))), (4, .ptr 0 0)], [(0, .box [.own 1, .own 2]), (1, .arr [.i .i64, .i .i64]), (2, .arr [.i .i64, .i .i64])]⟩] else []
def H_arith_fast_v2 : Nat → Option (List Sh) := fun n => if n = 11000 then some [.i .i64, .i .i64, .i .i64, .i .i64] else if n = 31000 then some [.i .i64, .i .i64] else if n = 46000 then some [.i .i64, .i .i64, .i .i64, .i .i64] else none
noncomputable def Larith_fast_v2_0 (N : Nat) {R : Type} : Nat → StS → KS R → Option R := noL
def arith_fast_v2_l0 (N : Nat) {R : Type} (k0 : Int → (List (Int × Int)) → (List (Int × Int)) → Option R) : Nat → Int → (List (Int × Int)) → Int → Int → (List (Int × Int)) → (List (Int × Int)) → Option R
  | 0, _, _, _, _, _, _ => none
  | n + 1, b0, b1, b2, b3, b4, b5 => (bif decide (b3 < b2) then ((at? b1 b3).bind fun x1 => (bif decide ((Int.tmod b3 2) = 1) then (bif roomB (b5.length + 1) 16 then (bif decide ((Int.tmod b3 2) = 1) then (arith_fast_v2_l0 N k0 n b0 b1 b2 (w64 (b3 + 1)) b4 (b5 ++ [x1])) else (bif decide ((Int.tmod b3 2) = 0) then none else none)) else none) else (bif decide ((Int.tmod b3 2) = 0) then (bif roomB (b4.length + 1) 16 then (bif decide ((Int.tmod b3 2) = 1) then none else (bif decide ((Int.tmod b3 2) = 0) then (arith_fast_v2_l0 N k0 n b0 b1 b2 (w64 (b3 + 1)) (b4 ++ [x1]) b5) else none)) else none) else none))) else (k0 b0 b4 b5))
def Parith_fast_v2_l0 : SP := ⟨[(3, .p (.s (.i .i64))), (4, .ptr 0 0), (21, .p (.s (.sl [.i .i64, .i .i64]))), (22, .p (.s (.i .i64))), (23, .p (.s (.i .i64)))], [(0, .box [.own 1, .own 2]), (1, .arr [.i .i64, .i .i64]), (2, .arr [.i .i64, .i .i64])]⟩
def earith_fast_v2_l0 (N : Nat) {R : Type} (n : Nat) (x : Parith_fast_v2_l0.den) (k : KS R) : Option R := arith_fast_v2_l0 N (fun r0 r1 r2 => k (.ex 0) ⟨[(3, .p (.i .i64 r0)), (4, .ptr 0 0)], [(0, .box [.own 1, .own 2]), (1, .arr (.t [.i .i64, .i .i64] r1)), (2, .arr (.t [.i .i64, .i .i64] r2))]⟩) n x.1.1 x.1.2.2.1 x.1.2.2.2.1 x.1.2.2.2.2.1 x.2.2.1 x.2.2.2.1
theorem loop_arith_fast_v2_l0 (N : Nat) {R : Type} : ∀ (n : Nat) (s : StS) (k : KS R) (r : R), lent' Parith_fast_v2_l0 (earith_fast_v2_l0 N n) s k = some r → ∃ e s', runL (runF T) [3, 4, 21, 22, 23] c74_l0 s.enc = some (e, s'.enc) ∧ k e s' = some r :=
  loop_ok (F54_ok N) (H := H_arith_fast_v2) (Lp := Larith_fast_v2_0 N) (X := X_arith_fast_v2) (p := 250) (LOK_of (l := []) (by kernel_rfl) trivial) (fun _ _ => rfl) (fun n x k => by kernel_rfl)
noncomputable def Larith_fast_v2_1 (N : Nat) {R : Type} : Nat → StS → KS R → Option R := updL (Larith_fast_v2_0 N) 250 (peelS (F54 N) H_arith_fast_v2 (Larith_fast_v2_0 N) X_arith_fast_v2 250 [3, 4, 21, 22, 23] c74_l0 (peelS (F54 N) H_arith_fast_v2 (Larith_fast_v2_0 N) X_arith_fast_v2 250 [3, 4, 21, 22, 23] c74_l0 (lent' Parith_fast_v2_l0 (earith_fast_v2_l0 N N))))
def arith_fast_v2_l1 (N : Nat) {R : Type} (k0 : (List (Int × Int × Int × Int)) → Option R) : Nat → Int → (List (Int × Int × Int × Int)) → (List (Int × Int × Int × Int)) → Int → Int → (List (Int × Int × Int × Int)) → Option R
  | 0, _, _, _, _, _, _ => none
  | n + 1, b0, b1, b2, b3, b4, b5 => (bif decide (b4 < b3) then ((at? b2 b4).bind fun x1 => (bif decide (b0 = 0) then none else (arith_number_turned N x1.1 x1.2.1 x1.2.2.1 x1.2.2.2 (w64 (b4 * (w64 (Int.tdiv 8 b0)))) (fun y2 y3 y4 y5 => ((at? b1 b4).bind fun x6 => (arith_number_plus N x6.1 x6.2.1 x6.2.2.1 x6.2.2.2 y2 y3 y4 y5 (fun y7 y8 y9 y10 => ((at? b1 b4).bind fun x11 => (arith_number_minus N y2 y3 y4 y5 (fun y12 y13 y14 y15 => (arith_number_plus N x11.1 x11.2.1 x11.2.2.1 x11.2.2.2 y12 y13 y14 y15 (fun y16 y17 y18 y19 => (bif inR b4 b5.length then ((b5[b4.toNat]?).bind fun x20 => (bif inR (w64 (b4 + (w64 (Int.tdiv b0 2)))) ((List.set b5 b4.toNat (y7, y8, y9, y10)).length) then (((List.set b5 b4.toNat (y7, y8, y9, y10))[(w64 (b4 + (w64 (Int.tdiv b0 2)))).toNat]?).bind fun x21 => (arith_fast_v2_l1 N k0 n b0 b1 b2 b3 (w64 (b4 + 1)) (List.set (List.set b5 b4.toNat (y7, y8, y9, y10)) ((w64 (b4 + (w64 (Int.tdiv b0 2)))).toNat) (y16, y17, y18, y19)))) else none)) else none))))))))))))) else (k0 b5))
def Parith_fast_v2_l1 : SP := ⟨[(3, .p (.s (.i .i64))), (7, .p (.s (.sl [.i .i64, .i .i64, .i .i64, .i .i64]))), (8, .p (.s (.sl [.i .i64, .i .i64, .i .i64, .i .i64]))), (9, .own 0), (48, .p (.s (.i .i64))), (49, .p (.s (.i .i64)))], [(0, .arr [.i .i64, .i .i64, .i .i64, .i .i64])]⟩
def earith_fast_v2_l1 (N : Nat) {R : Type} (n : Nat) (x : Parith_fast_v2_l1.den) (k : KS R) : Option R := arith_fast_v2_l1 N (fun r0 => k (.ex 2) ⟨[(9, .own 0)], [(0, .arr (.t [.i .i64, .i .i64, .i .i64, .i .i64] r0))]⟩) n x.1.1 x.1.2.1 x.1.2.2.1 x.1.2.2.2.2.1 x.1.2.2.2.2.2.1 x.2.1
theorem loop_arith_fast_v2_l1 (N : Nat) {R : Type} : ∀ (n : Nat) (s : StS) (k : KS R) (r : R), lent' Parith_fast_v2_l1 (earith_fast_v2_l1 N n) s k = some r → ∃ e s', runL (runF T) [3, 7, 8, 9, 48, 49] c74_l1 s.enc = some (e, s'.enc) ∧ k e s' = some r :=
  loop_ok (F54_ok N) (H := H_arith_fast_v2) (Lp := Larith_fast_v2_1 N) (X := X_arith_fast_v2) (p := 16154) (LOK_of (l := []) (by kernel_rfl) trivial) (fun _ _ => rfl) (fun n x k => by kernel_rfl)
noncomputable def Larith_fast_v2_2 (N : Nat) {R : Type} : Nat → StS → KS R → Option R := updL (Larith_fast_v2_1 N) 16154 (lent' Parith_fast_v2_l1 (earith_fast_v2_l1 N N))
def arith_fast_v2_j0 (N : Nat) {R : Type} (k0 : (List (Int × Int × Int × Int)) → Option R) (b0 : Int) (b1 : List (Int × Int)) (b2 : List (Int × Int)) : Option R := (arith_fast_v1 N b1 (fun y1 => (arith_fast_v1 N b2 (fun y2 => (bif decide (0 ≤ b0 ∧ b0 ≤ b0) then (bif roomB b0.toNat 32 then (arith_fast_v2_l1 N (fun z22 => (k0 z22)) N b0 y1 y2 (w64 (Int.tdiv b0 2)) 0 (List.replicate b0.toNat (0, 0, 0, 0))) else none) else none)))))
def Parith_fast_v2_j0 : SP := ⟨[(3, .p (.s (.i .i64))), (4, .ptr 0 0)], [(0, .box [.own 1, .own 2]), (1, .arr [.i .i64, .i .i64]), (2, .arr [.i .i64, .i .i64])]⟩
def earith_fast_v2_j0 (N : Nat) {R : Type} (n : Nat) (x : Parith_fast_v2_j0.den) (k : KS R) : Option R := match n with
  | 0 => none
  | _ + 1 => arith_fast_v2_j0 N (fun r0 => k .ret ⟨[(2, .own 0)], [(0, .arr (.t [.i .i64, .i .i64, .i .i64, .i .i64] r0))]⟩) x.1.1 x.2.2.1 x.2.2.2.1
theorem loop_arith_fast_v2_j0 (N : Nat) {R : Type} : ∀ (n : Nat) (s : StS) (k : KS R) (r : R), lent' Parith_fast_v2_j0 (earith_fast_v2_j0 N n) s k = some r → ∃ e s', runL (runF T) [3, 4] c74_j0 s.enc = some (e, s'.enc) ∧ k e s' = some r :=
  loop_ok (F54_ok N) (H := H_arith_fast_v2) (Lp := Larith_fast_v2_2 N) (X := X_arith_fast_v2) (p := 126) (LOK_of (l := [(16154, [3, 7, 8, 9, 48, 49], c74_l1)]) (by kernel_rfl) ⟨(updL_ok (loop_arith_fast_v2_l1 N N)), trivial⟩) (fun _ _ => rfl) (fun n x k => by kernel_rfl)
noncomputable def Larith_fast_v2_3 (N : Nat) {R : Type} : Nat → StS → KS R → Option R := updL (Larith_fast_v2_2 N) 126 (lent' Parith_fast_v2_j0 (earith_fast_v2_j0 N 1))
def arith_fast_v2 (N : Nat) {R : Type} (a0 : List (Int × Int)) (k0 : (List (Int × Int × Int × Int)) → Option R) : Option R := (bif decide (((a0.length : Nat) : Int) = 1) then ((at? a0 0).bind fun x1 => (arith_of N x1.1 x1.2 (fun y2 y3 y4 y5 => (k0 [(y2, y3, y4, y5)])))) else (bif decide (0 < ((a0.length : Nat) : Int)) then ((at? a0 0).bind fun x6 => (bif decide (1 < ((a0.length : Nat) : Int)) then ((at? a0 1).bind fun x7 => (arith_fast_v2_l0 N (fun z8 z9 z10 => (arith_fast_v2_j0 N (fun z23 => (k0 z23)) z8 z9 z10)) N ((a0.length : Nat) : Int) a0 ((a0.length : Nat) : Int) 2 [x6] [x7])) else (arith_fast_v2_j0 N (fun z24 => (k0 z24)) ((a0.length : Nat) : Int) [x6] []))) else (arith_fast_v2_j0 N (fun z25 => (k0 z25)) ((a0.length : Nat) : Int) [] [])))
def P_arith_fast_v2 : AP := ⟨[.p (.s (.sl [.i .i64, .i .i64]))], []⟩
def e_arith_fast_v2 (N : Nat) {R : Type} (x : P_arith_fast_v2.den) (k : List Nat → List DS → HeapS → Option R) : Option R := arith_fast_v2 N x.1.1 (fun r0 => k [] [.p (.l (.t [.i .i64, .i .i64, .i .i64, .i .i64] r0))] [])
noncomputable def F55 (N : Nat) {R : Type} : CfS R := updC (F54 N) 74 (ent P_arith_fast_v2 (e_arith_fast_v2 N) (F54 N 74))
theorem F55_ok (N : Nat) {R : Type} : FOK (F55 N : CfS R) (runF T) :=
  FOK_upd (F54_ok N) (Snd_ent (F54_ok N) (H := H_arith_fast_v2) (Lp := Larith_fast_v2_3 N) (X := X_arith_fast_v2) (rp := []) (ver := c74) rfl (LOK_of (l := [(250, [3, 4, 21, 22, 23], c74_l0), (126, [3, 4], c74_j0)]) (by kernel_rfl) ⟨(updL_ne (by decide) (updL_ne (by decide) (updL_ok (peel_ok (F54_ok N) (LOK_of (l := []) (by kernel_rfl) trivial) (peel_ok (F54_ok N) (LOK_of (l := []) (by kernel_rfl) trivial) (loop_arith_fast_v2_l0 N N)))))), (updL_ok (loop_arith_fast_v2_j0 N 1)), trivial⟩) (fun x k => by kernel_rfl) (Snd_of (F54_ok N) 74 fun _ _ _ _ h => h))
def X_arith_fast_v3 : Nat → List SP := fun p => if p = 4005 then [⟨[(3, .p (.s (.i .i64))), (4, .ptr 0 0)], [(0, .box [.own 1, .own 2]), (1, .arr [.i .i64, .i .i64]), (2, .arr [.i .i64, .i .i64])]⟩] else []
def H_arith_fast_v3 : Nat → Option (List Sh) := fun n => if n = 11000 then some [.i .i64, .i .i64, .i .i64, .i .i64] else if n = 31000 then some [.i .i64, .i .i64] else if n = 46000 then some [.i .i64, .i .i64, .i .i64, .i .i64] else none
noncomputable def Larith_fast_v3_0 (N : Nat) {R : Type} : Nat → StS → KS R → Option R := noL
def arith_fast_v3_l0 (N : Nat) {R : Type} (k0 : Int → (List (Int × Int)) → (List (Int × Int)) → Option R) : Nat → Int → (List (Int × Int)) → Int → Int → (List (Int × Int)) → (List (Int × Int)) → Option R
  | 0, _, _, _, _, _, _ => none
  | n + 1, b0, b1, b2, b3, b4, b5 => (bif decide (b3 < b2) then ((at? b1 b3).bind fun x1 => (bif decide ((Int.tmod b3 2) = 1) then (bif roomB (b5.length + 1) 16 then (bif decide ((Int.tmod b3 2) = 1) then (arith_fast_v3_l0 N k0 n b0 b1 b2 (w64 (b3 + 1)) b4 (b5 ++ [x1])) else (bif decide ((Int.tmod b3 2) = 0) then none else none)) else none) else (bif decide ((Int.tmod b3 2) = 0) then (bif roomB (b4.length + 1) 16 then (bif decide ((Int.tmod b3 2) = 1) then none else (bif decide ((Int.tmod b3 2) = 0) then (arith_fast_v3_l0 N k0 n b0 b1 b2 (w64 (b3 + 1)) (b4 ++ [x1]) b5) else none)) else none) else none))) else (k0 b0 b4 b5))
def Parith_fast_v3_l0 : SP := ⟨[(3, .p (.s (.i .i64))), (4, .ptr 0 0), (21, .p (.s (.sl [.i .i64, .i .i64]))), (22, .p (.s (.i .i64))), (23, .p (.s (.i .i64)))], [(0, .box [.own 1, .own 2]), (1, .arr [.i .i64, .i .i64]), (2, .arr [.i .i64, .i .i64])]⟩
def earith_fast_v3_l0 (N : Nat) {R : Type} (n : Nat) (x : Parith_fast_v3_l0.den) (k : KS R) : Option R := arith_fast_v3_l0 N (fun r0 r1 r2 => k (.ex 0) ⟨[(3, .p (.i .i64 r0)), (4, .ptr 0 0)], [(0, .box [.own 1, .own 2]), (1, .arr (.t [.i .i64, .i .i64] r1)), (2, .arr (.t [.i .i64, .i .i64] r2))]⟩) n x.1.1 x.1.2.2.1 x.1.2.2.2.1 x.1.2.2.2.2.1 x.2.2.1 x.2.2.2.1
theorem loop_arith_fast_v3_l0 (N : Nat) {R : Type} : ∀ (n : Nat) (s : StS) (k : KS R) (r : R), lent' Parith_fast_v3_l0 (earith_fast_v3_l0 N n) s k = some r → ∃ e s', runL (runF T) [3, 4, 21, 22, 23] c74_l0 s.enc = some (e, s'.enc) ∧ k e s' = some r :=
  loop_ok (F55_ok N) (H := H_arith_fast_v3) (Lp := Larith_fast_v3_0 N) (X := X_arith_fast_v3) (p := 250) (LOK_of (l := []) (by kernel_rfl) trivial) (fun _ _ => rfl) (fun n x k => by kernel_rfl)
noncomputable def Larith_fast_v3_1 (N : Nat) {R : Type} : Nat → StS → KS R → Option R := updL (Larith_fast_v3_0 N) 250 (peelS (F55 N) H_arith_fast_v3 (Larith_fast_v3_0 N) X_arith_fast_v3 250 [3, 4, 21, 22, 23] c74_l0 (peelS (F55 N) H_arith_fast_v3 (Larith_fast_v3_0 N) X_arith_fast_v3 250 [3, 4, 21, 22, 23] c74_l0 (lent' Parith_fast_v3_l0 (earith_fast_v3_l0 N N))))
def arith_fast_v3_l1 (N : Nat) {R : Type} (k0 : (List (Int × Int × Int × Int)) → Option R) : Nat → Int → (List (Int × Int × Int × Int)) → (List (Int × Int × Int × Int)) → Int → Int → (List (Int × Int × Int × Int)) → Option R
  | 0, _, _, _, _, _, _ => none
  | n + 1, b0, b1, b2, b3, b4, b5 => (bif decide (b4 < b3) then ((at? b2 b4).bind fun x1 => (bif decide (b0 = 0) then none else (arith_number_turned N x1.1 x1.2.1 x1.2.2.1 x1.2.2.2 (w64 (b4 * (w64 (Int.tdiv 8 b0)))) (fun y2 y3 y4 y5 => ((at? b1 b4).bind fun x6 => (arith_number_plus N x6.1 x6.2.1 x6.2.2.1 x6.2.2.2 y2 y3 y4 y5 (fun y7 y8 y9 y10 => ((at? b1 b4).bind fun x11 => (arith_number_minus N y2 y3 y4 y5 (fun y12 y13 y14 y15 => (arith_number_plus N x11.1 x11.2.1 x11.2.2.1 x11.2.2.2 y12 y13 y14 y15 (fun y16 y17 y18 y19 => (bif inR b4 b5.length then ((b5[b4.toNat]?).bind fun x20 => (bif inR (w64 (b4 + (w64 (Int.tdiv b0 2)))) ((List.set b5 b4.toNat (y7, y8, y9, y10)).length) then (((List.set b5 b4.toNat (y7, y8, y9, y10))[(w64 (b4 + (w64 (Int.tdiv b0 2)))).toNat]?).bind fun x21 => (arith_fast_v3_l1 N k0 n b0 b1 b2 b3 (w64 (b4 + 1)) (List.set (List.set b5 b4.toNat (y7, y8, y9, y10)) ((w64 (b4 + (w64 (Int.tdiv b0 2)))).toNat) (y16, y17, y18, y19)))) else none)) else none))))))))))))) else (k0 b5))
def Parith_fast_v3_l1 : SP := ⟨[(3, .p (.s (.i .i64))), (7, .p (.s (.sl [.i .i64, .i .i64, .i .i64, .i .i64]))), (8, .p (.s (.sl [.i .i64, .i .i64, .i .i64, .i .i64]))), (9, .own 0), (48, .p (.s (.i .i64))), (49, .p (.s (.i .i64)))], [(0, .arr [.i .i64, .i .i64, .i .i64, .i .i64])]⟩
def earith_fast_v3_l1 (N : Nat) {R : Type} (n : Nat) (x : Parith_fast_v3_l1.den) (k : KS R) : Option R := arith_fast_v3_l1 N (fun r0 => k (.ex 2) ⟨[(9, .own 0)], [(0, .arr (.t [.i .i64, .i .i64, .i .i64, .i .i64] r0))]⟩) n x.1.1 x.1.2.1 x.1.2.2.1 x.1.2.2.2.2.1 x.1.2.2.2.2.2.1 x.2.1
theorem loop_arith_fast_v3_l1 (N : Nat) {R : Type} : ∀ (n : Nat) (s : StS) (k : KS R) (r : R), lent' Parith_fast_v3_l1 (earith_fast_v3_l1 N n) s k = some r → ∃ e s', runL (runF T) [3, 7, 8, 9, 48, 49] c74_l1 s.enc = some (e, s'.enc) ∧ k e s' = some r :=
  loop_ok (F55_ok N) (H := H_arith_fast_v3) (Lp := Larith_fast_v3_1 N) (X := X_arith_fast_v3) (p := 16154) (LOK_of (l := []) (by kernel_rfl) trivial) (fun _ _ => rfl) (fun n x k => by kernel_rfl)
noncomputable def Larith_fast_v3_2 (N : Nat) {R : Type} : Nat → StS → KS R → Option R := updL (Larith_fast_v3_1 N) 16154 (lent' Parith_fast_v3_l1 (earith_fast_v3_l1 N N))
def arith_fast_v3_j0 (N : Nat) {R : Type} (k0 : (List (Int × Int × Int × Int)) → Option R) (b0 : Int) (b1 : List (Int × Int)) (b2 : List (Int × Int)) : Option R := (arith_fast_v2 N b1 (fun y1 => (arith_fast_v2 N b2 (fun y2 => (bif decide (0 ≤ b0 ∧ b0 ≤ b0) then (bif roomB b0.toNat 32 then (arith_fast_v3_l1 N (fun z22 => (k0 z22)) N b0 y1 y2 (w64 (Int.tdiv b0 2)) 0 (List.replicate b0.toNat (0, 0, 0, 0))) else none) else none)))))
def Parith_fast_v3_j0 : SP := ⟨[(3, .p (.s (.i .i64))), (4, .ptr 0 0)], [(0, .box [.own 1, .own 2]), (1, .arr [.i .i64, .i .i64]), (2, .arr [.i .i64, .i .i64])]⟩
def earith_fast_v3_j0 (N : Nat) {R : Type} (n : Nat) (x : Parith_fast_v3_j0.den) (k : KS R) : Option R := match n with
  | 0 => none
  | _ + 1 => arith_fast_v3_j0 N (fun r0 => k .ret ⟨[(2, .own 0)], [(0, .arr (.t [.i .i64, .i .i64, .i .i64, .i .i64] r0))]⟩) x.1.1 x.2.2.1 x.2.2.2.1
theorem loop_arith_fast_v3_j0 (N : Nat) {R : Type} : ∀ (n : Nat) (s : StS) (k : KS R) (r : R), lent' Parith_fast_v3_j0 (earith_fast_v3_j0 N n) s k = some r → ∃ e s', runL (runF T) [3, 4] c74_j0 s.enc = some (e, s'.enc) ∧ k e s' = some r :=
  loop_ok (F55_ok N) (H := H_arith_fast_v3) (Lp := Larith_fast_v3_2 N) (X := X_arith_fast_v3) (p := 126) (LOK_of (l := [(16154, [3, 7, 8, 9, 48, 49], c74_l1)]) (by kernel_rfl) ⟨(updL_ok (loop_arith_fast_v3_l1 N N)), trivial⟩) (fun _ _ => rfl) (fun n x k => by kernel_rfl)
noncomputable def Larith_fast_v3_3 (N : Nat) {R : Type} : Nat → StS → KS R → Option R := updL (Larith_fast_v3_2 N) 126 (lent' Parith_fast_v3_j0 (earith_fast_v3_j0 N 1))
def arith_fast_v3 (N : Nat) {R : Type} (a0 : List (Int × Int)) (k0 : (List (Int × Int × Int × Int)) → Option R) : Option R := (bif decide (((a0.length : Nat) : Int) = 1) then ((at? a0 0).bind fun x1 => (arith_of N x1.1 x1.2 (fun y2 y3 y4 y5 => (k0 [(y2, y3, y4, y5)])))) else (bif decide (0 < ((a0.length : Nat) : Int)) then ((at? a0 0).bind fun x6 => (bif decide (1 < ((a0.length : Nat) : Int)) then ((at? a0 1).bind fun x7 => (arith_fast_v3_l0 N (fun z8 z9 z10 => (arith_fast_v3_j0 N (fun z23 => (k0 z23)) z8 z9 z10)) N ((a0.length : Nat) : Int) a0 ((a0.length : Nat) : Int) 2 [x6] [x7])) else (arith_fast_v3_j0 N (fun z24 => (k0 z24)) ((a0.length : Nat) : Int) [x6] []))) else (arith_fast_v3_j0 N (fun z25 => (k0 z25)) ((a0.length : Nat) : Int) [] [])))
def P_arith_fast_v3 : AP := ⟨[.p (.s (.sl [.i .i64, .i .i64]))], []⟩
def e_arith_fast_v3 (N : Nat) {R : Type} (x : P_arith_fast_v3.den) (k : List Nat → List DS → HeapS → Option R) : Option R := arith_fast_v3 N x.1.1 (fun r0 => k [] [.p (.l (.t [.i .i64, .i .i64, .i .i64, .i .i64] r0))] [])
noncomputable def F56 (N : Nat) {R : Type} : CfS R := updC (F55 N) 74 (ent P_arith_fast_v3 (e_arith_fast_v3 N) (F55 N 74))
theorem F56_ok (N : Nat) {R : Type} : FOK (F56 N : CfS R) (runF T) :=
  FOK_upd (F55_ok N) (Snd_ent (F55_ok N) (H := H_arith_fast_v3) (Lp := Larith_fast_v3_3 N) (X := X_arith_fast_v3) (rp := []) (ver := c74) rfl (LOK_of (l := [(250, [3, 4, 21, 22, 23], c74_l0), (126, [3, 4], c74_j0)]) (by kernel_rfl) ⟨(updL_ne (by decide) (updL_ne (by decide) (updL_ok (peel_ok (F55_ok N) (LOK_of (l := []) (by kernel_rfl) trivial) (peel_ok (F55_ok N) (LOK_of (l := []) (by kernel_rfl) trivial) (loop_arith_fast_v3_l0 N N)))))), (updL_ok (loop_arith_fast_v3_j0 N 1)), trivial⟩) (fun x k => by kernel_rfl) (Snd_of (F55_ok N) 74 fun _ _ _ _ h => h))
def X_arith_TransformFast : Nat → List SP := fun p => if p = 63 then [⟨[(2, .own 0), (3, .p (.s (.i .i64)))], [(0, .arr [.i .i64, .i .i64, .i .i64, .i .i64])]⟩] else if p = 109 then [⟨[(2, .own 0), (3, .p (.s (.i .i64)))], [(0, .arr [.i .i64, .i .i64, .i .i64, .i .i64])]⟩] else []
def H_arith_TransformFast : Nat → Option (List Sh) := fun n => if n = 24000 then some [.i .i64, .i .i64, .i .i64, .i .i64] else none
noncomputable def Larith_TransformFast_0 (N : Nat) {R : Type} : Nat → StS → KS R → Option R := noL
def arith_TransformFast_l0 (N : Nat) {R : Type} (k0 : Option R) (k1 : (List (Int × Int × Int × Int)) → Option R) : Nat → (List (Int × Int × Int × Int)) → Int → Int → (List (Int × Int × Int × Int)) → Option R
  | 0, _, _, _, _ => none
  | n + 1, b0, b1, b2, b3 => (bif decide (b2 < b1) then ((at? b0 b2).bind fun x1 => (bif roomB (b3.length + 1) 32 then (arith_TransformFast_l0 N k0 k1 n b0 b1 (w64 (b2 + 1)) (b3 ++ [x1])) else none)) else (k1 b3))
def Parith_TransformFast_l0 : SP := ⟨[(5, .own 0), (14, .p (.s (.sl [.i .i64, .i .i64, .i .i64, .i .i64]))), (15, .p (.s (.i .i64))), (16, .p (.s (.i .i64)))], [(0, .arr [.i .i64, .i .i64, .i .i64, .i .i64])]⟩
def earith_TransformFast_l0 (N : Nat) {R : Type} (n : Nat) (x : Parith_TransformFast_l0.den) (k : KS R) : Option R := arith_TransformFast_l0 N (k (.ex 0) ⟨[(5, .own 0)], [(0, .arr (.e 4))]⟩) (fun r0 => k (.ex 0) ⟨[(5, .own 0)], [(0, .arr (.t [.i .i64, .i .i64, .i .i64, .i .i64] r0))]⟩) n x.1.2.1 x.1.2.2.1 x.1.2.2.2.1 x.2.1
theorem loop_arith_TransformFast_l0 (N : Nat) {R : Type} : ∀ (n : Nat) (s : StS) (k : KS R) (r : R), lent' Parith_TransformFast_l0 (earith_TransformFast_l0 N n) s k = some r → ∃ e s', runL (runF T) [5, 14, 15, 16] c34_l0 s.enc = some (e, s'.enc) ∧ k e s' = some r :=
  loop_ok (F56_ok N) (H := H_arith_TransformFast) (Lp := Larith_TransformFast_0 N) (X := X_arith_TransformFast) (p := 122) (LOK_of (l := []) (by kernel_rfl) trivial) (fun _ _ => rfl) (fun n x k => by kernel_rfl)
noncomputable def Larith_TransformFast_1 (N : Nat) {R : Type} : Nat → StS → KS R → Option R := updL (Larith_TransformFast_0 N) 122 (lent' Parith_TransformFast_l0 (earith_TransformFast_l0 N N))
def arith_TransformFast (N : Nat) {R : Type} (a0 : List (Int × Int)) (k0 : (List (Int × Int × Int × Int)) → Int → Option R) : Option R := (arith_pointsErr N a0 (fun y1 => (bif decide (y1 ≠ 0) then (k0 [] y1) else (arith_fast_v3 N a0 (fun y2 => (arith_TransformFast_l0 N (k0 [] 0) (fun z3 => (k0 z3 0)) N y2 ((y2.length : Nat) : Int) 0 []))))))
def P_arith_TransformFast : AP := ⟨[.p (.s (.sl [.i .i64, .i .i64]))], []⟩
def e_arith_TransformFast (N : Nat) {R : Type} (x : P_arith_TransformFast.den) (k : List Nat → List DS → HeapS → Option R) : Option R := arith_TransformFast N x.1.1 (fun r0 r1 => k [] [.p (.l (.t [.i .i64, .i .i64, .i .i64, .i .i64] r0)), .p (.i .i64 r1)] [])
noncomputable def F57 (N : Nat) {R : Type} : CfS R := updC (F56 N) 34 (ent P_arith_TransformFast (e_arith_TransformFast N) (F56 N 34))
theorem F57_ok (N : Nat) {R : Type} : FOK (F57 N : CfS R) (runF T) :=
  FOK_upd (F56_ok N) (Snd_ent (F56_ok N) (H := H_arith_TransformFast) (Lp := Larith_TransformFast_1 N) (X := X_arith_TransformFast) (rp := []) (ver := c34) rfl (LOK_of (l := [(122, [5, 14, 15, 16], c34_l0)]) (by kernel_rfl) ⟨(updL_ok (loop_arith_TransformFast_l0 N N)), trivial⟩) (fun x k => by kernel_rfl) (Snd_of (F56_ok N) 34 fun _ _ _ _ h => h))
def X_ratchetlaw30_copyNumbers : Nat → List SP := fun _ => []
def H_ratchetlaw30_copyNumbers : Nat → Option (List Sh) := fun n => if n = 2000 then some [.i .i64, .i .i64, .i .i64, .i .i64] else none
noncomputable def Lratchetlaw30_copyNumbers_0 (N : Nat) {R : Type} : Nat → StS → KS R → Option R := noL
def ratchetlaw30_copyNumbers (N : Nat) {R : Type} (a0 : List (Int × Int × Int × Int)) (k0 : (List (Int × Int × Int × Int)) → Option R) : Option R := (bif roomB (0 + a0.length) 32 then (k0 a0) else none)
def P_ratchetlaw30_copyNumbers : AP := ⟨[.p (.s (.sl [.i .i64, .i .i64, .i .i64, .i .i64]))], []⟩
def e_ratchetlaw30_copyNumbers (N : Nat) {R : Type} (x : P_ratchetlaw30_copyNumbers.den) (k : List Nat → List DS → HeapS → Option R) : Option R := ratchetlaw30_copyNumbers N x.1.1 (fun r0 => k [] [.p (.l (.t [.i .i64, .i .i64, .i .i64, .i .i64] r0))] [])
noncomputable def F58 (N : Nat) {R : Type} : CfS R := updC (F57 N) 28 (ent P_ratchetlaw30_copyNumbers (e_ratchetlaw30_copyNumbers N) (F57 N 28))
theorem F58_ok (N : Nat) {R : Type} : FOK (F58 N : CfS R) (runF T) :=
  FOK_upd (F57_ok N) (Snd_ent (F57_ok N) (H := H_ratchetlaw30_copyNumbers) (Lp := Lratchetlaw30_copyNumbers_0 N) (X := X_ratchetlaw30_copyNumbers) (rp := []) (ver := c28) rfl (LOK_of (l := []) (by kernel_rfl) trivial) (fun x k => by kernel_rfl) (Snd_of (F57_ok N) 28 fun _ _ _ _ h => h))
def X_arith_isExact_c1 : Nat → List SP := fun _ => []
def H_arith_isExact_c1 : Nat → Option (List Sh) := fun n => none
noncomputable def Larith_isExact_c1_0 (N : Nat) {R : Type} : Nat → StS → KS R → Option R := noL
def arith_isExact_c1 (N : Nat) {R : Type} (a0 : Int) (k0 : Bool → Option R) : Option R := (arith_within N a0 (-1000000000) 1000000000 (fun y1 => (k0 y1)))
def P_arith_isExact_c1 : AP := ⟨[.p (.s (.i .i64))], []⟩
def e_arith_isExact_c1 (N : Nat) {R : Type} (x : P_arith_isExact_c1.den) (k : List Nat → List DS → HeapS → Option R) : Option R := arith_isExact_c1 N x.1.1 (fun r0 => k [] [.p (.b r0)] [])
noncomputable def F59 (N : Nat) {R : Type} : CfS R := updC (F58 N) 90 (ent P_arith_isExact_c1 (e_arith_isExact_c1 N) (F58 N 90))
theorem F59_ok (N : Nat) {R : Type} : FOK (F59 N : CfS R) (runF T) :=
  FOK_upd (F58_ok N) (Snd_ent (F58_ok N) (H := H_arith_isExact_c1) (Lp := Larith_isExact_c1_0 N) (X := X_arith_isExact_c1) (rp := []) (ver := c90) rfl (LOK_of (l := []) (by kernel_rfl) trivial) (fun x k => by kernel_rfl) (Snd_of (F58_ok N) 90 fun _ _ _ _ h => h))
def X_arith_each_int__c1_v2 : Nat → List SP := fun _ => []
def H_arith_each_int__c1_v2 : Nat → Option (List Sh) := fun n => none
noncomputable def Larith_each_int__c1_v2_0 (N : Nat) {R : Type} : Nat → StS → KS R → Option R := noL
def arith_each_int__c1_v2 (N : Nat) {R : Type} (a0 : Int) (k0 : Bool → Option R) : Option R := (arith_isExact_c1 N a0 (fun y1 => (k0 (!y1))))
def P_arith_each_int__c1_v2 : AP := ⟨[.p (.s (.i .i64)), .ptr 0 0], [(0, .box [.p (.fn 90 [])])]⟩
def e_arith_each_int__c1_v2 (N : Nat) {R : Type} (x : P_arith_each_int__c1_v2.den) (k : List Nat → List DS → HeapS → Option R) : Option R := arith_each_int__c1_v2 N x.1.1 (fun r0 => k [0] [.p (.b r0)] [(0, .box [.p (.fn 90 [])])])
noncomputable def F60 (N : Nat) {R : Type} : CfS R := updC (F59 N) 103 (ent P_arith_each_int__c1_v2 (e_arith_each_int__c1_v2 N) (F59 N 103))
theorem F60_ok (N : Nat) {R : Type} : FOK (F60 N : CfS R) (runF T) :=
  FOK_upd (F59_ok N) (Snd_ent (F59_ok N) (H := H_arith_each_int__c1_v2) (Lp := Larith_each_int__c1_v2_0 N) (X := X_arith_each_int__c1_v2) (rp := []) (ver := c103) rfl (LOK_of (l := []) (by kernel_rfl) trivial) (fun x k => by kernel_rfl) (Snd_of (F59_ok N) 103 fun _ _ _ _ h => h))
def X_slices_IndexFunc_Lint_int_v2 : Nat → List SP := fun _ => []
def H_slices_IndexFunc_Lint_int_v2 : Nat → Option (List Sh) := fun n => none
noncomputable def Lslices_IndexFunc_Lint_int_v2_0 (N : Nat) {R : Type} : Nat → StS → KS R → Option R := noL
def slices_IndexFunc_Lint_int_v2_l0 (N : Nat) {R : Type} (k0 : Int → Option R) (k1 : Option R) : Nat → List Int → Int → Int → Option R
  | 0, _, _, _ => none
  | n + 1, b0, b1, b2 => (bif decide (b2 < b1) then ((at? b0 b2).bind fun x1 => (arith_each_int__c1_v2 N x1 (fun y2 => (bif y2 then (k0 b2) else (slices_IndexFunc_Lint_int_v2_l0 N k0 k1 n b0 b1 (w64 (b2 + 1))))))) else k1)
def Pslices_IndexFunc_Lint_int_v2_l0 : SP := ⟨[(0, .p (.s (.sl [.i .i64]))), (1, .fn 103 [.ptr 0 0]), (7, .p (.s (.i .i64))), (8, .p (.s (.i .i64))), (100001, .fn 103 [.ptr 0 0])], [(0, .box [.p (.fn 90 [])])]⟩
def eslices_IndexFunc_Lint_int_v2_l0 (N : Nat) {R : Type} (n : Nat) (x : Pslices_IndexFunc_Lint_int_v2_l0.den) (k : KS R) : Option R := slices_IndexFunc_Lint_int_v2_l0 N (fun r0 => k .ret ⟨[(4, .p (.i .i64 r0)), (100001, .fn 103 [.ptr 0 0])], [(0, .box [.p (.fn 90 [])])]⟩) (k (.ex 0) ⟨[(100001, .fn 103 [.ptr 0 0])], [(0, .box [.p (.fn 90 [])])]⟩) n x.1.1 x.1.2.2.1 x.1.2.2.2.1
theorem loop_slices_IndexFunc_Lint_int_v2_l0 (N : Nat) {R : Type} : ∀ (n : Nat) (s : StS) (k : KS R) (r : R), lent' Pslices_IndexFunc_Lint_int_v2_l0 (eslices_IndexFunc_Lint_int_v2_l0 N n) s k = some r → ∃ e s', runL (runF T) [0, 1, 7, 8] c113_l0 s.enc = some (e, s'.enc) ∧ k e s' = some r :=
  loop_ok (F60_ok N) (H := H_slices_IndexFunc_Lint_int_v2) (Lp := Lslices_IndexFunc_Lint_int_v2_0 N) (X := X_slices_IndexFunc_Lint_int_v2) (p := 26) (LOK_of (l := []) (by kernel_rfl) trivial) (fun _ _ => rfl) (fun n x k => by kernel_rfl)
noncomputable def Lslices_IndexFunc_Lint_int_v2_1 (N : Nat) {R : Type} : Nat → StS → KS R → Option R := updL (Lslices_IndexFunc_Lint_int_v2_0 N) 26 (lent' Pslices_IndexFunc_Lint_int_v2_l0 (eslices_IndexFunc_Lint_int_v2_l0 N N))
def slices_IndexFunc_Lint_int_v2 (N : Nat) {R : Type} (a0 : List Int) (k0 : Int → Option R) : Option R := (slices_IndexFunc_Lint_int_v2_l0 N (fun z3 => (k0 z3)) (k0 (-1)) N a0 ((a0.length : Nat) : Int) 0)
def P_slices_IndexFunc_Lint_int_v2 : AP := ⟨[.p (.s (.sl [.i .i64])), .fn 103 [.ptr 0 0]], [(0, .box [.p (.fn 90 [])])]⟩
def e_slices_IndexFunc_Lint_int_v2 (N : Nat) {R : Type} (x : P_slices_IndexFunc_Lint_int_v2.den) (k : List Nat → List DS → HeapS → Option R) : Option R := slices_IndexFunc_Lint_int_v2 N x.1.1 (fun r0 => k [0] [.p (.i .i64 r0)] [(0, .box [.p (.fn 90 [])])])
noncomputable def F61 (N : Nat) {R : Type} : CfS R := updC (F60 N) 113 (ent P_slices_IndexFunc_Lint_int_v2 (e_slices_IndexFunc_Lint_int_v2 N) (F60 N 113))
theorem F61_ok (N : Nat) {R : Type} : FOK (F61 N : CfS R) (runF T) :=
  FOK_upd (F60_ok N) (Snd_ent (F60_ok N) (H := H_slices_IndexFunc_Lint_int_v2) (Lp := Lslices_IndexFunc_Lint_int_v2_1 N) (X := X_slices_IndexFunc_Lint_int_v2) (rp := []) (ver := c113) rfl (LOK_of (l := [(26, [0, 1, 7, 8], c113_l0)]) (by kernel_rfl) ⟨(updL_ok (loop_slices_IndexFunc_Lint_int_v2_l0 N N)), trivial⟩) (fun x k => by kernel_rfl) (Snd_of (F60_ok N) 113 fun _ _ _ _ h => h))
def X_slices_ContainsFunc_Lint_int_v2 : Nat → List SP := fun _ => []
def H_slices_ContainsFunc_Lint_int_v2 : Nat → Option (List Sh) := fun n => none
noncomputable def Lslices_ContainsFunc_Lint_int_v2_0 (N : Nat) {R : Type} : Nat → StS → KS R → Option R := noL
def slices_ContainsFunc_Lint_int_v2 (N : Nat) {R : Type} (a0 : List Int) (k0 : Bool → Option R) : Option R := (slices_IndexFunc_Lint_int_v2 N a0 (fun y1 => (k0 (decide (0 ≤ y1)))))
def P_slices_ContainsFunc_Lint_int_v2 : AP := ⟨[.p (.s (.sl [.i .i64])), .fn 103 [.ptr 0 0]], [(0, .box [.p (.fn 90 [])])]⟩
def e_slices_ContainsFunc_Lint_int_v2 (N : Nat) {R : Type} (x : P_slices_ContainsFunc_Lint_int_v2.den) (k : List Nat → List DS → HeapS → Option R) : Option R := slices_ContainsFunc_Lint_int_v2 N x.1.1 (fun r0 => k [0] [.p (.b r0)] [(0, .box [.p (.fn 90 [])])])
noncomputable def F62 (N : Nat) {R : Type} : CfS R := updC (F61 N) 102 (ent P_slices_ContainsFunc_Lint_int_v2 (e_slices_ContainsFunc_Lint_int_v2 N) (F61 N 102))
theorem F62_ok (N : Nat) {R : Type} : FOK (F62 N : CfS R) (runF T) :=
  FOK_upd (F61_ok N) (Snd_ent (F61_ok N) (H := H_slices_ContainsFunc_Lint_int_v2) (Lp := Lslices_ContainsFunc_Lint_int_v2_0 N) (X := X_slices_ContainsFunc_Lint_int_v2) (rp := []) (ver := c102) rfl (LOK_of (l := []) (by kernel_rfl) trivial) (fun x k => by kernel_rfl) (Snd_of (F61_ok N) 102 fun _ _ _ _ h => h))
def X_arith_each_int_v2 : Nat → List SP := fun _ => []
def H_arith_each_int_v2 : Nat → Option (List Sh) := fun n => none
noncomputable def Larith_each_int_v2_0 (N : Nat) {R : Type} : Nat → StS → KS R → Option R := noL
def arith_each_int_v2 (N : Nat) {R : Type} (a0 : List Int) (k0 : Bool → Option R) : Option R := (slices_ContainsFunc_Lint_int_v2 N a0 (fun y1 => (k0 (!y1))))
def P_arith_each_int_v2 : AP := ⟨[.p (.s (.sl [.i .i64])), .p (.fn 90 [])], []⟩
def e_arith_each_int_v2 (N : Nat) {R : Type} (x : P_arith_each_int_v2.den) (k : List Nat → List DS → HeapS → Option R) : Option R := arith_each_int_v2 N x.1.1 (fun r0 => k [] [.p (.b r0)] [])
noncomputable def F63 (N : Nat) {R : Type} : CfS R := updC (F62 N) 84 (ent P_arith_each_int_v2 (e_arith_each_int_v2 N) (F62 N 84))
theorem F63_ok (N : Nat) {R : Type} : FOK (F63 N : CfS R) (runF T) :=
  FOK_upd (F62_ok N) (Snd_ent (F62_ok N) (H := H_arith_each_int_v2) (Lp := Larith_each_int_v2_0 N) (X := X_arith_each_int_v2) (rp := []) (ver := c84) rfl (LOK_of (l := []) (by kernel_rfl) trivial) (fun x k => by kernel_rfl) (Snd_of (F62_ok N) 84 fun _ _ _ _ h => h))
def X_arith_isExact : Nat → List SP := fun _ => []
def H_arith_isExact : Nat → Option (List Sh) := fun n => if n = 11000 then some [.i .i64] else none
noncomputable def Larith_isExact_0 (N : Nat) {R : Type} : Nat → StS → KS R → Option R := noL
def arith_isExact (N : Nat) {R : Type} (a0 : Int) (a1 : Int) (a2 : Int) (a3 : Int) (k0 : Bool → Option R) : Option R := (arith_each_int_v2 N [a0, a1, a2, a3] (fun y1 => (k0 y1)))
def P_arith_isExact : AP := ⟨[.agg [.p (.s (.i .i64)), .p (.s (.i .i64)), .p (.s (.i .i64)), .p (.s (.i .i64))]], []⟩
def e_arith_isExact (N : Nat) {R : Type} (x : P_arith_isExact.den) (k : List Nat → List DS → HeapS → Option R) : Option R := arith_isExact N x.1.1.1 x.1.1.2.1 x.1.1.2.2.1 x.1.1.2.2.2.1 (fun r0 => k [] [.p (.b r0)] [])
noncomputable def F64 (N : Nat) {R : Type} : CfS R := updC (F63 N) 63 (ent P_arith_isExact (e_arith_isExact N) (F63 N 63))
theorem F64_ok (N : Nat) {R : Type} : FOK (F64 N : CfS R) (runF T) :=
  FOK_upd (F63_ok N) (Snd_ent (F63_ok N) (H := H_arith_isExact) (Lp := Larith_isExact_0 N) (X := X_arith_isExact) (rp := []) (ver := c63) rfl (LOK_of (l := []) (by kernel_rfl) trivial) (fun x k => by kernel_rfl) (Snd_of (F63_ok N) 63 fun _ _ _ _ h => h))
def X_api_ArithNumber__c1 : Nat → List SP := fun _ => []
def H_api_ArithNumber__c1 : Nat → Option (List Sh) := fun n => none
noncomputable def Lapi_ArithNumber__c1_0 (N : Nat) {R : Type} : Nat → StS → KS R → Option R := noL
def api_ArithNumber__c1 (N : Nat) {R : Type} (a0 : Int) (a1 : Int) (a2 : Int) (a3 : Int) (k0 : Bool → Option R) : Option R := (arith_isExact N a0 a1 a2 a3 (fun y1 => (k0 (!y1))))
def P_api_ArithNumber__c1 : AP := ⟨[.agg [.p (.s (.i .i64)), .p (.s (.i .i64)), .p (.s (.i .i64)), .p (.s (.i .i64))], .ptr 0 0], [(0, .box [.p (.fn 63 [])])]⟩
def e_api_ArithNumber__c1 (N : Nat) {R : Type} (x : P_api_ArithNumber__c1.den) (k : List Nat → List DS → HeapS → Option R) : Option R := api_ArithNumber__c1 N x.1.1.1 x.1.1.2.1 x.1.1.2.2.1 x.1.1.2.2.2.1 (fun r0 => k [0] [.p (.b r0)] [(0, .box [.p (.fn 63 [])])])
noncomputable def F65 (N : Nat) {R : Type} : CfS R := updC (F64 N) 89 (ent P_api_ArithNumber__c1 (e_api_ArithNumber__c1 N) (F64 N 89))
theorem F65_ok (N : Nat) {R : Type} : FOK (F65 N : CfS R) (runF T) :=
  FOK_upd (F64_ok N) (Snd_ent (F64_ok N) (H := H_api_ArithNumber__c1) (Lp := Lapi_ArithNumber__c1_0 N) (X := X_api_ArithNumber__c1) (rp := []) (ver := c89) rfl (LOK_of (l := []) (by kernel_rfl) trivial) (fun x k => by kernel_rfl) (Snd_of (F64_ok N) 89 fun _ _ _ _ h => h))
def X_slices_IndexFunc_ArithNumber_ArithNumber : Nat → List SP := fun _ => []
def H_slices_IndexFunc_ArithNumber_ArithNumber : Nat → Option (List Sh) := fun n => none
noncomputable def Lslices_IndexFunc_ArithNumber_ArithNumber_0 (N : Nat) {R : Type} : Nat → StS → KS R → Option R := noL
def slices_IndexFunc_ArithNumber_ArithNumber_l0 (N : Nat) {R : Type} (k0 : Int → Option R) (k1 : Option R) : Nat → (List (Int × Int × Int × Int)) → Int → Int → Option R
  | 0, _, _, _ => none
  | n + 1, b0, b1, b2 => (bif decide (b2 < b1) then ((at? b0 b2).bind fun x1 => (api_ArithNumber__c1 N x1.1 x1.2.1 x1.2.2.1 x1.2.2.2 (fun y2 => (bif y2 then (k0 b2) else (slices_IndexFunc_ArithNumber_ArithNumber_l0 N k0 k1 n b0 b1 (w64 (b2 + 1))))))) else k1)
def Pslices_IndexFunc_ArithNumber_ArithNumber_l0 : SP := ⟨[(0, .p (.s (.sl [.i .i64, .i .i64, .i .i64, .i .i64]))), (1, .fn 89 [.ptr 0 0]), (7, .p (.s (.i .i64))), (8, .p (.s (.i .i64))), (100001, .fn 89 [.ptr 0 0])], [(0, .box [.p (.fn 63 [])])]⟩
def eslices_IndexFunc_ArithNumber_ArithNumber_l0 (N : Nat) {R : Type} (n : Nat) (x : Pslices_IndexFunc_ArithNumber_ArithNumber_l0.den) (k : KS R) : Option R := slices_IndexFunc_ArithNumber_ArithNumber_l0 N (fun r0 => k .ret ⟨[(4, .p (.i .i64 r0)), (100001, .fn 89 [.ptr 0 0])], [(0, .box [.p (.fn 63 [])])]⟩) (k (.ex 0) ⟨[(100001, .fn 89 [.ptr 0 0])], [(0, .box [.p (.fn 63 [])])]⟩) n x.1.1 x.1.2.2.1 x.1.2.2.2.1
theorem loop_slices_IndexFunc_ArithNumber_ArithNumber_l0 (N : Nat) {R : Type} : ∀ (n : Nat) (s : StS) (k : KS R) (r : R), lent' Pslices_IndexFunc_ArithNumber_ArithNumber_l0 (eslices_IndexFunc_ArithNumber_ArithNumber_l0 N n) s k = some r → ∃ e s', runL (runF T) [0, 1, 7, 8] c104_l0 s.enc = some (e, s'.enc) ∧ k e s' = some r :=
  loop_ok (F65_ok N) (H := H_slices_IndexFunc_ArithNumber_ArithNumber) (Lp := Lslices_IndexFunc_ArithNumber_ArithNumber_0 N) (X := X_slices_IndexFunc_ArithNumber_ArithNumber) (p := 26) (LOK_of (l := []) (by kernel_rfl) trivial) (fun _ _ => rfl) (fun n x k => by kernel_rfl)
noncomputable def Lslices_IndexFunc_ArithNumber_ArithNumber_1 (N : Nat) {R : Type} : Nat → StS → KS R → Option R := updL (Lslices_IndexFunc_ArithNumber_ArithNumber_0 N) 26 (lent' Pslices_IndexFunc_ArithNumber_ArithNumber_l0 (eslices_IndexFunc_ArithNumber_ArithNumber_l0 N N))
def slices_IndexFunc_ArithNumber_ArithNumber (N : Nat) {R : Type} (a0 : List (Int × Int × Int × Int)) (k0 : Int → Option R) : Option R := (slices_IndexFunc_ArithNumber_ArithNumber_l0 N (fun z3 => (k0 z3)) (k0 (-1)) N a0 ((a0.length : Nat) : Int) 0)
def P_slices_IndexFunc_ArithNumber_ArithNumber : AP := ⟨[.p (.s (.sl [.i .i64, .i .i64, .i .i64, .i .i64])), .fn 89 [.ptr 0 0]], [(0, .box [.p (.fn 63 [])])]⟩
def e_slices_IndexFunc_ArithNumber_ArithNumber (N : Nat) {R : Type} (x : P_slices_IndexFunc_ArithNumber_ArithNumber.den) (k : List Nat → List DS → HeapS → Option R) : Option R := slices_IndexFunc_ArithNumber_ArithNumber N x.1.1 (fun r0 => k [0] [.p (.i .i64 r0)] [(0, .box [.p (.fn 63 [])])])
noncomputable def F66 (N : Nat) {R : Type} : CfS R := updC (F65 N) 104 (ent P_slices_IndexFunc_ArithNumber_ArithNumber (e_slices_IndexFunc_ArithNumber_ArithNumber N) (F65 N 104))
theorem F66_ok (N : Nat) {R : Type} : FOK (F66 N : CfS R) (runF T) :=
  FOK_upd (F65_ok N) (Snd_ent (F65_ok N) (H := H_slices_IndexFunc_ArithNumber_ArithNumber) (Lp := Lslices_IndexFunc_ArithNumber_ArithNumber_1 N) (X := X_slices_IndexFunc_ArithNumber_ArithNumber) (rp := []) (ver := c104) rfl (LOK_of (l := [(26, [0, 1, 7, 8], c104_l0)]) (by kernel_rfl) ⟨(updL_ok (loop_slices_IndexFunc_ArithNumber_ArithNumber_l0 N N)), trivial⟩) (fun x k => by kernel_rfl) (Snd_of (F65_ok N) 104 fun _ _ _ _ h => h))
def X_slices_ContainsFunc_ArithNumber_ArithNumber : Nat → List SP := fun _ => []
def H_slices_ContainsFunc_ArithNumber_ArithNumber : Nat → Option (List Sh) := fun n => none
noncomputable def Lslices_ContainsFunc_ArithNumber_ArithNumber_0 (N : Nat) {R : Type} : Nat → StS → KS R → Option R := noL
def slices_ContainsFunc_ArithNumber_ArithNumber (N : Nat) {R : Type} (a0 : List (Int × Int × Int × Int)) (k0 : Bool → Option R) : Option R := (slices_IndexFunc_ArithNumber_ArithNumber N a0 (fun y1 => (k0 (decide (0 ≤ y1)))))
def P_slices_ContainsFunc_ArithNumber_ArithNumber : AP := ⟨[.p (.s (.sl [.i .i64, .i .i64, .i .i64, .i .i64])), .fn 89 [.ptr 0 0]], [(0, .box [.p (.fn 63 [])])]⟩
def e_slices_ContainsFunc_ArithNumber_ArithNumber (N : Nat) {R : Type} (x : P_slices_ContainsFunc_ArithNumber_ArithNumber.den) (k : List Nat → List DS → HeapS → Option R) : Option R := slices_ContainsFunc_ArithNumber_ArithNumber N x.1.1 (fun r0 => k [0] [.p (.b r0)] [(0, .box [.p (.fn 63 [])])])
noncomputable def F67 (N : Nat) {R : Type} : CfS R := updC (F66 N) 88 (ent P_slices_ContainsFunc_ArithNumber_ArithNumber (e_slices_ContainsFunc_ArithNumber_ArithNumber N) (F66 N 88))
theorem F67_ok (N : Nat) {R : Type} : FOK (F67 N : CfS R) (runF T) :=
  FOK_upd (F66_ok N) (Snd_ent (F66_ok N) (H := H_slices_ContainsFunc_ArithNumber_ArithNumber) (Lp := Lslices_ContainsFunc_ArithNumber_ArithNumber_0 N) (X := X_slices_ContainsFunc_ArithNumber_ArithNumber) (rp := []) (ver := c88) rfl (LOK_of (l := []) (by kernel_rfl) trivial) (fun x k => by kernel_rfl) (Snd_of (F66_ok N) 88 fun _ _ _ _ h => h))
def X_arith_each_ArithNumber : Nat → List SP := fun _ => []
def H_arith_each_ArithNumber : Nat → Option (List Sh) := fun n => none
noncomputable def Larith_each_ArithNumber_0 (N : Nat) {R : Type} : Nat → StS → KS R → Option R := noL
def arith_each_ArithNumber (N : Nat) {R : Type} (a0 : List (Int × Int × Int × Int)) (k0 : Bool → Option R) : Option R := (slices_ContainsFunc_ArithNumber_ArithNumber N a0 (fun y1 => (k0 (!y1))))
def P_arith_each_ArithNumber : AP := ⟨[.p (.s (.sl [.i .i64, .i .i64, .i .i64, .i .i64])), .p (.fn 63 [])], []⟩
def e_arith_each_ArithNumber (N : Nat) {R : Type} (x : P_arith_each_ArithNumber.den) (k : List Nat → List DS → HeapS → Option R) : Option R := arith_each_ArithNumber N x.1.1 (fun r0 => k [] [.p (.b r0)] [])
noncomputable def F68 (N : Nat) {R : Type} : CfS R := updC (F67 N) 62 (ent P_arith_each_ArithNumber (e_arith_each_ArithNumber N) (F67 N 62))
theorem F68_ok (N : Nat) {R : Type} : FOK (F68 N : CfS R) (runF T) :=
  FOK_upd (F67_ok N) (Snd_ent (F67_ok N) (H := H_arith_each_ArithNumber) (Lp := Larith_each_ArithNumber_0 N) (X := X_arith_each_ArithNumber) (rp := []) (ver := c62) rfl (LOK_of (l := []) (by kernel_rfl) trivial) (fun x k => by kernel_rfl) (Snd_of (F67_ok N) 62 fun _ _ _ _ h => h))
def X_arith_InverseOf : Nat → List SP := fun p => if p = 109 then [⟨[(2, .own 0), (3, .p (.s (.i .i64)))], [(0, .arr [.i .i64, .i .i64])]⟩] else if p = 127 then [⟨[(2, .own 0), (3, .p (.s (.i .i64)))], [(0, .arr [.i .i64, .i .i64])]⟩] else if p = 8205189 then [⟨[(2, .own 0), (3, .p (.s (.i .i64)))], [(0, .arr [.i .i64, .i .i64])]⟩] else []
def H_arith_InverseOf : Nat → Option (List Sh) := fun n => if n = 10000 then some [.i .i64] else if n = 194000 then some [.i .i64, .i .i64] else none
noncomputable def Larith_InverseOf_0 (N : Nat) {R : Type} : Nat → StS → KS R → Option R := noL
def arith_InverseOf_l1 (N : Nat) {R : Type} (k0 : (List (Int × Int × Int × Int)) → Int → Int → Int → Int → Int → Int → Int → Option R) (k1 : (List (Int × Int × Int × Int)) → Int → Int → Int → Int → Int → Int → Int → (List (Int × Int)) → Option R) : Nat → (List (Int × Int × Int × Int)) → Int → Int → Int → Int → Int → Int → Int → Int → (List (Int × Int × Int × Int)) → Int → Int → (List (Int × Int)) → Option R
  | 0, _, _, _, _, _, _, _, _, _, _, _, _, _ => none
  | n + 1, b0, b1, b2, b3, b4, b5, b6, b7, b8, b9, b10, b11, b12 => (bif decide (b11 < b10) then ((at? b9 b11).bind fun x1 => (arith_powers N (fun y2 y3 y4 y5 y6 y7 y8 y9 y10 y11 y12 y13 y14 y15 y16 y17 y18 y19 y20 y21 y22 y23 y24 y25 y26 y27 y28 y29 y30 y31 y32 y33 => (bif decide (b1 = 0) then none else (bif decide ((Int.tmod (w64 (8 - (Int.tmod (w64 ((w64 (b2 * b11)) * (w64 (Int.tdiv 8 b1)))) 8))) 8) = 7) then (arith_InverseOf_l1 N k0 k1 n b0 b1 b2 (w64 (b3 + (w64 ((w64 ((w64 (2 * (w64 ((w64 (x1.1 * y30)) - (w64 (x1.2.2.1 * y32)))))) + (w64 (x1.2.1 * y31)))) - (w64 (x1.2.2.2 * y33)))))) (w64 (b4 + (w64 ((w64 ((w64 (2 * (w64 ((w64 (x1.1 * y32)) + (w64 (x1.2.2.1 * y30)))))) + (w64 (x1.2.1 * y33)))) + (w64 (x1.2.2.2 * y31)))))) (w64 (b5 + (w64 ((w64 ((w64 ((w64 (x1.1 * y31)) + (w64 (x1.2.1 * y30)))) - (w64 (x1.2.2.1 * y33)))) - (w64 (x1.2.2.2 * y32)))))) (w64 (b6 + (w64 ((w64 ((w64 ((w64 (x1.1 * y33)) + (w64 (x1.2.1 * y32)))) + (w64 (x1.2.2.1 * y31)))) + (w64 (x1.2.2.2 * y30)))))) b7 b8 b9 b10 (w64 (b11 + 1)) b12) else (bif decide ((Int.tmod (w64 (8 - (Int.tmod (w64 ((w64 (b2 * b11)) * (w64 (Int.tdiv 8 b1)))) 8))) 8) = 6) then (arith_InverseOf_l1 N k0 k1 n b0 b1 b2 (w64 (b3 + (w64 ((w64 ((w64 (2 * (w64 ((w64 (x1.1 * y26)) - (w64 (x1.2.2.1 * y28)))))) + (w64 (x1.2.1 * y27)))) - (w64 (x1.2.2.2 * y29)))))) (w64 (b4 + (w64 ((w64 ((w64 (2 * (w64 ((w64 (x1.1 * y28)) + (w64 (x1.2.2.1 * y26)))))) + (w64 (x1.2.1 * y29)))) + (w64 (x1.2.2.2 * y27)))))) (w64 (b5 + (w64 ((w64 ((w64 ((w64 (x1.1 * y27)) + (w64 (x1.2.1 * y26)))) - (w64 (x1.2.2.1 * y29)))) - (w64 (x1.2.2.2 * y28)))))) (w64 (b6 + (w64 ((w64 ((w64 ((w64 (x1.1 * y29)) + (w64 (x1.2.1 * y28)))) + (w64 (x1.2.2.1 * y27)))) + (w64 (x1.2.2.2 * y26)))))) b7 b8 b9 b10 (w64 (b11 + 1)) b12) else (bif decide ((Int.tmod (w64 (8 - (Int.tmod (w64 ((w64 (b2 * b11)) * (w64 (Int.tdiv 8 b1)))) 8))) 8) = 5) then (arith_InverseOf_l1 N k0 k1 n b0 b1 b2 (w64 (b3 + (w64 ((w64 ((w64 (2 * (w64 ((w64 (x1.1 * y22)) - (w64 (x1.2.2.1 * y24)))))) + (w64 (x1.2.1 * y23)))) - (w64 (x1.2.2.2 * y25)))))) (w64 (b4 + (w64 ((w64 ((w64 (2 * (w64 ((w64 (x1.1 * y24)) + (w64 (x1.2.2.1 * y22)))))) + (w64 (x1.2.1 * y25)))) + (w64 (x1.2.2.2 * y23)))))) (w64 (b5 + (w64 ((w64 ((w64 ((w64 (x1.1 * y23)) + (w64 (x1.2.1 * y22)))) - (w64 (x1.2.2.1 * y25)))) - (w64 (x1.2.2.2 * y24)))))) (w64 (b6 + (w64 ((w64 ((w64 ((w64 (x1.1 * y25)) + (w64 (x1.2.1 * y24)))) + (w64 (x1.2.2.1 * y23)))) + (w64 (x1.2.2.2 * y22)))))) b7 b8 b9 b10 (w64 (b11 + 1)) b12) else (bif decide ((Int.tmod (w64 (8 - (Int.tmod (w64 ((w64 (b2 * b11)) * (w64 (Int.tdiv 8 b1)))) 8))) 8) = 4) then (arith_InverseOf_l1 N k0 k1 n b0 b1 b2 (w64 (b3 + (w64 ((w64 ((w64 (2 * (w64 ((w64 (x1.1 * y18)) - (w64 (x1.2.2.1 * y20)))))) + (w64 (x1.2.1 * y19)))) - (w64 (x1.2.2.2 * y21)))))) (w64 (b4 + (w64 ((w64 ((w64 (2 * (w64 ((w64 (x1.1 * y20)) + (w64 (x1.2.2.1 * y18)))))) + (w64 (x1.2.1 * y21)))) + (w64 (x1.2.2.2 * y19)))))) (w64 (b5 + (w64 ((w64 ((w64 ((w64 (x1.1 * y19)) + (w64 (x1.2.1 * y18)))) - (w64 (x1.2.2.1 * y21)))) - (w64 (x1.2.2.2 * y20)))))) (w64 (b6 + (w64 ((w64 ((w64 ((w64 (x1.1 * y21)) + (w64 (x1.2.1 * y20)))) + (w64 (x1.2.2.1 * y19)))) + (w64 (x1.2.2.2 * y18)))))) b7 b8 b9 b10 (w64 (b11 + 1)) b12) else (bif decide ((Int.tmod (w64 (8 - (Int.tmod (w64 ((w64 (b2 * b11)) * (w64 (Int.tdiv 8 b1)))) 8))) 8) = 3) then (arith_InverseOf_l1 N k0 k1 n b0 b1 b2 (w64 (b3 + (w64 ((w64 ((w64 (2 * (w64 ((w64 (x1.1 * y14)) - (w64 (x1.2.2.1 * y16)))))) + (w64 (x1.2.1 * y15)))) - (w64 (x1.2.2.2 * y17)))))) (w64 (b4 + (w64 ((w64 ((w64 (2 * (w64 ((w64 (x1.1 * y16)) + (w64 (x1.2.2.1 * y14)))))) + (w64 (x1.2.1 * y17)))) + (w64 (x1.2.2.2 * y15)))))) (w64 (b5 + (w64 ((w64 ((w64 ((w64 (x1.1 * y15)) + (w64 (x1.2.1 * y14)))) - (w64 (x1.2.2.1 * y17)))) - (w64 (x1.2.2.2 * y16)))))) (w64 (b6 + (w64 ((w64 ((w64 ((w64 (x1.1 * y17)) + (w64 (x1.2.1 * y16)))) + (w64 (x1.2.2.1 * y15)))) + (w64 (x1.2.2.2 * y14)))))) b7 b8 b9 b10 (w64 (b11 + 1)) b12) else (bif decide ((Int.tmod (w64 (8 - (Int.tmod (w64 ((w64 (b2 * b11)) * (w64 (Int.tdiv 8 b1)))) 8))) 8) = 2) then (arith_InverseOf_l1 N k0 k1 n b0 b1 b2 (w64 (b3 + (w64 ((w64 ((w64 (2 * (w64 ((w64 (x1.1 * y10)) - (w64 (x1.2.2.1 * y12)))))) + (w64 (x1.2.1 * y11)))) - (w64 (x1.2.2.2 * y13)))))) (w64 (b4 + (w64 ((w64 ((w64 (2 * (w64 ((w64 (x1.1 * y12)) + (w64 (x1.2.2.1 * y10)))))) + (w64 (x1.2.1 * y13)))) + (w64 (x1.2.2.2 * y11)))))) (w64 (b5 + (w64 ((w64 ((w64 ((w64 (x1.1 * y11)) + (w64 (x1.2.1 * y10)))) - (w64 (x1.2.2.1 * y13)))) - (w64 (x1.2.2.2 * y12)))))) (w64 (b6 + (w64 ((w64 ((w64 ((w64 (x1.1 * y13)) + (w64 (x1.2.1 * y12)))) + (w64 (x1.2.2.1 * y11)))) + (w64 (x1.2.2.2 * y10)))))) b7 b8 b9 b10 (w64 (b11 + 1)) b12) else (bif decide ((Int.tmod (w64 (8 - (Int.tmod (w64 ((w64 (b2 * b11)) * (w64 (Int.tdiv 8 b1)))) 8))) 8) = 1) then (arith_InverseOf_l1 N k0 k1 n b0 b1 b2 (w64 (b3 + (w64 ((w64 ((w64 (2 * (w64 ((w64 (x1.1 * y6)) - (w64 (x1.2.2.1 * y8)))))) + (w64 (x1.2.1 * y7)))) - (w64 (x1.2.2.2 * y9)))))) (w64 (b4 + (w64 ((w64 ((w64 (2 * (w64 ((w64 (x1.1 * y8)) + (w64 (x1.2.2.1 * y6)))))) + (w64 (x1.2.1 * y9)))) + (w64 (x1.2.2.2 * y7)))))) (w64 (b5 + (w64 ((w64 ((w64 ((w64 (x1.1 * y7)) + (w64 (x1.2.1 * y6)))) - (w64 (x1.2.2.1 * y9)))) - (w64 (x1.2.2.2 * y8)))))) (w64 (b6 + (w64 ((w64 ((w64 ((w64 (x1.1 * y9)) + (w64 (x1.2.1 * y8)))) + (w64 (x1.2.2.1 * y7)))) + (w64 (x1.2.2.2 * y6)))))) b7 b8 b9 b10 (w64 (b11 + 1)) b12) else (bif decide ((Int.tmod (w64 (8 - (Int.tmod (w64 ((w64 (b2 * b11)) * (w64 (Int.tdiv 8 b1)))) 8))) 8) = 0) then (arith_InverseOf_l1 N k0 k1 n b0 b1 b2 (w64 (b3 + (w64 ((w64 ((w64 (2 * (w64 ((w64 (x1.1 * y2)) - (w64 (x1.2.2.1 * y4)))))) + (w64 (x1.2.1 * y3)))) - (w64 (x1.2.2.2 * y5)))))) (w64 (b4 + (w64 ((w64 ((w64 (2 * (w64 ((w64 (x1.1 * y4)) + (w64 (x1.2.2.1 * y2)))))) + (w64 (x1.2.1 * y5)))) + (w64 (x1.2.2.2 * y3)))))) (w64 (b5 + (w64 ((w64 ((w64 ((w64 (x1.1 * y3)) + (w64 (x1.2.1 * y2)))) - (w64 (x1.2.2.1 * y5)))) - (w64 (x1.2.2.2 * y4)))))) (w64 (b6 + (w64 ((w64 ((w64 ((w64 (x1.1 * y5)) + (w64 (x1.2.1 * y4)))) + (w64 (x1.2.2.1 * y3)))) + (w64 (x1.2.2.2 * y2)))))) b7 b8 b9 b10 (w64 (b11 + 1)) b12) else none)))))))))))) else (k1 b0 b1 b3 b4 b5 b6 b7 b8 b12))
def Parith_InverseOf_l1 : SP := ⟨[(0, .p (.s (.sl [.i .i64, .i .i64, .i .i64, .i .i64]))), (5, .p (.s (.i .i64))), (6, .own 0), (7, .p (.s (.i .i64))), (8, .p (.s (.i .i64))), (9, .p (.s (.i .i64))), (10, .p (.s (.i .i64))), (11, .p (.s (.i .i64))), (29, .p (.s (.i .i64))), (30, .p (.s (.i .i64))), (33, .p (.s (.sl [.i .i64, .i .i64, .i .i64, .i .i64]))), (34, .p (.s (.i .i64))), (35, .p (.s (.i .i64)))], [(0, .arr [.i .i64, .i .i64])]⟩
def earith_InverseOf_l1 (N : Nat) {R : Type} (n : Nat) (x : Parith_InverseOf_l1.den) (k : KS R) : Option R := arith_InverseOf_l1 N (fun r0 r1 r2 r3 r4 r5 r6 r7 => k (.ex 2) ⟨[(0, .p (.l (.t [.i .i64, .i .i64, .i .i64, .i .i64] r0))), (5, .p (.i .i64 r1)), (6, .own 0), (8, .p (.i .i64 r2)), (9, .p (.i .i64 r3)), (10, .p (.i .i64 r4)), (11, .p (.i .i64 r5)), (29, .p (.i .i64 r6)), (30, .p (.i .i64 r7))], [(0, .arr (.e 2))]⟩) (fun r0 r1 r2 r3 r4 r5 r6 r7 r8 => k (.ex 2) ⟨[(0, .p (.l (.t [.i .i64, .i .i64, .i .i64, .i .i64] r0))), (5, .p (.i .i64 r1)), (6, .own 0), (8, .p (.i .i64 r2)), (9, .p (.i .i64 r3)), (10, .p (.i .i64 r4)), (11, .p (.i .i64 r5)), (29, .p (.i .i64 r6)), (30, .p (.i .i64 r7))], [(0, .arr (.t [.i .i64, .i .i64] r8))]⟩) n x.1.1 x.1.2.1 x.1.2.2.2.1 x.1.2.2.2.2.1 x.1.2.2.2.2.2.1 x.1.2.2.2.2.2.2.1 x.1.2.2.2.2.2.2.2.1 x.1.2.2.2.2.2.2.2.2.1 x.1.2.2.2.2.2.2.2.2.2.1 x.1.2.2.2.2.2.2.2.2.2.2.1 x.1.2.2.2.2.2.2.2.2.2.2.2.1 x.1.2.2.2.2.2.2.2.2.2.2.2.2.1 x.2.1
theorem loop_arith_InverseOf_l1 (N : Nat) {R : Type} : ∀ (n : Nat) (s : StS) (k : KS R) (r : R), lent' Parith_InverseOf_l1 (earith_InverseOf_l1 N n) s k = some r → ∃ e s', runL (runF T) [0, 5, 6, 7, 8, 9, 10, 11, 29, 30, 33, 34, 35] c27_l1 s.enc = some (e, s'.enc) ∧ k e s' = some r :=
  loop_ok (F68_ok N) (H := H_arith_InverseOf) (Lp := Larith_InverseOf_0 N) (X := X_arith_InverseOf) (p := 256410) (LOK_of (l := []) (by kernel_rfl) trivial) (fun _ _ => rfl) (fun n x k => by kernel_rfl)
noncomputable def Larith_InverseOf_1 (N : Nat) {R : Type} : Nat → StS → KS R → Option R := updL (Larith_InverseOf_0 N) 256410 (lent' Parith_InverseOf_l1 (earith_InverseOf_l1 N N))
def arith_InverseOf_j0 (N : Nat) {R : Type} (k0 : Int → Option R) (k1 : (List (Int × Int × Int × Int)) → Int → Int → Int → (List (Int × Int)) → Option R) (k2 : Int → (List (Int × Int)) → Option R) (b0 : List (Int × Int × Int × Int)) (b1 : Int) (b2 : Int) (b3 : Int) (b4 : Int) (b5 : Int) (b6 : Int) (b7 : Int) (b8 : List (Int × Int)) : Option R := (bif decide (b4 ≠ 0) then (k2 12 []) else (bif decide (b5 ≠ 0) then (k2 12 []) else (bif decide ((w64 (2 * b1)) = 0) then none else (bif decide ((Int.tmod b2 (w64 (2 * b1))) ≠ 0) then (k2 12 []) else (bif decide ((w64 (2 * b1)) = 0) then none else (bif decide ((Int.tmod b3 (w64 (2 * b1))) ≠ 0) then (k2 12 []) else (bif decide ((w64 (2 * b1)) = 0) then none else (bif decide ((w64 (2 * b1)) = 0) then none else (bif roomB (b8.length + 1) 16 then (k1 b0 b1 b6 b7 (b8 ++ [((w64 (Int.tdiv b2 (w64 (2 * b1)))), (w64 (Int.tdiv b3 (w64 (2 * b1)))))])) else none)))))))))
def Parith_InverseOf_j0 : SP := ⟨[(0, .p (.s (.sl [.i .i64, .i .i64, .i .i64, .i .i64]))), (5, .p (.s (.i .i64))), (6, .own 0), (8, .p (.s (.i .i64))), (9, .p (.s (.i .i64))), (10, .p (.s (.i .i64))), (11, .p (.s (.i .i64))), (29, .p (.s (.i .i64))), (30, .p (.s (.i .i64)))], [(0, .arr [.i .i64, .i .i64])]⟩
def earith_InverseOf_j0 (N : Nat) {R : Type} (n : Nat) (x : Parith_InverseOf_j0.den) (k : KS R) : Option R := match n with
  | 0 => none
  | _ + 1 => arith_InverseOf_j0 N (fun r0 => k .ret ⟨[(2, .own 0), (3, .p (.i .i64 r0))], [(0, .arr (.e 2))]⟩) (fun r0 r1 r2 r3 r4 => k (.ex 1032051) ⟨[(0, .p (.l (.t [.i .i64, .i .i64, .i .i64, .i .i64] r0))), (5, .p (.i .i64 r1)), (6, .own 0), (29, .p (.i .i64 r2)), (30, .p (.i .i64 r3))], [(0, .arr (.t [.i .i64, .i .i64] r4))]⟩) (fun r0 r1 => k .ret ⟨[(2, .own 0), (3, .p (.i .i64 r0))], [(0, .arr (.t [.i .i64, .i .i64] r1))]⟩) x.1.1 x.1.2.1 x.1.2.2.2.1 x.1.2.2.2.2.1 x.1.2.2.2.2.2.1 x.1.2.2.2.2.2.2.1 x.1.2.2.2.2.2.2.2.1 x.1.2.2.2.2.2.2.2.2.1 x.2.1
theorem loop_arith_InverseOf_j0 (N : Nat) {R : Type} : ∀ (n : Nat) (s : StS) (k : KS R) (r : R), lent' Parith_InverseOf_j0 (earith_InverseOf_j0 N n) s k = some r → ∃ e s', runL (runF T) [0, 5, 6, 8, 9, 10, 11, 29, 30] c27_j0 s.enc = some (e, s'.enc) ∧ k e s' = some r :=
  loop_ok (F68_ok N) (H := H_arith_InverseOf) (Lp := Larith_InverseOf_1 N) (X := X_arith_InverseOf) (p := 128206) (LOK_of (l := []) (by kernel_rfl) trivial) (fun _ _ => rfl) (fun n x k => by kernel_rfl)
noncomputable def Larith_InverseOf_2 (N : Nat) {R : Type} : Nat → StS → KS R → Option R := updL (Larith_InverseOf_1 N) 128206 (lent' Parith_InverseOf_j0 (earith_InverseOf_j0 N 1))
def arith_InverseOf_l0 (N : Nat) {R : Type} (k0 : Int → Option R) (k1 : Option R) (k2 : (List (Int × Int)) → Option R) (k3 : Int → (List (Int × Int)) → Option R) : Nat → (List (Int × Int × Int × Int)) → Int → Int → Int → (List (Int × Int)) → Option R
  | 0, _, _, _, _, _ => none
  | n + 1, b0, b1, b2, b3, b4 => (bif decide (b3 < b2) then (arith_InverseOf_l1 N (fun z34 z35 z36 z37 z38 z39 z40 z41 => (arith_InverseOf_j0 N (fun z42 => (k0 z42)) (fun z43 z44 z45 z46 z47 => (arith_InverseOf_l0 N k0 k1 k2 k3 n z43 z44 z45 (w64 (z46 + 1)) z47)) (fun z48 z49 => (k3 z48 z49)) z34 z35 z36 z37 z38 z39 z40 z41 [])) (fun z50 z51 z52 z53 z54 z55 z56 z57 z58 => (arith_InverseOf_j0 N (fun z59 => (k0 z59)) (fun z60 z61 z62 z63 z64 => (arith_InverseOf_l0 N k0 k1 k2 k3 n z60 z61 z62 (w64 (z63 + 1)) z64)) (fun z65 z66 => (k3 z65 z66)) z50 z51 z52 z53 z54 z55 z56 z57 z58)) N b0 b1 b3 0 0 0 0 b2 b3 b0 ((b0.length : Nat) : Int) 0 b4) else (k2 b4))
def Parith_InverseOf_l0 : SP := ⟨[(0, .p (.s (.sl [.i .i64, .i .i64, .i .i64, .i .i64]))), (5, .p (.s (.i .i64))), (6, .own 0), (29, .p (.s (.i .i64))), (30, .p (.s (.i .i64)))], [(0, .arr [.i .i64, .i .i64])]⟩
def earith_InverseOf_l0 (N : Nat) {R : Type} (n : Nat) (x : Parith_InverseOf_l0.den) (k : KS R) : Option R := arith_InverseOf_l0 N (fun r0 => k .ret ⟨[(2, .own 0), (3, .p (.i .i64 r0))], [(0, .arr (.e 2))]⟩) (k (.ex 0) ⟨[(6, .own 0)], [(0, .arr (.e 2))]⟩) (fun r0 => k (.ex 0) ⟨[(6, .own 0)], [(0, .arr (.t [.i .i64, .i .i64] r0))]⟩) (fun r0 r1 => k .ret ⟨[(2, .own 0), (3, .p (.i .i64 r0))], [(0, .arr (.t [.i .i64, .i .i64] r1))]⟩) n x.1.1 x.1.2.1 x.1.2.2.2.1 x.1.2.2.2.2.1 x.2.1
theorem loop_arith_InverseOf_l0 (N : Nat) {R : Type} : ∀ (n : Nat) (s : StS) (k : KS R) (r : R), lent' Parith_InverseOf_l0 (earith_InverseOf_l0 N n) s k = some r → ∃ e s', runL (runF T) [0, 5, 6, 29, 30] c27_l0 s.enc = some (e, s'.enc) ∧ k e s' = some r :=
  loop_ok (F68_ok N) (H := H_arith_InverseOf) (Lp := Larith_InverseOf_2 N) (X := X_arith_InverseOf) (p := 250) (LOK_of (l := [(256410, [0, 5, 6, 7, 8, 9, 10, 11, 29, 30, 33, 34, 35], c27_l1), (128206, [0, 5, 6, 8, 9, 10, 11, 29, 30], c27_j0)]) (by kernel_rfl) ⟨(updL_ne (by decide) (updL_ok (loop_arith_InverseOf_l1 N N))), (updL_ok (loop_arith_InverseOf_j0 N 1)), trivial⟩) (fun _ _ => rfl) (fun n x k => by kernel_rfl)
noncomputable def Larith_InverseOf_3 (N : Nat) {R : Type} : Nat → StS → KS R → Option R := updL (Larith_InverseOf_2 N) 250 (lent' Parith_InverseOf_l0 (earith_InverseOf_l0 N N))
def arith_InverseOf (N : Nat) {R : Type} (a0 : List (Int × Int × Int × Int)) (k0 : (List (Int × Int)) → Int → Option R) : Option R := (arith_isCount N ((a0.length : Nat) : Int) (fun y1 => (arith_unless N y1 10 (fun y2 => (arith_each_ArithNumber N a0 (fun y3 => (arith_unless N y3 2 (fun y4 => (arith_first N [y2, y4] (fun y5 => (bif decide (y5 ≠ 0) then (k0 [] y5) else (arith_InverseOf_l0 N (fun z67 => (k0 [] z67)) (k0 [] 0) (fun z68 => (k0 z68 0)) (fun z69 z70 => (k0 z70 z69)) N a0 ((a0.length : Nat) : Int) ((a0.length : Nat) : Int) 0 []))))))))))))
def P_arith_InverseOf : AP := ⟨[.p (.s (.sl [.i .i64, .i .i64, .i .i64, .i .i64]))], []⟩
def e_arith_InverseOf (N : Nat) {R : Type} (x : P_arith_InverseOf.den) (k : List Nat → List DS → HeapS → Option R) : Option R := arith_InverseOf N x.1.1 (fun r0 r1 => k [] [.p (.l (.t [.i .i64, .i .i64] r0)), .p (.i .i64 r1)] [])
noncomputable def F69 (N : Nat) {R : Type} : CfS R := updC (F68 N) 27 (ent P_arith_InverseOf (e_arith_InverseOf N) (F68 N 27))
theorem F69_ok (N : Nat) {R : Type} : FOK (F69 N : CfS R) (runF T) :=
  FOK_upd (F68_ok N) (Snd_ent (F68_ok N) (H := H_arith_InverseOf) (Lp := Larith_InverseOf_3 N) (X := X_arith_InverseOf) (rp := [⟨[.p (.s (.sl [.i .i64, .i .i64])), .p (.s (.i .i64))], []⟩]) (ver := c27) rfl (LOK_of (l := [(250, [0, 5, 6, 29, 30], c27_l0)]) (by kernel_rfl) ⟨(updL_ok (loop_arith_InverseOf_l0 N N)), trivial⟩) (fun x k => by kernel_rfl) (Snd_of (F68_ok N) 27 fun _ _ _ _ h => h))
def X_ratchetbase_Gausses : Nat → List SP := fun _ => []
def H_ratchetbase_Gausses : Nat → Option (List Sh) := fun n => none
noncomputable def Lratchetbase_Gausses_0 (N : Nat) {R : Type} : Nat → StS → KS R → Option R := noL
def ratchetbase_Gausses_l0 (N : Nat) {R : Type} (k0 : Bool → Option R) (k1 : Option R) : Nat → (List (Int × Int)) → (List (Int × Int)) → Int → Option R
  | 0, _, _, _ => none
  | n + 1, b0, b1, b2 => (bif decide (b2 < ((b0.length : Nat) : Int)) then ((at? b0 b2).bind fun x1 => ((at? b1 b2).bind fun x2 => (bif (true != (decide (x1.1 = x2.1) && (decide (x1.2 = x2.2) && true))) then (k0 false) else (ratchetbase_Gausses_l0 N k0 k1 n b0 b1 (w64 (b2 + 1)))))) else k1)
def Pratchetbase_Gausses_l0 : SP := ⟨[(0, .p (.s (.sl [.i .i64, .i .i64]))), (1, .p (.s (.sl [.i .i64, .i .i64]))), (5, .p (.s (.i .i64)))], []⟩
def eratchetbase_Gausses_l0 (N : Nat) {R : Type} (n : Nat) (x : Pratchetbase_Gausses_l0.den) (k : KS R) : Option R := ratchetbase_Gausses_l0 N (fun r0 => k .ret ⟨[(4, .p (.b r0))], []⟩) (k (.ex 0) ⟨[], []⟩) n x.1.1 x.1.2.1 x.1.2.2.1
theorem loop_ratchetbase_Gausses_l0 (N : Nat) {R : Type} : ∀ (n : Nat) (s : StS) (k : KS R) (r : R), lent' Pratchetbase_Gausses_l0 (eratchetbase_Gausses_l0 N n) s k = some r → ∃ e s', runL (runF T) [0, 1, 5] c31_l0 s.enc = some (e, s'.enc) ∧ k e s' = some r :=
  loop_ok (F69_ok N) (H := H_ratchetbase_Gausses) (Lp := Lratchetbase_Gausses_0 N) (X := X_ratchetbase_Gausses) (p := 58) (LOK_of (l := []) (by kernel_rfl) trivial) (fun _ _ => rfl) (fun n x k => by kernel_rfl)
noncomputable def Lratchetbase_Gausses_1 (N : Nat) {R : Type} : Nat → StS → KS R → Option R := updL (Lratchetbase_Gausses_0 N) 58 (lent' Pratchetbase_Gausses_l0 (eratchetbase_Gausses_l0 N N))
def ratchetbase_Gausses (N : Nat) {R : Type} (a0 : List (Int × Int)) (a1 : List (Int × Int)) (k0 : Bool → Option R) : Option R := (bif decide (((a0.length : Nat) : Int) ≠ ((a1.length : Nat) : Int)) then (k0 false) else (ratchetbase_Gausses_l0 N (fun z3 => (k0 z3)) (k0 true) N a0 a1 0))
def P_ratchetbase_Gausses : AP := ⟨[.p (.s (.sl [.i .i64, .i .i64])), .p (.s (.sl [.i .i64, .i .i64]))], []⟩
def e_ratchetbase_Gausses (N : Nat) {R : Type} (x : P_ratchetbase_Gausses.den) (k : List Nat → List DS → HeapS → Option R) : Option R := ratchetbase_Gausses N x.1.1 x.1.2.1 (fun r0 => k [] [.p (.b r0)] [])
noncomputable def F70 (N : Nat) {R : Type} : CfS R := updC (F69 N) 31 (ent P_ratchetbase_Gausses (e_ratchetbase_Gausses N) (F69 N 31))
theorem F70_ok (N : Nat) {R : Type} : FOK (F70 N : CfS R) (runF T) :=
  FOK_upd (F69_ok N) (Snd_ent (F69_ok N) (H := H_ratchetbase_Gausses) (Lp := Lratchetbase_Gausses_1 N) (X := X_ratchetbase_Gausses) (rp := []) (ver := c31) rfl (LOK_of (l := [(58, [0, 1, 5], c31_l0)]) (by kernel_rfl) ⟨(updL_ok (loop_ratchetbase_Gausses_l0 N N)), trivial⟩) (fun x k => by kernel_rfl) (Snd_of (F69_ok N) 31 fun _ _ _ _ h => h))
def X_ratchetlaw30_same : Nat → List SP := fun _ => []
def H_ratchetlaw30_same : Nat → Option (List Sh) := fun n => none
noncomputable def Lratchetlaw30_same_0 (N : Nat) {R : Type} : Nat → StS → KS R → Option R := noL
def ratchetlaw30_same_l0 (N : Nat) {R : Type} (k0 : Bool → Option R) (k1 : Option R) : Nat → (List (Int × Int × Int × Int)) → (List (Int × Int × Int × Int)) → Int → Option R
  | 0, _, _, _ => none
  | n + 1, b0, b1, b2 => (bif decide (b2 < ((b0.length : Nat) : Int)) then ((at? b0 b2).bind fun x1 => ((at? b1 b2).bind fun x2 => (bif (true != (decide (x1.1 = x2.1) && (decide (x1.2.1 = x2.2.1) && (decide (x1.2.2.1 = x2.2.2.1) && (decide (x1.2.2.2 = x2.2.2.2) && true))))) then (k0 false) else (ratchetlaw30_same_l0 N k0 k1 n b0 b1 (w64 (b2 + 1)))))) else k1)
def Pratchetlaw30_same_l0 : SP := ⟨[(0, .p (.s (.sl [.i .i64, .i .i64, .i .i64, .i .i64]))), (1, .p (.s (.sl [.i .i64, .i .i64, .i .i64, .i .i64]))), (5, .p (.s (.i .i64)))], []⟩
def eratchetlaw30_same_l0 (N : Nat) {R : Type} (n : Nat) (x : Pratchetlaw30_same_l0.den) (k : KS R) : Option R := ratchetlaw30_same_l0 N (fun r0 => k .ret ⟨[(4, .p (.b r0))], []⟩) (k (.ex 0) ⟨[], []⟩) n x.1.1 x.1.2.1 x.1.2.2.1
theorem loop_ratchetlaw30_same_l0 (N : Nat) {R : Type} : ∀ (n : Nat) (s : StS) (k : KS R) (r : R), lent' Pratchetlaw30_same_l0 (eratchetlaw30_same_l0 N n) s k = some r → ∃ e s', runL (runF T) [0, 1, 5] c37_l0 s.enc = some (e, s'.enc) ∧ k e s' = some r :=
  loop_ok (F70_ok N) (H := H_ratchetlaw30_same) (Lp := Lratchetlaw30_same_0 N) (X := X_ratchetlaw30_same) (p := 58) (LOK_of (l := []) (by kernel_rfl) trivial) (fun _ _ => rfl) (fun n x k => by kernel_rfl)
noncomputable def Lratchetlaw30_same_1 (N : Nat) {R : Type} : Nat → StS → KS R → Option R := updL (Lratchetlaw30_same_0 N) 58 (lent' Pratchetlaw30_same_l0 (eratchetlaw30_same_l0 N N))
def ratchetlaw30_same (N : Nat) {R : Type} (a0 : List (Int × Int × Int × Int)) (a1 : List (Int × Int × Int × Int)) (k0 : Bool → Option R) : Option R := (bif decide (((a0.length : Nat) : Int) ≠ ((a1.length : Nat) : Int)) then (k0 false) else (ratchetlaw30_same_l0 N (fun z3 => (k0 z3)) (k0 true) N a0 a1 0))
def P_ratchetlaw30_same : AP := ⟨[.p (.s (.sl [.i .i64, .i .i64, .i .i64, .i .i64])), .p (.s (.sl [.i .i64, .i .i64, .i .i64, .i .i64]))], []⟩
def e_ratchetlaw30_same (N : Nat) {R : Type} (x : P_ratchetlaw30_same.den) (k : List Nat → List DS → HeapS → Option R) : Option R := ratchetlaw30_same N x.1.1 x.1.2.1 (fun r0 => k [] [.p (.b r0)] [])
noncomputable def F71 (N : Nat) {R : Type} : CfS R := updC (F70 N) 37 (ent P_ratchetlaw30_same (e_ratchetlaw30_same N) (F70 N 37))
theorem F71_ok (N : Nat) {R : Type} : FOK (F71 N : CfS R) (runF T) :=
  FOK_upd (F70_ok N) (Snd_ent (F70_ok N) (H := H_ratchetlaw30_same) (Lp := Lratchetlaw30_same_1 N) (X := X_ratchetlaw30_same) (rp := []) (ver := c37) rfl (LOK_of (l := [(58, [0, 1, 5], c37_l0)]) (by kernel_rfl) ⟨(updL_ok (loop_ratchetlaw30_same_l0 N N)), trivial⟩) (fun x k => by kernel_rfl) (Snd_of (F70_ok N) 37 fun _ _ _ _ h => h))
def X_ratchetlaw30_ArithBoth : Nat → List SP := fun _ => []
def H_ratchetlaw30_ArithBoth : Nat → Option (List Sh) := fun n => if n = 55000 then some [.i .i64, .i .i64] else none
noncomputable def Lratchetlaw30_ArithBoth_0 (N : Nat) {R : Type} : Nat → StS → KS R → Option R := noL
def ratchetlaw30_ArithBoth_l0 (N : Nat) {R : Type} (k0 : Bool → Option R) (k1 : (List (Int × Int)) → (List (Int × Int)) → Int → Int → Option R) (k2 : (List (Int × Int)) → (List (Int × Int)) → (List (Int × Int)) → Int → Int → Option R) : Nat → (List (Int × Int)) → (List (Int × Int)) → Int → (List (Int × Int)) → Int → Int → Option R
  | 0, _, _, _, _, _, _ => none
  | n + 1, b0, b1, b2, b3, b4, b5 => (bif decide (b2 < ((b0.length : Nat) : Int)) then ((at? b0 b2).bind fun x1 => (ratchetbase_GPart N x1.1 x1.2 (fun y2 => (bif decide (500 < y2) then (k0 true) else ((at? b1 b2).bind fun x3 => (ratchetbase_GPart N x3.1 x3.2 (fun y4 => (bif decide (500 < y4) then (k0 true) else ((at? b0 b2).bind fun x5 => ((at? b1 b2).bind fun x6 => (ratchetbase_GAdd N x5.1 x5.2 x6.1 x6.2 (fun y7 y8 => (bif roomB (b3.length + 1) 16 then ((at? b0 b2).bind fun x9 => (ratchetbase_GAdd N b4 b5 x9.1 x9.2 (fun y10 y11 => (ratchetlaw30_ArithBoth_l0 N k0 k1 k2 n b0 b1 (w64 (b2 + 1)) (b3 ++ [(y7, y8)]) y10 y11)))) else none))))))))))))) else (k2 b0 b1 b3 b4 b5))
def Pratchetlaw30_ArithBoth_l0 : SP := ⟨[(0, .p (.s (.sl [.i .i64, .i .i64]))), (1, .p (.s (.sl [.i .i64, .i .i64]))), (5, .own 0), (6, .ptr 1 0), (7, .p (.s (.i .i64)))], [(0, .arr [.i .i64, .i .i64]), (1, .box [.p (.s (.i .i64)), .p (.s (.i .i64))])]⟩
def eratchetlaw30_ArithBoth_l0 (N : Nat) {R : Type} (n : Nat) (x : Pratchetlaw30_ArithBoth_l0.den) (k : KS R) : Option R := ratchetlaw30_ArithBoth_l0 N (fun r0 => k .ret ⟨[(4, .p (.b r0))], []⟩) (fun r0 r1 r2 r3 => k (.ex 0) ⟨[(0, .p (.l (.t [.i .i64, .i .i64] r0))), (1, .p (.l (.t [.i .i64, .i .i64] r1))), (5, .own 0), (6, .ptr 1 0)], [(0, .arr (.e 2)), (1, .box [.p (.i .i64 r2), .p (.i .i64 r3)])]⟩) (fun r0 r1 r2 r3 r4 => k (.ex 0) ⟨[(0, .p (.l (.t [.i .i64, .i .i64] r0))), (1, .p (.l (.t [.i .i64, .i .i64] r1))), (5, .own 0), (6, .ptr 1 0)], [(0, .arr (.t [.i .i64, .i .i64] r2)), (1, .box [.p (.i .i64 r3), .p (.i .i64 r4)])]⟩) n x.1.1 x.1.2.1 x.1.2.2.2.2.1 x.2.1 x.2.2.1.1 x.2.2.1.2.1
theorem loop_ratchetlaw30_ArithBoth_l0 (N : Nat) {R : Type} : ∀ (n : Nat) (s : StS) (k : KS R) (r : R), lent' Pratchetlaw30_ArithBoth_l0 (eratchetlaw30_ArithBoth_l0 N n) s k = some r → ∃ e s', runL (runF T) [0, 1, 5, 6, 7] c7_l0 s.enc = some (e, s'.enc) ∧ k e s' = some r :=
  loop_ok (F71_ok N) (H := H_ratchetlaw30_ArithBoth) (Lp := Lratchetlaw30_ArithBoth_0 N) (X := X_ratchetlaw30_ArithBoth) (p := 506) (LOK_of (l := []) (by kernel_rfl) trivial) (fun _ _ => rfl) (fun n x k => by kernel_rfl)
noncomputable def Lratchetlaw30_ArithBoth_1 (N : Nat) {R : Type} : Nat → StS → KS R → Option R := updL (Lratchetlaw30_ArithBoth_0 N) 506 (lent' Pratchetlaw30_ArithBoth_l0 (eratchetlaw30_ArithBoth_l0 N N))
def ratchetlaw30_ArithBoth_l1 (N : Nat) {R : Type} (k0 : Bool → Option R) (k1 : (List (Int × Int × Int × Int)) → Int → Int → Option R) : Nat → (List (Int × Int)) → (List (Int × Int × Int × Int)) → (List (Int × Int × Int × Int)) → (List (Int × Int × Int × Int)) → Int → Int → Int → Option R
  | 0, _, _, _, _, _, _, _ => none
  | n + 1, b0, b1, b2, b3, b4, b5, b6 => (bif decide (b4 < ((b0.length : Nat) : Int)) then ((at? b3 b4).bind fun x1 => ((at? b1 b4).bind fun x2 => ((at? b2 b4).bind fun x3 => ((at? b1 b4).bind fun x4 => ((at? b2 b4).bind fun x5 => ((at? b1 b4).bind fun x6 => ((at? b2 b4).bind fun x7 => ((at? b1 b4).bind fun x8 => ((at? b2 b4).bind fun x9 => (bif (true != (decide (x1.1 = (w64 (x2.1 + x3.1))) && (decide (x1.2.1 = (w64 (x4.2.1 + x5.2.1))) && (decide (x1.2.2.1 = (w64 (x6.2.2.1 + x7.2.2.1))) && (decide (x1.2.2.2 = (w64 (x8.2.2.2 + x9.2.2.2))) && true))))) then (k0 false) else (ratchetlaw30_ArithBoth_l1 N k0 k1 n b0 b1 b2 b3 (w64 (b4 + 1)) b5 b6))))))))))) else (k1 b1 b5 b6))
def Pratchetlaw30_ArithBoth_l1 : SP := ⟨[(0, .p (.s (.sl [.i .i64, .i .i64]))), (6, .ptr 0 0), (8, .p (.s (.sl [.i .i64, .i .i64, .i .i64, .i .i64]))), (10, .p (.s (.sl [.i .i64, .i .i64, .i .i64, .i .i64]))), (12, .p (.s (.sl [.i .i64, .i .i64, .i .i64, .i .i64]))), (18, .p (.s (.i .i64)))], [(0, .box [.p (.s (.i .i64)), .p (.s (.i .i64))])]⟩
def eratchetlaw30_ArithBoth_l1 (N : Nat) {R : Type} (n : Nat) (x : Pratchetlaw30_ArithBoth_l1.den) (k : KS R) : Option R := ratchetlaw30_ArithBoth_l1 N (fun r0 => k .ret ⟨[(4, .p (.b r0))], []⟩) (fun r0 r1 r2 => k (.ex 2) ⟨[(6, .ptr 0 0), (8, .p (.l (.t [.i .i64, .i .i64, .i .i64, .i .i64] r0)))], [(0, .box [.p (.i .i64 r1), .p (.i .i64 r2)])]⟩) n x.1.1 x.1.2.2.1 x.1.2.2.2.1 x.1.2.2.2.2.1 x.1.2.2.2.2.2.1 x.2.1.1 x.2.1.2.1
theorem loop_ratchetlaw30_ArithBoth_l1 (N : Nat) {R : Type} : ∀ (n : Nat) (s : StS) (k : KS R) (r : R), lent' Pratchetlaw30_ArithBoth_l1 (eratchetlaw30_ArithBoth_l1 N n) s k = some r → ∃ e s', runL (runF T) [0, 6, 8, 10, 12, 18] c7_l1 s.enc = some (e, s'.enc) ∧ k e s' = some r :=
  loop_ok (F71_ok N) (H := H_ratchetlaw30_ArithBoth) (Lp := Lratchetlaw30_ArithBoth_1 N) (X := X_ratchetlaw30_ArithBoth) (p := 266585154) (LOK_of (l := []) (by kernel_rfl) trivial) (fun _ _ => rfl) (fun n x k => by kernel_rfl)
noncomputable def Lratchetlaw30_ArithBoth_2 (N : Nat) {R : Type} : Nat → StS → KS R → Option R := updL (Lratchetlaw30_ArithBoth_1 N) 266585154 (lent' Pratchetlaw30_ArithBoth_l1 (eratchetlaw30_ArithBoth_l1 N N))
def ratchetlaw30_ArithBoth_j3 (N : Nat) {R : Type} (k0 : Bool → Option R) (b0 : List (Int × Int)) (b1 : List (Int × Int × Int × Int)) (b2 : List (Int × Int × Int × Int)) (b3 : List (Int × Int × Int × Int)) (b4 : Int) (b5 : Int) : Option R := (ratchetlaw30_ArithBoth_l1 N (fun z10 => (k0 z10)) (fun z11 z12 z13 => ((at? z11 0).bind fun x14 => (k0 (false != (decide (x14.1 = z12) && (decide (x14.2.1 = 0) && (decide (x14.2.2.1 = z13) && (decide (x14.2.2.2 = 0) && true)))))))) N b0 b1 b2 b3 0 b4 b5)
def Pratchetlaw30_ArithBoth_j3 : SP := ⟨[(0, .p (.s (.sl [.i .i64, .i .i64]))), (6, .ptr 0 0), (8, .p (.s (.sl [.i .i64, .i .i64, .i .i64, .i .i64]))), (10, .p (.s (.sl [.i .i64, .i .i64, .i .i64, .i .i64]))), (12, .p (.s (.sl [.i .i64, .i .i64, .i .i64, .i .i64])))], [(0, .box [.p (.s (.i .i64)), .p (.s (.i .i64))])]⟩
def eratchetlaw30_ArithBoth_j3 (N : Nat) {R : Type} (n : Nat) (x : Pratchetlaw30_ArithBoth_j3.den) (k : KS R) : Option R := match n with
  | 0 => none
  | _ + 1 => ratchetlaw30_ArithBoth_j3 N (fun r0 => k .ret ⟨[(4, .p (.b r0))], []⟩) x.1.1 x.1.2.2.1 x.1.2.2.2.1 x.1.2.2.2.2.1 x.2.1.1 x.2.1.2.1
theorem loop_ratchetlaw30_ArithBoth_j3 (N : Nat) {R : Type} : ∀ (n : Nat) (s : StS) (k : KS R) (r : R), lent' Pratchetlaw30_ArithBoth_j3 (eratchetlaw30_ArithBoth_j3 N n) s k = some r → ∃ e s', runL (runF T) [0, 6, 8, 10, 12] c7_j3 s.enc = some (e, s'.enc) ∧ k e s' = some r :=
  loop_ok (F71_ok N) (H := H_ratchetlaw30_ArithBoth) (Lp := Lratchetlaw30_ArithBoth_2 N) (X := X_ratchetlaw30_ArithBoth) (p := 8330786) (LOK_of (l := [(266585154, [0, 6, 8, 10, 12, 18], c7_l1)]) (by kernel_rfl) ⟨(updL_ok (loop_ratchetlaw30_ArithBoth_l1 N N)), trivial⟩) (fun _ _ => rfl) (fun n x k => by kernel_rfl)
noncomputable def Lratchetlaw30_ArithBoth_3 (N : Nat) {R : Type} : Nat → StS → KS R → Option R := updL (Lratchetlaw30_ArithBoth_2 N) 8330786 (lent' Pratchetlaw30_ArithBoth_j3 (eratchetlaw30_ArithBoth_j3 N 1))
def ratchetlaw30_ArithBoth_j2 (N : Nat) {R : Type} (k0 : Bool → Option R) (b0 : List (Int × Int)) (b1 : List (Int × Int × Int × Int)) (b2 : Int) (b3 : List (Int × Int × Int × Int)) (b4 : Int) (b5 : List (Int × Int × Int × Int)) (b6 : Int) (b7 : List (Int × Int)) (b8 : Int) (b9 : List (Int × Int × Int × Int)) (b10 : Int) (b11 : Int) (b12 : Int) : Option R := (bif decide (b2 ≠ 0) then (k0 false) else (bif decide (b4 ≠ 0) then (k0 false) else (bif decide (b6 ≠ 0) then (k0 false) else (bif decide (b8 ≠ 0) then (k0 false) else (bif decide (b10 ≠ 0) then (k0 false) else (ratchetbase_Gausses N b7 b0 (fun y1 => (bif (!y1) then (k0 false) else (ratchetlaw30_same N b1 b9 (fun y2 => (bif (!y2) then (k0 false) else (bif decide (((b1.length : Nat) : Int) ≠ ((b0.length : Nat) : Int)) then (k0 false) else (bif decide (((b3.length : Nat) : Int) ≠ ((b0.length : Nat) : Int)) then (k0 false) else (bif decide (((b5.length : Nat) : Int) ≠ ((b0.length : Nat) : Int)) then (k0 false) else (ratchetlaw30_ArithBoth_j3 N (fun z15 => (k0 z15)) b0 b1 b3 b5 b11 b12)))))))))))))))
def Pratchetlaw30_ArithBoth_j2 : SP := ⟨[(0, .p (.s (.sl [.i .i64, .i .i64]))), (6, .ptr 0 0), (8, .p (.s (.sl [.i .i64, .i .i64, .i .i64, .i .i64]))), (9, .p (.s (.i .i64))), (10, .p (.s (.sl [.i .i64, .i .i64, .i .i64, .i .i64]))), (11, .p (.s (.i .i64))), (12, .p (.s (.sl [.i .i64, .i .i64, .i .i64, .i .i64]))), (13, .p (.s (.i .i64))), (14, .p (.s (.sl [.i .i64, .i .i64]))), (15, .p (.s (.i .i64))), (16, .p (.s (.sl [.i .i64, .i .i64, .i .i64, .i .i64]))), (17, .p (.s (.i .i64)))], [(0, .box [.p (.s (.i .i64)), .p (.s (.i .i64))])]⟩
def eratchetlaw30_ArithBoth_j2 (N : Nat) {R : Type} (n : Nat) (x : Pratchetlaw30_ArithBoth_j2.den) (k : KS R) : Option R := match n with
  | 0 => none
  | _ + 1 => ratchetlaw30_ArithBoth_j2 N (fun r0 => k .ret ⟨[(4, .p (.b r0))], []⟩) x.1.1 x.1.2.2.1 x.1.2.2.2.1 x.1.2.2.2.2.1 x.1.2.2.2.2.2.1 x.1.2.2.2.2.2.2.1 x.1.2.2.2.2.2.2.2.1 x.1.2.2.2.2.2.2.2.2.1 x.1.2.2.2.2.2.2.2.2.2.1 x.1.2.2.2.2.2.2.2.2.2.2.1 x.1.2.2.2.2.2.2.2.2.2.2.2.1 x.2.1.1 x.2.1.2.1
theorem loop_ratchetlaw30_ArithBoth_j2 (N : Nat) {R : Type} : ∀ (n : Nat) (s : StS) (k : KS R) (r : R), lent' Pratchetlaw30_ArithBoth_j2 (eratchetlaw30_ArithBoth_j2 N n) s k = some r → ∃ e s', runL (runF T) [0, 6, 8, 9, 10, 11, 12, 13, 14, 15, 16, 17] c7_j2 s.enc = some (e, s'.enc) ∧ k e s' = some r :=
  loop_ok (F71_ok N) (H := H_ratchetlaw30_ArithBoth) (Lp := Lratchetlaw30_ArithBoth_3 N) (X := X_ratchetlaw30_ArithBoth) (p := 520674) (LOK_of (l := [(8330786, [0, 6, 8, 10, 12], c7_j3)]) (by kernel_rfl) ⟨(updL_ok (loop_ratchetlaw30_ArithBoth_j3 N 1)), trivial⟩) (fun _ _ => rfl) (fun n x k => by kernel_rfl)
noncomputable def Lratchetlaw30_ArithBoth_4 (N : Nat) {R : Type} : Nat → StS → KS R → Option R := updL (Lratchetlaw30_ArithBoth_3 N) 520674 (lent' Pratchetlaw30_ArithBoth_j2 (eratchetlaw30_ArithBoth_j2 N 1))
def ratchetlaw30_ArithBoth_j1 (N : Nat) {R : Type} (k0 : Bool → Option R) (b0 : List (Int × Int)) (b1 : List (Int × Int × Int × Int)) (b2 : Int) (b3 : List (Int × Int × Int × Int)) (b4 : Int) (b5 : List (Int × Int × Int × Int)) (b6 : Int) (b7 : List (Int × Int)) (b8 : Int) (b9 : Int) (b10 : Int) : Option R := (ratchetbase_CopyGausses N b0 (fun y1 => (arith_TransformFast N y1 (fun y2 y3 => (ratchetlaw30_ArithBoth_j2 N (fun z16 => (k0 z16)) b0 b1 b2 b3 b4 b5 b6 b7 b8 y2 y3 b9 b10)))))
def Pratchetlaw30_ArithBoth_j1 : SP := ⟨[(0, .p (.s (.sl [.i .i64, .i .i64]))), (6, .ptr 0 0), (8, .p (.s (.sl [.i .i64, .i .i64, .i .i64, .i .i64]))), (9, .p (.s (.i .i64))), (10, .p (.s (.sl [.i .i64, .i .i64, .i .i64, .i .i64]))), (11, .p (.s (.i .i64))), (12, .p (.s (.sl [.i .i64, .i .i64, .i .i64, .i .i64]))), (13, .p (.s (.i .i64))), (14, .p (.s (.sl [.i .i64, .i .i64]))), (15, .p (.s (.i .i64)))], [(0, .box [.p (.s (.i .i64)), .p (.s (.i .i64))])]⟩
def eratchetlaw30_ArithBoth_j1 (N : Nat) {R : Type} (n : Nat) (x : Pratchetlaw30_ArithBoth_j1.den) (k : KS R) : Option R := match n with
  | 0 => none
  | _ + 1 => ratchetlaw30_ArithBoth_j1 N (fun r0 => k .ret ⟨[(4, .p (.b r0))], []⟩) x.1.1 x.1.2.2.1 x.1.2.2.2.1 x.1.2.2.2.2.1 x.1.2.2.2.2.2.1 x.1.2.2.2.2.2.2.1 x.1.2.2.2.2.2.2.2.1 x.1.2.2.2.2.2.2.2.2.1 x.1.2.2.2.2.2.2.2.2.2.1 x.2.1.1 x.2.1.2.1
theorem loop_ratchetlaw30_ArithBoth_j1 (N : Nat) {R : Type} : ∀ (n : Nat) (s : StS) (k : KS R) (r : R), lent' Pratchetlaw30_ArithBoth_j1 (eratchetlaw30_ArithBoth_j1 N n) s k = some r → ∃ e s', runL (runF T) [0, 6, 8, 9, 10, 11, 12, 13, 14, 15] c7_j1 s.enc = some (e, s'.enc) ∧ k e s' = some r :=
  loop_ok (F71_ok N) (H := H_ratchetlaw30_ArithBoth) (Lp := Lratchetlaw30_ArithBoth_4 N) (X := X_ratchetlaw30_ArithBoth) (p := 32542) (LOK_of (l := [(520674, [0, 6, 8, 9, 10, 11, 12, 13, 14, 15, 16, 17], c7_j2)]) (by kernel_rfl) ⟨(updL_ok (loop_ratchetlaw30_ArithBoth_j2 N 1)), trivial⟩) (fun _ _ => rfl) (fun n x k => by kernel_rfl)
noncomputable def Lratchetlaw30_ArithBoth_5 (N : Nat) {R : Type} : Nat → StS → KS R → Option R := updL (Lratchetlaw30_ArithBoth_4 N) 32542 (lent' Pratchetlaw30_ArithBoth_j1 (eratchetlaw30_ArithBoth_j1 N 1))
def ratchetlaw30_ArithBoth_j0 (N : Nat) {R : Type} (k0 : Bool → Option R) (b0 : List (Int × Int)) (b1 : List (Int × Int)) (b2 : List (Int × Int)) (b3 : Int) (b4 : Int) : Option R := (ratchetbase_CopyGausses N b0 (fun y1 => (arith_TransformOf N y1 (fun y2 y3 => (ratchetbase_CopyGausses N b1 (fun y4 => (arith_TransformFast N y4 (fun y5 y6 => (arith_TransformFast N b2 (fun y7 y8 => (ratchetlaw30_copyNumbers N y2 (fun y9 => (arith_InverseOf N y9 (fun y10 y11 => (ratchetlaw30_ArithBoth_j1 N (fun z17 => (k0 z17)) b0 y2 y3 y5 y6 y7 y8 y10 y11 b3 b4)))))))))))))))
def Pratchetlaw30_ArithBoth_j0 : SP := ⟨[(0, .p (.s (.sl [.i .i64, .i .i64]))), (1, .p (.s (.sl [.i .i64, .i .i64]))), (5, .own 0), (6, .ptr 1 0)], [(0, .arr [.i .i64, .i .i64]), (1, .box [.p (.s (.i .i64)), .p (.s (.i .i64))])]⟩
def eratchetlaw30_ArithBoth_j0 (N : Nat) {R : Type} (n : Nat) (x : Pratchetlaw30_ArithBoth_j0.den) (k : KS R) : Option R := match n with
  | 0 => none
  | _ + 1 => ratchetlaw30_ArithBoth_j0 N (fun r0 => k .ret ⟨[(4, .p (.b r0))], []⟩) x.1.1 x.1.2.1 x.2.1 x.2.2.1.1 x.2.2.1.2.1
theorem loop_ratchetlaw30_ArithBoth_j0 (N : Nat) {R : Type} : ∀ (n : Nat) (s : StS) (k : KS R) (r : R), lent' Pratchetlaw30_ArithBoth_j0 (eratchetlaw30_ArithBoth_j0 N n) s k = some r → ∃ e s', runL (runF T) [0, 1, 5, 6] c7_j0 s.enc = some (e, s'.enc) ∧ k e s' = some r :=
  loop_ok (F71_ok N) (H := H_ratchetlaw30_ArithBoth) (Lp := Lratchetlaw30_ArithBoth_5 N) (X := X_ratchetlaw30_ArithBoth) (p := 254) (LOK_of (l := [(32542, [0, 6, 8, 9, 10, 11, 12, 13, 14, 15], c7_j1)]) (by kernel_rfl) ⟨(updL_ok (loop_ratchetlaw30_ArithBoth_j1 N 1)), trivial⟩) (fun _ _ => rfl) (fun n x k => by kernel_rfl)
noncomputable def Lratchetlaw30_ArithBoth_6 (N : Nat) {R : Type} : Nat → StS → KS R → Option R := updL (Lratchetlaw30_ArithBoth_5 N) 254 (lent' Pratchetlaw30_ArithBoth_j0 (eratchetlaw30_ArithBoth_j0 N 1))
def ratchetlaw30_ArithBoth (N : Nat) {R : Type} (a0 : List (Int × Int)) (a1 : List (Int × Int)) (k0 : Bool → Option R) : Option R := (ratchetlaw30_awake N (fun y1 => (bif (!y1) then (k0 false) else (bif decide (((a0.length : Nat) : Int) ≠ ((a1.length : Nat) : Int)) then (k0 true) else (ratchetref30_PointsErr N a0 (fun y2 => (bif decide (y2 ≠ 0) then (k0 true) else (ratchetref30_PointsErr N a1 (fun y3 => (bif decide (y3 ≠ 0) then (k0 true) else (ratchetlaw30_ArithBoth_l0 N (fun z12 => (k0 z12)) (fun z13 z14 z15 z16 => (ratchetlaw30_ArithBoth_j0 N (fun z18 => (k0 z18)) z13 z14 [] z15 z16)) (fun z19 z20 z21 z22 z23 => (ratchetlaw30_ArithBoth_j0 N (fun z24 => (k0 z24)) z19 z20 z21 z22 z23)) N a0 a1 0 [] 0 0)))))))))))
def P_ratchetlaw30_ArithBoth : AP := ⟨[.p (.s (.sl [.i .i64, .i .i64])), .p (.s (.sl [.i .i64, .i .i64]))], []⟩
def e_ratchetlaw30_ArithBoth (N : Nat) {R : Type} (x : P_ratchetlaw30_ArithBoth.den) (k : List Nat → List DS → HeapS → Option R) : Option R := ratchetlaw30_ArithBoth N x.1.1 x.1.2.1 (fun r0 => k [] [.p (.b r0)] [])
noncomputable def F72 (N : Nat) {R : Type} : CfS R := updC (F71 N) 7 (ent P_ratchetlaw30_ArithBoth (e_ratchetlaw30_ArithBoth N) (F71 N 7))
theorem F72_ok (N : Nat) {R : Type} : FOK (F72 N : CfS R) (runF T) :=
  FOK_upd (F71_ok N) (Snd_ent (F71_ok N) (H := H_ratchetlaw30_ArithBoth) (Lp := Lratchetlaw30_ArithBoth_6 N) (X := X_ratchetlaw30_ArithBoth) (rp := []) (ver := c7) rfl (LOK_of (l := [(506, [0, 1, 5, 6, 7], c7_l0), (254, [0, 1, 5, 6], c7_j0)]) (by kernel_rfl) ⟨(updL_ne (by decide) (updL_ne (by decide) (updL_ne (by decide) (updL_ne (by decide) (updL_ne (by decide) (updL_ok (loop_ratchetlaw30_ArithBoth_l0 N N))))))), (updL_ok (loop_ratchetlaw30_ArithBoth_j0 N 1)), trivial⟩) (fun x k => by kernel_rfl) (Snd_of (F71_ok N) 7 fun _ _ _ _ h => h))
/-- What is left to show. -/
def PureArithBoth : Prop := ∀ (x0 : List (Int × Int)) (x1 : List (Int × Int)), okL [.sl [.i .i64, .i .i64]] x0 → okL [.sl [.i .i64, .i .i64]] x1 → ∃ N, ∀ {R : Type} (k : Bool → Option R), ratchetlaw30_ArithBoth N x0 x1 k = k true
end Am
end Go.Proofs.YteamkapbkccdeaaDoor
