/- Each function that is reached as a function on plain data, and that the version comes to it. -/
import Derived.Test.YteamkapbkccdeaaGreatDoorAZC
set_option linter.unusedVariables false
set_option linter.constructorNameAsVariable false
set_option maxRecDepth 100000
namespace Go.Proofs.YteamkapbkccdeaaGreatDoor
namespace Am
noncomputable def F0 (N : Nat) {R : Type} : CfS R := (updC (updC (updC (updC nilC 69 itoaE) 70 repE) 97 addE) 158 ixbE)
theorem F0_ok (N : Nat) {R : Type} : FOK (F0 N : CfS R) (runF T) := (FOK_upd (FOK_upd (FOK_upd (FOK_upd FOK_nil (Snd_itoa rfl rfl)) (Snd_rep rfl rfl)) (Snd_add rfl rfl)) (Snd_ixb rfl rfl))
def X_ratchetlaw30_Form : Nat → List SP := fun _ => []
def H_ratchetlaw30_Form : Nat → Option (List Sh) := fun n => none
noncomputable def Lratchetlaw30_Form_0 (N : Nat) {R : Type} : Nat → StS → KS R → Option R := noL
def ratchetlaw30_Form (N : Nat) {R : Type} (k0 : Int → Int → Int → Int → Option R) : Option R := (k0 8 4 1 1)
def P_ratchetlaw30_Form : AP := ⟨[], []⟩
def e_ratchetlaw30_Form (N : Nat) {R : Type} (x : P_ratchetlaw30_Form.den) (k : List Nat → List DS → HeapS → Option R) : Option R := ratchetlaw30_Form N (fun r0 r1 r2 r3 => k [] [.agg [.p (.i .i64 r0), .p (.i .i64 r1), .p (.i .i64 r2), .p (.i .i64 r3)]] [])
noncomputable def F1 (N : Nat) {R : Type} : CfS R := updC (F0 N) 36 (ent P_ratchetlaw30_Form (e_ratchetlaw30_Form N) (F0 N 36))
theorem F1_ok (N : Nat) {R : Type} : FOK (F1 N : CfS R) (runF T) :=
  FOK_upd (F0_ok N) (Snd_ent (F0_ok N) (H := H_ratchetlaw30_Form) (Lp := Lratchetlaw30_Form_0 N) (X := X_ratchetlaw30_Form) (rp := []) (ver := c36) rfl (LOK_of (l := []) (by kernel_rfl) trivial) (fun x k => by kernel_rfl) (Snd_of (F0_ok N) 36 fun _ _ _ _ h => h))
def X_arith_divisor : Nat → List SP := fun _ => []
def H_arith_divisor : Nat → Option (List Sh) := fun n => none
noncomputable def Larith_divisor_0 (N : Nat) {R : Type} : Nat → StS → KS R → Option R := noL
def arith_divisor_l0 (N : Nat) {R : Type} (k0 : Int → Option R) : Nat → Int → Int → Option R
  | 0, _, _ => none
  | n + 1, b0, b1 => (bif decide (b1 ≠ 0) then (bif decide (b1 = 0) then none else (arith_divisor_l0 N k0 n b1 (Int.tmod b0 b1))) else (k0 b0))
def Parith_divisor_l0 : SP := ⟨[(0, .p (.s (.i .i64))), (1, .p (.s (.i .i64)))], []⟩
def earith_divisor_l0 (N : Nat) {R : Type} (n : Nat) (x : Parith_divisor_l0.den) (k : KS R) : Option R := arith_divisor_l0 N (fun r0 => k (.ex 0) ⟨[(0, .p (.i .i64 r0))], []⟩) n x.1.1 x.1.2.1
theorem loop_arith_divisor_l0 (N : Nat) {R : Type} : ∀ (n : Nat) (s : StS) (k : KS R) (r : R), lent' Parith_divisor_l0 (earith_divisor_l0 N n) s k = some r → ∃ e s', runL (runF T) [0, 1] c83_l0 s.enc = some (e, s'.enc) ∧ k e s' = some r :=
  loop_ok (F1_ok N) (H := H_arith_divisor) (Lp := Larith_divisor_0 N) (X := X_arith_divisor) (p := 12) (LOK_of (l := []) (by kernel_rfl) trivial) (fun _ _ => rfl) (fun n x k => by kernel_rfl)
noncomputable def Larith_divisor_1 (N : Nat) {R : Type} : Nat → StS → KS R → Option R := updL (Larith_divisor_0 N) 12 (lent' Parith_divisor_l0 (earith_divisor_l0 N N))
def arith_divisor (N : Nat) {R : Type} (a0 : Int) (a1 : Int) (k0 : Int → Option R) : Option R := (arith_divisor_l0 N (fun z1 => (k0 (max z1 (w64 (0 - z1))))) N a0 a1)
def P_arith_divisor : AP := ⟨[.p (.s (.i .i64)), .p (.s (.i .i64))], []⟩
def e_arith_divisor (N : Nat) {R : Type} (x : P_arith_divisor.den) (k : List Nat → List DS → HeapS → Option R) : Option R := arith_divisor N x.1.1 x.1.2.1 (fun r0 => k [] [.p (.i .i64 r0)] [])
noncomputable def F2 (N : Nat) {R : Type} : CfS R := updC (F1 N) 83 (ent P_arith_divisor (e_arith_divisor N) (F1 N 83))
theorem F2_ok (N : Nat) {R : Type} : FOK (F2 N : CfS R) (runF T) :=
  FOK_upd (F1_ok N) (Snd_ent (F1_ok N) (H := H_arith_divisor) (Lp := Larith_divisor_1 N) (X := X_arith_divisor) (rp := []) (ver := c83) rfl (LOK_of (l := [(12, [0, 1], c83_l0)]) (by kernel_rfl) ⟨(updL_ok (loop_arith_divisor_l0 N N)), trivial⟩) (fun x k => by kernel_rfl) (Snd_of (F1_ok N) 83 fun _ _ _ _ h => h))
def X_arith_unless : Nat → List SP := fun _ => []
def H_arith_unless : Nat → Option (List Sh) := fun n => none
noncomputable def Larith_unless_0 (N : Nat) {R : Type} : Nat → StS → KS R → Option R := noL
def arith_unless (N : Nat) {R : Type} (a0 : Bool) (a1 : Int) (k0 : Int → Option R) : Option R := (bif a0 then (k0 0) else (k0 a1))
def P_arith_unless : AP := ⟨[.p (.s .b), .p (.s (.i .i64))], []⟩
def e_arith_unless (N : Nat) {R : Type} (x : P_arith_unless.den) (k : List Nat → List DS → HeapS → Option R) : Option R := arith_unless N x.1.1 x.1.2.1 (fun r0 => k [] [.p (.i .i64 r0)] [])
noncomputable def F3 (N : Nat) {R : Type} : CfS R := updC (F2 N) 43 (ent P_arith_unless (e_arith_unless N) (F2 N 43))
theorem F3_ok (N : Nat) {R : Type} : FOK (F3 N : CfS R) (runF T) :=
  FOK_upd (F2_ok N) (Snd_ent (F2_ok N) (H := H_arith_unless) (Lp := Larith_unless_0 N) (X := X_arith_unless) (rp := []) (ver := c43) rfl (LOK_of (l := []) (by kernel_rfl) trivial) (fun x k => by kernel_rfl) (Snd_of (F2_ok N) 43 fun _ _ _ _ h => h))
def X_arith_within : Nat → List SP := fun _ => []
def H_arith_within : Nat → Option (List Sh) := fun n => none
noncomputable def Larith_within_0 (N : Nat) {R : Type} : Nat → StS → KS R → Option R := noL
def arith_within (N : Nat) {R : Type} (a0 : Int) (a1 : Int) (a2 : Int) (k0 : Bool → Option R) : Option R := (bif decide (a1 ≤ a0) then (k0 (decide (a0 ≤ a2))) else (k0 false))
def P_arith_within : AP := ⟨[.p (.s (.i .i64)), .p (.s (.i .i64)), .p (.s (.i .i64))], []⟩
def e_arith_within (N : Nat) {R : Type} (x : P_arith_within.den) (k : List Nat → List DS → HeapS → Option R) : Option R := arith_within N x.1.1 x.1.2.1 x.1.2.2.1 (fun r0 => k [] [.p (.b r0)] [])
noncomputable def F4 (N : Nat) {R : Type} : CfS R := updC (F3 N) 58 (ent P_arith_within (e_arith_within N) (F3 N 58))
theorem F4_ok (N : Nat) {R : Type} : FOK (F4 N : CfS R) (runF T) :=
  FOK_upd (F3_ok N) (Snd_ent (F3_ok N) (H := H_arith_within) (Lp := Larith_within_0 N) (X := X_arith_within) (rp := []) (ver := c58) rfl (LOK_of (l := []) (by kernel_rfl) trivial) (fun x k => by kernel_rfl) (Snd_of (F3_ok N) 58 fun _ _ _ _ h => h))
def X_arith_first : Nat → List SP := fun _ => []
def H_arith_first : Nat → Option (List Sh) := fun n => none
noncomputable def Larith_first_0 (N : Nat) {R : Type} : Nat → StS → KS R → Option R := noL
def arith_first_l0 (N : Nat) {R : Type} (k0 : Int → Option R) (k1 : Option R) : Nat → List Int → Int → Int → Option R
  | 0, _, _, _ => none
  | n + 1, b0, b1, b2 => (bif decide (b2 < b1) then ((at? b0 b2).bind fun x1 => (bif decide (x1 ≠ 0) then (k0 x1) else (arith_first_l0 N k0 k1 n b0 b1 (w64 (b2 + 1))))) else k1)
def Parith_first_l0 : SP := ⟨[(5, .p (.s (.sl [.i .i64]))), (6, .p (.s (.i .i64))), (7, .p (.s (.i .i64)))], []⟩
def earith_first_l0 (N : Nat) {R : Type} (n : Nat) (x : Parith_first_l0.den) (k : KS R) : Option R := arith_first_l0 N (fun r0 => k .ret ⟨[(2, .p (.i .i64 r0))], []⟩) (k (.ex 0) ⟨[], []⟩) n x.1.1 x.1.2.1 x.1.2.2.1
theorem loop_arith_first_l0 (N : Nat) {R : Type} : ∀ (n : Nat) (s : StS) (k : KS R) (r : R), lent' Parith_first_l0 (earith_first_l0 N n) s k = some r → ∃ e s', runL (runF T) [5, 6, 7] c41_l0 s.enc = some (e, s'.enc) ∧ k e s' = some r :=
  loop_ok (F4_ok N) (H := H_arith_first) (Lp := Larith_first_0 N) (X := X_arith_first) (p := 26) (LOK_of (l := []) (by kernel_rfl) trivial) (fun _ _ => rfl) (fun n x k => by kernel_rfl)
noncomputable def Larith_first_1 (N : Nat) {R : Type} : Nat → StS → KS R → Option R := updL (Larith_first_0 N) 26 (lent' Parith_first_l0 (earith_first_l0 N N))
def arith_first (N : Nat) {R : Type} (a0 : List Int) (k0 : Int → Option R) : Option R := (arith_first_l0 N (fun z2 => (k0 z2)) (k0 0) N a0 ((a0.length : Nat) : Int) 0)
def P_arith_first : AP := ⟨[.p (.s (.sl [.i .i64]))], []⟩
def e_arith_first (N : Nat) {R : Type} (x : P_arith_first.den) (k : List Nat → List DS → HeapS → Option R) : Option R := arith_first N x.1.1 (fun r0 => k [] [.p (.i .i64 r0)] [])
noncomputable def F5 (N : Nat) {R : Type} : CfS R := updC (F4 N) 41 (ent P_arith_first (e_arith_first N) (F4 N 41))
theorem F5_ok (N : Nat) {R : Type} : FOK (F5 N : CfS R) (runF T) :=
  FOK_upd (F4_ok N) (Snd_ent (F4_ok N) (H := H_arith_first) (Lp := Larith_first_1 N) (X := X_arith_first) (rp := []) (ver := c41) rfl (LOK_of (l := [(26, [5, 6, 7], c41_l0)]) (by kernel_rfl) ⟨(updL_ok (loop_arith_first_l0 N N)), trivial⟩) (fun x k => by kernel_rfl) (Snd_of (F4_ok N) 41 fun _ _ _ _ h => h))
def X_arith_fractionErr : Nat → List SP := fun _ => []
def H_arith_fractionErr : Nat → Option (List Sh) := fun n => if n = 24000 then some [.i .i64] else none
noncomputable def Larith_fractionErr_0 (N : Nat) {R : Type} : Nat → StS → KS R → Option R := noL
def arith_fractionErr (N : Nat) {R : Type} (a0 : Int) (a1 : Int) (k0 : Int → Option R) : Option R := (bif decide (0 < a1) then (arith_divisor N a0 a1 (fun y1 => (arith_unless N (decide (y1 = 1)) 3 (fun y2 => (arith_within N a0 (-1000000000) 1000000000 (fun y3 => (bif y3 then (arith_unless N (decide (a1 ≤ 1000000000)) 2 (fun y4 => (arith_first N [y2, y4] (fun y5 => (k0 y5))))) else (arith_unless N false 2 (fun y6 => (arith_first N [y2, y6] (fun y7 => (k0 y7)))))))))))) else (arith_unless N false 3 (fun y8 => (arith_within N a0 (-1000000000) 1000000000 (fun y9 => (bif y9 then (arith_unless N (decide (a1 ≤ 1000000000)) 2 (fun y10 => (arith_first N [y8, y10] (fun y11 => (k0 y11))))) else (arith_unless N false 2 (fun y12 => (arith_first N [y8, y12] (fun y13 => (k0 y13)))))))))))
def P_arith_fractionErr : AP := ⟨[.agg [.p (.s (.i .i64)), .p (.s (.i .i64))]], []⟩
def e_arith_fractionErr (N : Nat) {R : Type} (x : P_arith_fractionErr.den) (k : List Nat → List DS → HeapS → Option R) : Option R := arith_fractionErr N x.1.1.1 x.1.1.2.1 (fun r0 => k [] [.p (.i .i64 r0)] [])
noncomputable def F6 (N : Nat) {R : Type} : CfS R := updC (F5 N) 42 (ent P_arith_fractionErr (e_arith_fractionErr N) (F5 N 42))
theorem F6_ok (N : Nat) {R : Type} : FOK (F6 N : CfS R) (runF T) :=
  FOK_upd (F5_ok N) (Snd_ent (F5_ok N) (H := H_arith_fractionErr) (Lp := Larith_fractionErr_0 N) (X := X_arith_fractionErr) (rp := []) (ver := c42) rfl (LOK_of (l := []) (by kernel_rfl) trivial) (fun x k => by kernel_rfl) (Snd_of (F5_ok N) 42 fun _ _ _ _ h => h))
def X_arith_CheckForm : Nat → List SP := fun _ => []
def H_arith_CheckForm : Nat → Option (List Sh) := fun n => if n = 23000 then some [.i .i64] else none
noncomputable def Larith_CheckForm_0 (N : Nat) {R : Type} : Nat → StS → KS R → Option R := noL
def arith_CheckForm (N : Nat) {R : Type} (a0 : Int) (a1 : Int) (a2 : Int) (a3 : Int) (k0 : Int → Option R) : Option R := (arith_within N a0 2 16 (fun y1 => (arith_unless N y1 25 (fun y2 => (arith_within N a1 0 (w64 (a0 - 1)) (fun y3 => (arith_unless N y3 2 (fun y4 => (arith_within N a2 0 2 (fun y5 => (bif y5 then (arith_within N a3 0 1 (fun y6 => (arith_unless N y6 15 (fun y7 => (arith_first N [y2, y4, y7] (fun y8 => (k0 y8))))))) else (arith_unless N false 15 (fun y9 => (arith_first N [y2, y4, y9] (fun y10 => (k0 y10))))))))))))))))
def P_arith_CheckForm : AP := ⟨[.agg [.p (.s (.i .i64)), .p (.s (.i .i64)), .p (.s (.i .i64)), .p (.s (.i .i64))]], []⟩
def e_arith_CheckForm (N : Nat) {R : Type} (x : P_arith_CheckForm.den) (k : List Nat → List DS → HeapS → Option R) : Option R := arith_CheckForm N x.1.1.1 x.1.1.2.1 x.1.1.2.2.1 x.1.1.2.2.2.1 (fun r0 => k [] [.p (.i .i64 r0)] [])
noncomputable def F7 (N : Nat) {R : Type} : CfS R := updC (F6 N) 44 (ent P_arith_CheckForm (e_arith_CheckForm N) (F6 N 44))
theorem F7_ok (N : Nat) {R : Type} : FOK (F7 N : CfS R) (runF T) :=
  FOK_upd (F6_ok N) (Snd_ent (F6_ok N) (H := H_arith_CheckForm) (Lp := Larith_CheckForm_0 N) (X := X_arith_CheckForm) (rp := []) (ver := c44) rfl (LOK_of (l := []) (by kernel_rfl) trivial) (fun x k => by kernel_rfl) (Snd_of (F6_ok N) 44 fun _ _ _ _ h => h))
def X_arith_form_one : Nat → List SP := fun _ => []
def H_arith_form_one : Nat → Option (List Sh) := fun n => none
noncomputable def Larith_form_one_0 (N : Nat) {R : Type} : Nat → StS → KS R → Option R := noL
def arith_form_one (N : Nat) {R : Type} (a0 : Int) (a1 : Int) (a2 : Int) (a3 : Int) (k0 : Int → Option R) : Option R := (bif decide (a1 < 0) then none else (k0 (shl' .i64 1 a1)))
def P_arith_form_one : AP := ⟨[.agg [.p (.s (.i .i64)), .p (.s (.i .i64)), .p (.s (.i .i64)), .p (.s (.i .i64))]], []⟩
def e_arith_form_one (N : Nat) {R : Type} (x : P_arith_form_one.den) (k : List Nat → List DS → HeapS → Option R) : Option R := arith_form_one N x.1.1.1 x.1.1.2.1 x.1.1.2.2.1 x.1.1.2.2.2.1 (fun r0 => k [] [.p (.i .i64 r0)] [])
noncomputable def F8 (N : Nat) {R : Type} : CfS R := updC (F7 N) 45 (ent P_arith_form_one (e_arith_form_one N) (F7 N 45))
theorem F8_ok (N : Nat) {R : Type} : FOK (F8 N : CfS R) (runF T) :=
  FOK_upd (F7_ok N) (Snd_ent (F7_ok N) (H := H_arith_form_one) (Lp := Larith_form_one_0 N) (X := X_arith_form_one) (rp := []) (ver := c45) rfl (LOK_of (l := []) (by kernel_rfl) trivial) (fun x k => by kernel_rfl) (Snd_of (F7_ok N) 45 fun _ _ _ _ h => h))
def X_arith_form_rounded : Nat → List SP := fun _ => []
def H_arith_form_rounded : Nat → Option (List Sh) := fun n => none
noncomputable def Larith_form_rounded_0 (N : Nat) {R : Type} : Nat → StS → KS R → Option R := noL
def arith_form_rounded_j0 (N : Nat) {R : Type} (k0 : Int → Option R) (b0 : Int) (b1 : Int) (b2 : Int) (b3 : Int) (b4 : Int) (b5 : Int) (b6 : Int) : Option R := (bif decide (b5 = 1) then (bif decide (b1 < (w64 (2 * (w64 (b0 - (w64 (b2 * b1))))))) then (k0 (w64 (b2 + 1))) else (bif decide ((w64 (2 * (w64 (b0 - (w64 (b2 * b1)))))) = b1) then (bif decide ((Int.tmod b2 2) ≠ 0) then (k0 (w64 (b2 + 1))) else (bif decide (b5 = 2) then (bif decide (b0 < 0) then (bif decide (0 < (w64 (b0 - (w64 (b2 * b1))))) then (k0 (w64 (b2 + 1))) else (k0 b2)) else (k0 b2)) else (k0 b2))) else (bif decide (b5 = 2) then (bif decide (b0 < 0) then (bif decide (0 < (w64 (b0 - (w64 (b2 * b1))))) then (k0 (w64 (b2 + 1))) else (k0 b2)) else (k0 b2)) else (k0 b2)))) else (bif decide (b5 = 2) then (bif decide (b0 < 0) then (bif decide (0 < (w64 (b0 - (w64 (b2 * b1))))) then (k0 (w64 (b2 + 1))) else (k0 b2)) else (k0 b2)) else (k0 b2)))
def Parith_form_rounded_j0 : SP := ⟨[(1, .p (.s (.i .i64))), (2, .p (.s (.i .i64))), (3, .ptr 0 0), (7, .p (.s (.i .i64)))], [(0, .box [.p (.s (.i .i64)), .p (.s (.i .i64)), .p (.s (.i .i64)), .p (.s (.i .i64))])]⟩
def earith_form_rounded_j0 (N : Nat) {R : Type} (n : Nat) (x : Parith_form_rounded_j0.den) (k : KS R) : Option R := match n with
  | 0 => none
  | _ + 1 => arith_form_rounded_j0 N (fun r0 => k .ret ⟨[(6, .p (.i .i64 r0))], []⟩) x.1.1 x.1.2.1 x.1.2.2.2.1 x.2.1.1 x.2.1.2.1 x.2.1.2.2.1 x.2.1.2.2.2.1
theorem loop_arith_form_rounded_j0 (N : Nat) {R : Type} : ∀ (n : Nat) (s : StS) (k : KS R) (r : R), lent' Parith_form_rounded_j0 (earith_form_rounded_j0 N n) s k = some r → ∃ e s', runL (runF T) [1, 2, 3, 7] c85_j0 s.enc = some (e, s'.enc) ∧ k e s' = some r :=
  loop_ok (F8_ok N) (H := H_arith_form_rounded) (Lp := Larith_form_rounded_0 N) (X := X_arith_form_rounded) (p := 30) (LOK_of (l := []) (by kernel_rfl) trivial) (fun _ _ => rfl) (fun n x k => by kernel_rfl)
noncomputable def Larith_form_rounded_1 (N : Nat) {R : Type} : Nat → StS → KS R → Option R := updL (Larith_form_rounded_0 N) 30 (lent' Parith_form_rounded_j0 (earith_form_rounded_j0 N 1))
def arith_form_rounded (N : Nat) {R : Type} (a0 : Int) (a1 : Int) (a2 : Int) (a3 : Int) (a4 : Int) (a5 : Int) (k0 : Int → Option R) : Option R := (bif decide (a5 = 0) then none else (bif decide (a5 = 0) then none else (bif decide ((Int.tmod a4 a5) < 0) then (arith_form_rounded_j0 N (fun z1 => (k0 z1)) a4 a5 (w64 ((w64 (Int.tdiv a4 a5)) - 1)) a0 a1 a2 a3) else (arith_form_rounded_j0 N (fun z2 => (k0 z2)) a4 a5 (w64 (Int.tdiv a4 a5)) a0 a1 a2 a3))))
def P_arith_form_rounded : AP := ⟨[.agg [.p (.s (.i .i64)), .p (.s (.i .i64)), .p (.s (.i .i64)), .p (.s (.i .i64))], .p (.s (.i .i64)), .p (.s (.i .i64))], []⟩
def e_arith_form_rounded (N : Nat) {R : Type} (x : P_arith_form_rounded.den) (k : List Nat → List DS → HeapS → Option R) : Option R := arith_form_rounded N x.1.1.1 x.1.1.2.1 x.1.1.2.2.1 x.1.1.2.2.2.1 x.1.2.1 x.1.2.2.1 (fun r0 => k [] [.p (.i .i64 r0)] [])
noncomputable def F9 (N : Nat) {R : Type} : CfS R := updC (F8 N) 85 (ent P_arith_form_rounded (e_arith_form_rounded N) (F8 N 85))
theorem F9_ok (N : Nat) {R : Type} : FOK (F9 N : CfS R) (runF T) :=
  FOK_upd (F8_ok N) (Snd_ent (F8_ok N) (H := H_arith_form_rounded) (Lp := Larith_form_rounded_1 N) (X := X_arith_form_rounded) (rp := []) (ver := c85) rfl (LOK_of (l := [(30, [1, 2, 3, 7], c85_j0)]) (by kernel_rfl) ⟨(updL_ok (loop_arith_form_rounded_j0 N 1)), trivial⟩) (fun x k => by kernel_rfl) (Snd_of (F8_ok N) 85 fun _ _ _ _ h => h))
def X_arith_form_size : Nat → List SP := fun _ => []
def H_arith_form_size : Nat → Option (List Sh) := fun n => none
noncomputable def Larith_form_size_0 (N : Nat) {R : Type} : Nat → StS → KS R → Option R := noL
def arith_form_size (N : Nat) {R : Type} (a0 : Int) (a1 : Int) (a2 : Int) (a3 : Int) (k0 : Int → Option R) : Option R := (bif decide (a0 < 0) then none else (k0 (shl' .i64 1 a0)))
def P_arith_form_size : AP := ⟨[.agg [.p (.s (.i .i64)), .p (.s (.i .i64)), .p (.s (.i .i64)), .p (.s (.i .i64))]], []⟩
def e_arith_form_size (N : Nat) {R : Type} (x : P_arith_form_size.den) (k : List Nat → List DS → HeapS → Option R) : Option R := arith_form_size N x.1.1.1 x.1.1.2.1 x.1.1.2.2.1 x.1.1.2.2.2.1 (fun r0 => k [] [.p (.i .i64 r0)] [])
noncomputable def F10 (N : Nat) {R : Type} : CfS R := updC (F9 N) 75 (ent P_arith_form_size (e_arith_form_size N) (F9 N 75))
theorem F10_ok (N : Nat) {R : Type} : FOK (F10 N : CfS R) (runF T) :=
  FOK_upd (F9_ok N) (Snd_ent (F9_ok N) (H := H_arith_form_size) (Lp := Larith_form_size_0 N) (X := X_arith_form_size) (rp := []) (ver := c75) rfl (LOK_of (l := []) (by kernel_rfl) trivial) (fun x k => by kernel_rfl) (Snd_of (F9_ok N) 75 fun _ _ _ _ h => h))
def X_arith_form_fixed : Nat → List SP := fun _ => []
def H_arith_form_fixed : Nat → Option (List Sh) := fun n => none
noncomputable def Larith_form_fixed_0 (N : Nat) {R : Type} : Nat → StS → KS R → Option R := noL
def arith_form_fixed (N : Nat) {R : Type} (a0 : Int) (a1 : Int) (a2 : Int) (a3 : Int) (a4 : Int) (a5 : Int) (k0 : Int → Option R) : Option R := (arith_form_rounded N a0 a1 a2 a3 a4 a5 (fun y1 => (arith_form_size N a0 a1 a2 a3 (fun y2 => (bif decide (a3 = 1) then (arith_form_size N a0 a1 a2 a3 (fun y3 => (k0 (andI .i64 (max (w64 (0 - (w64 (Int.tdiv y2 2)))) (min (w64 ((w64 (Int.tdiv y2 2)) - 1)) y1)) (w64 (y3 - 1)))))) else (arith_form_size N a0 a1 a2 a3 (fun y4 => (k0 (andI .i64 y1 (w64 (y4 - 1)))))))))))
def P_arith_form_fixed : AP := ⟨[.agg [.p (.s (.i .i64)), .p (.s (.i .i64)), .p (.s (.i .i64)), .p (.s (.i .i64))], .p (.s (.i .i64)), .p (.s (.i .i64))], []⟩
def e_arith_form_fixed (N : Nat) {R : Type} (x : P_arith_form_fixed.den) (k : List Nat → List DS → HeapS → Option R) : Option R := arith_form_fixed N x.1.1.1 x.1.1.2.1 x.1.1.2.2.1 x.1.1.2.2.2.1 x.1.2.1 x.1.2.2.1 (fun r0 => k [] [.p (.i .i64 r0)] [])
noncomputable def F11 (N : Nat) {R : Type} : CfS R := updC (F10 N) 49 (ent P_arith_form_fixed (e_arith_form_fixed N) (F10 N 49))
theorem F11_ok (N : Nat) {R : Type} : FOK (F11 N : CfS R) (runF T) :=
  FOK_upd (F10_ok N) (Snd_ent (F10_ok N) (H := H_arith_form_fixed) (Lp := Larith_form_fixed_0 N) (X := X_arith_form_fixed) (rp := []) (ver := c49) rfl (LOK_of (l := []) (by kernel_rfl) trivial) (fun x k => by kernel_rfl) (Snd_of (F10_ok N) 49 fun _ _ _ _ h => h))
def X_arith_FixedOf : Nat → List SP := fun _ => []
def H_arith_FixedOf : Nat → Option (List Sh) := fun n => if n = 9000 then some [.i .i64] else none
noncomputable def Larith_FixedOf_0 (N : Nat) {R : Type} : Nat → StS → KS R → Option R := noL
def arith_FixedOf (N : Nat) {R : Type} (a0 : Int) (a1 : Int) (a2 : Int) (a3 : Int) (a4 : Int) (a5 : Int) (k0 : Int → Int → Option R) : Option R := (arith_fractionErr N a0 a1 (fun y1 => (arith_CheckForm N a2 a3 a4 a5 (fun y2 => (arith_first N [y1, y2] (fun y3 => (bif decide (y3 ≠ 0) then (k0 0 y3) else (arith_form_one N a2 a3 a4 a5 (fun y4 => (arith_form_fixed N a2 a3 a4 a5 (w64 (a0 * y4)) a1 (fun y5 => (k0 y5 0))))))))))))
def P_arith_FixedOf : AP := ⟨[.agg [.p (.s (.i .i64)), .p (.s (.i .i64))], .agg [.p (.s (.i .i64)), .p (.s (.i .i64)), .p (.s (.i .i64)), .p (.s (.i .i64))]], []⟩
def e_arith_FixedOf (N : Nat) {R : Type} (x : P_arith_FixedOf.den) (k : List Nat → List DS → HeapS → Option R) : Option R := arith_FixedOf N x.1.1.1 x.1.1.2.1 x.1.2.1.1 x.1.2.1.2.1 x.1.2.1.2.2.1 x.1.2.1.2.2.2.1 (fun r0 r1 => k [] [.p (.i .i64 r0), .p (.i .i64 r1)] [])
noncomputable def F12 (N : Nat) {R : Type} : CfS R := updC (F11 N) 12 (ent P_arith_FixedOf (e_arith_FixedOf N) (F11 N 12))
theorem F12_ok (N : Nat) {R : Type} : FOK (F12 N : CfS R) (runF T) :=
  FOK_upd (F11_ok N) (Snd_ent (F11_ok N) (H := H_arith_FixedOf) (Lp := Larith_FixedOf_0 N) (X := X_arith_FixedOf) (rp := []) (ver := c12) rfl (LOK_of (l := []) (by kernel_rfl) trivial) (fun x k => by kernel_rfl) (Snd_of (F11_ok N) 12 fun _ _ _ _ h => h))
def X_arith_form_valuesErr_c1 : Nat → List SP := fun _ => []
def H_arith_form_valuesErr_c1 : Nat → Option (List Sh) := fun n => none
noncomputable def Larith_form_valuesErr_c1_0 (N : Nat) {R : Type} : Nat → StS → KS R → Option R := noL
def arith_form_valuesErr_c1 (N : Nat) {R : Type} (a0 : Int) (a1 : Int) (a2 : Int) (a3 : Int) (a4 : Int) (k0 : Bool → Int → Int → Int → Int → Option R) : Option R := (arith_form_size N a1 a2 a3 a4 (fun y1 => (arith_within N a0 0 (w64 (y1 - 1)) (fun y2 => (k0 y2 a1 a2 a3 a4)))))
def P_arith_form_valuesErr_c1 : AP := ⟨[.p (.s (.i .i64)), .ptr 0 0], [(0, .box [.p (.s (.i .i64)), .p (.s (.i .i64)), .p (.s (.i .i64)), .p (.s (.i .i64))])]⟩
def e_arith_form_valuesErr_c1 (N : Nat) {R : Type} (x : P_arith_form_valuesErr_c1.den) (k : List Nat → List DS → HeapS → Option R) : Option R := arith_form_valuesErr_c1 N x.1.1 x.2.1.1 x.2.1.2.1 x.2.1.2.2.1 x.2.1.2.2.2.1 (fun r0 r1 r2 r3 r4 => k [0] [.p (.b r0)] [(0, .box [.p (.i .i64 r1), .p (.i .i64 r2), .p (.i .i64 r3), .p (.i .i64 r4)])])
noncomputable def F13 (N : Nat) {R : Type} : CfS R := updC (F12 N) 128 (ent P_arith_form_valuesErr_c1 (e_arith_form_valuesErr_c1 N) (F12 N 128))
theorem F13_ok (N : Nat) {R : Type} : FOK (F13 N : CfS R) (runF T) :=
  FOK_upd (F12_ok N) (Snd_ent (F12_ok N) (H := H_arith_form_valuesErr_c1) (Lp := Larith_form_valuesErr_c1_0 N) (X := X_arith_form_valuesErr_c1) (rp := []) (ver := c128) rfl (LOK_of (l := []) (by kernel_rfl) trivial) (fun x k => by kernel_rfl) (Snd_of (F12_ok N) 128 fun _ _ _ _ h => h))
def X_arith_each_int__c1 : Nat → List SP := fun _ => []
def H_arith_each_int__c1 : Nat → Option (List Sh) := fun n => none
noncomputable def Larith_each_int__c1_0 (N : Nat) {R : Type} : Nat → StS → KS R → Option R := noL
def arith_each_int__c1 (N : Nat) {R : Type} (a0 : Int) (a1 : Int) (a2 : Int) (a3 : Int) (a4 : Int) (k0 : Bool → Int → Int → Int → Int → Option R) : Option R := (arith_form_valuesErr_c1 N a0 a1 a2 a3 a4 (fun y1 y2 y3 y4 y5 => (k0 (!y1) y2 y3 y4 y5)))
def P_arith_each_int__c1 : AP := ⟨[.p (.s (.i .i64)), .ptr 0 0], [(0, .box [.fn 128 [.ptr 1 0]]), (1, .box [.p (.s (.i .i64)), .p (.s (.i .i64)), .p (.s (.i .i64)), .p (.s (.i .i64))])]⟩
def e_arith_each_int__c1 (N : Nat) {R : Type} (x : P_arith_each_int__c1.den) (k : List Nat → List DS → HeapS → Option R) : Option R := arith_each_int__c1 N x.1.1 x.2.2.1.1 x.2.2.1.2.1 x.2.2.1.2.2.1 x.2.2.1.2.2.2.1 (fun r0 r1 r2 r3 r4 => k [0] [.p (.b r0)] [(0, .box [.fn 128 [.ptr 1 0]]), (1, .box [.p (.i .i64 r1), .p (.i .i64 r2), .p (.i .i64 r3), .p (.i .i64 r4)])])
noncomputable def F14 (N : Nat) {R : Type} : CfS R := updC (F13 N) 126 (ent P_arith_each_int__c1 (e_arith_each_int__c1 N) (F13 N 126))
theorem F14_ok (N : Nat) {R : Type} : FOK (F14 N : CfS R) (runF T) :=
  FOK_upd (F13_ok N) (Snd_ent (F13_ok N) (H := H_arith_each_int__c1) (Lp := Larith_each_int__c1_0 N) (X := X_arith_each_int__c1) (rp := []) (ver := c126) rfl (LOK_of (l := []) (by kernel_rfl) trivial) (fun x k => by kernel_rfl) (Snd_of (F13_ok N) 126 fun _ _ _ _ h => h))
def X_slices_IndexFunc_Lint_int : Nat → List SP := fun _ => []
def H_slices_IndexFunc_Lint_int : Nat → Option (List Sh) := fun n => none
noncomputable def Lslices_IndexFunc_Lint_int_0 (N : Nat) {R : Type} : Nat → StS → KS R → Option R := noL
def slices_IndexFunc_Lint_int_l0 (N : Nat) {R : Type} (k0 : Int → Int → Int → Int → Int → Option R) (k1 : Int → Int → Int → Int → Option R) : Nat → List Int → Int → Int → Int → Int → Int → Int → Option R
  | 0, _, _, _, _, _, _, _ => none
  | n + 1, b0, b1, b2, b3, b4, b5, b6 => (bif decide (b2 < b1) then ((at? b0 b2).bind fun x1 => (arith_each_int__c1 N x1 b3 b4 b5 b6 (fun y2 y3 y4 y5 y6 => (bif y2 then (k0 b2 y3 y4 y5 y6) else (slices_IndexFunc_Lint_int_l0 N k0 k1 n b0 b1 (w64 (b2 + 1)) y3 y4 y5 y6))))) else (k1 b3 b4 b5 b6))
def Pslices_IndexFunc_Lint_int_l0 : SP := ⟨[(0, .p (.s (.sl [.i .i64]))), (1, .fn 126 [.ptr 0 0]), (7, .p (.s (.i .i64))), (8, .p (.s (.i .i64))), (100001, .fn 126 [.ptr 0 0])], [(0, .box [.fn 128 [.ptr 1 0]]), (1, .box [.p (.s (.i .i64)), .p (.s (.i .i64)), .p (.s (.i .i64)), .p (.s (.i .i64))])]⟩
def eslices_IndexFunc_Lint_int_l0 (N : Nat) {R : Type} (n : Nat) (x : Pslices_IndexFunc_Lint_int_l0.den) (k : KS R) : Option R := slices_IndexFunc_Lint_int_l0 N (fun r0 r1 r2 r3 r4 => k .ret ⟨[(4, .p (.i .i64 r0)), (100001, .fn 126 [.ptr 0 0])], [(0, .box [.fn 128 [.ptr 1 0]]), (1, .box [.p (.i .i64 r1), .p (.i .i64 r2), .p (.i .i64 r3), .p (.i .i64 r4)])]⟩) (fun r0 r1 r2 r3 => k (.ex 0) ⟨[(100001, .fn 126 [.ptr 0 0])], [(0, .box [.fn 128 [.ptr 1 0]]), (1, .box [.p (.i .i64 r0), .p (.i .i64 r1), .p (.i .i64 r2), .p (.i .i64 r3)])]⟩) n x.1.1 x.1.2.2.1 x.1.2.2.2.1 x.2.2.1.1 x.2.2.1.2.1 x.2.2.1.2.2.1 x.2.2.1.2.2.2.1
theorem loop_slices_IndexFunc_Lint_int_l0 (N : Nat) {R : Type} : ∀ (n : Nat) (s : StS) (k : KS R) (r : R), lent' Pslices_IndexFunc_Lint_int_l0 (eslices_IndexFunc_Lint_int_l0 N n) s k = some r → ∃ e s', runL (runF T) [0, 1, 7, 8] c140_l0 s.enc = some (e, s'.enc) ∧ k e s' = some r :=
  loop_ok (F14_ok N) (H := H_slices_IndexFunc_Lint_int) (Lp := Lslices_IndexFunc_Lint_int_0 N) (X := X_slices_IndexFunc_Lint_int) (p := 26) (LOK_of (l := []) (by kernel_rfl) trivial) (fun _ _ => rfl) (fun n x k => by kernel_rfl)
noncomputable def Lslices_IndexFunc_Lint_int_1 (N : Nat) {R : Type} : Nat → StS → KS R → Option R := updL (Lslices_IndexFunc_Lint_int_0 N) 26 (lent' Pslices_IndexFunc_Lint_int_l0 (eslices_IndexFunc_Lint_int_l0 N N))
def slices_IndexFunc_Lint_int (N : Nat) {R : Type} (a0 : List Int) (a1 : Int) (a2 : Int) (a3 : Int) (a4 : Int) (k0 : Int → Int → Int → Int → Int → Option R) : Option R := (slices_IndexFunc_Lint_int_l0 N (fun z7 z8 z9 z10 z11 => (k0 z7 z8 z9 z10 z11)) (fun z12 z13 z14 z15 => (k0 (-1) z12 z13 z14 z15)) N a0 ((a0.length : Nat) : Int) 0 a1 a2 a3 a4)
def P_slices_IndexFunc_Lint_int : AP := ⟨[.p (.s (.sl [.i .i64])), .fn 126 [.ptr 0 0]], [(0, .box [.fn 128 [.ptr 1 0]]), (1, .box [.p (.s (.i .i64)), .p (.s (.i .i64)), .p (.s (.i .i64)), .p (.s (.i .i64))])]⟩
def e_slices_IndexFunc_Lint_int (N : Nat) {R : Type} (x : P_slices_IndexFunc_Lint_int.den) (k : List Nat → List DS → HeapS → Option R) : Option R := slices_IndexFunc_Lint_int N x.1.1 x.2.2.1.1 x.2.2.1.2.1 x.2.2.1.2.2.1 x.2.2.1.2.2.2.1 (fun r0 r1 r2 r3 r4 => k [0] [.p (.i .i64 r0)] [(0, .box [.fn 128 [.ptr 1 0]]), (1, .box [.p (.i .i64 r1), .p (.i .i64 r2), .p (.i .i64 r3), .p (.i .i64 r4)])])
noncomputable def F15 (N : Nat) {R : Type} : CfS R := updC (F14 N) 140 (ent P_slices_IndexFunc_Lint_int (e_slices_IndexFunc_Lint_int N) (F14 N 140))
theorem F15_ok (N : Nat) {R : Type} : FOK (F15 N : CfS R) (runF T) :=
  FOK_upd (F14_ok N) (Snd_ent (F14_ok N) (H := H_slices_IndexFunc_Lint_int) (Lp := Lslices_IndexFunc_Lint_int_1 N) (X := X_slices_IndexFunc_Lint_int) (rp := []) (ver := c140) rfl (LOK_of (l := [(26, [0, 1, 7, 8], c140_l0)]) (by kernel_rfl) ⟨(updL_ok (loop_slices_IndexFunc_Lint_int_l0 N N)), trivial⟩) (fun x k => by kernel_rfl) (Snd_of (F14_ok N) 140 fun _ _ _ _ h => h))
def X_slices_ContainsFunc_Lint_int : Nat → List SP := fun _ => []
def H_slices_ContainsFunc_Lint_int : Nat → Option (List Sh) := fun n => none
noncomputable def Lslices_ContainsFunc_Lint_int_0 (N : Nat) {R : Type} : Nat → StS → KS R → Option R := noL
def slices_ContainsFunc_Lint_int (N : Nat) {R : Type} (a0 : List Int) (a1 : Int) (a2 : Int) (a3 : Int) (a4 : Int) (k0 : Bool → Int → Int → Int → Int → Option R) : Option R := (slices_IndexFunc_Lint_int N a0 a1 a2 a3 a4 (fun y1 y2 y3 y4 y5 => (k0 (decide (0 ≤ y1)) y2 y3 y4 y5)))
def P_slices_ContainsFunc_Lint_int : AP := ⟨[.p (.s (.sl [.i .i64])), .fn 126 [.ptr 0 0]], [(0, .box [.fn 128 [.ptr 1 0]]), (1, .box [.p (.s (.i .i64)), .p (.s (.i .i64)), .p (.s (.i .i64)), .p (.s (.i .i64))])]⟩
def e_slices_ContainsFunc_Lint_int (N : Nat) {R : Type} (x : P_slices_ContainsFunc_Lint_int.den) (k : List Nat → List DS → HeapS → Option R) : Option R := slices_ContainsFunc_Lint_int N x.1.1 x.2.2.1.1 x.2.2.1.2.1 x.2.2.1.2.2.1 x.2.2.1.2.2.2.1 (fun r0 r1 r2 r3 r4 => k [0] [.p (.b r0)] [(0, .box [.fn 128 [.ptr 1 0]]), (1, .box [.p (.i .i64 r1), .p (.i .i64 r2), .p (.i .i64 r3), .p (.i .i64 r4)])])
noncomputable def F16 (N : Nat) {R : Type} : CfS R := updC (F15 N) 125 (ent P_slices_ContainsFunc_Lint_int (e_slices_ContainsFunc_Lint_int N) (F15 N 125))
theorem F16_ok (N : Nat) {R : Type} : FOK (F16 N : CfS R) (runF T) :=
  FOK_upd (F15_ok N) (Snd_ent (F15_ok N) (H := H_slices_ContainsFunc_Lint_int) (Lp := Lslices_ContainsFunc_Lint_int_0 N) (X := X_slices_ContainsFunc_Lint_int) (rp := []) (ver := c125) rfl (LOK_of (l := []) (by kernel_rfl) trivial) (fun x k => by kernel_rfl) (Snd_of (F15_ok N) 125 fun _ _ _ _ h => h))
def X_arith_each_int : Nat → List SP := fun _ => []
def H_arith_each_int : Nat → Option (List Sh) := fun n => none
noncomputable def Larith_each_int_0 (N : Nat) {R : Type} : Nat → StS → KS R → Option R := noL
def arith_each_int (N : Nat) {R : Type} (a0 : List Int) (a1 : Int) (a2 : Int) (a3 : Int) (a4 : Int) (k0 : Bool → Option R) : Option R := (slices_ContainsFunc_Lint_int N a0 a1 a2 a3 a4 (fun y1 y2 y3 y4 y5 => (k0 (!y1))))
def P_arith_each_int : AP := ⟨[.p (.s (.sl [.i .i64])), .fn 128 [.ptr 0 0]], [(0, .box [.p (.s (.i .i64)), .p (.s (.i .i64)), .p (.s (.i .i64)), .p (.s (.i .i64))])]⟩
def e_arith_each_int (N : Nat) {R : Type} (x : P_arith_each_int.den) (k : List Nat → List DS → HeapS → Option R) : Option R := arith_each_int N x.1.1 x.2.1.1 x.2.1.2.1 x.2.1.2.2.1 x.2.1.2.2.2.1 (fun r0 => k [0] [.p (.b r0)] [(0, .dead)])
noncomputable def F17 (N : Nat) {R : Type} : CfS R := updC (F16 N) 93 (ent P_arith_each_int (e_arith_each_int N) (F16 N 93))
theorem F17_ok (N : Nat) {R : Type} : FOK (F17 N : CfS R) (runF T) :=
  FOK_upd (F16_ok N) (Snd_ent (F16_ok N) (H := H_arith_each_int) (Lp := Larith_each_int_0 N) (X := X_arith_each_int) (rp := []) (ver := c93) rfl (LOK_of (l := []) (by kernel_rfl) trivial) (fun x k => by kernel_rfl) (Snd_of (F16_ok N) 93 fun _ _ _ _ h => h))
def X_arith_form_valuesErr : Nat → List SP := fun _ => []
def H_arith_form_valuesErr : Nat → Option (List Sh) := fun n => none
noncomputable def Larith_form_valuesErr_0 (N : Nat) {R : Type} : Nat → StS → KS R → Option R := noL
def arith_form_valuesErr (N : Nat) {R : Type} (a0 : Int) (a1 : Int) (a2 : Int) (a3 : Int) (a4 : List Int) (k0 : Int → Option R) : Option R := (arith_each_int N a4 a0 a1 a2 a3 (fun y1 => (arith_unless N y1 2 (fun y2 => (k0 y2)))))
def P_arith_form_valuesErr : AP := ⟨[.agg [.p (.s (.i .i64)), .p (.s (.i .i64)), .p (.s (.i .i64)), .p (.s (.i .i64))], .p (.s (.sl [.i .i64]))], []⟩
def e_arith_form_valuesErr (N : Nat) {R : Type} (x : P_arith_form_valuesErr.den) (k : List Nat → List DS → HeapS → Option R) : Option R := arith_form_valuesErr N x.1.1.1 x.1.1.2.1 x.1.1.2.2.1 x.1.1.2.2.2.1 x.1.2.1 (fun r0 => k [] [.p (.i .i64 r0)] [])
noncomputable def F18 (N : Nat) {R : Type} : CfS R := updC (F17 N) 104 (ent P_arith_form_valuesErr (e_arith_form_valuesErr N) (F17 N 104))
theorem F18_ok (N : Nat) {R : Type} : FOK (F18 N : CfS R) (runF T) :=
  FOK_upd (F17_ok N) (Snd_ent (F17_ok N) (H := H_arith_form_valuesErr) (Lp := Larith_form_valuesErr_0 N) (X := X_arith_form_valuesErr) (rp := []) (ver := c104) rfl (LOK_of (l := []) (by kernel_rfl) trivial) (fun x k => by kernel_rfl) (Snd_of (F17_ok N) 104 fun _ _ _ _ h => h))
def X_arith_opened : Nat → List SP := fun _ => []
def H_arith_opened : Nat → Option (List Sh) := fun n => none
noncomputable def Larith_opened_0 (N : Nat) {R : Type} : Nat → StS → KS R → Option R := noL
def arith_opened (N : Nat) {R : Type} (a0 : Int) (a1 : Int) (a2 : Int) (a3 : Int) (a4 : List Int) (k0 : Int → Int → Int → Int → Int → Option R) : Option R := (arith_CheckForm N a0 a1 a2 a3 (fun y1 => (bif decide (y1 ≠ 0) then (k0 a0 a1 a2 a3 y1) else (arith_form_valuesErr N a0 a1 a2 a3 a4 (fun y2 => (k0 a0 a1 a2 a3 y2))))))
def P_arith_opened : AP := ⟨[.agg [.p (.s (.i .i64)), .p (.s (.i .i64)), .p (.s (.i .i64)), .p (.s (.i .i64))], .p (.s (.sl [.i .i64]))], []⟩
def e_arith_opened (N : Nat) {R : Type} (x : P_arith_opened.den) (k : List Nat → List DS → HeapS → Option R) : Option R := arith_opened N x.1.1.1 x.1.1.2.1 x.1.1.2.2.1 x.1.1.2.2.2.1 x.1.2.1 (fun r0 r1 r2 r3 r4 => k [] [.agg [.p (.i .i64 r0), .p (.i .i64 r1), .p (.i .i64 r2), .p (.i .i64 r3)], .p (.i .i64 r4)] [])
noncomputable def F19 (N : Nat) {R : Type} : CfS R := updC (F18 N) 66 (ent P_arith_opened (e_arith_opened N) (F18 N 66))
theorem F19_ok (N : Nat) {R : Type} : FOK (F19 N : CfS R) (runF T) :=
  FOK_upd (F18_ok N) (Snd_ent (F18_ok N) (H := H_arith_opened) (Lp := Larith_opened_0 N) (X := X_arith_opened) (rp := []) (ver := c66) rfl (LOK_of (l := []) (by kernel_rfl) trivial) (fun x k => by kernel_rfl) (Snd_of (F18_ok N) 66 fun _ _ _ _ h => h))
def X_arith_form_signed : Nat → List SP := fun _ => []
def H_arith_form_signed : Nat → Option (List Sh) := fun n => none
noncomputable def Larith_form_signed_0 (N : Nat) {R : Type} : Nat → StS → KS R → Option R := noL
def arith_form_signed (N : Nat) {R : Type} (a0 : Int) (a1 : Int) (a2 : Int) (a3 : Int) (a4 : Int) (k0 : Int → Option R) : Option R := (arith_form_size N a0 a1 a2 a3 (fun y1 => (bif decide ((w64 (Int.tdiv y1 2)) ≤ a4) then (arith_form_size N a0 a1 a2 a3 (fun y2 => (k0 (w64 (a4 - y2))))) else (k0 a4))))
def P_arith_form_signed : AP := ⟨[.agg [.p (.s (.i .i64)), .p (.s (.i .i64)), .p (.s (.i .i64)), .p (.s (.i .i64))], .p (.s (.i .i64))], []⟩
def e_arith_form_signed (N : Nat) {R : Type} (x : P_arith_form_signed.den) (k : List Nat → List DS → HeapS → Option R) : Option R := arith_form_signed N x.1.1.1 x.1.1.2.1 x.1.1.2.2.1 x.1.1.2.2.2.1 x.1.2.1 (fun r0 => k [] [.p (.i .i64 r0)] [])
noncomputable def F20 (N : Nat) {R : Type} : CfS R := updC (F19 N) 67 (ent P_arith_form_signed (e_arith_form_signed N) (F19 N 67))
theorem F20_ok (N : Nat) {R : Type} : FOK (F20 N : CfS R) (runF T) :=
  FOK_upd (F19_ok N) (Snd_ent (F19_ok N) (H := H_arith_form_signed) (Lp := Larith_form_signed_0 N) (X := X_arith_form_signed) (rp := []) (ver := c67) rfl (LOK_of (l := []) (by kernel_rfl) trivial) (fun x k => by kernel_rfl) (Snd_of (F19_ok N) 67 fun _ _ _ _ h => h))
def X_arith_MulFixed : Nat → List SP := fun _ => []
def H_arith_MulFixed : Nat → Option (List Sh) := fun n => if n = 7000 then some [.i .i64] else none
noncomputable def Larith_MulFixed_0 (N : Nat) {R : Type} : Nat → StS → KS R → Option R := noL
def arith_MulFixed (N : Nat) {R : Type} (a0 : Int) (a1 : Int) (a2 : Int) (a3 : Int) (a4 : Int) (a5 : Int) (k0 : Int → Int → Option R) : Option R := (arith_opened N a2 a3 a4 a5 [a0, a1] (fun y1 y2 y3 y4 y5 => (bif decide (y5 ≠ 0) then (k0 0 y5) else (arith_form_signed N y1 y2 y3 y4 a0 (fun y6 => (arith_form_signed N y1 y2 y3 y4 a1 (fun y7 => (arith_form_one N y1 y2 y3 y4 (fun y8 => (arith_form_fixed N y1 y2 y3 y4 (w64 (y6 * y7)) y8 (fun y9 => (k0 y9 0))))))))))))
def P_arith_MulFixed : AP := ⟨[.p (.s (.i .i64)), .p (.s (.i .i64)), .agg [.p (.s (.i .i64)), .p (.s (.i .i64)), .p (.s (.i .i64)), .p (.s (.i .i64))]], []⟩
def e_arith_MulFixed (N : Nat) {R : Type} (x : P_arith_MulFixed.den) (k : List Nat → List DS → HeapS → Option R) : Option R := arith_MulFixed N x.1.1 x.1.2.1 x.1.2.2.1.1 x.1.2.2.1.2.1 x.1.2.2.1.2.2.1 x.1.2.2.1.2.2.2.1 (fun r0 r1 => k [] [.p (.i .i64 r0), .p (.i .i64 r1)] [])
noncomputable def F21 (N : Nat) {R : Type} : CfS R := updC (F20 N) 37 (ent P_arith_MulFixed (e_arith_MulFixed N) (F20 N 37))
theorem F21_ok (N : Nat) {R : Type} : FOK (F21 N : CfS R) (runF T) :=
  FOK_upd (F20_ok N) (Snd_ent (F20_ok N) (H := H_arith_MulFixed) (Lp := Larith_MulFixed_0 N) (X := X_arith_MulFixed) (rp := []) (ver := c37) rfl (LOK_of (l := []) (by kernel_rfl) trivial) (fun x k => by kernel_rfl) (Snd_of (F20_ok N) 37 fun _ _ _ _ h => h))
def X_arith_isCount : Nat → List SP := fun _ => []
def H_arith_isCount : Nat → Option (List Sh) := fun n => none
noncomputable def Larith_isCount_0 (N : Nat) {R : Type} : Nat → StS → KS R → Option R := noL
def arith_isCount (N : Nat) {R : Type} (a0 : Int) (k0 : Bool → Option R) : Option R := (bif decide (a0 = 1) then (k0 true) else (bif decide (a0 = 2) then (k0 true) else (bif decide (a0 = 4) then (k0 true) else (k0 (decide (a0 = 8))))))
def P_arith_isCount : AP := ⟨[.p (.s (.i .i64))], []⟩
def e_arith_isCount (N : Nat) {R : Type} (x : P_arith_isCount.den) (k : List Nat → List DS → HeapS → Option R) : Option R := arith_isCount N x.1.1 (fun r0 => k [] [.p (.b r0)] [])
noncomputable def F22 (N : Nat) {R : Type} : CfS R := updC (F21 N) 119 (ent P_arith_isCount (e_arith_isCount N) (F21 N 119))
theorem F22_ok (N : Nat) {R : Type} : FOK (F22 N : CfS R) (runF T) :=
  FOK_upd (F21_ok N) (Snd_ent (F21_ok N) (H := H_arith_isCount) (Lp := Larith_isCount_0 N) (X := X_arith_isCount) (rp := []) (ver := c119) rfl (LOK_of (l := []) (by kernel_rfl) trivial) (fun x k => by kernel_rfl) (Snd_of (F21_ok N) 119 fun _ _ _ _ h => h))
def X_arith_isSample : Nat → List SP := fun _ => []
def H_arith_isSample : Nat → Option (List Sh) := fun n => none
noncomputable def Larith_isSample_0 (N : Nat) {R : Type} : Nat → StS → KS R → Option R := noL
def arith_isSample (N : Nat) {R : Type} (a0 : Int) (k0 : Bool → Option R) : Option R := (arith_within N a0 (-1000) 1000 (fun y1 => (k0 y1)))
def P_arith_isSample : AP := ⟨[.p (.s (.i .i64))], []⟩
def e_arith_isSample (N : Nat) {R : Type} (x : P_arith_isSample.den) (k : List Nat → List DS → HeapS → Option R) : Option R := arith_isSample N x.1.1 (fun r0 => k [] [.p (.b r0)] [])
noncomputable def F23 (N : Nat) {R : Type} : CfS R := updC (F22 N) 94 (ent P_arith_isSample (e_arith_isSample N) (F22 N 94))
theorem F23_ok (N : Nat) {R : Type} : FOK (F23 N : CfS R) (runF T) :=
  FOK_upd (F22_ok N) (Snd_ent (F22_ok N) (H := H_arith_isSample) (Lp := Larith_isSample_0 N) (X := X_arith_isSample) (rp := []) (ver := c94) rfl (LOK_of (l := []) (by kernel_rfl) trivial) (fun x k => by kernel_rfl) (Snd_of (F22_ok N) 94 fun _ _ _ _ h => h))
def X_arith_pointsErr_c1 : Nat → List SP := fun _ => []
def H_arith_pointsErr_c1 : Nat → Option (List Sh) := fun n => none
noncomputable def Larith_pointsErr_c1_0 (N : Nat) {R : Type} : Nat → StS → KS R → Option R := noL
def arith_pointsErr_c1 (N : Nat) {R : Type} (a0 : Int) (a1 : Int) (k0 : Bool → Option R) : Option R := (arith_isSample N a0 (fun y1 => (bif y1 then (arith_isSample N a1 (fun y2 => (k0 y2))) else (k0 false))))
def P_arith_pointsErr_c1 : AP := ⟨[.agg [.p (.s (.i .i64)), .p (.s (.i .i64))]], []⟩
def e_arith_pointsErr_c1 (N : Nat) {R : Type} (x : P_arith_pointsErr_c1.den) (k : List Nat → List DS → HeapS → Option R) : Option R := arith_pointsErr_c1 N x.1.1.1 x.1.1.2.1 (fun r0 => k [] [.p (.b r0)] [])
noncomputable def F24 (N : Nat) {R : Type} : CfS R := updC (F23 N) 121 (ent P_arith_pointsErr_c1 (e_arith_pointsErr_c1 N) (F23 N 121))
theorem F24_ok (N : Nat) {R : Type} : FOK (F24 N : CfS R) (runF T) :=
  FOK_upd (F23_ok N) (Snd_ent (F23_ok N) (H := H_arith_pointsErr_c1) (Lp := Larith_pointsErr_c1_0 N) (X := X_arith_pointsErr_c1) (rp := []) (ver := c121) rfl (LOK_of (l := []) (by kernel_rfl) trivial) (fun x k => by kernel_rfl) (Snd_of (F23_ok N) 121 fun _ _ _ _ h => h))
def X_api_Gauss__c1 : Nat → List SP := fun _ => []
def H_api_Gauss__c1 : Nat → Option (List Sh) := fun n => none
noncomputable def Lapi_Gauss__c1_0 (N : Nat) {R : Type} : Nat → StS → KS R → Option R := noL
def api_Gauss__c1 (N : Nat) {R : Type} (a0 : Int) (a1 : Int) (k0 : Bool → Option R) : Option R := (arith_pointsErr_c1 N a0 a1 (fun y1 => (k0 (!y1))))
def P_api_Gauss__c1 : AP := ⟨[.agg [.p (.s (.i .i64)), .p (.s (.i .i64))], .ptr 0 0], [(0, .box [.p (.fn 121 [])])]⟩
def e_api_Gauss__c1 (N : Nat) {R : Type} (x : P_api_Gauss__c1.den) (k : List Nat → List DS → HeapS → Option R) : Option R := api_Gauss__c1 N x.1.1.1 x.1.1.2.1 (fun r0 => k [0] [.p (.b r0)] [(0, .box [.p (.fn 121 [])])])
noncomputable def F25 (N : Nat) {R : Type} : CfS R := updC (F24 N) 139 (ent P_api_Gauss__c1 (e_api_Gauss__c1 N) (F24 N 139))
theorem F25_ok (N : Nat) {R : Type} : FOK (F25 N : CfS R) (runF T) :=
  FOK_upd (F24_ok N) (Snd_ent (F24_ok N) (H := H_api_Gauss__c1) (Lp := Lapi_Gauss__c1_0 N) (X := X_api_Gauss__c1) (rp := []) (ver := c139) rfl (LOK_of (l := []) (by kernel_rfl) trivial) (fun x k => by kernel_rfl) (Snd_of (F24_ok N) 139 fun _ _ _ _ h => h))
def X_slices_IndexFunc_Gauss_Gauss : Nat → List SP := fun _ => []
def H_slices_IndexFunc_Gauss_Gauss : Nat → Option (List Sh) := fun n => none
noncomputable def Lslices_IndexFunc_Gauss_Gauss_0 (N : Nat) {R : Type} : Nat → StS → KS R → Option R := noL
def slices_IndexFunc_Gauss_Gauss_l0 (N : Nat) {R : Type} (k0 : Int → Option R) (k1 : Option R) : Nat → (List (Int × Int)) → Int → Int → Option R
  | 0, _, _, _ => none
  | n + 1, b0, b1, b2 => (bif decide (b2 < b1) then ((at? b0 b2).bind fun x1 => (api_Gauss__c1 N x1.1 x1.2 (fun y2 => (bif y2 then (k0 b2) else (slices_IndexFunc_Gauss_Gauss_l0 N k0 k1 n b0 b1 (w64 (b2 + 1))))))) else k1)
def Pslices_IndexFunc_Gauss_Gauss_l0 : SP := ⟨[(0, .p (.s (.sl [.i .i64, .i .i64]))), (1, .fn 139 [.ptr 0 0]), (7, .p (.s (.i .i64))), (8, .p (.s (.i .i64))), (100001, .fn 139 [.ptr 0 0])], [(0, .box [.p (.fn 121 [])])]⟩
def eslices_IndexFunc_Gauss_Gauss_l0 (N : Nat) {R : Type} (n : Nat) (x : Pslices_IndexFunc_Gauss_Gauss_l0.den) (k : KS R) : Option R := slices_IndexFunc_Gauss_Gauss_l0 N (fun r0 => k .ret ⟨[(4, .p (.i .i64 r0)), (100001, .fn 139 [.ptr 0 0])], [(0, .box [.p (.fn 121 [])])]⟩) (k (.ex 0) ⟨[(100001, .fn 139 [.ptr 0 0])], [(0, .box [.p (.fn 121 [])])]⟩) n x.1.1 x.1.2.2.1 x.1.2.2.2.1
theorem loop_slices_IndexFunc_Gauss_Gauss_l0 (N : Nat) {R : Type} : ∀ (n : Nat) (s : StS) (k : KS R) (r : R), lent' Pslices_IndexFunc_Gauss_Gauss_l0 (eslices_IndexFunc_Gauss_Gauss_l0 N n) s k = some r → ∃ e s', runL (runF T) [0, 1, 7, 8] c153_l0 s.enc = some (e, s'.enc) ∧ k e s' = some r :=
  loop_ok (F25_ok N) (H := H_slices_IndexFunc_Gauss_Gauss) (Lp := Lslices_IndexFunc_Gauss_Gauss_0 N) (X := X_slices_IndexFunc_Gauss_Gauss) (p := 26) (LOK_of (l := []) (by kernel_rfl) trivial) (fun _ _ => rfl) (fun n x k => by kernel_rfl)
noncomputable def Lslices_IndexFunc_Gauss_Gauss_1 (N : Nat) {R : Type} : Nat → StS → KS R → Option R := updL (Lslices_IndexFunc_Gauss_Gauss_0 N) 26 (lent' Pslices_IndexFunc_Gauss_Gauss_l0 (eslices_IndexFunc_Gauss_Gauss_l0 N N))
def slices_IndexFunc_Gauss_Gauss (N : Nat) {R : Type} (a0 : List (Int × Int)) (k0 : Int → Option R) : Option R := (slices_IndexFunc_Gauss_Gauss_l0 N (fun z3 => (k0 z3)) (k0 (-1)) N a0 ((a0.length : Nat) : Int) 0)
def P_slices_IndexFunc_Gauss_Gauss : AP := ⟨[.p (.s (.sl [.i .i64, .i .i64])), .fn 139 [.ptr 0 0]], [(0, .box [.p (.fn 121 [])])]⟩
def e_slices_IndexFunc_Gauss_Gauss (N : Nat) {R : Type} (x : P_slices_IndexFunc_Gauss_Gauss.den) (k : List Nat → List DS → HeapS → Option R) : Option R := slices_IndexFunc_Gauss_Gauss N x.1.1 (fun r0 => k [0] [.p (.i .i64 r0)] [(0, .box [.p (.fn 121 [])])])
noncomputable def F26 (N : Nat) {R : Type} : CfS R := updC (F25 N) 153 (ent P_slices_IndexFunc_Gauss_Gauss (e_slices_IndexFunc_Gauss_Gauss N) (F25 N 153))
theorem F26_ok (N : Nat) {R : Type} : FOK (F26 N : CfS R) (runF T) :=
  FOK_upd (F25_ok N) (Snd_ent (F25_ok N) (H := H_slices_IndexFunc_Gauss_Gauss) (Lp := Lslices_IndexFunc_Gauss_Gauss_1 N) (X := X_slices_IndexFunc_Gauss_Gauss) (rp := []) (ver := c153) rfl (LOK_of (l := [(26, [0, 1, 7, 8], c153_l0)]) (by kernel_rfl) ⟨(updL_ok (loop_slices_IndexFunc_Gauss_Gauss_l0 N N)), trivial⟩) (fun x k => by kernel_rfl) (Snd_of (F25_ok N) 153 fun _ _ _ _ h => h))
def X_slices_ContainsFunc_Gauss_Gauss : Nat → List SP := fun _ => []
def H_slices_ContainsFunc_Gauss_Gauss : Nat → Option (List Sh) := fun n => none
noncomputable def Lslices_ContainsFunc_Gauss_Gauss_0 (N : Nat) {R : Type} : Nat → StS → KS R → Option R := noL
def slices_ContainsFunc_Gauss_Gauss (N : Nat) {R : Type} (a0 : List (Int × Int)) (k0 : Bool → Option R) : Option R := (slices_IndexFunc_Gauss_Gauss N a0 (fun y1 => (k0 (decide (0 ≤ y1)))))
def P_slices_ContainsFunc_Gauss_Gauss : AP := ⟨[.p (.s (.sl [.i .i64, .i .i64])), .fn 139 [.ptr 0 0]], [(0, .box [.p (.fn 121 [])])]⟩
def e_slices_ContainsFunc_Gauss_Gauss (N : Nat) {R : Type} (x : P_slices_ContainsFunc_Gauss_Gauss.den) (k : List Nat → List DS → HeapS → Option R) : Option R := slices_ContainsFunc_Gauss_Gauss N x.1.1 (fun r0 => k [0] [.p (.b r0)] [(0, .box [.p (.fn 121 [])])])
noncomputable def F27 (N : Nat) {R : Type} : CfS R := updC (F26 N) 138 (ent P_slices_ContainsFunc_Gauss_Gauss (e_slices_ContainsFunc_Gauss_Gauss N) (F26 N 138))
theorem F27_ok (N : Nat) {R : Type} : FOK (F27 N : CfS R) (runF T) :=
  FOK_upd (F26_ok N) (Snd_ent (F26_ok N) (H := H_slices_ContainsFunc_Gauss_Gauss) (Lp := Lslices_ContainsFunc_Gauss_Gauss_0 N) (X := X_slices_ContainsFunc_Gauss_Gauss) (rp := []) (ver := c138) rfl (LOK_of (l := []) (by kernel_rfl) trivial) (fun x k => by kernel_rfl) (Snd_of (F26_ok N) 138 fun _ _ _ _ h => h))
def X_arith_each_Gauss : Nat → List SP := fun _ => []
def H_arith_each_Gauss : Nat → Option (List Sh) := fun n => none
noncomputable def Larith_each_Gauss_0 (N : Nat) {R : Type} : Nat → StS → KS R → Option R := noL
def arith_each_Gauss (N : Nat) {R : Type} (a0 : List (Int × Int)) (k0 : Bool → Option R) : Option R := (slices_ContainsFunc_Gauss_Gauss N a0 (fun y1 => (k0 (!y1))))
def P_arith_each_Gauss : AP := ⟨[.p (.s (.sl [.i .i64, .i .i64])), .p (.fn 121 [])], []⟩
def e_arith_each_Gauss (N : Nat) {R : Type} (x : P_arith_each_Gauss.den) (k : List Nat → List DS → HeapS → Option R) : Option R := arith_each_Gauss N x.1.1 (fun r0 => k [] [.p (.b r0)] [])
noncomputable def F28 (N : Nat) {R : Type} : CfS R := updC (F27 N) 120 (ent P_arith_each_Gauss (e_arith_each_Gauss N) (F27 N 120))
theorem F28_ok (N : Nat) {R : Type} : FOK (F28 N : CfS R) (runF T) :=
  FOK_upd (F27_ok N) (Snd_ent (F27_ok N) (H := H_arith_each_Gauss) (Lp := Larith_each_Gauss_0 N) (X := X_arith_each_Gauss) (rp := []) (ver := c120) rfl (LOK_of (l := []) (by kernel_rfl) trivial) (fun x k => by kernel_rfl) (Snd_of (F27_ok N) 120 fun _ _ _ _ h => h))
def X_arith_pointsErr : Nat → List SP := fun _ => []
def H_arith_pointsErr : Nat → Option (List Sh) := fun n => if n = 9000 then some [.i .i64] else none
noncomputable def Larith_pointsErr_0 (N : Nat) {R : Type} : Nat → StS → KS R → Option R := noL
def arith_pointsErr (N : Nat) {R : Type} (a0 : List (Int × Int)) (k0 : Int → Option R) : Option R := (arith_isCount N ((a0.length : Nat) : Int) (fun y1 => (arith_unless N y1 10 (fun y2 => (arith_each_Gauss N a0 (fun y3 => (arith_unless N y3 2 (fun y4 => (arith_first N [y2, y4] (fun y5 => (k0 y5)))))))))))
def P_arith_pointsErr : AP := ⟨[.p (.s (.sl [.i .i64, .i .i64]))], []⟩
def e_arith_pointsErr (N : Nat) {R : Type} (x : P_arith_pointsErr.den) (k : List Nat → List DS → HeapS → Option R) : Option R := arith_pointsErr N x.1.1 (fun r0 => k [] [.p (.i .i64 r0)] [])
noncomputable def F29 (N : Nat) {R : Type} : CfS R := updC (F28 N) 79 (ent P_arith_pointsErr (e_arith_pointsErr N) (F28 N 79))
theorem F29_ok (N : Nat) {R : Type} : FOK (F29 N : CfS R) (runF T) :=
  FOK_upd (F28_ok N) (Snd_ent (F28_ok N) (H := H_arith_pointsErr) (Lp := Larith_pointsErr_0 N) (X := X_arith_pointsErr) (rp := []) (ver := c79) rfl (LOK_of (l := []) (by kernel_rfl) trivial) (fun x k => by kernel_rfl) (Snd_of (F28_ok N) 79 fun _ _ _ _ h => h))
def X_arith_of : Nat → List SP := fun _ => []
def H_arith_of : Nat → Option (List Sh) := fun n => none
noncomputable def Larith_of_0 (N : Nat) {R : Type} : Nat → StS → KS R → Option R := noL
def arith_of (N : Nat) {R : Type} (a0 : Int) (a1 : Int) (k0 : Int → Int → Int → Int → Option R) : Option R := (k0 a0 0 a1 0)
def P_arith_of : AP := ⟨[.agg [.p (.s (.i .i64)), .p (.s (.i .i64))]], []⟩
def e_arith_of (N : Nat) {R : Type} (x : P_arith_of.den) (k : List Nat → List DS → HeapS → Option R) : Option R := arith_of N x.1.1.1 x.1.1.2.1 (fun r0 r1 r2 r3 => k [] [.agg [.p (.i .i64 r0), .p (.i .i64 r1), .p (.i .i64 r2), .p (.i .i64 r3)]] [])
noncomputable def F30 (N : Nat) {R : Type} : CfS R := updC (F29 N) 81 (ent P_arith_of (e_arith_of N) (F29 N 81))
theorem F30_ok (N : Nat) {R : Type} : FOK (F30 N : CfS R) (runF T) :=
  FOK_upd (F29_ok N) (Snd_ent (F29_ok N) (H := H_arith_of) (Lp := Larith_of_0 N) (X := X_arith_of) (rp := []) (ver := c81) rfl (LOK_of (l := []) (by kernel_rfl) trivial) (fun x k => by kernel_rfl) (Snd_of (F29_ok N) 81 fun _ _ _ _ h => h))
def X_arith_powers : Nat → List SP := fun _ => []
def H_arith_powers : Nat → Option (List Sh) := fun n => none
noncomputable def Larith_powers_0 (N : Nat) {R : Type} : Nat → StS → KS R → Option R := noL
def arith_powers (N : Nat) {R : Type} (k0 : Int → Int → Int → Int → Int → Int → Int → Int → Int → Int → Int → Int → Int → Int → Int → Int → Int → Int → Int → Int → Int → Int → Int → Int → Int → Int → Int → Int → Int → Int → Int → Int → Option R) : Option R := (k0 1 0 0 0 0 1 0 (-1) 0 0 (-1) 0 0 (-1) 0 (-1) (-1) 0 0 0 0 (-1) 0 1 0 0 1 0 0 1 0 1)
def P_arith_powers : AP := ⟨[], []⟩
def e_arith_powers (N : Nat) {R : Type} (x : P_arith_powers.den) (k : List Nat → List DS → HeapS → Option R) : Option R := arith_powers N (fun r0 r1 r2 r3 r4 r5 r6 r7 r8 r9 r10 r11 r12 r13 r14 r15 r16 r17 r18 r19 r20 r21 r22 r23 r24 r25 r26 r27 r28 r29 r30 r31 => k [] [.agg [.p (.i .i64 r0), .p (.i .i64 r1), .p (.i .i64 r2), .p (.i .i64 r3), .p (.i .i64 r4), .p (.i .i64 r5), .p (.i .i64 r6), .p (.i .i64 r7), .p (.i .i64 r8), .p (.i .i64 r9), .p (.i .i64 r10), .p (.i .i64 r11), .p (.i .i64 r12), .p (.i .i64 r13), .p (.i .i64 r14), .p (.i .i64 r15), .p (.i .i64 r16), .p (.i .i64 r17), .p (.i .i64 r18), .p (.i .i64 r19), .p (.i .i64 r20), .p (.i .i64 r21), .p (.i .i64 r22), .p (.i .i64 r23), .p (.i .i64 r24), .p (.i .i64 r25), .p (.i .i64 r26), .p (.i .i64 r27), .p (.i .i64 r28), .p (.i .i64 r29), .p (.i .i64 r30), .p (.i .i64 r31)]] [])
noncomputable def F31 (N : Nat) {R : Type} : CfS R := updC (F30 N) 122 (ent P_arith_powers (e_arith_powers N) (F30 N 122))
theorem F31_ok (N : Nat) {R : Type} : FOK (F31 N : CfS R) (runF T) :=
  FOK_upd (F30_ok N) (Snd_ent (F30_ok N) (H := H_arith_powers) (Lp := Larith_powers_0 N) (X := X_arith_powers) (rp := []) (ver := c122) rfl (LOK_of (l := []) (by kernel_rfl) trivial) (fun x k => by kernel_rfl) (Snd_of (F30_ok N) 122 fun _ _ _ _ h => h))
def X_arith_number_turned : Nat → List SP := fun _ => []
def H_arith_number_turned : Nat → Option (List Sh) := fun n => none
noncomputable def Larith_number_turned_0 (N : Nat) {R : Type} : Nat → StS → KS R → Option R := noL
def arith_number_turned (N : Nat) {R : Type} (a0 : Int) (a1 : Int) (a2 : Int) (a3 : Int) (a4 : Int) (k0 : Int → Int → Int → Int → Option R) : Option R := (arith_powers N (fun y1 y2 y3 y4 y5 y6 y7 y8 y9 y10 y11 y12 y13 y14 y15 y16 y17 y18 y19 y20 y21 y22 y23 y24 y25 y26 y27 y28 y29 y30 y31 y32 => (bif decide ((Int.tmod a4 8) = 7) then (k0 (w64 ((w64 (a0 * y29)) - (w64 (a2 * y31)))) (w64 ((w64 (a0 * y30)) - (w64 (a2 * y32)))) (w64 ((w64 (a0 * y31)) + (w64 (a2 * y29)))) (w64 ((w64 (a0 * y32)) + (w64 (a2 * y30))))) else (bif decide ((Int.tmod a4 8) = 6) then (k0 (w64 ((w64 (a0 * y25)) - (w64 (a2 * y27)))) (w64 ((w64 (a0 * y26)) - (w64 (a2 * y28)))) (w64 ((w64 (a0 * y27)) + (w64 (a2 * y25)))) (w64 ((w64 (a0 * y28)) + (w64 (a2 * y26))))) else (bif decide ((Int.tmod a4 8) = 5) then (k0 (w64 ((w64 (a0 * y21)) - (w64 (a2 * y23)))) (w64 ((w64 (a0 * y22)) - (w64 (a2 * y24)))) (w64 ((w64 (a0 * y23)) + (w64 (a2 * y21)))) (w64 ((w64 (a0 * y24)) + (w64 (a2 * y22))))) else (bif decide ((Int.tmod a4 8) = 4) then (k0 (w64 ((w64 (a0 * y17)) - (w64 (a2 * y19)))) (w64 ((w64 (a0 * y18)) - (w64 (a2 * y20)))) (w64 ((w64 (a0 * y19)) + (w64 (a2 * y17)))) (w64 ((w64 (a0 * y20)) + (w64 (a2 * y18))))) else (bif decide ((Int.tmod a4 8) = 3) then (k0 (w64 ((w64 (a0 * y13)) - (w64 (a2 * y15)))) (w64 ((w64 (a0 * y14)) - (w64 (a2 * y16)))) (w64 ((w64 (a0 * y15)) + (w64 (a2 * y13)))) (w64 ((w64 (a0 * y16)) + (w64 (a2 * y14))))) else (bif decide ((Int.tmod a4 8) = 2) then (k0 (w64 ((w64 (a0 * y9)) - (w64 (a2 * y11)))) (w64 ((w64 (a0 * y10)) - (w64 (a2 * y12)))) (w64 ((w64 (a0 * y11)) + (w64 (a2 * y9)))) (w64 ((w64 (a0 * y12)) + (w64 (a2 * y10))))) else (bif decide ((Int.tmod a4 8) = 1) then (k0 (w64 ((w64 (a0 * y5)) - (w64 (a2 * y7)))) (w64 ((w64 (a0 * y6)) - (w64 (a2 * y8)))) (w64 ((w64 (a0 * y7)) + (w64 (a2 * y5)))) (w64 ((w64 (a0 * y8)) + (w64 (a2 * y6))))) else (bif decide ((Int.tmod a4 8) = 0) then (k0 (w64 ((w64 (a0 * y1)) - (w64 (a2 * y3)))) (w64 ((w64 (a0 * y2)) - (w64 (a2 * y4)))) (w64 ((w64 (a0 * y3)) + (w64 (a2 * y1)))) (w64 ((w64 (a0 * y4)) + (w64 (a2 * y2))))) else none))))))))))
def P_arith_number_turned : AP := ⟨[.agg [.p (.s (.i .i64)), .p (.s (.i .i64)), .p (.s (.i .i64)), .p (.s (.i .i64))], .p (.s (.i .i64))], []⟩
def e_arith_number_turned (N : Nat) {R : Type} (x : P_arith_number_turned.den) (k : List Nat → List DS → HeapS → Option R) : Option R := arith_number_turned N x.1.1.1 x.1.1.2.1 x.1.1.2.2.1 x.1.1.2.2.2.1 x.1.2.1 (fun r0 r1 r2 r3 => k [] [.agg [.p (.i .i64 r0), .p (.i .i64 r1), .p (.i .i64 r2), .p (.i .i64 r3)]] [])
noncomputable def F32 (N : Nat) {R : Type} : CfS R := updC (F31 N) 82 (ent P_arith_number_turned (e_arith_number_turned N) (F31 N 82))
theorem F32_ok (N : Nat) {R : Type} : FOK (F32 N : CfS R) (runF T) :=
  FOK_upd (F31_ok N) (Snd_ent (F31_ok N) (H := H_arith_number_turned) (Lp := Larith_number_turned_0 N) (X := X_arith_number_turned) (rp := []) (ver := c82) rfl (LOK_of (l := []) (by kernel_rfl) trivial) (fun x k => by kernel_rfl) (Snd_of (F31_ok N) 82 fun _ _ _ _ h => h))
def X_arith_number_plus : Nat → List SP := fun _ => []
def H_arith_number_plus : Nat → Option (List Sh) := fun n => none
noncomputable def Larith_number_plus_0 (N : Nat) {R : Type} : Nat → StS → KS R → Option R := noL
def arith_number_plus (N : Nat) {R : Type} (a0 : Int) (a1 : Int) (a2 : Int) (a3 : Int) (a4 : Int) (a5 : Int) (a6 : Int) (a7 : Int) (k0 : Int → Int → Int → Int → Option R) : Option R := (k0 (w64 (a0 + a4)) (w64 (a1 + a5)) (w64 (a2 + a6)) (w64 (a3 + a7)))
def P_arith_number_plus : AP := ⟨[.agg [.p (.s (.i .i64)), .p (.s (.i .i64)), .p (.s (.i .i64)), .p (.s (.i .i64))], .agg [.p (.s (.i .i64)), .p (.s (.i .i64)), .p (.s (.i .i64)), .p (.s (.i .i64))]], []⟩
def e_arith_number_plus (N : Nat) {R : Type} (x : P_arith_number_plus.den) (k : List Nat → List DS → HeapS → Option R) : Option R := arith_number_plus N x.1.1.1 x.1.1.2.1 x.1.1.2.2.1 x.1.1.2.2.2.1 x.1.2.1.1 x.1.2.1.2.1 x.1.2.1.2.2.1 x.1.2.1.2.2.2.1 (fun r0 r1 r2 r3 => k [] [.agg [.p (.i .i64 r0), .p (.i .i64 r1), .p (.i .i64 r2), .p (.i .i64 r3)]] [])
noncomputable def F33 (N : Nat) {R : Type} : CfS R := updC (F32 N) 80 (ent P_arith_number_plus (e_arith_number_plus N) (F32 N 80))
theorem F33_ok (N : Nat) {R : Type} : FOK (F33 N : CfS R) (runF T) :=
  FOK_upd (F32_ok N) (Snd_ent (F32_ok N) (H := H_arith_number_plus) (Lp := Larith_number_plus_0 N) (X := X_arith_number_plus) (rp := []) (ver := c80) rfl (LOK_of (l := []) (by kernel_rfl) trivial) (fun x k => by kernel_rfl) (Snd_of (F32_ok N) 80 fun _ _ _ _ h => h))
def X_arith_TransformOf : Nat → List SP := fun p => if p = 63 then [⟨[(2, .own 0), (3, .p (.s (.i .i64)))], [(0, .arr [.i .i64, .i .i64, .i .i64, .i .i64])]⟩] else if p = 109 then [⟨[(2, .own 0), (3, .p (.s (.i .i64)))], [(0, .arr [.i .i64, .i .i64, .i .i64, .i .i64])]⟩] else []
def H_arith_TransformOf : Nat → Option (List Sh) := fun n => if n = 47000 then some [.i .i64, .i .i64, .i .i64, .i .i64] else none
noncomputable def Larith_TransformOf_0 (N : Nat) {R : Type} : Nat → StS → KS R → Option R := noL
def arith_TransformOf_l1 (N : Nat) {R : Type} (k0 : (List (Int × Int)) → Int → Int → Int → Int → Int → Int → Option R) (k1 : (List (Int × Int)) → Int → Int → (List (Int × Int × Int × Int)) → Int → Int → Int → Int → Option R) : Nat → (List (Int × Int)) → Int → Int → Int → (List (Int × Int)) → Int → Int → (List (Int × Int × Int × Int)) → Int → Int → Int → Int → Option R
  | 0, _, _, _, _, _, _, _, _, _, _, _, _ => none
  | n + 1, b0, b1, b2, b3, b4, b5, b6, b7, b8, b9, b10, b11 => (bif decide (b6 < b5) then ((at? b4 b6).bind fun x1 => (arith_of N x1.1 x1.2 (fun y2 y3 y4 y5 => (bif decide (((b0.length : Nat) : Int) = 0) then none else (arith_number_turned N y2 y3 y4 y5 (w64 ((w64 (b6 * b1)) * (w64 (Int.tdiv 8 ((b0.length : Nat) : Int))))) (fun y6 y7 y8 y9 => (arith_number_plus N b8 b9 b10 b11 y6 y7 y8 y9 (fun y10 y11 y12 y13 => (arith_TransformOf_l1 N k0 k1 n b0 b1 b2 b3 b4 b5 (w64 (b6 + 1)) b7 y10 y11 y12 y13))))))))) else (k1 b0 b2 b3 b7 b8 b9 b10 b11))
def Parith_TransformOf_l1 : SP := ⟨[(0, .p (.s (.sl [.i .i64, .i .i64]))), (5, .own 0), (6, .p (.s (.i .i64))), (7, .ptr 1 0), (16, .p (.s (.i .i64))), (17, .p (.s (.i .i64))), (20, .p (.s (.sl [.i .i64, .i .i64]))), (21, .p (.s (.i .i64))), (22, .p (.s (.i .i64)))], [(0, .arr [.i .i64, .i .i64, .i .i64, .i .i64]), (1, .box [.p (.s (.i .i64)), .p (.s (.i .i64)), .p (.s (.i .i64)), .p (.s (.i .i64))])]⟩
def earith_TransformOf_l1 (N : Nat) {R : Type} (n : Nat) (x : Parith_TransformOf_l1.den) (k : KS R) : Option R := arith_TransformOf_l1 N (fun r0 r1 r2 r3 r4 r5 r6 => k (.ex 2) ⟨[(0, .p (.l (.t [.i .i64, .i .i64] r0))), (5, .own 0), (7, .ptr 1 0), (16, .p (.i .i64 r1)), (17, .p (.i .i64 r2))], [(0, .arr (.e 4)), (1, .box [.p (.i .i64 r3), .p (.i .i64 r4), .p (.i .i64 r5), .p (.i .i64 r6)])]⟩) (fun r0 r1 r2 r3 r4 r5 r6 r7 => k (.ex 2) ⟨[(0, .p (.l (.t [.i .i64, .i .i64] r0))), (5, .own 0), (7, .ptr 1 0), (16, .p (.i .i64 r1)), (17, .p (.i .i64 r2))], [(0, .arr (.t [.i .i64, .i .i64, .i .i64, .i .i64] r3)), (1, .box [.p (.i .i64 r4), .p (.i .i64 r5), .p (.i .i64 r6), .p (.i .i64 r7)])]⟩) n x.1.1 x.1.2.2.1 x.1.2.2.2.2.1 x.1.2.2.2.2.2.1 x.1.2.2.2.2.2.2.1 x.1.2.2.2.2.2.2.2.1 x.1.2.2.2.2.2.2.2.2.1 x.2.1 x.2.2.1.1 x.2.2.1.2.1 x.2.2.1.2.2.1 x.2.2.1.2.2.2.1
theorem loop_arith_TransformOf_l1 (N : Nat) {R : Type} : ∀ (n : Nat) (s : StS) (k : KS R) (r : R), lent' Parith_TransformOf_l1 (earith_TransformOf_l1 N n) s k = some r → ∃ e s', runL (runF T) [0, 5, 6, 7, 16, 17, 20, 21, 22] c38_l1 s.enc = some (e, s'.enc) ∧ k e s' = some r :=
  loop_ok (F33_ok N) (H := H_arith_TransformOf) (Lp := Larith_TransformOf_0 N) (X := X_arith_TransformOf) (p := 125338) (LOK_of (l := []) (by kernel_rfl) trivial) (fun _ _ => rfl) (fun n x k => by kernel_rfl)
noncomputable def Larith_TransformOf_1 (N : Nat) {R : Type} : Nat → StS → KS R → Option R := updL (Larith_TransformOf_0 N) 125338 (lent' Parith_TransformOf_l1 (earith_TransformOf_l1 N N))
def arith_TransformOf_l0 (N : Nat) {R : Type} (k0 : Option R) (k1 : (List (Int × Int × Int × Int)) → Option R) : Nat → (List (Int × Int)) → Int → Int → (List (Int × Int × Int × Int)) → Option R
  | 0, _, _, _, _ => none
  | n + 1, b0, b1, b2, b3 => (bif decide (b2 < b1) then (arith_TransformOf_l1 N (fun z14 z15 z16 z17 z18 z19 z20 => (arith_TransformOf_l0 N k0 k1 n z14 z15 (w64 (z16 + 1)) [(z17, z18, z19, z20)])) (fun z21 z22 z23 z24 z25 z26 z27 z28 => (bif roomB (z24.length + 1) 32 then (arith_TransformOf_l0 N k0 k1 n z21 z22 (w64 (z23 + 1)) (z24 ++ [(z25, z26, z27, z28)])) else none)) N b0 b2 b1 b2 b0 ((b0.length : Nat) : Int) 0 b3 0 0 0 0) else (k1 b3))
def Parith_TransformOf_l0 : SP := ⟨[(0, .p (.s (.sl [.i .i64, .i .i64]))), (5, .own 0), (16, .p (.s (.i .i64))), (17, .p (.s (.i .i64)))], [(0, .arr [.i .i64, .i .i64, .i .i64, .i .i64])]⟩
def earith_TransformOf_l0 (N : Nat) {R : Type} (n : Nat) (x : Parith_TransformOf_l0.den) (k : KS R) : Option R := arith_TransformOf_l0 N (k (.ex 0) ⟨[(5, .own 0)], [(0, .arr (.e 4))]⟩) (fun r0 => k (.ex 0) ⟨[(5, .own 0)], [(0, .arr (.t [.i .i64, .i .i64, .i .i64, .i .i64] r0))]⟩) n x.1.1 x.1.2.2.1 x.1.2.2.2.1 x.2.1
theorem loop_arith_TransformOf_l0 (N : Nat) {R : Type} : ∀ (n : Nat) (s : StS) (k : KS R) (r : R), lent' Parith_TransformOf_l0 (earith_TransformOf_l0 N n) s k = some r → ∃ e s', runL (runF T) [0, 5, 16, 17] c38_l0 s.enc = some (e, s'.enc) ∧ k e s' = some r :=
  loop_ok (F33_ok N) (H := H_arith_TransformOf) (Lp := Larith_TransformOf_1 N) (X := X_arith_TransformOf) (p := 122) (LOK_of (l := [(125338, [0, 5, 6, 7, 16, 17, 20, 21, 22], c38_l1)]) (by kernel_rfl) ⟨(updL_ok (loop_arith_TransformOf_l1 N N)), trivial⟩) (fun _ _ => rfl) (fun n x k => by kernel_rfl)
noncomputable def Larith_TransformOf_2 (N : Nat) {R : Type} : Nat → StS → KS R → Option R := updL (Larith_TransformOf_1 N) 122 (lent' Parith_TransformOf_l0 (earith_TransformOf_l0 N N))
def arith_TransformOf (N : Nat) {R : Type} (a0 : List (Int × Int)) (k0 : (List (Int × Int × Int × Int)) → Int → Option R) : Option R := (arith_pointsErr N a0 (fun y1 => (bif decide (y1 ≠ 0) then (k0 [] y1) else (arith_TransformOf_l0 N (k0 [] 0) (fun z29 => (k0 z29 0)) N a0 ((a0.length : Nat) : Int) 0 []))))
def P_arith_TransformOf : AP := ⟨[.p (.s (.sl [.i .i64, .i .i64]))], []⟩
def e_arith_TransformOf (N : Nat) {R : Type} (x : P_arith_TransformOf.den) (k : List Nat → List DS → HeapS → Option R) : Option R := arith_TransformOf N x.1.1 (fun r0 r1 => k [] [.p (.l (.t [.i .i64, .i .i64, .i .i64, .i .i64] r0)), .p (.i .i64 r1)] [])
noncomputable def F34 (N : Nat) {R : Type} : CfS R := updC (F33 N) 38 (ent P_arith_TransformOf (e_arith_TransformOf N) (F33 N 38))
theorem F34_ok (N : Nat) {R : Type} : FOK (F34 N : CfS R) (runF T) :=
  FOK_upd (F33_ok N) (Snd_ent (F33_ok N) (H := H_arith_TransformOf) (Lp := Larith_TransformOf_2 N) (X := X_arith_TransformOf) (rp := []) (ver := c38) rfl (LOK_of (l := [(122, [0, 5, 16, 17], c38_l0)]) (by kernel_rfl) ⟨(updL_ok (loop_arith_TransformOf_l0 N N)), trivial⟩) (fun x k => by kernel_rfl) (Snd_of (F33_ok N) 38 fun _ _ _ _ h => h))
def X_arith_each_int__c1_v1 : Nat → List SP := fun _ => []
def H_arith_each_int__c1_v1 : Nat → Option (List Sh) := fun n => none
noncomputable def Larith_each_int__c1_v1_0 (N : Nat) {R : Type} : Nat → StS → KS R → Option R := noL
def arith_each_int__c1_v1 (N : Nat) {R : Type} (a0 : Int) (k0 : Bool → Option R) : Option R := (arith_isSample N a0 (fun y1 => (k0 (!y1))))
def P_arith_each_int__c1_v1 : AP := ⟨[.p (.s (.i .i64)), .ptr 0 0], [(0, .box [.p (.fn 94 [])])]⟩
def e_arith_each_int__c1_v1 (N : Nat) {R : Type} (x : P_arith_each_int__c1_v1.den) (k : List Nat → List DS → HeapS → Option R) : Option R := arith_each_int__c1_v1 N x.1.1 (fun r0 => k [0] [.p (.b r0)] [(0, .box [.p (.fn 94 [])])])
noncomputable def F35 (N : Nat) {R : Type} : CfS R := updC (F34 N) 126 (ent P_arith_each_int__c1_v1 (e_arith_each_int__c1_v1 N) (F34 N 126))
theorem F35_ok (N : Nat) {R : Type} : FOK (F35 N : CfS R) (runF T) :=
  FOK_upd (F34_ok N) (Snd_ent (F34_ok N) (H := H_arith_each_int__c1_v1) (Lp := Larith_each_int__c1_v1_0 N) (X := X_arith_each_int__c1_v1) (rp := []) (ver := c126) rfl (LOK_of (l := []) (by kernel_rfl) trivial) (fun x k => by kernel_rfl) (Snd_of (F34_ok N) 126 fun _ _ _ _ h => h))
def X_slices_IndexFunc_Lint_int_v1 : Nat → List SP := fun _ => []
def H_slices_IndexFunc_Lint_int_v1 : Nat → Option (List Sh) := fun n => none
noncomputable def Lslices_IndexFunc_Lint_int_v1_0 (N : Nat) {R : Type} : Nat → StS → KS R → Option R := noL
def slices_IndexFunc_Lint_int_v1_l0 (N : Nat) {R : Type} (k0 : Int → Option R) (k1 : Option R) : Nat → List Int → Int → Int → Option R
  | 0, _, _, _ => none
  | n + 1, b0, b1, b2 => (bif decide (b2 < b1) then ((at? b0 b2).bind fun x1 => (arith_each_int__c1_v1 N x1 (fun y2 => (bif y2 then (k0 b2) else (slices_IndexFunc_Lint_int_v1_l0 N k0 k1 n b0 b1 (w64 (b2 + 1))))))) else k1)
def Pslices_IndexFunc_Lint_int_v1_l0 : SP := ⟨[(0, .p (.s (.sl [.i .i64]))), (1, .fn 126 [.ptr 0 0]), (7, .p (.s (.i .i64))), (8, .p (.s (.i .i64))), (100001, .fn 126 [.ptr 0 0])], [(0, .box [.p (.fn 94 [])])]⟩
def eslices_IndexFunc_Lint_int_v1_l0 (N : Nat) {R : Type} (n : Nat) (x : Pslices_IndexFunc_Lint_int_v1_l0.den) (k : KS R) : Option R := slices_IndexFunc_Lint_int_v1_l0 N (fun r0 => k .ret ⟨[(4, .p (.i .i64 r0)), (100001, .fn 126 [.ptr 0 0])], [(0, .box [.p (.fn 94 [])])]⟩) (k (.ex 0) ⟨[(100001, .fn 126 [.ptr 0 0])], [(0, .box [.p (.fn 94 [])])]⟩) n x.1.1 x.1.2.2.1 x.1.2.2.2.1
theorem loop_slices_IndexFunc_Lint_int_v1_l0 (N : Nat) {R : Type} : ∀ (n : Nat) (s : StS) (k : KS R) (r : R), lent' Pslices_IndexFunc_Lint_int_v1_l0 (eslices_IndexFunc_Lint_int_v1_l0 N n) s k = some r → ∃ e s', runL (runF T) [0, 1, 7, 8] c140_l0 s.enc = some (e, s'.enc) ∧ k e s' = some r :=
  loop_ok (F35_ok N) (H := H_slices_IndexFunc_Lint_int_v1) (Lp := Lslices_IndexFunc_Lint_int_v1_0 N) (X := X_slices_IndexFunc_Lint_int_v1) (p := 26) (LOK_of (l := []) (by kernel_rfl) trivial) (fun _ _ => rfl) (fun n x k => by kernel_rfl)
noncomputable def Lslices_IndexFunc_Lint_int_v1_1 (N : Nat) {R : Type} : Nat → StS → KS R → Option R := updL (Lslices_IndexFunc_Lint_int_v1_0 N) 26 (lent' Pslices_IndexFunc_Lint_int_v1_l0 (eslices_IndexFunc_Lint_int_v1_l0 N N))
def slices_IndexFunc_Lint_int_v1 (N : Nat) {R : Type} (a0 : List Int) (k0 : Int → Option R) : Option R := (slices_IndexFunc_Lint_int_v1_l0 N (fun z3 => (k0 z3)) (k0 (-1)) N a0 ((a0.length : Nat) : Int) 0)
def P_slices_IndexFunc_Lint_int_v1 : AP := ⟨[.p (.s (.sl [.i .i64])), .fn 126 [.ptr 0 0]], [(0, .box [.p (.fn 94 [])])]⟩
def e_slices_IndexFunc_Lint_int_v1 (N : Nat) {R : Type} (x : P_slices_IndexFunc_Lint_int_v1.den) (k : List Nat → List DS → HeapS → Option R) : Option R := slices_IndexFunc_Lint_int_v1 N x.1.1 (fun r0 => k [0] [.p (.i .i64 r0)] [(0, .box [.p (.fn 94 [])])])
noncomputable def F36 (N : Nat) {R : Type} : CfS R := updC (F35 N) 140 (ent P_slices_IndexFunc_Lint_int_v1 (e_slices_IndexFunc_Lint_int_v1 N) (F35 N 140))
theorem F36_ok (N : Nat) {R : Type} : FOK (F36 N : CfS R) (runF T) :=
  FOK_upd (F35_ok N) (Snd_ent (F35_ok N) (H := H_slices_IndexFunc_Lint_int_v1) (Lp := Lslices_IndexFunc_Lint_int_v1_1 N) (X := X_slices_IndexFunc_Lint_int_v1) (rp := []) (ver := c140) rfl (LOK_of (l := [(26, [0, 1, 7, 8], c140_l0)]) (by kernel_rfl) ⟨(updL_ok (loop_slices_IndexFunc_Lint_int_v1_l0 N N)), trivial⟩) (fun x k => by kernel_rfl) (Snd_of (F35_ok N) 140 fun _ _ _ _ h => h))
def X_slices_ContainsFunc_Lint_int_v1 : Nat → List SP := fun _ => []
def H_slices_ContainsFunc_Lint_int_v1 : Nat → Option (List Sh) := fun n => none
noncomputable def Lslices_ContainsFunc_Lint_int_v1_0 (N : Nat) {R : Type} : Nat → StS → KS R → Option R := noL
def slices_ContainsFunc_Lint_int_v1 (N : Nat) {R : Type} (a0 : List Int) (k0 : Bool → Option R) : Option R := (slices_IndexFunc_Lint_int_v1 N a0 (fun y1 => (k0 (decide (0 ≤ y1)))))
def P_slices_ContainsFunc_Lint_int_v1 : AP := ⟨[.p (.s (.sl [.i .i64])), .fn 126 [.ptr 0 0]], [(0, .box [.p (.fn 94 [])])]⟩
def e_slices_ContainsFunc_Lint_int_v1 (N : Nat) {R : Type} (x : P_slices_ContainsFunc_Lint_int_v1.den) (k : List Nat → List DS → HeapS → Option R) : Option R := slices_ContainsFunc_Lint_int_v1 N x.1.1 (fun r0 => k [0] [.p (.b r0)] [(0, .box [.p (.fn 94 [])])])
noncomputable def F37 (N : Nat) {R : Type} : CfS R := updC (F36 N) 125 (ent P_slices_ContainsFunc_Lint_int_v1 (e_slices_ContainsFunc_Lint_int_v1 N) (F36 N 125))
theorem F37_ok (N : Nat) {R : Type} : FOK (F37 N : CfS R) (runF T) :=
  FOK_upd (F36_ok N) (Snd_ent (F36_ok N) (H := H_slices_ContainsFunc_Lint_int_v1) (Lp := Lslices_ContainsFunc_Lint_int_v1_0 N) (X := X_slices_ContainsFunc_Lint_int_v1) (rp := []) (ver := c125) rfl (LOK_of (l := []) (by kernel_rfl) trivial) (fun x k => by kernel_rfl) (Snd_of (F36_ok N) 125 fun _ _ _ _ h => h))
def X_arith_each_int_v1 : Nat → List SP := fun _ => []
def H_arith_each_int_v1 : Nat → Option (List Sh) := fun n => none
noncomputable def Larith_each_int_v1_0 (N : Nat) {R : Type} : Nat → StS → KS R → Option R := noL
def arith_each_int_v1 (N : Nat) {R : Type} (a0 : List Int) (k0 : Bool → Option R) : Option R := (slices_ContainsFunc_Lint_int_v1 N a0 (fun y1 => (k0 (!y1))))
def P_arith_each_int_v1 : AP := ⟨[.p (.s (.sl [.i .i64])), .p (.fn 94 [])], []⟩
def e_arith_each_int_v1 (N : Nat) {R : Type} (x : P_arith_each_int_v1.den) (k : List Nat → List DS → HeapS → Option R) : Option R := arith_each_int_v1 N x.1.1 (fun r0 => k [] [.p (.b r0)] [])
noncomputable def F38 (N : Nat) {R : Type} : CfS R := updC (F37 N) 93 (ent P_arith_each_int_v1 (e_arith_each_int_v1 N) (F37 N 93))
theorem F38_ok (N : Nat) {R : Type} : FOK (F38 N : CfS R) (runF T) :=
  FOK_upd (F37_ok N) (Snd_ent (F37_ok N) (H := H_arith_each_int_v1) (Lp := Larith_each_int_v1_0 N) (X := X_arith_each_int_v1) (rp := []) (ver := c93) rfl (LOK_of (l := []) (by kernel_rfl) trivial) (fun x k => by kernel_rfl) (Snd_of (F37_ok N) 93 fun _ _ _ _ h => h))
def X_arith_samplesErr : Nat → List SP := fun _ => []
def H_arith_samplesErr : Nat → Option (List Sh) := fun n => if n = 13000 then some [.i .i64] else none
noncomputable def Larith_samplesErr_0 (N : Nat) {R : Type} : Nat → StS → KS R → Option R := noL
def arith_samplesErr (N : Nat) {R : Type} (a0 : List Int) (k0 : Int → Option R) : Option R := (arith_unless N (decide (0 < ((a0.length : Nat) : Int))) 10 (fun y1 => (arith_unless N (decide (((a0.length : Nat) : Int) ≤ 30)) 8 (fun y2 => (arith_each_int_v1 N a0 (fun y3 => (arith_unless N y3 2 (fun y4 => (arith_first N [y1, y2, y4] (fun y5 => (k0 y5)))))))))))
def P_arith_samplesErr : AP := ⟨[.p (.s (.sl [.i .i64]))], []⟩
def e_arith_samplesErr (N : Nat) {R : Type} (x : P_arith_samplesErr.den) (k : List Nat → List DS → HeapS → Option R) : Option R := arith_samplesErr N x.1.1 (fun r0 => k [] [.p (.i .i64 r0)] [])
noncomputable def F39 (N : Nat) {R : Type} : CfS R := updC (F38 N) 57 (ent P_arith_samplesErr (e_arith_samplesErr N) (F38 N 57))
theorem F39_ok (N : Nat) {R : Type} : FOK (F39 N : CfS R) (runF T) :=
  FOK_upd (F38_ok N) (Snd_ent (F38_ok N) (H := H_arith_samplesErr) (Lp := Larith_samplesErr_0 N) (X := X_arith_samplesErr) (rp := []) (ver := c57) rfl (LOK_of (l := []) (by kernel_rfl) trivial) (fun x k => by kernel_rfl) (Snd_of (F38_ok N) 57 fun _ _ _ _ h => h))
def X_arith_ConvolvedBy : Nat → List SP := fun p => if p = 109 then [⟨[(4, .own 0), (5, .p (.s (.i .i64)))], [(0, .arr [.i .i64])]⟩] else []
def H_arith_ConvolvedBy : Nat → Option (List Sh) := fun n => if n = 7000 then some [.i .i64] else if n = 21000 then some [.i .i64] else none
noncomputable def Larith_ConvolvedBy_0 (N : Nat) {R : Type} : Nat → StS → KS R → Option R := noL
def arith_ConvolvedBy_l1 (N : Nat) {R : Type} (k0 : List Int → List Int → Int → Int → List Int → Option R) : Nat → List Int → Int → Int → List Int → Int → Int → List Int → Int → Int → List Int → Option R
  | 0, _, _, _, _, _, _, _, _, _, _ => none
  | n + 1, b0, b1, b2, b3, b4, b5, b6, b7, b8, b9 => (bif decide (b8 < b7) then ((at? b6 b8).bind fun x1 => (bif inR (w64 (b1 + b8)) b9.length then ((b9[(w64 (b1 + b8)).toNat]?).bind fun x2 => (bif inR (w64 (b1 + b8)) b9.length then ((b9[(w64 (b1 + b8)).toNat]?).bind fun x3 => (arith_ConvolvedBy_l1 N k0 n b0 b1 b2 b3 b4 b5 b6 b7 (w64 (b8 + 1)) (List.set b9 ((w64 (b1 + b8)).toNat) (w64 (x2 + (w64 (b2 * x1))))))) else none)) else none)) else (k0 b0 b3 b4 b5 b9))
def Parith_ConvolvedBy_l1 : SP := ⟨[(1, .p (.s (.sl [.i .i64]))), (7, .own 0), (8, .p (.s (.i .i64))), (9, .p (.s (.i .i64))), (28, .p (.s (.sl [.i .i64]))), (29, .p (.s (.i .i64))), (30, .p (.s (.i .i64))), (35, .p (.s (.sl [.i .i64]))), (36, .p (.s (.i .i64))), (37, .p (.s (.i .i64)))], [(0, .arr [.i .i64])]⟩
def earith_ConvolvedBy_l1 (N : Nat) {R : Type} (n : Nat) (x : Parith_ConvolvedBy_l1.den) (k : KS R) : Option R := arith_ConvolvedBy_l1 N (fun r0 r1 r2 r3 r4 => k (.ex 2) ⟨[(1, .p (.l (.t [.i .i64] r0))), (7, .own 0), (28, .p (.l (.t [.i .i64] r1))), (29, .p (.i .i64 r2)), (30, .p (.i .i64 r3))], [(0, .arr (.t [.i .i64] r4))]⟩) n x.1.1 x.1.2.2.1 x.1.2.2.2.1 x.1.2.2.2.2.1 x.1.2.2.2.2.2.1 x.1.2.2.2.2.2.2.1 x.1.2.2.2.2.2.2.2.1 x.1.2.2.2.2.2.2.2.2.1 x.1.2.2.2.2.2.2.2.2.2.1 x.2.1
theorem loop_arith_ConvolvedBy_l1 (N : Nat) {R : Type} : ∀ (n : Nat) (s : StS) (k : KS R) (r : R), lent' Parith_ConvolvedBy_l1 (earith_ConvolvedBy_l1 N n) s k = some r → ∃ e s', runL (runF T) [1, 7, 8, 9, 28, 29, 30, 35, 36, 37] c39_l1 s.enc = some (e, s'.enc) ∧ k e s' = some r :=
  loop_ok (F39_ok N) (H := H_arith_ConvolvedBy) (Lp := Larith_ConvolvedBy_0 N) (X := X_arith_ConvolvedBy) (p := 31334) (LOK_of (l := []) (by kernel_rfl) trivial) (fun _ _ => rfl) (fun n x k => by kernel_rfl)
noncomputable def Larith_ConvolvedBy_1 (N : Nat) {R : Type} : Nat → StS → KS R → Option R := updL (Larith_ConvolvedBy_0 N) 31334 (lent' Parith_ConvolvedBy_l1 (earith_ConvolvedBy_l1 N N))
def arith_ConvolvedBy_l0 (N : Nat) {R : Type} (k0 : List Int → Option R) : Nat → List Int → List Int → Int → Int → List Int → Option R
  | 0, _, _, _, _, _ => none
  | n + 1, b0, b1, b2, b3, b4 => (bif decide (b3 < b2) then ((at? b1 b3).bind fun x1 => (arith_ConvolvedBy_l1 N (fun z4 z5 z6 z7 z8 => (arith_ConvolvedBy_l0 N k0 n z4 z5 z6 (w64 (z7 + 1)) z8)) N b0 b3 x1 b1 b2 b3 b0 ((b0.length : Nat) : Int) 0 b4)) else (k0 b4))
def Parith_ConvolvedBy_l0 : SP := ⟨[(1, .p (.s (.sl [.i .i64]))), (7, .own 0), (28, .p (.s (.sl [.i .i64]))), (29, .p (.s (.i .i64))), (30, .p (.s (.i .i64)))], [(0, .arr [.i .i64])]⟩
def earith_ConvolvedBy_l0 (N : Nat) {R : Type} (n : Nat) (x : Parith_ConvolvedBy_l0.den) (k : KS R) : Option R := arith_ConvolvedBy_l0 N (fun r0 => k (.ex 0) ⟨[(7, .own 0)], [(0, .arr (.t [.i .i64] r0))]⟩) n x.1.1 x.1.2.2.1 x.1.2.2.2.1 x.1.2.2.2.2.1 x.2.1
theorem loop_arith_ConvolvedBy_l0 (N : Nat) {R : Type} : ∀ (n : Nat) (s : StS) (k : KS R) (r : R), lent' Parith_ConvolvedBy_l0 (earith_ConvolvedBy_l0 N n) s k = some r → ∃ e s', runL (runF T) [1, 7, 28, 29, 30] c39_l0 s.enc = some (e, s'.enc) ∧ k e s' = some r :=
  loop_ok (F39_ok N) (H := H_arith_ConvolvedBy) (Lp := Larith_ConvolvedBy_1 N) (X := X_arith_ConvolvedBy) (p := 122) (LOK_of (l := [(31334, [1, 7, 8, 9, 28, 29, 30, 35, 36, 37], c39_l1)]) (by kernel_rfl) ⟨(updL_ok (loop_arith_ConvolvedBy_l1 N N)), trivial⟩) (fun _ _ => rfl) (fun n x k => by kernel_rfl)
noncomputable def Larith_ConvolvedBy_2 (N : Nat) {R : Type} : Nat → StS → KS R → Option R := updL (Larith_ConvolvedBy_1 N) 122 (lent' Parith_ConvolvedBy_l0 (earith_ConvolvedBy_l0 N N))
def arith_ConvolvedBy (N : Nat) {R : Type} (a0 : List Int) (a1 : List Int) (k0 : List Int → Int → Option R) : Option R := (arith_samplesErr N a0 (fun y1 => (arith_samplesErr N a1 (fun y2 => (arith_first N [y1, y2] (fun y3 => (bif decide (y3 ≠ 0) then (k0 [] y3) else (bif decide (0 ≤ (w64 ((w64 (((a0.length : Nat) : Int) + ((a1.length : Nat) : Int))) - 1)) ∧ (w64 ((w64 (((a0.length : Nat) : Int) + ((a1.length : Nat) : Int))) - 1)) ≤ (w64 ((w64 (((a0.length : Nat) : Int) + ((a1.length : Nat) : Int))) - 1))) then (bif roomB ((w64 ((w64 (((a0.length : Nat) : Int) + ((a1.length : Nat) : Int))) - 1)).toNat) 8 then (arith_ConvolvedBy_l0 N (fun z9 => (k0 z9 0)) N a1 a0 ((a0.length : Nat) : Int) 0 (List.replicate ((w64 ((w64 (((a0.length : Nat) : Int) + ((a1.length : Nat) : Int))) - 1)).toNat) 0)) else none) else none))))))))
def P_arith_ConvolvedBy : AP := ⟨[.p (.s (.sl [.i .i64])), .p (.s (.sl [.i .i64]))], []⟩
def e_arith_ConvolvedBy (N : Nat) {R : Type} (x : P_arith_ConvolvedBy.den) (k : List Nat → List DS → HeapS → Option R) : Option R := arith_ConvolvedBy N x.1.1 x.1.2.1 (fun r0 r1 => k [] [.p (.l (.t [.i .i64] r0)), .p (.i .i64 r1)] [])
noncomputable def F40 (N : Nat) {R : Type} : CfS R := updC (F39 N) 39 (ent P_arith_ConvolvedBy (e_arith_ConvolvedBy N) (F39 N 39))
theorem F40_ok (N : Nat) {R : Type} : FOK (F40 N : CfS R) (runF T) :=
  FOK_upd (F39_ok N) (Snd_ent (F39_ok N) (H := H_arith_ConvolvedBy) (Lp := Larith_ConvolvedBy_2 N) (X := X_arith_ConvolvedBy) (rp := []) (ver := c39) rfl (LOK_of (l := [(122, [1, 7, 28, 29, 30], c39_l0)]) (by kernel_rfl) ⟨(updL_ok (loop_arith_ConvolvedBy_l0 N N)), trivial⟩) (fun x k => by kernel_rfl) (Snd_of (F39_ok N) 39 fun _ _ _ _ h => h))
def X_arith_power : Nat → List SP := fun _ => []
def H_arith_power : Nat → Option (List Sh) := fun n => none
noncomputable def Larith_power_0 (N : Nat) {R : Type} : Nat → StS → KS R → Option R := noL
def arith_power_l0 (N : Nat) {R : Type} (k0 : Int → Option R) : Nat → Int → Int → Int → Int → Option R
  | 0, _, _, _, _ => none
  | n + 1, b0, b1, b2, b3 => (bif decide (b3 < b2) then (arith_power_l0 N k0 n b0 (w64 (b1 * b0)) b2 (w64 (b3 + 1))) else (k0 b1))
def Parith_power_l0 : SP := ⟨[(0, .p (.s (.i .i64))), (5, .p (.s (.i .i64))), (6, .p (.s (.i .i64))), (7, .p (.s (.i .i64)))], []⟩
def earith_power_l0 (N : Nat) {R : Type} (n : Nat) (x : Parith_power_l0.den) (k : KS R) : Option R := arith_power_l0 N (fun r0 => k (.ex 0) ⟨[(5, .p (.i .i64 r0))], []⟩) n x.1.1 x.1.2.1 x.1.2.2.1 x.1.2.2.2.1
theorem loop_arith_power_l0 (N : Nat) {R : Type} : ∀ (n : Nat) (s : StS) (k : KS R) (r : R), lent' Parith_power_l0 (earith_power_l0 N n) s k = some r → ∃ e s', runL (runF T) [0, 5, 6, 7] c68_l0 s.enc = some (e, s'.enc) ∧ k e s' = some r :=
  loop_ok (F40_ok N) (H := H_arith_power) (Lp := Larith_power_0 N) (X := X_arith_power) (p := 58) (LOK_of (l := []) (by kernel_rfl) trivial) (fun _ _ => rfl) (fun n x k => by kernel_rfl)
noncomputable def Larith_power_1 (N : Nat) {R : Type} : Nat → StS → KS R → Option R := updL (Larith_power_0 N) 58 (lent' Parith_power_l0 (earith_power_l0 N N))
def arith_power (N : Nat) {R : Type} (a0 : Int) (a1 : Int) (k0 : Int → Option R) : Option R := (arith_power_l0 N (fun z1 => (k0 z1)) N a0 1 a1 0)
def P_arith_power : AP := ⟨[.p (.s (.i .i64)), .p (.s (.i .i64))], []⟩
def e_arith_power (N : Nat) {R : Type} (x : P_arith_power.den) (k : List Nat → List DS → HeapS → Option R) : Option R := arith_power N x.1.1 x.1.2.1 (fun r0 => k [] [.p (.i .i64 r0)] [])
noncomputable def F41 (N : Nat) {R : Type} : CfS R := updC (F40 N) 68 (ent P_arith_power (e_arith_power N) (F40 N 68))
theorem F41_ok (N : Nat) {R : Type} : FOK (F41 N : CfS R) (runF T) :=
  FOK_upd (F40_ok N) (Snd_ent (F40_ok N) (H := H_arith_power) (Lp := Larith_power_1 N) (X := X_arith_power) (rp := []) (ver := c68) rfl (LOK_of (l := [(58, [0, 5, 6, 7], c68_l0)]) (by kernel_rfl) ⟨(updL_ok (loop_arith_power_l0 N N)), trivial⟩) (fun x k => by kernel_rfl) (Snd_of (F40_ok N) 68 fun _ _ _ _ h => h))
def X_arith_FormatFixed : Nat → List SP := fun _ => []
def H_arith_FormatFixed : Nat → Option (List Sh) := fun n => if n = 6000 then some [.i .i64] else none
noncomputable def Larith_FormatFixed_0 (N : Nat) {R : Type} : Nat → StS → KS R → Option R := noL
def arith_FormatFixed_j0 (N : Nat) {R : Type} (k0 : ByteArray → Int → Option R) (b0 : Int) (b1 : ByteArray) (b2 : Int) (b3 : Int) (b4 : Int) (b5 : Int) : Option R := (bif decide (-9223372036854775808 ≤ b0 ∧ b0 ≤ 9223372036854775807) then (bif repOk (ByteArray.mk #[48]) (max 0 (w64 ((w64 (b3 + 1)) - (((itoaB b0).size : Nat) : Int)))) then (bif decide (((((repB (ByteArray.mk #[48]) ((max 0 (w64 ((w64 (b3 + 1)) - (((itoaB b0).size : Nat) : Int)))).toNat)).size + (itoaB b0).size : Nat)) : Int) > 9223372036854775807) then none else (bif decide (0 < b3) then (bif slP 0 (w64 (((((repB (ByteArray.mk #[48]) ((max 0 (w64 ((w64 (b3 + 1)) - (((itoaB b0).size : Nat) : Int)))).toNat)) ++ (itoaB b0)).size : Nat) : Int) - b3)) ((repB (ByteArray.mk #[48]) ((max 0 (w64 ((w64 (b3 + 1)) - (((itoaB b0).size : Nat) : Int)))).toNat)) ++ (itoaB b0)).size then (bif decide (((((ByteArray.extract ((repB (ByteArray.mk #[48]) ((max 0 (w64 ((w64 (b3 + 1)) - (((itoaB b0).size : Nat) : Int)))).toNat)) ++ (itoaB b0)) 0 ((w64 (((((repB (ByteArray.mk #[48]) ((max 0 (w64 ((w64 (b3 + 1)) - (((itoaB b0).size : Nat) : Int)))).toNat)) ++ (itoaB b0)).size : Nat) : Int) - b3)).toNat)).size + (ByteArray.mk #[46]).size : Nat)) : Int) > 9223372036854775807) then none else (bif slP (w64 (((((repB (ByteArray.mk #[48]) ((max 0 (w64 ((w64 (b3 + 1)) - (((itoaB b0).size : Nat) : Int)))).toNat)) ++ (itoaB b0)).size : Nat) : Int) - b3)) ((((repB (ByteArray.mk #[48]) ((max 0 (w64 ((w64 (b3 + 1)) - (((itoaB b0).size : Nat) : Int)))).toNat)) ++ (itoaB b0)).size : Nat) : Int) ((repB (ByteArray.mk #[48]) ((max 0 (w64 ((w64 (b3 + 1)) - (((itoaB b0).size : Nat) : Int)))).toNat)) ++ (itoaB b0)).size then (bif decide ((((((ByteArray.extract ((repB (ByteArray.mk #[48]) ((max 0 (w64 ((w64 (b3 + 1)) - (((itoaB b0).size : Nat) : Int)))).toNat)) ++ (itoaB b0)) 0 ((w64 (((((repB (ByteArray.mk #[48]) ((max 0 (w64 ((w64 (b3 + 1)) - (((itoaB b0).size : Nat) : Int)))).toNat)) ++ (itoaB b0)).size : Nat) : Int) - b3)).toNat)) ++ (ByteArray.mk #[46])).size + (ByteArray.extract ((repB (ByteArray.mk #[48]) ((max 0 (w64 ((w64 (b3 + 1)) - (((itoaB b0).size : Nat) : Int)))).toNat)) ++ (itoaB b0)) ((w64 (((((repB (ByteArray.mk #[48]) ((max 0 (w64 ((w64 (b3 + 1)) - (((itoaB b0).size : Nat) : Int)))).toNat)) ++ (itoaB b0)).size : Nat) : Int) - b3)).toNat) (((repB (ByteArray.mk #[48]) ((max 0 (w64 ((w64 (b3 + 1)) - (((itoaB b0).size : Nat) : Int)))).toNat)) ++ (itoaB b0)).size)).size : Nat)) : Int) > 9223372036854775807) then none else (bif decide ((((b1.size + (((ByteArray.extract ((repB (ByteArray.mk #[48]) ((max 0 (w64 ((w64 (b3 + 1)) - (((itoaB b0).size : Nat) : Int)))).toNat)) ++ (itoaB b0)) 0 ((w64 (((((repB (ByteArray.mk #[48]) ((max 0 (w64 ((w64 (b3 + 1)) - (((itoaB b0).size : Nat) : Int)))).toNat)) ++ (itoaB b0)).size : Nat) : Int) - b3)).toNat)) ++ (ByteArray.mk #[46])) ++ (ByteArray.extract ((repB (ByteArray.mk #[48]) ((max 0 (w64 ((w64 (b3 + 1)) - (((itoaB b0).size : Nat) : Int)))).toNat)) ++ (itoaB b0)) ((w64 (((((repB (ByteArray.mk #[48]) ((max 0 (w64 ((w64 (b3 + 1)) - (((itoaB b0).size : Nat) : Int)))).toNat)) ++ (itoaB b0)).size : Nat) : Int) - b3)).toNat) (((repB (ByteArray.mk #[48]) ((max 0 (w64 ((w64 (b3 + 1)) - (((itoaB b0).size : Nat) : Int)))).toNat)) ++ (itoaB b0)).size))).size : Nat)) : Int) > 9223372036854775807) then none else (k0 (b1 ++ (((ByteArray.extract ((repB (ByteArray.mk #[48]) ((max 0 (w64 ((w64 (b3 + 1)) - (((itoaB b0).size : Nat) : Int)))).toNat)) ++ (itoaB b0)) 0 ((w64 (((((repB (ByteArray.mk #[48]) ((max 0 (w64 ((w64 (b3 + 1)) - (((itoaB b0).size : Nat) : Int)))).toNat)) ++ (itoaB b0)).size : Nat) : Int) - b3)).toNat)) ++ (ByteArray.mk #[46])) ++ (ByteArray.extract ((repB (ByteArray.mk #[48]) ((max 0 (w64 ((w64 (b3 + 1)) - (((itoaB b0).size : Nat) : Int)))).toNat)) ++ (itoaB b0)) ((w64 (((((repB (ByteArray.mk #[48]) ((max 0 (w64 ((w64 (b3 + 1)) - (((itoaB b0).size : Nat) : Int)))).toNat)) ++ (itoaB b0)).size : Nat) : Int) - b3)).toNat) (((repB (ByteArray.mk #[48]) ((max 0 (w64 ((w64 (b3 + 1)) - (((itoaB b0).size : Nat) : Int)))).toNat)) ++ (itoaB b0)).size)))) 0))) else none)) else none) else (bif decide ((((b1.size + ((repB (ByteArray.mk #[48]) ((max 0 (w64 ((w64 (b3 + 1)) - (((itoaB b0).size : Nat) : Int)))).toNat)) ++ (itoaB b0)).size : Nat)) : Int) > 9223372036854775807) then none else (k0 (b1 ++ ((repB (ByteArray.mk #[48]) ((max 0 (w64 ((w64 (b3 + 1)) - (((itoaB b0).size : Nat) : Int)))).toNat)) ++ (itoaB b0))) 0)))) else none) else none)
def Parith_FormatFixed_j0 : SP := ⟨[(6, .ptr 0 0), (8, .p (.s (.i .i64))), (9, .p (.s .s))], [(0, .box [.p (.s (.i .i64)), .p (.s (.i .i64)), .p (.s (.i .i64)), .p (.s (.i .i64))])]⟩
def earith_FormatFixed_j0 (N : Nat) {R : Type} (n : Nat) (x : Parith_FormatFixed_j0.den) (k : KS R) : Option R := match n with
  | 0 => none
  | _ + 1 => arith_FormatFixed_j0 N (fun r0 r1 => k .ret ⟨[(4, .p (.s r0)), (5, .p (.i .i64 r1))], []⟩) x.1.2.1 x.1.2.2.1 x.2.1.1 x.2.1.2.1 x.2.1.2.2.1 x.2.1.2.2.2.1
theorem loop_arith_FormatFixed_j0 (N : Nat) {R : Type} : ∀ (n : Nat) (s : StS) (k : KS R) (r : R), lent' Parith_FormatFixed_j0 (earith_FormatFixed_j0 N n) s k = some r → ∃ e s', runL (runF T) [6, 8, 9] c31_j0 s.enc = some (e, s'.enc) ∧ k e s' = some r :=
  loop_ok (F41_ok N) (H := H_arith_FormatFixed) (Lp := Larith_FormatFixed_0 N) (X := X_arith_FormatFixed) (p := 254) (LOK_of (l := []) (by kernel_rfl) trivial) (fun _ _ => rfl) (fun n x k => by kernel_rfl)
noncomputable def Larith_FormatFixed_1 (N : Nat) {R : Type} : Nat → StS → KS R → Option R := updL (Larith_FormatFixed_0 N) 254 (lent' Parith_FormatFixed_j0 (earith_FormatFixed_j0 N 1))
def arith_FormatFixed (N : Nat) {R : Type} (a0 : Int) (a1 : Int) (a2 : Int) (a3 : Int) (a4 : Int) (k0 : ByteArray → Int → Option R) : Option R := (arith_opened N a1 a2 a3 a4 [a0] (fun y1 y2 y3 y4 y5 => (bif decide (y5 ≠ 0) then (k0 (ByteArray.mk #[]) y5) else (arith_form_signed N y1 y2 y3 y4 a0 (fun y6 => (arith_power N 5 y2 (fun y7 => (bif decide ((w64 (y6 * y7)) < 0) then (arith_FormatFixed_j0 N (fun z8 z9 => (k0 z8 z9)) (w64 (0 - (w64 (y6 * y7)))) (ByteArray.mk #[45]) y1 y2 y3 y4) else (arith_FormatFixed_j0 N (fun z10 z11 => (k0 z10 z11)) (w64 (y6 * y7)) (ByteArray.mk #[]) y1 y2 y3 y4)))))))))
def P_arith_FormatFixed : AP := ⟨[.p (.s (.i .i64)), .agg [.p (.s (.i .i64)), .p (.s (.i .i64)), .p (.s (.i .i64)), .p (.s (.i .i64))]], []⟩
def e_arith_FormatFixed (N : Nat) {R : Type} (x : P_arith_FormatFixed.den) (k : List Nat → List DS → HeapS → Option R) : Option R := arith_FormatFixed N x.1.1 x.1.2.1.1 x.1.2.1.2.1 x.1.2.1.2.2.1 x.1.2.1.2.2.2.1 (fun r0 r1 => k [] [.p (.s r0), .p (.i .i64 r1)] [])
noncomputable def F42 (N : Nat) {R : Type} : CfS R := updC (F41 N) 31 (ent P_arith_FormatFixed (e_arith_FormatFixed N) (F41 N 31))
theorem F42_ok (N : Nat) {R : Type} : FOK (F42 N : CfS R) (runF T) :=
  FOK_upd (F41_ok N) (Snd_ent (F41_ok N) (H := H_arith_FormatFixed) (Lp := Larith_FormatFixed_1 N) (X := X_arith_FormatFixed) (rp := []) (ver := c31) rfl (LOK_of (l := [(254, [6, 8, 9], c31_j0)]) (by kernel_rfl) ⟨(updL_ok (loop_arith_FormatFixed_j0 N 1)), trivial⟩) (fun x k => by kernel_rfl) (Snd_of (F41_ok N) 31 fun _ _ _ _ h => h))
def X_ratchetbase_Ints : Nat → List SP := fun _ => []
def H_ratchetbase_Ints : Nat → Option (List Sh) := fun n => none
noncomputable def Lratchetbase_Ints_0 (N : Nat) {R : Type} : Nat → StS → KS R → Option R := noL
def ratchetbase_Ints_l0 (N : Nat) {R : Type} (k0 : Bool → Option R) (k1 : Option R) : Nat → List Int → List Int → Int → Option R
  | 0, _, _, _ => none
  | n + 1, b0, b1, b2 => (bif decide (b2 < ((b0.length : Nat) : Int)) then ((at? b0 b2).bind fun x1 => ((at? b1 b2).bind fun x2 => (bif decide (x1 ≠ x2) then (k0 false) else (ratchetbase_Ints_l0 N k0 k1 n b0 b1 (w64 (b2 + 1)))))) else k1)
def Pratchetbase_Ints_l0 : SP := ⟨[(0, .p (.s (.sl [.i .i64]))), (1, .p (.s (.sl [.i .i64]))), (5, .p (.s (.i .i64)))], []⟩
def eratchetbase_Ints_l0 (N : Nat) {R : Type} (n : Nat) (x : Pratchetbase_Ints_l0.den) (k : KS R) : Option R := ratchetbase_Ints_l0 N (fun r0 => k .ret ⟨[(4, .p (.b r0))], []⟩) (k (.ex 0) ⟨[], []⟩) n x.1.1 x.1.2.1 x.1.2.2.1
theorem loop_ratchetbase_Ints_l0 (N : Nat) {R : Type} : ∀ (n : Nat) (s : StS) (k : KS R) (r : R), lent' Pratchetbase_Ints_l0 (eratchetbase_Ints_l0 N n) s k = some r → ∃ e s', runL (runF T) [0, 1, 5] c40_l0 s.enc = some (e, s'.enc) ∧ k e s' = some r :=
  loop_ok (F42_ok N) (H := H_ratchetbase_Ints) (Lp := Lratchetbase_Ints_0 N) (X := X_ratchetbase_Ints) (p := 58) (LOK_of (l := []) (by kernel_rfl) trivial) (fun _ _ => rfl) (fun n x k => by kernel_rfl)
noncomputable def Lratchetbase_Ints_1 (N : Nat) {R : Type} : Nat → StS → KS R → Option R := updL (Lratchetbase_Ints_0 N) 58 (lent' Pratchetbase_Ints_l0 (eratchetbase_Ints_l0 N N))
def ratchetbase_Ints (N : Nat) {R : Type} (a0 : List Int) (a1 : List Int) (k0 : Bool → Option R) : Option R := (bif decide (((a0.length : Nat) : Int) ≠ ((a1.length : Nat) : Int)) then (k0 false) else (ratchetbase_Ints_l0 N (fun z3 => (k0 z3)) (k0 true) N a0 a1 0))
def P_ratchetbase_Ints : AP := ⟨[.p (.s (.sl [.i .i64])), .p (.s (.sl [.i .i64]))], []⟩
def e_ratchetbase_Ints (N : Nat) {R : Type} (x : P_ratchetbase_Ints.den) (k : List Nat → List DS → HeapS → Option R) : Option R := ratchetbase_Ints N x.1.1 x.1.2.1 (fun r0 => k [] [.p (.b r0)] [])
noncomputable def F43 (N : Nat) {R : Type} : CfS R := updC (F42 N) 40 (ent P_ratchetbase_Ints (e_ratchetbase_Ints N) (F42 N 40))
theorem F43_ok (N : Nat) {R : Type} : FOK (F43 N : CfS R) (runF T) :=
  FOK_upd (F42_ok N) (Snd_ent (F42_ok N) (H := H_ratchetbase_Ints) (Lp := Lratchetbase_Ints_1 N) (X := X_ratchetbase_Ints) (rp := []) (ver := c40) rfl (LOK_of (l := [(58, [0, 1, 5], c40_l0)]) (by kernel_rfl) ⟨(updL_ok (loop_ratchetbase_Ints_l0 N N)), trivial⟩) (fun x k => by kernel_rfl) (Snd_of (F42_ok N) 40 fun _ _ _ _ h => h))
def X_ratchetlaw30_awake : Nat → List SP := fun _ => []
def H_ratchetlaw30_awake : Nat → Option (List Sh) := fun n => if n = 21000 then some [.i .i64, .i .i64] else if n = 28000 then some [.i .i64] else if n = 29000 then some [.i .i64] else if n = 86000 then some [.i .i64] else none
noncomputable def Lratchetlaw30_awake_0 (N : Nat) {R : Type} : Nat → StS → KS R → Option R := noL
def ratchetlaw30_awake (N : Nat) {R : Type} (k0 : Bool → Option R) : Option R := (ratchetlaw30_Form N (fun y1 y2 y3 y4 => (arith_FixedOf N 5 3 y1 y2 y3 y4 (fun y5 y6 => (ratchetlaw30_Form N (fun y7 y8 y9 y10 => (arith_MulFixed N 27 24 y7 y8 y9 y10 (fun y11 y12 => (arith_TransformOf N [(1, 0), (2, 0), (3, 0), (4, 0)] (fun y13 y14 => (arith_ConvolvedBy N [1, 2] [3, 4] (fun y15 y16 => (ratchetlaw30_Form N (fun y17 y18 y19 y20 => (arith_FormatFixed N 229 y17 y18 y19 y20 (fun y21 y22 => (bif decide (y6 = 0) then (bif decide (y5 = 27) then (bif decide (y12 = 0) then (bif decide (y11 = 40) then (bif decide (y14 = 0) then (bif decide (((y13.length : Nat) : Int) = 4) then ((at? y13 0).bind fun x23 => (bif (false != (decide (x23.1 = 10) && (decide (x23.2.1 = 0) && (decide (x23.2.2.1 = 0) && (decide (x23.2.2.2 = 0) && true))))) then ((at? y13 1).bind fun x24 => (bif (false != (decide (x24.1 = (-2)) && (decide (x24.2.1 = 0) && (decide (x24.2.2.1 = 2) && (decide (x24.2.2.2 = 0) && true))))) then (bif decide (y16 = 0) then (ratchetbase_Ints N y15 [3, 10, 8] (fun y25 => (bif y25 then (bif decide (y22 = 0) then (k0 (decide (y21 = (ByteArray.mk #[45, 49, 46, 54, 56, 55, 53])))) else (k0 false)) else (k0 false)))) else (k0 false)) else (k0 false))) else (k0 false))) else (k0 false)) else (k0 false)) else (k0 false)) else (k0 false)) else (k0 false)) else (k0 false))))))))))))))))))
def P_ratchetlaw30_awake : AP := ⟨[], []⟩
def e_ratchetlaw30_awake (N : Nat) {R : Type} (x : P_ratchetlaw30_awake.den) (k : List Nat → List DS → HeapS → Option R) : Option R := ratchetlaw30_awake N (fun r0 => k [] [.p (.b r0)] [])
noncomputable def F44 (N : Nat) {R : Type} : CfS R := updC (F43 N) 6 (ent P_ratchetlaw30_awake (e_ratchetlaw30_awake N) (F43 N 6))
theorem F44_ok (N : Nat) {R : Type} : FOK (F44 N : CfS R) (runF T) :=
  FOK_upd (F43_ok N) (Snd_ent (F43_ok N) (H := H_ratchetlaw30_awake) (Lp := Lratchetlaw30_awake_0 N) (X := X_ratchetlaw30_awake) (rp := []) (ver := c6) rfl (LOK_of (l := []) (by kernel_rfl) trivial) (fun x k => by kernel_rfl) (Snd_of (F43_ok N) 6 fun _ _ _ _ h => h))
def X_stringslite_HasPrefix : Nat → List SP := fun _ => []
def H_stringslite_HasPrefix : Nat → Option (List Sh) := fun n => none
noncomputable def Lstringslite_HasPrefix_0 (N : Nat) {R : Type} : Nat → StS → KS R → Option R := noL
def stringslite_HasPrefix (N : Nat) {R : Type} (a0 : ByteArray) (a1 : ByteArray) (k0 : Bool → Option R) : Option R := (bif decide (((a1.size : Nat) : Int) ≤ ((a0.size : Nat) : Int)) then (bif slP 0 ((a1.size : Nat) : Int) a0.size then (k0 (decide ((ByteArray.extract a0 0 a1.size) = a1))) else none) else (k0 false))
def P_stringslite_HasPrefix : AP := ⟨[.p (.s .s), .p (.s .s)], []⟩
def e_stringslite_HasPrefix (N : Nat) {R : Type} (x : P_stringslite_HasPrefix.den) (k : List Nat → List DS → HeapS → Option R) : Option R := stringslite_HasPrefix N x.1.1 x.1.2.1 (fun r0 => k [] [.p (.b r0)] [])
noncomputable def F45 (N : Nat) {R : Type} : CfS R := updC (F44 N) 131 (ent P_stringslite_HasPrefix (e_stringslite_HasPrefix N) (F44 N 131))
theorem F45_ok (N : Nat) {R : Type} : FOK (F45 N : CfS R) (runF T) :=
  FOK_upd (F44_ok N) (Snd_ent (F44_ok N) (H := H_stringslite_HasPrefix) (Lp := Lstringslite_HasPrefix_0 N) (X := X_stringslite_HasPrefix) (rp := []) (ver := c131) rfl (LOK_of (l := []) (by kernel_rfl) trivial) (fun x k => by kernel_rfl) (Snd_of (F44_ok N) 131 fun _ _ _ _ h => h))
def X_stringslite_CutPrefix : Nat → List SP := fun _ => []
def H_stringslite_CutPrefix : Nat → Option (List Sh) := fun n => none
noncomputable def Lstringslite_CutPrefix_0 (N : Nat) {R : Type} : Nat → StS → KS R → Option R := noL
def stringslite_CutPrefix (N : Nat) {R : Type} (a0 : ByteArray) (a1 : ByteArray) (k0 : ByteArray → Bool → Option R) : Option R := (stringslite_HasPrefix N a0 a1 (fun y1 => (bif (!y1) then (k0 a0 false) else (bif slP ((a1.size : Nat) : Int) ((a0.size : Nat) : Int) a0.size then (k0 (ByteArray.extract a0 a1.size a0.size) true) else none))))
def P_stringslite_CutPrefix : AP := ⟨[.p (.s .s), .p (.s .s)], []⟩
def e_stringslite_CutPrefix (N : Nat) {R : Type} (x : P_stringslite_CutPrefix.den) (k : List Nat → List DS → HeapS → Option R) : Option R := stringslite_CutPrefix N x.1.1 x.1.2.1 (fun r0 r1 => k [] [.p (.s r0), .p (.b r1)] [])
noncomputable def F46 (N : Nat) {R : Type} : CfS R := updC (F45 N) 112 (ent P_stringslite_CutPrefix (e_stringslite_CutPrefix N) (F45 N 112))
theorem F46_ok (N : Nat) {R : Type} : FOK (F46 N : CfS R) (runF T) :=
  FOK_upd (F45_ok N) (Snd_ent (F45_ok N) (H := H_stringslite_CutPrefix) (Lp := Lstringslite_CutPrefix_0 N) (X := X_stringslite_CutPrefix) (rp := []) (ver := c112) rfl (LOK_of (l := []) (by kernel_rfl) trivial) (fun x k => by kernel_rfl) (Snd_of (F45_ok N) 112 fun _ _ _ _ h => h))
def X_strings_CutPrefix : Nat → List SP := fun _ => []
def H_strings_CutPrefix : Nat → Option (List Sh) := fun n => none
noncomputable def Lstrings_CutPrefix_0 (N : Nat) {R : Type} : Nat → StS → KS R → Option R := noL
def strings_CutPrefix (N : Nat) {R : Type} (a0 : ByteArray) (a1 : ByteArray) (k0 : ByteArray → Bool → Option R) : Option R := (stringslite_CutPrefix N a0 a1 (fun y1 y2 => (k0 y1 y2)))
def P_strings_CutPrefix : AP := ⟨[.p (.s .s), .p (.s .s)], []⟩
def e_strings_CutPrefix (N : Nat) {R : Type} (x : P_strings_CutPrefix.den) (k : List Nat → List DS → HeapS → Option R) : Option R := strings_CutPrefix N x.1.1 x.1.2.1 (fun r0 r1 => k [] [.p (.s r0), .p (.b r1)] [])
noncomputable def F47 (N : Nat) {R : Type} : CfS R := updC (F46 N) 71 (ent P_strings_CutPrefix (e_strings_CutPrefix N) (F46 N 71))
theorem F47_ok (N : Nat) {R : Type} : FOK (F47 N : CfS R) (runF T) :=
  FOK_upd (F46_ok N) (Snd_ent (F46_ok N) (H := H_strings_CutPrefix) (Lp := Lstrings_CutPrefix_0 N) (X := X_strings_CutPrefix) (rp := []) (ver := c71) rfl (LOK_of (l := []) (by kernel_rfl) trivial) (fun x k => by kernel_rfl) (Snd_of (F46_ok N) 71 fun _ _ _ _ h => h))
def X_stringslite_IndexByte : Nat → List SP := fun _ => []
def H_stringslite_IndexByte : Nat → Option (List Sh) := fun n => none
noncomputable def Lstringslite_IndexByte_0 (N : Nat) {R : Type} : Nat → StS → KS R → Option R := noL
def stringslite_IndexByte (N : Nat) {R : Type} (a0 : ByteArray) (a1 : Int) (k0 : Int → Option R) : Option R := (k0 (ixbI a0 a1))
def P_stringslite_IndexByte : AP := ⟨[.p (.s .s), .p (.s (.i .u8))], []⟩
def e_stringslite_IndexByte (N : Nat) {R : Type} (x : P_stringslite_IndexByte.den) (k : List Nat → List DS → HeapS → Option R) : Option R := stringslite_IndexByte N x.1.1 x.1.2.1 (fun r0 => k [] [.p (.i .i64 r0)] [])
noncomputable def F48 (N : Nat) {R : Type} : CfS R := updC (F47 N) 147 (ent P_stringslite_IndexByte (e_stringslite_IndexByte N) (F47 N 147))
theorem F48_ok (N : Nat) {R : Type} : FOK (F48 N : CfS R) (runF T) :=
  FOK_upd (F47_ok N) (Snd_ent (F47_ok N) (H := H_stringslite_IndexByte) (Lp := Lstringslite_IndexByte_0 N) (X := X_stringslite_IndexByte) (rp := []) (ver := c147) rfl (LOK_of (l := []) (by kernel_rfl) trivial) (fun x k => by kernel_rfl) (Snd_of (F47_ok N) 147 fun _ _ _ _ h => h))
def X_stringslite_Index : Nat → List SP := fun _ => []
def H_stringslite_Index : Nat → Option (List Sh) := fun n => none
noncomputable def Lstringslite_Index_0 (N : Nat) {R : Type} : Nat → StS → KS R → Option R := noL
def stringslite_Index (N : Nat) {R : Type} (a0 : ByteArray) (a1 : ByteArray) (k0 : Int → Option R) : Option R := (bif decide (((a1.size : Nat) : Int) = 0) then (k0 0) else (bif decide (a1 = a0) then (k0 0) else (bif decide (((a1.size : Nat) : Int) = 1) then ((byte? a1 0).bind fun x1 => (stringslite_IndexByte N a0 x1 (fun y2 => (k0 y2)))) else (bif decide (((a0.size : Nat) : Int) ≤ ((a1.size : Nat) : Int)) then (k0 (-1)) else none))))
def P_stringslite_Index : AP := ⟨[.p (.s .s), .p (.s .s)], []⟩
def e_stringslite_Index (N : Nat) {R : Type} (x : P_stringslite_Index.den) (k : List Nat → List DS → HeapS → Option R) : Option R := stringslite_Index N x.1.1 x.1.2.1 (fun r0 => k [] [.p (.i .i64 r0)] [])
noncomputable def F49 (N : Nat) {R : Type} : CfS R := updC (F48 N) 134 (ent P_stringslite_Index (e_stringslite_Index N) (F48 N 134))
theorem F49_ok (N : Nat) {R : Type} : FOK (F49 N : CfS R) (runF T) :=
  FOK_upd (F48_ok N) (Snd_ent (F48_ok N) (H := H_stringslite_Index) (Lp := Lstringslite_Index_0 N) (X := X_stringslite_Index) (rp := []) (ver := c134) rfl (LOK_of (l := [(30, [0, 1, 5], c134_j0)]) (by kernel_rfl) ⟨(fun _ _ _ h => by cases h), trivial⟩) (fun x k => by kernel_rfl) (Snd_of (F48_ok N) 134 fun _ _ _ _ h => h))
def X_stringslite_Cut : Nat → List SP := fun _ => []
def H_stringslite_Cut : Nat → Option (List Sh) := fun n => none
noncomputable def Lstringslite_Cut_0 (N : Nat) {R : Type} : Nat → StS → KS R → Option R := noL
def stringslite_Cut (N : Nat) {R : Type} (a0 : ByteArray) (a1 : ByteArray) (k0 : ByteArray → ByteArray → Bool → Option R) : Option R := (stringslite_Index N a0 a1 (fun y1 => (bif decide (0 ≤ y1) then (bif slP 0 y1 a0.size then (bif slP (w64 (y1 + ((a1.size : Nat) : Int))) ((a0.size : Nat) : Int) a0.size then (k0 (ByteArray.extract a0 0 y1.toNat) (ByteArray.extract a0 ((w64 (y1 + ((a1.size : Nat) : Int))).toNat) a0.size) true) else none) else none) else (k0 a0 (ByteArray.mk #[]) false))))
def P_stringslite_Cut : AP := ⟨[.p (.s .s), .p (.s .s)], []⟩
def e_stringslite_Cut (N : Nat) {R : Type} (x : P_stringslite_Cut.den) (k : List Nat → List DS → HeapS → Option R) : Option R := stringslite_Cut N x.1.1 x.1.2.1 (fun r0 r1 r2 => k [] [.p (.s r0), .p (.s r1), .p (.b r2)] [])
noncomputable def F50 (N : Nat) {R : Type} : CfS R := updC (F49 N) 113 (ent P_stringslite_Cut (e_stringslite_Cut N) (F49 N 113))
theorem F50_ok (N : Nat) {R : Type} : FOK (F50 N : CfS R) (runF T) :=
  FOK_upd (F49_ok N) (Snd_ent (F49_ok N) (H := H_stringslite_Cut) (Lp := Lstringslite_Cut_0 N) (X := X_stringslite_Cut) (rp := []) (ver := c113) rfl (LOK_of (l := []) (by kernel_rfl) trivial) (fun x k => by kernel_rfl) (Snd_of (F49_ok N) 113 fun _ _ _ _ h => h))
def X_strings_Cut : Nat → List SP := fun _ => []
def H_strings_Cut : Nat → Option (List Sh) := fun n => none
noncomputable def Lstrings_Cut_0 (N : Nat) {R : Type} : Nat → StS → KS R → Option R := noL
def strings_Cut (N : Nat) {R : Type} (a0 : ByteArray) (a1 : ByteArray) (k0 : ByteArray → ByteArray → Bool → Option R) : Option R := (stringslite_Cut N a0 a1 (fun y1 y2 y3 => (k0 y1 y2 y3)))
def P_strings_Cut : AP := ⟨[.p (.s .s), .p (.s .s)], []⟩
def e_strings_Cut (N : Nat) {R : Type} (x : P_strings_Cut.den) (k : List Nat → List DS → HeapS → Option R) : Option R := strings_Cut N x.1.1 x.1.2.1 (fun r0 r1 r2 => k [] [.p (.s r0), .p (.s r1), .p (.b r2)] [])
noncomputable def F51 (N : Nat) {R : Type} : CfS R := updC (F50 N) 72 (ent P_strings_Cut (e_strings_Cut N) (F50 N 72))
theorem F51_ok (N : Nat) {R : Type} : FOK (F51 N : CfS R) (runF T) :=
  FOK_upd (F50_ok N) (Snd_ent (F50_ok N) (H := H_strings_Cut) (Lp := Lstrings_Cut_0 N) (X := X_strings_Cut) (rp := []) (ver := c72) rfl (LOK_of (l := []) (by kernel_rfl) trivial) (fun x k => by kernel_rfl) (Snd_of (F50_ok N) 72 fun _ _ _ _ h => h))
def X_arith_digits_c1 : Nat → List SP := fun _ => []
def H_arith_digits_c1 : Nat → Option (List Sh) := fun n => none
noncomputable def Larith_digits_c1_0 (N : Nat) {R : Type} : Nat → StS → KS R → Option R := noL
def arith_digits_c1 (N : Nat) {R : Type} (a0 : Int) (k0 : Bool → Option R) : Option R := (bif decide (48 ≤ a0) then (k0 (decide (a0 ≤ 57))) else (k0 false))
def P_arith_digits_c1 : AP := ⟨[.p (.s (.i .u8))], []⟩
def e_arith_digits_c1 (N : Nat) {R : Type} (x : P_arith_digits_c1.den) (k : List Nat → List DS → HeapS → Option R) : Option R := arith_digits_c1 N x.1.1 (fun r0 => k [] [.p (.b r0)] [])
noncomputable def F52 (N : Nat) {R : Type} : CfS R := updC (F51 N) 115 (ent P_arith_digits_c1 (e_arith_digits_c1 N) (F51 N 115))
theorem F52_ok (N : Nat) {R : Type} : FOK (F52 N : CfS R) (runF T) :=
  FOK_upd (F51_ok N) (Snd_ent (F51_ok N) (H := H_arith_digits_c1) (Lp := Larith_digits_c1_0 N) (X := X_arith_digits_c1) (rp := []) (ver := c115) rfl (LOK_of (l := []) (by kernel_rfl) trivial) (fun x k => by kernel_rfl) (Snd_of (F51_ok N) 115 fun _ _ _ _ h => h))
def X_arith_each_byte__c1 : Nat → List SP := fun _ => []
def H_arith_each_byte__c1 : Nat → Option (List Sh) := fun n => none
noncomputable def Larith_each_byte__c1_0 (N : Nat) {R : Type} : Nat → StS → KS R → Option R := noL
def arith_each_byte__c1 (N : Nat) {R : Type} (a0 : Int) (k0 : Bool → Option R) : Option R := (arith_digits_c1 N a0 (fun y1 => (k0 (!y1))))
def P_arith_each_byte__c1 : AP := ⟨[.p (.s (.i .u8)), .ptr 0 0], [(0, .box [.p (.fn 115 [])])]⟩
def e_arith_each_byte__c1 (N : Nat) {R : Type} (x : P_arith_each_byte__c1.den) (k : List Nat → List DS → HeapS → Option R) : Option R := arith_each_byte__c1 N x.1.1 (fun r0 => k [0] [.p (.b r0)] [(0, .box [.p (.fn 115 [])])])
noncomputable def F53 (N : Nat) {R : Type} : CfS R := updC (F52 N) 136 (ent P_arith_each_byte__c1 (e_arith_each_byte__c1 N) (F52 N 136))
theorem F53_ok (N : Nat) {R : Type} : FOK (F53 N : CfS R) (runF T) :=
  FOK_upd (F52_ok N) (Snd_ent (F52_ok N) (H := H_arith_each_byte__c1) (Lp := Larith_each_byte__c1_0 N) (X := X_arith_each_byte__c1) (rp := []) (ver := c136) rfl (LOK_of (l := []) (by kernel_rfl) trivial) (fun x k => by kernel_rfl) (Snd_of (F52_ok N) 136 fun _ _ _ _ h => h))
def X_slices_IndexFunc_Lbyte_byte : Nat → List SP := fun _ => []
def H_slices_IndexFunc_Lbyte_byte : Nat → Option (List Sh) := fun n => none
noncomputable def Lslices_IndexFunc_Lbyte_byte_0 (N : Nat) {R : Type} : Nat → StS → KS R → Option R := noL
def slices_IndexFunc_Lbyte_byte_l0 (N : Nat) {R : Type} (k0 : Int → Option R) (k1 : Option R) : Nat → List Int → Int → Int → Option R
  | 0, _, _, _ => none
  | n + 1, b0, b1, b2 => (bif decide (b2 < b1) then ((at? b0 b2).bind fun x1 => (arith_each_byte__c1 N x1 (fun y2 => (bif y2 then (k0 b2) else (slices_IndexFunc_Lbyte_byte_l0 N k0 k1 n b0 b1 (w64 (b2 + 1))))))) else k1)
def Pslices_IndexFunc_Lbyte_byte_l0 : SP := ⟨[(0, .p (.s (.sl [.i .u8]))), (1, .fn 136 [.ptr 0 0]), (7, .p (.s (.i .i64))), (8, .p (.s (.i .i64))), (100001, .fn 136 [.ptr 0 0])], [(0, .box [.p (.fn 115 [])])]⟩
def eslices_IndexFunc_Lbyte_byte_l0 (N : Nat) {R : Type} (n : Nat) (x : Pslices_IndexFunc_Lbyte_byte_l0.den) (k : KS R) : Option R := slices_IndexFunc_Lbyte_byte_l0 N (fun r0 => k .ret ⟨[(4, .p (.i .i64 r0)), (100001, .fn 136 [.ptr 0 0])], [(0, .box [.p (.fn 115 [])])]⟩) (k (.ex 0) ⟨[(100001, .fn 136 [.ptr 0 0])], [(0, .box [.p (.fn 115 [])])]⟩) n x.1.1 x.1.2.2.1 x.1.2.2.2.1
theorem loop_slices_IndexFunc_Lbyte_byte_l0 (N : Nat) {R : Type} : ∀ (n : Nat) (s : StS) (k : KS R) (r : R), lent' Pslices_IndexFunc_Lbyte_byte_l0 (eslices_IndexFunc_Lbyte_byte_l0 N n) s k = some r → ∃ e s', runL (runF T) [0, 1, 7, 8] c151_l0 s.enc = some (e, s'.enc) ∧ k e s' = some r :=
  loop_ok (F53_ok N) (H := H_slices_IndexFunc_Lbyte_byte) (Lp := Lslices_IndexFunc_Lbyte_byte_0 N) (X := X_slices_IndexFunc_Lbyte_byte) (p := 26) (LOK_of (l := []) (by kernel_rfl) trivial) (fun _ _ => rfl) (fun n x k => by kernel_rfl)
noncomputable def Lslices_IndexFunc_Lbyte_byte_1 (N : Nat) {R : Type} : Nat → StS → KS R → Option R := updL (Lslices_IndexFunc_Lbyte_byte_0 N) 26 (lent' Pslices_IndexFunc_Lbyte_byte_l0 (eslices_IndexFunc_Lbyte_byte_l0 N N))
def slices_IndexFunc_Lbyte_byte (N : Nat) {R : Type} (a0 : List Int) (k0 : Int → Option R) : Option R := (slices_IndexFunc_Lbyte_byte_l0 N (fun z3 => (k0 z3)) (k0 (-1)) N a0 ((a0.length : Nat) : Int) 0)
def P_slices_IndexFunc_Lbyte_byte : AP := ⟨[.p (.s (.sl [.i .u8])), .fn 136 [.ptr 0 0]], [(0, .box [.p (.fn 115 [])])]⟩
def e_slices_IndexFunc_Lbyte_byte (N : Nat) {R : Type} (x : P_slices_IndexFunc_Lbyte_byte.den) (k : List Nat → List DS → HeapS → Option R) : Option R := slices_IndexFunc_Lbyte_byte N x.1.1 (fun r0 => k [0] [.p (.i .i64 r0)] [(0, .box [.p (.fn 115 [])])])
noncomputable def F54 (N : Nat) {R : Type} : CfS R := updC (F53 N) 151 (ent P_slices_IndexFunc_Lbyte_byte (e_slices_IndexFunc_Lbyte_byte N) (F53 N 151))
theorem F54_ok (N : Nat) {R : Type} : FOK (F54 N : CfS R) (runF T) :=
  FOK_upd (F53_ok N) (Snd_ent (F53_ok N) (H := H_slices_IndexFunc_Lbyte_byte) (Lp := Lslices_IndexFunc_Lbyte_byte_1 N) (X := X_slices_IndexFunc_Lbyte_byte) (rp := []) (ver := c151) rfl (LOK_of (l := [(26, [0, 1, 7, 8], c151_l0)]) (by kernel_rfl) ⟨(updL_ok (loop_slices_IndexFunc_Lbyte_byte_l0 N N)), trivial⟩) (fun x k => by kernel_rfl) (Snd_of (F53_ok N) 151 fun _ _ _ _ h => h))
def X_slices_ContainsFunc_Lbyte_byte : Nat → List SP := fun _ => []
def H_slices_ContainsFunc_Lbyte_byte : Nat → Option (List Sh) := fun n => none
noncomputable def Lslices_ContainsFunc_Lbyte_byte_0 (N : Nat) {R : Type} : Nat → StS → KS R → Option R := noL
def slices_ContainsFunc_Lbyte_byte (N : Nat) {R : Type} (a0 : List Int) (k0 : Bool → Option R) : Option R := (slices_IndexFunc_Lbyte_byte N a0 (fun y1 => (k0 (decide (0 ≤ y1)))))
def P_slices_ContainsFunc_Lbyte_byte : AP := ⟨[.p (.s (.sl [.i .u8])), .fn 136 [.ptr 0 0]], [(0, .box [.p (.fn 115 [])])]⟩
def e_slices_ContainsFunc_Lbyte_byte (N : Nat) {R : Type} (x : P_slices_ContainsFunc_Lbyte_byte.den) (k : List Nat → List DS → HeapS → Option R) : Option R := slices_ContainsFunc_Lbyte_byte N x.1.1 (fun r0 => k [0] [.p (.b r0)] [(0, .box [.p (.fn 115 [])])])
noncomputable def F55 (N : Nat) {R : Type} : CfS R := updC (F54 N) 135 (ent P_slices_ContainsFunc_Lbyte_byte (e_slices_ContainsFunc_Lbyte_byte N) (F54 N 135))
theorem F55_ok (N : Nat) {R : Type} : FOK (F55 N : CfS R) (runF T) :=
  FOK_upd (F54_ok N) (Snd_ent (F54_ok N) (H := H_slices_ContainsFunc_Lbyte_byte) (Lp := Lslices_ContainsFunc_Lbyte_byte_0 N) (X := X_slices_ContainsFunc_Lbyte_byte) (rp := []) (ver := c135) rfl (LOK_of (l := []) (by kernel_rfl) trivial) (fun x k => by kernel_rfl) (Snd_of (F54_ok N) 135 fun _ _ _ _ h => h))
def X_arith_each_byte : Nat → List SP := fun _ => []
def H_arith_each_byte : Nat → Option (List Sh) := fun n => none
noncomputable def Larith_each_byte_0 (N : Nat) {R : Type} : Nat → StS → KS R → Option R := noL
def arith_each_byte (N : Nat) {R : Type} (a0 : List Int) (k0 : Bool → Option R) : Option R := (slices_ContainsFunc_Lbyte_byte N a0 (fun y1 => (k0 (!y1))))
def P_arith_each_byte : AP := ⟨[.p (.s (.sl [.i .u8])), .p (.fn 115 [])], []⟩
def e_arith_each_byte (N : Nat) {R : Type} (x : P_arith_each_byte.den) (k : List Nat → List DS → HeapS → Option R) : Option R := arith_each_byte N x.1.1 (fun r0 => k [] [.p (.b r0)] [])
noncomputable def F56 (N : Nat) {R : Type} : CfS R := updC (F55 N) 114 (ent P_arith_each_byte (e_arith_each_byte N) (F55 N 114))
theorem F56_ok (N : Nat) {R : Type} : FOK (F56 N : CfS R) (runF T) :=
  FOK_upd (F55_ok N) (Snd_ent (F55_ok N) (H := H_arith_each_byte) (Lp := Larith_each_byte_0 N) (X := X_arith_each_byte) (rp := []) (ver := c114) rfl (LOK_of (l := []) (by kernel_rfl) trivial) (fun x k => by kernel_rfl) (Snd_of (F55_ok N) 114 fun _ _ _ _ h => h))
def X_arith_digits : Nat → List SP := fun _ => []
def H_arith_digits : Nat → Option (List Sh) := fun n => none
noncomputable def Larith_digits_0 (N : Nat) {R : Type} : Nat → StS → KS R → Option R := noL
def arith_digits (N : Nat) {R : Type} (a0 : ByteArray) (k0 : Bool → Option R) : Option R := (bif decide (a0 ≠ (ByteArray.mk #[])) then (arith_each_byte N (bytesI a0) (fun y1 => (k0 y1))) else (k0 false))
def P_arith_digits : AP := ⟨[.p (.s .s)], []⟩
def e_arith_digits (N : Nat) {R : Type} (x : P_arith_digits.den) (k : List Nat → List DS → HeapS → Option R) : Option R := arith_digits N x.1.1 (fun r0 => k [] [.p (.b r0)] [])
noncomputable def F57 (N : Nat) {R : Type} : CfS R := updC (F56 N) 73 (ent P_arith_digits (e_arith_digits N) (F56 N 73))
theorem F57_ok (N : Nat) {R : Type} : FOK (F57 N : CfS R) (runF T) :=
  FOK_upd (F56_ok N) (Snd_ent (F56_ok N) (H := H_arith_digits) (Lp := Larith_digits_0 N) (X := X_arith_digits) (rp := []) (ver := c73) rfl (LOK_of (l := []) (by kernel_rfl) trivial) (fun x k => by kernel_rfl) (Snd_of (F56_ok N) 73 fun _ _ _ _ h => h))
def X_arith_wide_plus : Nat → List SP := fun _ => []
def H_arith_wide_plus : Nat → Option (List Sh) := fun n => none
noncomputable def Larith_wide_plus_0 (N : Nat) {R : Type} : Nat → StS → KS R → Option R := noL
def arith_wide_plus (N : Nat) {R : Type} (a0 : Int) (a1 : Int) (a2 : Int) (a3 : Int) (k0 : Int → Int → Option R) : Option R := (bif addB a1 a3 0 then (bif addB a0 a2 (addHi a1 a3 0) then (k0 (addLo a0 a2 (addHi a1 a3 0)) (addLo a1 a3 0)) else none) else none)
def P_arith_wide_plus : AP := ⟨[.agg [.p (.s (.i .u64)), .p (.s (.i .u64))], .agg [.p (.s (.i .u64)), .p (.s (.i .u64))]], []⟩
def e_arith_wide_plus (N : Nat) {R : Type} (x : P_arith_wide_plus.den) (k : List Nat → List DS → HeapS → Option R) : Option R := arith_wide_plus N x.1.1.1 x.1.1.2.1 x.1.2.1.1 x.1.2.1.2.1 (fun r0 r1 => k [] [.agg [.p (.i .u64 r0), .p (.i .u64 r1)]] [])
noncomputable def F58 (N : Nat) {R : Type} : CfS R := updC (F57 N) 60 (ent P_arith_wide_plus (e_arith_wide_plus N) (F57 N 60))
theorem F58_ok (N : Nat) {R : Type} : FOK (F58 N : CfS R) (runF T) :=
  FOK_upd (F57_ok N) (Snd_ent (F57_ok N) (H := H_arith_wide_plus) (Lp := Larith_wide_plus_0 N) (X := X_arith_wide_plus) (rp := []) (ver := c60) rfl (LOK_of (l := []) (by kernel_rfl) trivial) (fun x k => by kernel_rfl) (Snd_of (F57_ok N) 60 fun _ _ _ _ h => h))
def X_arith_wide_minus : Nat → List SP := fun _ => []
def H_arith_wide_minus : Nat → Option (List Sh) := fun n => none
noncomputable def Larith_wide_minus_0 (N : Nat) {R : Type} : Nat → StS → KS R → Option R := noL
def arith_wide_minus (N : Nat) {R : Type} (a0 : Int) (a1 : Int) (k0 : Int → Int → Option R) : Option R := (arith_wide_plus N (notI .u64 a0) (notI .u64 a1) 0 1 (fun y1 y2 => (k0 y1 y2)))
def P_arith_wide_minus : AP := ⟨[.agg [.p (.s (.i .u64)), .p (.s (.i .u64))]], []⟩
def e_arith_wide_minus (N : Nat) {R : Type} (x : P_arith_wide_minus.den) (k : List Nat → List DS → HeapS → Option R) : Option R := arith_wide_minus N x.1.1.1 x.1.1.2.1 (fun r0 r1 => k [] [.agg [.p (.i .u64 r0), .p (.i .u64 r1)]] [])
noncomputable def F59 (N : Nat) {R : Type} : CfS R := updC (F58 N) 95 (ent P_arith_wide_minus (e_arith_wide_minus N) (F58 N 95))
theorem F59_ok (N : Nat) {R : Type} : FOK (F59 N : CfS R) (runF T) :=
  FOK_upd (F58_ok N) (Snd_ent (F58_ok N) (H := H_arith_wide_minus) (Lp := Larith_wide_minus_0 N) (X := X_arith_wide_minus) (rp := []) (ver := c95) rfl (LOK_of (l := []) (by kernel_rfl) trivial) (fun x k => by kernel_rfl) (Snd_of (F58_ok N) 95 fun _ _ _ _ h => h))
def X_bits_Mul64 : Nat → List SP := fun _ => []
def H_bits_Mul64 : Nat → Option (List Sh) := fun n => none
noncomputable def Lbits_Mul64_0 (N : Nat) {R : Type} : Nat → StS → KS R → Option R := noL
def bits_Mul64 (N : Nat) {R : Type} (a0 : Int) (a1 : Int) (k0 : Int → Int → Option R) : Option R := (k0 (IntKind.wrap .u64 ((IntKind.wrap .u64 ((IntKind.wrap .u64 ((shr' .u64 a0 32) * (shr' .u64 a1 32))) + (shr' .u64 (IntKind.wrap .u64 ((IntKind.wrap .u64 ((shr' .u64 a0 32) * (andI .u64 a1 4294967295))) + (shr' .u64 (IntKind.wrap .u64 ((andI .u64 a0 4294967295) * (andI .u64 a1 4294967295))) 32))) 32))) + (shr' .u64 (IntKind.wrap .u64 ((andI .u64 (IntKind.wrap .u64 ((IntKind.wrap .u64 ((shr' .u64 a0 32) * (andI .u64 a1 4294967295))) + (shr' .u64 (IntKind.wrap .u64 ((andI .u64 a0 4294967295) * (andI .u64 a1 4294967295))) 32))) 4294967295) + (IntKind.wrap .u64 ((andI .u64 a0 4294967295) * (shr' .u64 a1 32))))) 32))) (IntKind.wrap .u64 (a0 * a1)))
def P_bits_Mul64 : AP := ⟨[.p (.s (.i .u64)), .p (.s (.i .u64))], []⟩
def e_bits_Mul64 (N : Nat) {R : Type} (x : P_bits_Mul64.den) (k : List Nat → List DS → HeapS → Option R) : Option R := bits_Mul64 N x.1.1 x.1.2.1 (fun r0 r1 => k [] [.p (.i .u64 r0), .p (.i .u64 r1)] [])
noncomputable def F60 (N : Nat) {R : Type} : CfS R := updC (F59 N) 96 (ent P_bits_Mul64 (e_bits_Mul64 N) (F59 N 96))
theorem F60_ok (N : Nat) {R : Type} : FOK (F60 N : CfS R) (runF T) :=
  FOK_upd (F59_ok N) (Snd_ent (F59_ok N) (H := H_bits_Mul64) (Lp := Lbits_Mul64_0 N) (X := X_bits_Mul64) (rp := []) (ver := c96) rfl (LOK_of (l := []) (by kernel_rfl) trivial) (fun x k => by kernel_rfl) (Snd_of (F59_ok N) 96 fun _ _ _ _ h => h))
def X_arith_wide_times : Nat → List SP := fun _ => []
def H_arith_wide_times : Nat → Option (List Sh) := fun n => none
noncomputable def Larith_wide_times_0 (N : Nat) {R : Type} : Nat → StS → KS R → Option R := noL
def arith_wide_times (N : Nat) {R : Type} (a0 : Int) (a1 : Int) (a2 : Int) (k0 : Int → Int → Option R) : Option R := (bif decide (a2 < 0) then (arith_wide_minus N a0 a1 (fun y1 y2 => none)) else (bits_Mul64 N a1 (IntKind.wrap .u64 a2) (fun y3 y4 => (k0 (IntKind.wrap .u64 (y3 + (IntKind.wrap .u64 (a0 * (IntKind.wrap .u64 a2))))) y4))))
def P_arith_wide_times : AP := ⟨[.agg [.p (.s (.i .u64)), .p (.s (.i .u64))], .p (.s (.i .i64))], []⟩
def e_arith_wide_times (N : Nat) {R : Type} (x : P_arith_wide_times.den) (k : List Nat → List DS → HeapS → Option R) : Option R := arith_wide_times N x.1.1.1 x.1.1.2.1 x.1.2.1 (fun r0 r1 => k [] [.agg [.p (.i .u64 r0), .p (.i .u64 r1)]] [])
noncomputable def F61 (N : Nat) {R : Type} : CfS R := updC (F60 N) 59 (ent P_arith_wide_times (e_arith_wide_times N) (F60 N 59))
theorem F61_ok (N : Nat) {R : Type} : FOK (F61 N : CfS R) (runF T) :=
  FOK_upd (F60_ok N) (Snd_ent (F60_ok N) (H := H_arith_wide_times) (Lp := Larith_wide_times_0 N) (X := X_arith_wide_times) (rp := []) (ver := c59) rfl (LOK_of (l := []) (by kernel_rfl) trivial) (fun x k => by kernel_rfl) (Snd_of (F60_ok N) 59 fun _ _ _ _ h => h))
def X_arith_wide_times_v1 : Nat → List SP := fun _ => []
def H_arith_wide_times_v1 : Nat → Option (List Sh) := fun n => none
noncomputable def Larith_wide_times_v1_0 (N : Nat) {R : Type} : Nat → StS → KS R → Option R := noL
def arith_wide_times_v1 (N : Nat) {R : Type} (a0 : Int) (a1 : Int) (a2 : Int) (k0 : Int → Int → Option R) : Option R := (bif decide (a2 < 0) then (arith_wide_minus N a0 a1 (fun y1 y2 => (arith_wide_times N y1 y2 (w64 (0 - a2)) (fun y3 y4 => (k0 y3 y4))))) else (bits_Mul64 N a1 (IntKind.wrap .u64 a2) (fun y5 y6 => (k0 (IntKind.wrap .u64 (y5 + (IntKind.wrap .u64 (a0 * (IntKind.wrap .u64 a2))))) y6))))
def P_arith_wide_times_v1 : AP := ⟨[.agg [.p (.s (.i .u64)), .p (.s (.i .u64))], .p (.s (.i .i64))], []⟩
def e_arith_wide_times_v1 (N : Nat) {R : Type} (x : P_arith_wide_times_v1.den) (k : List Nat → List DS → HeapS → Option R) : Option R := arith_wide_times_v1 N x.1.1.1 x.1.1.2.1 x.1.2.1 (fun r0 r1 => k [] [.agg [.p (.i .u64 r0), .p (.i .u64 r1)]] [])
noncomputable def F62 (N : Nat) {R : Type} : CfS R := updC (F61 N) 59 (ent P_arith_wide_times_v1 (e_arith_wide_times_v1 N) (F61 N 59))
theorem F62_ok (N : Nat) {R : Type} : FOK (F62 N : CfS R) (runF T) :=
  FOK_upd (F61_ok N) (Snd_ent (F61_ok N) (H := H_arith_wide_times_v1) (Lp := Larith_wide_times_v1_0 N) (X := X_arith_wide_times_v1) (rp := []) (ver := c59) rfl (LOK_of (l := []) (by kernel_rfl) trivial) (fun x k => by kernel_rfl) (Snd_of (F61_ok N) 59 fun _ _ _ _ h => h))
def X_bits_Len64 : Nat → List SP := fun _ => []
def H_bits_Len64 : Nat → Option (List Sh) := fun n => none
noncomputable def Lbits_Len64_0 (N : Nat) {R : Type} : Nat → StS → KS R → Option R := noL
def bits_Len64 (N : Nat) {R : Type} (a0 : Int) (k0 : Int → Option R) : Option R := (bif decide (4294967296 ≤ a0) then (bif decide (65536 ≤ (shr' .u64 a0 32)) then (bif decide (256 ≤ (shr' .u64 (shr' .u64 a0 32) 16)) then ((byte? (ByteArray.mk #[0, 1, 2, 2, 3, 3, 3, 3, 4, 4, 4, 4, 4, 4, 4, 4, 5, 5, 5, 5, 5, 5, 5, 5, 5, 5, 5, 5, 5, 5, 5, 5, 6, 6, 6, 6, 6, 6, 6, 6, 6, 6, 6, 6, 6, 6, 6, 6, 6, 6, 6, 6, 6, 6, 6, 6, 6, 6, 6, 6, 6, 6, 6, 6, 7, 7, 7, 7, 7, 7, 7, 7, 7, 7, 7, 7, 7, 7, 7, 7, 7, 7, 7, 7, 7, 7, 7, 7, 7, 7, 7, 7, 7, 7, 7, 7, 7, 7, 7, 7, 7, 7, 7, 7, 7, 7, 7, 7, 7, 7, 7, 7, 7, 7, 7, 7, 7, 7, 7, 7, 7, 7, 7, 7, 7, 7, 7, 7, 8, 8, 8, 8, 8, 8, 8, 8, 8, 8, 8, 8, 8, 8, 8, 8, 8, 8, 8, 8, 8, 8, 8, 8, 8, 8, 8, 8, 8, 8, 8, 8, 8, 8, 8, 8, 8, 8, 8, 8, 8, 8, 8, 8, 8, 8, 8, 8, 8, 8, 8, 8, 8, 8, 8, 8, 8, 8, 8, 8, 8, 8, 8, 8, 8, 8, 8, 8, 8, 8, 8, 8, 8, 8, 8, 8, 8, 8, 8, 8, 8, 8, 8, 8, 8, 8, 8, 8, 8, 8, 8, 8, 8, 8, 8, 8, 8, 8, 8, 8, 8, 8, 8, 8, 8, 8, 8, 8, 8, 8, 8, 8, 8, 8, 8, 8, 8, 8, 8, 8, 8, 8, 8, 8, 8, 8, 8, 8]) (IntKind.wrap .u8 (shr' .u64 (shr' .u64 (shr' .u64 a0 32) 16) 8))).bind fun x1 => (k0 (w64 (56 + (w64 x1))))) else ((byte? (ByteArray.mk #[0, 1, 2, 2, 3, 3, 3, 3, 4, 4, 4, 4, 4, 4, 4, 4, 5, 5, 5, 5, 5, 5, 5, 5, 5, 5, 5, 5, 5, 5, 5, 5, 6, 6, 6, 6, 6, 6, 6, 6, 6, 6, 6, 6, 6, 6, 6, 6, 6, 6, 6, 6, 6, 6, 6, 6, 6, 6, 6, 6, 6, 6, 6, 6, 7, 7, 7, 7, 7, 7, 7, 7, 7, 7, 7, 7, 7, 7, 7, 7, 7, 7, 7, 7, 7, 7, 7, 7, 7, 7, 7, 7, 7, 7, 7, 7, 7, 7, 7, 7, 7, 7, 7, 7, 7, 7, 7, 7, 7, 7, 7, 7, 7, 7, 7, 7, 7, 7, 7, 7, 7, 7, 7, 7, 7, 7, 7, 7, 8, 8, 8, 8, 8, 8, 8, 8, 8, 8, 8, 8, 8, 8, 8, 8, 8, 8, 8, 8, 8, 8, 8, 8, 8, 8, 8, 8, 8, 8, 8, 8, 8, 8, 8, 8, 8, 8, 8, 8, 8, 8, 8, 8, 8, 8, 8, 8, 8, 8, 8, 8, 8, 8, 8, 8, 8, 8, 8, 8, 8, 8, 8, 8, 8, 8, 8, 8, 8, 8, 8, 8, 8, 8, 8, 8, 8, 8, 8, 8, 8, 8, 8, 8, 8, 8, 8, 8, 8, 8, 8, 8, 8, 8, 8, 8, 8, 8, 8, 8, 8, 8, 8, 8, 8, 8, 8, 8, 8, 8, 8, 8, 8, 8, 8, 8, 8, 8, 8, 8, 8, 8, 8, 8, 8, 8, 8, 8]) (IntKind.wrap .u8 (shr' .u64 (shr' .u64 a0 32) 16))).bind fun x2 => (k0 (w64 (48 + (w64 x2)))))) else (bif decide (256 ≤ (shr' .u64 a0 32)) then ((byte? (ByteArray.mk #[0, 1, 2, 2, 3, 3, 3, 3, 4, 4, 4, 4, 4, 4, 4, 4, 5, 5, 5, 5, 5, 5, 5, 5, 5, 5, 5, 5, 5, 5, 5, 5, 6, 6, 6, 6, 6, 6, 6, 6, 6, 6, 6, 6, 6, 6, 6, 6, 6, 6, 6, 6, 6, 6, 6, 6, 6, 6, 6, 6, 6, 6, 6, 6, 7, 7, 7, 7, 7, 7, 7, 7, 7, 7, 7, 7, 7, 7, 7, 7, 7, 7, 7, 7, 7, 7, 7, 7, 7, 7, 7, 7, 7, 7, 7, 7, 7, 7, 7, 7, 7, 7, 7, 7, 7, 7, 7, 7, 7, 7, 7, 7, 7, 7, 7, 7, 7, 7, 7, 7, 7, 7, 7, 7, 7, 7, 7, 7, 8, 8, 8, 8, 8, 8, 8, 8, 8, 8, 8, 8, 8, 8, 8, 8, 8, 8, 8, 8, 8, 8, 8, 8, 8, 8, 8, 8, 8, 8, 8, 8, 8, 8, 8, 8, 8, 8, 8, 8, 8, 8, 8, 8, 8, 8, 8, 8, 8, 8, 8, 8, 8, 8, 8, 8, 8, 8, 8, 8, 8, 8, 8, 8, 8, 8, 8, 8, 8, 8, 8, 8, 8, 8, 8, 8, 8, 8, 8, 8, 8, 8, 8, 8, 8, 8, 8, 8, 8, 8, 8, 8, 8, 8, 8, 8, 8, 8, 8, 8, 8, 8, 8, 8, 8, 8, 8, 8, 8, 8, 8, 8, 8, 8, 8, 8, 8, 8, 8, 8, 8, 8, 8, 8, 8, 8, 8, 8]) (IntKind.wrap .u8 (shr' .u64 (shr' .u64 a0 32) 8))).bind fun x3 => (k0 (w64 (40 + (w64 x3))))) else ((byte? (ByteArray.mk #[0, 1, 2, 2, 3, 3, 3, 3, 4, 4, 4, 4, 4, 4, 4, 4, 5, 5, 5, 5, 5, 5, 5, 5, 5, 5, 5, 5, 5, 5, 5, 5, 6, 6, 6, 6, 6, 6, 6, 6, 6, 6, 6, 6, 6, 6, 6, 6, 6, 6, 6, 6, 6, 6, 6, 6, 6, 6, 6, 6, 6, 6, 6, 6, 7, 7, 7, 7, 7, 7, 7, 7, 7, 7, 7, 7, 7, 7, 7, 7, 7, 7, 7, 7, 7, 7, 7, 7, 7, 7, 7, 7, 7, 7, 7, 7, 7, 7, 7, 7, 7, 7, 7, 7, 7, 7, 7, 7, 7, 7, 7, 7, 7, 7, 7, 7, 7, 7, 7, 7, 7, 7, 7, 7, 7, 7, 7, 7, 8, 8, 8, 8, 8, 8, 8, 8, 8, 8, 8, 8, 8, 8, 8, 8, 8, 8, 8, 8, 8, 8, 8, 8, 8, 8, 8, 8, 8, 8, 8, 8, 8, 8, 8, 8, 8, 8, 8, 8, 8, 8, 8, 8, 8, 8, 8, 8, 8, 8, 8, 8, 8, 8, 8, 8, 8, 8, 8, 8, 8, 8, 8, 8, 8, 8, 8, 8, 8, 8, 8, 8, 8, 8, 8, 8, 8, 8, 8, 8, 8, 8, 8, 8, 8, 8, 8, 8, 8, 8, 8, 8, 8, 8, 8, 8, 8, 8, 8, 8, 8, 8, 8, 8, 8, 8, 8, 8, 8, 8, 8, 8, 8, 8, 8, 8, 8, 8, 8, 8, 8, 8, 8, 8, 8, 8, 8, 8]) (IntKind.wrap .u8 (shr' .u64 a0 32))).bind fun x4 => (k0 (w64 (32 + (w64 x4))))))) else (bif decide (65536 ≤ a0) then (bif decide (256 ≤ (shr' .u64 a0 16)) then ((byte? (ByteArray.mk #[0, 1, 2, 2, 3, 3, 3, 3, 4, 4, 4, 4, 4, 4, 4, 4, 5, 5, 5, 5, 5, 5, 5, 5, 5, 5, 5, 5, 5, 5, 5, 5, 6, 6, 6, 6, 6, 6, 6, 6, 6, 6, 6, 6, 6, 6, 6, 6, 6, 6, 6, 6, 6, 6, 6, 6, 6, 6, 6, 6, 6, 6, 6, 6, 7, 7, 7, 7, 7, 7, 7, 7, 7, 7, 7, 7, 7, 7, 7, 7, 7, 7, 7, 7, 7, 7, 7, 7, 7, 7, 7, 7, 7, 7, 7, 7, 7, 7, 7, 7, 7, 7, 7, 7, 7, 7, 7, 7, 7, 7, 7, 7, 7, 7, 7, 7, 7, 7, 7, 7, 7, 7, 7, 7, 7, 7, 7, 7, 8, 8, 8, 8, 8, 8, 8, 8, 8, 8, 8, 8, 8, 8, 8, 8, 8, 8, 8, 8, 8, 8, 8, 8, 8, 8, 8, 8, 8, 8, 8, 8, 8, 8, 8, 8, 8, 8, 8, 8, 8, 8, 8, 8, 8, 8, 8, 8, 8, 8, 8, 8, 8, 8, 8, 8, 8, 8, 8, 8, 8, 8, 8, 8, 8, 8, 8, 8, 8, 8, 8, 8, 8, 8, 8, 8, 8, 8, 8, 8, 8, 8, 8, 8, 8, 8, 8, 8, 8, 8, 8, 8, 8, 8, 8, 8, 8, 8, 8, 8, 8, 8, 8, 8, 8, 8, 8, 8, 8, 8, 8, 8, 8, 8, 8, 8, 8, 8, 8, 8, 8, 8, 8, 8, 8, 8, 8, 8]) (IntKind.wrap .u8 (shr' .u64 (shr' .u64 a0 16) 8))).bind fun x5 => (k0 (w64 (24 + (w64 x5))))) else ((byte? (ByteArray.mk #[0, 1, 2, 2, 3, 3, 3, 3, 4, 4, 4, 4, 4, 4, 4, 4, 5, 5, 5, 5, 5, 5, 5, 5, 5, 5, 5, 5, 5, 5, 5, 5, 6, 6, 6, 6, 6, 6, 6, 6, 6, 6, 6, 6, 6, 6, 6, 6, 6, 6, 6, 6, 6, 6, 6, 6, 6, 6, 6, 6, 6, 6, 6, 6, 7, 7, 7, 7, 7, 7, 7, 7, 7, 7, 7, 7, 7, 7, 7, 7, 7, 7, 7, 7, 7, 7, 7, 7, 7, 7, 7, 7, 7, 7, 7, 7, 7, 7, 7, 7, 7, 7, 7, 7, 7, 7, 7, 7, 7, 7, 7, 7, 7, 7, 7, 7, 7, 7, 7, 7, 7, 7, 7, 7, 7, 7, 7, 7, 8, 8, 8, 8, 8, 8, 8, 8, 8, 8, 8, 8, 8, 8, 8, 8, 8, 8, 8, 8, 8, 8, 8, 8, 8, 8, 8, 8, 8, 8, 8, 8, 8, 8, 8, 8, 8, 8, 8, 8, 8, 8, 8, 8, 8, 8, 8, 8, 8, 8, 8, 8, 8, 8, 8, 8, 8, 8, 8, 8, 8, 8, 8, 8, 8, 8, 8, 8, 8, 8, 8, 8, 8, 8, 8, 8, 8, 8, 8, 8, 8, 8, 8, 8, 8, 8, 8, 8, 8, 8, 8, 8, 8, 8, 8, 8, 8, 8, 8, 8, 8, 8, 8, 8, 8, 8, 8, 8, 8, 8, 8, 8, 8, 8, 8, 8, 8, 8, 8, 8, 8, 8, 8, 8, 8, 8, 8, 8]) (IntKind.wrap .u8 (shr' .u64 a0 16))).bind fun x6 => (k0 (w64 (16 + (w64 x6)))))) else (bif decide (256 ≤ a0) then ((byte? (ByteArray.mk #[0, 1, 2, 2, 3, 3, 3, 3, 4, 4, 4, 4, 4, 4, 4, 4, 5, 5, 5, 5, 5, 5, 5, 5, 5, 5, 5, 5, 5, 5, 5, 5, 6, 6, 6, 6, 6, 6, 6, 6, 6, 6, 6, 6, 6, 6, 6, 6, 6, 6, 6, 6, 6, 6, 6, 6, 6, 6, 6, 6, 6, 6, 6, 6, 7, 7, 7, 7, 7, 7, 7, 7, 7, 7, 7, 7, 7, 7, 7, 7, 7, 7, 7, 7, 7, 7, 7, 7, 7, 7, 7, 7, 7, 7, 7, 7, 7, 7, 7, 7, 7, 7, 7, 7, 7, 7, 7, 7, 7, 7, 7, 7, 7, 7, 7, 7, 7, 7, 7, 7, 7, 7, 7, 7, 7, 7, 7, 7, 8, 8, 8, 8, 8, 8, 8, 8, 8, 8, 8, 8, 8, 8, 8, 8, 8, 8, 8, 8, 8, 8, 8, 8, 8, 8, 8, 8, 8, 8, 8, 8, 8, 8, 8, 8, 8, 8, 8, 8, 8, 8, 8, 8, 8, 8, 8, 8, 8, 8, 8, 8, 8, 8, 8, 8, 8, 8, 8, 8, 8, 8, 8, 8, 8, 8, 8, 8, 8, 8, 8, 8, 8, 8, 8, 8, 8, 8, 8, 8, 8, 8, 8, 8, 8, 8, 8, 8, 8, 8, 8, 8, 8, 8, 8, 8, 8, 8, 8, 8, 8, 8, 8, 8, 8, 8, 8, 8, 8, 8, 8, 8, 8, 8, 8, 8, 8, 8, 8, 8, 8, 8, 8, 8, 8, 8, 8, 8]) (IntKind.wrap .u8 (shr' .u64 a0 8))).bind fun x7 => (k0 (w64 (8 + (w64 x7))))) else ((byte? (ByteArray.mk #[0, 1, 2, 2, 3, 3, 3, 3, 4, 4, 4, 4, 4, 4, 4, 4, 5, 5, 5, 5, 5, 5, 5, 5, 5, 5, 5, 5, 5, 5, 5, 5, 6, 6, 6, 6, 6, 6, 6, 6, 6, 6, 6, 6, 6, 6, 6, 6, 6, 6, 6, 6, 6, 6, 6, 6, 6, 6, 6, 6, 6, 6, 6, 6, 7, 7, 7, 7, 7, 7, 7, 7, 7, 7, 7, 7, 7, 7, 7, 7, 7, 7, 7, 7, 7, 7, 7, 7, 7, 7, 7, 7, 7, 7, 7, 7, 7, 7, 7, 7, 7, 7, 7, 7, 7, 7, 7, 7, 7, 7, 7, 7, 7, 7, 7, 7, 7, 7, 7, 7, 7, 7, 7, 7, 7, 7, 7, 7, 8, 8, 8, 8, 8, 8, 8, 8, 8, 8, 8, 8, 8, 8, 8, 8, 8, 8, 8, 8, 8, 8, 8, 8, 8, 8, 8, 8, 8, 8, 8, 8, 8, 8, 8, 8, 8, 8, 8, 8, 8, 8, 8, 8, 8, 8, 8, 8, 8, 8, 8, 8, 8, 8, 8, 8, 8, 8, 8, 8, 8, 8, 8, 8, 8, 8, 8, 8, 8, 8, 8, 8, 8, 8, 8, 8, 8, 8, 8, 8, 8, 8, 8, 8, 8, 8, 8, 8, 8, 8, 8, 8, 8, 8, 8, 8, 8, 8, 8, 8, 8, 8, 8, 8, 8, 8, 8, 8, 8, 8, 8, 8, 8, 8, 8, 8, 8, 8, 8, 8, 8, 8, 8, 8, 8, 8, 8, 8]) (IntKind.wrap .u8 a0)).bind fun x8 => (k0 (w64 (0 + (w64 x8))))))))
def P_bits_Len64 : AP := ⟨[.p (.s (.i .u64))], []⟩
def e_bits_Len64 (N : Nat) {R : Type} (x : P_bits_Len64.den) (k : List Nat → List DS → HeapS → Option R) : Option R := bits_Len64 N x.1.1 (fun r0 => k [] [.p (.i .i64 r0)] [])
noncomputable def F63 (N : Nat) {R : Type} : CfS R := updC (F62 N) 152 (ent P_bits_Len64 (e_bits_Len64 N) (F62 N 152))
theorem F63_ok (N : Nat) {R : Type} : FOK (F63 N : CfS R) (runF T) :=
  FOK_upd (F62_ok N) (Snd_ent (F62_ok N) (H := H_bits_Len64) (Lp := Lbits_Len64_0 N) (X := X_bits_Len64) (rp := []) (ver := c152) rfl (LOK_of (l := []) (by kernel_rfl) trivial) (fun x k => by kernel_rfl) (Snd_of (F62_ok N) 152 fun _ _ _ _ h => h))
def X_bits_LeadingZeros64 : Nat → List SP := fun _ => []
def H_bits_LeadingZeros64 : Nat → Option (List Sh) := fun n => none
noncomputable def Lbits_LeadingZeros64_0 (N : Nat) {R : Type} : Nat → StS → KS R → Option R := noL
def bits_LeadingZeros64 (N : Nat) {R : Type} (a0 : Int) (k0 : Int → Option R) : Option R := (bits_Len64 N a0 (fun y1 => (k0 (w64 (64 - y1)))))
def P_bits_LeadingZeros64 : AP := ⟨[.p (.s (.i .u64))], []⟩
def e_bits_LeadingZeros64 (N : Nat) {R : Type} (x : P_bits_LeadingZeros64.den) (k : List Nat → List DS → HeapS → Option R) : Option R := bits_LeadingZeros64 N x.1.1 (fun r0 => k [] [.p (.i .i64 r0)] [])
noncomputable def F64 (N : Nat) {R : Type} : CfS R := updC (F63 N) 137 (ent P_bits_LeadingZeros64 (e_bits_LeadingZeros64 N) (F63 N 137))
theorem F64_ok (N : Nat) {R : Type} : FOK (F64 N : CfS R) (runF T) :=
  FOK_upd (F63_ok N) (Snd_ent (F63_ok N) (H := H_bits_LeadingZeros64) (Lp := Lbits_LeadingZeros64_0 N) (X := X_bits_LeadingZeros64) (rp := []) (ver := c137) rfl (LOK_of (l := []) (by kernel_rfl) trivial) (fun x k => by kernel_rfl) (Snd_of (F63_ok N) 137 fun _ _ _ _ h => h))
def X_bits_Div64 : Nat → List SP := fun _ => []
def H_bits_Div64 : Nat → Option (List Sh) := fun n => none
noncomputable def Lbits_Div64_0 (N : Nat) {R : Type} : Nat → StS → KS R → Option R := noL
def bits_Div64_l0 (N : Nat) {R : Type} (k0 : Int → Int → Int → Int → Int → Int → Int → Int → Option R) : Nat → Int → Int → Int → Int → Int → Int → Int → Int → Int → Option R
  | 0, _, _, _, _, _, _, _, _, _ => none
  | n + 1, b0, b1, b2, b3, b4, b5, b6, b7, b8 => (bif decide (4294967296 ≤ b7) then (bif decide (4294967296 ≤ (IntKind.wrap .u64 (b8 + b2))) then (k0 b0 b1 b2 b3 b4 b5 b6 (IntKind.wrap .u64 (b7 - 1))) else (bits_Div64_l0 N k0 n b0 b1 b2 b3 b4 b5 b6 (IntKind.wrap .u64 (b7 - 1)) (IntKind.wrap .u64 (b8 + b2)))) else (bif decide ((IntKind.wrap .u64 ((IntKind.wrap .u64 (4294967296 * b8)) + b5)) < (IntKind.wrap .u64 (b7 * b3))) then (bif decide (4294967296 ≤ (IntKind.wrap .u64 (b8 + b2))) then (k0 b0 b1 b2 b3 b4 b5 b6 (IntKind.wrap .u64 (b7 - 1))) else (bits_Div64_l0 N k0 n b0 b1 b2 b3 b4 b5 b6 (IntKind.wrap .u64 (b7 - 1)) (IntKind.wrap .u64 (b8 + b2)))) else (k0 b0 b1 b2 b3 b4 b5 b6 b7)))
def Pbits_Div64_l0 : SP := ⟨[(2, .p (.s (.i .u64))), (8, .p (.s (.i .u64))), (9, .p (.s (.i .u64))), (10, .p (.s (.i .u64))), (11, .p (.s (.i .u64))), (13, .p (.s (.i .u64))), (14, .p (.s (.i .u64))), (15, .p (.s (.i .u64))), (16, .p (.s (.i .u64)))], []⟩
def ebits_Div64_l0 (N : Nat) {R : Type} (n : Nat) (x : Pbits_Div64_l0.den) (k : KS R) : Option R := bits_Div64_l0 N (fun r0 r1 r2 r3 r4 r5 r6 r7 => k (.ex 0) ⟨[(2, .p (.i .u64 r0)), (8, .p (.i .u64 r1)), (9, .p (.i .u64 r2)), (10, .p (.i .u64 r3)), (11, .p (.i .u64 r4)), (13, .p (.i .u64 r5)), (14, .p (.i .u64 r6)), (15, .p (.i .u64 r7))], []⟩) n x.1.1 x.1.2.1 x.1.2.2.1 x.1.2.2.2.1 x.1.2.2.2.2.1 x.1.2.2.2.2.2.1 x.1.2.2.2.2.2.2.1 x.1.2.2.2.2.2.2.2.1 x.1.2.2.2.2.2.2.2.2.1
theorem loop_bits_Div64_l0 (N : Nat) {R : Type} : ∀ (n : Nat) (s : StS) (k : KS R) (r : R), lent' Pbits_Div64_l0 (ebits_Div64_l0 N n) s k = some r → ∃ e s', runL (runF T) [2, 8, 9, 10, 11, 13, 14, 15, 16] c116_l0 s.enc = some (e, s'.enc) ∧ k e s' = some r :=
  loop_ok (F64_ok N) (H := H_bits_Div64) (Lp := Lbits_Div64_0 N) (X := X_bits_Div64) (p := 131068) (LOK_of (l := []) (by kernel_rfl) trivial) (fun _ _ => rfl) (fun n x k => by kernel_rfl)
noncomputable def Lbits_Div64_1 (N : Nat) {R : Type} : Nat → StS → KS R → Option R := updL (Lbits_Div64_0 N) 131068 (lent' Pbits_Div64_l0 (ebits_Div64_l0 N N))
def bits_Div64_l1 (N : Nat) {R : Type} (k0 : Int → Int → Int → Int → Int → Int → Option R) : Nat → Int → Int → Int → Int → Int → Int → Int → Int → Int → Option R
  | 0, _, _, _, _, _, _, _, _, _ => none
  | n + 1, b0, b1, b2, b3, b4, b5, b6, b7, b8 => (bif decide (4294967296 ≤ b8) then (bif decide (4294967296 ≤ (IntKind.wrap .u64 (b6 + b2))) then (k0 b0 b1 b4 b5 b7 (IntKind.wrap .u64 (b8 - 1))) else (bits_Div64_l1 N k0 n b0 b1 b2 b3 b4 b5 (IntKind.wrap .u64 (b6 + b2)) b7 (IntKind.wrap .u64 (b8 - 1)))) else (bif decide ((IntKind.wrap .u64 ((IntKind.wrap .u64 (4294967296 * b6)) + b4)) < (IntKind.wrap .u64 (b8 * b3))) then (bif decide (4294967296 ≤ (IntKind.wrap .u64 (b6 + b2))) then (k0 b0 b1 b4 b5 b7 (IntKind.wrap .u64 (b8 - 1))) else (bits_Div64_l1 N k0 n b0 b1 b2 b3 b4 b5 (IntKind.wrap .u64 (b6 + b2)) b7 (IntKind.wrap .u64 (b8 - 1)))) else (k0 b0 b1 b4 b5 b7 b8)))
def Pbits_Div64_l1 : SP := ⟨[(2, .p (.s (.i .u64))), (8, .p (.s (.i .u64))), (9, .p (.s (.i .u64))), (10, .p (.s (.i .u64))), (14, .p (.s (.i .u64))), (15, .p (.s (.i .u64))), (16, .p (.s (.i .u64))), (17, .p (.s (.i .u64))), (18, .p (.s (.i .u64)))], []⟩
def ebits_Div64_l1 (N : Nat) {R : Type} (n : Nat) (x : Pbits_Div64_l1.den) (k : KS R) : Option R := bits_Div64_l1 N (fun r0 r1 r2 r3 r4 r5 => k (.ex 2) ⟨[(2, .p (.i .u64 r0)), (8, .p (.i .u64 r1)), (14, .p (.i .u64 r2)), (15, .p (.i .u64 r3)), (17, .p (.i .u64 r4)), (18, .p (.i .u64 r5))], []⟩) n x.1.1 x.1.2.1 x.1.2.2.1 x.1.2.2.2.1 x.1.2.2.2.2.1 x.1.2.2.2.2.2.1 x.1.2.2.2.2.2.2.1 x.1.2.2.2.2.2.2.2.1 x.1.2.2.2.2.2.2.2.2.1
theorem loop_bits_Div64_l1 (N : Nat) {R : Type} : ∀ (n : Nat) (s : StS) (k : KS R) (r : R), lent' Pbits_Div64_l1 (ebits_Div64_l1 N n) s k = some r → ∃ e s', runL (runF T) [2, 8, 9, 10, 14, 15, 16, 17, 18] c116_l1 s.enc = some (e, s'.enc) ∧ k e s' = some r :=
  loop_ok (F64_ok N) (H := H_bits_Div64) (Lp := Lbits_Div64_1 N) (X := X_bits_Div64) (p := 2097148) (LOK_of (l := []) (by kernel_rfl) trivial) (fun _ _ => rfl) (fun n x k => by kernel_rfl)
noncomputable def Lbits_Div64_2 (N : Nat) {R : Type} : Nat → StS → KS R → Option R := updL (Lbits_Div64_1 N) 2097148 (lent' Pbits_Div64_l1 (ebits_Div64_l1 N N))
def bits_Div64 (N : Nat) {R : Type} (a0 : Int) (a1 : Int) (a2 : Int) (k0 : Int → Int → Option R) : Option R := (bif decide (a2 = 0) then none else (bif decide (a2 ≤ a0) then none else (bif decide (a0 = 0) then (bif decide (a2 = 0) then none else (bif decide (a2 = 0) then none else (k0 (IntKind.wrap .u64 (Int.tdiv a1 a2)) (Int.tmod a1 a2)))) else (bits_LeadingZeros64 N a2 (fun y1 => (bif decide ((IntKind.wrap .u64 y1) < 0) then none else (bif decide ((IntKind.wrap .u64 y1) < 0) then none else (bif decide ((IntKind.wrap .u64 (64 - (IntKind.wrap .u64 y1))) < 0) then none else (bif decide ((IntKind.wrap .u64 y1) < 0) then none else (bif decide ((shr' .u64 (shl' .u64 a2 (IntKind.wrap .u64 y1)) 32) = 0) then none else (bits_Div64_l0 N (fun z2 z3 z4 z5 z6 z7 z8 z9 => (bif decide (z4 = 0) then none else (bits_Div64_l1 N (fun z10 z11 z12 z13 z14 z15 => (bif decide (z11 < 0) then none else (k0 (IntKind.wrap .u64 ((IntKind.wrap .u64 (z13 * 4294967296)) + z15)) (shr' .u64 (IntKind.wrap .u64 ((IntKind.wrap .u64 ((IntKind.wrap .u64 (z14 * 4294967296)) + z12)) - (IntKind.wrap .u64 (z15 * z10)))) z11)))) N z2 z3 z4 z5 z8 z9 (IntKind.wrap .u64 ((IntKind.wrap .u64 ((IntKind.wrap .u64 ((IntKind.wrap .u64 (z6 * 4294967296)) + z7)) - (IntKind.wrap .u64 (z9 * z2)))) - (IntKind.wrap .u64 ((IntKind.wrap .u64 (Int.tdiv (IntKind.wrap .u64 ((IntKind.wrap .u64 ((IntKind.wrap .u64 (z6 * 4294967296)) + z7)) - (IntKind.wrap .u64 (z9 * z2)))) z4)) * z4)))) (IntKind.wrap .u64 ((IntKind.wrap .u64 ((IntKind.wrap .u64 (z6 * 4294967296)) + z7)) - (IntKind.wrap .u64 (z9 * z2)))) (IntKind.wrap .u64 (Int.tdiv (IntKind.wrap .u64 ((IntKind.wrap .u64 ((IntKind.wrap .u64 (z6 * 4294967296)) + z7)) - (IntKind.wrap .u64 (z9 * z2)))) z4))))) N (shl' .u64 a2 (IntKind.wrap .u64 y1)) (IntKind.wrap .u64 y1) (shr' .u64 (shl' .u64 a2 (IntKind.wrap .u64 y1)) 32) (andI .u64 (shl' .u64 a2 (IntKind.wrap .u64 y1)) 4294967295) (orI .u64 (shl' .u64 a0 (IntKind.wrap .u64 y1)) (shr' .u64 a1 (IntKind.wrap .u64 (64 - (IntKind.wrap .u64 y1))))) (shr' .u64 (shl' .u64 a1 (IntKind.wrap .u64 y1)) 32) (andI .u64 (shl' .u64 a1 (IntKind.wrap .u64 y1)) 4294967295) (IntKind.wrap .u64 (Int.tdiv (orI .u64 (shl' .u64 a0 (IntKind.wrap .u64 y1)) (shr' .u64 a1 (IntKind.wrap .u64 (64 - (IntKind.wrap .u64 y1))))) (shr' .u64 (shl' .u64 a2 (IntKind.wrap .u64 y1)) 32))) (IntKind.wrap .u64 ((orI .u64 (shl' .u64 a0 (IntKind.wrap .u64 y1)) (shr' .u64 a1 (IntKind.wrap .u64 (64 - (IntKind.wrap .u64 y1))))) - (IntKind.wrap .u64 ((IntKind.wrap .u64 (Int.tdiv (orI .u64 (shl' .u64 a0 (IntKind.wrap .u64 y1)) (shr' .u64 a1 (IntKind.wrap .u64 (64 - (IntKind.wrap .u64 y1))))) (shr' .u64 (shl' .u64 a2 (IntKind.wrap .u64 y1)) 32))) * (shr' .u64 (shl' .u64 a2 (IntKind.wrap .u64 y1)) 32))))))))))))))))
def P_bits_Div64 : AP := ⟨[.p (.s (.i .u64)), .p (.s (.i .u64)), .p (.s (.i .u64))], []⟩
def e_bits_Div64 (N : Nat) {R : Type} (x : P_bits_Div64.den) (k : List Nat → List DS → HeapS → Option R) : Option R := bits_Div64 N x.1.1 x.1.2.1 x.1.2.2.1 (fun r0 r1 => k [] [.p (.i .u64 r0), .p (.i .u64 r1)] [])
noncomputable def F65 (N : Nat) {R : Type} : CfS R := updC (F64 N) 116 (ent P_bits_Div64 (e_bits_Div64 N) (F64 N 116))
theorem F65_ok (N : Nat) {R : Type} : FOK (F65 N : CfS R) (runF T) :=
  FOK_upd (F64_ok N) (Snd_ent (F64_ok N) (H := H_bits_Div64) (Lp := Lbits_Div64_2 N) (X := X_bits_Div64) (rp := []) (ver := c116) rfl (LOK_of (l := [(131068, [2, 8, 9, 10, 11, 13, 14, 15, 16], c116_l0), (2097148, [2, 8, 9, 10, 14, 15, 16, 17, 18], c116_l1)]) (by kernel_rfl) ⟨(updL_ne (by decide) (updL_ok (loop_bits_Div64_l0 N N))), (updL_ok (loop_bits_Div64_l1 N N)), trivial⟩) (fun x k => by kernel_rfl) (Snd_of (F64_ok N) 116 fun _ _ _ _ h => h))
def X_arith_wide_divided : Nat → List SP := fun _ => []
def H_arith_wide_divided : Nat → Option (List Sh) := fun n => none
noncomputable def Larith_wide_divided_0 (N : Nat) {R : Type} : Nat → StS → KS R → Option R := noL
def arith_wide_divided (N : Nat) {R : Type} (a0 : Int) (a1 : Int) (a2 : Int) (k0 : Int → Int → Int → Option R) : Option R := (bif decide (a2 = 0) then none else (bits_Div64 N (Int.tmod a0 a2) a1 a2 (fun y1 y2 => (bif decide (a2 = 0) then none else (k0 (IntKind.wrap .u64 (Int.tdiv a0 a2)) y1 y2)))))
def P_arith_wide_divided : AP := ⟨[.agg [.p (.s (.i .u64)), .p (.s (.i .u64))], .p (.s (.i .u64))], []⟩
def e_arith_wide_divided (N : Nat) {R : Type} (x : P_arith_wide_divided.den) (k : List Nat → List DS → HeapS → Option R) : Option R := arith_wide_divided N x.1.1.1 x.1.1.2.1 x.1.2.1 (fun r0 r1 r2 => k [] [.agg [.p (.i .u64 r0), .p (.i .u64 r1)], .p (.i .u64 r2)] [])
noncomputable def F66 (N : Nat) {R : Type} : CfS R := updC (F65 N) 74 (ent P_arith_wide_divided (e_arith_wide_divided N) (F65 N 74))
theorem F66_ok (N : Nat) {R : Type} : FOK (F66 N : CfS R) (runF T) :=
  FOK_upd (F65_ok N) (Snd_ent (F65_ok N) (H := H_arith_wide_divided) (Lp := Larith_wide_divided_0 N) (X := X_arith_wide_divided) (rp := []) (ver := c74) rfl (LOK_of (l := []) (by kernel_rfl) trivial) (fun x k => by kernel_rfl) (Snd_of (F65_ok N) 74 fun _ _ _ _ h => h))
def X_arith_ParseFixed : Nat → List SP := fun _ => []
def H_arith_ParseFixed : Nat → Option (List Sh) := fun n => none
noncomputable def Larith_ParseFixed_0 (N : Nat) {R : Type} : Nat → StS → KS R → Option R := noL
def arith_ParseFixed_l0 (N : Nat) {R : Type} (k0 : Bool → Int → Int → Int → Int → Int → Int → Option R) : Nat → Bool → List Int → Int → Int → Int → Int → Int → Int → Int → Int → Option R
  | 0, _, _, _, _, _, _, _, _, _, _ => none
  | n + 1, b0, b1, b2, b3, b4, b5, b6, b7, b8, b9 => (bif decide (b3 < b2) then ((at? b1 b3).bind fun x1 => (arith_wide_times_v1 N b8 b9 10 (fun y2 y3 => (arith_wide_plus N y2 y3 0 (IntKind.wrap .u64 (IntKind.wrap .u8 (x1 - 48))) (fun y4 y5 => (arith_ParseFixed_l0 N k0 n b0 b1 b2 (w64 (b3 + 1)) b4 b5 b6 b7 y4 y5)))))) else (k0 b0 b4 b5 b6 b7 b8 b9))
def Parith_ParseFixed_l0 : SP := ⟨[(7, .ptr 0 0), (9, .p (.s .b)), (14, .ptr 1 0), (88, .p (.s (.sl [.i .u8]))), (89, .p (.s (.i .i64))), (90, .p (.s (.i .i64)))], [(0, .box [.p (.s (.i .i64)), .p (.s (.i .i64)), .p (.s (.i .i64)), .p (.s (.i .i64))]), (1, .box [.p (.s (.i .u64)), .p (.s (.i .u64))])]⟩
def earith_ParseFixed_l0 (N : Nat) {R : Type} (n : Nat) (x : Parith_ParseFixed_l0.den) (k : KS R) : Option R := arith_ParseFixed_l0 N (fun r0 r1 r2 r3 r4 r5 r6 => k (.ex 0) ⟨[(7, .ptr 0 0), (9, .p (.b r0)), (14, .ptr 1 0)], [(0, .box [.p (.i .i64 r1), .p (.i .i64 r2), .p (.i .i64 r3), .p (.i .i64 r4)]), (1, .box [.p (.i .u64 r5), .p (.i .u64 r6)])]⟩) n x.1.2.1 x.1.2.2.2.1 x.1.2.2.2.2.1 x.1.2.2.2.2.2.1 x.2.1.1 x.2.1.2.1 x.2.1.2.2.1 x.2.1.2.2.2.1 x.2.2.1.1 x.2.2.1.2.1
theorem loop_arith_ParseFixed_l0 (N : Nat) {R : Type} : ∀ (n : Nat) (s : StS) (k : KS R) (r : R), lent' Parith_ParseFixed_l0 (earith_ParseFixed_l0 N n) s k = some r → ∃ e s', runL (runF T) [7, 9, 14, 88, 89, 90] c32_l0 s.enc = some (e, s'.enc) ∧ k e s' = some r :=
  loop_ok (F66_ok N) (H := H_arith_ParseFixed) (Lp := Larith_ParseFixed_0 N) (X := X_arith_ParseFixed) (p := 520474) (LOK_of (l := []) (by kernel_rfl) trivial) (fun _ _ => rfl) (fun n x k => by kernel_rfl)
noncomputable def Larith_ParseFixed_1 (N : Nat) {R : Type} : Nat → StS → KS R → Option R := updL (Larith_ParseFixed_0 N) 520474 (lent' Parith_ParseFixed_l0 (earith_ParseFixed_l0 N N))
def arith_ParseFixed_l1 (N : Nat) {R : Type} (k0 : Bool → Int → Int → Int → Int → Int → Int → Int → Option R) : Nat → Bool → Int → Int → Int → Int → Int → Int → Int → Int → Int → Option R
  | 0, _, _, _, _, _, _, _, _, _, _ => none
  | n + 1, b0, b1, b2, b3, b4, b5, b6, b7, b8, b9 => (bif decide (b3 < b2) then (arith_wide_divided N b8 b9 5 (fun y1 y2 y3 => (arith_ParseFixed_l1 N k0 n b0 (IntKind.wrap .u64 (b1 + y3)) b2 (w64 (b3 + 1)) b4 b5 b6 b7 y1 y2))) else (k0 b0 b1 b4 b5 b6 b7 b8 b9))
def Parith_ParseFixed_l1 : SP := ⟨[(7, .ptr 0 0), (9, .p (.s .b)), (14, .ptr 1 0), (17, .p (.s (.i .u64))), (104, .p (.s (.i .i64))), (105, .p (.s (.i .i64)))], [(0, .box [.p (.s (.i .i64)), .p (.s (.i .i64)), .p (.s (.i .i64)), .p (.s (.i .i64))]), (1, .box [.p (.s (.i .u64)), .p (.s (.i .u64))])]⟩
def earith_ParseFixed_l1 (N : Nat) {R : Type} (n : Nat) (x : Parith_ParseFixed_l1.den) (k : KS R) : Option R := arith_ParseFixed_l1 N (fun r0 r1 r2 r3 r4 r5 r6 r7 => k (.ex 2) ⟨[(7, .ptr 0 0), (9, .p (.b r0)), (14, .ptr 1 0), (17, .p (.i .u64 r1))], [(0, .box [.p (.i .i64 r2), .p (.i .i64 r3), .p (.i .i64 r4), .p (.i .i64 r5)]), (1, .box [.p (.i .u64 r6), .p (.i .u64 r7)])]⟩) n x.1.2.1 x.1.2.2.2.1 x.1.2.2.2.2.1 x.1.2.2.2.2.2.1 x.2.1.1 x.2.1.2.1 x.2.1.2.2.1 x.2.1.2.2.2.1 x.2.2.1.1 x.2.2.1.2.1
theorem loop_arith_ParseFixed_l1 (N : Nat) {R : Type} : ∀ (n : Nat) (s : StS) (k : KS R) (r : R), lent' Parith_ParseFixed_l1 (earith_ParseFixed_l1 N n) s k = some r → ∃ e s', runL (runF T) [7, 9, 14, 17, 104, 105] c32_l1 s.enc = some (e, s'.enc) ∧ k e s' = some r :=
  loop_ok (F66_ok N) (H := H_arith_ParseFixed) (Lp := Larith_ParseFixed_1 N) (X := X_arith_ParseFixed) (p := 2081914) (LOK_of (l := []) (by kernel_rfl) trivial) (fun _ _ => rfl) (fun n x k => by kernel_rfl)
noncomputable def Larith_ParseFixed_2 (N : Nat) {R : Type} : Nat → StS → KS R → Option R := updL (Larith_ParseFixed_1 N) 2081914 (lent' Parith_ParseFixed_l1 (earith_ParseFixed_l1 N N))
def arith_ParseFixed_j3 (N : Nat) {R : Type} (k0 : Int → Int → Option R) (b0 : Bool) (b1 : Int) (b2 : Int) (b3 : Int) (b4 : Int) (b5 : Int) (b6 : Int) (b7 : Int) : Option R := (bif decide (b6 ≠ 0) then (k0 0 2) else (bif decide (b1 ≤ b7) then (k0 0 2) else (bif b0 then (arith_form_size N b2 b3 b4 b5 (fun y1 => (k0 (andI .i64 (w64 (0 - (w64 b7))) (w64 (y1 - 1))) 0))) else (arith_form_size N b2 b3 b4 b5 (fun y2 => (k0 (andI .i64 (w64 b7) (w64 (y2 - 1))) 0))))))
def Parith_ParseFixed_j3 : SP := ⟨[(7, .ptr 0 0), (9, .p (.s .b)), (14, .ptr 1 0), (19, .p (.s (.i .u64)))], [(0, .box [.p (.s (.i .i64)), .p (.s (.i .i64)), .p (.s (.i .i64)), .p (.s (.i .i64))]), (1, .box [.p (.s (.i .u64)), .p (.s (.i .u64))])]⟩
def earith_ParseFixed_j3 (N : Nat) {R : Type} (n : Nat) (x : Parith_ParseFixed_j3.den) (k : KS R) : Option R := match n with
  | 0 => none
  | _ + 1 => arith_ParseFixed_j3 N (fun r0 r1 => k .ret ⟨[(4, .p (.i .i64 r0)), (5, .p (.i .i64 r1))], []⟩) x.1.2.1 x.1.2.2.2.1 x.2.1.1 x.2.1.2.1 x.2.1.2.2.1 x.2.1.2.2.2.1 x.2.2.1.1 x.2.2.1.2.1
theorem loop_arith_ParseFixed_j3 (N : Nat) {R : Type} : ∀ (n : Nat) (s : StS) (k : KS R) (r : R), lent' Parith_ParseFixed_j3 (earith_ParseFixed_j3 N n) s k = some r → ∃ e s', runL (runF T) [7, 9, 14, 19] c32_j3 s.enc = some (e, s'.enc) ∧ k e s' = some r :=
  loop_ok (F66_ok N) (H := H_arith_ParseFixed) (Lp := Larith_ParseFixed_2 N) (X := X_arith_ParseFixed) (p := 66621382) (LOK_of (l := []) (by kernel_rfl) trivial) (fun _ _ => rfl) (fun n x k => by kernel_rfl)
noncomputable def Larith_ParseFixed_3 (N : Nat) {R : Type} : Nat → StS → KS R → Option R := updL (Larith_ParseFixed_2 N) 66621382 (lent' Parith_ParseFixed_j3 (earith_ParseFixed_j3 N 1))
def arith_ParseFixed_j2 (N : Nat) {R : Type} (k0 : Int → Int → Option R) (b0 : Bool) (b1 : Int) (b2 : Int) (b3 : Int) (b4 : Int) (b5 : Int) (b6 : Int) : Option R := (arith_form_size N b1 b2 b3 b4 (fun y1 => (bif b0 then (arith_ParseFixed_j3 N (fun z3 z4 => (k0 z3 z4)) b0 (IntKind.wrap .u64 ((IntKind.wrap .u64 (w64 (Int.tdiv y1 2))) + 1)) b1 b2 b3 b4 b5 b6) else (arith_ParseFixed_j3 N (fun z5 z6 => (k0 z5 z6)) b0 (IntKind.wrap .u64 (w64 (Int.tdiv y1 2))) b1 b2 b3 b4 b5 b6))))
def Parith_ParseFixed_j2 : SP := ⟨[(7, .ptr 0 0), (9, .p (.s .b)), (14, .ptr 1 0)], [(0, .box [.p (.s (.i .i64)), .p (.s (.i .i64)), .p (.s (.i .i64)), .p (.s (.i .i64))]), (1, .box [.p (.s (.i .u64)), .p (.s (.i .u64))])]⟩
def earith_ParseFixed_j2 (N : Nat) {R : Type} (n : Nat) (x : Parith_ParseFixed_j2.den) (k : KS R) : Option R := match n with
  | 0 => none
  | _ + 1 => arith_ParseFixed_j2 N (fun r0 r1 => k .ret ⟨[(4, .p (.i .i64 r0)), (5, .p (.i .i64 r1))], []⟩) x.1.2.1 x.2.1.1 x.2.1.2.1 x.2.1.2.2.1 x.2.1.2.2.2.1 x.2.2.1.1 x.2.2.1.2.1
theorem loop_arith_ParseFixed_j2 (N : Nat) {R : Type} : ∀ (n : Nat) (s : StS) (k : KS R) (r : R), lent' Parith_ParseFixed_j2 (earith_ParseFixed_j2 N n) s k = some r → ∃ e s', runL (runF T) [7, 9, 14] c32_j2 s.enc = some (e, s'.enc) ∧ k e s' = some r :=
  loop_ok (F66_ok N) (H := H_arith_ParseFixed) (Lp := Larith_ParseFixed_3 N) (X := X_arith_ParseFixed) (p := 2081918) (LOK_of (l := [(66621382, [7, 9, 14, 19], c32_j3)]) (by kernel_rfl) ⟨(updL_ok (loop_arith_ParseFixed_j3 N 1)), trivial⟩) (fun _ _ => rfl) (fun n x k => by kernel_rfl)
noncomputable def Larith_ParseFixed_4 (N : Nat) {R : Type} : Nat → StS → KS R → Option R := updL (Larith_ParseFixed_3 N) 2081918 (lent' Parith_ParseFixed_j2 (earith_ParseFixed_j2 N 1))
def arith_ParseFixed_j1 (N : Nat) {R : Type} (k0 : Int → Int → Option R) (b0 : Bool) (b1 : ByteArray) (b2 : ByteArray) (b3 : Bool) (b4 : Int) (b5 : Int) (b6 : Int) (b7 : Int) : Option R := (bif (!b3) then (k0 0 7) else (bif decide ((((b1.size + b2.size : Nat)) : Int) > 9223372036854775807) then none else (arith_ParseFixed_l0 N (fun z6 z7 z8 z9 z10 z11 z12 => (arith_ParseFixed_l1 N (fun z13 z14 z15 z16 z17 z18 z19 z20 => (bif decide (z14 ≠ 0) then (k0 0 7) else (bif z13 then (bif (false != (decide (z19 = 0) && (decide (z20 = 0) && true))) then (k0 0 7) else (arith_ParseFixed_j2 N (fun z21 z22 => (k0 z21 z22)) z13 z15 z16 z17 z18 z19 z20)) else (arith_ParseFixed_j2 N (fun z23 z24 => (k0 z23 z24)) z13 z15 z16 z17 z18 z19 z20)))) N z6 0 z8 0 z7 z8 z9 z10 z11 z12)) N b0 (bytesI (b1 ++ b2)) (((bytesI (b1 ++ b2)).length : Nat) : Int) 0 b4 b5 b6 b7 0 0)))
def Parith_ParseFixed_j1 : SP := ⟨[(7, .ptr 0 0), (9, .p (.s .b)), (10, .p (.s .s)), (11, .p (.s .s)), (13, .p (.s .b))], [(0, .box [.p (.s (.i .i64)), .p (.s (.i .i64)), .p (.s (.i .i64)), .p (.s (.i .i64))])]⟩
def earith_ParseFixed_j1 (N : Nat) {R : Type} (n : Nat) (x : Parith_ParseFixed_j1.den) (k : KS R) : Option R := match n with
  | 0 => none
  | _ + 1 => arith_ParseFixed_j1 N (fun r0 r1 => k .ret ⟨[(4, .p (.i .i64 r0)), (5, .p (.i .i64 r1))], []⟩) x.1.2.1 x.1.2.2.1 x.1.2.2.2.1 x.1.2.2.2.2.1 x.2.1.1 x.2.1.2.1 x.2.1.2.2.1 x.2.1.2.2.2.1
theorem loop_arith_ParseFixed_j1 (N : Nat) {R : Type} : ∀ (n : Nat) (s : StS) (k : KS R) (r : R), lent' Parith_ParseFixed_j1 (earith_ParseFixed_j1 N n) s k = some r → ∃ e s', runL (runF T) [7, 9, 10, 11, 13] c32_j1 s.enc = some (e, s'.enc) ∧ k e s' = some r :=
  loop_ok (F66_ok N) (H := H_arith_ParseFixed) (Lp := Larith_ParseFixed_4 N) (X := X_arith_ParseFixed) (p := 4066) (LOK_of (l := [(520474, [7, 9, 14, 88, 89, 90], c32_l0), (2081914, [7, 9, 14, 17, 104, 105], c32_l1), (2081918, [7, 9, 14], c32_j2)]) (by kernel_rfl) ⟨(updL_ne (by decide) (updL_ne (by decide) (updL_ne (by decide) (updL_ok (loop_arith_ParseFixed_l0 N N))))), (updL_ne (by decide) (updL_ne (by decide) (updL_ok (loop_arith_ParseFixed_l1 N N)))), (updL_ok (loop_arith_ParseFixed_j2 N 1)), trivial⟩) (fun _ _ => rfl) (fun n x k => by kernel_rfl)
noncomputable def Larith_ParseFixed_5 (N : Nat) {R : Type} : Nat → StS → KS R → Option R := updL (Larith_ParseFixed_4 N) 4066 (lent' Parith_ParseFixed_j1 (earith_ParseFixed_j1 N 1))
def arith_ParseFixed_j0 (N : Nat) {R : Type} (k0 : Int → Int → Option R) (b0 : Bool) (b1 : ByteArray) (b2 : ByteArray) (b3 : Bool) (b4 : Bool) (b5 : Int) (b6 : Int) (b7 : Int) (b8 : Int) : Option R := (bif b4 then (bif (b3 == decide (0 < b6)) then (bif decide (((b2.size : Nat) : Int) = b6) then (bif decide (b6 = 0) then (arith_ParseFixed_j1 N (fun z25 z26 => (k0 z25 z26)) b0 b1 b2 true b5 b6 b7 b8) else (arith_digits N b2 (fun y27 => (arith_ParseFixed_j1 N (fun z28 z29 => (k0 z28 z29)) b0 b1 b2 y27 b5 b6 b7 b8)))) else (arith_ParseFixed_j1 N (fun z30 z31 => (k0 z30 z31)) b0 b1 b2 false b5 b6 b7 b8)) else (arith_ParseFixed_j1 N (fun z32 z33 => (k0 z32 z33)) b0 b1 b2 false b5 b6 b7 b8)) else (arith_ParseFixed_j1 N (fun z34 z35 => (k0 z34 z35)) b0 b1 b2 false b5 b6 b7 b8))
def Parith_ParseFixed_j0 : SP := ⟨[(7, .ptr 0 0), (9, .p (.s .b)), (10, .p (.s .s)), (11, .p (.s .s)), (12, .p (.s .b)), (13, .p (.s .b))], [(0, .box [.p (.s (.i .i64)), .p (.s (.i .i64)), .p (.s (.i .i64)), .p (.s (.i .i64))])]⟩
def earith_ParseFixed_j0 (N : Nat) {R : Type} (n : Nat) (x : Parith_ParseFixed_j0.den) (k : KS R) : Option R := match n with
  | 0 => none
  | _ + 1 => arith_ParseFixed_j0 N (fun r0 r1 => k .ret ⟨[(4, .p (.i .i64 r0)), (5, .p (.i .i64 r1))], []⟩) x.1.2.1 x.1.2.2.1 x.1.2.2.2.1 x.1.2.2.2.2.1 x.1.2.2.2.2.2.1 x.2.1.1 x.2.1.2.1 x.2.1.2.2.1 x.2.1.2.2.2.1
theorem loop_arith_ParseFixed_j0 (N : Nat) {R : Type} : ∀ (n : Nat) (s : StS) (k : KS R) (r : R), lent' Parith_ParseFixed_j0 (earith_ParseFixed_j0 N n) s k = some r → ∃ e s', runL (runF T) [7, 9, 10, 11, 12, 13] c32_j0 s.enc = some (e, s'.enc) ∧ k e s' = some r :=
  loop_ok (F66_ok N) (H := H_arith_ParseFixed) (Lp := Larith_ParseFixed_5 N) (X := X_arith_ParseFixed) (p := 254) (LOK_of (l := [(4066, [7, 9, 10, 11, 13], c32_j1)]) (by kernel_rfl) ⟨(updL_ok (loop_arith_ParseFixed_j1 N 1)), trivial⟩) (fun _ _ => rfl) (fun n x k => by kernel_rfl)
noncomputable def Larith_ParseFixed_6 (N : Nat) {R : Type} : Nat → StS → KS R → Option R := updL (Larith_ParseFixed_5 N) 254 (lent' Parith_ParseFixed_j0 (earith_ParseFixed_j0 N 1))
def arith_ParseFixed (N : Nat) {R : Type} (a0 : ByteArray) (a1 : Int) (a2 : Int) (a3 : Int) (a4 : Int) (k0 : Int → Int → Option R) : Option R := (arith_CheckForm N a1 a2 a3 a4 (fun y1 => (bif decide (y1 ≠ 0) then (k0 0 y1) else (strings_CutPrefix N a0 (ByteArray.mk #[45]) (fun y2 y3 => (strings_Cut N y2 (ByteArray.mk #[46]) (fun y4 y5 y6 => (bif decide (((a0.size : Nat) : Int) ≤ 20) then (arith_digits N y4 (fun y7 => (bif y7 then (bif decide (((y4.size : Nat) : Int) = 1) then (arith_ParseFixed_j0 N (fun z36 z37 => (k0 z36 z37)) y3 y4 y5 y6 true a1 a2 a3 a4) else ((byte? y4 0).bind fun x38 => (arith_ParseFixed_j0 N (fun z39 z40 => (k0 z39 z40)) y3 y4 y5 y6 (decide (x38 ≠ 48)) a1 a2 a3 a4))) else (arith_ParseFixed_j0 N (fun z41 z42 => (k0 z41 z42)) y3 y4 y5 y6 false a1 a2 a3 a4)))) else (arith_ParseFixed_j0 N (fun z43 z44 => (k0 z43 z44)) y3 y4 y5 y6 false a1 a2 a3 a4)))))))))
def P_arith_ParseFixed : AP := ⟨[.p (.s .s), .agg [.p (.s (.i .i64)), .p (.s (.i .i64)), .p (.s (.i .i64)), .p (.s (.i .i64))]], []⟩
def e_arith_ParseFixed (N : Nat) {R : Type} (x : P_arith_ParseFixed.den) (k : List Nat → List DS → HeapS → Option R) : Option R := arith_ParseFixed N x.1.1 x.1.2.1.1 x.1.2.1.2.1 x.1.2.1.2.2.1 x.1.2.1.2.2.2.1 (fun r0 r1 => k [] [.p (.i .i64 r0), .p (.i .i64 r1)] [])
noncomputable def F67 (N : Nat) {R : Type} : CfS R := updC (F66 N) 32 (ent P_arith_ParseFixed (e_arith_ParseFixed N) (F66 N 32))
theorem F67_ok (N : Nat) {R : Type} : FOK (F67 N : CfS R) (runF T) :=
  FOK_upd (F66_ok N) (Snd_ent (F66_ok N) (H := H_arith_ParseFixed) (Lp := Larith_ParseFixed_6 N) (X := X_arith_ParseFixed) (rp := []) (ver := c32) rfl (LOK_of (l := [(254, [7, 9, 10, 11, 12, 13], c32_j0)]) (by kernel_rfl) ⟨(updL_ok (loop_arith_ParseFixed_j0 N 1)), trivial⟩) (fun x k => by kernel_rfl) (Snd_of (F66_ok N) 32 fun _ _ _ _ h => h))
def X_ratchetbase_Within : Nat → List SP := fun _ => []
def H_ratchetbase_Within : Nat → Option (List Sh) := fun n => none
noncomputable def Lratchetbase_Within_0 (N : Nat) {R : Type} : Nat → StS → KS R → Option R := noL
def ratchetbase_Within (N : Nat) {R : Type} (a0 : Int) (a1 : Int) (a2 : Int) (k0 : Bool → Option R) : Option R := (bif decide (a1 ≤ a0) then (k0 (decide (a0 ≤ a2))) else (k0 false))
def P_ratchetbase_Within : AP := ⟨[.p (.s (.i .i64)), .p (.s (.i .i64)), .p (.s (.i .i64))], []⟩
def e_ratchetbase_Within (N : Nat) {R : Type} (x : P_ratchetbase_Within.den) (k : List Nat → List DS → HeapS → Option R) : Option R := ratchetbase_Within N x.1.1 x.1.2.1 x.1.2.2.1 (fun r0 => k [] [.p (.b r0)] [])
noncomputable def F68 (N : Nat) {R : Type} : CfS R := updC (F67 N) 16 (ent P_ratchetbase_Within (e_ratchetbase_Within N) (F67 N 16))
theorem F68_ok (N : Nat) {R : Type} : FOK (F68 N : CfS R) (runF T) :=
  FOK_upd (F67_ok N) (Snd_ent (F67_ok N) (H := H_ratchetbase_Within) (Lp := Lratchetbase_Within_0 N) (X := X_ratchetbase_Within) (rp := []) (ver := c16) rfl (LOK_of (l := []) (by kernel_rfl) trivial) (fun x k => by kernel_rfl) (Snd_of (F67_ok N) 16 fun _ _ _ _ h => h))
def X_ratchetref30_FormErr : Nat → List SP := fun _ => []
def H_ratchetref30_FormErr : Nat → Option (List Sh) := fun n => none
noncomputable def Lratchetref30_FormErr_0 (N : Nat) {R : Type} : Nat → StS → KS R → Option R := noL
def ratchetref30_FormErr (N : Nat) {R : Type} (a0 : Int) (a1 : Int) (a2 : Int) (a3 : Int) (k0 : Int → Option R) : Option R := (ratchetbase_Within N a0 2 16 (fun y1 => (bif (!y1) then (k0 25) else (ratchetbase_Within N a1 0 (w64 (a0 - 1)) (fun y2 => (bif (!y2) then (k0 2) else (ratchetbase_Within N a2 0 2 (fun y3 => (bif (!y3) then (k0 15) else (ratchetbase_Within N a3 0 1 (fun y4 => (bif (!y4) then (k0 15) else (k0 0)))))))))))))
def P_ratchetref30_FormErr : AP := ⟨[.agg [.p (.s (.i .i64)), .p (.s (.i .i64)), .p (.s (.i .i64)), .p (.s (.i .i64))]], []⟩
def e_ratchetref30_FormErr (N : Nat) {R : Type} (x : P_ratchetref30_FormErr.den) (k : List Nat → List DS → HeapS → Option R) : Option R := ratchetref30_FormErr N x.1.1.1 x.1.1.2.1 x.1.1.2.2.1 x.1.1.2.2.2.1 (fun r0 => k [] [.p (.i .i64 r0)] [])
noncomputable def F69 (N : Nat) {R : Type} : CfS R := updC (F68 N) 10 (ent P_ratchetref30_FormErr (e_ratchetref30_FormErr N) (F68 N 10))
theorem F69_ok (N : Nat) {R : Type} : FOK (F69 N : CfS R) (runF T) :=
  FOK_upd (F68_ok N) (Snd_ent (F68_ok N) (H := H_ratchetref30_FormErr) (Lp := Lratchetref30_FormErr_0 N) (X := X_ratchetref30_FormErr) (rp := []) (ver := c10) rfl (LOK_of (l := []) (by kernel_rfl) trivial) (fun x k => by kernel_rfl) (Snd_of (F68_ok N) 10 fun _ _ _ _ h => h))
def X_ratchetbase_Cut : Nat → List SP := fun _ => []
def H_ratchetbase_Cut : Nat → Option (List Sh) := fun n => if n = 19000 then some [.s] else if n = 32000 then some [.s] else none
noncomputable def Lratchetbase_Cut_0 (N : Nat) {R : Type} : Nat → StS → KS R → Option R := noL
def ratchetbase_Cut_l0 (N : Nat) {R : Type} (k0 : ByteArray → Int → Option R) (k1 : ByteArray → Int → List ByteArray → Option R) : Nat → ByteArray → Int → Int → Int → List ByteArray → Option R
  | 0, _, _, _, _, _ => none
  | n + 1, b0, b1, b2, b3, b4 => (bif decide (b3 < ((b0.size : Nat) : Int)) then ((byte? b0 b3).bind fun x1 => (bif decide (x1 = b1) then (bif slP b2 b3 b0.size then (bif roomB (b4.length + 1) 16 then (ratchetbase_Cut_l0 N k0 k1 n b0 b1 (w64 (b3 + 1)) (w64 (b3 + 1)) (b4 ++ [(ByteArray.extract b0 b2.toNat b3.toNat)])) else none) else none) else (ratchetbase_Cut_l0 N k0 k1 n b0 b1 b2 (w64 (b3 + 1)) b4))) else (k1 b0 b2 b4))
def Pratchetbase_Cut_l0 : SP := ⟨[(0, .p (.s .s)), (1, .p (.s (.i .u8))), (5, .own 0), (6, .p (.s (.i .i64))), (7, .p (.s (.i .i64)))], [(0, .arr [.s])]⟩
def eratchetbase_Cut_l0 (N : Nat) {R : Type} (n : Nat) (x : Pratchetbase_Cut_l0.den) (k : KS R) : Option R := ratchetbase_Cut_l0 N (fun r0 r1 => k (.ex 0) ⟨[(0, .p (.s r0)), (5, .own 0), (6, .p (.i .i64 r1))], [(0, .arr (.e 1))]⟩) (fun r0 r1 r2 => k (.ex 0) ⟨[(0, .p (.s r0)), (5, .own 0), (6, .p (.i .i64 r1))], [(0, .arr (.t [.s] r2))]⟩) n x.1.1 x.1.2.1 x.1.2.2.2.1 x.1.2.2.2.2.1 x.2.1
theorem loop_ratchetbase_Cut_l0 (N : Nat) {R : Type} : ∀ (n : Nat) (s : StS) (k : KS R) (r : R), lent' Pratchetbase_Cut_l0 (eratchetbase_Cut_l0 N n) s k = some r → ∃ e s', runL (runF T) [0, 1, 5, 6, 7] c117_l0 s.enc = some (e, s'.enc) ∧ k e s' = some r :=
  loop_ok (F69_ok N) (H := H_ratchetbase_Cut) (Lp := Lratchetbase_Cut_0 N) (X := X_ratchetbase_Cut) (p := 122) (LOK_of (l := []) (by kernel_rfl) trivial) (fun _ _ => rfl) (fun n x k => by kernel_rfl)
noncomputable def Lratchetbase_Cut_1 (N : Nat) {R : Type} : Nat → StS → KS R → Option R := updL (Lratchetbase_Cut_0 N) 122 (lent' Pratchetbase_Cut_l0 (eratchetbase_Cut_l0 N N))
def ratchetbase_Cut (N : Nat) {R : Type} (a0 : ByteArray) (a1 : Int) (k0 : List ByteArray → Option R) : Option R := (ratchetbase_Cut_l0 N (fun z2 z3 => (bif slP z3 ((z2.size : Nat) : Int) z2.size then (k0 [(ByteArray.extract z2 z3.toNat z2.size)]) else none)) (fun z4 z5 z6 => (bif slP z5 ((z4.size : Nat) : Int) z4.size then (bif roomB (z6.length + 1) 16 then (k0 (z6 ++ [(ByteArray.extract z4 z5.toNat z4.size)])) else none) else none)) N a0 a1 0 0 [])
def P_ratchetbase_Cut : AP := ⟨[.p (.s .s), .p (.s (.i .u8))], []⟩
def e_ratchetbase_Cut (N : Nat) {R : Type} (x : P_ratchetbase_Cut.den) (k : List Nat → List DS → HeapS → Option R) : Option R := ratchetbase_Cut N x.1.1 x.1.2.1 (fun r0 => k [] [.p (.l (.t [.s] r0))] [])
noncomputable def F70 (N : Nat) {R : Type} : CfS R := updC (F69 N) 117 (ent P_ratchetbase_Cut (e_ratchetbase_Cut N) (F69 N 117))
theorem F70_ok (N : Nat) {R : Type} : FOK (F70 N : CfS R) (runF T) :=
  FOK_upd (F69_ok N) (Snd_ent (F69_ok N) (H := H_ratchetbase_Cut) (Lp := Lratchetbase_Cut_1 N) (X := X_ratchetbase_Cut) (rp := []) (ver := c117) rfl (LOK_of (l := [(122, [0, 1, 5, 6, 7], c117_l0)]) (by kernel_rfl) ⟨(updL_ok (loop_ratchetbase_Cut_l0 N N)), trivial⟩) (fun x k => by kernel_rfl) (Snd_of (F69_ok N) 117 fun _ _ _ _ h => h))
def X_ratchetref30_natural : Nat → List SP := fun _ => []
def H_ratchetref30_natural : Nat → Option (List Sh) := fun n => none
noncomputable def Lratchetref30_natural_0 (N : Nat) {R : Type} : Nat → StS → KS R → Option R := noL
def ratchetref30_natural_l0 (N : Nat) {R : Type} (k0 : Int → Bool → Option R) (k1 : Int → Option R) : Nat → ByteArray → Int → Int → Option R
  | 0, _, _, _ => none
  | n + 1, b0, b1, b2 => (bif decide (b2 < ((b0.size : Nat) : Int)) then ((byte? b0 b2).bind fun x1 => (ratchetbase_Within N (w64 x1) 48 57 (fun y2 => (bif (!y2) then (k0 0 false) else ((byte? b0 b2).bind fun x3 => (ratchetref30_natural_l0 N k0 k1 n b0 (min (w64 ((w64 (b1 * 10)) + (w64 (IntKind.wrap .u8 (x3 - 48))))) 1073741824) (w64 (b2 + 1)))))))) else (k1 b1))
def Pratchetref30_natural_l0 : SP := ⟨[(0, .p (.s .s)), (4, .p (.s (.i .i64))), (5, .p (.s (.i .i64)))], []⟩
def eratchetref30_natural_l0 (N : Nat) {R : Type} (n : Nat) (x : Pratchetref30_natural_l0.den) (k : KS R) : Option R := ratchetref30_natural_l0 N (fun r0 r1 => k .ret ⟨[(2, .p (.i .i64 r0)), (3, .p (.b r1))], []⟩) (fun r0 => k (.ex 0) ⟨[(4, .p (.i .i64 r0))], []⟩) n x.1.1 x.1.2.1 x.1.2.2.1
theorem loop_ratchetref30_natural_l0 (N : Nat) {R : Type} : ∀ (n : Nat) (s : StS) (k : KS R) (r : R), lent' Pratchetref30_natural_l0 (eratchetref30_natural_l0 N n) s k = some r → ∃ e s', runL (runF T) [0, 4, 5] c118_l0 s.enc = some (e, s'.enc) ∧ k e s' = some r :=
  loop_ok (F70_ok N) (H := H_ratchetref30_natural) (Lp := Lratchetref30_natural_0 N) (X := X_ratchetref30_natural) (p := 906) (LOK_of (l := []) (by kernel_rfl) trivial) (fun _ _ => rfl) (fun n x k => by kernel_rfl)
noncomputable def Lratchetref30_natural_1 (N : Nat) {R : Type} : Nat → StS → KS R → Option R := updL (Lratchetref30_natural_0 N) 906 (lent' Pratchetref30_natural_l0 (eratchetref30_natural_l0 N N))
def ratchetref30_natural_j0 (N : Nat) {R : Type} (k0 : Int → Bool → Option R) (b0 : ByteArray) : Option R := (ratchetref30_natural_l0 N (fun z4 z5 => (k0 z4 z5)) (fun z6 => (k0 z6 true)) N b0 0 0)
def Pratchetref30_natural_j0 : SP := ⟨[(0, .p (.s .s))], []⟩
def eratchetref30_natural_j0 (N : Nat) {R : Type} (n : Nat) (x : Pratchetref30_natural_j0.den) (k : KS R) : Option R := match n with
  | 0 => none
  | _ + 1 => ratchetref30_natural_j0 N (fun r0 r1 => k .ret ⟨[(2, .p (.i .i64 r0)), (3, .p (.b r1))], []⟩) x.1.1
theorem loop_ratchetref30_natural_j0 (N : Nat) {R : Type} : ∀ (n : Nat) (s : StS) (k : KS R) (r : R), lent' Pratchetref30_natural_j0 (eratchetref30_natural_j0 N n) s k = some r → ∃ e s', runL (runF T) [0] c118_j0 s.enc = some (e, s'.enc) ∧ k e s' = some r :=
  loop_ok (F70_ok N) (H := H_ratchetref30_natural) (Lp := Lratchetref30_natural_1 N) (X := X_ratchetref30_natural) (p := 14) (LOK_of (l := [(906, [0, 4, 5], c118_l0)]) (by kernel_rfl) ⟨(updL_ok (loop_ratchetref30_natural_l0 N N)), trivial⟩) (fun _ _ => rfl) (fun n x k => by kernel_rfl)
noncomputable def Lratchetref30_natural_2 (N : Nat) {R : Type} : Nat → StS → KS R → Option R := updL (Lratchetref30_natural_1 N) 14 (lent' Pratchetref30_natural_j0 (eratchetref30_natural_j0 N 1))
def ratchetref30_natural (N : Nat) {R : Type} (a0 : ByteArray) (k0 : Int → Bool → Option R) : Option R := (bif decide (a0 = (ByteArray.mk #[])) then (k0 0 false) else ((byte? a0 0).bind fun x1 => (bif decide (x1 = 48) then (bif decide (1 < ((a0.size : Nat) : Int)) then (k0 0 false) else (ratchetref30_natural_j0 N (fun z7 z8 => (k0 z7 z8)) a0)) else (ratchetref30_natural_j0 N (fun z9 z10 => (k0 z9 z10)) a0))))
def P_ratchetref30_natural : AP := ⟨[.p (.s .s)], []⟩
def e_ratchetref30_natural (N : Nat) {R : Type} (x : P_ratchetref30_natural.den) (k : List Nat → List DS → HeapS → Option R) : Option R := ratchetref30_natural N x.1.1 (fun r0 r1 => k [] [.p (.i .i64 r0), .p (.b r1)] [])
noncomputable def F71 (N : Nat) {R : Type} : CfS R := updC (F70 N) 118 (ent P_ratchetref30_natural (e_ratchetref30_natural N) (F70 N 118))
theorem F71_ok (N : Nat) {R : Type} : FOK (F71 N : CfS R) (runF T) :=
  FOK_upd (F70_ok N) (Snd_ent (F70_ok N) (H := H_ratchetref30_natural) (Lp := Lratchetref30_natural_2 N) (X := X_ratchetref30_natural) (rp := []) (ver := c118) rfl (LOK_of (l := [(14, [0], c118_j0)]) (by kernel_rfl) ⟨(updL_ok (loop_ratchetref30_natural_j0 N 1)), trivial⟩) (fun x k => by kernel_rfl) (Snd_of (F70_ok N) 118 fun _ _ _ _ h => h))
def X_ratchetbase_Power : Nat → List SP := fun _ => []
def H_ratchetbase_Power : Nat → Option (List Sh) := fun n => none
noncomputable def Lratchetbase_Power_0 (N : Nat) {R : Type} : Nat → StS → KS R → Option R := noL
def ratchetbase_Power (N : Nat) {R : Type} (a0 : Int) (k0 : Int → Option R) : Option R := (bif decide (a0 < 0) then none else (k0 (shl' .i64 1 a0)))
def P_ratchetbase_Power : AP := ⟨[.p (.s (.i .i64))], []⟩
def e_ratchetbase_Power (N : Nat) {R : Type} (x : P_ratchetbase_Power.den) (k : List Nat → List DS → HeapS → Option R) : Option R := ratchetbase_Power N x.1.1 (fun r0 => k [] [.p (.i .i64 r0)] [])
noncomputable def F72 (N : Nat) {R : Type} : CfS R := updC (F71 N) 14 (ent P_ratchetbase_Power (e_ratchetbase_Power N) (F71 N 14))
theorem F72_ok (N : Nat) {R : Type} : FOK (F72 N : CfS R) (runF T) :=
  FOK_upd (F71_ok N) (Snd_ent (F71_ok N) (H := H_ratchetbase_Power) (Lp := Lratchetbase_Power_0 N) (X := X_ratchetbase_Power) (rp := []) (ver := c14) rfl (LOK_of (l := []) (by kernel_rfl) trivial) (fun x k => by kernel_rfl) (Snd_of (F71_ok N) 14 fun _ _ _ _ h => h))
def X_ratchetref30_magnitude : Nat → List SP := fun _ => []
def H_ratchetref30_magnitude : Nat → Option (List Sh) := fun n => none
noncomputable def Lratchetref30_magnitude_0 (N : Nat) {R : Type} : Nat → StS → KS R → Option R := noL
def ratchetref30_magnitude_l0 (N : Nat) {R : Type} (k0 : Int → Bool → Option R) (k1 : Int → Bool → Int → Int → Option R) : Nat → Int → Bool → List ByteArray → Int → Int → Int → Int → Option R
  | 0, _, _, _, _, _, _, _ => none
  | n + 1, b0, b1, b2, b3, b4, b5, b6 => (bif decide (b6 < b0) then ((at? b2 1).bind fun x1 => ((byte? x1 b6).bind fun x2 => (ratchetbase_Within N (w64 x2) 48 57 (fun y3 => (bif (!y3) then (k0 0 false) else (ratchetref30_magnitude_l0 N k0 k1 n b0 b1 b2 b3 (w64 ((w64 ((w64 (b4 * 10)) + (w64 x2))) - 48)) (w64 (b5 * 10)) (w64 (b6 + 1)))))))) else (k1 b0 b1 b3 b4))
def Pratchetref30_magnitude_l0 : SP := ⟨[(1, .p (.s (.i .i64))), (6, .p (.s .b)), (7, .p (.s (.sl [.s]))), (8, .p (.s (.i .i64))), (10, .p (.s (.i .i64))), (11, .p (.s (.i .i64))), (12, .p (.s (.i .i64)))], []⟩
def eratchetref30_magnitude_l0 (N : Nat) {R : Type} (n : Nat) (x : Pratchetref30_magnitude_l0.den) (k : KS R) : Option R := ratchetref30_magnitude_l0 N (fun r0 r1 => k .ret ⟨[(4, .p (.i .i64 r0)), (5, .p (.b r1))], []⟩) (fun r0 r1 r2 r3 => k (.ex 0) ⟨[(1, .p (.i .i64 r0)), (6, .p (.b r1)), (8, .p (.i .i64 r2)), (10, .p (.i .i64 r3))], []⟩) n x.1.1 x.1.2.1 x.1.2.2.1 x.1.2.2.2.1 x.1.2.2.2.2.1 x.1.2.2.2.2.2.1 x.1.2.2.2.2.2.2.1
theorem loop_ratchetref30_magnitude_l0 (N : Nat) {R : Type} : ∀ (n : Nat) (s : StS) (k : KS R) (r : R), lent' Pratchetref30_magnitude_l0 (eratchetref30_magnitude_l0 N n) s k = some r → ∃ e s', runL (runF T) [1, 6, 7, 8, 10, 11, 12] c76_l0 s.enc = some (e, s'.enc) ∧ k e s' = some r :=
  loop_ok (F72_ok N) (H := H_ratchetref30_magnitude) (Lp := Lratchetref30_magnitude_0 N) (X := X_ratchetref30_magnitude) (p := 1852986) (LOK_of (l := []) (by kernel_rfl) trivial) (fun _ _ => rfl) (fun n x k => by kernel_rfl)
noncomputable def Lratchetref30_magnitude_1 (N : Nat) {R : Type} : Nat → StS → KS R → Option R := updL (Lratchetref30_magnitude_0 N) 1852986 (lent' Pratchetref30_magnitude_l0 (eratchetref30_magnitude_l0 N N))
def ratchetref30_magnitude_l1 (N : Nat) {R : Type} (k0 : Int → Bool → Int → Int → Int → Option R) : Nat → Int → Bool → Int → Int → Int → Int → Option R
  | 0, _, _, _, _, _, _ => none
  | n + 1, b0, b1, b2, b3, b4, b5 => (bif decide (b5 < b0) then (ratchetref30_magnitude_l1 N k0 n b0 b1 b2 b3 (w64 (b4 * 5)) (w64 (b5 + 1))) else (k0 b0 b1 b2 b3 b4))
def Pratchetref30_magnitude_l1 : SP := ⟨[(1, .p (.s (.i .i64))), (6, .p (.s .b)), (8, .p (.s (.i .i64))), (10, .p (.s (.i .i64))), (14, .p (.s (.i .i64))), (15, .p (.s (.i .i64)))], []⟩
def eratchetref30_magnitude_l1 (N : Nat) {R : Type} (n : Nat) (x : Pratchetref30_magnitude_l1.den) (k : KS R) : Option R := ratchetref30_magnitude_l1 N (fun r0 r1 r2 r3 r4 => k (.ex 2) ⟨[(1, .p (.i .i64 r0)), (6, .p (.b r1)), (8, .p (.i .i64 r2)), (10, .p (.i .i64 r3)), (14, .p (.i .i64 r4))], []⟩) n x.1.1 x.1.2.1 x.1.2.2.1 x.1.2.2.2.1 x.1.2.2.2.2.1 x.1.2.2.2.2.2.1
theorem loop_ratchetref30_magnitude_l1 (N : Nat) {R : Type} : ∀ (n : Nat) (s : StS) (k : KS R) (r : R), lent' Pratchetref30_magnitude_l1 (eratchetref30_magnitude_l1 N n) s k = some r → ∃ e s', runL (runF T) [1, 6, 8, 10, 14, 15] c76_l1 s.enc = some (e, s'.enc) ∧ k e s' = some r :=
  loop_ok (F72_ok N) (H := H_ratchetref30_magnitude) (Lp := Lratchetref30_magnitude_1 N) (X := X_ratchetref30_magnitude) (p := 7411962) (LOK_of (l := []) (by kernel_rfl) trivial) (fun _ _ => rfl) (fun n x k => by kernel_rfl)
noncomputable def Lratchetref30_magnitude_2 (N : Nat) {R : Type} : Nat → StS → KS R → Option R := updL (Lratchetref30_magnitude_1 N) 7411962 (lent' Pratchetref30_magnitude_l1 (eratchetref30_magnitude_l1 N N))
def ratchetref30_magnitude_j2 (N : Nat) {R : Type} (k0 : Int → Bool → Option R) (b0 : Int) (b1 : Bool) (b2 : List ByteArray) : Option R := ((at? b2 0).bind fun x1 => (ratchetref30_natural N x1 (fun y2 y3 => (bif (!y3) then (k0 0 false) else (ratchetref30_magnitude_l0 N (fun z4 z5 => (k0 z4 z5)) (fun z6 z7 z8 z9 => (ratchetref30_magnitude_l1 N (fun z10 z11 z12 z13 z14 => (bif decide (z14 = 0) then none else (bif decide ((Int.tmod z13 z14) ≠ 0) then (k0 0 false) else (ratchetbase_Power N z10 (fun y15 => (bif decide (z14 = 0) then none else (bif z11 then (bif decide ((w64 ((w64 (z12 * y15)) + (w64 (Int.tdiv z13 z14)))) = 0) then (k0 0 false) else (bif z11 then (k0 (w64 (0 - (w64 ((w64 (z12 * y15)) + (w64 (Int.tdiv z13 z14)))))) true) else (k0 (w64 ((w64 (z12 * y15)) + (w64 (Int.tdiv z13 z14)))) true))) else (bif z11 then (k0 (w64 (0 - (w64 ((w64 (z12 * y15)) + (w64 (Int.tdiv z13 z14)))))) true) else (k0 (w64 ((w64 (z12 * y15)) + (w64 (Int.tdiv z13 z14)))) true))))))))) N z6 z7 z8 z9 1 0)) N b0 b1 b2 y2 0 1 0)))))
def Pratchetref30_magnitude_j2 : SP := ⟨[(1, .p (.s (.i .i64))), (6, .p (.s .b)), (7, .p (.s (.sl [.s])))], []⟩
def eratchetref30_magnitude_j2 (N : Nat) {R : Type} (n : Nat) (x : Pratchetref30_magnitude_j2.den) (k : KS R) : Option R := match n with
  | 0 => none
  | _ + 1 => ratchetref30_magnitude_j2 N (fun r0 r1 => k .ret ⟨[(4, .p (.i .i64 r0)), (5, .p (.b r1))], []⟩) x.1.1 x.1.2.1 x.1.2.2.1
theorem loop_ratchetref30_magnitude_j2 (N : Nat) {R : Type} : ∀ (n : Nat) (s : StS) (k : KS R) (r : R), lent' Pratchetref30_magnitude_j2 (eratchetref30_magnitude_j2 N n) s k = some r → ∃ e s', runL (runF T) [1, 6, 7] c76_j2 s.enc = some (e, s'.enc) ∧ k e s' = some r :=
  loop_ok (F72_ok N) (H := H_ratchetref30_magnitude) (Lp := Lratchetref30_magnitude_2 N) (X := X_ratchetref30_magnitude) (p := 7238) (LOK_of (l := [(1852986, [1, 6, 7, 8, 10, 11, 12], c76_l0), (7411962, [1, 6, 8, 10, 14, 15], c76_l1)]) (by kernel_rfl) ⟨(updL_ne (by decide) (updL_ok (loop_ratchetref30_magnitude_l0 N N))), (updL_ok (loop_ratchetref30_magnitude_l1 N N)), trivial⟩) (fun _ _ => rfl) (fun n x k => by kernel_rfl)
noncomputable def Lratchetref30_magnitude_3 (N : Nat) {R : Type} : Nat → StS → KS R → Option R := updL (Lratchetref30_magnitude_2 N) 7238 (lent' Pratchetref30_magnitude_j2 (eratchetref30_magnitude_j2 N 1))
def ratchetref30_magnitude_j1 (N : Nat) {R : Type} (k0 : Int → Bool → Option R) (b0 : ByteArray) (b1 : Int) (b2 : Bool) : Option R := (ratchetbase_Cut N b0 46 (fun y1 => (bif decide (b1 = 0) then (bif decide (((y1.length : Nat) : Int) ≠ 1) then (k0 0 false) else (bif decide (0 < b1) then (bif decide (((y1.length : Nat) : Int) ≠ 2) then (k0 0 false) else ((at? y1 1).bind fun x2 => (bif decide (((x2.size : Nat) : Int) ≠ b1) then (k0 0 false) else (ratchetref30_magnitude_j2 N (fun z16 z17 => (k0 z16 z17)) b1 b2 y1)))) else (ratchetref30_magnitude_j2 N (fun z18 z19 => (k0 z18 z19)) b1 b2 y1))) else (bif decide (0 < b1) then (bif decide (((y1.length : Nat) : Int) ≠ 2) then (k0 0 false) else ((at? y1 1).bind fun x20 => (bif decide (((x20.size : Nat) : Int) ≠ b1) then (k0 0 false) else (ratchetref30_magnitude_j2 N (fun z21 z22 => (k0 z21 z22)) b1 b2 y1)))) else (ratchetref30_magnitude_j2 N (fun z23 z24 => (k0 z23 z24)) b1 b2 y1)))))
def Pratchetref30_magnitude_j1 : SP := ⟨[(0, .p (.s .s)), (1, .p (.s (.i .i64))), (6, .p (.s .b))], []⟩
def eratchetref30_magnitude_j1 (N : Nat) {R : Type} (n : Nat) (x : Pratchetref30_magnitude_j1.den) (k : KS R) : Option R := match n with
  | 0 => none
  | _ + 1 => ratchetref30_magnitude_j1 N (fun r0 r1 => k .ret ⟨[(4, .p (.i .i64 r0)), (5, .p (.b r1))], []⟩) x.1.1 x.1.2.1 x.1.2.2.1
theorem loop_ratchetref30_magnitude_j1 (N : Nat) {R : Type} : ∀ (n : Nat) (s : StS) (k : KS R) (r : R), lent' Pratchetref30_magnitude_j1 (eratchetref30_magnitude_j1 N n) s k = some r → ∃ e s', runL (runF T) [0, 1, 6] c76_j1 s.enc = some (e, s'.enc) ∧ k e s' = some r :=
  loop_ok (F72_ok N) (H := H_ratchetref30_magnitude) (Lp := Lratchetref30_magnitude_3 N) (X := X_ratchetref30_magnitude) (p := 226) (LOK_of (l := [(7238, [1, 6, 7], c76_j2)]) (by kernel_rfl) ⟨(updL_ok (loop_ratchetref30_magnitude_j2 N 1)), trivial⟩) (fun _ _ => rfl) (fun n x k => by kernel_rfl)
noncomputable def Lratchetref30_magnitude_4 (N : Nat) {R : Type} : Nat → StS → KS R → Option R := updL (Lratchetref30_magnitude_3 N) 226 (lent' Pratchetref30_magnitude_j1 (eratchetref30_magnitude_j1 N 1))
def ratchetref30_magnitude_j0 (N : Nat) {R : Type} (k0 : Int → Bool → Option R) (b0 : ByteArray) (b1 : Int) (b2 : Bool) : Option R := (bif b2 then (bif slP 1 ((b0.size : Nat) : Int) b0.size then (ratchetref30_magnitude_j1 N (fun z25 z26 => (k0 z25 z26)) (ByteArray.extract b0 1 b0.size) b1 b2) else none) else (ratchetref30_magnitude_j1 N (fun z27 z28 => (k0 z27 z28)) b0 b1 b2))
def Pratchetref30_magnitude_j0 : SP := ⟨[(0, .p (.s .s)), (1, .p (.s (.i .i64))), (6, .p (.s .b))], []⟩
def eratchetref30_magnitude_j0 (N : Nat) {R : Type} (n : Nat) (x : Pratchetref30_magnitude_j0.den) (k : KS R) : Option R := match n with
  | 0 => none
  | _ + 1 => ratchetref30_magnitude_j0 N (fun r0 r1 => k .ret ⟨[(4, .p (.i .i64 r0)), (5, .p (.b r1))], []⟩) x.1.1 x.1.2.1 x.1.2.2.1
theorem loop_ratchetref30_magnitude_j0 (N : Nat) {R : Type} : ∀ (n : Nat) (s : StS) (k : KS R) (r : R), lent' Pratchetref30_magnitude_j0 (eratchetref30_magnitude_j0 N n) s k = some r → ∃ e s', runL (runF T) [0, 1, 6] c76_j0 s.enc = some (e, s'.enc) ∧ k e s' = some r :=
  loop_ok (F72_ok N) (H := H_ratchetref30_magnitude) (Lp := Lratchetref30_magnitude_4 N) (X := X_ratchetref30_magnitude) (p := 14) (LOK_of (l := [(226, [0, 1, 6], c76_j1)]) (by kernel_rfl) ⟨(updL_ok (loop_ratchetref30_magnitude_j1 N 1)), trivial⟩) (fun _ _ => rfl) (fun n x k => by kernel_rfl)
noncomputable def Lratchetref30_magnitude_5 (N : Nat) {R : Type} : Nat → StS → KS R → Option R := updL (Lratchetref30_magnitude_4 N) 14 (lent' Pratchetref30_magnitude_j0 (eratchetref30_magnitude_j0 N 1))
def ratchetref30_magnitude (N : Nat) {R : Type} (a0 : ByteArray) (a1 : Int) (k0 : Int → Bool → Option R) : Option R := (bif decide (0 < ((a0.size : Nat) : Int)) then ((byte? a0 0).bind fun x1 => (ratchetref30_magnitude_j0 N (fun z29 z30 => (k0 z29 z30)) a0 a1 (decide (x1 = 45)))) else (ratchetref30_magnitude_j0 N (fun z31 z32 => (k0 z31 z32)) a0 a1 false))
def P_ratchetref30_magnitude : AP := ⟨[.p (.s .s), .p (.s (.i .i64))], []⟩
def e_ratchetref30_magnitude (N : Nat) {R : Type} (x : P_ratchetref30_magnitude.den) (k : List Nat → List DS → HeapS → Option R) : Option R := ratchetref30_magnitude N x.1.1 x.1.2.1 (fun r0 r1 => k [] [.p (.i .i64 r0), .p (.b r1)] [])
noncomputable def F73 (N : Nat) {R : Type} : CfS R := updC (F72 N) 76 (ent P_ratchetref30_magnitude (e_ratchetref30_magnitude N) (F72 N 76))
theorem F73_ok (N : Nat) {R : Type} : FOK (F73 N : CfS R) (runF T) :=
  FOK_upd (F72_ok N) (Snd_ent (F72_ok N) (H := H_ratchetref30_magnitude) (Lp := Lratchetref30_magnitude_5 N) (X := X_ratchetref30_magnitude) (rp := []) (ver := c76) rfl (LOK_of (l := [(14, [0, 1, 6], c76_j0)]) (by kernel_rfl) ⟨(updL_ok (loop_ratchetref30_magnitude_j0 N 1)), trivial⟩) (fun x k => by kernel_rfl) (Snd_of (F72_ok N) 76 fun _ _ _ _ h => h))
def X_ratchetbase_Mod : Nat → List SP := fun _ => []
def H_ratchetbase_Mod : Nat → Option (List Sh) := fun n => none
noncomputable def Lratchetbase_Mod_0 (N : Nat) {R : Type} : Nat → StS → KS R → Option R := noL
def ratchetbase_Mod (N : Nat) {R : Type} (a0 : Int) (a1 : Int) (k0 : Int → Option R) : Option R := (bif decide (a1 = 0) then none else (bif decide ((Int.tmod a0 a1) < 0) then (k0 (w64 ((Int.tmod a0 a1) + a1))) else (k0 (Int.tmod a0 a1))))
def P_ratchetbase_Mod : AP := ⟨[.p (.s (.i .i64)), .p (.s (.i .i64))], []⟩
def e_ratchetbase_Mod (N : Nat) {R : Type} (x : P_ratchetbase_Mod.den) (k : List Nat → List DS → HeapS → Option R) : Option R := ratchetbase_Mod N x.1.1 x.1.2.1 (fun r0 => k [] [.p (.i .i64 r0)] [])
noncomputable def F74 (N : Nat) {R : Type} : CfS R := updC (F73 N) 51 (ent P_ratchetbase_Mod (e_ratchetbase_Mod N) (F73 N 51))
theorem F74_ok (N : Nat) {R : Type} : FOK (F74 N : CfS R) (runF T) :=
  FOK_upd (F73_ok N) (Snd_ent (F73_ok N) (H := H_ratchetbase_Mod) (Lp := Lratchetbase_Mod_0 N) (X := X_ratchetbase_Mod) (rp := []) (ver := c51) rfl (LOK_of (l := []) (by kernel_rfl) trivial) (fun x k => by kernel_rfl) (Snd_of (F73_ok N) 51 fun _ _ _ _ h => h))
def X_ratchetref30_Parse : Nat → List SP := fun _ => []
def H_ratchetref30_Parse : Nat → Option (List Sh) := fun n => none
noncomputable def Lratchetref30_Parse_0 (N : Nat) {R : Type} : Nat → StS → KS R → Option R := noL
def ratchetref30_Parse (N : Nat) {R : Type} (a0 : ByteArray) (a1 : Int) (a2 : Int) (a3 : Int) (a4 : Int) (k0 : Int → Int → Option R) : Option R := (ratchetref30_FormErr N a1 a2 a3 a4 (fun y1 => (bif decide (y1 ≠ 0) then (k0 0 y1) else (ratchetref30_magnitude N a0 a2 (fun y2 y3 => (bif (!y3) then (k0 0 7) else (bif decide (20 < ((a0.size : Nat) : Int)) then (k0 0 7) else (ratchetbase_Power N (w64 (a1 - 1)) (fun y4 => (ratchetbase_Within N y2 (w64 (0 - y4)) (w64 (y4 - 1)) (fun y5 => (bif (!y5) then (k0 0 2) else (ratchetbase_Power N a1 (fun y6 => (ratchetbase_Mod N y2 y6 (fun y7 => (k0 y7 0)))))))))))))))))
def P_ratchetref30_Parse : AP := ⟨[.p (.s .s), .agg [.p (.s (.i .i64)), .p (.s (.i .i64)), .p (.s (.i .i64)), .p (.s (.i .i64))]], []⟩
def e_ratchetref30_Parse (N : Nat) {R : Type} (x : P_ratchetref30_Parse.den) (k : List Nat → List DS → HeapS → Option R) : Option R := ratchetref30_Parse N x.1.1 x.1.2.1.1 x.1.2.1.2.1 x.1.2.1.2.2.1 x.1.2.1.2.2.2.1 (fun r0 r1 => k [] [.p (.i .i64 r0), .p (.i .i64 r1)] [])
noncomputable def F75 (N : Nat) {R : Type} : CfS R := updC (F74 N) 33 (ent P_ratchetref30_Parse (e_ratchetref30_Parse N) (F74 N 33))
theorem F75_ok (N : Nat) {R : Type} : FOK (F75 N : CfS R) (runF T) :=
  FOK_upd (F74_ok N) (Snd_ent (F74_ok N) (H := H_ratchetref30_Parse) (Lp := Lratchetref30_Parse_0 N) (X := X_ratchetref30_Parse) (rp := []) (ver := c33) rfl (LOK_of (l := []) (by kernel_rfl) trivial) (fun x k => by kernel_rfl) (Snd_of (F74_ok N) 33 fun _ _ _ _ h => h))
def X_ratchetbase_Fits : Nat → List SP := fun _ => []
def H_ratchetbase_Fits : Nat → Option (List Sh) := fun n => none
noncomputable def Lratchetbase_Fits_0 (N : Nat) {R : Type} : Nat → StS → KS R → Option R := noL
def ratchetbase_Fits (N : Nat) {R : Type} (a0 : Int) (a1 : Int) (k0 : Bool → Option R) : Option R := (ratchetbase_Power N a1 (fun y1 => (ratchetbase_Within N a0 0 (w64 (y1 - 1)) (fun y2 => (k0 y2)))))
def P_ratchetbase_Fits : AP := ⟨[.p (.s (.i .i64)), .p (.s (.i .i64))], []⟩
def e_ratchetbase_Fits (N : Nat) {R : Type} (x : P_ratchetbase_Fits.den) (k : List Nat → List DS → HeapS → Option R) : Option R := ratchetbase_Fits N x.1.1 x.1.2.1 (fun r0 => k [] [.p (.b r0)] [])
noncomputable def F76 (N : Nat) {R : Type} : CfS R := updC (F75 N) 13 (ent P_ratchetbase_Fits (e_ratchetbase_Fits N) (F75 N 13))
theorem F76_ok (N : Nat) {R : Type} : FOK (F76 N : CfS R) (runF T) :=
  FOK_upd (F75_ok N) (Snd_ent (F75_ok N) (H := H_ratchetbase_Fits) (Lp := Lratchetbase_Fits_0 N) (X := X_ratchetbase_Fits) (rp := []) (ver := c13) rfl (LOK_of (l := []) (by kernel_rfl) trivial) (fun x k => by kernel_rfl) (Snd_of (F75_ok N) 13 fun _ _ _ _ h => h))
def X_ratchetref30_ValueErr : Nat → List SP := fun _ => []
def H_ratchetref30_ValueErr : Nat → Option (List Sh) := fun n => none
noncomputable def Lratchetref30_ValueErr_0 (N : Nat) {R : Type} : Nat → StS → KS R → Option R := noL
def ratchetref30_ValueErr (N : Nat) {R : Type} (a0 : Int) (a1 : Int) (a2 : Int) (a3 : Int) (a4 : Int) (k0 : Int → Option R) : Option R := (ratchetbase_Fits N a0 a1 (fun y1 => (bif (!y1) then (k0 2) else (k0 0))))
def P_ratchetref30_ValueErr : AP := ⟨[.p (.s (.i .i64)), .agg [.p (.s (.i .i64)), .p (.s (.i .i64)), .p (.s (.i .i64)), .p (.s (.i .i64))]], []⟩
def e_ratchetref30_ValueErr (N : Nat) {R : Type} (x : P_ratchetref30_ValueErr.den) (k : List Nat → List DS → HeapS → Option R) : Option R := ratchetref30_ValueErr N x.1.1 x.1.2.1.1 x.1.2.1.2.1 x.1.2.1.2.2.1 x.1.2.1.2.2.2.1 (fun r0 => k [] [.p (.i .i64 r0)] [])
noncomputable def F77 (N : Nat) {R : Type} : CfS R := updC (F76 N) 34 (ent P_ratchetref30_ValueErr (e_ratchetref30_ValueErr N) (F76 N 34))
theorem F77_ok (N : Nat) {R : Type} : FOK (F77 N : CfS R) (runF T) :=
  FOK_upd (F76_ok N) (Snd_ent (F76_ok N) (H := H_ratchetref30_ValueErr) (Lp := Lratchetref30_ValueErr_0 N) (X := X_ratchetref30_ValueErr) (rp := []) (ver := c34) rfl (LOK_of (l := []) (by kernel_rfl) trivial) (fun x k => by kernel_rfl) (Snd_of (F76_ok N) 34 fun _ _ _ _ h => h))
def X_ratchetbase_Signed : Nat → List SP := fun _ => []
def H_ratchetbase_Signed : Nat → Option (List Sh) := fun n => none
noncomputable def Lratchetbase_Signed_0 (N : Nat) {R : Type} : Nat → StS → KS R → Option R := noL
def ratchetbase_Signed (N : Nat) {R : Type} (a0 : Int) (a1 : Int) (k0 : Int → Option R) : Option R := (ratchetbase_Power N (w64 (a1 - 1)) (fun y1 => (bif decide (y1 ≤ a0) then (ratchetbase_Power N a1 (fun y2 => (k0 (w64 (a0 - y2))))) else (k0 a0))))
def P_ratchetbase_Signed : AP := ⟨[.p (.s (.i .i64)), .p (.s (.i .i64))], []⟩
def e_ratchetbase_Signed (N : Nat) {R : Type} (x : P_ratchetbase_Signed.den) (k : List Nat → List DS → HeapS → Option R) : Option R := ratchetbase_Signed N x.1.1 x.1.2.1 (fun r0 => k [] [.p (.i .i64 r0)] [])
noncomputable def F78 (N : Nat) {R : Type} : CfS R := updC (F77 N) 19 (ent P_ratchetbase_Signed (e_ratchetbase_Signed N) (F77 N 19))
theorem F78_ok (N : Nat) {R : Type} : FOK (F78 N : CfS R) (runF T) :=
  FOK_upd (F77_ok N) (Snd_ent (F77_ok N) (H := H_ratchetbase_Signed) (Lp := Lratchetbase_Signed_0 N) (X := X_ratchetbase_Signed) (rp := []) (ver := c19) rfl (LOK_of (l := []) (by kernel_rfl) trivial) (fun x k => by kernel_rfl) (Snd_of (F77_ok N) 19 fun _ _ _ _ h => h))
def X_ratchetref30_Of : Nat → List SP := fun _ => []
def H_ratchetref30_Of : Nat → Option (List Sh) := fun n => none
noncomputable def Lratchetref30_Of_0 (N : Nat) {R : Type} : Nat → StS → KS R → Option R := noL
def ratchetref30_Of (N : Nat) {R : Type} (a0 : Int) (a1 : Int) (a2 : Int) (a3 : Int) (a4 : Int) (k0 : Int → Option R) : Option R := (ratchetbase_Signed N a0 a1 (fun y1 => (k0 y1)))
def P_ratchetref30_Of : AP := ⟨[.p (.s (.i .i64)), .agg [.p (.s (.i .i64)), .p (.s (.i .i64)), .p (.s (.i .i64)), .p (.s (.i .i64))]], []⟩
def e_ratchetref30_Of (N : Nat) {R : Type} (x : P_ratchetref30_Of.den) (k : List Nat → List DS → HeapS → Option R) : Option R := ratchetref30_Of N x.1.1 x.1.2.1.1 x.1.2.1.2.1 x.1.2.1.2.2.1 x.1.2.1.2.2.2.1 (fun r0 => k [] [.p (.i .i64 r0)] [])
noncomputable def F79 (N : Nat) {R : Type} : CfS R := updC (F78 N) 77 (ent P_ratchetref30_Of (e_ratchetref30_Of N) (F78 N 77))
theorem F79_ok (N : Nat) {R : Type} : FOK (F79 N : CfS R) (runF T) :=
  FOK_upd (F78_ok N) (Snd_ent (F78_ok N) (H := H_ratchetref30_Of) (Lp := Lratchetref30_Of_0 N) (X := X_ratchetref30_Of) (rp := []) (ver := c77) rfl (LOK_of (l := []) (by kernel_rfl) trivial) (fun x k => by kernel_rfl) (Snd_of (F78_ok N) 77 fun _ _ _ _ h => h))
def X_ratchetbase_Size : Nat → List SP := fun _ => []
def H_ratchetbase_Size : Nat → Option (List Sh) := fun n => none
noncomputable def Lratchetbase_Size_0 (N : Nat) {R : Type} : Nat → StS → KS R → Option R := noL
def ratchetbase_Size (N : Nat) {R : Type} (a0 : Int) (k0 : Int → Option R) : Option R := (k0 (max a0 (w64 (0 - a0))))
def P_ratchetbase_Size : AP := ⟨[.p (.s (.i .i64))], []⟩
def e_ratchetbase_Size (N : Nat) {R : Type} (x : P_ratchetbase_Size.den) (k : List Nat → List DS → HeapS → Option R) : Option R := ratchetbase_Size N x.1.1 (fun r0 => k [] [.p (.i .i64 r0)] [])
noncomputable def F80 (N : Nat) {R : Type} : CfS R := updC (F79 N) 90 (ent P_ratchetbase_Size (e_ratchetbase_Size N) (F79 N 90))
theorem F80_ok (N : Nat) {R : Type} : FOK (F80 N : CfS R) (runF T) :=
  FOK_upd (F79_ok N) (Snd_ent (F79_ok N) (H := H_ratchetbase_Size) (Lp := Lratchetbase_Size_0 N) (X := X_ratchetbase_Size) (rp := []) (ver := c90) rfl (LOK_of (l := []) (by kernel_rfl) trivial) (fun x k => by kernel_rfl) (Snd_of (F79_ok N) 90 fun _ _ _ _ h => h))
def X_ratchetbase_Decimal : Nat → List SP := fun _ => []
def H_ratchetbase_Decimal : Nat → Option (List Sh) := fun n => if n = 19000 then some [.i .u8] else none
noncomputable def Lratchetbase_Decimal_0 (N : Nat) {R : Type} : Nat → StS → KS R → Option R := noL
def ratchetbase_Decimal_l0 (N : Nat) {R : Type} (k0 : ByteArray → ByteArray → Option R) : Nat → Int → ByteArray → ByteArray → Option R
  | 0, _, _, _ => none
  | n + 1, b0, b1, b2 => (bif decide (b0 ≠ 0) then (ratchetbase_Size N (Int.tmod b0 10) (fun y1 => (bif bytesOK [(IntKind.wrap .u8 (w64 (48 + y1)))] then (bif decide (((((strI [(IntKind.wrap .u8 (w64 (48 + y1)))]).size + b1.size : Nat)) : Int) > 9223372036854775807) then none else (ratchetbase_Decimal_l0 N k0 n (w64 (Int.tdiv b0 10)) ((strI [(IntKind.wrap .u8 (w64 (48 + y1)))]) ++ b1) b2)) else none))) else (k0 b1 b2))
def Pratchetbase_Decimal_l0 : SP := ⟨[(0, .p (.s (.i .i64))), (3, .p (.s .s)), (4, .p (.s .s))], []⟩
def eratchetbase_Decimal_l0 (N : Nat) {R : Type} (n : Nat) (x : Pratchetbase_Decimal_l0.den) (k : KS R) : Option R := ratchetbase_Decimal_l0 N (fun r0 r1 => k (.ex 0) ⟨[(3, .p (.s r0)), (4, .p (.s r1))], []⟩) n x.1.1 x.1.2.1 x.1.2.2.1
theorem loop_ratchetbase_Decimal_l0 (N : Nat) {R : Type} : ∀ (n : Nat) (s : StS) (k : KS R) (r : R), lent' Pratchetbase_Decimal_l0 (eratchetbase_Decimal_l0 N n) s k = some r → ∃ e s', runL (runF T) [0, 3, 4] c78_l0 s.enc = some (e, s'.enc) ∧ k e s' = some r :=
  loop_ok (F80_ok N) (H := H_ratchetbase_Decimal) (Lp := Lratchetbase_Decimal_0 N) (X := X_ratchetbase_Decimal) (p := 992) (LOK_of (l := []) (by kernel_rfl) trivial) (fun _ _ => rfl) (fun n x k => by kernel_rfl)
noncomputable def Lratchetbase_Decimal_1 (N : Nat) {R : Type} : Nat → StS → KS R → Option R := updL (Lratchetbase_Decimal_0 N) 992 (lent' Pratchetbase_Decimal_l0 (eratchetbase_Decimal_l0 N N))
def ratchetbase_Decimal_j0 (N : Nat) {R : Type} (k0 : ByteArray → Option R) (b0 : Int) (b1 : ByteArray) (b2 : ByteArray) : Option R := (ratchetbase_Decimal_l0 N (fun z2 z3 => (bif decide ((((z3.size + z2.size : Nat)) : Int) > 9223372036854775807) then none else (k0 (z3 ++ z2)))) N b0 b1 b2)
def Pratchetbase_Decimal_j0 : SP := ⟨[(0, .p (.s (.i .i64))), (3, .p (.s .s)), (4, .p (.s .s))], []⟩
def eratchetbase_Decimal_j0 (N : Nat) {R : Type} (n : Nat) (x : Pratchetbase_Decimal_j0.den) (k : KS R) : Option R := match n with
  | 0 => none
  | _ + 1 => ratchetbase_Decimal_j0 N (fun r0 => k .ret ⟨[(2, .p (.s r0))], []⟩) x.1.1 x.1.2.1 x.1.2.2.1
theorem loop_ratchetbase_Decimal_j0 (N : Nat) {R : Type} : ∀ (n : Nat) (s : StS) (k : KS R) (r : R), lent' Pratchetbase_Decimal_j0 (eratchetbase_Decimal_j0 N n) s k = some r → ∃ e s', runL (runF T) [0, 3, 4] c78_j0 s.enc = some (e, s'.enc) ∧ k e s' = some r :=
  loop_ok (F80_ok N) (H := H_ratchetbase_Decimal) (Lp := Lratchetbase_Decimal_1 N) (X := X_ratchetbase_Decimal) (p := 62) (LOK_of (l := [(992, [0, 3, 4], c78_l0)]) (by kernel_rfl) ⟨(updL_ok (loop_ratchetbase_Decimal_l0 N N)), trivial⟩) (fun _ _ => rfl) (fun n x k => by kernel_rfl)
noncomputable def Lratchetbase_Decimal_2 (N : Nat) {R : Type} : Nat → StS → KS R → Option R := updL (Lratchetbase_Decimal_1 N) 62 (lent' Pratchetbase_Decimal_j0 (eratchetbase_Decimal_j0 N 1))
def ratchetbase_Decimal (N : Nat) {R : Type} (a0 : Int) (k0 : ByteArray → Option R) : Option R := (bif decide (a0 = 0) then (k0 (ByteArray.mk #[48])) else (bif decide (a0 < 0) then (ratchetbase_Decimal_j0 N (fun z4 => (k0 z4)) a0 (ByteArray.mk #[]) (ByteArray.mk #[45])) else (ratchetbase_Decimal_j0 N (fun z5 => (k0 z5)) a0 (ByteArray.mk #[]) (ByteArray.mk #[]))))
def P_ratchetbase_Decimal : AP := ⟨[.p (.s (.i .i64))], []⟩
def e_ratchetbase_Decimal (N : Nat) {R : Type} (x : P_ratchetbase_Decimal.den) (k : List Nat → List DS → HeapS → Option R) : Option R := ratchetbase_Decimal N x.1.1 (fun r0 => k [] [.p (.s r0)] [])
noncomputable def F81 (N : Nat) {R : Type} : CfS R := updC (F80 N) 78 (ent P_ratchetbase_Decimal (e_ratchetbase_Decimal N) (F80 N 78))
theorem F81_ok (N : Nat) {R : Type} : FOK (F81 N : CfS R) (runF T) :=
  FOK_upd (F80_ok N) (Snd_ent (F80_ok N) (H := H_ratchetbase_Decimal) (Lp := Lratchetbase_Decimal_2 N) (X := X_ratchetbase_Decimal) (rp := []) (ver := c78) rfl (LOK_of (l := [(62, [0, 3, 4], c78_j0)]) (by kernel_rfl) ⟨(updL_ok (loop_ratchetbase_Decimal_j0 N 1)), trivial⟩) (fun x k => by kernel_rfl) (Snd_of (F80_ok N) 78 fun _ _ _ _ h => h))
def X_ratchetref30_Format : Nat → List SP := fun _ => []
def H_ratchetref30_Format : Nat → Option (List Sh) := fun n => none
noncomputable def Lratchetref30_Format_0 (N : Nat) {R : Type} : Nat → StS → KS R → Option R := noL
def ratchetref30_Format_l0 (N : Nat) {R : Type} (k0 : ByteArray → Option R) : Nat → ByteArray → Int → Int → Int → Int → Int → Int → Option R
  | 0, _, _, _, _, _, _, _ => none
  | n + 1, b0, b1, b2, b3, b4, b5, b6 => (bif decide (b2 < b4) then (ratchetbase_Power N b4 (fun y1 => (bif decide (y1 = 0) then none else (ratchetbase_Decimal N (w64 (Int.tdiv (w64 (b1 * 10)) y1)) (fun y2 => (bif decide ((((b0.size + y2.size : Nat)) : Int) > 9223372036854775807) then none else (ratchetbase_Power N b4 (fun y3 => (bif decide (y3 = 0) then none else (ratchetref30_Format_l0 N k0 n (b0 ++ y2) (Int.tmod (w64 (b1 * 10)) y3) (w64 (b2 + 1)) b3 b4 b5 b6)))))))))) else (k0 b0))
def Pratchetref30_Format_l0 : SP := ⟨[(3, .ptr 0 0), (6, .p (.s .s)), (8, .p (.s (.i .i64))), (9, .p (.s (.i .i64)))], [(0, .box [.p (.s (.i .i64)), .p (.s (.i .i64)), .p (.s (.i .i64)), .p (.s (.i .i64))])]⟩
def eratchetref30_Format_l0 (N : Nat) {R : Type} (n : Nat) (x : Pratchetref30_Format_l0.den) (k : KS R) : Option R := ratchetref30_Format_l0 N (fun r0 => k (.ex 0) ⟨[(6, .p (.s r0))], []⟩) n x.1.2.1 x.1.2.2.1 x.1.2.2.2.1 x.2.1.1 x.2.1.2.1 x.2.1.2.2.1 x.2.1.2.2.2.1
theorem loop_ratchetref30_Format_l0 (N : Nat) {R : Type} : ∀ (n : Nat) (s : StS) (k : KS R) (r : R), lent' Pratchetref30_Format_l0 (eratchetref30_Format_l0 N n) s k = some r → ∃ e s', runL (runF T) [3, 6, 8, 9] c35_l0 s.enc = some (e, s'.enc) ∧ k e s' = some r :=
  loop_ok (F81_ok N) (H := H_ratchetref30_Format) (Lp := Lratchetref30_Format_0 N) (X := X_ratchetref30_Format) (p := 127426) (LOK_of (l := []) (by kernel_rfl) trivial) (fun _ _ => rfl) (fun n x k => by kernel_rfl)
noncomputable def Lratchetref30_Format_1 (N : Nat) {R : Type} : Nat → StS → KS R → Option R := updL (Lratchetref30_Format_0 N) 127426 (lent' Pratchetref30_Format_l0 (eratchetref30_Format_l0 N N))
def ratchetref30_Format_j1 (N : Nat) {R : Type} (k0 : ByteArray → Option R) (b0 : ByteArray) (b1 : Int) (b2 : Int) (b3 : Int) (b4 : Int) (b5 : Int) : Option R := (ratchetref30_Format_l0 N (fun z4 => (k0 z4)) N b0 b1 0 b2 b3 b4 b5)
def Pratchetref30_Format_j1 : SP := ⟨[(3, .ptr 0 0), (6, .p (.s .s)), (8, .p (.s (.i .i64)))], [(0, .box [.p (.s (.i .i64)), .p (.s (.i .i64)), .p (.s (.i .i64)), .p (.s (.i .i64))])]⟩
def eratchetref30_Format_j1 (N : Nat) {R : Type} (n : Nat) (x : Pratchetref30_Format_j1.den) (k : KS R) : Option R := match n with
  | 0 => none
  | _ + 1 => ratchetref30_Format_j1 N (fun r0 => k .ret ⟨[(4, .p (.s r0))], []⟩) x.1.2.1 x.1.2.2.1 x.2.1.1 x.2.1.2.1 x.2.1.2.2.1 x.2.1.2.2.2.1
theorem loop_ratchetref30_Format_j1 (N : Nat) {R : Type} : ∀ (n : Nat) (s : StS) (k : KS R) (r : R), lent' Pratchetref30_Format_j1 (eratchetref30_Format_j1 N n) s k = some r → ∃ e s', runL (runF T) [3, 6, 8] c35_j1 s.enc = some (e, s'.enc) ∧ k e s' = some r :=
  loop_ok (F81_ok N) (H := H_ratchetref30_Format) (Lp := Lratchetref30_Format_1 N) (X := X_ratchetref30_Format) (p := 3982) (LOK_of (l := [(127426, [3, 6, 8, 9], c35_l0)]) (by kernel_rfl) ⟨(updL_ok (loop_ratchetref30_Format_l0 N N)), trivial⟩) (fun _ _ => rfl) (fun n x k => by kernel_rfl)
noncomputable def Lratchetref30_Format_2 (N : Nat) {R : Type} : Nat → StS → KS R → Option R := updL (Lratchetref30_Format_1 N) 3982 (lent' Pratchetref30_Format_j1 (eratchetref30_Format_j1 N 1))
def ratchetref30_Format_j0 (N : Nat) {R : Type} (k0 : ByteArray → Option R) (b0 : Int) (b1 : ByteArray) (b2 : Int) (b3 : Int) (b4 : Int) (b5 : Int) : Option R := (ratchetbase_Power N b3 (fun y1 => (bif decide (y1 = 0) then none else (ratchetbase_Power N b3 (fun y2 => (bif decide (y2 = 0) then none else (ratchetbase_Decimal N (w64 (Int.tdiv b0 y1)) (fun y3 => (bif decide ((((b1.size + y3.size : Nat)) : Int) > 9223372036854775807) then none else (bif decide (0 < b3) then (bif decide (((((b1 ++ y3).size + (ByteArray.mk #[46]).size : Nat)) : Int) > 9223372036854775807) then none else (ratchetref30_Format_j1 N (fun z5 => (k0 z5)) ((b1 ++ y3) ++ (ByteArray.mk #[46])) (Int.tmod b0 y2) b2 b3 b4 b5)) else (ratchetref30_Format_j1 N (fun z6 => (k0 z6)) (b1 ++ y3) (Int.tmod b0 y2) b2 b3 b4 b5)))))))))))
def Pratchetref30_Format_j0 : SP := ⟨[(3, .ptr 0 0), (5, .p (.s (.i .i64))), (6, .p (.s .s))], [(0, .box [.p (.s (.i .i64)), .p (.s (.i .i64)), .p (.s (.i .i64)), .p (.s (.i .i64))])]⟩
def eratchetref30_Format_j0 (N : Nat) {R : Type} (n : Nat) (x : Pratchetref30_Format_j0.den) (k : KS R) : Option R := match n with
  | 0 => none
  | _ + 1 => ratchetref30_Format_j0 N (fun r0 => k .ret ⟨[(4, .p (.s r0))], []⟩) x.1.2.1 x.1.2.2.1 x.2.1.1 x.2.1.2.1 x.2.1.2.2.1 x.2.1.2.2.2.1
theorem loop_ratchetref30_Format_j0 (N : Nat) {R : Type} : ∀ (n : Nat) (s : StS) (k : KS R) (r : R), lent' Pratchetref30_Format_j0 (eratchetref30_Format_j0 N n) s k = some r → ∃ e s', runL (runF T) [3, 5, 6] c35_j0 s.enc = some (e, s'.enc) ∧ k e s' = some r :=
  loop_ok (F81_ok N) (H := H_ratchetref30_Format) (Lp := Lratchetref30_Format_2 N) (X := X_ratchetref30_Format) (p := 62) (LOK_of (l := [(3982, [3, 6, 8], c35_j1)]) (by kernel_rfl) ⟨(updL_ok (loop_ratchetref30_Format_j1 N 1)), trivial⟩) (fun _ _ => rfl) (fun n x k => by kernel_rfl)
noncomputable def Lratchetref30_Format_3 (N : Nat) {R : Type} : Nat → StS → KS R → Option R := updL (Lratchetref30_Format_2 N) 62 (lent' Pratchetref30_Format_j0 (eratchetref30_Format_j0 N 1))
def ratchetref30_Format (N : Nat) {R : Type} (a0 : Int) (a1 : Int) (a2 : Int) (a3 : Int) (a4 : Int) (k0 : ByteArray → Option R) : Option R := (ratchetref30_Of N a0 a1 a2 a3 a4 (fun y1 => (bif decide (y1 < 0) then (ratchetref30_Format_j0 N (fun z7 => (k0 z7)) (w64 (0 - y1)) (ByteArray.mk #[45]) a1 a2 a3 a4) else (ratchetref30_Format_j0 N (fun z8 => (k0 z8)) y1 (ByteArray.mk #[]) a1 a2 a3 a4))))
def P_ratchetref30_Format : AP := ⟨[.p (.s (.i .i64)), .agg [.p (.s (.i .i64)), .p (.s (.i .i64)), .p (.s (.i .i64)), .p (.s (.i .i64))]], []⟩
def e_ratchetref30_Format (N : Nat) {R : Type} (x : P_ratchetref30_Format.den) (k : List Nat → List DS → HeapS → Option R) : Option R := ratchetref30_Format N x.1.1 x.1.2.1.1 x.1.2.1.2.1 x.1.2.1.2.2.1 x.1.2.1.2.2.2.1 (fun r0 => k [] [.p (.s r0)] [])
noncomputable def F82 (N : Nat) {R : Type} : CfS R := updC (F81 N) 35 (ent P_ratchetref30_Format (e_ratchetref30_Format N) (F81 N 35))
theorem F82_ok (N : Nat) {R : Type} : FOK (F82 N : CfS R) (runF T) :=
  FOK_upd (F81_ok N) (Snd_ent (F81_ok N) (H := H_ratchetref30_Format) (Lp := Lratchetref30_Format_3 N) (X := X_ratchetref30_Format) (rp := []) (ver := c35) rfl (LOK_of (l := [(62, [3, 5, 6], c35_j0)]) (by kernel_rfl) ⟨(updL_ok (loop_ratchetref30_Format_j0 N 1)), trivial⟩) (fun x k => by kernel_rfl) (Snd_of (F81_ok N) 35 fun _ _ _ _ h => h))
def X_ratchetlaw30_ArithStrings : Nat → List SP := fun _ => []
def H_ratchetlaw30_ArithStrings : Nat → Option (List Sh) := fun n => none
noncomputable def Lratchetlaw30_ArithStrings_0 (N : Nat) {R : Type} : Nat → StS → KS R → Option R := noL
def ratchetlaw30_ArithStrings_j0 (N : Nat) {R : Type} (k0 : Bool → Option R) (b0 : Int) (b1 : ByteArray) (b2 : Int) (b3 : Int) (b4 : Int) (b5 : Int) (b6 : Int) (b7 : Int) : Option R := (bif decide (b3 ≠ 0) then (bif decide (b2 = b3) then (k0 (decide (b1 = (ByteArray.mk #[])))) else (k0 false)) else (bif decide (b2 ≠ 0) then (k0 false) else (ratchetref30_Format N b0 b4 b5 b6 b7 (fun y1 => (bif decide (b1 ≠ y1) then (k0 false) else (arith_ParseFixed N b1 b4 b5 b6 b7 (fun y2 y3 => (bif decide (y3 = 0) then (k0 (decide (y2 = b0))) else (k0 false)))))))))
def Pratchetlaw30_ArithStrings_j0 : SP := ⟨[(0, .p (.s (.i .i64))), (4, .ptr 0 0), (7, .p (.s .s)), (8, .p (.s (.i .i64))), (12, .p (.s (.i .i64)))], [(0, .box [.p (.s (.i .i64)), .p (.s (.i .i64)), .p (.s (.i .i64)), .p (.s (.i .i64))])]⟩
def eratchetlaw30_ArithStrings_j0 (N : Nat) {R : Type} (n : Nat) (x : Pratchetlaw30_ArithStrings_j0.den) (k : KS R) : Option R := match n with
  | 0 => none
  | _ + 1 => ratchetlaw30_ArithStrings_j0 N (fun r0 => k .ret ⟨[(6, .p (.b r0))], []⟩) x.1.1 x.1.2.2.1 x.1.2.2.2.1 x.1.2.2.2.2.1 x.2.1.1 x.2.1.2.1 x.2.1.2.2.1 x.2.1.2.2.2.1
theorem loop_ratchetlaw30_ArithStrings_j0 (N : Nat) {R : Type} : ∀ (n : Nat) (s : StS) (k : KS R) (r : R), lent' Pratchetlaw30_ArithStrings_j0 (eratchetlaw30_ArithStrings_j0 N n) s k = some r → ∃ e s', runL (runF T) [0, 4, 7, 8, 12] c5_j0 s.enc = some (e, s'.enc) ∧ k e s' = some r :=
  loop_ok (F82_ok N) (H := H_ratchetlaw30_ArithStrings) (Lp := Lratchetlaw30_ArithStrings_0 N) (X := X_ratchetlaw30_ArithStrings) (p := 2046) (LOK_of (l := []) (by kernel_rfl) trivial) (fun _ _ => rfl) (fun n x k => by kernel_rfl)
noncomputable def Lratchetlaw30_ArithStrings_1 (N : Nat) {R : Type} : Nat → StS → KS R → Option R := updL (Lratchetlaw30_ArithStrings_0 N) 2046 (lent' Pratchetlaw30_ArithStrings_j0 (eratchetlaw30_ArithStrings_j0 N 1))
def ratchetlaw30_ArithStrings (N : Nat) {R : Type} (a0 : Int) (a1 : Int) (a2 : Int) (a3 : Int) (a4 : Int) (a5 : ByteArray) (k0 : Bool → Option R) : Option R := (ratchetlaw30_awake N (fun y1 => (bif (!y1) then (k0 false) else (bif decide (60 < ((a5.size : Nat) : Int)) then (k0 true) else (arith_FormatFixed N a0 a1 a2 a3 a4 (fun y2 y3 => (arith_ParseFixed N a5 a1 a2 a3 a4 (fun y4 y5 => (ratchetref30_Parse N a5 a1 a2 a3 a4 (fun y6 y7 => (bif decide (y5 ≠ y7) then (k0 false) else (bif decide (y4 ≠ y6) then (k0 false) else (ratchetref30_FormErr N a1 a2 a3 a4 (fun y8 => (bif decide (y8 = 0) then (ratchetref30_ValueErr N a0 a1 a2 a3 a4 (fun y9 => (ratchetlaw30_ArithStrings_j0 N (fun z10 => (k0 z10)) a0 y2 y3 y9 a1 a2 a3 a4))) else (ratchetlaw30_ArithStrings_j0 N (fun z11 => (k0 z11)) a0 y2 y3 y8 a1 a2 a3 a4))))))))))))))))
def P_ratchetlaw30_ArithStrings : AP := ⟨[.p (.s (.i .i64)), .agg [.p (.s (.i .i64)), .p (.s (.i .i64)), .p (.s (.i .i64)), .p (.s (.i .i64))], .p (.s .s)], []⟩
def e_ratchetlaw30_ArithStrings (N : Nat) {R : Type} (x : P_ratchetlaw30_ArithStrings.den) (k : List Nat → List DS → HeapS → Option R) : Option R := ratchetlaw30_ArithStrings N x.1.1 x.1.2.1.1 x.1.2.1.2.1 x.1.2.1.2.2.1 x.1.2.1.2.2.2.1 x.1.2.2.1 (fun r0 => k [] [.p (.b r0)] [])
noncomputable def F83 (N : Nat) {R : Type} : CfS R := updC (F82 N) 5 (ent P_ratchetlaw30_ArithStrings (e_ratchetlaw30_ArithStrings N) (F82 N 5))
theorem F83_ok (N : Nat) {R : Type} : FOK (F83 N : CfS R) (runF T) :=
  FOK_upd (F82_ok N) (Snd_ent (F82_ok N) (H := H_ratchetlaw30_ArithStrings) (Lp := Lratchetlaw30_ArithStrings_1 N) (X := X_ratchetlaw30_ArithStrings) (rp := []) (ver := c5) rfl (LOK_of (l := [(2046, [0, 4, 7, 8, 12], c5_j0)]) (by kernel_rfl) ⟨(updL_ok (loop_ratchetlaw30_ArithStrings_j0 N 1)), trivial⟩) (fun x k => by kernel_rfl) (Snd_of (F82_ok N) 5 fun _ _ _ _ h => h))
/-- What is left to show. -/
def PureArithStrings : Prop := ∀ (x0 : Int) (x1 : Int × Int × Int × Int) (x2 : ByteArray), okL [.i .i64] x0 → okL [.i .i64, .i .i64, .i .i64, .i .i64] x1 → okL [.s] x2 → ∃ N, ∀ {R : Type} (k : Bool → Option R), ratchetlaw30_ArithStrings N x0 x1.1 x1.2.1 x1.2.2.1 x1.2.2.2 x2 k = k true
end Am
end Go.Proofs.YteamkapbkccdeaaGreatDoor
