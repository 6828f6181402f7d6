/- Each function that is reached as a function on plain data, and that the version comes to it. -/
import Derived.Test.YtfdmmnfjdifccaaGreatDoorTFC
set_option linter.unusedVariables false
set_option linter.constructorNameAsVariable false
set_option maxRecDepth 100000
namespace Go.Proofs.YtfdmmnfjdifccaaGreatDoor
namespace Am
abbrev zt0 : Type := List (ByteArray × Int × (List (Int × Int × Int)))
abbrev zt1 : Type := List (ByteArray × Int × Int × Int × Int)
abbrev zt2 : Type := List (Int × Int × (List Int) × Int)
abbrev zt3 : Type := List (ByteArray × Nat × Bool)
abbrev zt4 : Type := List (Int × (List Int))
abbrev zt5 : Type := List (ByteArray × Int)
abbrev zt6 : Type := List (Int × Int × Int)
abbrev zs0 : List Sh := [.s, hI, .sl [hI, hI, hI]]
abbrev zs1 : List Sh := [hI, hI, .sl [hI], hI]
abbrev zs2 : List Sh := [.s, hI, hI, hI, hI]
abbrev zs3 : List Sh := [hI, .sl [hI]]
abbrev zs4 : List Sh := [hI, hI, hI]
abbrev zs5 : List Sh := [.sl [hI]]
noncomputable def F0 (N : Nat) {R : Type} : CfS R := (updC (updC (updC (updC nilC 98 (cloneE 1 8)) 42 (itoaE)) 106 (repE)) 156 (growE 1 8))
theorem F0_ok (N : Nat) {R : Type} : FOK (F0 N : CfS R) (runF T) := (FOK_upd (FOK_upd (FOK_upd (FOK_upd FOK_nil (Snd_clone (sz := 1) (bytes := 8) rfl rfl)) (Snd_itoa rfl rfl)) (Snd_rep rfl rfl)) (Snd_grow rfl rfl))
def ratchetlaw30_Form (N : Nat) {R : Type} (k0 : Int → Int → Int → Int → Option R) : Option R := (k0 8 4 1 1)
def P1 : AP := ⟨[], []⟩
def E1 (N : Nat) {R : Type} (x : P1.den) (k : KK R) : Option R := ratchetlaw30_Form N (fun r0 r1 r2 r3 => k [] [.agg [dI r0, dI r1, dI r2, dI r3]] [])
noncomputable def F1 (N : Nat) {R : Type} : CfS R := uC (F0 N) 38 P1 (E1 N)
theorem F1_ok (N : Nat) {R : Type} : FOK (F1 N : CfS R) (runF T) :=
  uC_ok (F0_ok N) (H := noH) (Lp := noL) (X := noX) (rp := []) (ver := c38) rfl (LOK0 (by kernel_rfl)) (fun x k => by kernel_rfl)
def arith_within (N : Nat) {R : Type} (a0 : Int) (a1 : Int) (a2 : Int) (k0 : Bool → Option R) : Option R := (bif decide (a1 ≤ a0) then (k0 (decide (a0 ≤ a2))) else (k0 false))
def P2 : AP := ⟨[pI, pI, pI], []⟩
def E2 (N : Nat) {R : Type} (x : P2.den) (k : KK R) : Option R := arith_within N x.1.1 x.1.2.1 x.1.2.2.1 (fun r0 => k [] [dB r0] [])
noncomputable def F2 (N : Nat) {R : Type} : CfS R := uC (F1 N) 47 P2 (E2 N)
theorem F2_ok (N : Nat) {R : Type} : FOK (F2 N : CfS R) (runF T) :=
  uC_ok (F1_ok N) (H := noH) (Lp := noL) (X := noX) (rp := []) (ver := c47) rfl (LOK0 (by kernel_rfl)) (fun x k => by kernel_rfl)
def arith_unless (N : Nat) {R : Type} (a0 : Bool) (a1 : Int) (k0 : Int → Option R) : Option R := (bif a0 then (k0 0) else (k0 a1))
def P3 : AP := ⟨[pB, pI], []⟩
def E3 (N : Nat) {R : Type} (x : P3.den) (k : KK R) : Option R := arith_unless N x.1.1 x.1.2.1 (fun r0 => k [] [dI r0] [])
noncomputable def F3 (N : Nat) {R : Type} : CfS R := uC (F2 N) 44 P3 (E3 N)
theorem F3_ok (N : Nat) {R : Type} : FOK (F3 N : CfS R) (runF T) :=
  uC_ok (F2_ok N) (H := noH) (Lp := noL) (X := noX) (rp := []) (ver := c44) rfl (LOK0 (by kernel_rfl)) (fun x k => by kernel_rfl)
def arith_first_l0 (N : Nat) {R : Type} (k0 : Int → Option R) (k1 : Option R) : Nat → List Int → Int → Int → Option R
  | 0, _, _, _ => none
  | n + 1, b0, b1, b2 => (bif decide (b2 < b1) then ((at? b0 b2).bind fun x1 => (bif decide (x1 ≠ 0) then (k0 x1) else (arith_first_l0 N k0 k1 n b0 b1 (w64 (b2 + 1))))) else k1)
def P4_l0 : SP := ⟨[(5, pL [hI]), (6, pI), (7, pI)], []⟩
def E4_l0 (N : Nat) {R : Type} (n : Nat) (x : P4_l0.den) (k : KS R) : Option R := arith_first_l0 N (fun r0 => k .ret ⟨[(2, dI r0)], []⟩) (k (.ex 0) ⟨[], []⟩) n x.1.1 x.1.2.1 x.1.2.2.1
theorem O4_l0 (N : Nat) {R : Type} : LpG T P4_l0 (E4_l0 N (R := R)) [5, 6, 7] c43_l0 :=
  loop_ok (F3_ok N) (H := noH) (Lp := noL) (X := noX) (p := 26) (LOK0 (by kernel_rfl)) (fun _ _ => rfl) (fun n x k => by kernel_rfl)
noncomputable def L4_1 (N : Nat) {R : Type} : LpS R := updL noL 26 (lent' P4_l0 (E4_l0 N N))
def arith_first (N : Nat) {R : Type} (a0 : List Int) (k0 : Int → Option R) : Option R := (arith_first_l0 N k0 (k0 0) N a0 ((a0.length : Nat) : Int) 0)
def P4 : AP := ⟨[pL [hI]], []⟩
def E4 (N : Nat) {R : Type} (x : P4.den) (k : KK R) : Option R := arith_first N x.1.1 (fun r0 => k [] [dI r0] [])
noncomputable def F4 (N : Nat) {R : Type} : CfS R := uC (F3 N) 43 P4 (E4 N)
theorem F4_ok (N : Nat) {R : Type} : FOK (F4 N : CfS R) (runF T) :=
  uC_ok (F3_ok N) (H := noH) (Lp := (L4_1 N)) (X := noX) (rp := []) (ver := c43) rfl (LOK_of (l := [(26, [5, 6, 7], c43_l0)]) (by kernel_rfl) ⟨(updL_ok (O4_l0 N N)), trivial⟩) (fun x k => by kernel_rfl)
def H5 : Nat → Option (List Sh) := fun n => if n = 23000 then some [hI] else none
def arith_CheckForm (N : Nat) {R : Type} (a0 : Int) (a1 : Int) (a2 : Int) (a3 : Int) (k0 : Int → Option R) : Option R := (arith_within N a0 2 16 (fun y1 => (arith_unless N y1 25 (fun y2 => (arith_within N a1 0 (w64 (a0 - 1)) (fun y3 => (arith_unless N y3 2 (fun y4 => (arith_within N a2 0 2 (fun y5 => (bif y5 then (arith_within N a3 0 1 (fun y6 => (arith_unless N y6 15 (fun y7 => (arith_first N [y2, y4, y7] k0))))) else (arith_unless N false 15 (fun y9 => (arith_first N [y2, y4, y9] k0))))))))))))))
def P5 : AP := ⟨[.agg [pI, pI, pI, pI]], []⟩
def E5 (N : Nat) {R : Type} (x : P5.den) (k : KK R) : Option R := arith_CheckForm N x.1.1.1 x.1.1.2.1 x.1.1.2.2.1 x.1.1.2.2.2.1 (fun r0 => k [] [dI r0] [])
noncomputable def F5 (N : Nat) {R : Type} : CfS R := uC (F4 N) 100 P5 (E5 N)
theorem F5_ok (N : Nat) {R : Type} : FOK (F5 N : CfS R) (runF T) :=
  uC_ok (F4_ok N) (H := H5) (Lp := noL) (X := noX) (rp := []) (ver := c100) rfl (LOK0 (by kernel_rfl)) (fun x k => by kernel_rfl)
def arith_form_size (N : Nat) {R : Type} (a0 : Int) (a1 : Int) (a2 : Int) (a3 : Int) (k0 : Int → Option R) : Option R := (bif decide (a0 < 0) then none else (k0 (shl' .i64 1 a0)))
def P6 : AP := ⟨[.agg [pI, pI, pI, pI]], []⟩
def E6 (N : Nat) {R : Type} (x : P6.den) (k : KK R) : Option R := arith_form_size N x.1.1.1 x.1.1.2.1 x.1.1.2.2.1 x.1.1.2.2.2.1 (fun r0 => k [] [dI r0] [])
noncomputable def F6 (N : Nat) {R : Type} : CfS R := uC (F5 N) 114 P6 (E6 N)
theorem F6_ok (N : Nat) {R : Type} : FOK (F6 N : CfS R) (runF T) :=
  uC_ok (F5_ok N) (H := noH) (Lp := noL) (X := noX) (rp := []) (ver := c114) rfl (LOK0 (by kernel_rfl)) (fun x k => by kernel_rfl)
def arith_form_valuesErr_c1 (N : Nat) {R : Type} (a0 : Int) (a1 : Int) (a2 : Int) (a3 : Int) (a4 : Int) (k0 : Bool → Int → Int → Int → Int → Option R) : Option R := (arith_form_size N a1 a2 a3 a4 (fun y1 => (arith_within N a0 0 (w64 (y1 - 1)) (fun y2 => (k0 y2 a1 a2 a3 a4)))))
def P7 : AP := ⟨[pI, .ptr 0 0], [(0, .box [pI, pI, pI, pI])]⟩
def E7 (N : Nat) {R : Type} (x : P7.den) (k : KK R) : Option R := arith_form_valuesErr_c1 N x.1.1 x.2.1.1 x.2.1.2.1 x.2.1.2.2.1 x.2.1.2.2.2.1 (fun r0 r1 r2 r3 r4 => k [0] [dB r0] [(0, .box [dI r1, dI r2, dI r3, dI r4])])
noncomputable def F7 (N : Nat) {R : Type} : CfS R := uC (F6 N) 177 P7 (E7 N)
theorem F7_ok (N : Nat) {R : Type} : FOK (F7 N : CfS R) (runF T) :=
  uC_ok (F6_ok N) (H := noH) (Lp := noL) (X := noX) (rp := []) (ver := c177) rfl (LOK0 (by kernel_rfl)) (fun x k => by kernel_rfl)
def arith_each_int__c1_form_valuesErr_c1 (N : Nat) {R : Type} (a0 : Int) (a1 : Int) (a2 : Int) (a3 : Int) (a4 : Int) (k0 : Bool → Int → Int → Int → Int → Option R) : Option R := (arith_form_valuesErr_c1 N a0 a1 a2 a3 a4 (fun y1 y2 y3 y4 y5 => (k0 (!y1) y2 y3 y4 y5)))
def P8 : AP := ⟨[pI, .ptr 0 0], [(0, .box [.fn 177 [.ptr 1 0]]), (1, .box [pI, pI, pI, pI])]⟩
def E8 (N : Nat) {R : Type} (x : P8.den) (k : KK R) : Option R := arith_each_int__c1_form_valuesErr_c1 N x.1.1 x.2.2.1.1 x.2.2.1.2.1 x.2.2.1.2.2.1 x.2.2.1.2.2.2.1 (fun r0 r1 r2 r3 r4 => k [0, 1] [dB r0] [(0, .box [.fn 177 [.ptr 1 0]]), (1, .box [dI r1, dI r2, dI r3, dI r4])])
noncomputable def F8 (N : Nat) {R : Type} : CfS R := uC (F7 N) 86 P8 (E8 N)
theorem F8_ok (N : Nat) {R : Type} : FOK (F8 N : CfS R) (runF T) :=
  uC_ok (F7_ok N) (H := noH) (Lp := noL) (X := noX) (rp := []) (ver := c86) rfl (LOK0 (by kernel_rfl)) (fun x k => by kernel_rfl)
def slices_IndexFunc_Lint_int_form_valuesErr_c1_l0 (N : Nat) {R : Type} (k0 : Int → Int → Int → Int → Int → Option R) (k1 : Int → Int → Int → Int → Option R) : Nat → List Int → Int → Int → Int → Int → Int → Int → Option R
  | 0, _, _, _, _, _, _, _ => none
  | n + 1, b0, b1, b2, b3, b4, b5, b6 => (bif decide (b2 < b1) then ((at? b0 b2).bind fun x1 => (arith_each_int__c1_form_valuesErr_c1 N x1 b3 b4 b5 b6 (fun y2 y3 y4 y5 y6 => (bif y2 then (k0 b2 y3 y4 y5 y6) else (slices_IndexFunc_Lint_int_form_valuesErr_c1_l0 N k0 k1 n b0 b1 (w64 (b2 + 1)) y3 y4 y5 y6))))) else (k1 b3 b4 b5 b6))
def P9_l0 : SP := ⟨[(0, pL [hI]), (1, .fn 86 [.ptr 0 0]), (7, pI), (8, pI), (100001, .fn 86 [.ptr 0 0]), (100002, .ptr 1 0)], [(0, .box [.fn 177 [.ptr 1 0]]), (1, .box [pI, pI, pI, pI])]⟩
def E9_l0 (N : Nat) {R : Type} (n : Nat) (x : P9_l0.den) (k : KS R) : Option R := slices_IndexFunc_Lint_int_form_valuesErr_c1_l0 N (fun r0 r1 r2 r3 r4 => k .ret ⟨[(4, dI r0), (100001, .fn 86 [.ptr 0 0]), (100002, .ptr 1 0)], [(0, .box [.fn 177 [.ptr 1 0]]), (1, .box [dI r1, dI r2, dI r3, dI r4])]⟩) (fun r0 r1 r2 r3 => k (.ex 0) ⟨[(100001, .fn 86 [.ptr 0 0]), (100002, .ptr 1 0)], [(0, .box [.fn 177 [.ptr 1 0]]), (1, .box [dI r0, dI r1, dI r2, dI r3])]⟩) n x.1.1 x.1.2.2.1 x.1.2.2.2.1 x.2.2.1.1 x.2.2.1.2.1 x.2.2.1.2.2.1 x.2.2.1.2.2.2.1
theorem O9_l0 (N : Nat) {R : Type} : LpG T P9_l0 (E9_l0 N (R := R)) [0, 1, 7, 8] c116_l0 :=
  loop_ok (F8_ok N) (H := noH) (Lp := noL) (X := noX) (p := 26) (LOK0 (by kernel_rfl)) (fun _ _ => rfl) (fun n x k => by kernel_rfl)
noncomputable def L9_1 (N : Nat) {R : Type} : LpS R := updL noL 26 (lent' P9_l0 (E9_l0 N N))
def slices_IndexFunc_Lint_int_form_valuesErr_c1 (N : Nat) {R : Type} (a0 : List Int) (a1 : Int) (a2 : Int) (a3 : Int) (a4 : Int) (k0 : Int → Int → Int → Int → Int → Option R) : Option R := (slices_IndexFunc_Lint_int_form_valuesErr_c1_l0 N k0 (fun z12 z13 z14 z15 => (k0 (-1) z12 z13 z14 z15)) N a0 ((a0.length : Nat) : Int) 0 a1 a2 a3 a4)
def P9 : AP := ⟨[pL [hI], .fn 86 [.ptr 0 0]], [(0, .box [.fn 177 [.ptr 1 0]]), (1, .box [pI, pI, pI, pI])]⟩
def E9 (N : Nat) {R : Type} (x : P9.den) (k : KK R) : Option R := slices_IndexFunc_Lint_int_form_valuesErr_c1 N x.1.1 x.2.2.1.1 x.2.2.1.2.1 x.2.2.1.2.2.1 x.2.2.1.2.2.2.1 (fun r0 r1 r2 r3 r4 => k [0, 1] [dI r0] [(0, .box [.fn 177 [.ptr 1 0]]), (1, .box [dI r1, dI r2, dI r3, dI r4])])
noncomputable def F9 (N : Nat) {R : Type} : CfS R := uC (F8 N) 116 P9 (E9 N)
theorem F9_ok (N : Nat) {R : Type} : FOK (F9 N : CfS R) (runF T) :=
  uC_ok (F8_ok N) (H := noH) (Lp := (L9_1 N)) (X := noX) (rp := []) (ver := c116) rfl (LOK_of (l := [(26, [0, 1, 7, 8], c116_l0)]) (by kernel_rfl) ⟨(updL_ok (O9_l0 N N)), trivial⟩) (fun x k => by kernel_rfl)
def slices_ContainsFunc_Lint_int_form_valuesErr_c1 (N : Nat) {R : Type} (a0 : List Int) (a1 : Int) (a2 : Int) (a3 : Int) (a4 : Int) (k0 : Bool → Int → Int → Int → Int → Option R) : Option R := (slices_IndexFunc_Lint_int_form_valuesErr_c1 N a0 a1 a2 a3 a4 (fun y1 y2 y3 y4 y5 => (k0 (decide (0 ≤ y1)) y2 y3 y4 y5)))
def P10 : AP := ⟨[pL [hI], .fn 86 [.ptr 0 0]], [(0, .box [.fn 177 [.ptr 1 0]]), (1, .box [pI, pI, pI, pI])]⟩
def E10 (N : Nat) {R : Type} (x : P10.den) (k : KK R) : Option R := slices_ContainsFunc_Lint_int_form_valuesErr_c1 N x.1.1 x.2.2.1.1 x.2.2.1.2.1 x.2.2.1.2.2.1 x.2.2.1.2.2.2.1 (fun r0 r1 r2 r3 r4 => k [0, 1] [dB r0] [(0, .box [.fn 177 [.ptr 1 0]]), (1, .box [dI r1, dI r2, dI r3, dI r4])])
noncomputable def F10 (N : Nat) {R : Type} : CfS R := uC (F9 N) 85 P10 (E10 N)
theorem F10_ok (N : Nat) {R : Type} : FOK (F10 N : CfS R) (runF T) :=
  uC_ok (F9_ok N) (H := noH) (Lp := noL) (X := noX) (rp := []) (ver := c85) rfl (LOK0 (by kernel_rfl)) (fun x k => by kernel_rfl)
def arith_each_int_form_valuesErr_c1 (N : Nat) {R : Type} (a0 : List Int) (a1 : Int) (a2 : Int) (a3 : Int) (a4 : Int) (k0 : Bool → Int → Int → Int → Int → Option R) : Option R := (slices_ContainsFunc_Lint_int_form_valuesErr_c1 N a0 a1 a2 a3 a4 (fun y1 y2 y3 y4 y5 => (k0 (!y1) y2 y3 y4 y5)))
def P11 : AP := ⟨[pL [hI], .fn 177 [.ptr 0 0]], [(0, .box [pI, pI, pI, pI])]⟩
def E11 (N : Nat) {R : Type} (x : P11.den) (k : KK R) : Option R := arith_each_int_form_valuesErr_c1 N x.1.1 x.2.1.1 x.2.1.2.1 x.2.1.2.2.1 x.2.1.2.2.2.1 (fun r0 r1 r2 r3 r4 => k [0] [dB r0] [(0, .box [dI r1, dI r2, dI r3, dI r4])])
noncomputable def F11 (N : Nat) {R : Type} : CfS R := uC (F10 N) 45 P11 (E11 N)
theorem F11_ok (N : Nat) {R : Type} : FOK (F11 N : CfS R) (runF T) :=
  uC_ok (F10_ok N) (H := noH) (Lp := noL) (X := noX) (rp := []) (ver := c45) rfl (LOK0 (by kernel_rfl)) (fun x k => by kernel_rfl)
def arith_form_valuesErr (N : Nat) {R : Type} (a0 : Int) (a1 : Int) (a2 : Int) (a3 : Int) (a4 : List Int) (k0 : Int → Option R) : Option R := (arith_each_int_form_valuesErr_c1 N a4 a0 a1 a2 a3 (fun y1 y2 y3 y4 y5 => (arith_unless N y1 2 k0)))
def P12 : AP := ⟨[.agg [pI, pI, pI, pI], pL [hI]], []⟩
def E12 (N : Nat) {R : Type} (x : P12.den) (k : KK R) : Option R := arith_form_valuesErr N x.1.1.1 x.1.1.2.1 x.1.1.2.2.1 x.1.1.2.2.2.1 x.1.2.1 (fun r0 => k [] [dI r0] [])
noncomputable def F12 (N : Nat) {R : Type} : CfS R := uC (F11 N) 112 P12 (E12 N)
theorem F12_ok (N : Nat) {R : Type} : FOK (F12 N : CfS R) (runF T) :=
  uC_ok (F11_ok N) (H := noH) (Lp := noL) (X := noX) (rp := []) (ver := c112) rfl (LOK0 (by kernel_rfl)) (fun x k => by kernel_rfl)
def arith_opened (N : Nat) {R : Type} (a0 : Int) (a1 : Int) (a2 : Int) (a3 : Int) (a4 : List Int) (k0 : Int → Int → Int → Int → Int → Option R) : Option R := (arith_CheckForm N a0 a1 a2 a3 (fun y1 => (bif decide (y1 ≠ 0) then (k0 a0 a1 a2 a3 y1) else (arith_form_valuesErr N a0 a1 a2 a3 a4 (fun y2 => (k0 a0 a1 a2 a3 y2))))))
def P13 : AP := ⟨[.agg [pI, pI, pI, pI], pL [hI]], []⟩
def E13 (N : Nat) {R : Type} (x : P13.den) (k : KK R) : Option R := arith_opened N x.1.1.1 x.1.1.2.1 x.1.1.2.2.1 x.1.1.2.2.2.1 x.1.2.1 (fun r0 r1 r2 r3 r4 => k [] [.agg [dI r0, dI r1, dI r2, dI r3], dI r4] [])
noncomputable def F13 (N : Nat) {R : Type} : CfS R := uC (F12 N) 79 P13 (E13 N)
theorem F13_ok (N : Nat) {R : Type} : FOK (F13 N : CfS R) (runF T) :=
  uC_ok (F12_ok N) (H := noH) (Lp := noL) (X := noX) (rp := []) (ver := c79) rfl (LOK0 (by kernel_rfl)) (fun x k => by kernel_rfl)
def arith_form_signed (N : Nat) {R : Type} (a0 : Int) (a1 : Int) (a2 : Int) (a3 : Int) (a4 : Int) (k0 : Int → Option R) : Option R := (arith_form_size N a0 a1 a2 a3 (fun y1 => (bif decide ((w64 (Int.tdiv y1 2)) ≤ a4) then (arith_form_size N a0 a1 a2 a3 (fun y2 => (k0 (w64 (a4 - y2))))) else (k0 a4))))
def P14 : AP := ⟨[.agg [pI, pI, pI, pI], pI], []⟩
def E14 (N : Nat) {R : Type} (x : P14.den) (k : KK R) : Option R := arith_form_signed N x.1.1.1 x.1.1.2.1 x.1.1.2.2.1 x.1.1.2.2.2.1 x.1.2.1 (fun r0 => k [] [dI r0] [])
noncomputable def F14 (N : Nat) {R : Type} : CfS R := uC (F13 N) 81 P14 (E14 N)
theorem F14_ok (N : Nat) {R : Type} : FOK (F14 N : CfS R) (runF T) :=
  uC_ok (F13_ok N) (H := noH) (Lp := noL) (X := noX) (rp := []) (ver := c81) rfl (LOK0 (by kernel_rfl)) (fun x k => by kernel_rfl)
def arith_form_one (N : Nat) {R : Type} (a0 : Int) (a1 : Int) (a2 : Int) (a3 : Int) (k0 : Int → Option R) : Option R := (bif decide (a1 < 0) then none else (k0 (shl' .i64 1 a1)))
def P15 : AP := ⟨[.agg [pI, pI, pI, pI]], []⟩
def E15 (N : Nat) {R : Type} (x : P15.den) (k : KK R) : Option R := arith_form_one N x.1.1.1 x.1.1.2.1 x.1.1.2.2.1 x.1.1.2.2.2.1 (fun r0 => k [] [dI r0] [])
noncomputable def F15 (N : Nat) {R : Type} : CfS R := uC (F14 N) 82 P15 (E15 N)
theorem F15_ok (N : Nat) {R : Type} : FOK (F15 N : CfS R) (runF T) :=
  uC_ok (F14_ok N) (H := noH) (Lp := noL) (X := noX) (rp := []) (ver := c82) rfl (LOK0 (by kernel_rfl)) (fun x k => by kernel_rfl)
def arith_form_rounded_j0 (N : Nat) {R : Type} (k0 : Int → Option R) (b0 : Int) (b1 : Int) (b2 : Int) (b3 : Int) (b4 : Int) (b5 : Int) (b6 : Int) : Option R := (bif decide (b5 = 1) then (bif decide (b1 < (w64 (2 * (w64 (b0 - (w64 (b2 * b1))))))) then (k0 (w64 (b2 + 1))) else (bif decide ((w64 (2 * (w64 (b0 - (w64 (b2 * b1)))))) = b1) then (bif decide ((Int.tmod b2 2) ≠ 0) then (k0 (w64 (b2 + 1))) else (bif decide (b5 = 2) then (bif decide (b0 < 0) then (bif decide (0 < (w64 (b0 - (w64 (b2 * b1))))) then (k0 (w64 (b2 + 1))) else (k0 b2)) else (k0 b2)) else (k0 b2))) else (bif decide (b5 = 2) then (bif decide (b0 < 0) then (bif decide (0 < (w64 (b0 - (w64 (b2 * b1))))) then (k0 (w64 (b2 + 1))) else (k0 b2)) else (k0 b2)) else (k0 b2)))) else (bif decide (b5 = 2) then (bif decide (b0 < 0) then (bif decide (0 < (w64 (b0 - (w64 (b2 * b1))))) then (k0 (w64 (b2 + 1))) else (k0 b2)) else (k0 b2)) else (k0 b2)))
def P16_j0 : SP := ⟨[(1, pI), (2, pI), (3, .ptr 0 0), (7, pI)], [(0, .box [pI, pI, pI, pI])]⟩
def E16_j0 (N : Nat) {R : Type} (n : Nat) (x : P16_j0.den) (k : KS R) : Option R := match n with
  | 0 => none
  | _ + 1 => arith_form_rounded_j0 N (fun r0 => k .ret ⟨[(6, dI r0)], []⟩) x.1.1 x.1.2.1 x.1.2.2.2.1 x.2.1.1 x.2.1.2.1 x.2.1.2.2.1 x.2.1.2.2.2.1
theorem O16_j0 (N : Nat) {R : Type} : LpG T P16_j0 (E16_j0 N (R := R)) [1, 2, 3, 7] c113_j0 :=
  loop_ok (F15_ok N) (H := noH) (Lp := noL) (X := noX) (p := 30) (LOK0 (by kernel_rfl)) (fun _ _ => rfl) (fun n x k => by kernel_rfl)
noncomputable def L16_1 (N : Nat) {R : Type} : LpS R := updL noL 30 (lent' P16_j0 (E16_j0 N 1))
def arith_form_rounded (N : Nat) {R : Type} (a0 : Int) (a1 : Int) (a2 : Int) (a3 : Int) (a4 : Int) (a5 : Int) (k0 : Int → Option R) : Option R := (bif decide (a5 = 0) then none else (bif decide (a5 = 0) then none else (bif decide ((Int.tmod a4 a5) < 0) then (arith_form_rounded_j0 N k0 a4 a5 (w64 ((w64 (Int.tdiv a4 a5)) - 1)) a0 a1 a2 a3) else (arith_form_rounded_j0 N k0 a4 a5 (w64 (Int.tdiv a4 a5)) a0 a1 a2 a3))))
def P16 : AP := ⟨[.agg [pI, pI, pI, pI], pI, pI], []⟩
def E16 (N : Nat) {R : Type} (x : P16.den) (k : KK R) : Option R := arith_form_rounded N x.1.1.1 x.1.1.2.1 x.1.1.2.2.1 x.1.1.2.2.2.1 x.1.2.1 x.1.2.2.1 (fun r0 => k [] [dI r0] [])
noncomputable def F16 (N : Nat) {R : Type} : CfS R := uC (F15 N) 113 P16 (E16 N)
theorem F16_ok (N : Nat) {R : Type} : FOK (F16 N : CfS R) (runF T) :=
  uC_ok (F15_ok N) (H := noH) (Lp := (L16_1 N)) (X := noX) (rp := []) (ver := c113) rfl (LOK_of (l := [(30, [1, 2, 3, 7], c113_j0)]) (by kernel_rfl) ⟨(updL_ok (O16_j0 N 1)), trivial⟩) (fun x k => by kernel_rfl)
def arith_form_fixed (N : Nat) {R : Type} (a0 : Int) (a1 : Int) (a2 : Int) (a3 : Int) (a4 : Int) (a5 : Int) (k0 : Int → Option R) : Option R := (arith_form_rounded N a0 a1 a2 a3 a4 a5 (fun y1 => (arith_form_size N a0 a1 a2 a3 (fun y2 => (bif decide (a3 = 1) then (arith_form_size N a0 a1 a2 a3 (fun y3 => (k0 (andI .i64 (max (w64 (0 - (w64 (Int.tdiv y2 2)))) (min (w64 ((w64 (Int.tdiv y2 2)) - 1)) y1)) (w64 (y3 - 1)))))) else (arith_form_size N a0 a1 a2 a3 (fun y4 => (k0 (andI .i64 y1 (w64 (y4 - 1)))))))))))
def P17 : AP := ⟨[.agg [pI, pI, pI, pI], pI, pI], []⟩
def E17 (N : Nat) {R : Type} (x : P17.den) (k : KK R) : Option R := arith_form_fixed N x.1.1.1 x.1.1.2.1 x.1.1.2.2.1 x.1.1.2.2.2.1 x.1.2.1 x.1.2.2.1 (fun r0 => k [] [dI r0] [])
noncomputable def F17 (N : Nat) {R : Type} : CfS R := uC (F16 N) 80 P17 (E17 N)
theorem F17_ok (N : Nat) {R : Type} : FOK (F17 N : CfS R) (runF T) :=
  uC_ok (F16_ok N) (H := noH) (Lp := noL) (X := noX) (rp := []) (ver := c80) rfl (LOK0 (by kernel_rfl)) (fun x k => by kernel_rfl)
def H18 : Nat → Option (List Sh) := fun n => if n = 7000 then some [hI] else none
def arith_MulFixed (N : Nat) {R : Type} (a0 : Int) (a1 : Int) (a2 : Int) (a3 : Int) (a4 : Int) (a5 : Int) (k0 : Int → Int → Option R) : Option R := (arith_opened N a2 a3 a4 a5 [a0, a1] (fun y1 y2 y3 y4 y5 => (bif decide (y5 ≠ 0) then (k0 0 y5) else (arith_form_signed N y1 y2 y3 y4 a0 (fun y6 => (arith_form_signed N y1 y2 y3 y4 a1 (fun y7 => (arith_form_one N y1 y2 y3 y4 (fun y8 => (arith_form_fixed N y1 y2 y3 y4 (w64 (y6 * y7)) y8 (fun y9 => (k0 y9 0))))))))))))
def P18 : AP := ⟨[pI, pI, .agg [pI, pI, pI, pI]], []⟩
def E18 (N : Nat) {R : Type} (x : P18.den) (k : KK R) : Option R := arith_MulFixed N x.1.1 x.1.2.1 x.1.2.2.1.1 x.1.2.2.1.2.1 x.1.2.2.1.2.2.1 x.1.2.2.1.2.2.2.1 (fun r0 r1 => k [] [dI r0, dI r1] [])
noncomputable def F18 (N : Nat) {R : Type} : CfS R := uC (F17 N) 37 P18 (E18 N)
theorem F18_ok (N : Nat) {R : Type} : FOK (F18 N : CfS R) (runF T) :=
  uC_ok (F17_ok N) (H := H18) (Lp := noL) (X := noX) (rp := []) (ver := c37) rfl (LOK0 (by kernel_rfl)) (fun x k => by kernel_rfl)
def bits_within (N : Nat) {R : Type} (a0 : Int) (a1 : Int) (a2 : Int) (k0 : Bool → Option R) : Option R := (bif decide (a1 ≤ a0) then (k0 (decide (a0 ≤ a2))) else (k0 false))
def P19 : AP := ⟨[pI, pI, pI], []⟩
def E19 (N : Nat) {R : Type} (x : P19.den) (k : KK R) : Option R := bits_within N x.1.1 x.1.2.1 x.1.2.2.1 (fun r0 => k [] [dB r0] [])
noncomputable def F19 (N : Nat) {R : Type} : CfS R := uC (F18 N) 77 P19 (E19 N)
theorem F19_ok (N : Nat) {R : Type} : FOK (F19 N : CfS R) (runF T) :=
  uC_ok (F18_ok N) (H := noH) (Lp := noL) (X := noX) (rp := []) (ver := c77) rfl (LOK0 (by kernel_rfl)) (fun x k => by kernel_rfl)
def bits_isWidth (N : Nat) {R : Type} (a0 : Int) (k0 : Bool → Option R) : Option R := (bits_within N a0 1 16 k0)
def P20 : AP := ⟨[pI], []⟩
def E20 (N : Nat) {R : Type} (x : P20.den) (k : KK R) : Option R := bits_isWidth N x.1.1 (fun r0 => k [] [dB r0] [])
noncomputable def F20 (N : Nat) {R : Type} : CfS R := uC (F19 N) 78 P20 (E20 N)
theorem F20_ok (N : Nat) {R : Type} : FOK (F20 N : CfS R) (runF T) :=
  uC_ok (F19_ok N) (H := noH) (Lp := noL) (X := noX) (rp := []) (ver := c78) rfl (LOK0 (by kernel_rfl)) (fun x k => by kernel_rfl)
def bits_unless (N : Nat) {R : Type} (a0 : Bool) (a1 : Int) (k0 : Int → Option R) : Option R := (bif a0 then (k0 0) else (k0 a1))
def P21 : AP := ⟨[pB, pI], []⟩
def E21 (N : Nat) {R : Type} (x : P21.den) (k : KK R) : Option R := bits_unless N x.1.1 x.1.2.1 (fun r0 => k [] [dI r0] [])
noncomputable def F21 (N : Nat) {R : Type} : CfS R := uC (F20 N) 71 P21 (E21 N)
theorem F21_ok (N : Nat) {R : Type} : FOK (F21 N : CfS R) (runF T) :=
  uC_ok (F20_ok N) (H := noH) (Lp := noL) (X := noX) (rp := []) (ver := c71) rfl (LOK0 (by kernel_rfl)) (fun x k => by kernel_rfl)
def bits_CheckBits (N : Nat) {R : Type} (a0 : Int) (a1 : Int) (k0 : Int → Option R) : Option R := (bits_isWidth N a0 (fun y1 => (bif (!y1) then (k0 25) else (bif decide (a0 < 0) then none else (bits_within N a1 0 (w64 ((shl' .i64 1 a0) - 1)) (fun y2 => (bits_unless N y2 2 k0)))))))
def P22 : AP := ⟨[.agg [pI, pI]], []⟩
def E22 (N : Nat) {R : Type} (x : P22.den) (k : KK R) : Option R := bits_CheckBits N x.1.1.1 x.1.1.2.1 (fun r0 => k [] [dI r0] [])
noncomputable def F22 (N : Nat) {R : Type} : CfS R := uC (F21 N) 75 P22 (E22 N)
theorem F22_ok (N : Nat) {R : Type} : FOK (F22 N : CfS R) (runF T) :=
  uC_ok (F21_ok N) (H := noH) (Lp := noL) (X := noX) (rp := []) (ver := c75) rfl (LOK0 (by kernel_rfl)) (fun x k => by kernel_rfl)
def bits_first_l0 (N : Nat) {R : Type} (k0 : Int → Option R) (k1 : Option R) : Nat → List Int → Int → Int → Option R
  | 0, _, _, _ => none
  | n + 1, b0, b1, b2 => (bif decide (b2 < b1) then ((at? b0 b2).bind fun x1 => (bif decide (x1 ≠ 0) then (k0 x1) else (bits_first_l0 N k0 k1 n b0 b1 (w64 (b2 + 1))))) else k1)
def P23_l0 : SP := ⟨[(5, pL [hI]), (6, pI), (7, pI)], []⟩
def E23_l0 (N : Nat) {R : Type} (n : Nat) (x : P23_l0.den) (k : KS R) : Option R := bits_first_l0 N (fun r0 => k .ret ⟨[(2, dI r0)], []⟩) (k (.ex 0) ⟨[], []⟩) n x.1.1 x.1.2.1 x.1.2.2.1
theorem O23_l0 (N : Nat) {R : Type} : LpG T P23_l0 (E23_l0 N (R := R)) [5, 6, 7] c69_l0 :=
  loop_ok (F22_ok N) (H := noH) (Lp := noL) (X := noX) (p := 26) (LOK0 (by kernel_rfl)) (fun _ _ => rfl) (fun n x k => by kernel_rfl)
noncomputable def L23_1 (N : Nat) {R : Type} : LpS R := updL noL 26 (lent' P23_l0 (E23_l0 N N))
def bits_first (N : Nat) {R : Type} (a0 : List Int) (k0 : Int → Option R) : Option R := (bits_first_l0 N k0 (k0 0) N a0 ((a0.length : Nat) : Int) 0)
def P23 : AP := ⟨[pL [hI]], []⟩
def E23 (N : Nat) {R : Type} (x : P23.den) (k : KK R) : Option R := bits_first N x.1.1 (fun r0 => k [] [dI r0] [])
noncomputable def F23 (N : Nat) {R : Type} : CfS R := uC (F22 N) 69 P23 (E23 N)
theorem F23_ok (N : Nat) {R : Type} : FOK (F23 N : CfS R) (runF T) :=
  uC_ok (F22_ok N) (H := noH) (Lp := (L23_1 N)) (X := noX) (rp := []) (ver := c69) rfl (LOK_of (l := [(26, [5, 6, 7], c69_l0)]) (by kernel_rfl) ⟨(updL_ok (O23_l0 N N)), trivial⟩) (fun x k => by kernel_rfl)
def bits_of (N : Nat) {R : Type} (a0 : Int) (a1 : Int) (k0 : Int → Int → Option R) : Option R := (bif decide (a1 < 0) then none else (k0 a1 (andI .i64 a0 (w64 ((shl' .i64 1 a1) - 1)))))
def P24 : AP := ⟨[pI, pI], []⟩
def E24 (N : Nat) {R : Type} (x : P24.den) (k : KK R) : Option R := bits_of N x.1.1 x.1.2.1 (fun r0 r1 => k [] [.agg [dI r0, dI r1]] [])
noncomputable def F24 (N : Nat) {R : Type} : CfS R := uC (F23 N) 76 P24 (E24 N)
theorem F24_ok (N : Nat) {R : Type} : FOK (F24 N : CfS R) (runF T) :=
  uC_ok (F23_ok N) (H := noH) (Lp := noL) (X := noX) (rp := []) (ver := c76) rfl (LOK0 (by kernel_rfl)) (fun x k => by kernel_rfl)
def H25 : Nat → Option (List Sh) := fun n => if n = 16000 then some [hI] else none
def bits_MulWide (N : Nat) {R : Type} (a0 : Int) (a1 : Int) (a2 : Int) (a3 : Int) (k0 : Int → Int → Int → Option R) : Option R := (bits_CheckBits N a0 a1 (fun y1 => (bits_CheckBits N a2 a3 (fun y2 => (bits_unless N (decide ((w64 (a0 + a2)) ≤ 16)) 8 (fun y3 => (bits_first N [y1, y2, y3] (fun y4 => (bif decide (y4 ≠ 0) then (k0 0 0 y4) else (bits_of N (w64 (a1 * a3)) (w64 (a0 + a2)) (fun y5 y6 => (k0 y5 y6 0))))))))))))
def P25 : AP := ⟨[.agg [pI, pI], .agg [pI, pI]], []⟩
def E25 (N : Nat) {R : Type} (x : P25.den) (k : KK R) : Option R := bits_MulWide N x.1.1.1 x.1.1.2.1 x.1.2.1.1 x.1.2.1.2.1 (fun r0 r1 r2 => k [] [.agg [dI r0, dI r1], dI r2] [])
noncomputable def F25 (N : Nat) {R : Type} : CfS R := uC (F24 N) 34 P25 (E25 N)
theorem F25_ok (N : Nat) {R : Type} : FOK (F25 N : CfS R) (runF T) :=
  uC_ok (F24_ok N) (H := H25) (Lp := noL) (X := noX) (rp := []) (ver := c34) rfl (LOK0 (by kernel_rfl)) (fun x k => by kernel_rfl)
def arith_filterErr_c1 (N : Nat) {R : Type} (a0 : Int) (k0 : Bool → Option R) : Option R := (arith_within N a0 (-7) 7 k0)
def P26 : AP := ⟨[pI], []⟩
def E26 (N : Nat) {R : Type} (x : P26.den) (k : KK R) : Option R := arith_filterErr_c1 N x.1.1 (fun r0 => k [] [dB r0] [])
noncomputable def F26 (N : Nat) {R : Type} : CfS R := uC (F25 N) 83 P26 (E26 N)
theorem F26_ok (N : Nat) {R : Type} : FOK (F26 N : CfS R) (runF T) :=
  uC_ok (F25_ok N) (H := noH) (Lp := noL) (X := noX) (rp := []) (ver := c83) rfl (LOK0 (by kernel_rfl)) (fun x k => by kernel_rfl)
def arith_each_int__c1_filterErr_c1 (N : Nat) {R : Type} (a0 : Int) (k0 : Bool → Option R) : Option R := (arith_filterErr_c1 N a0 (fun y1 => (k0 (!y1))))
def P27 : AP := ⟨[pI, .ptr 0 0], [(0, .box [.p (.fn 83 [])])]⟩
def E27 (N : Nat) {R : Type} (x : P27.den) (k : KK R) : Option R := arith_each_int__c1_filterErr_c1 N x.1.1 (fun r0 => k [0] [dB r0] [(0, .box [.p (.fn 83 [])])])
noncomputable def F27 (N : Nat) {R : Type} : CfS R := uC (F26 N) 86 P27 (E27 N)
theorem F27_ok (N : Nat) {R : Type} : FOK (F27 N : CfS R) (runF T) :=
  uC_ok (F26_ok N) (H := noH) (Lp := noL) (X := noX) (rp := []) (ver := c86) rfl (LOK0 (by kernel_rfl)) (fun x k => by kernel_rfl)
def slices_IndexFunc_Lint_int_filterErr_c1_l0 (N : Nat) {R : Type} (k0 : Int → Option R) (k1 : Option R) : Nat → List Int → Int → Int → Option R
  | 0, _, _, _ => none
  | n + 1, b0, b1, b2 => (bif decide (b2 < b1) then ((at? b0 b2).bind fun x1 => (arith_each_int__c1_filterErr_c1 N x1 (fun y2 => (bif y2 then (k0 b2) else (slices_IndexFunc_Lint_int_filterErr_c1_l0 N k0 k1 n b0 b1 (w64 (b2 + 1))))))) else k1)
def P28_l0 : SP := ⟨[(0, pL [hI]), (1, .fn 86 [.ptr 0 0]), (7, pI), (8, pI), (100001, .fn 86 [.ptr 0 0])], [(0, .box [.p (.fn 83 [])])]⟩
def E28_l0 (N : Nat) {R : Type} (n : Nat) (x : P28_l0.den) (k : KS R) : Option R := slices_IndexFunc_Lint_int_filterErr_c1_l0 N (fun r0 => k .ret ⟨[(4, dI r0), (100001, .fn 86 [.ptr 0 0])], [(0, .box [.p (.fn 83 [])])]⟩) (k (.ex 0) ⟨[(100001, .fn 86 [.ptr 0 0])], [(0, .box [.p (.fn 83 [])])]⟩) n x.1.1 x.1.2.2.1 x.1.2.2.2.1
theorem O28_l0 (N : Nat) {R : Type} : LpG T P28_l0 (E28_l0 N (R := R)) [0, 1, 7, 8] c116_l0 :=
  loop_ok (F27_ok N) (H := noH) (Lp := noL) (X := noX) (p := 26) (LOK0 (by kernel_rfl)) (fun _ _ => rfl) (fun n x k => by kernel_rfl)
noncomputable def L28_1 (N : Nat) {R : Type} : LpS R := updL noL 26 (lent' P28_l0 (E28_l0 N N))
def slices_IndexFunc_Lint_int_filterErr_c1 (N : Nat) {R : Type} (a0 : List Int) (k0 : Int → Option R) : Option R := (slices_IndexFunc_Lint_int_filterErr_c1_l0 N k0 (k0 (-1)) N a0 ((a0.length : Nat) : Int) 0)
def P28 : AP := ⟨[pL [hI], .fn 86 [.ptr 0 0]], [(0, .box [.p (.fn 83 [])])]⟩
def E28 (N : Nat) {R : Type} (x : P28.den) (k : KK R) : Option R := slices_IndexFunc_Lint_int_filterErr_c1 N x.1.1 (fun r0 => k [0] [dI r0] [(0, .box [.p (.fn 83 [])])])
noncomputable def F28 (N : Nat) {R : Type} : CfS R := uC (F27 N) 116 P28 (E28 N)
theorem F28_ok (N : Nat) {R : Type} : FOK (F28 N : CfS R) (runF T) :=
  uC_ok (F27_ok N) (H := noH) (Lp := (L28_1 N)) (X := noX) (rp := []) (ver := c116) rfl (LOK_of (l := [(26, [0, 1, 7, 8], c116_l0)]) (by kernel_rfl) ⟨(updL_ok (O28_l0 N N)), trivial⟩) (fun x k => by kernel_rfl)
def slices_ContainsFunc_Lint_int_filterErr_c1 (N : Nat) {R : Type} (a0 : List Int) (k0 : Bool → Option R) : Option R := (slices_IndexFunc_Lint_int_filterErr_c1 N a0 (fun y1 => (k0 (decide (0 ≤ y1)))))
def P29 : AP := ⟨[pL [hI], .fn 86 [.ptr 0 0]], [(0, .box [.p (.fn 83 [])])]⟩
def E29 (N : Nat) {R : Type} (x : P29.den) (k : KK R) : Option R := slices_ContainsFunc_Lint_int_filterErr_c1 N x.1.1 (fun r0 => k [0] [dB r0] [(0, .box [.p (.fn 83 [])])])
noncomputable def F29 (N : Nat) {R : Type} : CfS R := uC (F28 N) 85 P29 (E29 N)
theorem F29_ok (N : Nat) {R : Type} : FOK (F29 N : CfS R) (runF T) :=
  uC_ok (F28_ok N) (H := noH) (Lp := noL) (X := noX) (rp := []) (ver := c85) rfl (LOK0 (by kernel_rfl)) (fun x k => by kernel_rfl)
def arith_each_int_filterErr_c1 (N : Nat) {R : Type} (a0 : List Int) (k0 : Bool → Option R) : Option R := (slices_ContainsFunc_Lint_int_filterErr_c1 N a0 (fun y1 => (k0 (!y1))))
def P30 : AP := ⟨[pL [hI], .p (.fn 83 [])], []⟩
def E30 (N : Nat) {R : Type} (x : P30.den) (k : KK R) : Option R := arith_each_int_filterErr_c1 N x.1.1 (fun r0 => k [] [dB r0] [])
noncomputable def F30 (N : Nat) {R : Type} : CfS R := uC (F29 N) 45 P30 (E30 N)
theorem F30_ok (N : Nat) {R : Type} : FOK (F30 N : CfS R) (runF T) :=
  uC_ok (F29_ok N) (H := noH) (Lp := noL) (X := noX) (rp := []) (ver := c45) rfl (LOK0 (by kernel_rfl)) (fun x k => by kernel_rfl)
def H31 : Nat → Option (List Sh) := fun n => if n = 28000 then some [hI] else none
def arith_filterErr (N : Nat) {R : Type} (a0 : List Int) (a1 : Int) (a2 : Int) (k0 : Int → Option R) : Option R := (arith_unless N (decide (0 < ((a0.length : Nat) : Int))) 10 (fun y1 => (arith_unless N (decide (((a0.length : Nat) : Int) ≤ 4)) 8 (fun y2 => (arith_each_int_filterErr_c1 N a0 (fun y3 => (arith_unless N y3 2 (fun y4 => (arith_within N a1 1 8 (fun y5 => (bif y5 then (arith_within N a2 a1 16 (fun y6 => (arith_unless N y6 25 (fun y7 => (arith_first N [y1, y2, y4, y7] k0))))) else (arith_unless N false 25 (fun y9 => (arith_first N [y1, y2, y4, y9] k0))))))))))))))
def P31 : AP := ⟨[.agg [pL [hI], pI, pI]], []⟩
def E31 (N : Nat) {R : Type} (x : P31.den) (k : KK R) : Option R := arith_filterErr N x.1.1.1 x.1.1.2.1 x.1.1.2.2.1 (fun r0 => k [] [dI r0] [])
noncomputable def F31 (N : Nat) {R : Type} : CfS R := uC (F30 N) 39 P31 (E31 N)
theorem F31_ok (N : Nat) {R : Type} : FOK (F31 N : CfS R) (runF T) :=
  uC_ok (F30_ok N) (H := H31) (Lp := noL) (X := noX) (rp := []) (ver := c39) rfl (LOK0 (by kernel_rfl)) (fun x k => by kernel_rfl)
def H32 : Nat → Option (List Sh) := fun n => if n = 6000 then some [hI, hI, .sl [hI], hI] else none
def arith_FilterOf_c1 (N : Nat) {R : Type} (a0 : Int) (a1 : Int) (a2 : List Int) (a3 : Int) (a4 : ByteArray) (a5 : zt5) (k0 : Int → ByteArray → zt5 → zt2 → Option R) : Option R := (k0 0 a4 a5 [(a0, a1, a2, a3)])
def P32 : AP := ⟨[.agg [pI, pI, pL [hI], pI], .ptr 0 0], [(0, .box [pS, .own 1, .own 2, .own 3, .own 4, .own 5, .own 6]), (1, .arr [.s, hI]), (2, .em 5), (3, .em 4), (4, .em 3), (5, .em 2), (6, .em 2)]⟩
def E32 (N : Nat) {R : Type} (x : P32.den) (k : KK R) : Option R := arith_FilterOf_c1 N x.1.1.1 x.1.1.2.1 x.1.1.2.2.1 x.1.1.2.2.2.1 x.2.1.1 x.2.2.1 (fun r0 r1 r2 r3 => k [0] [dI r0] [(0, .box [dS r1, .own 1, .own 2, .own 3, .own 4, .own 5, .own 6]), (1, .arr (.t [.s, hI] r2)), (2, .arr (.e 5)), (3, .arr (.t zs1 r3)), (4, .arr (.e 3)), (5, .arr (.e 2)), (6, .arr (.e 2))])
noncomputable def F32 (N : Nat) {R : Type} : CfS R := uC (F31 N) 40 P32 (E32 N)
theorem F32_ok (N : Nat) {R : Type} : FOK (F32 N : CfS R) (runF T) :=
  uC_ok (F31_ok N) (H := H32) (Lp := noL) (X := noX) (rp := []) (ver := c40) rfl (LOK0 (by kernel_rfl)) (fun x k => by kernel_rfl)
def arith_FilterOf_c2 (N : Nat) {R : Type} (a0 : Int) (a1 : Int) (a2 : ByteArray) (a3 : zt5) (k0 : Int → ByteArray → zt5 → zt2 → Option R) : Option R := (bif decide (a0 < 0) then none else (arith_FilterOf_c1 N 0 a0 [] (andI .i64 a1 (w64 ((shl' .i64 1 a0) - 1))) a2 a3 k0))
def P33 : AP := ⟨[pI, pI, .ptr 0 0], [(0, .box [.fn 40 [.ptr 1 0]]), (1, .box [pS, .own 2, .own 3, .own 4, .own 5, .own 6, .own 7]), (2, .arr [.s, hI]), (3, .em 5), (4, .em 4), (5, .em 3), (6, .em 2), (7, .em 2)]⟩
def E33 (N : Nat) {R : Type} (x : P33.den) (k : KK R) : Option R := arith_FilterOf_c2 N x.1.1 x.1.2.1 x.2.2.1.1 x.2.2.2.1 (fun r0 r1 r2 r3 => k [0, 1] [dI r0] [(0, .box [.fn 40 [.ptr 1 0]]), (1, .box [dS r1, .own 2, .own 3, .own 4, .own 5, .own 6, .own 7]), (2, .arr (.t [.s, hI] r2)), (3, .arr (.e 5)), (4, .arr (.t zs1 r3)), (5, .arr (.e 3)), (6, .arr (.e 2)), (7, .arr (.e 2))])
noncomputable def F33 (N : Nat) {R : Type} : CfS R := uC (F32 N) 41 P33 (E33 N)
theorem F33_ok (N : Nat) {R : Type} : FOK (F33 N : CfS R) (runF T) :=
  uC_ok (F32_ok N) (H := noH) (Lp := noL) (X := noX) (rp := []) (ver := c41) rfl (LOK0 (by kernel_rfl)) (fun x k => by kernel_rfl)
def H34 : Nat → Option (List Sh) := fun n => if n = 6000 then some [hI, hI, .sl [hI], hI] else none
def arith_FilterOf_c1_v1 (N : Nat) {R : Type} (a0 : Int) (a1 : Int) (a2 : List Int) (a3 : Int) (a4 : ByteArray) (a5 : zt5) (a6 : zt2) (k0 : Int → ByteArray → zt5 → zt2 → Option R) : Option R := (bif roomB (a6.length + 1) 48 then (k0 (w64 ((((a6 ++ [(a0, a1, a2, a3)]).length : Nat) : Int) - 1)) a4 a5 (a6 ++ [(a0, a1, a2, a3)])) else none)
def P34 : AP := ⟨[.agg [pI, pI, pL [hI], pI], .ptr 0 0], [(0, .box [pS, .own 1, .own 2, .own 3, .own 4, .own 5, .own 6]), (1, .arr [.s, hI]), (2, .em 5), (3, .arr zs1), (4, .em 3), (5, .em 2), (6, .em 2)]⟩
def E34 (N : Nat) {R : Type} (x : P34.den) (k : KK R) : Option R := arith_FilterOf_c1_v1 N x.1.1.1 x.1.1.2.1 x.1.1.2.2.1 x.1.1.2.2.2.1 x.2.1.1 x.2.2.1 x.2.2.2.2.1 (fun r0 r1 r2 r3 => k [0] [dI r0] [(0, .box [dS r1, .own 1, .own 2, .own 3, .own 4, .own 5, .own 6]), (1, .arr (.t [.s, hI] r2)), (2, .arr (.e 5)), (3, .arr (.t zs1 r3)), (4, .arr (.e 3)), (5, .arr (.e 2)), (6, .arr (.e 2))])
noncomputable def F34 (N : Nat) {R : Type} : CfS R := uC (F33 N) 40 P34 (E34 N)
theorem F34_ok (N : Nat) {R : Type} : FOK (F34 N : CfS R) (runF T) :=
  uC_ok (F33_ok N) (H := H34) (Lp := noL) (X := noX) (rp := []) (ver := c40) rfl (LOK0 (by kernel_rfl)) (fun x k => by kernel_rfl)
def arith_FilterOf_c2_v1 (N : Nat) {R : Type} (a0 : Int) (a1 : Int) (a2 : ByteArray) (a3 : zt5) (a4 : zt2) (k0 : Int → ByteArray → zt5 → zt2 → Option R) : Option R := (bif decide (a0 < 0) then none else (arith_FilterOf_c1_v1 N 0 a0 [] (andI .i64 a1 (w64 ((shl' .i64 1 a0) - 1))) a2 a3 a4 k0))
def P35 : AP := ⟨[pI, pI, .ptr 0 0], [(0, .box [.fn 40 [.ptr 1 0]]), (1, .box [pS, .own 2, .own 3, .own 4, .own 5, .own 6, .own 7]), (2, .arr [.s, hI]), (3, .em 5), (4, .arr zs1), (5, .em 3), (6, .em 2), (7, .em 2)]⟩
def E35 (N : Nat) {R : Type} (x : P35.den) (k : KK R) : Option R := arith_FilterOf_c2_v1 N x.1.1 x.1.2.1 x.2.2.1.1 x.2.2.2.1 x.2.2.2.2.2.1 (fun r0 r1 r2 r3 => k [0, 1] [dI r0] [(0, .box [.fn 40 [.ptr 1 0]]), (1, .box [dS r1, .own 2, .own 3, .own 4, .own 5, .own 6, .own 7]), (2, .arr (.t [.s, hI] r2)), (3, .arr (.e 5)), (4, .arr (.t zs1 r3)), (5, .arr (.e 3)), (6, .arr (.e 2)), (7, .arr (.e 2))])
noncomputable def F35 (N : Nat) {R : Type} : CfS R := uC (F34 N) 41 P35 (E35 N)
theorem F35_ok (N : Nat) {R : Type} : FOK (F35 N : CfS R) (runF T) :=
  uC_ok (F34_ok N) (H := noH) (Lp := noL) (X := noX) (rp := []) (ver := c41) rfl (LOK0 (by kernel_rfl)) (fun x k => by kernel_rfl)
def H36 : Nat → Option (List Sh) := fun n => if n = 6000 then some [hI, hI, .sl [hI], hI] else none
def arith_FilterOf_c1_v2 (N : Nat) {R : Type} (a0 : Int) (a1 : Int) (a2 : List Int) (a3 : Int) (a4 : ByteArray) (a5 : zt5) (a6 : zt1) (a7 : zt2) (k0 : Int → ByteArray → zt5 → zt1 → zt2 → Option R) : Option R := (bif roomB (a7.length + 1) 48 then (k0 (w64 ((((a7 ++ [(a0, a1, a2, a3)]).length : Nat) : Int) - 1)) a4 a5 a6 (a7 ++ [(a0, a1, a2, a3)])) else none)
def P36 : AP := ⟨[.agg [pI, pI, pL [hI], pI], .ptr 0 0], [(0, .box [pS, .own 1, .own 2, .own 3, .own 4, .own 5, .own 6]), (1, .arr [.s, hI]), (2, .arr zs2), (3, .arr zs1), (4, .em 3), (5, .em 2), (6, .em 2)]⟩
def E36 (N : Nat) {R : Type} (x : P36.den) (k : KK R) : Option R := arith_FilterOf_c1_v2 N x.1.1.1 x.1.1.2.1 x.1.1.2.2.1 x.1.1.2.2.2.1 x.2.1.1 x.2.2.1 x.2.2.2.1 x.2.2.2.2.1 (fun r0 r1 r2 r3 r4 => k [0] [dI r0] [(0, .box [dS r1, .own 1, .own 2, .own 3, .own 4, .own 5, .own 6]), (1, .arr (.t [.s, hI] r2)), (2, .arr (.t zs2 r3)), (3, .arr (.t zs1 r4)), (4, .arr (.e 3)), (5, .arr (.e 2)), (6, .arr (.e 2))])
noncomputable def F36 (N : Nat) {R : Type} : CfS R := uC (F35 N) 40 P36 (E36 N)
theorem F36_ok (N : Nat) {R : Type} : FOK (F36 N : CfS R) (runF T) :=
  uC_ok (F35_ok N) (H := H36) (Lp := noL) (X := noX) (rp := []) (ver := c40) rfl (LOK0 (by kernel_rfl)) (fun x k => by kernel_rfl)
def arith_FilterOf_c2_v2 (N : Nat) {R : Type} (a0 : Int) (a1 : Int) (a2 : ByteArray) (a3 : zt5) (a4 : zt1) (a5 : zt2) (k0 : Int → ByteArray → zt5 → zt1 → zt2 → Option R) : Option R := (bif decide (a0 < 0) then none else (arith_FilterOf_c1_v2 N 0 a0 [] (andI .i64 a1 (w64 ((shl' .i64 1 a0) - 1))) a2 a3 a4 a5 k0))
def P37 : AP := ⟨[pI, pI, .ptr 0 0], [(0, .box [.fn 40 [.ptr 1 0]]), (1, .box [pS, .own 2, .own 3, .own 4, .own 5, .own 6, .own 7]), (2, .arr [.s, hI]), (3, .arr zs2), (4, .arr zs1), (5, .em 3), (6, .em 2), (7, .em 2)]⟩
def E37 (N : Nat) {R : Type} (x : P37.den) (k : KK R) : Option R := arith_FilterOf_c2_v2 N x.1.1 x.1.2.1 x.2.2.1.1 x.2.2.2.1 x.2.2.2.2.1 x.2.2.2.2.2.1 (fun r0 r1 r2 r3 r4 => k [0, 1] [dI r0] [(0, .box [.fn 40 [.ptr 1 0]]), (1, .box [dS r1, .own 2, .own 3, .own 4, .own 5, .own 6, .own 7]), (2, .arr (.t [.s, hI] r2)), (3, .arr (.t zs2 r3)), (4, .arr (.t zs1 r4)), (5, .arr (.e 3)), (6, .arr (.e 2)), (7, .arr (.e 2))])
noncomputable def F37 (N : Nat) {R : Type} : CfS R := uC (F36 N) 41 P37 (E37 N)
theorem F37_ok (N : Nat) {R : Type} : FOK (F37 N : CfS R) (runF T) :=
  uC_ok (F36_ok N) (H := noH) (Lp := noL) (X := noX) (rp := []) (ver := c41) rfl (LOK0 (by kernel_rfl)) (fun x k => by kernel_rfl)
def X38 : Nat → List SP := fun p => if p = 109 then [⟨[(2, .ptr 0 0), (3, pI)], [(0, .box [pS, .own 1, .own 2, .own 3, .own 4, .own 5, .own 6]), (1, .arr [.s, hI]), (2, .arr zs2), (3, .arr zs1), (4, .arr zs0), (5, .arr [.s, hI]), (6, .em 2)]⟩] else []
def H38 : Nat → Option (List Sh) := fun n => if n = 16000 then some [.s, hI] else if n = 58000 then some [.s, hI, hI, hI, hI] else if n = 71000 then some [hI, hI, hI] else if n = 84000 then some [hI] else if n = 94000 then some [hI] else if n = 107000 then some [hI] else if n = 116000 then some [hI] else if n = 123000 then some [.s, hI, .sl [hI, hI, hI]] else if n = 128000 then some [.s, hI] else none
def arith_FilterOf_j0 (N : Nat) {R : Type} (k0 : Int → Int → List Int → Int → Int → List Int → Int → Int → ByteArray → ByteArray → zt5 → zt1 → zt2 → ByteArray → Int → zt6 → List Int → Option R) (b0 : Int) (b1 : Int) (b2 : Int) (b3 : Int) (b4 : List Int) (b5 : Int) (b6 : Int) (b7 : List Int) (b8 : Int) (b9 : Int) (b10 : ByteArray) (b11 : ByteArray) (b12 : zt5) (b13 : zt1) (b14 : zt2) (b15 : ByteArray) (b16 : Int) (b17 : zt6) (b18 : List Int) : Option R := (arith_FilterOf_c1_v2 N 1 b8 [] b2 b11 b12 b13 b14 (fun y1 y2 y3 y4 y5 => (bif roomB (b18.length + 1) 8 then (bif inR b2 ((b18 ++ [y1]).length) then (((b18 ++ [y1])[b2.toNat]?).bind fun x6 => (arith_FilterOf_c1_v2 N 16 b9 [x6] 0 y2 y3 y4 y5 (fun y7 y8 y9 y10 y11 => (arith_FilterOf_c2_v2 N b9 b3 y8 y9 y10 y11 (fun y12 y13 y14 y15 y16 => (arith_FilterOf_c1_v2 N 8 b9 [y7, y12] 0 y13 y14 y15 y16 (fun y17 y18 y19 y20 y21 => (arith_FilterOf_c1_v2 N 6 b9 [b1, y17] 0 y18 y19 y20 y21 (fun y22 y23 y24 y25 y26 => (k0 b0 y22 b4 b5 b6 b7 b8 b9 b10 y23 y24 y25 y26 b15 b16 b17 (b18 ++ [y1]))))))))))) else none) else none)))
def P38_j0 : SP := ⟨[(1, .ptr 0 0), (2, .ptr 1 0), (5, .ptr 8 0), (6, .ptr 15 0), (7, .fn 41 [.ptr 15 0]), (8, pI), (9, .ptr 16 0), (10, .own 18), (11, pI), (12, pI), (13, pI), (38, pL [hI]), (39, pI), (40, pI)], [(0, .box [pL [hI], pI, pI]), (1, .box [pS, .own 2, .own 3, .own 4, .own 5, .own 6, .own 7]), (2, .em 2), (3, .em 5), (4, .em 4), (5, .em 3), (6, .em 2), (7, .em 2), (8, .box [pS, .own 9, .own 10, .own 11, .own 12, .own 13, .own 14]), (9, .arr [.s, hI]), (10, .arr zs2), (11, .arr zs1), (12, .em 3), (13, .em 2), (14, .em 2), (15, .box [.fn 40 [.ptr 8 0]]), (16, .box [pS, pI, .own 17]), (17, .arr zs4), (18, .arr [hI])]⟩
def E38_j0 (N : Nat) {R : Type} (n : Nat) (x : P38_j0.den) (k : KS R) : Option R := match n with
  | 0 => none
  | _ + 1 => arith_FilterOf_j0 N (fun r0 r1 r2 r3 r4 r5 r6 r7 r8 r9 r10 r11 r12 r13 r14 r15 r16 => k (.ex 1523929) ⟨[(1, .ptr 0 0), (2, .ptr 1 0), (5, .ptr 8 0), (6, .ptr 15 0), (7, .fn 41 [.ptr 15 0]), (8, dI r0), (9, .ptr 16 0), (10, .own 18), (11, dI r1), (38, dL [hI] r2), (39, dI r3), (40, dI r4)], [(0, .box [dL [hI] r5, dI r6, dI r7]), (1, .box [dS r8, .own 2, .own 3, .own 4, .own 5, .own 6, .own 7]), (2, .arr (.e 2)), (3, .arr (.e 5)), (4, .arr (.e 4)), (5, .arr (.e 3)), (6, .arr (.e 2)), (7, .arr (.e 2)), (8, .box [dS r9, .own 9, .own 10, .own 11, .own 12, .own 13, .own 14]), (9, .arr (.t [.s, hI] r10)), (10, .arr (.t zs2 r11)), (11, .arr (.t zs1 r12)), (12, .arr (.e 3)), (13, .arr (.e 2)), (14, .arr (.e 2)), (15, .box [.fn 40 [.ptr 8 0]]), (16, .box [dS r13, dI r14, .own 17]), (17, .arr (.t zs4 r15)), (18, .arr (.t [hI] r16))]⟩) x.1.2.2.2.2.2.1 x.1.2.2.2.2.2.2.2.2.1 x.1.2.2.2.2.2.2.2.2.2.1 x.1.2.2.2.2.2.2.2.2.2.2.1 x.1.2.2.2.2.2.2.2.2.2.2.2.1 x.1.2.2.2.2.2.2.2.2.2.2.2.2.1 x.1.2.2.2.2.2.2.2.2.2.2.2.2.2.1 x.2.1.1 x.2.1.2.1 x.2.1.2.2.1 x.2.2.1.1 x.2.2.2.2.2.2.2.2.2.1.1 x.2.2.2.2.2.2.2.2.2.2.1 x.2.2.2.2.2.2.2.2.2.2.2.1 x.2.2.2.2.2.2.2.2.2.2.2.2.1 x.2.2.2.2.2.2.2.2.2.2.2.2.2.2.2.2.2.1.1 x.2.2.2.2.2.2.2.2.2.2.2.2.2.2.2.2.2.1.2.1 x.2.2.2.2.2.2.2.2.2.2.2.2.2.2.2.2.2.2.1 x.2.2.2.2.2.2.2.2.2.2.2.2.2.2.2.2.2.2.2.1
theorem O38_j0 (N : Nat) {R : Type} : LpG T P38_j0 (E38_j0 N (R := R)) [1, 2, 5, 6, 7, 8, 9, 10, 11, 12, 13, 38, 39, 40] c9_j0 :=
  loop_ok (F37_ok N) (H := H38) (Lp := noL) (X := X38) (p := 2095718) (LOK0 (by kernel_rfl)) (fun _ _ => rfl) (fun n x k => by kernel_rfl)
noncomputable def L38_1 (N : Nat) {R : Type} : LpS R := updL noL 2095718 (lent' P38_j0 (E38_j0 N 1))
def arith_FilterOf_l0 (N : Nat) {R : Type} (k0 : Int → ByteArray → ByteArray → zt5 → zt1 → zt2 → ByteArray → Int → zt6 → Option R) : Nat → Int → Int → List Int → Int → Int → List Int → Int → Int → ByteArray → ByteArray → zt5 → zt1 → zt2 → ByteArray → Int → zt6 → List Int → Option R
  | 0, _, _, _, _, _, _, _, _, _, _, _, _, _, _, _, _, _ => none
  | n + 1, b0, b1, b2, b3, b4, b5, b6, b7, b8, b9, b10, b11, b12, b13, b14, b15, b16 => (bif decide (b4 < b3) then ((at? b2 b4).bind fun x1 => (bif decide (0 < b4) then (bif decide (-9223372036854775808 ≤ b4 ∧ b4 ≤ 9223372036854775807) then (bif decide (((((ByteArray.mk #[100]).size + (itoaB b4).size : Nat)) : Int) > 9223372036854775807) then none else (bif roomB (b11.length + 1) 48 then (bif inR (w64 (b4 - 1)) b16.length then ((b16[(w64 (b4 - 1)).toNat]?).bind fun x2 => (bif roomB (1 + b15.length) 24 then (arith_FilterOf_j0 N (fun z27 z28 z29 z30 z31 z32 z33 z34 z35 z36 z37 z38 z39 z40 z41 z42 z43 => (arith_FilterOf_l0 N k0 n z27 z28 z29 z30 (w64 (z31 + 1)) z32 z33 z34 z35 z36 z37 z38 z39 z40 z41 z42 z43)) b0 b1 b4 x1 b2 b3 b4 b5 b6 b7 b8 b9 b10 (b11 ++ [(((ByteArray.mk #[100]) ++ (itoaB b4)), 0, b6, 0, 0)]) b12 b13 b14 ([((w64 (b4 - 1)), b0, x2)] ++ b15) b16) else none)) else none) else none)) else none) else (arith_FilterOf_j0 N (fun z44 z45 z46 z47 z48 z49 z50 z51 z52 z53 z54 z55 z56 z57 z58 z59 z60 => (arith_FilterOf_l0 N k0 n z44 z45 z46 z47 (w64 (z48 + 1)) z49 z50 z51 z52 z53 z54 z55 z56 z57 z58 z59 z60)) b0 b1 b4 x1 b2 b3 b4 b5 b6 b7 b8 b9 b10 b11 b12 b13 b14 b15 b16))) else (k0 b1 b8 b9 b10 b11 b12 b13 b14 b15))
def P38_l0 : SP := ⟨[(1, .ptr 0 0), (2, .ptr 1 0), (5, .ptr 8 0), (6, .ptr 15 0), (7, .fn 41 [.ptr 15 0]), (8, pI), (9, .ptr 16 0), (10, .own 18), (11, pI), (38, pL [hI]), (39, pI), (40, pI)], [(0, .box [pL [hI], pI, pI]), (1, .box [pS, .own 2, .own 3, .own 4, .own 5, .own 6, .own 7]), (2, .em 2), (3, .em 5), (4, .em 4), (5, .em 3), (6, .em 2), (7, .em 2), (8, .box [pS, .own 9, .own 10, .own 11, .own 12, .own 13, .own 14]), (9, .arr [.s, hI]), (10, .arr zs2), (11, .arr zs1), (12, .em 3), (13, .em 2), (14, .em 2), (15, .box [.fn 40 [.ptr 8 0]]), (16, .box [pS, pI, .own 17]), (17, .arr zs4), (18, .arr [hI])]⟩
def E38_l0 (N : Nat) {R : Type} (n : Nat) (x : P38_l0.den) (k : KS R) : Option R := arith_FilterOf_l0 N (fun r0 r1 r2 r3 r4 r5 r6 r7 r8 => k (.ex 0) ⟨[(2, .ptr 0 0), (5, .ptr 7 0), (9, .ptr 14 0), (11, dI r0)], [(0, .box [dS r1, .own 1, .own 2, .own 3, .own 4, .own 5, .own 6]), (1, .arr (.e 2)), (2, .arr (.e 5)), (3, .arr (.e 4)), (4, .arr (.e 3)), (5, .arr (.e 2)), (6, .arr (.e 2)), (7, .box [dS r2, .own 8, .own 9, .own 10, .own 11, .own 12, .own 13]), (8, .arr (.t [.s, hI] r3)), (9, .arr (.t zs2 r4)), (10, .arr (.t zs1 r5)), (11, .arr (.e 3)), (12, .arr (.e 2)), (13, .arr (.e 2)), (14, .box [dS r6, dI r7, .own 15]), (15, .arr (.t zs4 r8))]⟩) n x.1.2.2.2.2.2.1 x.1.2.2.2.2.2.2.2.2.1 x.1.2.2.2.2.2.2.2.2.2.1 x.1.2.2.2.2.2.2.2.2.2.2.1 x.1.2.2.2.2.2.2.2.2.2.2.2.1 x.2.1.1 x.2.1.2.1 x.2.1.2.2.1 x.2.2.1.1 x.2.2.2.2.2.2.2.2.2.1.1 x.2.2.2.2.2.2.2.2.2.2.1 x.2.2.2.2.2.2.2.2.2.2.2.1 x.2.2.2.2.2.2.2.2.2.2.2.2.1 x.2.2.2.2.2.2.2.2.2.2.2.2.2.2.2.2.2.1.1 x.2.2.2.2.2.2.2.2.2.2.2.2.2.2.2.2.2.1.2.1 x.2.2.2.2.2.2.2.2.2.2.2.2.2.2.2.2.2.2.1 x.2.2.2.2.2.2.2.2.2.2.2.2.2.2.2.2.2.2.2.1
theorem O38_l0 (N : Nat) {R : Type} : LpG T P38_l0 (E38_l0 N (R := R)) [1, 2, 5, 6, 7, 8, 9, 10, 11, 38, 39, 40] c9_l0 :=
  loop_ok (F37_ok N) (H := H38) (Lp := (L38_1 N)) (X := X38) (p := 8186) (LOK_of (l := [(2095718, [1, 2, 5, 6, 7, 8, 9, 10, 11, 12, 13, 38, 39, 40], c9_j0)]) (by kernel_rfl) ⟨(updL_ok (O38_j0 N 1)), trivial⟩) (fun _ _ => rfl) (fun n x k => by kernel_rfl)
noncomputable def L38_2 (N : Nat) {R : Type} : LpS R := updL (L38_1 N) 8186 (lent' P38_l0 (E38_l0 N N))
def arith_FilterOf (N : Nat) {R : Type} (a0 : List Int) (a1 : Int) (a2 : Int) (k0 : ByteArray → zt5 → zt1 → zt2 → zt0 → zt5 → Int → Option R) : Option R := (arith_filterErr N a0 a1 a2 (fun y1 => (bif decide (y1 ≠ 0) then (k0 (ByteArray.mk #[]) [] [] [] [] [] y1) else (arith_FilterOf_c2_v2 N 1 1 (ByteArray.mk #[102, 105, 108, 116, 101, 114]) [((ByteArray.mk #[120]), a1)] [] [] (fun y2 y3 y4 y5 y6 => (arith_FilterOf_c2_v2 N a2 0 y3 y4 y5 y6 (fun y7 y8 y9 y10 y11 => (arith_FilterOf_l0 N (fun z61 z62 z63 z64 z65 z66 z67 z68 z69 => (k0 z63 z64 z65 z66 [(z67, z68, z69)] [((ByteArray.mk #[121]), z61)] 0)) N y2 y7 a0 ((a0.length : Nat) : Int) 0 a0 a1 a2 (ByteArray.mk #[]) y8 y9 y10 y11 (ByteArray.mk #[115, 104, 105, 102, 116]) y2 [] []))))))))
def P38 : AP := ⟨[.agg [pL [hI], pI, pI]], []⟩
def E38 (N : Nat) {R : Type} (x : P38.den) (k : KK R) : Option R := arith_FilterOf N x.1.1.1 x.1.1.2.1 x.1.1.2.2.1 (fun r0 r1 r2 r3 r4 r5 r6 => k [] [.agg [dS r0, dL [.s, hI] r1, dL zs2 r2, dL zs1 r3, dL zs0 r4, dL [.s, hI] r5, .p (.l (.e 2))], dI r6] [])
noncomputable def F38 (N : Nat) {R : Type} : CfS R := uC (F37 N) 9 P38 (E38 N)
theorem F38_ok (N : Nat) {R : Type} : FOK (F38 N : CfS R) (runF T) :=
  uC_ok (F37_ok N) (H := H38) (Lp := (L38_2 N)) (X := X38) (rp := []) (ver := c9) rfl (LOK_of (l := [(8186, [1, 2, 5, 6, 7, 8, 9, 10, 11, 38, 39, 40], c9_l0)]) (by kernel_rfl) ⟨(updL_ok (O38_l0 N N)), trivial⟩) (fun x k => by kernel_rfl)
def arith_Filtered_c1 (N : Nat) {R : Type} (a0 : Int) (a1 : List Int) (a2 : Int) (a3 : Int) (k0 : Bool → List Int → Int → Int → Option R) : Option R := (bif decide (a2 < 0) then none else (arith_within N a0 0 (w64 ((shl' .i64 1 a2) - 1)) (fun y1 => (k0 y1 a1 a2 a3))))
def P39 : AP := ⟨[pI, .ptr 0 0], [(0, .box [pL [hI], pI, pI])]⟩
def E39 (N : Nat) {R : Type} (x : P39.den) (k : KK R) : Option R := arith_Filtered_c1 N x.1.1 x.2.1.1 x.2.1.2.1 x.2.1.2.2.1 (fun r0 r1 r2 r3 => k [0] [dB r0] [(0, .box [dL [hI] r1, dI r2, dI r3])])
noncomputable def F39 (N : Nat) {R : Type} : CfS R := uC (F38 N) 46 P39 (E39 N)
theorem F39_ok (N : Nat) {R : Type} : FOK (F39 N : CfS R) (runF T) :=
  uC_ok (F38_ok N) (H := noH) (Lp := noL) (X := noX) (rp := []) (ver := c46) rfl (LOK0 (by kernel_rfl)) (fun x k => by kernel_rfl)
def arith_each_int__c1_Filtered_c1 (N : Nat) {R : Type} (a0 : Int) (a1 : List Int) (a2 : Int) (a3 : Int) (k0 : Bool → List Int → Int → Int → Option R) : Option R := (arith_Filtered_c1 N a0 a1 a2 a3 (fun y1 y2 y3 y4 => (k0 (!y1) y2 y3 y4)))
def P40 : AP := ⟨[pI, .ptr 0 0], [(0, .box [.fn 46 [.ptr 1 0]]), (1, .box [pL [hI], pI, pI])]⟩
def E40 (N : Nat) {R : Type} (x : P40.den) (k : KK R) : Option R := arith_each_int__c1_Filtered_c1 N x.1.1 x.2.2.1.1 x.2.2.1.2.1 x.2.2.1.2.2.1 (fun r0 r1 r2 r3 => k [0, 1] [dB r0] [(0, .box [.fn 46 [.ptr 1 0]]), (1, .box [dL [hI] r1, dI r2, dI r3])])
noncomputable def F40 (N : Nat) {R : Type} : CfS R := uC (F39 N) 86 P40 (E40 N)
theorem F40_ok (N : Nat) {R : Type} : FOK (F40 N : CfS R) (runF T) :=
  uC_ok (F39_ok N) (H := noH) (Lp := noL) (X := noX) (rp := []) (ver := c86) rfl (LOK0 (by kernel_rfl)) (fun x k => by kernel_rfl)
def slices_IndexFunc_Lint_int_Filtered_c1_l0 (N : Nat) {R : Type} (k0 : Int → List Int → Int → Int → Option R) (k1 : List Int → Int → Int → Option R) : Nat → List Int → Int → Int → List Int → Int → Int → Option R
  | 0, _, _, _, _, _, _ => none
  | n + 1, b0, b1, b2, b3, b4, b5 => (bif decide (b2 < b1) then ((at? b0 b2).bind fun x1 => (arith_each_int__c1_Filtered_c1 N x1 b3 b4 b5 (fun y2 y3 y4 y5 => (bif y2 then (k0 b2 y3 y4 y5) else (slices_IndexFunc_Lint_int_Filtered_c1_l0 N k0 k1 n b0 b1 (w64 (b2 + 1)) y3 y4 y5))))) else (k1 b3 b4 b5))
def P41_l0 : SP := ⟨[(0, pL [hI]), (1, .fn 86 [.ptr 0 0]), (7, pI), (8, pI), (100001, .fn 86 [.ptr 0 0]), (100002, .ptr 1 0)], [(0, .box [.fn 46 [.ptr 1 0]]), (1, .box [pL [hI], pI, pI])]⟩
def E41_l0 (N : Nat) {R : Type} (n : Nat) (x : P41_l0.den) (k : KS R) : Option R := slices_IndexFunc_Lint_int_Filtered_c1_l0 N (fun r0 r1 r2 r3 => k .ret ⟨[(4, dI r0), (100001, .fn 86 [.ptr 0 0]), (100002, .ptr 1 0)], [(0, .box [.fn 46 [.ptr 1 0]]), (1, .box [dL [hI] r1, dI r2, dI r3])]⟩) (fun r0 r1 r2 => k (.ex 0) ⟨[(100001, .fn 86 [.ptr 0 0]), (100002, .ptr 1 0)], [(0, .box [.fn 46 [.ptr 1 0]]), (1, .box [dL [hI] r0, dI r1, dI r2])]⟩) n x.1.1 x.1.2.2.1 x.1.2.2.2.1 x.2.2.1.1 x.2.2.1.2.1 x.2.2.1.2.2.1
theorem O41_l0 (N : Nat) {R : Type} : LpG T P41_l0 (E41_l0 N (R := R)) [0, 1, 7, 8] c116_l0 :=
  loop_ok (F40_ok N) (H := noH) (Lp := noL) (X := noX) (p := 26) (LOK0 (by kernel_rfl)) (fun _ _ => rfl) (fun n x k => by kernel_rfl)
noncomputable def L41_1 (N : Nat) {R : Type} : LpS R := updL noL 26 (lent' P41_l0 (E41_l0 N N))
def slices_IndexFunc_Lint_int_Filtered_c1 (N : Nat) {R : Type} (a0 : List Int) (a1 : List Int) (a2 : Int) (a3 : Int) (k0 : Int → List Int → Int → Int → Option R) : Option R := (slices_IndexFunc_Lint_int_Filtered_c1_l0 N k0 (fun z10 z11 z12 => (k0 (-1) z10 z11 z12)) N a0 ((a0.length : Nat) : Int) 0 a1 a2 a3)
def P41 : AP := ⟨[pL [hI], .fn 86 [.ptr 0 0]], [(0, .box [.fn 46 [.ptr 1 0]]), (1, .box [pL [hI], pI, pI])]⟩
def E41 (N : Nat) {R : Type} (x : P41.den) (k : KK R) : Option R := slices_IndexFunc_Lint_int_Filtered_c1 N x.1.1 x.2.2.1.1 x.2.2.1.2.1 x.2.2.1.2.2.1 (fun r0 r1 r2 r3 => k [0, 1] [dI r0] [(0, .box [.fn 46 [.ptr 1 0]]), (1, .box [dL [hI] r1, dI r2, dI r3])])
noncomputable def F41 (N : Nat) {R : Type} : CfS R := uC (F40 N) 116 P41 (E41 N)
theorem F41_ok (N : Nat) {R : Type} : FOK (F41 N : CfS R) (runF T) :=
  uC_ok (F40_ok N) (H := noH) (Lp := (L41_1 N)) (X := noX) (rp := []) (ver := c116) rfl (LOK_of (l := [(26, [0, 1, 7, 8], c116_l0)]) (by kernel_rfl) ⟨(updL_ok (O41_l0 N N)), trivial⟩) (fun x k => by kernel_rfl)
def slices_ContainsFunc_Lint_int_Filtered_c1 (N : Nat) {R : Type} (a0 : List Int) (a1 : List Int) (a2 : Int) (a3 : Int) (k0 : Bool → List Int → Int → Int → Option R) : Option R := (slices_IndexFunc_Lint_int_Filtered_c1 N a0 a1 a2 a3 (fun y1 y2 y3 y4 => (k0 (decide (0 ≤ y1)) y2 y3 y4)))
def P42 : AP := ⟨[pL [hI], .fn 86 [.ptr 0 0]], [(0, .box [.fn 46 [.ptr 1 0]]), (1, .box [pL [hI], pI, pI])]⟩
def E42 (N : Nat) {R : Type} (x : P42.den) (k : KK R) : Option R := slices_ContainsFunc_Lint_int_Filtered_c1 N x.1.1 x.2.2.1.1 x.2.2.1.2.1 x.2.2.1.2.2.1 (fun r0 r1 r2 r3 => k [0, 1] [dB r0] [(0, .box [.fn 46 [.ptr 1 0]]), (1, .box [dL [hI] r1, dI r2, dI r3])])
noncomputable def F42 (N : Nat) {R : Type} : CfS R := uC (F41 N) 85 P42 (E42 N)
theorem F42_ok (N : Nat) {R : Type} : FOK (F42 N : CfS R) (runF T) :=
  uC_ok (F41_ok N) (H := noH) (Lp := noL) (X := noX) (rp := []) (ver := c85) rfl (LOK0 (by kernel_rfl)) (fun x k => by kernel_rfl)
def arith_each_int_Filtered_c1 (N : Nat) {R : Type} (a0 : List Int) (a1 : List Int) (a2 : Int) (a3 : Int) (k0 : Bool → List Int → Int → Int → Option R) : Option R := (slices_ContainsFunc_Lint_int_Filtered_c1 N a0 a1 a2 a3 (fun y1 y2 y3 y4 => (k0 (!y1) y2 y3 y4)))
def P43 : AP := ⟨[pL [hI], .fn 46 [.ptr 0 0]], [(0, .box [pL [hI], pI, pI])]⟩
def E43 (N : Nat) {R : Type} (x : P43.den) (k : KK R) : Option R := arith_each_int_Filtered_c1 N x.1.1 x.2.1.1 x.2.1.2.1 x.2.1.2.2.1 (fun r0 r1 r2 r3 => k [0] [dB r0] [(0, .box [dL [hI] r1, dI r2, dI r3])])
noncomputable def F43 (N : Nat) {R : Type} : CfS R := uC (F42 N) 45 P43 (E43 N)
theorem F43_ok (N : Nat) {R : Type} : FOK (F43 N : CfS R) (runF T) :=
  uC_ok (F42_ok N) (H := noH) (Lp := noL) (X := noX) (rp := []) (ver := c45) rfl (LOK0 (by kernel_rfl)) (fun x k => by kernel_rfl)
def design_within (N : Nat) {R : Type} (a0 : Int) (a1 : Int) (a2 : Int) (k0 : Bool → Option R) : Option R := (bif decide (a1 ≤ a0) then (k0 (decide (a0 ≤ a2))) else (k0 false))
def P44 : AP := ⟨[pI, pI, pI], []⟩
def E44 (N : Nat) {R : Type} (x : P44.den) (k : KK R) : Option R := design_within N x.1.1 x.1.2.1 x.1.2.2.1 (fun r0 => k [] [dB r0] [])
noncomputable def F44 (N : Nat) {R : Type} : CfS R := uC (F43 N) 93 P44 (E44 N)
theorem F44_ok (N : Nat) {R : Type} : FOK (F44 N : CfS R) (runF T) :=
  uC_ok (F43_ok N) (H := noH) (Lp := noL) (X := noX) (rp := []) (ver := c93) rfl (LOK0 (by kernel_rfl)) (fun x k => by kernel_rfl)
def design_unless (N : Nat) {R : Type} (a0 : Bool) (a1 : Int) (k0 : Int → Option R) : Option R := (bif a0 then (k0 0) else (k0 a1))
def P45 : AP := ⟨[pB, pI], []⟩
def E45 (N : Nat) {R : Type} (x : P45.den) (k : KK R) : Option R := design_unless N x.1.1 x.1.2.1 (fun r0 => k [] [dI r0] [])
noncomputable def F45 (N : Nat) {R : Type} : CfS R := uC (F44 N) 92 P45 (E45 N)
theorem F45_ok (N : Nat) {R : Type} : FOK (F45 N : CfS R) (runF T) :=
  uC_ok (F44_ok N) (H := noH) (Lp := noL) (X := noX) (rp := []) (ver := c92) rfl (LOK0 (by kernel_rfl)) (fun x k => by kernel_rfl)
def slices_Index_Lint_int_l0 (N : Nat) {R : Type} (k0 : Int → Option R) (k1 : Option R) : Nat → List Int → Int → Int → Int → Option R
  | 0, _, _, _, _ => none
  | n + 1, b0, b1, b2, b3 => (bif decide (b3 < b2) then ((at? b0 b3).bind fun x1 => (bif decide (b1 = x1) then (k0 b3) else (slices_Index_Lint_int_l0 N k0 k1 n b0 b1 b2 (w64 (b3 + 1))))) else k1)
def P46_l0 : SP := ⟨[(0, pL [hI]), (1, pI), (7, pI), (8, pI)], []⟩
def E46_l0 (N : Nat) {R : Type} (n : Nat) (x : P46_l0.den) (k : KS R) : Option R := slices_Index_Lint_int_l0 N (fun r0 => k .ret ⟨[(4, dI r0)], []⟩) (k (.ex 0) ⟨[], []⟩) n x.1.1 x.1.2.1 x.1.2.2.1 x.1.2.2.2.1
theorem O46_l0 (N : Nat) {R : Type} : LpG T P46_l0 (E46_l0 N (R := R)) [0, 1, 7, 8] c190_l0 :=
  loop_ok (F45_ok N) (H := noH) (Lp := noL) (X := noX) (p := 26) (LOK0 (by kernel_rfl)) (fun _ _ => rfl) (fun n x k => by kernel_rfl)
noncomputable def L46_1 (N : Nat) {R : Type} : LpS R := updL noL 26 (lent' P46_l0 (E46_l0 N N))
def slices_Index_Lint_int (N : Nat) {R : Type} (a0 : List Int) (a1 : Int) (k0 : Int → Option R) : Option R := (slices_Index_Lint_int_l0 N k0 (k0 (-1)) N a0 a1 ((a0.length : Nat) : Int) 0)
def P46 : AP := ⟨[pL [hI], pI], []⟩
def E46 (N : Nat) {R : Type} (x : P46.den) (k : KK R) : Option R := slices_Index_Lint_int N x.1.1 x.1.2.1 (fun r0 => k [] [dI r0] [])
noncomputable def F46 (N : Nat) {R : Type} : CfS R := uC (F45 N) 190 P46 (E46 N)
theorem F46_ok (N : Nat) {R : Type} : FOK (F46 N : CfS R) (runF T) :=
  uC_ok (F45_ok N) (H := noH) (Lp := (L46_1 N)) (X := noX) (rp := []) (ver := c190) rfl (LOK_of (l := [(26, [0, 1, 7, 8], c190_l0)]) (by kernel_rfl) ⟨(updL_ok (O46_l0 N N)), trivial⟩) (fun x k => by kernel_rfl)
def slices_Contains_Lint_int (N : Nat) {R : Type} (a0 : List Int) (a1 : Int) (k0 : Bool → Option R) : Option R := (slices_Index_Lint_int N a0 a1 (fun y1 => (k0 (decide (0 ≤ y1)))))
def P47 : AP := ⟨[pL [hI], pI], []⟩
def E47 (N : Nat) {R : Type} (x : P47.den) (k : KK R) : Option R := slices_Contains_Lint_int N x.1.1 x.1.2.1 (fun r0 => k [] [dB r0] [])
noncomputable def F47 (N : Nat) {R : Type} : CfS R := uC (F46 N) 148 P47 (E47 N)
theorem F47_ok (N : Nat) {R : Type} : FOK (F47 N : CfS R) (runF T) :=
  uC_ok (F46_ok N) (H := noH) (Lp := noL) (X := noX) (rp := []) (ver := c148) rfl (LOK0 (by kernel_rfl)) (fun x k => by kernel_rfl)
def design_first_l0 (N : Nat) {R : Type} (k0 : Int → Option R) (k1 : Option R) : Nat → List Int → Int → Int → Option R
  | 0, _, _, _ => none
  | n + 1, b0, b1, b2 => (bif decide (b2 < b1) then ((at? b0 b2).bind fun x1 => (bif decide (x1 ≠ 0) then (k0 x1) else (design_first_l0 N k0 k1 n b0 b1 (w64 (b2 + 1))))) else k1)
def P48_l0 : SP := ⟨[(5, pL [hI]), (6, pI), (7, pI)], []⟩
def E48_l0 (N : Nat) {R : Type} (n : Nat) (x : P48_l0.den) (k : KS R) : Option R := design_first_l0 N (fun r0 => k .ret ⟨[(2, dI r0)], []⟩) (k (.ex 0) ⟨[], []⟩) n x.1.1 x.1.2.1 x.1.2.2.1
theorem O48_l0 (N : Nat) {R : Type} : LpG T P48_l0 (E48_l0 N (R := R)) [5, 6, 7] c53_l0 :=
  loop_ok (F47_ok N) (H := noH) (Lp := noL) (X := noX) (p := 26) (LOK0 (by kernel_rfl)) (fun _ _ => rfl) (fun n x k => by kernel_rfl)
noncomputable def L48_1 (N : Nat) {R : Type} : LpS R := updL noL 26 (lent' P48_l0 (E48_l0 N N))
def design_first (N : Nat) {R : Type} (a0 : List Int) (k0 : Int → Option R) : Option R := (design_first_l0 N k0 (k0 0) N a0 ((a0.length : Nat) : Int) 0)
def P48 : AP := ⟨[pL [hI]], []⟩
def E48 (N : Nat) {R : Type} (x : P48.den) (k : KK R) : Option R := design_first N x.1.1 (fun r0 => k [] [dI r0] [])
noncomputable def F48 (N : Nat) {R : Type} : CfS R := uC (F47 N) 53 P48 (E48 N)
theorem F48_ok (N : Nat) {R : Type} : FOK (F48 N : CfS R) (runF T) :=
  uC_ok (F47_ok N) (H := noH) (Lp := (L48_1 N)) (X := noX) (rp := []) (ver := c53) rfl (LOK_of (l := [(26, [5, 6, 7], c53_l0)]) (by kernel_rfl) ⟨(updL_ok (O48_l0 N N)), trivial⟩) (fun x k => by kernel_rfl)
def H49 : Nat → Option (List Sh) := fun n => if n = 17000 then some [hI] else none
def design_CheckDesign_c11_c1_c1 (N : Nat) {R : Type} (a0 : Int) (a1 : Int) (a2 : ByteArray) (a3 : zt5) (a4 : zt1) (a5 : zt2) (a6 : zt0) (a7 : zt5) (a8 : zt4) (a9 : Int) (a10 : List Int) (k0 : Int → ByteArray → zt5 → zt1 → zt2 → zt0 → zt5 → zt4 → Int → List Int → Option R) : Option R := (design_within N a1 0 (w64 (((a6.length : Nat) : Int) - 1)) (fun y1 => (design_unless N y1 6 (fun y2 => (bif slP 0 a0 a10.length then (slices_Contains_Lint_int N (List.take a0.toNat (List.drop 0 a10)) a1 (fun y3 => (design_unless N (!y3) 23 (fun y4 => (design_first N [y2, y4] (fun y5 => (k0 y5 a2 a3 a4 a5 a6 a7 a8 a9 a10))))))) else none)))))
def P49 : AP := ⟨[pI, pI, .ptr 0 0, .ptr 1 0], [(0, .box [pS, pL [.s, hI], pL zs2, pL zs1, pL zs0, pL [.s, hI], pL zs3]), (1, .box [pI, pL [hI]])]⟩
def E49 (N : Nat) {R : Type} (x : P49.den) (k : KK R) : Option R := design_CheckDesign_c11_c1_c1 N x.1.1 x.1.2.1 x.2.1.1 x.2.1.2.1 x.2.1.2.2.1 x.2.1.2.2.2.1 x.2.1.2.2.2.2.1 x.2.1.2.2.2.2.2.1 x.2.1.2.2.2.2.2.2.1 x.2.2.1.1 x.2.2.1.2.1 (fun r0 r1 r2 r3 r4 r5 r6 r7 r8 r9 => k [0, 1] [dI r0] [(0, .box [dS r1, dL [.s, hI] r2, dL zs2 r3, dL zs1 r4, dL zs0 r5, dL [.s, hI] r6, dL zs3 r7]), (1, .box [dI r8, dL [hI] r9])])
noncomputable def F49 (N : Nat) {R : Type} : CfS R := uC (F48 N) 147 P49 (E49 N)
theorem F49_ok (N : Nat) {R : Type} : FOK (F49 N : CfS R) (runF T) :=
  uC_ok (F48_ok N) (H := H49) (Lp := noL) (X := noX) (rp := []) (ver := c147) rfl (LOK0 (by kernel_rfl)) (fun x k => by kernel_rfl)
def design_each_int_CheckDesign_c11_c1_c1_l0 (N : Nat) {R : Type} (k0 : Int → Int → ByteArray → zt5 → zt1 → zt2 → zt0 → zt5 → zt4 → Int → List Int → Option R) (k1 : ByteArray → zt5 → zt1 → zt2 → zt0 → zt5 → zt4 → Int → List Int → Option R) : Nat → List Int → Int → Int → ByteArray → zt5 → zt1 → zt2 → zt0 → zt5 → zt4 → Int → List Int → Option R
  | 0, _, _, _, _, _, _, _, _, _, _, _, _ => none
  | n + 1, b0, b1, b2, b3, b4, b5, b6, b7, b8, b9, b10, b11 => (bif decide (b2 < b1) then ((at? b0 b2).bind fun x1 => (design_CheckDesign_c11_c1_c1 N b2 x1 b3 b4 b5 b6 b7 b8 b9 b10 b11 (fun y2 y3 y4 y5 y6 y7 y8 y9 y10 y11 => (bif decide (y2 ≠ 0) then (k0 b2 y2 y3 y4 y5 y6 y7 y8 y9 y10 y11) else (design_each_int_CheckDesign_c11_c1_c1_l0 N k0 k1 n b0 b1 (w64 (b2 + 1)) y3 y4 y5 y6 y7 y8 y9 y10 y11))))) else (k1 b3 b4 b5 b6 b7 b8 b9 b10 b11))
def P50_l0 : SP := ⟨[(1, .fn 147 [.ptr 0 0, .ptr 1 0]), (9, pL [hI]), (10, pI), (11, pI), (100001, .fn 147 [.ptr 0 0, .ptr 1 0])], [(0, .box [pS, pL [.s, hI], pL zs2, pL zs1, pL zs0, pL [.s, hI], pL zs3]), (1, .box [pI, pL [hI]])]⟩
def E50_l0 (N : Nat) {R : Type} (n : Nat) (x : P50_l0.den) (k : KS R) : Option R := design_each_int_CheckDesign_c11_c1_c1_l0 N (fun r0 r1 r2 r3 r4 r5 r6 r7 r8 r9 r10 => k .ret ⟨[(4, dI r0), (5, dI r1), (100001, .fn 147 [.ptr 0 0, .ptr 1 0])], [(0, .box [dS r2, dL [.s, hI] r3, dL zs2 r4, dL zs1 r5, dL zs0 r6, dL [.s, hI] r7, dL zs3 r8]), (1, .box [dI r9, dL [hI] r10])]⟩) (fun r0 r1 r2 r3 r4 r5 r6 r7 r8 => k (.ex 0) ⟨[(100001, .fn 147 [.ptr 0 0, .ptr 1 0])], [(0, .box [dS r0, dL [.s, hI] r1, dL zs2 r2, dL zs1 r3, dL zs0 r4, dL [.s, hI] r5, dL zs3 r6]), (1, .box [dI r7, dL [hI] r8])]⟩) n x.1.2.1 x.1.2.2.1 x.1.2.2.2.1 x.2.1.1 x.2.1.2.1 x.2.1.2.2.1 x.2.1.2.2.2.1 x.2.1.2.2.2.2.1 x.2.1.2.2.2.2.2.1 x.2.1.2.2.2.2.2.2.1 x.2.2.1.1 x.2.2.1.2.1
theorem O50_l0 (N : Nat) {R : Type} : LpG T P50_l0 (E50_l0 N (R := R)) [1, 9, 10, 11] c94_l0 :=
  loop_ok (F49_ok N) (H := noH) (Lp := noL) (X := noX) (p := 26) (LOK0 (by kernel_rfl)) (fun _ _ => rfl) (fun n x k => by kernel_rfl)
noncomputable def L50_1 (N : Nat) {R : Type} : LpS R := updL noL 26 (lent' P50_l0 (E50_l0 N N))
def design_each_int_CheckDesign_c11_c1_c1 (N : Nat) {R : Type} (a0 : List Int) (a1 : ByteArray) (a2 : zt5) (a3 : zt1) (a4 : zt2) (a5 : zt0) (a6 : zt5) (a7 : zt4) (a8 : Int) (a9 : List Int) (k0 : Int → Int → ByteArray → zt5 → zt1 → zt2 → zt0 → zt5 → zt4 → Int → List Int → Option R) : Option R := (design_each_int_CheckDesign_c11_c1_c1_l0 N k0 (fun z23 z24 z25 z26 z27 z28 z29 z30 z31 => (k0 0 0 z23 z24 z25 z26 z27 z28 z29 z30 z31)) N a0 ((a0.length : Nat) : Int) 0 a1 a2 a3 a4 a5 a6 a7 a8 a9)
def P50 : AP := ⟨[pL [hI], .fn 147 [.ptr 0 0, .ptr 1 0]], [(0, .box [pS, pL [.s, hI], pL zs2, pL zs1, pL zs0, pL [.s, hI], pL zs3]), (1, .box [pI, pL [hI]])]⟩
def E50 (N : Nat) {R : Type} (x : P50.den) (k : KK R) : Option R := design_each_int_CheckDesign_c11_c1_c1 N x.1.1 x.2.1.1 x.2.1.2.1 x.2.1.2.2.1 x.2.1.2.2.2.1 x.2.1.2.2.2.2.1 x.2.1.2.2.2.2.2.1 x.2.1.2.2.2.2.2.2.1 x.2.2.1.1 x.2.2.1.2.1 (fun r0 r1 r2 r3 r4 r5 r6 r7 r8 r9 r10 => k [0, 1] [dI r0, dI r1] [(0, .box [dS r2, dL [.s, hI] r3, dL zs2 r4, dL zs1 r5, dL zs0 r6, dL [.s, hI] r7, dL zs3 r8]), (1, .box [dI r9, dL [hI] r10])])
noncomputable def F50 (N : Nat) {R : Type} : CfS R := uC (F49 N) 94 P50 (E50 N)
theorem F50_ok (N : Nat) {R : Type} : FOK (F50 N : CfS R) (runF T) :=
  uC_ok (F49_ok N) (H := noH) (Lp := (L50_1 N)) (X := noX) (rp := []) (ver := c94) rfl (LOK_of (l := [(26, [1, 9, 10, 11], c94_l0)]) (by kernel_rfl) ⟨(updL_ok (O50_l0 N N)), trivial⟩) (fun x k => by kernel_rfl)
def H51 : Nat → Option (List Sh) := fun n => if n = 22000 then some [hI] else none
def design_CheckDesign_c11_c1 (N : Nat) {R : Type} (a0 : Int) (a1 : Int) (a2 : List Int) (a3 : ByteArray) (a4 : zt5) (a5 : zt1) (a6 : zt2) (a7 : zt0) (a8 : zt5) (a9 : zt4) (k0 : Int → ByteArray → zt5 → zt1 → zt2 → zt0 → zt5 → zt4 → Option R) : Option R := (design_each_int_CheckDesign_c11_c1_c1 N a2 a3 a4 a5 a6 a7 a8 a9 a1 a2 (fun y1 y2 y3 y4 y5 y6 y7 y8 y9 y10 y11 => (design_within N y10 0 3 (fun y12 => (design_unless N y12 15 (fun y13 => (design_within N ((y11.length : Nat) : Int) 1 16 (fun y14 => (design_unless N y14 10 (fun y15 => (design_first N [y13, y15, y2] (fun y16 => (k0 y16 y3 y4 y5 y6 y7 y8 y9)))))))))))))
def P51 : AP := ⟨[pI, .agg [pI, pL [hI]], .ptr 0 0], [(0, .box [pS, pL [.s, hI], pL zs2, pL zs1, pL zs0, pL [.s, hI], pL zs3])]⟩
def E51 (N : Nat) {R : Type} (x : P51.den) (k : KK R) : Option R := design_CheckDesign_c11_c1 N x.1.1 x.1.2.1.1 x.1.2.1.2.1 x.2.1.1 x.2.1.2.1 x.2.1.2.2.1 x.2.1.2.2.2.1 x.2.1.2.2.2.2.1 x.2.1.2.2.2.2.2.1 x.2.1.2.2.2.2.2.2.1 (fun r0 r1 r2 r3 r4 r5 r6 r7 => k [0] [dI r0] [(0, .box [dS r1, dL [.s, hI] r2, dL zs2 r3, dL zs1 r4, dL zs0 r5, dL [.s, hI] r6, dL zs3 r7])])
noncomputable def F51 (N : Nat) {R : Type} : CfS R := uC (F50 N) 146 P51 (E51 N)
theorem F51_ok (N : Nat) {R : Type} : FOK (F51 N : CfS R) (runF T) :=
  uC_ok (F50_ok N) (H := H51) (Lp := noL) (X := noX) (rp := []) (ver := c146) rfl (LOK0 (by kernel_rfl)) (fun x k => by kernel_rfl)
def design_each_Attribute_CheckDesign_c11_c1_l0 (N : Nat) {R : Type} (k0 : Int → Int → ByteArray → zt5 → zt1 → zt2 → zt0 → zt5 → zt4 → Option R) (k1 : ByteArray → zt5 → zt1 → zt2 → zt0 → zt5 → zt4 → Option R) : Nat → zt4 → Int → Int → ByteArray → zt5 → zt1 → zt2 → zt0 → zt5 → zt4 → Option R
  | 0, _, _, _, _, _, _, _, _, _, _ => none
  | n + 1, b0, b1, b2, b3, b4, b5, b6, b7, b8, b9 => (bif decide (b2 < b1) then ((at? b0 b2).bind fun x1 => (design_CheckDesign_c11_c1 N b2 x1.1 x1.2 b3 b4 b5 b6 b7 b8 b9 (fun y2 y3 y4 y5 y6 y7 y8 y9 => (bif decide (y2 ≠ 0) then (k0 b2 y2 y3 y4 y5 y6 y7 y8 y9) else (design_each_Attribute_CheckDesign_c11_c1_l0 N k0 k1 n b0 b1 (w64 (b2 + 1)) y3 y4 y5 y6 y7 y8 y9))))) else (k1 b3 b4 b5 b6 b7 b8 b9))
def P52_l0 : SP := ⟨[(1, .fn 146 [.ptr 0 0]), (9, pL zs3), (10, pI), (11, pI), (100001, .fn 146 [.ptr 0 0])], [(0, .box [pS, pL [.s, hI], pL zs2, pL zs1, pL zs0, pL [.s, hI], pL zs3])]⟩
def E52_l0 (N : Nat) {R : Type} (n : Nat) (x : P52_l0.den) (k : KS R) : Option R := design_each_Attribute_CheckDesign_c11_c1_l0 N (fun r0 r1 r2 r3 r4 r5 r6 r7 r8 => k .ret ⟨[(4, dI r0), (5, dI r1), (100001, .fn 146 [.ptr 0 0])], [(0, .box [dS r2, dL [.s, hI] r3, dL zs2 r4, dL zs1 r5, dL zs0 r6, dL [.s, hI] r7, dL zs3 r8])]⟩) (fun r0 r1 r2 r3 r4 r5 r6 => k (.ex 0) ⟨[(100001, .fn 146 [.ptr 0 0])], [(0, .box [dS r0, dL [.s, hI] r1, dL zs2 r2, dL zs1 r3, dL zs0 r4, dL [.s, hI] r5, dL zs3 r6])]⟩) n x.1.2.1 x.1.2.2.1 x.1.2.2.2.1 x.2.1.1 x.2.1.2.1 x.2.1.2.2.1 x.2.1.2.2.2.1 x.2.1.2.2.2.2.1 x.2.1.2.2.2.2.2.1 x.2.1.2.2.2.2.2.2.1
theorem O52_l0 (N : Nat) {R : Type} : LpG T P52_l0 (E52_l0 N (R := R)) [1, 9, 10, 11] c145_l0 :=
  loop_ok (F51_ok N) (H := noH) (Lp := noL) (X := noX) (p := 26) (LOK0 (by kernel_rfl)) (fun _ _ => rfl) (fun n x k => by kernel_rfl)
noncomputable def L52_1 (N : Nat) {R : Type} : LpS R := updL noL 26 (lent' P52_l0 (E52_l0 N N))
def design_each_Attribute_CheckDesign_c11_c1 (N : Nat) {R : Type} (a0 : zt4) (a1 : ByteArray) (a2 : zt5) (a3 : zt1) (a4 : zt2) (a5 : zt0) (a6 : zt5) (a7 : zt4) (k0 : Int → Int → ByteArray → zt5 → zt1 → zt2 → zt0 → zt5 → zt4 → Option R) : Option R := (design_each_Attribute_CheckDesign_c11_c1_l0 N k0 (fun z19 z20 z21 z22 z23 z24 z25 => (k0 0 0 z19 z20 z21 z22 z23 z24 z25)) N a0 ((a0.length : Nat) : Int) 0 a1 a2 a3 a4 a5 a6 a7)
def P52 : AP := ⟨[pL zs3, .fn 146 [.ptr 0 0]], [(0, .box [pS, pL [.s, hI], pL zs2, pL zs1, pL zs0, pL [.s, hI], pL zs3])]⟩
def E52 (N : Nat) {R : Type} (x : P52.den) (k : KK R) : Option R := design_each_Attribute_CheckDesign_c11_c1 N x.1.1 x.2.1.1 x.2.1.2.1 x.2.1.2.2.1 x.2.1.2.2.2.1 x.2.1.2.2.2.2.1 x.2.1.2.2.2.2.2.1 x.2.1.2.2.2.2.2.2.1 (fun r0 r1 r2 r3 r4 r5 r6 r7 r8 => k [0] [dI r0, dI r1] [(0, .box [dS r2, dL [.s, hI] r3, dL zs2 r4, dL zs1 r5, dL zs0 r6, dL [.s, hI] r7, dL zs3 r8])])
noncomputable def F52 (N : Nat) {R : Type} : CfS R := uC (F51 N) 145 P52 (E52 N)
theorem F52_ok (N : Nat) {R : Type} : FOK (F52 N : CfS R) (runF T) :=
  uC_ok (F51_ok N) (H := noH) (Lp := (L52_1 N)) (X := noX) (rp := []) (ver := c145) rfl (LOK_of (l := [(26, [1, 9, 10, 11], c145_l0)]) (by kernel_rfl) ⟨(updL_ok (O52_l0 N N)), trivial⟩) (fun x k => by kernel_rfl)
def design_CheckDesign_c11 (N : Nat) {R : Type} (a0 : ByteArray) (a1 : zt5) (a2 : zt1) (a3 : zt2) (a4 : zt0) (a5 : zt5) (a6 : zt4) (k0 : Int → Int → ByteArray → zt5 → zt1 → zt2 → zt0 → zt5 → zt4 → Option R) : Option R := (design_each_Attribute_CheckDesign_c11_c1 N a6 a0 a1 a2 a3 a4 a5 a6 k0)
def P53 : AP := ⟨[.ptr 0 0], [(0, .box [pS, pL [.s, hI], pL zs2, pL zs1, pL zs0, pL [.s, hI], pL zs3])]⟩
def E53 (N : Nat) {R : Type} (x : P53.den) (k : KK R) : Option R := design_CheckDesign_c11 N x.2.1.1 x.2.1.2.1 x.2.1.2.2.1 x.2.1.2.2.2.1 x.2.1.2.2.2.2.1 x.2.1.2.2.2.2.2.1 x.2.1.2.2.2.2.2.2.1 (fun r0 r1 r2 r3 r4 r5 r6 r7 r8 => k [0] [dI r0, dI r1] [(0, .box [dS r2, dL [.s, hI] r3, dL zs2 r4, dL zs1 r5, dL zs0 r6, dL [.s, hI] r7, dL zs3 r8])])
noncomputable def F53 (N : Nat) {R : Type} : CfS R := uC (F52 N) 144 P53 (E53 N)
theorem F53_ok (N : Nat) {R : Type} : FOK (F53 N : CfS R) (runF T) :=
  uC_ok (F52_ok N) (H := noH) (Lp := noL) (X := noX) (rp := []) (ver := c144) rfl (LOK0 (by kernel_rfl)) (fun x k => by kernel_rfl)
def design_CheckDesign_c10 (N : Nat) {R : Type} (a0 : ByteArray) (a1 : zt5) (a2 : zt1) (a3 : zt2) (a4 : zt0) (a5 : zt5) (a6 : zt4) (k0 : Int → Int → ByteArray → zt5 → zt1 → zt2 → zt0 → zt5 → zt4 → Option R) : Option R := (design_unless N (decide (((a6.length : Nat) : Int) ≤ 16)) 8 (fun y1 => (k0 0 y1 a0 a1 a2 a3 a4 a5 a6)))
def P54 : AP := ⟨[.ptr 0 0], [(0, .box [pS, pL [.s, hI], pL zs2, pL zs1, pL zs0, pL [.s, hI], pL zs3])]⟩
def E54 (N : Nat) {R : Type} (x : P54.den) (k : KK R) : Option R := design_CheckDesign_c10 N x.2.1.1 x.2.1.2.1 x.2.1.2.2.1 x.2.1.2.2.2.1 x.2.1.2.2.2.2.1 x.2.1.2.2.2.2.2.1 x.2.1.2.2.2.2.2.2.1 (fun r0 r1 r2 r3 r4 r5 r6 r7 r8 => k [0] [dI r0, dI r1] [(0, .box [dS r2, dL [.s, hI] r3, dL zs2 r4, dL zs1 r5, dL zs0 r6, dL [.s, hI] r7, dL zs3 r8])])
noncomputable def F54 (N : Nat) {R : Type} : CfS R := uC (F53 N) 143 P54 (E54 N)
theorem F54_ok (N : Nat) {R : Type} : FOK (F54 N : CfS R) (runF T) :=
  uC_ok (F53_ok N) (H := noH) (Lp := noL) (X := noX) (rp := []) (ver := c143) rfl (LOK0 (by kernel_rfl)) (fun x k => by kernel_rfl)
def design_isName_l0 (N : Nat) {R : Type} (k0 : Bool → Option R) (k1 : ByteArray → Option R) : Nat → ByteArray → Int → Int → Option R
  | 0, _, _, _ => none
  | n + 1, b0, b1, b2 => (bif decide (b2 < b1) then ((byte? b0 b2).bind fun x1 => (design_within N (w64 x1) 97 122 (fun y2 => (bif y2 then (design_isName_l0 N k0 k1 n b0 b1 (w64 (b2 + 1))) else (design_within N (w64 x1) 65 90 (fun y3 => (bif (!y3) then (bif decide (b2 = 0) then (k0 false) else (bif decide ((w64 x1) ≠ 95) then (design_within N (w64 x1) 48 57 (fun y4 => (bif (!y4) then (k0 false) else (design_isName_l0 N k0 k1 n b0 b1 (w64 (b2 + 1)))))) else (design_isName_l0 N k0 k1 n b0 b1 (w64 (b2 + 1))))) else (design_isName_l0 N k0 k1 n b0 b1 (w64 (b2 + 1)))))))))) else (k1 b0))
def P55_l0 : SP := ⟨[(0, pS), (7, pI), (8, pI)], []⟩
def E55_l0 (N : Nat) {R : Type} (n : Nat) (x : P55_l0.den) (k : KS R) : Option R := design_isName_l0 N (fun r0 => k .ret ⟨[(2, dB r0)], []⟩) (fun r0 => k (.ex 0) ⟨[(0, dS r0)], []⟩) n x.1.1 x.1.2.1 x.1.2.2.1
theorem O55_l0 (N : Nat) {R : Type} : LpG T P55_l0 (E55_l0 N (R := R)) [0, 7, 8] c118_l0 :=
  loop_ok (F54_ok N) (H := noH) (Lp := noL) (X := noX) (p := 26) (LOK0 (by kernel_rfl)) (fun _ _ => rfl) (fun n x k => by kernel_rfl)
noncomputable def L55_1 (N : Nat) {R : Type} : LpS R := updL noL 26 (lent' P55_l0 (E55_l0 N N))
def design_isName (N : Nat) {R : Type} (a0 : ByteArray) (k0 : Bool → Option R) : Option R := (design_isName_l0 N k0 (fun z6 => (design_within N ((z6.size : Nat) : Int) 1 16 k0)) N a0 ((a0.size : Nat) : Int) 0)
def P55 : AP := ⟨[pS], []⟩
def E55 (N : Nat) {R : Type} (x : P55.den) (k : KK R) : Option R := design_isName N x.1.1 (fun r0 => k [] [dB r0] [])
noncomputable def F55 (N : Nat) {R : Type} : CfS R := uC (F54 N) 118 P55 (E55 N)
theorem F55_ok (N : Nat) {R : Type} : FOK (F55 N : CfS R) (runF T) :=
  uC_ok (F54_ok N) (H := noH) (Lp := (L55_1 N)) (X := noX) (rp := []) (ver := c118) rfl (LOK_of (l := [(26, [0, 7, 8], c118_l0)]) (by kernel_rfl) ⟨(updL_ok (O55_l0 N N)), trivial⟩) (fun x k => by kernel_rfl)
def H56 : Nat → Option (List Sh) := fun n => if n = 10000 then some [hI] else none
def design_names_err (N : Nat) {R : Type} (a0 : ByteArray) (a1 : Nat) (a2 : zt3) (k0 : Int → Nat → zt3 → Option R) : Option R := (design_isName N a0 (fun y1 => (design_unless N y1 4 (fun y2 => (design_unless N (!(mgetD .s a0 a2 false)) 5 (fun y3 => (design_first N [y2, y3] (fun y4 => (k0 y4 (mclkD .s a0 a1 a2) (mputD .s a0 true a1 a2))))))))))
def P56 : AP := ⟨[.mp 0, pS], [(0, .mp .s .b)]⟩
def E56 (N : Nat) {R : Type} (x : P56.den) (k : KK R) : Option R := design_names_err N x.1.2.1 x.2.1.1 x.2.1.2 (fun r0 r1 r2 => k [0] [dI r0] [(0, .mp .s .b r1 r2)])
noncomputable def F56 (N : Nat) {R : Type} : CfS R := uC (F55 N) 122 P56 (E56 N)
theorem F56_ok (N : Nat) {R : Type} : FOK (F56 N : CfS R) (runF T) :=
  uC_ok (F55_ok N) (H := H56) (Lp := noL) (X := noX) (rp := []) (ver := c122) rfl (LOK0 (by kernel_rfl)) (fun x k => by kernel_rfl)
def design_isNode (N : Nat) {R : Type} (a0 : ByteArray) (a1 : zt5) (a2 : zt1) (a3 : zt2) (a4 : zt0) (a5 : zt5) (a6 : zt4) (a7 : Int) (k0 : Bool → Option R) : Option R := (design_within N a7 0 (w64 (((a3.length : Nat) : Int) - 1)) k0)
def P57 : AP := ⟨[.agg [pS, pL [.s, hI], pL zs2, pL zs1, pL zs0, pL [.s, hI], pL zs3], pI], []⟩
def E57 (N : Nat) {R : Type} (x : P57.den) (k : KK R) : Option R := design_isNode N x.1.1.1 x.1.1.2.1 x.1.1.2.2.1 x.1.1.2.2.2.1 x.1.1.2.2.2.2.1 x.1.1.2.2.2.2.2.1 x.1.1.2.2.2.2.2.2.1 x.1.2.1 (fun r0 => k [] [dB r0] [])
noncomputable def F57 (N : Nat) {R : Type} : CfS R := uC (F56 N) 142 P57 (E57 N)
theorem F57_ok (N : Nat) {R : Type} : FOK (F57 N : CfS R) (runF T) :=
  uC_ok (F56_ok N) (H := noH) (Lp := noL) (X := noX) (rp := []) (ver := c142) rfl (LOK0 (by kernel_rfl)) (fun x k => by kernel_rfl)
def H58 : Nat → Option (List Sh) := fun n => if n = 12000 then some [hI] else none
def design_CheckDesign_c9_c1 (N : Nat) {R : Type} (a0 : Int) (a1 : ByteArray) (a2 : Int) (a3 : Nat) (a4 : zt3) (a5 : ByteArray) (a6 : zt5) (a7 : zt1) (a8 : zt2) (a9 : zt0) (a10 : zt5) (a11 : zt4) (k0 : Int → Nat → zt3 → ByteArray → zt5 → zt1 → zt2 → zt0 → zt5 → zt4 → Option R) : Option R := (design_names_err N a1 a3 a4 (fun y1 y2 y3 => (design_isNode N a5 a6 a7 a8 a9 a10 a11 a2 (fun y4 => (design_unless N y4 9 (fun y5 => (design_first N [y1, y5] (fun y6 => (k0 y6 y2 y3 a5 a6 a7 a8 a9 a10 a11)))))))))
def P58 : AP := ⟨[pI, .agg [pS, pI], .ptr 0 0, .ptr 2 0], [(0, .box [.mp 1]), (1, .mp .s .b), (2, .box [pS, pL [.s, hI], pL zs2, pL zs1, pL zs0, pL [.s, hI], pL zs3])]⟩
def E58 (N : Nat) {R : Type} (x : P58.den) (k : KK R) : Option R := design_CheckDesign_c9_c1 N x.1.1 x.1.2.1.1 x.1.2.1.2.1 x.2.2.1.1 x.2.2.1.2 x.2.2.2.1.1 x.2.2.2.1.2.1 x.2.2.2.1.2.2.1 x.2.2.2.1.2.2.2.1 x.2.2.2.1.2.2.2.2.1 x.2.2.2.1.2.2.2.2.2.1 x.2.2.2.1.2.2.2.2.2.2.1 (fun r0 r1 r2 r3 r4 r5 r6 r7 r8 r9 => k [0, 2, 1] [dI r0] [(0, .box [.mp 1]), (1, .mp .s .b r1 r2), (2, .box [dS r3, dL [.s, hI] r4, dL zs2 r5, dL zs1 r6, dL zs0 r7, dL [.s, hI] r8, dL zs3 r9])])
noncomputable def F58 (N : Nat) {R : Type} : CfS R := uC (F57 N) 141 P58 (E58 N)
theorem F58_ok (N : Nat) {R : Type} : FOK (F58 N : CfS R) (runF T) :=
  uC_ok (F57_ok N) (H := H58) (Lp := noL) (X := noX) (rp := []) (ver := c141) rfl (LOK0 (by kernel_rfl)) (fun x k => by kernel_rfl)
def design_each_Output_CheckDesign_c9_c1_l0 (N : Nat) {R : Type} (k0 : Int → Int → Nat → zt3 → ByteArray → zt5 → zt1 → zt2 → zt0 → zt5 → zt4 → Option R) (k1 : Nat → zt3 → ByteArray → zt5 → zt1 → zt2 → zt0 → zt5 → zt4 → Option R) : Nat → zt5 → Int → Int → Nat → zt3 → ByteArray → zt5 → zt1 → zt2 → zt0 → zt5 → zt4 → Option R
  | 0, _, _, _, _, _, _, _, _, _, _, _, _ => none
  | n + 1, b0, b1, b2, b3, b4, b5, b6, b7, b8, b9, b10, b11 => (bif decide (b2 < b1) then ((at? b0 b2).bind fun x1 => (design_CheckDesign_c9_c1 N b2 x1.1 x1.2 b3 b4 b5 b6 b7 b8 b9 b10 b11 (fun y2 y3 y4 y5 y6 y7 y8 y9 y10 y11 => (bif decide (y2 ≠ 0) then (k0 b2 y2 y3 y4 y5 y6 y7 y8 y9 y10 y11) else (design_each_Output_CheckDesign_c9_c1_l0 N k0 k1 n b0 b1 (w64 (b2 + 1)) y3 y4 y5 y6 y7 y8 y9 y10 y11))))) else (k1 b3 b4 b5 b6 b7 b8 b9 b10 b11))
def P59_l0 : SP := ⟨[(1, .fn 141 [.ptr 0 0, .ptr 2 0]), (9, pL [.s, hI]), (10, pI), (11, pI), (100001, .fn 141 [.ptr 0 0, .ptr 2 0]), (100002, .mp 1)], [(0, .box [.mp 1]), (1, .mp .s .b), (2, .box [pS, pL [.s, hI], pL zs2, pL zs1, pL zs0, pL [.s, hI], pL zs3])]⟩
def E59_l0 (N : Nat) {R : Type} (n : Nat) (x : P59_l0.den) (k : KS R) : Option R := design_each_Output_CheckDesign_c9_c1_l0 N (fun r0 r1 r2 r3 r4 r5 r6 r7 r8 r9 r10 => k .ret ⟨[(4, dI r0), (5, dI r1), (100001, .fn 141 [.ptr 0 0, .ptr 2 0]), (100002, .mp 1)], [(0, .box [.mp 1]), (1, .mp .s .b r2 r3), (2, .box [dS r4, dL [.s, hI] r5, dL zs2 r6, dL zs1 r7, dL zs0 r8, dL [.s, hI] r9, dL zs3 r10])]⟩) (fun r0 r1 r2 r3 r4 r5 r6 r7 r8 => k (.ex 0) ⟨[(100001, .fn 141 [.ptr 0 0, .ptr 2 0]), (100002, .mp 1)], [(0, .box [.mp 1]), (1, .mp .s .b r0 r1), (2, .box [dS r2, dL [.s, hI] r3, dL zs2 r4, dL zs1 r5, dL zs0 r6, dL [.s, hI] r7, dL zs3 r8])]⟩) n x.1.2.1 x.1.2.2.1 x.1.2.2.2.1 x.2.2.1.1 x.2.2.1.2 x.2.2.2.1.1 x.2.2.2.1.2.1 x.2.2.2.1.2.2.1 x.2.2.2.1.2.2.2.1 x.2.2.2.1.2.2.2.2.1 x.2.2.2.1.2.2.2.2.2.1 x.2.2.2.1.2.2.2.2.2.2.1
theorem O59_l0 (N : Nat) {R : Type} : LpG T P59_l0 (E59_l0 N (R := R)) [1, 9, 10, 11] c140_l0 :=
  loop_ok (F58_ok N) (H := noH) (Lp := noL) (X := noX) (p := 26) (LOK0 (by kernel_rfl)) (fun _ _ => rfl) (fun n x k => by kernel_rfl)
noncomputable def L59_1 (N : Nat) {R : Type} : LpS R := updL noL 26 (lent' P59_l0 (E59_l0 N N))
def design_each_Output_CheckDesign_c9_c1 (N : Nat) {R : Type} (a0 : zt5) (a1 : Nat) (a2 : zt3) (a3 : ByteArray) (a4 : zt5) (a5 : zt1) (a6 : zt2) (a7 : zt0) (a8 : zt5) (a9 : zt4) (k0 : Int → Int → Nat → zt3 → ByteArray → zt5 → zt1 → zt2 → zt0 → zt5 → zt4 → Option R) : Option R := (design_each_Output_CheckDesign_c9_c1_l0 N k0 (fun z23 z24 z25 z26 z27 z28 z29 z30 z31 => (k0 0 0 z23 z24 z25 z26 z27 z28 z29 z30 z31)) N a0 ((a0.length : Nat) : Int) 0 a1 a2 a3 a4 a5 a6 a7 a8 a9)
def P59 : AP := ⟨[pL [.s, hI], .fn 141 [.ptr 0 0, .ptr 2 0]], [(0, .box [.mp 1]), (1, .mp .s .b), (2, .box [pS, pL [.s, hI], pL zs2, pL zs1, pL zs0, pL [.s, hI], pL zs3])]⟩
def E59 (N : Nat) {R : Type} (x : P59.den) (k : KK R) : Option R := design_each_Output_CheckDesign_c9_c1 N x.1.1 x.2.2.1.1 x.2.2.1.2 x.2.2.2.1.1 x.2.2.2.1.2.1 x.2.2.2.1.2.2.1 x.2.2.2.1.2.2.2.1 x.2.2.2.1.2.2.2.2.1 x.2.2.2.1.2.2.2.2.2.1 x.2.2.2.1.2.2.2.2.2.2.1 (fun r0 r1 r2 r3 r4 r5 r6 r7 r8 r9 r10 => k [0, 2, 1] [dI r0, dI r1] [(0, .box [.mp 1]), (1, .mp .s .b r2 r3), (2, .box [dS r4, dL [.s, hI] r5, dL zs2 r6, dL zs1 r7, dL zs0 r8, dL [.s, hI] r9, dL zs3 r10])])
noncomputable def F59 (N : Nat) {R : Type} : CfS R := uC (F58 N) 140 P59 (E59 N)
theorem F59_ok (N : Nat) {R : Type} : FOK (F59 N : CfS R) (runF T) :=
  uC_ok (F58_ok N) (H := noH) (Lp := (L59_1 N)) (X := noX) (rp := []) (ver := c140) rfl (LOK_of (l := [(26, [1, 9, 10, 11], c140_l0)]) (by kernel_rfl) ⟨(updL_ok (O59_l0 N N)), trivial⟩) (fun x k => by kernel_rfl)
def design_CheckDesign_c9 (N : Nat) {R : Type} (a0 : ByteArray) (a1 : zt5) (a2 : zt1) (a3 : zt2) (a4 : zt0) (a5 : zt5) (a6 : zt4) (a7 : Nat) (a8 : zt3) (k0 : Int → Int → ByteArray → zt5 → zt1 → zt2 → zt0 → zt5 → zt4 → Nat → zt3 → Option R) : Option R := (design_each_Output_CheckDesign_c9_c1 N a5 a7 a8 a0 a1 a2 a3 a4 a5 a6 (fun y1 y2 y3 y4 y5 y6 y7 y8 y9 y10 y11 => (k0 y1 y2 y5 y6 y7 y8 y9 y10 y11 y3 y4)))
def P60 : AP := ⟨[.ptr 0 0, .ptr 1 0], [(0, .box [pS, pL [.s, hI], pL zs2, pL zs1, pL zs0, pL [.s, hI], pL zs3]), (1, .box [.mp 2]), (2, .mp .s .b)]⟩
def E60 (N : Nat) {R : Type} (x : P60.den) (k : KK R) : Option R := design_CheckDesign_c9 N x.2.1.1 x.2.1.2.1 x.2.1.2.2.1 x.2.1.2.2.2.1 x.2.1.2.2.2.2.1 x.2.1.2.2.2.2.2.1 x.2.1.2.2.2.2.2.2.1 x.2.2.2.1.1 x.2.2.2.1.2 (fun r0 r1 r2 r3 r4 r5 r6 r7 r8 r9 r10 => k [0, 1, 2] [dI r0, dI r1] [(0, .box [dS r2, dL [.s, hI] r3, dL zs2 r4, dL zs1 r5, dL zs0 r6, dL [.s, hI] r7, dL zs3 r8]), (1, .box [.mp 2]), (2, .mp .s .b r9 r10)])
noncomputable def F60 (N : Nat) {R : Type} : CfS R := uC (F59 N) 139 P60 (E60 N)
theorem F60_ok (N : Nat) {R : Type} : FOK (F60 N : CfS R) (runF T) :=
  uC_ok (F59_ok N) (H := noH) (Lp := noL) (X := noX) (rp := []) (ver := c139) rfl (LOK0 (by kernel_rfl)) (fun x k => by kernel_rfl)
def design_CheckDesign_c8 (N : Nat) {R : Type} (a0 : ByteArray) (a1 : zt5) (a2 : zt1) (a3 : zt2) (a4 : zt0) (a5 : zt5) (a6 : zt4) (k0 : Int → Int → ByteArray → zt5 → zt1 → zt2 → zt0 → zt5 → zt4 → Option R) : Option R := (design_unless N (decide (((a5.length : Nat) : Int) ≤ 12)) 8 (fun y1 => (k0 0 y1 a0 a1 a2 a3 a4 a5 a6)))
def P61 : AP := ⟨[.ptr 0 0], [(0, .box [pS, pL [.s, hI], pL zs2, pL zs1, pL zs0, pL [.s, hI], pL zs3])]⟩
def E61 (N : Nat) {R : Type} (x : P61.den) (k : KK R) : Option R := design_CheckDesign_c8 N x.2.1.1 x.2.1.2.1 x.2.1.2.2.1 x.2.1.2.2.2.1 x.2.1.2.2.2.2.1 x.2.1.2.2.2.2.2.1 x.2.1.2.2.2.2.2.2.1 (fun r0 r1 r2 r3 r4 r5 r6 r7 r8 => k [0] [dI r0, dI r1] [(0, .box [dS r2, dL [.s, hI] r3, dL zs2 r4, dL zs1 r5, dL zs0 r6, dL [.s, hI] r7, dL zs3 r8])])
noncomputable def F61 (N : Nat) {R : Type} : CfS R := uC (F60 N) 138 P61 (E61 N)
theorem F61_ok (N : Nat) {R : Type} : FOK (F61 N : CfS R) (runF T) :=
  uC_ok (F60_ok N) (H := noH) (Lp := noL) (X := noX) (rp := []) (ver := c138) rfl (LOK0 (by kernel_rfl)) (fun x k => by kernel_rfl)
def design_isCondition (N : Nat) {R : Type} (a0 : ByteArray) (a1 : zt5) (a2 : zt1) (a3 : zt2) (a4 : zt0) (a5 : zt5) (a6 : zt4) (a7 : Int) (k0 : Bool → Option R) : Option R := (design_isNode N a0 a1 a2 a3 a4 a5 a6 a7 (fun y1 => (bif y1 then ((at? a3 a7).bind fun x2 => (k0 (decide (x2.2.1 = 1)))) else (k0 false))))
def P62 : AP := ⟨[.agg [pS, pL [.s, hI], pL zs2, pL zs1, pL zs0, pL [.s, hI], pL zs3], pI], []⟩
def E62 (N : Nat) {R : Type} (x : P62.den) (k : KK R) : Option R := design_isCondition N x.1.1.1 x.1.1.2.1 x.1.1.2.2.1 x.1.1.2.2.2.1 x.1.1.2.2.2.2.1 x.1.1.2.2.2.2.2.1 x.1.1.2.2.2.2.2.2.1 x.1.2.1 (fun r0 => k [] [dB r0] [])
noncomputable def F62 (N : Nat) {R : Type} : CfS R := uC (F61 N) 134 P62 (E62 N)
theorem F62_ok (N : Nat) {R : Type} : FOK (F62 N : CfS R) (runF T) :=
  uC_ok (F61_ok N) (H := noH) (Lp := noL) (X := noX) (rp := []) (ver := c134) rfl (LOK0 (by kernel_rfl)) (fun x k => by kernel_rfl)
def H63 : Nat → Option (List Sh) := fun n => if n = 23000 then some [hI] else none
def design_writeErr (N : Nat) {R : Type} (a0 : ByteArray) (a1 : zt5) (a2 : zt1) (a3 : zt2) (a4 : zt0) (a5 : zt5) (a6 : zt4) (a7 : Int) (a8 : Int) (a9 : Int) (k0 : Int → Option R) : Option R := (design_within N a7 0 (w64 (((a2.length : Nat) : Int) - 1)) (fun y1 => (design_unless N y1 6 (fun y2 => (design_isCondition N a0 a1 a2 a3 a4 a5 a6 a8 (fun y3 => (bif y3 then (design_isNode N a0 a1 a2 a3 a4 a5 a6 a9 (fun y4 => (design_unless N y4 9 (fun y5 => (design_first N [y2, y5] (fun y6 => (bif decide (y6 ≠ 0) then (k0 y6) else ((at? a3 a9).bind fun x7 => ((at? a2 a7).bind fun x8 => (design_unless N (decide (x7.2.1 = x8.2.2.1)) 25 k0)))))))))) else (design_unless N false 9 (fun y10 => (design_first N [y2, y10] (fun y11 => (bif decide (y11 ≠ 0) then (k0 y11) else ((at? a3 a9).bind fun x12 => ((at? a2 a7).bind fun x13 => (design_unless N (decide (x12.2.1 = x13.2.2.1)) 25 k0)))))))))))))))
def P63 : AP := ⟨[.agg [pS, pL [.s, hI], pL zs2, pL zs1, pL zs0, pL [.s, hI], pL zs3], .agg [pI, pI, pI]], []⟩
def E63 (N : Nat) {R : Type} (x : P63.den) (k : KK R) : Option R := design_writeErr N x.1.1.1 x.1.1.2.1 x.1.1.2.2.1 x.1.1.2.2.2.1 x.1.1.2.2.2.2.1 x.1.1.2.2.2.2.2.1 x.1.1.2.2.2.2.2.2.1 x.1.2.1.1 x.1.2.1.2.1 x.1.2.1.2.2.1 (fun r0 => k [] [dI r0] [])
noncomputable def F63 (N : Nat) {R : Type} : CfS R := uC (F62 N) 137 P63 (E63 N)
theorem F63_ok (N : Nat) {R : Type} : FOK (F63 N : CfS R) (runF T) :=
  uC_ok (F62_ok N) (H := H63) (Lp := noL) (X := noX) (rp := []) (ver := c137) rfl (LOK0 (by kernel_rfl)) (fun x k => by kernel_rfl)
def design_CheckDesign_c7_c1_c1 (N : Nat) {R : Type} (a0 : Int) (a1 : Int) (a2 : Int) (a3 : Int) (a4 : ByteArray) (a5 : zt5) (a6 : zt1) (a7 : zt2) (a8 : zt0) (a9 : zt5) (a10 : zt4) (k0 : Int → ByteArray → zt5 → zt1 → zt2 → zt0 → zt5 → zt4 → Option R) : Option R := (design_writeErr N a4 a5 a6 a7 a8 a9 a10 a1 a2 a3 (fun y1 => (k0 y1 a4 a5 a6 a7 a8 a9 a10)))
def P64 : AP := ⟨[pI, .agg [pI, pI, pI], .ptr 0 0], [(0, .box [pS, pL [.s, hI], pL zs2, pL zs1, pL zs0, pL [.s, hI], pL zs3])]⟩
def E64 (N : Nat) {R : Type} (x : P64.den) (k : KK R) : Option R := design_CheckDesign_c7_c1_c1 N x.1.1 x.1.2.1.1 x.1.2.1.2.1 x.1.2.1.2.2.1 x.2.1.1 x.2.1.2.1 x.2.1.2.2.1 x.2.1.2.2.2.1 x.2.1.2.2.2.2.1 x.2.1.2.2.2.2.2.1 x.2.1.2.2.2.2.2.2.1 (fun r0 r1 r2 r3 r4 r5 r6 r7 => k [0] [dI r0] [(0, .box [dS r1, dL [.s, hI] r2, dL zs2 r3, dL zs1 r4, dL zs0 r5, dL [.s, hI] r6, dL zs3 r7])])
noncomputable def F64 (N : Nat) {R : Type} : CfS R := uC (F63 N) 136 P64 (E64 N)
theorem F64_ok (N : Nat) {R : Type} : FOK (F64 N : CfS R) (runF T) :=
  uC_ok (F63_ok N) (H := noH) (Lp := noL) (X := noX) (rp := []) (ver := c136) rfl (LOK0 (by kernel_rfl)) (fun x k => by kernel_rfl)
def design_each_Write_CheckDesign_c7_c1_c1_l0 (N : Nat) {R : Type} (k0 : Int → Int → ByteArray → zt5 → zt1 → zt2 → zt0 → zt5 → zt4 → Option R) (k1 : ByteArray → zt5 → zt1 → zt2 → zt0 → zt5 → zt4 → Option R) : Nat → zt6 → Int → Int → ByteArray → zt5 → zt1 → zt2 → zt0 → zt5 → zt4 → Option R
  | 0, _, _, _, _, _, _, _, _, _, _ => none
  | n + 1, b0, b1, b2, b3, b4, b5, b6, b7, b8, b9 => (bif decide (b2 < b1) then ((at? b0 b2).bind fun x1 => (design_CheckDesign_c7_c1_c1 N b2 x1.1 x1.2.1 x1.2.2 b3 b4 b5 b6 b7 b8 b9 (fun y2 y3 y4 y5 y6 y7 y8 y9 => (bif decide (y2 ≠ 0) then (k0 b2 y2 y3 y4 y5 y6 y7 y8 y9) else (design_each_Write_CheckDesign_c7_c1_c1_l0 N k0 k1 n b0 b1 (w64 (b2 + 1)) y3 y4 y5 y6 y7 y8 y9))))) else (k1 b3 b4 b5 b6 b7 b8 b9))
def P65_l0 : SP := ⟨[(1, .fn 136 [.ptr 0 0]), (9, pL zs4), (10, pI), (11, pI), (100001, .fn 136 [.ptr 0 0])], [(0, .box [pS, pL [.s, hI], pL zs2, pL zs1, pL zs0, pL [.s, hI], pL zs3])]⟩
def E65_l0 (N : Nat) {R : Type} (n : Nat) (x : P65_l0.den) (k : KS R) : Option R := design_each_Write_CheckDesign_c7_c1_c1_l0 N (fun r0 r1 r2 r3 r4 r5 r6 r7 r8 => k .ret ⟨[(4, dI r0), (5, dI r1), (100001, .fn 136 [.ptr 0 0])], [(0, .box [dS r2, dL [.s, hI] r3, dL zs2 r4, dL zs1 r5, dL zs0 r6, dL [.s, hI] r7, dL zs3 r8])]⟩) (fun r0 r1 r2 r3 r4 r5 r6 => k (.ex 0) ⟨[(100001, .fn 136 [.ptr 0 0])], [(0, .box [dS r0, dL [.s, hI] r1, dL zs2 r2, dL zs1 r3, dL zs0 r4, dL [.s, hI] r5, dL zs3 r6])]⟩) n x.1.2.1 x.1.2.2.1 x.1.2.2.2.1 x.2.1.1 x.2.1.2.1 x.2.1.2.2.1 x.2.1.2.2.2.1 x.2.1.2.2.2.2.1 x.2.1.2.2.2.2.2.1 x.2.1.2.2.2.2.2.2.1
theorem O65_l0 (N : Nat) {R : Type} : LpG T P65_l0 (E65_l0 N (R := R)) [1, 9, 10, 11] c135_l0 :=
  loop_ok (F64_ok N) (H := noH) (Lp := noL) (X := noX) (p := 26) (LOK0 (by kernel_rfl)) (fun _ _ => rfl) (fun n x k => by kernel_rfl)
noncomputable def L65_1 (N : Nat) {R : Type} : LpS R := updL noL 26 (lent' P65_l0 (E65_l0 N N))
def design_each_Write_CheckDesign_c7_c1_c1 (N : Nat) {R : Type} (a0 : zt6) (a1 : ByteArray) (a2 : zt5) (a3 : zt1) (a4 : zt2) (a5 : zt0) (a6 : zt5) (a7 : zt4) (k0 : Int → Int → ByteArray → zt5 → zt1 → zt2 → zt0 → zt5 → zt4 → Option R) : Option R := (design_each_Write_CheckDesign_c7_c1_c1_l0 N k0 (fun z19 z20 z21 z22 z23 z24 z25 => (k0 0 0 z19 z20 z21 z22 z23 z24 z25)) N a0 ((a0.length : Nat) : Int) 0 a1 a2 a3 a4 a5 a6 a7)
def P65 : AP := ⟨[pL zs4, .fn 136 [.ptr 0 0]], [(0, .box [pS, pL [.s, hI], pL zs2, pL zs1, pL zs0, pL [.s, hI], pL zs3])]⟩
def E65 (N : Nat) {R : Type} (x : P65.den) (k : KK R) : Option R := design_each_Write_CheckDesign_c7_c1_c1 N x.1.1 x.2.1.1 x.2.1.2.1 x.2.1.2.2.1 x.2.1.2.2.2.1 x.2.1.2.2.2.2.1 x.2.1.2.2.2.2.2.1 x.2.1.2.2.2.2.2.2.1 (fun r0 r1 r2 r3 r4 r5 r6 r7 r8 => k [0] [dI r0, dI r1] [(0, .box [dS r2, dL [.s, hI] r3, dL zs2 r4, dL zs1 r5, dL zs0 r6, dL [.s, hI] r7, dL zs3 r8])])
noncomputable def F65 (N : Nat) {R : Type} : CfS R := uC (F64 N) 135 P65 (E65 N)
theorem F65_ok (N : Nat) {R : Type} : FOK (F65 N : CfS R) (runF T) :=
  uC_ok (F64_ok N) (H := noH) (Lp := (L65_1 N)) (X := noX) (rp := []) (ver := c135) rfl (LOK_of (l := [(26, [1, 9, 10, 11], c135_l0)]) (by kernel_rfl) ⟨(updL_ok (O65_l0 N N)), trivial⟩) (fun x k => by kernel_rfl)
def H66 : Nat → Option (List Sh) := fun n => if n = 17000 then some [hI] else if n = 31000 then some [hI] else none
def design_CheckDesign_c7_c1 (N : Nat) {R : Type} (a0 : Int) (a1 : ByteArray) (a2 : Int) (a3 : zt6) (a4 : Nat) (a5 : zt3) (a6 : ByteArray) (a7 : zt5) (a8 : zt1) (a9 : zt2) (a10 : zt0) (a11 : zt5) (a12 : zt4) (k0 : Int → Nat → zt3 → ByteArray → zt5 → zt1 → zt2 → zt0 → zt5 → zt4 → Option R) : Option R := (design_names_err N a1 a4 a5 (fun y1 y2 y3 => (design_isCondition N a6 a7 a8 a9 a10 a11 a12 a2 (fun y4 => (design_unless N y4 9 (fun y5 => (design_unless N (decide (((a3.length : Nat) : Int) ≤ 16)) 8 (fun y6 => (design_first N [y1, y5, y6] (fun y7 => (design_each_Write_CheckDesign_c7_c1_c1 N a3 a6 a7 a8 a9 a10 a11 a12 (fun y8 y9 y10 y11 y12 y13 y14 y15 y16 => (design_first N [y7, y9] (fun y17 => (k0 y17 y2 y3 y10 y11 y12 y13 y14 y15 y16)))))))))))))))
def P66 : AP := ⟨[pI, .agg [pS, pI, pL zs4], .ptr 0 0, .ptr 2 0], [(0, .box [.mp 1]), (1, .mp .s .b), (2, .box [pS, pL [.s, hI], pL zs2, pL zs1, pL zs0, pL [.s, hI], pL zs3])]⟩
def E66 (N : Nat) {R : Type} (x : P66.den) (k : KK R) : Option R := design_CheckDesign_c7_c1 N x.1.1 x.1.2.1.1 x.1.2.1.2.1 x.1.2.1.2.2.1 x.2.2.1.1 x.2.2.1.2 x.2.2.2.1.1 x.2.2.2.1.2.1 x.2.2.2.1.2.2.1 x.2.2.2.1.2.2.2.1 x.2.2.2.1.2.2.2.2.1 x.2.2.2.1.2.2.2.2.2.1 x.2.2.2.1.2.2.2.2.2.2.1 (fun r0 r1 r2 r3 r4 r5 r6 r7 r8 r9 => k [0, 2, 1] [dI r0] [(0, .box [.mp 1]), (1, .mp .s .b r1 r2), (2, .box [dS r3, dL [.s, hI] r4, dL zs2 r5, dL zs1 r6, dL zs0 r7, dL [.s, hI] r8, dL zs3 r9])])
noncomputable def F66 (N : Nat) {R : Type} : CfS R := uC (F65 N) 133 P66 (E66 N)
theorem F66_ok (N : Nat) {R : Type} : FOK (F66 N : CfS R) (runF T) :=
  uC_ok (F65_ok N) (H := H66) (Lp := noL) (X := noX) (rp := []) (ver := c133) rfl (LOK0 (by kernel_rfl)) (fun x k => by kernel_rfl)
def design_each_Rule_CheckDesign_c7_c1_l0 (N : Nat) {R : Type} (k0 : Int → Int → Nat → zt3 → ByteArray → zt5 → zt1 → zt2 → zt0 → zt5 → zt4 → Option R) (k1 : Nat → zt3 → ByteArray → zt5 → zt1 → zt2 → zt0 → zt5 → zt4 → Option R) : Nat → zt0 → Int → Int → Nat → zt3 → ByteArray → zt5 → zt1 → zt2 → zt0 → zt5 → zt4 → Option R
  | 0, _, _, _, _, _, _, _, _, _, _, _, _ => none
  | n + 1, b0, b1, b2, b3, b4, b5, b6, b7, b8, b9, b10, b11 => (bif decide (b2 < b1) then ((at? b0 b2).bind fun x1 => (design_CheckDesign_c7_c1 N b2 x1.1 x1.2.1 x1.2.2 b3 b4 b5 b6 b7 b8 b9 b10 b11 (fun y2 y3 y4 y5 y6 y7 y8 y9 y10 y11 => (bif decide (y2 ≠ 0) then (k0 b2 y2 y3 y4 y5 y6 y7 y8 y9 y10 y11) else (design_each_Rule_CheckDesign_c7_c1_l0 N k0 k1 n b0 b1 (w64 (b2 + 1)) y3 y4 y5 y6 y7 y8 y9 y10 y11))))) else (k1 b3 b4 b5 b6 b7 b8 b9 b10 b11))
def P67_l0 : SP := ⟨[(1, .fn 133 [.ptr 0 0, .ptr 2 0]), (9, pL zs0), (10, pI), (11, pI), (100001, .fn 133 [.ptr 0 0, .ptr 2 0]), (100002, .mp 1)], [(0, .box [.mp 1]), (1, .mp .s .b), (2, .box [pS, pL [.s, hI], pL zs2, pL zs1, pL zs0, pL [.s, hI], pL zs3])]⟩
def E67_l0 (N : Nat) {R : Type} (n : Nat) (x : P67_l0.den) (k : KS R) : Option R := design_each_Rule_CheckDesign_c7_c1_l0 N (fun r0 r1 r2 r3 r4 r5 r6 r7 r8 r9 r10 => k .ret ⟨[(4, dI r0), (5, dI r1), (100001, .fn 133 [.ptr 0 0, .ptr 2 0]), (100002, .mp 1)], [(0, .box [.mp 1]), (1, .mp .s .b r2 r3), (2, .box [dS r4, dL [.s, hI] r5, dL zs2 r6, dL zs1 r7, dL zs0 r8, dL [.s, hI] r9, dL zs3 r10])]⟩) (fun r0 r1 r2 r3 r4 r5 r6 r7 r8 => k (.ex 0) ⟨[(100001, .fn 133 [.ptr 0 0, .ptr 2 0]), (100002, .mp 1)], [(0, .box [.mp 1]), (1, .mp .s .b r0 r1), (2, .box [dS r2, dL [.s, hI] r3, dL zs2 r4, dL zs1 r5, dL zs0 r6, dL [.s, hI] r7, dL zs3 r8])]⟩) n x.1.2.1 x.1.2.2.1 x.1.2.2.2.1 x.2.2.1.1 x.2.2.1.2 x.2.2.2.1.1 x.2.2.2.1.2.1 x.2.2.2.1.2.2.1 x.2.2.2.1.2.2.2.1 x.2.2.2.1.2.2.2.2.1 x.2.2.2.1.2.2.2.2.2.1 x.2.2.2.1.2.2.2.2.2.2.1
theorem O67_l0 (N : Nat) {R : Type} : LpG T P67_l0 (E67_l0 N (R := R)) [1, 9, 10, 11] c132_l0 :=
  loop_ok (F66_ok N) (H := noH) (Lp := noL) (X := noX) (p := 26) (LOK0 (by kernel_rfl)) (fun _ _ => rfl) (fun n x k => by kernel_rfl)
noncomputable def L67_1 (N : Nat) {R : Type} : LpS R := updL noL 26 (lent' P67_l0 (E67_l0 N N))
def design_each_Rule_CheckDesign_c7_c1 (N : Nat) {R : Type} (a0 : zt0) (a1 : Nat) (a2 : zt3) (a3 : ByteArray) (a4 : zt5) (a5 : zt1) (a6 : zt2) (a7 : zt0) (a8 : zt5) (a9 : zt4) (k0 : Int → Int → Nat → zt3 → ByteArray → zt5 → zt1 → zt2 → zt0 → zt5 → zt4 → Option R) : Option R := (design_each_Rule_CheckDesign_c7_c1_l0 N k0 (fun z23 z24 z25 z26 z27 z28 z29 z30 z31 => (k0 0 0 z23 z24 z25 z26 z27 z28 z29 z30 z31)) N a0 ((a0.length : Nat) : Int) 0 a1 a2 a3 a4 a5 a6 a7 a8 a9)
def P67 : AP := ⟨[pL zs0, .fn 133 [.ptr 0 0, .ptr 2 0]], [(0, .box [.mp 1]), (1, .mp .s .b), (2, .box [pS, pL [.s, hI], pL zs2, pL zs1, pL zs0, pL [.s, hI], pL zs3])]⟩
def E67 (N : Nat) {R : Type} (x : P67.den) (k : KK R) : Option R := design_each_Rule_CheckDesign_c7_c1 N x.1.1 x.2.2.1.1 x.2.2.1.2 x.2.2.2.1.1 x.2.2.2.1.2.1 x.2.2.2.1.2.2.1 x.2.2.2.1.2.2.2.1 x.2.2.2.1.2.2.2.2.1 x.2.2.2.1.2.2.2.2.2.1 x.2.2.2.1.2.2.2.2.2.2.1 (fun r0 r1 r2 r3 r4 r5 r6 r7 r8 r9 r10 => k [0, 2, 1] [dI r0, dI r1] [(0, .box [.mp 1]), (1, .mp .s .b r2 r3), (2, .box [dS r4, dL [.s, hI] r5, dL zs2 r6, dL zs1 r7, dL zs0 r8, dL [.s, hI] r9, dL zs3 r10])])
noncomputable def F67 (N : Nat) {R : Type} : CfS R := uC (F66 N) 132 P67 (E67 N)
theorem F67_ok (N : Nat) {R : Type} : FOK (F67 N : CfS R) (runF T) :=
  uC_ok (F66_ok N) (H := noH) (Lp := (L67_1 N)) (X := noX) (rp := []) (ver := c132) rfl (LOK_of (l := [(26, [1, 9, 10, 11], c132_l0)]) (by kernel_rfl) ⟨(updL_ok (O67_l0 N N)), trivial⟩) (fun x k => by kernel_rfl)
def design_CheckDesign_c7 (N : Nat) {R : Type} (a0 : ByteArray) (a1 : zt5) (a2 : zt1) (a3 : zt2) (a4 : zt0) (a5 : zt5) (a6 : zt4) (a7 : Nat) (a8 : zt3) (k0 : Int → Int → ByteArray → zt5 → zt1 → zt2 → zt0 → zt5 → zt4 → Nat → zt3 → Option R) : Option R := (design_each_Rule_CheckDesign_c7_c1 N a4 a7 a8 a0 a1 a2 a3 a4 a5 a6 (fun y1 y2 y3 y4 y5 y6 y7 y8 y9 y10 y11 => (k0 y1 y2 y5 y6 y7 y8 y9 y10 y11 y3 y4)))
def P68 : AP := ⟨[.ptr 0 0, .ptr 1 0], [(0, .box [pS, pL [.s, hI], pL zs2, pL zs1, pL zs0, pL [.s, hI], pL zs3]), (1, .box [.mp 2]), (2, .mp .s .b)]⟩
def E68 (N : Nat) {R : Type} (x : P68.den) (k : KK R) : Option R := design_CheckDesign_c7 N x.2.1.1 x.2.1.2.1 x.2.1.2.2.1 x.2.1.2.2.2.1 x.2.1.2.2.2.2.1 x.2.1.2.2.2.2.2.1 x.2.1.2.2.2.2.2.2.1 x.2.2.2.1.1 x.2.2.2.1.2 (fun r0 r1 r2 r3 r4 r5 r6 r7 r8 r9 r10 => k [0, 1, 2] [dI r0, dI r1] [(0, .box [dS r2, dL [.s, hI] r3, dL zs2 r4, dL zs1 r5, dL zs0 r6, dL [.s, hI] r7, dL zs3 r8]), (1, .box [.mp 2]), (2, .mp .s .b r9 r10)])
noncomputable def F68 (N : Nat) {R : Type} : CfS R := uC (F67 N) 131 P68 (E68 N)
theorem F68_ok (N : Nat) {R : Type} : FOK (F68 N : CfS R) (runF T) :=
  uC_ok (F67_ok N) (H := noH) (Lp := noL) (X := noX) (rp := []) (ver := c131) rfl (LOK0 (by kernel_rfl)) (fun x k => by kernel_rfl)
def design_CheckDesign_c6 (N : Nat) {R : Type} (a0 : ByteArray) (a1 : zt5) (a2 : zt1) (a3 : zt2) (a4 : zt0) (a5 : zt5) (a6 : zt4) (k0 : Int → Int → ByteArray → zt5 → zt1 → zt2 → zt0 → zt5 → zt4 → Option R) : Option R := (design_unless N (decide (((a4.length : Nat) : Int) ≤ 16)) 8 (fun y1 => (k0 0 y1 a0 a1 a2 a3 a4 a5 a6)))
def P69 : AP := ⟨[.ptr 0 0], [(0, .box [pS, pL [.s, hI], pL zs2, pL zs1, pL zs0, pL [.s, hI], pL zs3])]⟩
def E69 (N : Nat) {R : Type} (x : P69.den) (k : KK R) : Option R := design_CheckDesign_c6 N x.2.1.1 x.2.1.2.1 x.2.1.2.2.1 x.2.1.2.2.2.1 x.2.1.2.2.2.2.1 x.2.1.2.2.2.2.2.1 x.2.1.2.2.2.2.2.2.1 (fun r0 r1 r2 r3 r4 r5 r6 r7 r8 => k [0] [dI r0, dI r1] [(0, .box [dS r2, dL [.s, hI] r3, dL zs2 r4, dL zs1 r5, dL zs0 r6, dL [.s, hI] r7, dL zs3 r8])])
noncomputable def F69 (N : Nat) {R : Type} : CfS R := uC (F68 N) 130 P69 (E69 N)
theorem F69_ok (N : Nat) {R : Type} : FOK (F69 N : CfS R) (runF T) :=
  uC_ok (F68_ok N) (H := noH) (Lp := noL) (X := noX) (rp := []) (ver := c130) rfl (LOK0 (by kernel_rfl)) (fun x k => by kernel_rfl)
def H70 : Nat → Option (List Sh) := fun n => if n = 16000 then some [hI] else if n = 33000 then some [hI] else none
def design_leaves_l0 (N : Nat) {R : Type} (k0 : ByteArray → zt5 → zt1 → zt2 → zt0 → zt5 → zt4 → List Int → Option R) : Nat → zt5 → Int → Int → ByteArray → zt5 → zt1 → zt2 → zt0 → zt5 → zt4 → List Int → Option R
  | 0, _, _, _, _, _, _, _, _, _, _, _ => none
  | n + 1, b0, b1, b2, b3, b4, b5, b6, b7, b8, b9, b10 => (bif decide (b2 < b1) then ((at? b0 b2).bind fun x1 => (bif roomB (b10.length + 1) 8 then (design_leaves_l0 N k0 n b0 b1 (w64 (b2 + 1)) b3 b4 b5 b6 b7 b8 b9 (b10 ++ [x1.2])) else none)) else (k0 b3 b4 b5 b6 b7 b8 b9 b10))
def P70_l0 : SP := ⟨[(1, .ptr 0 0), (3, .own 1), (9, pL [.s, hI]), (10, pI), (11, pI)], [(0, .box [pS, pL [.s, hI], pL zs2, pL zs1, pL zs0, pL [.s, hI], pL zs3]), (1, .arr [hI])]⟩
def E70_l0 (N : Nat) {R : Type} (n : Nat) (x : P70_l0.den) (k : KS R) : Option R := design_leaves_l0 N (fun r0 r1 r2 r3 r4 r5 r6 r7 => k (.ex 0) ⟨[(1, .ptr 0 0), (3, .own 1)], [(0, .box [dS r0, dL [.s, hI] r1, dL zs2 r2, dL zs1 r3, dL zs0 r4, dL [.s, hI] r5, dL zs3 r6]), (1, .arr (.t [hI] r7))]⟩) n x.1.2.2.1 x.1.2.2.2.1 x.1.2.2.2.2.1 x.2.1.1 x.2.1.2.1 x.2.1.2.2.1 x.2.1.2.2.2.1 x.2.1.2.2.2.2.1 x.2.1.2.2.2.2.2.1 x.2.1.2.2.2.2.2.2.1 x.2.2.1
theorem O70_l0 (N : Nat) {R : Type} : LpG T P70_l0 (E70_l0 N (R := R)) [1, 3, 9, 10, 11] c90_l0 :=
  loop_ok (F69_ok N) (H := H70) (Lp := noL) (X := noX) (p := 58) (LOK0 (by kernel_rfl)) (fun _ _ => rfl) (fun n x k => by kernel_rfl)
noncomputable def L70_1 (N : Nat) {R : Type} : LpS R := updL noL 58 (lent' P70_l0 (E70_l0 N N))
def design_leaves_l1 (N : Nat) {R : Type} (k0 : List Int → Option R) : Nat → zt1 → Int → Int → List Int → Option R
  | 0, _, _, _, _ => none
  | n + 1, b0, b1, b2, b3 => (bif decide (b2 < b1) then ((at? b0 b2).bind fun x1 => (bif roomB (b3.length + 1) 8 then (design_leaves_l1 N k0 n b0 b1 (w64 (b2 + 1)) (b3 ++ [x1.2.2.1])) else none)) else (k0 b3))
def P70_l1 : SP := ⟨[(3, .own 0), (22, pL zs2), (23, pI), (24, pI)], [(0, .arr [hI])]⟩
def E70_l1 (N : Nat) {R : Type} (n : Nat) (x : P70_l1.den) (k : KS R) : Option R := design_leaves_l1 N (fun r0 => k (.ex 2) ⟨[(3, .own 0)], [(0, .arr (.t [hI] r0))]⟩) n x.1.2.1 x.1.2.2.1 x.1.2.2.2.1 x.2.1
theorem O70_l1 (N : Nat) {R : Type} : LpG T P70_l1 (E70_l1 N (R := R)) [3, 22, 23, 24] c90_l1 :=
  loop_ok (F69_ok N) (H := H70) (Lp := (L70_1 N)) (X := noX) (p := 122) (LOK0 (by kernel_rfl)) (fun _ _ => rfl) (fun n x k => by kernel_rfl)
noncomputable def L70_2 (N : Nat) {R : Type} : LpS R := updL (L70_1 N) 122 (lent' P70_l1 (E70_l1 N N))
def design_leaves (N : Nat) {R : Type} (a0 : ByteArray) (a1 : zt5) (a2 : zt1) (a3 : zt2) (a4 : zt0) (a5 : zt5) (a6 : zt4) (k0 : List Int → Option R) : Option R := (design_leaves_l0 N (fun z2 z3 z4 z5 z6 z7 z8 z9 => (design_leaves_l1 N k0 N z4 ((z4.length : Nat) : Int) 0 z9)) N a1 ((a1.length : Nat) : Int) 0 a0 a1 a2 a3 a4 a5 a6 [])
def P70 : AP := ⟨[.agg [pS, pL [.s, hI], pL zs2, pL zs1, pL zs0, pL [.s, hI], pL zs3]], []⟩
def E70 (N : Nat) {R : Type} (x : P70.den) (k : KK R) : Option R := design_leaves N x.1.1.1 x.1.1.2.1 x.1.1.2.2.1 x.1.1.2.2.2.1 x.1.1.2.2.2.2.1 x.1.1.2.2.2.2.2.1 x.1.1.2.2.2.2.2.2.1 (fun r0 => k [] [dL [hI] r0] [])
noncomputable def F70 (N : Nat) {R : Type} : CfS R := uC (F69 N) 90 P70 (E70 N)
theorem F70_ok (N : Nat) {R : Type} : FOK (F70 N : CfS R) (runF T) :=
  uC_ok (F69_ok N) (H := H70) (Lp := (L70_2 N)) (X := noX) (rp := []) (ver := c90) rfl (LOK_of (l := [(58, [1, 3, 9, 10, 11], c90_l0), (122, [3, 22, 23, 24], c90_l1)]) (by kernel_rfl) ⟨(updL_ne (by decide) (updL_ok (O70_l0 N N))), (updL_ok (O70_l1 N N)), trivial⟩) (fun x k => by kernel_rfl)
def graph_within (N : Nat) {R : Type} (a0 : Int) (a1 : Int) (a2 : Int) (k0 : Bool → Option R) : Option R := (bif decide (a1 ≤ a0) then (k0 (decide (a0 ≤ a2))) else (k0 false))
def P71 : AP := ⟨[pI, pI, pI], []⟩
def E71 (N : Nat) {R : Type} (x : P71.den) (k : KK R) : Option R := graph_within N x.1.1 x.1.2.1 x.1.2.2.1 (fun r0 => k [] [dB r0] [])
noncomputable def F71 (N : Nat) {R : Type} : CfS R := uC (F70 N) 187 P71 (E71 N)
theorem F71_ok (N : Nat) {R : Type} : FOK (F71 N : CfS R) (runF T) :=
  uC_ok (F70_ok N) (H := noH) (Lp := noL) (X := noX) (rp := []) (ver := c187) rfl (LOK0 (by kernel_rfl)) (fun x k => by kernel_rfl)
def graph_isWidth (N : Nat) {R : Type} (a0 : Int) (k0 : Bool → Option R) : Option R := (graph_within N a0 1 16 k0)
def P72 : AP := ⟨[pI], []⟩
def E72 (N : Nat) {R : Type} (x : P72.den) (k : KK R) : Option R := graph_isWidth N x.1.1 (fun r0 => k [] [dB r0] [])
noncomputable def F72 (N : Nat) {R : Type} : CfS R := uC (F71 N) 183 P72 (E72 N)
theorem F72_ok (N : Nat) {R : Type} : FOK (F72 N : CfS R) (runF T) :=
  uC_ok (F71_ok N) (H := noH) (Lp := noL) (X := noX) (rp := []) (ver := c183) rfl (LOK0 (by kernel_rfl)) (fun x k => by kernel_rfl)
def graph_unless (N : Nat) {R : Type} (a0 : Bool) (a1 : Int) (k0 : Int → Option R) : Option R := (bif a0 then (k0 0) else (k0 a1))
def P73 : AP := ⟨[pB, pI], []⟩
def E73 (N : Nat) {R : Type} (x : P73.den) (k : KK R) : Option R := graph_unless N x.1.1 x.1.2.1 (fun r0 => k [] [dI r0] [])
noncomputable def F73 (N : Nat) {R : Type} : CfS R := uC (F72 N) 151 P73 (E73 N)
theorem F73_ok (N : Nat) {R : Type} : FOK (F73 N : CfS R) (runF T) :=
  uC_ok (F72_ok N) (H := noH) (Lp := noL) (X := noX) (rp := []) (ver := c151) rfl (LOK0 (by kernel_rfl)) (fun x k => by kernel_rfl)
def graph_CheckNodes_c1 (N : Nat) {R : Type} (a0 : Int) (a1 : Int) (k0 : Int → Option R) : Option R := (graph_isWidth N a1 (fun y1 => (graph_unless N y1 2 k0)))
def P74 : AP := ⟨[pI, pI], []⟩
def E74 (N : Nat) {R : Type} (x : P74.den) (k : KK R) : Option R := graph_CheckNodes_c1 N x.1.1 x.1.2.1 (fun r0 => k [] [dI r0] [])
noncomputable def F74 (N : Nat) {R : Type} : CfS R := uC (F73 N) 182 P74 (E74 N)
theorem F74_ok (N : Nat) {R : Type} : FOK (F74 N : CfS R) (runF T) :=
  uC_ok (F73_ok N) (H := noH) (Lp := noL) (X := noX) (rp := []) (ver := c182) rfl (LOK0 (by kernel_rfl)) (fun x k => by kernel_rfl)
def graph_each_int_CheckNodes_c1_l0 (N : Nat) {R : Type} (k0 : Int → Int → Option R) (k1 : Option R) : Nat → List Int → Int → Int → Option R
  | 0, _, _, _ => none
  | n + 1, b0, b1, b2 => (bif decide (b2 < b1) then ((at? b0 b2).bind fun x1 => (graph_CheckNodes_c1 N b2 x1 (fun y2 => (bif decide (y2 ≠ 0) then (k0 b2 y2) else (graph_each_int_CheckNodes_c1_l0 N k0 k1 n b0 b1 (w64 (b2 + 1))))))) else k1)
def P75_l0 : SP := ⟨[(1, .p (.fn 182 [])), (9, pL [hI]), (10, pI), (11, pI)], []⟩
def E75_l0 (N : Nat) {R : Type} (n : Nat) (x : P75_l0.den) (k : KS R) : Option R := graph_each_int_CheckNodes_c1_l0 N (fun r0 r1 => k .ret ⟨[(4, dI r0), (5, dI r1)], []⟩) (k (.ex 0) ⟨[], []⟩) n x.1.2.1 x.1.2.2.1 x.1.2.2.2.1
theorem O75_l0 (N : Nat) {R : Type} : LpG T P75_l0 (E75_l0 N (R := R)) [1, 9, 10, 11] c152_l0 :=
  loop_ok (F74_ok N) (H := noH) (Lp := noL) (X := noX) (p := 26) (LOK0 (by kernel_rfl)) (fun _ _ => rfl) (fun n x k => by kernel_rfl)
noncomputable def L75_1 (N : Nat) {R : Type} : LpS R := updL noL 26 (lent' P75_l0 (E75_l0 N N))
def graph_each_int_CheckNodes_c1 (N : Nat) {R : Type} (a0 : List Int) (k0 : Int → Int → Option R) : Option R := (graph_each_int_CheckNodes_c1_l0 N k0 (k0 0 0) N a0 ((a0.length : Nat) : Int) 0)
def P75 : AP := ⟨[pL [hI], .p (.fn 182 [])], []⟩
def E75 (N : Nat) {R : Type} (x : P75.den) (k : KK R) : Option R := graph_each_int_CheckNodes_c1 N x.1.1 (fun r0 r1 => k [] [dI r0, dI r1] [])
noncomputable def F75 (N : Nat) {R : Type} : CfS R := uC (F74 N) 152 P75 (E75 N)
theorem F75_ok (N : Nat) {R : Type} : FOK (F75 N : CfS R) (runF T) :=
  uC_ok (F74_ok N) (H := noH) (Lp := (L75_1 N)) (X := noX) (rp := []) (ver := c152) rfl (LOK_of (l := [(26, [1, 9, 10, 11], c152_l0)]) (by kernel_rfl) ⟨(updL_ok (O75_l0 N N)), trivial⟩) (fun x k => by kernel_rfl)
def graph_binary_operations_c3 (N : Nat) {R : Type} (k0 : Option R) : Option R := k0
def P76 : AP := ⟨[.p (.ks (ByteArray.mk #[97, 110, 100])), .p (.fn 213 [])], []⟩
def E76 (N : Nat) {R : Type} (x : P76.den) (k : KK R) : Option R := graph_binary_operations_c3 N (k [] [.agg [dS (ByteArray.mk #[97, 110, 100]), dI 2, dB false, .p (.fn 209 []), .p (.fn 244 [.cp [.fn 213 []]])]] [])
noncomputable def F76 (N : Nat) {R : Type} : CfS R := uC (F75 N) 212 P76 (E76 N)
theorem F76_ok (N : Nat) {R : Type} : FOK (F76 N : CfS R) (runF T) :=
  uC_ok (F75_ok N) (H := noH) (Lp := noL) (X := noX) (rp := []) (ver := c212) rfl (LOK0 (by kernel_rfl)) (fun x k => by kernel_rfl)
def graph_binary_operations_c4 (N : Nat) {R : Type} (k0 : Option R) : Option R := k0
def P77 : AP := ⟨[.p (.ks (ByteArray.mk #[111, 114])), .p (.fn 214 [])], []⟩
def E77 (N : Nat) {R : Type} (x : P77.den) (k : KK R) : Option R := graph_binary_operations_c4 N (k [] [.agg [dS (ByteArray.mk #[111, 114]), dI 2, dB false, .p (.fn 209 []), .p (.fn 244 [.cp [.fn 214 []]])]] [])
noncomputable def F77 (N : Nat) {R : Type} : CfS R := uC (F76 N) 212 P77 (E77 N)
theorem F77_ok (N : Nat) {R : Type} : FOK (F77 N : CfS R) (runF T) :=
  uC_ok (F76_ok N) (H := noH) (Lp := noL) (X := noX) (rp := []) (ver := c212) rfl (LOK0 (by kernel_rfl)) (fun x k => by kernel_rfl)
def graph_binary_operations_c5 (N : Nat) {R : Type} (k0 : Option R) : Option R := k0
def P78 : AP := ⟨[.p (.ks (ByteArray.mk #[120, 111, 114])), .p (.fn 215 [])], []⟩
def E78 (N : Nat) {R : Type} (x : P78.den) (k : KK R) : Option R := graph_binary_operations_c5 N (k [] [.agg [dS (ByteArray.mk #[120, 111, 114]), dI 2, dB false, .p (.fn 209 []), .p (.fn 244 [.cp [.fn 215 []]])]] [])
noncomputable def F78 (N : Nat) {R : Type} : CfS R := uC (F77 N) 212 P78 (E78 N)
theorem F78_ok (N : Nat) {R : Type} : FOK (F78 N : CfS R) (runF T) :=
  uC_ok (F77_ok N) (H := noH) (Lp := noL) (X := noX) (rp := []) (ver := c212) rfl (LOK0 (by kernel_rfl)) (fun x k => by kernel_rfl)
def graph_binary_operations_c6 (N : Nat) {R : Type} (k0 : Option R) : Option R := k0
def P79 : AP := ⟨[.p (.ks (ByteArray.mk #[97, 100, 100])), .p (.fn 216 [])], []⟩
def E79 (N : Nat) {R : Type} (x : P79.den) (k : KK R) : Option R := graph_binary_operations_c6 N (k [] [.agg [dS (ByteArray.mk #[97, 100, 100]), dI 2, dB false, .p (.fn 209 []), .p (.fn 244 [.cp [.fn 216 []]])]] [])
noncomputable def F79 (N : Nat) {R : Type} : CfS R := uC (F78 N) 212 P79 (E79 N)
theorem F79_ok (N : Nat) {R : Type} : FOK (F79 N : CfS R) (runF T) :=
  uC_ok (F78_ok N) (H := noH) (Lp := noL) (X := noX) (rp := []) (ver := c212) rfl (LOK0 (by kernel_rfl)) (fun x k => by kernel_rfl)
def graph_binary_operations_c7 (N : Nat) {R : Type} (k0 : Option R) : Option R := k0
def P80 : AP := ⟨[.p (.ks (ByteArray.mk #[115, 117, 98])), .p (.fn 217 [])], []⟩
def E80 (N : Nat) {R : Type} (x : P80.den) (k : KK R) : Option R := graph_binary_operations_c7 N (k [] [.agg [dS (ByteArray.mk #[115, 117, 98]), dI 2, dB false, .p (.fn 209 []), .p (.fn 244 [.cp [.fn 217 []]])]] [])
noncomputable def F80 (N : Nat) {R : Type} : CfS R := uC (F79 N) 212 P80 (E80 N)
theorem F80_ok (N : Nat) {R : Type} : FOK (F80 N : CfS R) (runF T) :=
  uC_ok (F79_ok N) (H := noH) (Lp := noL) (X := noX) (rp := []) (ver := c212) rfl (LOK0 (by kernel_rfl)) (fun x k => by kernel_rfl)
def graph_binary_operations_c8 (N : Nat) {R : Type} (k0 : Option R) : Option R := k0
def P81 : AP := ⟨[.p (.ks (ByteArray.mk #[109, 117, 108])), .p (.fn 218 [])], []⟩
def E81 (N : Nat) {R : Type} (x : P81.den) (k : KK R) : Option R := graph_binary_operations_c8 N (k [] [.agg [dS (ByteArray.mk #[109, 117, 108]), dI 2, dB false, .p (.fn 209 []), .p (.fn 244 [.cp [.fn 218 []]])]] [])
noncomputable def F81 (N : Nat) {R : Type} : CfS R := uC (F80 N) 212 P81 (E81 N)
theorem F81_ok (N : Nat) {R : Type} : FOK (F81 N : CfS R) (runF T) :=
  uC_ok (F80_ok N) (H := noH) (Lp := noL) (X := noX) (rp := []) (ver := c212) rfl (LOK0 (by kernel_rfl)) (fun x k => by kernel_rfl)
def graph_relation_operations_c9 (N : Nat) {R : Type} (k0 : Option R) : Option R := k0
def P82 : AP := ⟨[.p (.ks (ByteArray.mk #[101, 113])), .p (.fn 220 [])], []⟩
def E82 (N : Nat) {R : Type} (x : P82.den) (k : KK R) : Option R := graph_relation_operations_c9 N (k [] [.agg [dS (ByteArray.mk #[101, 113]), dI 2, dB false, .p (.fn 245 []), .p (.fn 246 [.cp [.fn 220 []]])]] [])
noncomputable def F82 (N : Nat) {R : Type} : CfS R := uC (F81 N) 219 P82 (E82 N)
theorem F82_ok (N : Nat) {R : Type} : FOK (F82 N : CfS R) (runF T) :=
  uC_ok (F81_ok N) (H := noH) (Lp := noL) (X := noX) (rp := []) (ver := c219) rfl (LOK0 (by kernel_rfl)) (fun x k => by kernel_rfl)
def graph_relation_operations_c10 (N : Nat) {R : Type} (k0 : Option R) : Option R := k0
def P83 : AP := ⟨[.p (.ks (ByteArray.mk #[108, 116])), .p (.fn 221 [])], []⟩
def E83 (N : Nat) {R : Type} (x : P83.den) (k : KK R) : Option R := graph_relation_operations_c10 N (k [] [.agg [dS (ByteArray.mk #[108, 116]), dI 2, dB false, .p (.fn 245 []), .p (.fn 246 [.cp [.fn 221 []]])]] [])
noncomputable def F83 (N : Nat) {R : Type} : CfS R := uC (F82 N) 219 P83 (E83 N)
theorem F83_ok (N : Nat) {R : Type} : FOK (F83 N : CfS R) (runF T) :=
  uC_ok (F82_ok N) (H := noH) (Lp := noL) (X := noX) (rp := []) (ver := c219) rfl (LOK0 (by kernel_rfl)) (fun x k => by kernel_rfl)
def graph_relation_operations_c11 (N : Nat) {R : Type} (k0 : Option R) : Option R := k0
def P84 : AP := ⟨[.p (.ks (ByteArray.mk #[115, 108, 116])), .p (.fn 222 [])], []⟩
def E84 (N : Nat) {R : Type} (x : P84.den) (k : KK R) : Option R := graph_relation_operations_c11 N (k [] [.agg [dS (ByteArray.mk #[115, 108, 116]), dI 2, dB false, .p (.fn 245 []), .p (.fn 246 [.cp [.fn 222 []]])]] [])
noncomputable def F84 (N : Nat) {R : Type} : CfS R := uC (F83 N) 219 P84 (E84 N)
theorem F84_ok (N : Nat) {R : Type} : FOK (F84 N : CfS R) (runF T) :=
  uC_ok (F83_ok N) (H := noH) (Lp := noL) (X := noX) (rp := []) (ver := c219) rfl (LOK0 (by kernel_rfl)) (fun x k => by kernel_rfl)
def graph_operations (N : Nat) {R : Type} (k0 : Option R) : Option R := (graph_binary_operations_c3 N (graph_binary_operations_c4 N (graph_binary_operations_c5 N (graph_binary_operations_c6 N (graph_binary_operations_c7 N (graph_binary_operations_c8 N (graph_relation_operations_c9 N (graph_relation_operations_c10 N (graph_relation_operations_c11 N k0)))))))))
def P85 : AP := ⟨[], []⟩
def E85 (N : Nat) {R : Type} (x : P85.den) (k : KK R) : Option R := graph_operations N (k [] [.agg [dS (ByteArray.mk #[99, 111, 110, 115, 116]), dI 0, dB true, .p (.fn 208 []), .p (.fn 207 []), dS (ByteArray.mk #[108, 101, 97, 102]), dI 0, dB true, .p (.fn 208 []), .p (.fn 207 []), dS (ByteArray.mk #[110, 111, 116]), dI 1, dB false, .p (.fn 209 []), .p (.fn 210 []), dS (ByteArray.mk #[97, 110, 100]), dI 2, dB false, .p (.fn 209 []), .p (.fn 244 [.cp [.fn 213 []]]), dS (ByteArray.mk #[111, 114]), dI 2, dB false, .p (.fn 209 []), .p (.fn 244 [.cp [.fn 214 []]]), dS (ByteArray.mk #[120, 111, 114]), dI 2, dB false, .p (.fn 209 []), .p (.fn 244 [.cp [.fn 215 []]]), dS (ByteArray.mk #[97, 100, 100]), dI 2, dB false, .p (.fn 209 []), .p (.fn 244 [.cp [.fn 216 []]]), dS (ByteArray.mk #[115, 117, 98]), dI 2, dB false, .p (.fn 209 []), .p (.fn 244 [.cp [.fn 217 []]]), dS (ByteArray.mk #[109, 117, 108]), dI 2, dB false, .p (.fn 209 []), .p (.fn 244 [.cp [.fn 218 []]]), dS (ByteArray.mk #[101, 113]), dI 2, dB false, .p (.fn 245 []), .p (.fn 246 [.cp [.fn 220 []]]), dS (ByteArray.mk #[108, 116]), dI 2, dB false, .p (.fn 245 []), .p (.fn 246 [.cp [.fn 221 []]]), dS (ByteArray.mk #[115, 108, 116]), dI 2, dB false, .p (.fn 245 []), .p (.fn 246 [.cp [.fn 222 []]]), dS (ByteArray.mk #[109, 117, 120]), dI 3, dB false, .p (.fn 224 []), .p (.fn 225 []), dS (ByteArray.mk #[106, 111, 105, 110]), dI 2, dB false, .p (.fn 226 []), .p (.fn 227 []), dS (ByteArray.mk #[115, 108, 105, 99, 101]), dI 1, dB true, .p (.fn 228 []), .p (.fn 229 []), dS (ByteArray.mk #[122, 101, 120, 116]), dI 1, dB false, .p (.fn 230 []), .p (.fn 231 []), dS (ByteArray.mk #[115, 101, 120, 116]), dI 1, dB false, .p (.fn 230 []), .p (.fn 232 []), dS (ByteArray.mk #[115, 104, 108]), dI 2, dB false, .p (.fn 233 []), .p (.fn 234 []), dS (ByteArray.mk #[115, 104, 114]), dI 2, dB false, .p (.fn 233 []), .p (.fn 235 [])]] [])
noncomputable def F85 (N : Nat) {R : Type} : CfS R := uC (F84 N) 184 P85 (E85 N)
theorem F85_ok (N : Nat) {R : Type} : FOK (F85 N : CfS R) (runF T) :=
  uC_ok (F84_ok N) (H := noH) (Lp := noL) (X := noX) (rp := []) (ver := c184) rfl (LOK0 (by kernel_rfl)) (fun x k => by kernel_rfl)
def graph_first_l0 (N : Nat) {R : Type} (k0 : Int → Option R) (k1 : Option R) : Nat → List Int → Int → Int → Option R
  | 0, _, _, _ => none
  | n + 1, b0, b1, b2 => (bif decide (b2 < b1) then ((at? b0 b2).bind fun x1 => (bif decide (x1 ≠ 0) then (k0 x1) else (graph_first_l0 N k0 k1 n b0 b1 (w64 (b2 + 1))))) else k1)
def P86_l0 : SP := ⟨[(5, pL [hI]), (6, pI), (7, pI)], []⟩
def E86_l0 (N : Nat) {R : Type} (n : Nat) (x : P86_l0.den) (k : KS R) : Option R := graph_first_l0 N (fun r0 => k .ret ⟨[(2, dI r0)], []⟩) (k (.ex 0) ⟨[], []⟩) n x.1.1 x.1.2.1 x.1.2.2.1
theorem O86_l0 (N : Nat) {R : Type} : LpG T P86_l0 (E86_l0 N (R := R)) [5, 6, 7] c149_l0 :=
  loop_ok (F85_ok N) (H := noH) (Lp := noL) (X := noX) (p := 26) (LOK0 (by kernel_rfl)) (fun _ _ => rfl) (fun n x k => by kernel_rfl)
noncomputable def L86_1 (N : Nat) {R : Type} : LpS R := updL noL 26 (lent' P86_l0 (E86_l0 N N))
def graph_first (N : Nat) {R : Type} (a0 : List Int) (k0 : Int → Option R) : Option R := (graph_first_l0 N k0 (k0 0) N a0 ((a0.length : Nat) : Int) 0)
def P86 : AP := ⟨[pL [hI]], []⟩
def E86 (N : Nat) {R : Type} (x : P86.den) (k : KK R) : Option R := graph_first N x.1.1 (fun r0 => k [] [dI r0] [])
noncomputable def F86 (N : Nat) {R : Type} : CfS R := uC (F85 N) 149 P86 (E86 N)
theorem F86_ok (N : Nat) {R : Type} : FOK (F86 N : CfS R) (runF T) :=
  uC_ok (F85_ok N) (H := noH) (Lp := (L86_1 N)) (X := noX) (rp := []) (ver := c149) rfl (LOK_of (l := [(26, [5, 6, 7], c149_l0)]) (by kernel_rfl) ⟨(updL_ok (O86_l0 N N)), trivial⟩) (fun x k => by kernel_rfl)
def graph_CheckNodes_c2_c1 (N : Nat) {R : Type} (a0 : Int) (a1 : Int) (k0 : Bool → Int → Option R) : Option R := (graph_within N a0 0 (w64 (a1 - 1)) (fun y1 => (k0 (!y1) a1)))
def P87 : AP := ⟨[pI, .ptr 0 0], [(0, .box [pI])]⟩
def E87 (N : Nat) {R : Type} (x : P87.den) (k : KK R) : Option R := graph_CheckNodes_c2_c1 N x.1.1 x.2.1.1 (fun r0 r1 => k [0] [dB r0] [(0, .box [dI r1])])
noncomputable def F87 (N : Nat) {R : Type} : CfS R := uC (F86 N) 188 P87 (E87 N)
theorem F87_ok (N : Nat) {R : Type} : FOK (F87 N : CfS R) (runF T) :=
  uC_ok (F86_ok N) (H := noH) (Lp := noL) (X := noX) (rp := []) (ver := c188) rfl (LOK0 (by kernel_rfl)) (fun x k => by kernel_rfl)
def slices_IndexFunc_Lint_int_CheckNodes_c2_c1_l0 (N : Nat) {R : Type} (k0 : Int → Int → Option R) (k1 : Int → Option R) : Nat → List Int → Int → Int → Int → Option R
  | 0, _, _, _, _ => none
  | n + 1, b0, b1, b2, b3 => (bif decide (b2 < b1) then ((at? b0 b2).bind fun x1 => (graph_CheckNodes_c2_c1 N x1 b3 (fun y2 y3 => (bif y2 then (k0 b2 y3) else (slices_IndexFunc_Lint_int_CheckNodes_c2_c1_l0 N k0 k1 n b0 b1 (w64 (b2 + 1)) y3))))) else (k1 b3))
def P88_l0 : SP := ⟨[(0, pL [hI]), (1, .fn 188 [.ptr 0 0]), (7, pI), (8, pI), (100001, .fn 188 [.ptr 0 0])], [(0, .box [pI])]⟩
def E88_l0 (N : Nat) {R : Type} (n : Nat) (x : P88_l0.den) (k : KS R) : Option R := slices_IndexFunc_Lint_int_CheckNodes_c2_c1_l0 N (fun r0 r1 => k .ret ⟨[(4, dI r0), (100001, .fn 188 [.ptr 0 0])], [(0, .box [dI r1])]⟩) (fun r0 => k (.ex 0) ⟨[(100001, .fn 188 [.ptr 0 0])], [(0, .box [dI r0])]⟩) n x.1.1 x.1.2.2.1 x.1.2.2.2.1 x.2.1.1
theorem O88_l0 (N : Nat) {R : Type} : LpG T P88_l0 (E88_l0 N (R := R)) [0, 1, 7, 8] c116_l0 :=
  loop_ok (F87_ok N) (H := noH) (Lp := noL) (X := noX) (p := 26) (LOK0 (by kernel_rfl)) (fun _ _ => rfl) (fun n x k => by kernel_rfl)
noncomputable def L88_1 (N : Nat) {R : Type} : LpS R := updL noL 26 (lent' P88_l0 (E88_l0 N N))
def slices_IndexFunc_Lint_int_CheckNodes_c2_c1 (N : Nat) {R : Type} (a0 : List Int) (a1 : Int) (k0 : Int → Int → Option R) : Option R := (slices_IndexFunc_Lint_int_CheckNodes_c2_c1_l0 N k0 (fun z6 => (k0 (-1) z6)) N a0 ((a0.length : Nat) : Int) 0 a1)
def P88 : AP := ⟨[pL [hI], .fn 188 [.ptr 0 0]], [(0, .box [pI])]⟩
def E88 (N : Nat) {R : Type} (x : P88.den) (k : KK R) : Option R := slices_IndexFunc_Lint_int_CheckNodes_c2_c1 N x.1.1 x.2.1.1 (fun r0 r1 => k [0] [dI r0] [(0, .box [dI r1])])
noncomputable def F88 (N : Nat) {R : Type} : CfS R := uC (F87 N) 116 P88 (E88 N)
theorem F88_ok (N : Nat) {R : Type} : FOK (F88 N : CfS R) (runF T) :=
  uC_ok (F87_ok N) (H := noH) (Lp := (L88_1 N)) (X := noX) (rp := []) (ver := c116) rfl (LOK_of (l := [(26, [0, 1, 7, 8], c116_l0)]) (by kernel_rfl) ⟨(updL_ok (O88_l0 N N)), trivial⟩) (fun x k => by kernel_rfl)
def slices_ContainsFunc_Lint_int_CheckNodes_c2_c1 (N : Nat) {R : Type} (a0 : List Int) (a1 : Int) (k0 : Bool → Int → Option R) : Option R := (slices_IndexFunc_Lint_int_CheckNodes_c2_c1 N a0 a1 (fun y1 y2 => (k0 (decide (0 ≤ y1)) y2)))
def P89 : AP := ⟨[pL [hI], .fn 188 [.ptr 0 0]], [(0, .box [pI])]⟩
def E89 (N : Nat) {R : Type} (x : P89.den) (k : KK R) : Option R := slices_ContainsFunc_Lint_int_CheckNodes_c2_c1 N x.1.1 x.2.1.1 (fun r0 r1 => k [0] [dB r0] [(0, .box [dI r1])])
noncomputable def F89 (N : Nat) {R : Type} : CfS R := uC (F88 N) 85 P89 (E89 N)
theorem F89_ok (N : Nat) {R : Type} : FOK (F89 N : CfS R) (runF T) :=
  uC_ok (F88_ok N) (H := noH) (Lp := noL) (X := noX) (rp := []) (ver := c85) rfl (LOK0 (by kernel_rfl)) (fun x k => by kernel_rfl)
def graph_fits (N : Nat) {R : Type} (a0 : Int) (a1 : Int) (k0 : Bool → Option R) : Option R := (bif decide (0 ≤ a1) then (bif decide (a1 < 0) then none else (graph_within N a0 0 (w64 ((shl' .i64 1 a1) - 1)) k0)) else (k0 false))
def P90 : AP := ⟨[pI, pI], []⟩
def E90 (N : Nat) {R : Type} (x : P90.den) (k : KK R) : Option R := graph_fits N x.1.1 x.1.2.1 (fun r0 => k [] [dB r0] [])
noncomputable def F90 (N : Nat) {R : Type} : CfS R := uC (F89 N) 154 P90 (E90 N)
theorem F90_ok (N : Nat) {R : Type} : FOK (F90 N : CfS R) (runF T) :=
  uC_ok (F89_ok N) (H := noH) (Lp := noL) (X := noX) (rp := []) (ver := c154) rfl (LOK0 (by kernel_rfl)) (fun x k => by kernel_rfl)
def graph_valueErr_operations_c21 (N : Nat) {R : Type} (a0 : List Int) (a1 : Int) (a2 : Int) (a3 : List Int) (a4 : Int) (k0 : Int → Option R) : Option R := (bif decide (a1 = 0) then (graph_fits N a4 a2 (fun y1 => (graph_unless N y1 2 k0))) else (bif decide (a1 = 1) then (graph_within N a4 0 (w64 (((a0.length : Nat) : Int) - 1)) (fun y3 => (bif (!y3) then (k0 6) else ((at? a0 a4).bind fun x4 => (graph_unless N (decide (x4 = a2)) 25 k0))))) else (bif decide (a1 = 14) then (graph_within N a4 0 15 (fun y6 => (graph_unless N y6 2 k0))) else (graph_unless N (decide (a4 = 0)) 3 k0))))
def P91 : AP := ⟨[pL [hI], .agg [pI, pI, pL [hI], pI], .agg [.p (.ks (ByteArray.mk #[115, 104, 114])), .p (.ki .i64 2), .p (.kb false), .p (.fn 233 []), .p (.fn 235 [])]], []⟩
def E91 (N : Nat) {R : Type} (x : P91.den) (k : KK R) : Option R := graph_valueErr_operations_c21 N x.1.1 x.1.2.1.1 x.1.2.1.2.1 x.1.2.1.2.2.1 x.1.2.1.2.2.2.1 (fun r0 => k [] [dI r0] [])
noncomputable def F91 (N : Nat) {R : Type} : CfS R := uC (F90 N) 189 P91 (E91 N)
theorem F91_ok (N : Nat) {R : Type} : FOK (F91 N : CfS R) (runF T) :=
  uC_ok (F90_ok N) (H := noH) (Lp := noL) (X := noX) (rp := []) (ver := c189) rfl (LOK0 (by kernel_rfl)) (fun x k => by kernel_rfl)
def graph_shifted (N : Nat) {R : Type} (a0 : Int) (a1 : List Int) (a2 : Int) (k0 : Bool → Option R) : Option R := ((at? a1 0).bind fun x1 => (k0 (decide (x1 = a0))))
def P92 : AP := ⟨[pI, pL [hI], pI], []⟩
def E92 (N : Nat) {R : Type} (x : P92.den) (k : KK R) : Option R := graph_shifted N x.1.1 x.1.2.1 x.1.2.2.1 (fun r0 => k [] [dB r0] [])
noncomputable def F92 (N : Nat) {R : Type} : CfS R := uC (F91 N) 233 P92 (E92 N)
theorem F92_ok (N : Nat) {R : Type} : FOK (F92 N : CfS R) (runF T) :=
  uC_ok (F91_ok N) (H := noH) (Lp := noL) (X := noX) (rp := []) (ver := c233) rfl (LOK0 (by kernel_rfl)) (fun x k => by kernel_rfl)
def graph_valueErr_shifted (N : Nat) {R : Type} (a0 : List Int) (a1 : Int) (a2 : Int) (a3 : List Int) (a4 : Int) (a5 : ByteArray) (a6 : Nat) (k0 : Int → Option R) : Option R := (bif decide (a1 = 0) then (graph_fits N a4 a2 (fun y1 => (graph_unless N y1 2 k0))) else (bif decide (a1 = 1) then (graph_within N a4 0 (w64 (((a0.length : Nat) : Int) - 1)) (fun y3 => (bif (!y3) then (k0 6) else ((at? a0 a4).bind fun x4 => (graph_unless N (decide (x4 = a2)) 25 k0))))) else (bif decide (a1 = 14) then (graph_within N a4 0 15 (fun y6 => (graph_unless N y6 2 k0))) else (graph_unless N (decide (a4 = 0)) 3 k0))))
def P93 : AP := ⟨[pL [hI], .agg [pI, pI, pL [hI], pI], .agg [pS, .p (.ki .i64 2), .p (.kb false), .p (.fn 233 []), .p (.fv [])]], []⟩
def E93 (N : Nat) {R : Type} (x : P93.den) (k : KK R) : Option R := graph_valueErr_shifted N x.1.1 x.1.2.1.1 x.1.2.1.2.1 x.1.2.1.2.2.1 x.1.2.1.2.2.2.1 x.1.2.2.1.1 x.1.2.2.1.2.2.2.2.1.1 (fun r0 => k [] [dI r0] [])
noncomputable def F93 (N : Nat) {R : Type} : CfS R := uC (F92 N) 189 P93 (E93 N)
theorem F93_ok (N : Nat) {R : Type} : FOK (F93 N : CfS R) (runF T) :=
  uC_ok (F92_ok N) (H := noH) (Lp := noL) (X := noX) (rp := []) (ver := c189) rfl (LOK0 (by kernel_rfl)) (fun x k => by kernel_rfl)
def graph_valueErr (N : Nat) {R : Type} (a0 : List Int) (a1 : Int) (a2 : Int) (a3 : List Int) (a4 : Int) (a5 : ByteArray) (a6 : Int) (a7 : Nat) (a8 : Nat) (k0 : Int → Option R) : Option R := (bif decide (a1 = 0) then (graph_fits N a4 a2 (fun y1 => (graph_unless N y1 2 k0))) else (bif decide (a1 = 1) then (graph_within N a4 0 (w64 (((a0.length : Nat) : Int) - 1)) (fun y3 => (bif (!y3) then (k0 6) else ((at? a0 a4).bind fun x4 => (graph_unless N (decide (x4 = a2)) 25 k0))))) else (bif decide (a1 = 14) then (graph_within N a4 0 15 (fun y6 => (graph_unless N y6 2 k0))) else (graph_unless N (decide (a4 = 0)) 3 k0))))
def P94 : AP := ⟨[pL [hI], .agg [pI, pI, pL [hI], pI], .agg [pS, pI, .p (.kb false), .p (.fv []), .p (.fv [])]], []⟩
def E94 (N : Nat) {R : Type} (x : P94.den) (k : KK R) : Option R := graph_valueErr N x.1.1 x.1.2.1.1 x.1.2.1.2.1 x.1.2.1.2.2.1 x.1.2.1.2.2.2.1 x.1.2.2.1.1 x.1.2.2.1.2.1 x.1.2.2.1.2.2.2.1.1 x.1.2.2.1.2.2.2.2.1.1 (fun r0 => k [] [dI r0] [])
noncomputable def F94 (N : Nat) {R : Type} : CfS R := uC (F93 N) 189 P94 (E94 N)
theorem F94_ok (N : Nat) {R : Type} : FOK (F94 N : CfS R) (runF T) :=
  uC_ok (F93_ok N) (H := noH) (Lp := noL) (X := noX) (rp := []) (ver := c189) rfl (LOK0 (by kernel_rfl)) (fun x k => by kernel_rfl)
def graph_extended (N : Nat) {R : Type} (a0 : Int) (a1 : List Int) (a2 : Int) (k0 : Bool → Option R) : Option R := ((at? a1 0).bind fun x1 => (k0 (decide (x1 ≤ a0))))
def P95 : AP := ⟨[pI, pL [hI], pI], []⟩
def E95 (N : Nat) {R : Type} (x : P95.den) (k : KK R) : Option R := graph_extended N x.1.1 x.1.2.1 x.1.2.2.1 (fun r0 => k [] [dB r0] [])
noncomputable def F95 (N : Nat) {R : Type} : CfS R := uC (F94 N) 230 P95 (E95 N)
theorem F95_ok (N : Nat) {R : Type} : FOK (F95 N : CfS R) (runF T) :=
  uC_ok (F94_ok N) (H := noH) (Lp := noL) (X := noX) (rp := []) (ver := c230) rfl (LOK0 (by kernel_rfl)) (fun x k => by kernel_rfl)
def graph_valueErr_v1 (N : Nat) {R : Type} (a0 : List Int) (a1 : Int) (a2 : Int) (a3 : List Int) (a4 : Int) (a5 : ByteArray) (a6 : Int) (a7 : Nat) (a8 : Nat) (k0 : Int → Option R) : Option R := (bif decide (a1 = 0) then (graph_fits N a4 a2 (fun y1 => (graph_unless N y1 2 k0))) else (bif decide (a1 = 1) then (graph_within N a4 0 (w64 (((a0.length : Nat) : Int) - 1)) (fun y3 => (bif (!y3) then (k0 6) else ((at? a0 a4).bind fun x4 => (graph_unless N (decide (x4 = a2)) 25 k0))))) else (bif decide (a1 = 14) then (graph_within N a4 0 15 (fun y6 => (graph_unless N y6 2 k0))) else (graph_unless N (decide (a4 = 0)) 3 k0))))
def P96 : AP := ⟨[pL [hI], .agg [pI, pI, pL [hI], pI], .agg [pS, pI, .p (.kb false), .p (.fv []), .p (.fv [])]], []⟩
def E96 (N : Nat) {R : Type} (x : P96.den) (k : KK R) : Option R := graph_valueErr_v1 N x.1.1 x.1.2.1.1 x.1.2.1.2.1 x.1.2.1.2.2.1 x.1.2.1.2.2.2.1 x.1.2.2.1.1 x.1.2.2.1.2.1 x.1.2.2.1.2.2.2.1.1 x.1.2.2.1.2.2.2.2.1.1 (fun r0 => k [] [dI r0] [])
noncomputable def F96 (N : Nat) {R : Type} : CfS R := uC (F95 N) 189 P96 (E96 N)
theorem F96_ok (N : Nat) {R : Type} : FOK (F96 N : CfS R) (runF T) :=
  uC_ok (F95_ok N) (H := noH) (Lp := noL) (X := noX) (rp := []) (ver := c189) rfl (LOK0 (by kernel_rfl)) (fun x k => by kernel_rfl)
def graph_valueErr_v2 (N : Nat) {R : Type} (a0 : List Int) (a1 : Int) (a2 : Int) (a3 : List Int) (a4 : Int) (a5 : ByteArray) (a6 : Int) (a7 : Bool) (a8 : Nat) (a9 : Nat) (k0 : Int → Option R) : Option R := (bif decide (a1 = 0) then (graph_fits N a4 a2 (fun y1 => (graph_unless N y1 2 k0))) else (bif decide (a1 = 1) then (graph_within N a4 0 (w64 (((a0.length : Nat) : Int) - 1)) (fun y3 => (bif (!y3) then (k0 6) else ((at? a0 a4).bind fun x4 => (graph_unless N (decide (x4 = a2)) 25 k0))))) else (bif decide (a1 = 14) then (graph_within N a4 0 15 (fun y6 => (graph_unless N y6 2 k0))) else (bif a7 then (graph_unless N true 3 k0) else (graph_unless N (decide (a4 = 0)) 3 k0)))))
def P97 : AP := ⟨[pL [hI], .agg [pI, pI, pL [hI], pI], .agg [pS, pI, pB, .p (.fv []), .p (.fv [])]], []⟩
def E97 (N : Nat) {R : Type} (x : P97.den) (k : KK R) : Option R := graph_valueErr_v2 N x.1.1 x.1.2.1.1 x.1.2.1.2.1 x.1.2.1.2.2.1 x.1.2.1.2.2.2.1 x.1.2.2.1.1 x.1.2.2.1.2.1 x.1.2.2.1.2.2.1 x.1.2.2.1.2.2.2.1.1 x.1.2.2.1.2.2.2.2.1.1 (fun r0 => k [] [dI r0] [])
noncomputable def F97 (N : Nat) {R : Type} : CfS R := uC (F96 N) 189 P97 (E97 N)
theorem F97_ok (N : Nat) {R : Type} : FOK (F97 N : CfS R) (runF T) :=
  uC_ok (F96_ok N) (H := noH) (Lp := noL) (X := noX) (rp := []) (ver := c189) rfl (LOK0 (by kernel_rfl)) (fun x k => by kernel_rfl)
def graph_operations_c16 (N : Nat) {R : Type} (a0 : Int) (a1 : List Int) (a2 : Int) (k0 : Bool → Option R) : Option R := ((at? a1 0).bind fun x1 => (k0 (decide ((w64 (a2 + a0)) ≤ x1))))
def P98 : AP := ⟨[pI, pL [hI], pI], []⟩
def E98 (N : Nat) {R : Type} (x : P98.den) (k : KK R) : Option R := graph_operations_c16 N x.1.1 x.1.2.1 x.1.2.2.1 (fun r0 => k [] [dB r0] [])
noncomputable def F98 (N : Nat) {R : Type} : CfS R := uC (F97 N) 228 P98 (E98 N)
theorem F98_ok (N : Nat) {R : Type} : FOK (F98 N : CfS R) (runF T) :=
  uC_ok (F97_ok N) (H := noH) (Lp := noL) (X := noX) (rp := []) (ver := c228) rfl (LOK0 (by kernel_rfl)) (fun x k => by kernel_rfl)
def graph_valueErr_v3 (N : Nat) {R : Type} (a0 : List Int) (a1 : Int) (a2 : Int) (a3 : List Int) (a4 : Int) (a5 : ByteArray) (a6 : Int) (a7 : Bool) (a8 : Nat) (a9 : Nat) (k0 : Int → Option R) : Option R := (bif decide (a1 = 0) then (graph_fits N a4 a2 (fun y1 => (graph_unless N y1 2 k0))) else (bif decide (a1 = 1) then (graph_within N a4 0 (w64 (((a0.length : Nat) : Int) - 1)) (fun y3 => (bif (!y3) then (k0 6) else ((at? a0 a4).bind fun x4 => (graph_unless N (decide (x4 = a2)) 25 k0))))) else (bif decide (a1 = 14) then (graph_within N a4 0 15 (fun y6 => (graph_unless N y6 2 k0))) else (bif a7 then (graph_unless N true 3 k0) else (graph_unless N (decide (a4 = 0)) 3 k0)))))
def P99 : AP := ⟨[pL [hI], .agg [pI, pI, pL [hI], pI], .agg [pS, pI, pB, .p (.fv []), .p (.fv [])]], []⟩
def E99 (N : Nat) {R : Type} (x : P99.den) (k : KK R) : Option R := graph_valueErr_v3 N x.1.1 x.1.2.1.1 x.1.2.1.2.1 x.1.2.1.2.2.1 x.1.2.1.2.2.2.1 x.1.2.2.1.1 x.1.2.2.1.2.1 x.1.2.2.1.2.2.1 x.1.2.2.1.2.2.2.1.1 x.1.2.2.1.2.2.2.2.1.1 (fun r0 => k [] [dI r0] [])
noncomputable def F99 (N : Nat) {R : Type} : CfS R := uC (F98 N) 189 P99 (E99 N)
theorem F99_ok (N : Nat) {R : Type} : FOK (F99 N : CfS R) (runF T) :=
  uC_ok (F98_ok N) (H := noH) (Lp := noL) (X := noX) (rp := []) (ver := c189) rfl (LOK0 (by kernel_rfl)) (fun x k => by kernel_rfl)
def graph_operations_c14 (N : Nat) {R : Type} (a0 : Int) (a1 : List Int) (a2 : Int) (k0 : Bool → Option R) : Option R := ((at? a1 0).bind fun x1 => ((at? a1 1).bind fun x2 => (k0 (decide ((w64 (x1 + x2)) = a0)))))
def P100 : AP := ⟨[pI, pL [hI], pI], []⟩
def E100 (N : Nat) {R : Type} (x : P100.den) (k : KK R) : Option R := graph_operations_c14 N x.1.1 x.1.2.1 x.1.2.2.1 (fun r0 => k [] [dB r0] [])
noncomputable def F100 (N : Nat) {R : Type} : CfS R := uC (F99 N) 226 P100 (E100 N)
theorem F100_ok (N : Nat) {R : Type} : FOK (F100 N : CfS R) (runF T) :=
  uC_ok (F99_ok N) (H := noH) (Lp := noL) (X := noX) (rp := []) (ver := c226) rfl (LOK0 (by kernel_rfl)) (fun x k => by kernel_rfl)
def graph_valueErr_v4 (N : Nat) {R : Type} (a0 : List Int) (a1 : Int) (a2 : Int) (a3 : List Int) (a4 : Int) (a5 : ByteArray) (a6 : Int) (a7 : Bool) (a8 : Nat) (a9 : Nat) (k0 : Int → Option R) : Option R := (bif decide (a1 = 0) then (graph_fits N a4 a2 (fun y1 => (graph_unless N y1 2 k0))) else (bif decide (a1 = 1) then (graph_within N a4 0 (w64 (((a0.length : Nat) : Int) - 1)) (fun y3 => (bif (!y3) then (k0 6) else ((at? a0 a4).bind fun x4 => (graph_unless N (decide (x4 = a2)) 25 k0))))) else (bif decide (a1 = 14) then (graph_within N a4 0 15 (fun y6 => (graph_unless N y6 2 k0))) else (bif a7 then (graph_unless N true 3 k0) else (graph_unless N (decide (a4 = 0)) 3 k0)))))
def P101 : AP := ⟨[pL [hI], .agg [pI, pI, pL [hI], pI], .agg [pS, pI, pB, .p (.fv []), .p (.fv [])]], []⟩
def E101 (N : Nat) {R : Type} (x : P101.den) (k : KK R) : Option R := graph_valueErr_v4 N x.1.1 x.1.2.1.1 x.1.2.1.2.1 x.1.2.1.2.2.1 x.1.2.1.2.2.2.1 x.1.2.2.1.1 x.1.2.2.1.2.1 x.1.2.2.1.2.2.1 x.1.2.2.1.2.2.2.1.1 x.1.2.2.1.2.2.2.2.1.1 (fun r0 => k [] [dI r0] [])
noncomputable def F101 (N : Nat) {R : Type} : CfS R := uC (F100 N) 189 P101 (E101 N)
theorem F101_ok (N : Nat) {R : Type} : FOK (F101 N : CfS R) (runF T) :=
  uC_ok (F100_ok N) (H := noH) (Lp := noL) (X := noX) (rp := []) (ver := c189) rfl (LOK0 (by kernel_rfl)) (fun x k => by kernel_rfl)
def graph_operations_c12 (N : Nat) {R : Type} (a0 : Int) (a1 : List Int) (a2 : Int) (k0 : Bool → Option R) : Option R := ((at? a1 0).bind fun x1 => (bif decide (x1 = 1) then ((at? a1 1).bind fun x2 => (bif decide (x2 = a0) then ((at? a1 2).bind fun x3 => (k0 (decide (x3 = a0)))) else (k0 false))) else (k0 false)))
def P102 : AP := ⟨[pI, pL [hI], pI], []⟩
def E102 (N : Nat) {R : Type} (x : P102.den) (k : KK R) : Option R := graph_operations_c12 N x.1.1 x.1.2.1 x.1.2.2.1 (fun r0 => k [] [dB r0] [])
noncomputable def F102 (N : Nat) {R : Type} : CfS R := uC (F101 N) 224 P102 (E102 N)
theorem F102_ok (N : Nat) {R : Type} : FOK (F102 N : CfS R) (runF T) :=
  uC_ok (F101_ok N) (H := noH) (Lp := noL) (X := noX) (rp := []) (ver := c224) rfl (LOK0 (by kernel_rfl)) (fun x k => by kernel_rfl)
def graph_valueErr_v5 (N : Nat) {R : Type} (a0 : List Int) (a1 : Int) (a2 : Int) (a3 : List Int) (a4 : Int) (a5 : ByteArray) (a6 : Int) (a7 : Bool) (a8 : Nat) (a9 : Nat) (a10 : List S) (k0 : Int → Option R) : Option R := (bif decide (a1 = 0) then (graph_fits N a4 a2 (fun y1 => (graph_unless N y1 2 k0))) else (bif decide (a1 = 1) then (graph_within N a4 0 (w64 (((a0.length : Nat) : Int) - 1)) (fun y3 => (bif (!y3) then (k0 6) else ((at? a0 a4).bind fun x4 => (graph_unless N (decide (x4 = a2)) 25 k0))))) else (bif decide (a1 = 14) then (graph_within N a4 0 15 (fun y6 => (graph_unless N y6 2 k0))) else (bif a7 then (graph_unless N true 3 k0) else (graph_unless N (decide (a4 = 0)) 3 k0)))))
def P103 : AP := ⟨[pL [hI], .agg [pI, pI, pL [hI], pI], .agg [pS, pI, pB, .p (.fv []), .p (.fa)]], []⟩
def E103 (N : Nat) {R : Type} (x : P103.den) (k : KK R) : Option R := graph_valueErr_v5 N x.1.1 x.1.2.1.1 x.1.2.1.2.1 x.1.2.1.2.2.1 x.1.2.1.2.2.2.1 x.1.2.2.1.1 x.1.2.2.1.2.1 x.1.2.2.1.2.2.1 x.1.2.2.1.2.2.2.1.1 x.1.2.2.1.2.2.2.2.1.1 x.1.2.2.1.2.2.2.2.1.2 (fun r0 => k [] [dI r0] [])
noncomputable def F103 (N : Nat) {R : Type} : CfS R := uC (F102 N) 189 P103 (E103 N)
theorem F103_ok (N : Nat) {R : Type} : FOK (F103 N : CfS R) (runF T) :=
  uC_ok (F102_ok N) (H := noH) (Lp := noL) (X := noX) (rp := []) (ver := c189) rfl (LOK0 (by kernel_rfl)) (fun x k => by kernel_rfl)
def graph_compared (N : Nat) {R : Type} (a0 : Int) (a1 : List Int) (a2 : Int) (k0 : Bool → Option R) : Option R := (bif decide (a0 = 1) then ((at? a1 0).bind fun x1 => ((at? a1 1).bind fun x2 => (k0 (decide (x1 = x2))))) else (k0 false))
def P104 : AP := ⟨[pI, pL [hI], pI], []⟩
def E104 (N : Nat) {R : Type} (x : P104.den) (k : KK R) : Option R := graph_compared N x.1.1 x.1.2.1 x.1.2.2.1 (fun r0 => k [] [dB r0] [])
noncomputable def F104 (N : Nat) {R : Type} : CfS R := uC (F103 N) 245 P104 (E104 N)
theorem F104_ok (N : Nat) {R : Type} : FOK (F104 N : CfS R) (runF T) :=
  uC_ok (F103_ok N) (H := noH) (Lp := noL) (X := noX) (rp := []) (ver := c245) rfl (LOK0 (by kernel_rfl)) (fun x k => by kernel_rfl)
def graph_valueErr_v6 (N : Nat) {R : Type} (a0 : List Int) (a1 : Int) (a2 : Int) (a3 : List Int) (a4 : Int) (a5 : ByteArray) (a6 : Int) (a7 : Bool) (a8 : Nat) (a9 : Nat) (a10 : List S) (k0 : Int → Option R) : Option R := (bif decide (a1 = 0) then (graph_fits N a4 a2 (fun y1 => (graph_unless N y1 2 k0))) else (bif decide (a1 = 1) then (graph_within N a4 0 (w64 (((a0.length : Nat) : Int) - 1)) (fun y3 => (bif (!y3) then (k0 6) else ((at? a0 a4).bind fun x4 => (graph_unless N (decide (x4 = a2)) 25 k0))))) else (bif decide (a1 = 14) then (graph_within N a4 0 15 (fun y6 => (graph_unless N y6 2 k0))) else (bif a7 then (graph_unless N true 3 k0) else (graph_unless N (decide (a4 = 0)) 3 k0)))))
def P105 : AP := ⟨[pL [hI], .agg [pI, pI, pL [hI], pI], .agg [pS, pI, pB, .p (.fv []), .p (.fa)]], []⟩
def E105 (N : Nat) {R : Type} (x : P105.den) (k : KK R) : Option R := graph_valueErr_v6 N x.1.1 x.1.2.1.1 x.1.2.1.2.1 x.1.2.1.2.2.1 x.1.2.1.2.2.2.1 x.1.2.2.1.1 x.1.2.2.1.2.1 x.1.2.2.1.2.2.1 x.1.2.2.1.2.2.2.1.1 x.1.2.2.1.2.2.2.2.1.1 x.1.2.2.1.2.2.2.2.1.2 (fun r0 => k [] [dI r0] [])
noncomputable def F105 (N : Nat) {R : Type} : CfS R := uC (F104 N) 189 P105 (E105 N)
theorem F105_ok (N : Nat) {R : Type} : FOK (F105 N : CfS R) (runF T) :=
  uC_ok (F104_ok N) (H := noH) (Lp := noL) (X := noX) (rp := []) (ver := c189) rfl (LOK0 (by kernel_rfl)) (fun x k => by kernel_rfl)
def graph_same_c1 (N : Nat) {R : Type} (a0 : Int) (a1 : Int) (k0 : Bool → Int → Option R) : Option R := (k0 (decide (a0 ≠ a1)) a1)
def P106 : AP := ⟨[pI, .ptr 0 0], [(0, .box [pI])]⟩
def E106 (N : Nat) {R : Type} (x : P106.den) (k : KK R) : Option R := graph_same_c1 N x.1.1 x.2.1.1 (fun r0 r1 => k [0] [dB r0] [(0, .box [dI r1])])
noncomputable def F106 (N : Nat) {R : Type} : CfS R := uC (F105 N) 243 P106 (E106 N)
theorem F106_ok (N : Nat) {R : Type} : FOK (F106 N : CfS R) (runF T) :=
  uC_ok (F105_ok N) (H := noH) (Lp := noL) (X := noX) (rp := []) (ver := c243) rfl (LOK0 (by kernel_rfl)) (fun x k => by kernel_rfl)
def slices_IndexFunc_Lint_int_same_c1_l0 (N : Nat) {R : Type} (k0 : Int → Int → Option R) (k1 : Int → Option R) : Nat → List Int → Int → Int → Int → Option R
  | 0, _, _, _, _ => none
  | n + 1, b0, b1, b2, b3 => (bif decide (b2 < b1) then ((at? b0 b2).bind fun x1 => (graph_same_c1 N x1 b3 (fun y2 y3 => (bif y2 then (k0 b2 y3) else (slices_IndexFunc_Lint_int_same_c1_l0 N k0 k1 n b0 b1 (w64 (b2 + 1)) y3))))) else (k1 b3))
def P107_l0 : SP := ⟨[(0, pL [hI]), (1, .fn 243 [.ptr 0 0]), (7, pI), (8, pI), (100001, .fn 243 [.ptr 0 0])], [(0, .box [pI])]⟩
def E107_l0 (N : Nat) {R : Type} (n : Nat) (x : P107_l0.den) (k : KS R) : Option R := slices_IndexFunc_Lint_int_same_c1_l0 N (fun r0 r1 => k .ret ⟨[(4, dI r0), (100001, .fn 243 [.ptr 0 0])], [(0, .box [dI r1])]⟩) (fun r0 => k (.ex 0) ⟨[(100001, .fn 243 [.ptr 0 0])], [(0, .box [dI r0])]⟩) n x.1.1 x.1.2.2.1 x.1.2.2.2.1 x.2.1.1
theorem O107_l0 (N : Nat) {R : Type} : LpG T P107_l0 (E107_l0 N (R := R)) [0, 1, 7, 8] c116_l0 :=
  loop_ok (F106_ok N) (H := noH) (Lp := noL) (X := noX) (p := 26) (LOK0 (by kernel_rfl)) (fun _ _ => rfl) (fun n x k => by kernel_rfl)
noncomputable def L107_1 (N : Nat) {R : Type} : LpS R := updL noL 26 (lent' P107_l0 (E107_l0 N N))
def slices_IndexFunc_Lint_int_same_c1 (N : Nat) {R : Type} (a0 : List Int) (a1 : Int) (k0 : Int → Int → Option R) : Option R := (slices_IndexFunc_Lint_int_same_c1_l0 N k0 (fun z6 => (k0 (-1) z6)) N a0 ((a0.length : Nat) : Int) 0 a1)
def P107 : AP := ⟨[pL [hI], .fn 243 [.ptr 0 0]], [(0, .box [pI])]⟩
def E107 (N : Nat) {R : Type} (x : P107.den) (k : KK R) : Option R := slices_IndexFunc_Lint_int_same_c1 N x.1.1 x.2.1.1 (fun r0 r1 => k [0] [dI r0] [(0, .box [dI r1])])
noncomputable def F107 (N : Nat) {R : Type} : CfS R := uC (F106 N) 116 P107 (E107 N)
theorem F107_ok (N : Nat) {R : Type} : FOK (F107 N : CfS R) (runF T) :=
  uC_ok (F106_ok N) (H := noH) (Lp := (L107_1 N)) (X := noX) (rp := []) (ver := c116) rfl (LOK_of (l := [(26, [0, 1, 7, 8], c116_l0)]) (by kernel_rfl) ⟨(updL_ok (O107_l0 N N)), trivial⟩) (fun x k => by kernel_rfl)
def slices_ContainsFunc_Lint_int_same_c1 (N : Nat) {R : Type} (a0 : List Int) (a1 : Int) (k0 : Bool → Int → Option R) : Option R := (slices_IndexFunc_Lint_int_same_c1 N a0 a1 (fun y1 y2 => (k0 (decide (0 ≤ y1)) y2)))
def P108 : AP := ⟨[pL [hI], .fn 243 [.ptr 0 0]], [(0, .box [pI])]⟩
def E108 (N : Nat) {R : Type} (x : P108.den) (k : KK R) : Option R := slices_ContainsFunc_Lint_int_same_c1 N x.1.1 x.2.1.1 (fun r0 r1 => k [0] [dB r0] [(0, .box [dI r1])])
noncomputable def F108 (N : Nat) {R : Type} : CfS R := uC (F107 N) 85 P108 (E108 N)
theorem F108_ok (N : Nat) {R : Type} : FOK (F108 N : CfS R) (runF T) :=
  uC_ok (F107_ok N) (H := noH) (Lp := noL) (X := noX) (rp := []) (ver := c85) rfl (LOK0 (by kernel_rfl)) (fun x k => by kernel_rfl)
def graph_same (N : Nat) {R : Type} (a0 : Int) (a1 : List Int) (a2 : Int) (k0 : Bool → Option R) : Option R := (slices_ContainsFunc_Lint_int_same_c1 N a1 a0 (fun y1 y2 => (k0 (!y1))))
def P109 : AP := ⟨[pI, pL [hI], pI], []⟩
def E109 (N : Nat) {R : Type} (x : P109.den) (k : KK R) : Option R := graph_same N x.1.1 x.1.2.1 x.1.2.2.1 (fun r0 => k [] [dB r0] [])
noncomputable def F109 (N : Nat) {R : Type} : CfS R := uC (F108 N) 209 P109 (E109 N)
theorem F109_ok (N : Nat) {R : Type} : FOK (F109 N : CfS R) (runF T) :=
  uC_ok (F108_ok N) (H := noH) (Lp := noL) (X := noX) (rp := []) (ver := c209) rfl (LOK0 (by kernel_rfl)) (fun x k => by kernel_rfl)
def graph_valueErr_v7 (N : Nat) {R : Type} (a0 : List Int) (a1 : Int) (a2 : Int) (a3 : List Int) (a4 : Int) (a5 : ByteArray) (a6 : Int) (a7 : Bool) (a8 : Nat) (a9 : Nat) (a10 : List S) (k0 : Int → Option R) : Option R := (bif decide (a1 = 0) then (graph_fits N a4 a2 (fun y1 => (graph_unless N y1 2 k0))) else (bif decide (a1 = 1) then (graph_within N a4 0 (w64 (((a0.length : Nat) : Int) - 1)) (fun y3 => (bif (!y3) then (k0 6) else ((at? a0 a4).bind fun x4 => (graph_unless N (decide (x4 = a2)) 25 k0))))) else (bif decide (a1 = 14) then (graph_within N a4 0 15 (fun y6 => (graph_unless N y6 2 k0))) else (bif a7 then (graph_unless N true 3 k0) else (graph_unless N (decide (a4 = 0)) 3 k0)))))
def P110 : AP := ⟨[pL [hI], .agg [pI, pI, pL [hI], pI], .agg [pS, pI, pB, .p (.fv []), .p (.fa)]], []⟩
def E110 (N : Nat) {R : Type} (x : P110.den) (k : KK R) : Option R := graph_valueErr_v7 N x.1.1 x.1.2.1.1 x.1.2.1.2.1 x.1.2.1.2.2.1 x.1.2.1.2.2.2.1 x.1.2.2.1.1 x.1.2.2.1.2.1 x.1.2.2.1.2.2.1 x.1.2.2.1.2.2.2.1.1 x.1.2.2.1.2.2.2.2.1.1 x.1.2.2.1.2.2.2.2.1.2 (fun r0 => k [] [dI r0] [])
noncomputable def F110 (N : Nat) {R : Type} : CfS R := uC (F109 N) 189 P110 (E110 N)
theorem F110_ok (N : Nat) {R : Type} : FOK (F110 N : CfS R) (runF T) :=
  uC_ok (F109_ok N) (H := noH) (Lp := noL) (X := noX) (rp := []) (ver := c189) rfl (LOK0 (by kernel_rfl)) (fun x k => by kernel_rfl)
def graph_anyWidth (N : Nat) {R : Type} (a0 : Int) (a1 : List Int) (a2 : Int) (k0 : Bool → Option R) : Option R := (k0 true)
def P111 : AP := ⟨[pI, pL [hI], pI], []⟩
def E111 (N : Nat) {R : Type} (x : P111.den) (k : KK R) : Option R := graph_anyWidth N x.1.1 x.1.2.1 x.1.2.2.1 (fun r0 => k [] [dB r0] [])
noncomputable def F111 (N : Nat) {R : Type} : CfS R := uC (F110 N) 208 P111 (E111 N)
theorem F111_ok (N : Nat) {R : Type} : FOK (F111 N : CfS R) (runF T) :=
  uC_ok (F110_ok N) (H := noH) (Lp := noL) (X := noX) (rp := []) (ver := c208) rfl (LOK0 (by kernel_rfl)) (fun x k => by kernel_rfl)
def H112 : Nat → Option (List Sh) := fun n => if n = 12000 then some [hI] else if n = 44000 then some [hI] else if n = 66000 then some [hI] else none
def graph_CheckNodes_c2_l0 (N : Nat) {R : Type} (k0 : Int → Int → List Int → Int → ByteArray → Int → Bool → Nat → Nat → List S → List Int → List Int → zt2 → Option R) : Nat → List Int → Int → Int → zt2 → Int → Int → List Int → Int → ByteArray → Int → Bool → Nat → Nat → List S → List Int → List Int → Option R
  | 0, _, _, _, _, _, _, _, _, _, _, _, _, _, _, _, _ => none
  | n + 1, b0, b1, b2, b3, b4, b5, b6, b7, b8, b9, b10, b11, b12, b13, b14, b15 => (bif decide (b2 < b1) then ((at? b0 b2).bind fun x1 => ((at? b3 x1).bind fun x2 => (bif roomB (b14.length + 1) 8 then (graph_CheckNodes_c2_l0 N k0 n b0 b1 (w64 (b2 + 1)) b3 b4 b5 b6 b7 b8 b9 b10 b11 b12 b13 (b14 ++ [x2.2.1]) b15) else none))) else (k0 b4 b5 b6 b7 b8 b9 b10 b11 b12 b13 b14 b15 b3))
def P112_l0 : SP := ⟨[(4, .ptr 0 0), (6, .ptr 1 0), (9, .ptr 2 0), (12, .own 3), (56, pL [hI]), (57, pI), (58, pI), (100002, .ptr 4 0), (100003, .ptr 5 0), (100004, .ptr 0 0)], [(0, .box [pL zs1]), (1, .box [pI, pI, pL [hI], pI]), (2, .box [pS, pI, pB, .p (.fv []), .p (.fa)]), (3, .arr [hI]), (4, .box [.p (.ks (ByteArray.mk #[99, 111, 110, 115, 116])), .p (.ki .i64 0), .p (.kb true), .p (.fn 208 []), .p (.fn 207 []), .p (.ks (ByteArray.mk #[108, 101, 97, 102])), .p (.ki .i64 0), .p (.kb true), .p (.fn 208 []), .p (.fn 207 []), .p (.ks (ByteArray.mk #[110, 111, 116])), .p (.ki .i64 1), .p (.kb false), .p (.fn 209 []), .p (.fn 210 []), .p (.ks (ByteArray.mk #[97, 110, 100])), .p (.ki .i64 2), .p (.kb false), .p (.fn 209 []), .p (.fn 244 [.cp [.fn 213 []]]), .p (.ks (ByteArray.mk #[111, 114])), .p (.ki .i64 2), .p (.kb false), .p (.fn 209 []), .p (.fn 244 [.cp [.fn 214 []]]), .p (.ks (ByteArray.mk #[120, 111, 114])), .p (.ki .i64 2), .p (.kb false), .p (.fn 209 []), .p (.fn 244 [.cp [.fn 215 []]]), .p (.ks (ByteArray.mk #[97, 100, 100])), .p (.ki .i64 2), .p (.kb false), .p (.fn 209 []), .p (.fn 244 [.cp [.fn 216 []]]), .p (.ks (ByteArray.mk #[115, 117, 98])), .p (.ki .i64 2), .p (.kb false), .p (.fn 209 []), .p (.fn 244 [.cp [.fn 217 []]]), .p (.ks (ByteArray.mk #[109, 117, 108])), .p (.ki .i64 2), .p (.kb false), .p (.fn 209 []), .p (.fn 244 [.cp [.fn 218 []]]), .p (.ks (ByteArray.mk #[101, 113])), .p (.ki .i64 2), .p (.kb false), .p (.fn 245 []), .p (.fn 246 [.cp [.fn 220 []]]), .p (.ks (ByteArray.mk #[108, 116])), .p (.ki .i64 2), .p (.kb false), .p (.fn 245 []), .p (.fn 246 [.cp [.fn 221 []]]), .p (.ks (ByteArray.mk #[115, 108, 116])), .p (.ki .i64 2), .p (.kb false), .p (.fn 245 []), .p (.fn 246 [.cp [.fn 222 []]]), .p (.ks (ByteArray.mk #[109, 117, 120])), .p (.ki .i64 3), .p (.kb false), .p (.fn 224 []), .p (.fn 225 []), .p (.ks (ByteArray.mk #[106, 111, 105, 110])), .p (.ki .i64 2), .p (.kb false), .p (.fn 226 []), .p (.fn 227 []), .p (.ks (ByteArray.mk #[115, 108, 105, 99, 101])), .p (.ki .i64 1), .p (.kb true), .p (.fn 228 []), .p (.fn 229 []), .p (.ks (ByteArray.mk #[122, 101, 120, 116])), .p (.ki .i64 1), .p (.kb false), .p (.fn 230 []), .p (.fn 231 []), .p (.ks (ByteArray.mk #[115, 101, 120, 116])), .p (.ki .i64 1), .p (.kb false), .p (.fn 230 []), .p (.fn 232 []), .p (.ks (ByteArray.mk #[115, 104, 108])), .p (.ki .i64 2), .p (.kb false), .p (.fn 233 []), .p (.fn 234 []), .p (.ks (ByteArray.mk #[115, 104, 114])), .p (.ki .i64 2), .p (.kb false), .p (.fn 233 []), .p (.fn 235 [])]), (5, .box [pL [hI]])]⟩
def E112_l0 (N : Nat) {R : Type} (n : Nat) (x : P112_l0.den) (k : KS R) : Option R := graph_CheckNodes_c2_l0 N (fun r0 r1 r2 r3 r4 r5 r6 r7 r8 r9 r10 r11 r12 => k (.ex 0) ⟨[(6, .ptr 0 0), (9, .ptr 1 0), (12, .own 2), (100002, .ptr 3 0), (100003, .ptr 4 0), (100004, .ptr 5 0)], [(0, .box [dI r0, dI r1, dL [hI] r2, dI r3]), (1, .box [dS r4, dI r5, dB r6, .p (.fn r7 []), .p (.fn r8 r9)]), (2, .arr (.t [hI] r10)), (3, .box [dS (ByteArray.mk #[99, 111, 110, 115, 116]), dI 0, dB true, .p (.fn 208 []), .p (.fn 207 []), dS (ByteArray.mk #[108, 101, 97, 102]), dI 0, dB true, .p (.fn 208 []), .p (.fn 207 []), dS (ByteArray.mk #[110, 111, 116]), dI 1, dB false, .p (.fn 209 []), .p (.fn 210 []), dS (ByteArray.mk #[97, 110, 100]), dI 2, dB false, .p (.fn 209 []), .p (.fn 244 [.cp [.fn 213 []]]), dS (ByteArray.mk #[111, 114]), dI 2, dB false, .p (.fn 209 []), .p (.fn 244 [.cp [.fn 214 []]]), dS (ByteArray.mk #[120, 111, 114]), dI 2, dB false, .p (.fn 209 []), .p (.fn 244 [.cp [.fn 215 []]]), dS (ByteArray.mk #[97, 100, 100]), dI 2, dB false, .p (.fn 209 []), .p (.fn 244 [.cp [.fn 216 []]]), dS (ByteArray.mk #[115, 117, 98]), dI 2, dB false, .p (.fn 209 []), .p (.fn 244 [.cp [.fn 217 []]]), dS (ByteArray.mk #[109, 117, 108]), dI 2, dB false, .p (.fn 209 []), .p (.fn 244 [.cp [.fn 218 []]]), dS (ByteArray.mk #[101, 113]), dI 2, dB false, .p (.fn 245 []), .p (.fn 246 [.cp [.fn 220 []]]), dS (ByteArray.mk #[108, 116]), dI 2, dB false, .p (.fn 245 []), .p (.fn 246 [.cp [.fn 221 []]]), dS (ByteArray.mk #[115, 108, 116]), dI 2, dB false, .p (.fn 245 []), .p (.fn 246 [.cp [.fn 222 []]]), dS (ByteArray.mk #[109, 117, 120]), dI 3, dB false, .p (.fn 224 []), .p (.fn 225 []), dS (ByteArray.mk #[106, 111, 105, 110]), dI 2, dB false, .p (.fn 226 []), .p (.fn 227 []), dS (ByteArray.mk #[115, 108, 105, 99, 101]), dI 1, dB true, .p (.fn 228 []), .p (.fn 229 []), dS (ByteArray.mk #[122, 101, 120, 116]), dI 1, dB false, .p (.fn 230 []), .p (.fn 231 []), dS (ByteArray.mk #[115, 101, 120, 116]), dI 1, dB false, .p (.fn 230 []), .p (.fn 232 []), dS (ByteArray.mk #[115, 104, 108]), dI 2, dB false, .p (.fn 233 []), .p (.fn 234 []), dS (ByteArray.mk #[115, 104, 114]), dI 2, dB false, .p (.fn 233 []), .p (.fn 235 [])]), (4, .box [dL [hI] r11]), (5, .box [dL zs1 r12])]⟩) n x.1.2.2.2.2.1 x.1.2.2.2.2.2.1 x.1.2.2.2.2.2.2.1 x.2.1.1 x.2.2.1.1 x.2.2.1.2.1 x.2.2.1.2.2.1 x.2.2.1.2.2.2.1 x.2.2.2.1.1 x.2.2.2.1.2.1 x.2.2.2.1.2.2.1 x.2.2.2.1.2.2.2.1.1 x.2.2.2.1.2.2.2.2.1.1 x.2.2.2.1.2.2.2.2.1.2 x.2.2.2.2.1 x.2.2.2.2.2.2.1.1
theorem O112_l0 (N : Nat) {R : Type} : LpG T P112_l0 (E112_l0 N (R := R)) [4, 6, 9, 12, 56, 57, 58] c186_l0 :=
  loop_ok (F111_ok N) (H := H112) (Lp := noL) (X := noX) (p := 7962) (LOK0 (by kernel_rfl)) (fun _ _ => rfl) (fun n x k => by kernel_rfl)
noncomputable def L112_1 (N : Nat) {R : Type} : LpS R := updL noL 7962 (lent' P112_l0 (E112_l0 N N))
def graph_CheckNodes_c2_j0 (N : Nat) {R : Type} (k0 : Int → List Int → zt2 → Option R) (b0 : Bool) (b1 : List Int) (b2 : zt2) (b3 : Int) (b4 : Int) (b5 : List Int) (b6 : Int) (b7 : ByteArray) (b8 : Int) (b9 : Bool) (b10 : Nat) (b11 : Nat) (b12 : List S) : Option R := (graph_unless N (decide (((b5.length : Nat) : Int) = b8)) 10 (fun y1 => (graph_unless N (!b0) 9 (fun y2 => (graph_valueErr_v7 N b1 b3 b4 b5 b6 b7 b8 b9 b10 b11 b12 (fun y3 => (graph_first N [y1, y2, y3] (fun y4 => (bif decide (y4 ≠ 0) then (k0 y4 b1 b2) else (graph_CheckNodes_c2_l0 N (fun z5 z6 z7 z8 z9 z10 z11 z12 z13 z14 z15 z16 z17 => (bif decide (z12 = 208) then (graph_anyWidth N z6 z15 z8 (fun y18 => (graph_unless N y18 25 (fun y19 => (k0 y19 z16 z17))))) else (bif decide (z12 = 209) then (graph_same N z6 z15 z8 (fun y20 => (graph_unless N y20 25 (fun y21 => (k0 y21 z16 z17))))) else (bif decide (z12 = 224) then (graph_operations_c12 N z6 z15 z8 (fun y22 => (graph_unless N y22 25 (fun y23 => (k0 y23 z16 z17))))) else (bif decide (z12 = 226) then (graph_operations_c14 N z6 z15 z8 (fun y24 => (graph_unless N y24 25 (fun y25 => (k0 y25 z16 z17))))) else (bif decide (z12 = 228) then (graph_operations_c16 N z6 z15 z8 (fun y26 => (graph_unless N y26 25 (fun y27 => (k0 y27 z16 z17))))) else (bif decide (z12 = 230) then (graph_extended N z6 z15 z8 (fun y28 => (graph_unless N y28 25 (fun y29 => (k0 y29 z16 z17))))) else (bif decide (z12 = 233) then (graph_shifted N z6 z15 z8 (fun y30 => (graph_unless N y30 25 (fun y31 => (k0 y31 z16 z17))))) else (bif decide (z12 = 245) then (graph_compared N z6 z15 z8 (fun y32 => (graph_unless N y32 25 (fun y33 => (k0 y33 z16 z17))))) else none))))))))) N b5 ((b5.length : Nat) : Int) 0 b2 b3 b4 b5 b6 b7 b8 b9 b10 b11 b12 [] b1))))))))))
def P112_j0 : SP := ⟨[(3, .ptr 0 0), (4, .ptr 1 0), (6, .ptr 2 0), (9, .ptr 3 0), (10, pB), (100002, .ptr 4 0), (100003, .ptr 0 0), (100004, .ptr 1 0)], [(0, .box [pL [hI]]), (1, .box [pL zs1]), (2, .box [pI, pI, pL [hI], pI]), (3, .box [pS, pI, pB, .p (.fv []), .p (.fa)]), (4, .box [.p (.ks (ByteArray.mk #[99, 111, 110, 115, 116])), .p (.ki .i64 0), .p (.kb true), .p (.fn 208 []), .p (.fn 207 []), .p (.ks (ByteArray.mk #[108, 101, 97, 102])), .p (.ki .i64 0), .p (.kb true), .p (.fn 208 []), .p (.fn 207 []), .p (.ks (ByteArray.mk #[110, 111, 116])), .p (.ki .i64 1), .p (.kb false), .p (.fn 209 []), .p (.fn 210 []), .p (.ks (ByteArray.mk #[97, 110, 100])), .p (.ki .i64 2), .p (.kb false), .p (.fn 209 []), .p (.fn 244 [.cp [.fn 213 []]]), .p (.ks (ByteArray.mk #[111, 114])), .p (.ki .i64 2), .p (.kb false), .p (.fn 209 []), .p (.fn 244 [.cp [.fn 214 []]]), .p (.ks (ByteArray.mk #[120, 111, 114])), .p (.ki .i64 2), .p (.kb false), .p (.fn 209 []), .p (.fn 244 [.cp [.fn 215 []]]), .p (.ks (ByteArray.mk #[97, 100, 100])), .p (.ki .i64 2), .p (.kb false), .p (.fn 209 []), .p (.fn 244 [.cp [.fn 216 []]]), .p (.ks (ByteArray.mk #[115, 117, 98])), .p (.ki .i64 2), .p (.kb false), .p (.fn 209 []), .p (.fn 244 [.cp [.fn 217 []]]), .p (.ks (ByteArray.mk #[109, 117, 108])), .p (.ki .i64 2), .p (.kb false), .p (.fn 209 []), .p (.fn 244 [.cp [.fn 218 []]]), .p (.ks (ByteArray.mk #[101, 113])), .p (.ki .i64 2), .p (.kb false), .p (.fn 245 []), .p (.fn 246 [.cp [.fn 220 []]]), .p (.ks (ByteArray.mk #[108, 116])), .p (.ki .i64 2), .p (.kb false), .p (.fn 245 []), .p (.fn 246 [.cp [.fn 221 []]]), .p (.ks (ByteArray.mk #[115, 108, 116])), .p (.ki .i64 2), .p (.kb false), .p (.fn 245 []), .p (.fn 246 [.cp [.fn 222 []]]), .p (.ks (ByteArray.mk #[109, 117, 120])), .p (.ki .i64 3), .p (.kb false), .p (.fn 224 []), .p (.fn 225 []), .p (.ks (ByteArray.mk #[106, 111, 105, 110])), .p (.ki .i64 2), .p (.kb false), .p (.fn 226 []), .p (.fn 227 []), .p (.ks (ByteArray.mk #[115, 108, 105, 99, 101])), .p (.ki .i64 1), .p (.kb true), .p (.fn 228 []), .p (.fn 229 []), .p (.ks (ByteArray.mk #[122, 101, 120, 116])), .p (.ki .i64 1), .p (.kb false), .p (.fn 230 []), .p (.fn 231 []), .p (.ks (ByteArray.mk #[115, 101, 120, 116])), .p (.ki .i64 1), .p (.kb false), .p (.fn 230 []), .p (.fn 232 []), .p (.ks (ByteArray.mk #[115, 104, 108])), .p (.ki .i64 2), .p (.kb false), .p (.fn 233 []), .p (.fn 234 []), .p (.ks (ByteArray.mk #[115, 104, 114])), .p (.ki .i64 2), .p (.kb false), .p (.fn 233 []), .p (.fn 235 [])])]⟩
def E112_j0 (N : Nat) {R : Type} (n : Nat) (x : P112_j0.den) (k : KS R) : Option R := match n with
  | 0 => none
  | _ + 1 => graph_CheckNodes_c2_j0 N (fun r0 r1 r2 => k .ret ⟨[(7, dI r0), (100002, .ptr 0 0), (100003, .ptr 1 0), (100004, .ptr 2 0)], [(0, .box [dS (ByteArray.mk #[99, 111, 110, 115, 116]), dI 0, dB true, .p (.fn 208 []), .p (.fn 207 []), dS (ByteArray.mk #[108, 101, 97, 102]), dI 0, dB true, .p (.fn 208 []), .p (.fn 207 []), dS (ByteArray.mk #[110, 111, 116]), dI 1, dB false, .p (.fn 209 []), .p (.fn 210 []), dS (ByteArray.mk #[97, 110, 100]), dI 2, dB false, .p (.fn 209 []), .p (.fn 244 [.cp [.fn 213 []]]), dS (ByteArray.mk #[111, 114]), dI 2, dB false, .p (.fn 209 []), .p (.fn 244 [.cp [.fn 214 []]]), dS (ByteArray.mk #[120, 111, 114]), dI 2, dB false, .p (.fn 209 []), .p (.fn 244 [.cp [.fn 215 []]]), dS (ByteArray.mk #[97, 100, 100]), dI 2, dB false, .p (.fn 209 []), .p (.fn 244 [.cp [.fn 216 []]]), dS (ByteArray.mk #[115, 117, 98]), dI 2, dB false, .p (.fn 209 []), .p (.fn 244 [.cp [.fn 217 []]]), dS (ByteArray.mk #[109, 117, 108]), dI 2, dB false, .p (.fn 209 []), .p (.fn 244 [.cp [.fn 218 []]]), dS (ByteArray.mk #[101, 113]), dI 2, dB false, .p (.fn 245 []), .p (.fn 246 [.cp [.fn 220 []]]), dS (ByteArray.mk #[108, 116]), dI 2, dB false, .p (.fn 245 []), .p (.fn 246 [.cp [.fn 221 []]]), dS (ByteArray.mk #[115, 108, 116]), dI 2, dB false, .p (.fn 245 []), .p (.fn 246 [.cp [.fn 222 []]]), dS (ByteArray.mk #[109, 117, 120]), dI 3, dB false, .p (.fn 224 []), .p (.fn 225 []), dS (ByteArray.mk #[106, 111, 105, 110]), dI 2, dB false, .p (.fn 226 []), .p (.fn 227 []), dS (ByteArray.mk #[115, 108, 105, 99, 101]), dI 1, dB true, .p (.fn 228 []), .p (.fn 229 []), dS (ByteArray.mk #[122, 101, 120, 116]), dI 1, dB false, .p (.fn 230 []), .p (.fn 231 []), dS (ByteArray.mk #[115, 101, 120, 116]), dI 1, dB false, .p (.fn 230 []), .p (.fn 232 []), dS (ByteArray.mk #[115, 104, 108]), dI 2, dB false, .p (.fn 233 []), .p (.fn 234 []), dS (ByteArray.mk #[115, 104, 114]), dI 2, dB false, .p (.fn 233 []), .p (.fn 235 [])]), (1, .box [dL [hI] r1]), (2, .box [dL zs1 r2])]⟩) x.1.2.2.2.2.1 x.2.1.1 x.2.2.1.1 x.2.2.2.1.1 x.2.2.2.1.2.1 x.2.2.2.1.2.2.1 x.2.2.2.1.2.2.2.1 x.2.2.2.2.1.1 x.2.2.2.2.1.2.1 x.2.2.2.2.1.2.2.1 x.2.2.2.2.1.2.2.2.1.1 x.2.2.2.2.1.2.2.2.2.1.1 x.2.2.2.2.1.2.2.2.2.1.2
theorem O112_j0 (N : Nat) {R : Type} : LpG T P112_j0 (E112_j0 N (R := R)) [3, 4, 6, 9, 10] c186_j0 :=
  loop_ok (F111_ok N) (H := H112) (Lp := (L112_1 N)) (X := noX) (p := 62) (LOK_of (l := [(7962, [4, 6, 9, 12, 56, 57, 58], c186_l0)]) (by kernel_rfl) ⟨(updL_ok (O112_l0 N N)), trivial⟩) (fun _ _ => rfl) (fun n x k => by kernel_rfl)
noncomputable def L112_2 (N : Nat) {R : Type} : LpS R := updL (L112_1 N) 62 (lent' P112_j0 (E112_j0 N 1))
def graph_CheckNodes_c2 (N : Nat) {R : Type} (a0 : Int) (a1 : Int) (a2 : Int) (a3 : List Int) (a4 : Int) (a5 : List Int) (a6 : zt2) (k0 : Int → List Int → zt2 → Option R) : Option R := (graph_within N a1 0 18 (fun y1 => (graph_unless N y1 15 (fun y2 => (graph_isWidth N a2 (fun y3 => (graph_unless N y3 2 (fun y4 => (graph_first N [y2, y4] (fun y5 => (bif decide (y5 ≠ 0) then (k0 y5 a5 a6) else (bif decide (a1 = 18) then (slices_ContainsFunc_Lint_int_CheckNodes_c2_c1 N a3 a0 (fun y6 y7 => (graph_CheckNodes_c2_j0 N k0 y6 a5 a6 a1 a2 a3 a4 (ByteArray.mk #[115, 104, 114]) 2 false 233 235 ([] : List S)))) else (bif decide (a1 = 17) then (slices_ContainsFunc_Lint_int_CheckNodes_c2_c1 N a3 a0 (fun y37 y38 => (graph_CheckNodes_c2_j0 N k0 y37 a5 a6 a1 a2 a3 a4 (ByteArray.mk #[115, 104, 108]) 2 false 233 234 ([] : List S)))) else (bif decide (a1 = 16) then (slices_ContainsFunc_Lint_int_CheckNodes_c2_c1 N a3 a0 (fun y42 y43 => (graph_CheckNodes_c2_j0 N k0 y42 a5 a6 a1 a2 a3 a4 (ByteArray.mk #[115, 101, 120, 116]) 1 false 230 232 ([] : List S)))) else (bif decide (a1 = 15) then (slices_ContainsFunc_Lint_int_CheckNodes_c2_c1 N a3 a0 (fun y47 y48 => (graph_CheckNodes_c2_j0 N k0 y47 a5 a6 a1 a2 a3 a4 (ByteArray.mk #[122, 101, 120, 116]) 1 false 230 231 ([] : List S)))) else (bif decide (a1 = 14) then (slices_ContainsFunc_Lint_int_CheckNodes_c2_c1 N a3 a0 (fun y52 y53 => (graph_CheckNodes_c2_j0 N k0 y52 a5 a6 a1 a2 a3 a4 (ByteArray.mk #[115, 108, 105, 99, 101]) 1 true 228 229 ([] : List S)))) else (bif decide (a1 = 13) then (slices_ContainsFunc_Lint_int_CheckNodes_c2_c1 N a3 a0 (fun y57 y58 => (graph_CheckNodes_c2_j0 N k0 y57 a5 a6 a1 a2 a3 a4 (ByteArray.mk #[106, 111, 105, 110]) 2 false 226 227 ([] : List S)))) else (bif decide (a1 = 12) then (slices_ContainsFunc_Lint_int_CheckNodes_c2_c1 N a3 a0 (fun y62 y63 => (graph_CheckNodes_c2_j0 N k0 y62 a5 a6 a1 a2 a3 a4 (ByteArray.mk #[109, 117, 120]) 3 false 224 225 ([] : List S)))) else (bif decide (a1 = 11) then (slices_ContainsFunc_Lint_int_CheckNodes_c2_c1 N a3 a0 (fun y67 y68 => (graph_CheckNodes_c2_j0 N k0 y67 a5 a6 a1 a2 a3 a4 (ByteArray.mk #[115, 108, 116]) 2 false 245 246 ([.cp [.fn 222 []]] : List S)))) else (bif decide (a1 = 10) then (slices_ContainsFunc_Lint_int_CheckNodes_c2_c1 N a3 a0 (fun y72 y73 => (graph_CheckNodes_c2_j0 N k0 y72 a5 a6 a1 a2 a3 a4 (ByteArray.mk #[108, 116]) 2 false 245 246 ([.cp [.fn 221 []]] : List S)))) else (bif decide (a1 = 9) then (slices_ContainsFunc_Lint_int_CheckNodes_c2_c1 N a3 a0 (fun y77 y78 => (graph_CheckNodes_c2_j0 N k0 y77 a5 a6 a1 a2 a3 a4 (ByteArray.mk #[101, 113]) 2 false 245 246 ([.cp [.fn 220 []]] : List S)))) else (bif decide (a1 = 8) then (slices_ContainsFunc_Lint_int_CheckNodes_c2_c1 N a3 a0 (fun y82 y83 => (graph_CheckNodes_c2_j0 N k0 y82 a5 a6 a1 a2 a3 a4 (ByteArray.mk #[109, 117, 108]) 2 false 209 244 ([.cp [.fn 218 []]] : List S)))) else (bif decide (a1 = 7) then (slices_ContainsFunc_Lint_int_CheckNodes_c2_c1 N a3 a0 (fun y87 y88 => (graph_CheckNodes_c2_j0 N k0 y87 a5 a6 a1 a2 a3 a4 (ByteArray.mk #[115, 117, 98]) 2 false 209 244 ([.cp [.fn 217 []]] : List S)))) else (bif decide (a1 = 6) then (slices_ContainsFunc_Lint_int_CheckNodes_c2_c1 N a3 a0 (fun y92 y93 => (graph_CheckNodes_c2_j0 N k0 y92 a5 a6 a1 a2 a3 a4 (ByteArray.mk #[97, 100, 100]) 2 false 209 244 ([.cp [.fn 216 []]] : List S)))) else (bif decide (a1 = 5) then (slices_ContainsFunc_Lint_int_CheckNodes_c2_c1 N a3 a0 (fun y97 y98 => (graph_CheckNodes_c2_j0 N k0 y97 a5 a6 a1 a2 a3 a4 (ByteArray.mk #[120, 111, 114]) 2 false 209 244 ([.cp [.fn 215 []]] : List S)))) else (bif decide (a1 = 4) then (slices_ContainsFunc_Lint_int_CheckNodes_c2_c1 N a3 a0 (fun y102 y103 => (graph_CheckNodes_c2_j0 N k0 y102 a5 a6 a1 a2 a3 a4 (ByteArray.mk #[111, 114]) 2 false 209 244 ([.cp [.fn 214 []]] : List S)))) else (bif decide (a1 = 3) then (slices_ContainsFunc_Lint_int_CheckNodes_c2_c1 N a3 a0 (fun y107 y108 => (graph_CheckNodes_c2_j0 N k0 y107 a5 a6 a1 a2 a3 a4 (ByteArray.mk #[97, 110, 100]) 2 false 209 244 ([.cp [.fn 213 []]] : List S)))) else (bif decide (a1 = 2) then (slices_ContainsFunc_Lint_int_CheckNodes_c2_c1 N a3 a0 (fun y112 y113 => (graph_CheckNodes_c2_j0 N k0 y112 a5 a6 a1 a2 a3 a4 (ByteArray.mk #[110, 111, 116]) 1 false 209 210 ([] : List S)))) else (bif decide (a1 = 1) then (slices_ContainsFunc_Lint_int_CheckNodes_c2_c1 N a3 a0 (fun y117 y118 => (graph_CheckNodes_c2_j0 N k0 y117 a5 a6 a1 a2 a3 a4 (ByteArray.mk #[108, 101, 97, 102]) 0 true 208 207 ([] : List S)))) else (bif decide (a1 = 0) then (slices_ContainsFunc_Lint_int_CheckNodes_c2_c1 N a3 a0 (fun y122 y123 => (graph_CheckNodes_c2_j0 N k0 y122 a5 a6 a1 a2 a3 a4 (ByteArray.mk #[99, 111, 110, 115, 116]) 0 true 208 207 ([] : List S)))) else none))))))))))))))))))))))))))))))
def P112 : AP := ⟨[pI, .agg [pI, pI, pL [hI], pI], .ptr 0 0, .ptr 1 0, .ptr 2 0], [(0, .box [.p (.ks (ByteArray.mk #[99, 111, 110, 115, 116])), .p (.ki .i64 0), .p (.kb true), .p (.fn 208 []), .p (.fn 207 []), .p (.ks (ByteArray.mk #[108, 101, 97, 102])), .p (.ki .i64 0), .p (.kb true), .p (.fn 208 []), .p (.fn 207 []), .p (.ks (ByteArray.mk #[110, 111, 116])), .p (.ki .i64 1), .p (.kb false), .p (.fn 209 []), .p (.fn 210 []), .p (.ks (ByteArray.mk #[97, 110, 100])), .p (.ki .i64 2), .p (.kb false), .p (.fn 209 []), .p (.fn 244 [.cp [.fn 213 []]]), .p (.ks (ByteArray.mk #[111, 114])), .p (.ki .i64 2), .p (.kb false), .p (.fn 209 []), .p (.fn 244 [.cp [.fn 214 []]]), .p (.ks (ByteArray.mk #[120, 111, 114])), .p (.ki .i64 2), .p (.kb false), .p (.fn 209 []), .p (.fn 244 [.cp [.fn 215 []]]), .p (.ks (ByteArray.mk #[97, 100, 100])), .p (.ki .i64 2), .p (.kb false), .p (.fn 209 []), .p (.fn 244 [.cp [.fn 216 []]]), .p (.ks (ByteArray.mk #[115, 117, 98])), .p (.ki .i64 2), .p (.kb false), .p (.fn 209 []), .p (.fn 244 [.cp [.fn 217 []]]), .p (.ks (ByteArray.mk #[109, 117, 108])), .p (.ki .i64 2), .p (.kb false), .p (.fn 209 []), .p (.fn 244 [.cp [.fn 218 []]]), .p (.ks (ByteArray.mk #[101, 113])), .p (.ki .i64 2), .p (.kb false), .p (.fn 245 []), .p (.fn 246 [.cp [.fn 220 []]]), .p (.ks (ByteArray.mk #[108, 116])), .p (.ki .i64 2), .p (.kb false), .p (.fn 245 []), .p (.fn 246 [.cp [.fn 221 []]]), .p (.ks (ByteArray.mk #[115, 108, 116])), .p (.ki .i64 2), .p (.kb false), .p (.fn 245 []), .p (.fn 246 [.cp [.fn 222 []]]), .p (.ks (ByteArray.mk #[109, 117, 120])), .p (.ki .i64 3), .p (.kb false), .p (.fn 224 []), .p (.fn 225 []), .p (.ks (ByteArray.mk #[106, 111, 105, 110])), .p (.ki .i64 2), .p (.kb false), .p (.fn 226 []), .p (.fn 227 []), .p (.ks (ByteArray.mk #[115, 108, 105, 99, 101])), .p (.ki .i64 1), .p (.kb true), .p (.fn 228 []), .p (.fn 229 []), .p (.ks (ByteArray.mk #[122, 101, 120, 116])), .p (.ki .i64 1), .p (.kb false), .p (.fn 230 []), .p (.fn 231 []), .p (.ks (ByteArray.mk #[115, 101, 120, 116])), .p (.ki .i64 1), .p (.kb false), .p (.fn 230 []), .p (.fn 232 []), .p (.ks (ByteArray.mk #[115, 104, 108])), .p (.ki .i64 2), .p (.kb false), .p (.fn 233 []), .p (.fn 234 []), .p (.ks (ByteArray.mk #[115, 104, 114])), .p (.ki .i64 2), .p (.kb false), .p (.fn 233 []), .p (.fn 235 [])]), (1, .box [pL [hI]]), (2, .box [pL zs1])]⟩
def E112 (N : Nat) {R : Type} (x : P112.den) (k : KK R) : Option R := graph_CheckNodes_c2 N x.1.1 x.1.2.1.1 x.1.2.1.2.1 x.1.2.1.2.2.1 x.1.2.1.2.2.2.1 x.2.2.1.1 x.2.2.2.1.1 (fun r0 r1 r2 => k [0, 1, 2] [dI r0] [(0, .box [dS (ByteArray.mk #[99, 111, 110, 115, 116]), dI 0, dB true, .p (.fn 208 []), .p (.fn 207 []), dS (ByteArray.mk #[108, 101, 97, 102]), dI 0, dB true, .p (.fn 208 []), .p (.fn 207 []), dS (ByteArray.mk #[110, 111, 116]), dI 1, dB false, .p (.fn 209 []), .p (.fn 210 []), dS (ByteArray.mk #[97, 110, 100]), dI 2, dB false, .p (.fn 209 []), .p (.fn 244 [.cp [.fn 213 []]]), dS (ByteArray.mk #[111, 114]), dI 2, dB false, .p (.fn 209 []), .p (.fn 244 [.cp [.fn 214 []]]), dS (ByteArray.mk #[120, 111, 114]), dI 2, dB false, .p (.fn 209 []), .p (.fn 244 [.cp [.fn 215 []]]), dS (ByteArray.mk #[97, 100, 100]), dI 2, dB false, .p (.fn 209 []), .p (.fn 244 [.cp [.fn 216 []]]), dS (ByteArray.mk #[115, 117, 98]), dI 2, dB false, .p (.fn 209 []), .p (.fn 244 [.cp [.fn 217 []]]), dS (ByteArray.mk #[109, 117, 108]), dI 2, dB false, .p (.fn 209 []), .p (.fn 244 [.cp [.fn 218 []]]), dS (ByteArray.mk #[101, 113]), dI 2, dB false, .p (.fn 245 []), .p (.fn 246 [.cp [.fn 220 []]]), dS (ByteArray.mk #[108, 116]), dI 2, dB false, .p (.fn 245 []), .p (.fn 246 [.cp [.fn 221 []]]), dS (ByteArray.mk #[115, 108, 116]), dI 2, dB false, .p (.fn 245 []), .p (.fn 246 [.cp [.fn 222 []]]), dS (ByteArray.mk #[109, 117, 120]), dI 3, dB false, .p (.fn 224 []), .p (.fn 225 []), dS (ByteArray.mk #[106, 111, 105, 110]), dI 2, dB false, .p (.fn 226 []), .p (.fn 227 []), dS (ByteArray.mk #[115, 108, 105, 99, 101]), dI 1, dB true, .p (.fn 228 []), .p (.fn 229 []), dS (ByteArray.mk #[122, 101, 120, 116]), dI 1, dB false, .p (.fn 230 []), .p (.fn 231 []), dS (ByteArray.mk #[115, 101, 120, 116]), dI 1, dB false, .p (.fn 230 []), .p (.fn 232 []), dS (ByteArray.mk #[115, 104, 108]), dI 2, dB false, .p (.fn 233 []), .p (.fn 234 []), dS (ByteArray.mk #[115, 104, 114]), dI 2, dB false, .p (.fn 233 []), .p (.fn 235 [])]), (1, .box [dL [hI] r1]), (2, .box [dL zs1 r2])])
noncomputable def F112 (N : Nat) {R : Type} : CfS R := uC (F111 N) 186 P112 (E112 N)
theorem F112_ok (N : Nat) {R : Type} : FOK (F112 N : CfS R) (runF T) :=
  uC_ok (F111_ok N) (H := H112) (Lp := (L112_2 N)) (X := noX) (rp := []) (ver := c186) rfl (LOK_of (l := [(62, [3, 4, 6, 9, 10], c186_j0)]) (by kernel_rfl) ⟨(updL_ok (O112_j0 N 1)), trivial⟩) (fun x k => by kernel_rfl)
def graph_each_Node_l0 (N : Nat) {R : Type} (k0 : Int → Int → List Int → zt2 → Option R) (k1 : List Int → zt2 → Option R) : Nat → zt2 → Int → Int → List Int → zt2 → Option R
  | 0, _, _, _, _, _ => none
  | n + 1, b0, b1, b2, b3, b4 => (bif decide (b2 < b1) then ((at? b0 b2).bind fun x1 => (graph_CheckNodes_c2 N b2 x1.1 x1.2.1 x1.2.2.1 x1.2.2.2 b3 b4 (fun y2 y3 y4 => (bif decide (y2 ≠ 0) then (k0 b2 y2 y3 y4) else (graph_each_Node_l0 N k0 k1 n b0 b1 (w64 (b2 + 1)) y3 y4))))) else (k1 b3 b4))
def P113_l0 : SP := ⟨[(1, .fn 186 [.ptr 0 0, .ptr 1 0, .ptr 2 0]), (9, pL zs1), (10, pI), (11, pI), (100001, .fn 186 [.ptr 0 0, .ptr 1 0, .ptr 2 0])], [(0, .box [.p (.ks (ByteArray.mk #[99, 111, 110, 115, 116])), .p (.ki .i64 0), .p (.kb true), .p (.fn 208 []), .p (.fn 207 []), .p (.ks (ByteArray.mk #[108, 101, 97, 102])), .p (.ki .i64 0), .p (.kb true), .p (.fn 208 []), .p (.fn 207 []), .p (.ks (ByteArray.mk #[110, 111, 116])), .p (.ki .i64 1), .p (.kb false), .p (.fn 209 []), .p (.fn 210 []), .p (.ks (ByteArray.mk #[97, 110, 100])), .p (.ki .i64 2), .p (.kb false), .p (.fn 209 []), .p (.fn 244 [.cp [.fn 213 []]]), .p (.ks (ByteArray.mk #[111, 114])), .p (.ki .i64 2), .p (.kb false), .p (.fn 209 []), .p (.fn 244 [.cp [.fn 214 []]]), .p (.ks (ByteArray.mk #[120, 111, 114])), .p (.ki .i64 2), .p (.kb false), .p (.fn 209 []), .p (.fn 244 [.cp [.fn 215 []]]), .p (.ks (ByteArray.mk #[97, 100, 100])), .p (.ki .i64 2), .p (.kb false), .p (.fn 209 []), .p (.fn 244 [.cp [.fn 216 []]]), .p (.ks (ByteArray.mk #[115, 117, 98])), .p (.ki .i64 2), .p (.kb false), .p (.fn 209 []), .p (.fn 244 [.cp [.fn 217 []]]), .p (.ks (ByteArray.mk #[109, 117, 108])), .p (.ki .i64 2), .p (.kb false), .p (.fn 209 []), .p (.fn 244 [.cp [.fn 218 []]]), .p (.ks (ByteArray.mk #[101, 113])), .p (.ki .i64 2), .p (.kb false), .p (.fn 245 []), .p (.fn 246 [.cp [.fn 220 []]]), .p (.ks (ByteArray.mk #[108, 116])), .p (.ki .i64 2), .p (.kb false), .p (.fn 245 []), .p (.fn 246 [.cp [.fn 221 []]]), .p (.ks (ByteArray.mk #[115, 108, 116])), .p (.ki .i64 2), .p (.kb false), .p (.fn 245 []), .p (.fn 246 [.cp [.fn 222 []]]), .p (.ks (ByteArray.mk #[109, 117, 120])), .p (.ki .i64 3), .p (.kb false), .p (.fn 224 []), .p (.fn 225 []), .p (.ks (ByteArray.mk #[106, 111, 105, 110])), .p (.ki .i64 2), .p (.kb false), .p (.fn 226 []), .p (.fn 227 []), .p (.ks (ByteArray.mk #[115, 108, 105, 99, 101])), .p (.ki .i64 1), .p (.kb true), .p (.fn 228 []), .p (.fn 229 []), .p (.ks (ByteArray.mk #[122, 101, 120, 116])), .p (.ki .i64 1), .p (.kb false), .p (.fn 230 []), .p (.fn 231 []), .p (.ks (ByteArray.mk #[115, 101, 120, 116])), .p (.ki .i64 1), .p (.kb false), .p (.fn 230 []), .p (.fn 232 []), .p (.ks (ByteArray.mk #[115, 104, 108])), .p (.ki .i64 2), .p (.kb false), .p (.fn 233 []), .p (.fn 234 []), .p (.ks (ByteArray.mk #[115, 104, 114])), .p (.ki .i64 2), .p (.kb false), .p (.fn 233 []), .p (.fn 235 [])]), (1, .box [pL [hI]]), (2, .box [pL zs1])]⟩
def E113_l0 (N : Nat) {R : Type} (n : Nat) (x : P113_l0.den) (k : KS R) : Option R := graph_each_Node_l0 N (fun r0 r1 r2 r3 => k .ret ⟨[(4, dI r0), (5, dI r1), (100001, .fn 186 [.ptr 0 0, .ptr 1 0, .ptr 2 0])], [(0, .box [dS (ByteArray.mk #[99, 111, 110, 115, 116]), dI 0, dB true, .p (.fn 208 []), .p (.fn 207 []), dS (ByteArray.mk #[108, 101, 97, 102]), dI 0, dB true, .p (.fn 208 []), .p (.fn 207 []), dS (ByteArray.mk #[110, 111, 116]), dI 1, dB false, .p (.fn 209 []), .p (.fn 210 []), dS (ByteArray.mk #[97, 110, 100]), dI 2, dB false, .p (.fn 209 []), .p (.fn 244 [.cp [.fn 213 []]]), dS (ByteArray.mk #[111, 114]), dI 2, dB false, .p (.fn 209 []), .p (.fn 244 [.cp [.fn 214 []]]), dS (ByteArray.mk #[120, 111, 114]), dI 2, dB false, .p (.fn 209 []), .p (.fn 244 [.cp [.fn 215 []]]), dS (ByteArray.mk #[97, 100, 100]), dI 2, dB false, .p (.fn 209 []), .p (.fn 244 [.cp [.fn 216 []]]), dS (ByteArray.mk #[115, 117, 98]), dI 2, dB false, .p (.fn 209 []), .p (.fn 244 [.cp [.fn 217 []]]), dS (ByteArray.mk #[109, 117, 108]), dI 2, dB false, .p (.fn 209 []), .p (.fn 244 [.cp [.fn 218 []]]), dS (ByteArray.mk #[101, 113]), dI 2, dB false, .p (.fn 245 []), .p (.fn 246 [.cp [.fn 220 []]]), dS (ByteArray.mk #[108, 116]), dI 2, dB false, .p (.fn 245 []), .p (.fn 246 [.cp [.fn 221 []]]), dS (ByteArray.mk #[115, 108, 116]), dI 2, dB false, .p (.fn 245 []), .p (.fn 246 [.cp [.fn 222 []]]), dS (ByteArray.mk #[109, 117, 120]), dI 3, dB false, .p (.fn 224 []), .p (.fn 225 []), dS (ByteArray.mk #[106, 111, 105, 110]), dI 2, dB false, .p (.fn 226 []), .p (.fn 227 []), dS (ByteArray.mk #[115, 108, 105, 99, 101]), dI 1, dB true, .p (.fn 228 []), .p (.fn 229 []), dS (ByteArray.mk #[122, 101, 120, 116]), dI 1, dB false, .p (.fn 230 []), .p (.fn 231 []), dS (ByteArray.mk #[115, 101, 120, 116]), dI 1, dB false, .p (.fn 230 []), .p (.fn 232 []), dS (ByteArray.mk #[115, 104, 108]), dI 2, dB false, .p (.fn 233 []), .p (.fn 234 []), dS (ByteArray.mk #[115, 104, 114]), dI 2, dB false, .p (.fn 233 []), .p (.fn 235 [])]), (1, .box [dL [hI] r2]), (2, .box [dL zs1 r3])]⟩) (fun r0 r1 => k (.ex 0) ⟨[(100001, .fn 186 [.ptr 0 0, .ptr 1 0, .ptr 2 0])], [(0, .box [dS (ByteArray.mk #[99, 111, 110, 115, 116]), dI 0, dB true, .p (.fn 208 []), .p (.fn 207 []), dS (ByteArray.mk #[108, 101, 97, 102]), dI 0, dB true, .p (.fn 208 []), .p (.fn 207 []), dS (ByteArray.mk #[110, 111, 116]), dI 1, dB false, .p (.fn 209 []), .p (.fn 210 []), dS (ByteArray.mk #[97, 110, 100]), dI 2, dB false, .p (.fn 209 []), .p (.fn 244 [.cp [.fn 213 []]]), dS (ByteArray.mk #[111, 114]), dI 2, dB false, .p (.fn 209 []), .p (.fn 244 [.cp [.fn 214 []]]), dS (ByteArray.mk #[120, 111, 114]), dI 2, dB false, .p (.fn 209 []), .p (.fn 244 [.cp [.fn 215 []]]), dS (ByteArray.mk #[97, 100, 100]), dI 2, dB false, .p (.fn 209 []), .p (.fn 244 [.cp [.fn 216 []]]), dS (ByteArray.mk #[115, 117, 98]), dI 2, dB false, .p (.fn 209 []), .p (.fn 244 [.cp [.fn 217 []]]), dS (ByteArray.mk #[109, 117, 108]), dI 2, dB false, .p (.fn 209 []), .p (.fn 244 [.cp [.fn 218 []]]), dS (ByteArray.mk #[101, 113]), dI 2, dB false, .p (.fn 245 []), .p (.fn 246 [.cp [.fn 220 []]]), dS (ByteArray.mk #[108, 116]), dI 2, dB false, .p (.fn 245 []), .p (.fn 246 [.cp [.fn 221 []]]), dS (ByteArray.mk #[115, 108, 116]), dI 2, dB false, .p (.fn 245 []), .p (.fn 246 [.cp [.fn 222 []]]), dS (ByteArray.mk #[109, 117, 120]), dI 3, dB false, .p (.fn 224 []), .p (.fn 225 []), dS (ByteArray.mk #[106, 111, 105, 110]), dI 2, dB false, .p (.fn 226 []), .p (.fn 227 []), dS (ByteArray.mk #[115, 108, 105, 99, 101]), dI 1, dB true, .p (.fn 228 []), .p (.fn 229 []), dS (ByteArray.mk #[122, 101, 120, 116]), dI 1, dB false, .p (.fn 230 []), .p (.fn 231 []), dS (ByteArray.mk #[115, 101, 120, 116]), dI 1, dB false, .p (.fn 230 []), .p (.fn 232 []), dS (ByteArray.mk #[115, 104, 108]), dI 2, dB false, .p (.fn 233 []), .p (.fn 234 []), dS (ByteArray.mk #[115, 104, 114]), dI 2, dB false, .p (.fn 233 []), .p (.fn 235 [])]), (1, .box [dL [hI] r0]), (2, .box [dL zs1 r1])]⟩) n x.1.2.1 x.1.2.2.1 x.1.2.2.2.1 x.2.2.1.1 x.2.2.2.1.1
theorem O113_l0 (N : Nat) {R : Type} : LpG T P113_l0 (E113_l0 N (R := R)) [1, 9, 10, 11] c185_l0 :=
  loop_ok (F112_ok N) (H := noH) (Lp := noL) (X := noX) (p := 26) (LOK0 (by kernel_rfl)) (fun _ _ => rfl) (fun n x k => by kernel_rfl)
noncomputable def L113_1 (N : Nat) {R : Type} : LpS R := updL noL 26 (lent' P113_l0 (E113_l0 N N))
def graph_each_Node (N : Nat) {R : Type} (a0 : zt2) (a1 : List Int) (a2 : zt2) (k0 : Int → Int → List Int → zt2 → Option R) : Option R := (graph_each_Node_l0 N k0 (fun z9 z10 => (k0 0 0 z9 z10)) N a0 ((a0.length : Nat) : Int) 0 a1 a2)
def P113 : AP := ⟨[pL zs1, .fn 186 [.ptr 0 0, .ptr 1 0, .ptr 2 0]], [(0, .box [.p (.ks (ByteArray.mk #[99, 111, 110, 115, 116])), .p (.ki .i64 0), .p (.kb true), .p (.fn 208 []), .p (.fn 207 []), .p (.ks (ByteArray.mk #[108, 101, 97, 102])), .p (.ki .i64 0), .p (.kb true), .p (.fn 208 []), .p (.fn 207 []), .p (.ks (ByteArray.mk #[110, 111, 116])), .p (.ki .i64 1), .p (.kb false), .p (.fn 209 []), .p (.fn 210 []), .p (.ks (ByteArray.mk #[97, 110, 100])), .p (.ki .i64 2), .p (.kb false), .p (.fn 209 []), .p (.fn 244 [.cp [.fn 213 []]]), .p (.ks (ByteArray.mk #[111, 114])), .p (.ki .i64 2), .p (.kb false), .p (.fn 209 []), .p (.fn 244 [.cp [.fn 214 []]]), .p (.ks (ByteArray.mk #[120, 111, 114])), .p (.ki .i64 2), .p (.kb false), .p (.fn 209 []), .p (.fn 244 [.cp [.fn 215 []]]), .p (.ks (ByteArray.mk #[97, 100, 100])), .p (.ki .i64 2), .p (.kb false), .p (.fn 209 []), .p (.fn 244 [.cp [.fn 216 []]]), .p (.ks (ByteArray.mk #[115, 117, 98])), .p (.ki .i64 2), .p (.kb false), .p (.fn 209 []), .p (.fn 244 [.cp [.fn 217 []]]), .p (.ks (ByteArray.mk #[109, 117, 108])), .p (.ki .i64 2), .p (.kb false), .p (.fn 209 []), .p (.fn 244 [.cp [.fn 218 []]]), .p (.ks (ByteArray.mk #[101, 113])), .p (.ki .i64 2), .p (.kb false), .p (.fn 245 []), .p (.fn 246 [.cp [.fn 220 []]]), .p (.ks (ByteArray.mk #[108, 116])), .p (.ki .i64 2), .p (.kb false), .p (.fn 245 []), .p (.fn 246 [.cp [.fn 221 []]]), .p (.ks (ByteArray.mk #[115, 108, 116])), .p (.ki .i64 2), .p (.kb false), .p (.fn 245 []), .p (.fn 246 [.cp [.fn 222 []]]), .p (.ks (ByteArray.mk #[109, 117, 120])), .p (.ki .i64 3), .p (.kb false), .p (.fn 224 []), .p (.fn 225 []), .p (.ks (ByteArray.mk #[106, 111, 105, 110])), .p (.ki .i64 2), .p (.kb false), .p (.fn 226 []), .p (.fn 227 []), .p (.ks (ByteArray.mk #[115, 108, 105, 99, 101])), .p (.ki .i64 1), .p (.kb true), .p (.fn 228 []), .p (.fn 229 []), .p (.ks (ByteArray.mk #[122, 101, 120, 116])), .p (.ki .i64 1), .p (.kb false), .p (.fn 230 []), .p (.fn 231 []), .p (.ks (ByteArray.mk #[115, 101, 120, 116])), .p (.ki .i64 1), .p (.kb false), .p (.fn 230 []), .p (.fn 232 []), .p (.ks (ByteArray.mk #[115, 104, 108])), .p (.ki .i64 2), .p (.kb false), .p (.fn 233 []), .p (.fn 234 []), .p (.ks (ByteArray.mk #[115, 104, 114])), .p (.ki .i64 2), .p (.kb false), .p (.fn 233 []), .p (.fn 235 [])]), (1, .box [pL [hI]]), (2, .box [pL zs1])]⟩
def E113 (N : Nat) {R : Type} (x : P113.den) (k : KK R) : Option R := graph_each_Node N x.1.1 x.2.2.1.1 x.2.2.2.1.1 (fun r0 r1 r2 r3 => k [0, 1, 2] [dI r0, dI r1] [(0, .box [dS (ByteArray.mk #[99, 111, 110, 115, 116]), dI 0, dB true, .p (.fn 208 []), .p (.fn 207 []), dS (ByteArray.mk #[108, 101, 97, 102]), dI 0, dB true, .p (.fn 208 []), .p (.fn 207 []), dS (ByteArray.mk #[110, 111, 116]), dI 1, dB false, .p (.fn 209 []), .p (.fn 210 []), dS (ByteArray.mk #[97, 110, 100]), dI 2, dB false, .p (.fn 209 []), .p (.fn 244 [.cp [.fn 213 []]]), dS (ByteArray.mk #[111, 114]), dI 2, dB false, .p (.fn 209 []), .p (.fn 244 [.cp [.fn 214 []]]), dS (ByteArray.mk #[120, 111, 114]), dI 2, dB false, .p (.fn 209 []), .p (.fn 244 [.cp [.fn 215 []]]), dS (ByteArray.mk #[97, 100, 100]), dI 2, dB false, .p (.fn 209 []), .p (.fn 244 [.cp [.fn 216 []]]), dS (ByteArray.mk #[115, 117, 98]), dI 2, dB false, .p (.fn 209 []), .p (.fn 244 [.cp [.fn 217 []]]), dS (ByteArray.mk #[109, 117, 108]), dI 2, dB false, .p (.fn 209 []), .p (.fn 244 [.cp [.fn 218 []]]), dS (ByteArray.mk #[101, 113]), dI 2, dB false, .p (.fn 245 []), .p (.fn 246 [.cp [.fn 220 []]]), dS (ByteArray.mk #[108, 116]), dI 2, dB false, .p (.fn 245 []), .p (.fn 246 [.cp [.fn 221 []]]), dS (ByteArray.mk #[115, 108, 116]), dI 2, dB false, .p (.fn 245 []), .p (.fn 246 [.cp [.fn 222 []]]), dS (ByteArray.mk #[109, 117, 120]), dI 3, dB false, .p (.fn 224 []), .p (.fn 225 []), dS (ByteArray.mk #[106, 111, 105, 110]), dI 2, dB false, .p (.fn 226 []), .p (.fn 227 []), dS (ByteArray.mk #[115, 108, 105, 99, 101]), dI 1, dB true, .p (.fn 228 []), .p (.fn 229 []), dS (ByteArray.mk #[122, 101, 120, 116]), dI 1, dB false, .p (.fn 230 []), .p (.fn 231 []), dS (ByteArray.mk #[115, 101, 120, 116]), dI 1, dB false, .p (.fn 230 []), .p (.fn 232 []), dS (ByteArray.mk #[115, 104, 108]), dI 2, dB false, .p (.fn 233 []), .p (.fn 234 []), dS (ByteArray.mk #[115, 104, 114]), dI 2, dB false, .p (.fn 233 []), .p (.fn 235 [])]), (1, .box [dL [hI] r2]), (2, .box [dL zs1 r3])])
noncomputable def F113 (N : Nat) {R : Type} : CfS R := uC (F112 N) 185 P113 (E113 N)
theorem F113_ok (N : Nat) {R : Type} : FOK (F113 N : CfS R) (runF T) :=
  uC_ok (F112_ok N) (H := noH) (Lp := (L113_1 N)) (X := noX) (rp := []) (ver := c185) rfl (LOK_of (l := [(26, [1, 9, 10, 11], c185_l0)]) (by kernel_rfl) ⟨(updL_ok (O113_l0 N N)), trivial⟩) (fun x k => by kernel_rfl)
def graph_CheckNodes (N : Nat) {R : Type} (a0 : List Int) (a1 : zt2) (k0 : Int → Int → Option R) : Option R := (bif decide (40 < ((a0.length : Nat) : Int)) then (k0 0 8) else (graph_each_int_CheckNodes_c1 N a0 (fun y1 y2 => (bif decide (y2 ≠ 0) then (k0 y1 y2) else (bif decide (400 < ((a1.length : Nat) : Int)) then (k0 0 8) else (graph_operations N (graph_each_Node N a1 a0 a1 (fun y3 y4 y5 y6 => (k0 y3 y4)))))))))
def P114 : AP := ⟨[pL [hI], pL zs1], []⟩
def E114 (N : Nat) {R : Type} (x : P114.den) (k : KK R) : Option R := graph_CheckNodes N x.1.1 x.1.2.1 (fun r0 r1 => k [] [dI r0, dI r1] [])
noncomputable def F114 (N : Nat) {R : Type} : CfS R := uC (F113 N) 129 P114 (E114 N)
theorem F114_ok (N : Nat) {R : Type} : FOK (F114 N : CfS R) (runF T) :=
  uC_ok (F113_ok N) (H := noH) (Lp := noL) (X := noX) (rp := []) (ver := c129) rfl (LOK0 (by kernel_rfl)) (fun x k => by kernel_rfl)
def design_CheckDesign_c5 (N : Nat) {R : Type} (a0 : ByteArray) (a1 : zt5) (a2 : zt1) (a3 : zt2) (a4 : zt0) (a5 : zt5) (a6 : zt4) (k0 : Int → Int → ByteArray → zt5 → zt1 → zt2 → zt0 → zt5 → zt4 → Option R) : Option R := (design_leaves N a0 a1 a2 a3 a4 a5 a6 (fun y1 => (graph_CheckNodes N y1 a3 (fun y2 y3 => (k0 y2 y3 a0 a1 a2 a3 a4 a5 a6)))))
def P115 : AP := ⟨[.ptr 0 0], [(0, .box [pS, pL [.s, hI], pL zs2, pL zs1, pL zs0, pL [.s, hI], pL zs3])]⟩
def E115 (N : Nat) {R : Type} (x : P115.den) (k : KK R) : Option R := design_CheckDesign_c5 N x.2.1.1 x.2.1.2.1 x.2.1.2.2.1 x.2.1.2.2.2.1 x.2.1.2.2.2.2.1 x.2.1.2.2.2.2.2.1 x.2.1.2.2.2.2.2.2.1 (fun r0 r1 r2 r3 r4 r5 r6 r7 r8 => k [0] [dI r0, dI r1] [(0, .box [dS r2, dL [.s, hI] r3, dL zs2 r4, dL zs1 r5, dL zs0 r6, dL [.s, hI] r7, dL zs3 r8])])
noncomputable def F115 (N : Nat) {R : Type} : CfS R := uC (F114 N) 128 P115 (E115 N)
theorem F115_ok (N : Nat) {R : Type} : FOK (F115 N : CfS R) (runF T) :=
  uC_ok (F114_ok N) (H := noH) (Lp := noL) (X := noX) (rp := []) (ver := c128) rfl (LOK0 (by kernel_rfl)) (fun x k => by kernel_rfl)
def design_isWidth (N : Nat) {R : Type} (a0 : Int) (k0 : Bool → Option R) : Option R := (design_within N a0 1 16 k0)
def P116 : AP := ⟨[pI], []⟩
def E116 (N : Nat) {R : Type} (x : P116.den) (k : KK R) : Option R := design_isWidth N x.1.1 (fun r0 => k [] [dB r0] [])
noncomputable def F116 (N : Nat) {R : Type} : CfS R := uC (F115 N) 123 P116 (E116 N)
theorem F116_ok (N : Nat) {R : Type} : FOK (F116 N : CfS R) (runF T) :=
  uC_ok (F115_ok N) (H := noH) (Lp := noL) (X := noX) (rp := []) (ver := c123) rfl (LOK0 (by kernel_rfl)) (fun x k => by kernel_rfl)
def design_fits (N : Nat) {R : Type} (a0 : Int) (a1 : Int) (k0 : Bool → Option R) : Option R := (bif decide (0 ≤ a1) then (bif decide (a1 < 0) then none else (design_within N a0 0 (w64 ((shl' .i64 1 a1) - 1)) k0)) else (k0 false))
def P117 : AP := ⟨[pI, pI], []⟩
def E117 (N : Nat) {R : Type} (x : P117.den) (k : KK R) : Option R := design_fits N x.1.1 x.1.2.1 (fun r0 => k [] [dB r0] [])
noncomputable def F117 (N : Nat) {R : Type} : CfS R := uC (F116 N) 96 P117 (E117 N)
theorem F117_ok (N : Nat) {R : Type} : FOK (F117 N : CfS R) (runF T) :=
  uC_ok (F116_ok N) (H := noH) (Lp := noL) (X := noX) (rp := []) (ver := c96) rfl (LOK0 (by kernel_rfl)) (fun x k => by kernel_rfl)
def H118 : Nat → Option (List Sh) := fun n => if n = 15000 then some [hI] else none
def design_CheckDesign_c4_c1 (N : Nat) {R : Type} (a0 : Int) (a1 : ByteArray) (a2 : Int) (a3 : Int) (a4 : Int) (a5 : Int) (a6 : Nat) (a7 : zt3) (k0 : Int → Nat → zt3 → Option R) : Option R := (design_names_err N a1 a6 a7 (fun y1 y2 y3 => (design_within N a2 0 1 (fun y4 => (design_unless N y4 15 (fun y5 => (design_isWidth N a3 (fun y6 => (design_unless N y6 2 (fun y7 => (design_first N [y1, y5, y7] (fun y8 => (bif decide (y8 ≠ 0) then (k0 y8 y2 y3) else (design_fits N a4 a3 (fun y9 => (bif y9 then (design_within N a5 0 3 (fun y10 => (design_unless N y10 2 (fun y11 => (k0 y11 y2 y3))))) else (design_unless N false 2 (fun y12 => (k0 y12 y2 y3)))))))))))))))))))
def P118 : AP := ⟨[pI, .agg [pS, pI, pI, pI, pI], .ptr 0 0], [(0, .box [.mp 1]), (1, .mp .s .b)]⟩
def E118 (N : Nat) {R : Type} (x : P118.den) (k : KK R) : Option R := design_CheckDesign_c4_c1 N x.1.1 x.1.2.1.1 x.1.2.1.2.1 x.1.2.1.2.2.1 x.1.2.1.2.2.2.1 x.1.2.1.2.2.2.2.1 x.2.2.1.1 x.2.2.1.2 (fun r0 r1 r2 => k [0, 1] [dI r0] [(0, .box [.mp 1]), (1, .mp .s .b r1 r2)])
noncomputable def F118 (N : Nat) {R : Type} : CfS R := uC (F117 N) 127 P118 (E118 N)
theorem F118_ok (N : Nat) {R : Type} : FOK (F118 N : CfS R) (runF T) :=
  uC_ok (F117_ok N) (H := H118) (Lp := noL) (X := noX) (rp := []) (ver := c127) rfl (LOK0 (by kernel_rfl)) (fun x k => by kernel_rfl)
def design_each_Element_CheckDesign_c4_c1_l0 (N : Nat) {R : Type} (k0 : Int → Int → Nat → zt3 → Option R) (k1 : Nat → zt3 → Option R) : Nat → zt1 → Int → Int → Nat → zt3 → Option R
  | 0, _, _, _, _, _ => none
  | n + 1, b0, b1, b2, b3, b4 => (bif decide (b2 < b1) then ((at? b0 b2).bind fun x1 => (design_CheckDesign_c4_c1 N b2 x1.1 x1.2.1 x1.2.2.1 x1.2.2.2.1 x1.2.2.2.2 b3 b4 (fun y2 y3 y4 => (bif decide (y2 ≠ 0) then (k0 b2 y2 y3 y4) else (design_each_Element_CheckDesign_c4_c1_l0 N k0 k1 n b0 b1 (w64 (b2 + 1)) y3 y4))))) else (k1 b3 b4))
def P119_l0 : SP := ⟨[(1, .fn 127 [.ptr 0 0]), (9, pL zs2), (10, pI), (11, pI), (100001, .fn 127 [.ptr 0 0]), (100002, .mp 1)], [(0, .box [.mp 1]), (1, .mp .s .b)]⟩
def E119_l0 (N : Nat) {R : Type} (n : Nat) (x : P119_l0.den) (k : KS R) : Option R := design_each_Element_CheckDesign_c4_c1_l0 N (fun r0 r1 r2 r3 => k .ret ⟨[(4, dI r0), (5, dI r1), (100001, .fn 127 [.ptr 0 0]), (100002, .mp 1)], [(0, .box [.mp 1]), (1, .mp .s .b r2 r3)]⟩) (fun r0 r1 => k (.ex 0) ⟨[(100001, .fn 127 [.ptr 0 0]), (100002, .mp 1)], [(0, .box [.mp 1]), (1, .mp .s .b r0 r1)]⟩) n x.1.2.1 x.1.2.2.1 x.1.2.2.2.1 x.2.2.1.1 x.2.2.1.2
theorem O119_l0 (N : Nat) {R : Type} : LpG T P119_l0 (E119_l0 N (R := R)) [1, 9, 10, 11] c126_l0 :=
  loop_ok (F118_ok N) (H := noH) (Lp := noL) (X := noX) (p := 26) (LOK0 (by kernel_rfl)) (fun _ _ => rfl) (fun n x k => by kernel_rfl)
noncomputable def L119_1 (N : Nat) {R : Type} : LpS R := updL noL 26 (lent' P119_l0 (E119_l0 N N))
def design_each_Element_CheckDesign_c4_c1 (N : Nat) {R : Type} (a0 : zt1) (a1 : Nat) (a2 : zt3) (k0 : Int → Int → Nat → zt3 → Option R) : Option R := (design_each_Element_CheckDesign_c4_c1_l0 N k0 (fun z9 z10 => (k0 0 0 z9 z10)) N a0 ((a0.length : Nat) : Int) 0 a1 a2)
def P119 : AP := ⟨[pL zs2, .fn 127 [.ptr 0 0]], [(0, .box [.mp 1]), (1, .mp .s .b)]⟩
def E119 (N : Nat) {R : Type} (x : P119.den) (k : KK R) : Option R := design_each_Element_CheckDesign_c4_c1 N x.1.1 x.2.2.1.1 x.2.2.1.2 (fun r0 r1 r2 r3 => k [0, 1] [dI r0, dI r1] [(0, .box [.mp 1]), (1, .mp .s .b r2 r3)])
noncomputable def F119 (N : Nat) {R : Type} : CfS R := uC (F118 N) 126 P119 (E119 N)
theorem F119_ok (N : Nat) {R : Type} : FOK (F119 N : CfS R) (runF T) :=
  uC_ok (F118_ok N) (H := noH) (Lp := (L119_1 N)) (X := noX) (rp := []) (ver := c126) rfl (LOK_of (l := [(26, [1, 9, 10, 11], c126_l0)]) (by kernel_rfl) ⟨(updL_ok (O119_l0 N N)), trivial⟩) (fun x k => by kernel_rfl)
def design_CheckDesign_c4 (N : Nat) {R : Type} (a0 : ByteArray) (a1 : zt5) (a2 : zt1) (a3 : zt2) (a4 : zt0) (a5 : zt5) (a6 : zt4) (a7 : Nat) (a8 : zt3) (k0 : Int → Int → ByteArray → zt5 → zt1 → zt2 → zt0 → zt5 → zt4 → Nat → zt3 → Option R) : Option R := (design_each_Element_CheckDesign_c4_c1 N a2 a7 a8 (fun y1 y2 y3 y4 => (k0 y1 y2 a0 a1 a2 a3 a4 a5 a6 y3 y4)))
def P120 : AP := ⟨[.ptr 0 0, .ptr 1 0], [(0, .box [pS, pL [.s, hI], pL zs2, pL zs1, pL zs0, pL [.s, hI], pL zs3]), (1, .box [.mp 2]), (2, .mp .s .b)]⟩
def E120 (N : Nat) {R : Type} (x : P120.den) (k : KK R) : Option R := design_CheckDesign_c4 N x.2.1.1 x.2.1.2.1 x.2.1.2.2.1 x.2.1.2.2.2.1 x.2.1.2.2.2.2.1 x.2.1.2.2.2.2.2.1 x.2.1.2.2.2.2.2.2.1 x.2.2.2.1.1 x.2.2.2.1.2 (fun r0 r1 r2 r3 r4 r5 r6 r7 r8 r9 r10 => k [0, 1, 2] [dI r0, dI r1] [(0, .box [dS r2, dL [.s, hI] r3, dL zs2 r4, dL zs1 r5, dL zs0 r6, dL [.s, hI] r7, dL zs3 r8]), (1, .box [.mp 2]), (2, .mp .s .b r9 r10)])
noncomputable def F120 (N : Nat) {R : Type} : CfS R := uC (F119 N) 125 P120 (E120 N)
theorem F120_ok (N : Nat) {R : Type} : FOK (F120 N : CfS R) (runF T) :=
  uC_ok (F119_ok N) (H := noH) (Lp := noL) (X := noX) (rp := []) (ver := c125) rfl (LOK0 (by kernel_rfl)) (fun x k => by kernel_rfl)
def design_CheckDesign_c3 (N : Nat) {R : Type} (a0 : ByteArray) (a1 : zt5) (a2 : zt1) (a3 : zt2) (a4 : zt0) (a5 : zt5) (a6 : zt4) (k0 : Int → Int → ByteArray → zt5 → zt1 → zt2 → zt0 → zt5 → zt4 → Option R) : Option R := (design_unless N (decide ((w64 (((a1.length : Nat) : Int) + ((a2.length : Nat) : Int))) ≤ 40)) 8 (fun y1 => (k0 0 y1 a0 a1 a2 a3 a4 a5 a6)))
def P121 : AP := ⟨[.ptr 0 0], [(0, .box [pS, pL [.s, hI], pL zs2, pL zs1, pL zs0, pL [.s, hI], pL zs3])]⟩
def E121 (N : Nat) {R : Type} (x : P121.den) (k : KK R) : Option R := design_CheckDesign_c3 N x.2.1.1 x.2.1.2.1 x.2.1.2.2.1 x.2.1.2.2.2.1 x.2.1.2.2.2.2.1 x.2.1.2.2.2.2.2.1 x.2.1.2.2.2.2.2.2.1 (fun r0 r1 r2 r3 r4 r5 r6 r7 r8 => k [0] [dI r0, dI r1] [(0, .box [dS r2, dL [.s, hI] r3, dL zs2 r4, dL zs1 r5, dL zs0 r6, dL [.s, hI] r7, dL zs3 r8])])
noncomputable def F121 (N : Nat) {R : Type} : CfS R := uC (F120 N) 124 P121 (E121 N)
theorem F121_ok (N : Nat) {R : Type} : FOK (F121 N : CfS R) (runF T) :=
  uC_ok (F120_ok N) (H := noH) (Lp := noL) (X := noX) (rp := []) (ver := c124) rfl (LOK0 (by kernel_rfl)) (fun x k => by kernel_rfl)
def H122 : Nat → Option (List Sh) := fun n => if n = 15000 then some [hI] else none
def design_CheckDesign_c2_c1 (N : Nat) {R : Type} (a0 : Int) (a1 : ByteArray) (a2 : Int) (a3 : Nat) (a4 : zt3) (a5 : Nat) (a6 : zt3) (k0 : Int → Nat → zt3 → Nat → zt3 → Option R) : Option R := (design_names_err N a1 a3 a4 (fun y1 y2 y3 => (design_names_err N a1 a5 a6 (fun y4 y5 y6 => (design_isWidth N a2 (fun y7 => (design_unless N y7 2 (fun y8 => (design_first N [y1, y4, y8] (fun y9 => (k0 y9 y2 y3 y5 y6)))))))))))
def P122 : AP := ⟨[pI, .agg [pS, pI], .ptr 0 0, .ptr 2 0], [(0, .box [.mp 1]), (1, .mp .s .b), (2, .box [.mp 3]), (3, .mp .s .b)]⟩
def E122 (N : Nat) {R : Type} (x : P122.den) (k : KK R) : Option R := design_CheckDesign_c2_c1 N x.1.1 x.1.2.1.1 x.1.2.1.2.1 x.2.2.1.1 x.2.2.1.2 x.2.2.2.2.1.1 x.2.2.2.2.1.2 (fun r0 r1 r2 r3 r4 => k [0, 2, 1, 3] [dI r0] [(0, .box [.mp 1]), (1, .mp .s .b r1 r2), (2, .box [.mp 3]), (3, .mp .s .b r3 r4)])
noncomputable def F122 (N : Nat) {R : Type} : CfS R := uC (F121 N) 121 P122 (E122 N)
theorem F122_ok (N : Nat) {R : Type} : FOK (F122 N : CfS R) (runF T) :=
  uC_ok (F121_ok N) (H := H122) (Lp := noL) (X := noX) (rp := []) (ver := c121) rfl (LOK0 (by kernel_rfl)) (fun x k => by kernel_rfl)
def design_each_Port_CheckDesign_c2_c1_l0 (N : Nat) {R : Type} (k0 : Int → Int → Nat → zt3 → Nat → zt3 → Option R) (k1 : Nat → zt3 → Nat → zt3 → Option R) : Nat → zt5 → Int → Int → Nat → zt3 → Nat → zt3 → Option R
  | 0, _, _, _, _, _, _, _ => none
  | n + 1, b0, b1, b2, b3, b4, b5, b6 => (bif decide (b2 < b1) then ((at? b0 b2).bind fun x1 => (design_CheckDesign_c2_c1 N b2 x1.1 x1.2 b3 b4 b5 b6 (fun y2 y3 y4 y5 y6 => (bif decide (y2 ≠ 0) then (k0 b2 y2 y3 y4 y5 y6) else (design_each_Port_CheckDesign_c2_c1_l0 N k0 k1 n b0 b1 (w64 (b2 + 1)) y3 y4 y5 y6))))) else (k1 b3 b4 b5 b6))
def P123_l0 : SP := ⟨[(1, .fn 121 [.ptr 0 0, .ptr 2 0]), (9, pL [.s, hI]), (10, pI), (11, pI), (100001, .fn 121 [.ptr 0 0, .ptr 2 0]), (100002, .mp 1), (100003, .mp 3)], [(0, .box [.mp 1]), (1, .mp .s .b), (2, .box [.mp 3]), (3, .mp .s .b)]⟩
def E123_l0 (N : Nat) {R : Type} (n : Nat) (x : P123_l0.den) (k : KS R) : Option R := design_each_Port_CheckDesign_c2_c1_l0 N (fun r0 r1 r2 r3 r4 r5 => k .ret ⟨[(4, dI r0), (5, dI r1), (100001, .fn 121 [.ptr 0 0, .ptr 2 0]), (100002, .mp 1), (100003, .mp 3)], [(0, .box [.mp 1]), (1, .mp .s .b r2 r3), (2, .box [.mp 3]), (3, .mp .s .b r4 r5)]⟩) (fun r0 r1 r2 r3 => k (.ex 0) ⟨[(100001, .fn 121 [.ptr 0 0, .ptr 2 0]), (100002, .mp 1), (100003, .mp 3)], [(0, .box [.mp 1]), (1, .mp .s .b r0 r1), (2, .box [.mp 3]), (3, .mp .s .b r2 r3)]⟩) n x.1.2.1 x.1.2.2.1 x.1.2.2.2.1 x.2.2.1.1 x.2.2.1.2 x.2.2.2.2.1.1 x.2.2.2.2.1.2
theorem O123_l0 (N : Nat) {R : Type} : LpG T P123_l0 (E123_l0 N (R := R)) [1, 9, 10, 11] c120_l0 :=
  loop_ok (F122_ok N) (H := noH) (Lp := noL) (X := noX) (p := 26) (LOK0 (by kernel_rfl)) (fun _ _ => rfl) (fun n x k => by kernel_rfl)
noncomputable def L123_1 (N : Nat) {R : Type} : LpS R := updL noL 26 (lent' P123_l0 (E123_l0 N N))
def design_each_Port_CheckDesign_c2_c1 (N : Nat) {R : Type} (a0 : zt5) (a1 : Nat) (a2 : zt3) (a3 : Nat) (a4 : zt3) (k0 : Int → Int → Nat → zt3 → Nat → zt3 → Option R) : Option R := (design_each_Port_CheckDesign_c2_c1_l0 N k0 (fun z13 z14 z15 z16 => (k0 0 0 z13 z14 z15 z16)) N a0 ((a0.length : Nat) : Int) 0 a1 a2 a3 a4)
def P123 : AP := ⟨[pL [.s, hI], .fn 121 [.ptr 0 0, .ptr 2 0]], [(0, .box [.mp 1]), (1, .mp .s .b), (2, .box [.mp 3]), (3, .mp .s .b)]⟩
def E123 (N : Nat) {R : Type} (x : P123.den) (k : KK R) : Option R := design_each_Port_CheckDesign_c2_c1 N x.1.1 x.2.2.1.1 x.2.2.1.2 x.2.2.2.2.1.1 x.2.2.2.2.1.2 (fun r0 r1 r2 r3 r4 r5 => k [0, 2, 1, 3] [dI r0, dI r1] [(0, .box [.mp 1]), (1, .mp .s .b r2 r3), (2, .box [.mp 3]), (3, .mp .s .b r4 r5)])
noncomputable def F123 (N : Nat) {R : Type} : CfS R := uC (F122 N) 120 P123 (E123 N)
theorem F123_ok (N : Nat) {R : Type} : FOK (F123 N : CfS R) (runF T) :=
  uC_ok (F122_ok N) (H := noH) (Lp := (L123_1 N)) (X := noX) (rp := []) (ver := c120) rfl (LOK_of (l := [(26, [1, 9, 10, 11], c120_l0)]) (by kernel_rfl) ⟨(updL_ok (O123_l0 N N)), trivial⟩) (fun x k => by kernel_rfl)
def design_CheckDesign_c2 (N : Nat) {R : Type} (a0 : ByteArray) (a1 : zt5) (a2 : zt1) (a3 : zt2) (a4 : zt0) (a5 : zt5) (a6 : zt4) (a7 : Nat) (a8 : zt3) (a9 : Nat) (a10 : zt3) (k0 : Int → Int → ByteArray → zt5 → zt1 → zt2 → zt0 → zt5 → zt4 → Nat → zt3 → Nat → zt3 → Option R) : Option R := (design_each_Port_CheckDesign_c2_c1 N a1 a7 a8 a9 a10 (fun y1 y2 y3 y4 y5 y6 => (k0 y1 y2 a0 a1 a2 a3 a4 a5 a6 y3 y4 y5 y6)))
def P124 : AP := ⟨[.ptr 0 0, .ptr 1 0, .ptr 3 0], [(0, .box [pS, pL [.s, hI], pL zs2, pL zs1, pL zs0, pL [.s, hI], pL zs3]), (1, .box [.mp 2]), (2, .mp .s .b), (3, .box [.mp 4]), (4, .mp .s .b)]⟩
def E124 (N : Nat) {R : Type} (x : P124.den) (k : KK R) : Option R := design_CheckDesign_c2 N x.2.1.1 x.2.1.2.1 x.2.1.2.2.1 x.2.1.2.2.2.1 x.2.1.2.2.2.2.1 x.2.1.2.2.2.2.2.1 x.2.1.2.2.2.2.2.2.1 x.2.2.2.1.1 x.2.2.2.1.2 x.2.2.2.2.2.1.1 x.2.2.2.2.2.1.2 (fun r0 r1 r2 r3 r4 r5 r6 r7 r8 r9 r10 r11 r12 => k [0, 1, 3, 2, 4] [dI r0, dI r1] [(0, .box [dS r2, dL [.s, hI] r3, dL zs2 r4, dL zs1 r5, dL zs0 r6, dL [.s, hI] r7, dL zs3 r8]), (1, .box [.mp 2]), (2, .mp .s .b r9 r10), (3, .box [.mp 4]), (4, .mp .s .b r11 r12)])
noncomputable def F124 (N : Nat) {R : Type} : CfS R := uC (F123 N) 119 P124 (E124 N)
theorem F124_ok (N : Nat) {R : Type} : FOK (F124 N : CfS R) (runF T) :=
  uC_ok (F123_ok N) (H := noH) (Lp := noL) (X := noX) (rp := []) (ver := c119) rfl (LOK0 (by kernel_rfl)) (fun x k => by kernel_rfl)
def H125 : Nat → Option (List Sh) := fun n => if n = 12000 then some [hI] else none
def design_CheckDesign_c1 (N : Nat) {R : Type} (a0 : ByteArray) (a1 : zt5) (a2 : zt1) (a3 : zt2) (a4 : zt0) (a5 : zt5) (a6 : zt4) (k0 : Int → Int → ByteArray → zt5 → zt1 → zt2 → zt0 → zt5 → zt4 → Option R) : Option R := (design_isName N a0 (fun y1 => (design_unless N y1 4 (fun y2 => (design_unless N (decide (((a1.length : Nat) : Int) ≤ 12)) 8 (fun y3 => (design_first N [y2, y3] (fun y4 => (k0 0 y4 a0 a1 a2 a3 a4 a5 a6)))))))))
def P125 : AP := ⟨[.ptr 0 0], [(0, .box [pS, pL [.s, hI], pL zs2, pL zs1, pL zs0, pL [.s, hI], pL zs3])]⟩
def E125 (N : Nat) {R : Type} (x : P125.den) (k : KK R) : Option R := design_CheckDesign_c1 N x.2.1.1 x.2.1.2.1 x.2.1.2.2.1 x.2.1.2.2.2.1 x.2.1.2.2.2.2.1 x.2.1.2.2.2.2.2.1 x.2.1.2.2.2.2.2.2.1 (fun r0 r1 r2 r3 r4 r5 r6 r7 r8 => k [0] [dI r0, dI r1] [(0, .box [dS r2, dL [.s, hI] r3, dL zs2 r4, dL zs1 r5, dL zs0 r6, dL [.s, hI] r7, dL zs3 r8])])
noncomputable def F125 (N : Nat) {R : Type} : CfS R := uC (F124 N) 117 P125 (E125 N)
theorem F125_ok (N : Nat) {R : Type} : FOK (F125 N : CfS R) (runF T) :=
  uC_ok (F124_ok N) (H := H125) (Lp := noL) (X := noX) (rp := []) (ver := c117) rfl (LOK0 (by kernel_rfl)) (fun x k => by kernel_rfl)
def H126 : Nat → Option (List Sh) := fun n => if n = 4000 then some [.s, .b] else if n = 7000 then some [.s, .b] else if n = 8000 then some [.s, .b] else if n = 9000 then some [.s, .b] else none
def design_CheckDesign_l0 (N : Nat) {R : Type} (k0 : Int → Int → Option R) (k1 : Option R) : Nat → Int → ByteArray → zt5 → zt1 → zt2 → zt0 → zt5 → zt4 → Nat → zt3 → Nat → zt3 → Nat → zt3 → Nat → zt3 → Option R
  | 0, _, _, _, _, _, _, _, _, _, _, _, _, _, _, _, _ => none
  | n + 1, b0, b1, b2, b3, b4, b5, b6, b7, b8, b9, b10, b11, b12, b13, b14, b15 => (bif decide (b0 < 11) then (bif decide (b0 = 10) then (design_CheckDesign_c11 N b1 b2 b3 b4 b5 b6 b7 (fun y1 y2 y3 y4 y5 y6 y7 y8 y9 => (bif decide (y2 ≠ 0) then (k0 y1 y2) else (design_CheckDesign_l0 N k0 k1 n (w64 (b0 + 1)) y3 y4 y5 y6 y7 y8 y9 b8 b9 b10 b11 b12 b13 b14 b15)))) else (bif decide (b0 = 9) then (design_CheckDesign_c10 N b1 b2 b3 b4 b5 b6 b7 (fun y10 y11 y12 y13 y14 y15 y16 y17 y18 => (bif decide (y11 ≠ 0) then (k0 y10 y11) else (design_CheckDesign_l0 N k0 k1 n (w64 (b0 + 1)) y12 y13 y14 y15 y16 y17 y18 b8 b9 b10 b11 b12 b13 b14 b15)))) else (bif decide (b0 = 8) then (design_CheckDesign_c9 N b1 b2 b3 b4 b5 b6 b7 b14 b15 (fun y19 y20 y21 y22 y23 y24 y25 y26 y27 y28 y29 => (bif decide (y20 ≠ 0) then (k0 y19 y20) else (design_CheckDesign_l0 N k0 k1 n (w64 (b0 + 1)) y21 y22 y23 y24 y25 y26 y27 b8 b9 b10 b11 b12 b13 y28 y29)))) else (bif decide (b0 = 7) then (design_CheckDesign_c8 N b1 b2 b3 b4 b5 b6 b7 (fun y30 y31 y32 y33 y34 y35 y36 y37 y38 => (bif decide (y31 ≠ 0) then (k0 y30 y31) else (design_CheckDesign_l0 N k0 k1 n (w64 (b0 + 1)) y32 y33 y34 y35 y36 y37 y38 b8 b9 b10 b11 b12 b13 b14 b15)))) else (bif decide (b0 = 6) then (design_CheckDesign_c7 N b1 b2 b3 b4 b5 b6 b7 b12 b13 (fun y39 y40 y41 y42 y43 y44 y45 y46 y47 y48 y49 => (bif decide (y40 ≠ 0) then (k0 y39 y40) else (design_CheckDesign_l0 N k0 k1 n (w64 (b0 + 1)) y41 y42 y43 y44 y45 y46 y47 b8 b9 b10 b11 y48 y49 b14 b15)))) else (bif decide (b0 = 5) then (design_CheckDesign_c6 N b1 b2 b3 b4 b5 b6 b7 (fun y50 y51 y52 y53 y54 y55 y56 y57 y58 => (bif decide (y51 ≠ 0) then (k0 y50 y51) else (design_CheckDesign_l0 N k0 k1 n (w64 (b0 + 1)) y52 y53 y54 y55 y56 y57 y58 b8 b9 b10 b11 b12 b13 b14 b15)))) else (bif decide (b0 = 4) then (design_CheckDesign_c5 N b1 b2 b3 b4 b5 b6 b7 (fun y59 y60 y61 y62 y63 y64 y65 y66 y67 => (bif decide (y60 ≠ 0) then (k0 y59 y60) else (design_CheckDesign_l0 N k0 k1 n (w64 (b0 + 1)) y61 y62 y63 y64 y65 y66 y67 b8 b9 b10 b11 b12 b13 b14 b15)))) else (bif decide (b0 = 3) then (design_CheckDesign_c4 N b1 b2 b3 b4 b5 b6 b7 b8 b9 (fun y68 y69 y70 y71 y72 y73 y74 y75 y76 y77 y78 => (bif decide (y69 ≠ 0) then (k0 y68 y69) else (design_CheckDesign_l0 N k0 k1 n (w64 (b0 + 1)) y70 y71 y72 y73 y74 y75 y76 y77 y78 b10 b11 b12 b13 b14 b15)))) else (bif decide (b0 = 2) then (design_CheckDesign_c3 N b1 b2 b3 b4 b5 b6 b7 (fun y79 y80 y81 y82 y83 y84 y85 y86 y87 => (bif decide (y80 ≠ 0) then (k0 y79 y80) else (design_CheckDesign_l0 N k0 k1 n (w64 (b0 + 1)) y81 y82 y83 y84 y85 y86 y87 b8 b9 b10 b11 b12 b13 b14 b15)))) else (bif decide (b0 = 1) then (design_CheckDesign_c2 N b1 b2 b3 b4 b5 b6 b7 b8 b9 b10 b11 (fun y88 y89 y90 y91 y92 y93 y94 y95 y96 y97 y98 y99 y100 => (bif decide (y89 ≠ 0) then (k0 y88 y89) else (design_CheckDesign_l0 N k0 k1 n (w64 (b0 + 1)) y90 y91 y92 y93 y94 y95 y96 y97 y98 y99 y100 b12 b13 b14 b15)))) else (bif decide (b0 = 0) then (design_CheckDesign_c1 N b1 b2 b3 b4 b5 b6 b7 (fun y101 y102 y103 y104 y105 y106 y107 y108 y109 => (bif decide (y102 ≠ 0) then (k0 y101 y102) else (design_CheckDesign_l0 N k0 k1 n (w64 (b0 + 1)) y103 y104 y105 y106 y107 y108 y109 b8 b9 b10 b11 b12 b13 b14 b15)))) else none))))))))))) else k1)
def P126_l0 : SP := ⟨[(29, .agg [.fn 117 [.ptr 0 0], .fn 119 [.ptr 0 0, .ptr 1 0, .ptr 3 0], .fn 124 [.ptr 0 0], .fn 125 [.ptr 0 0, .ptr 1 0], .fn 128 [.ptr 0 0], .fn 130 [.ptr 0 0], .fn 131 [.ptr 0 0, .ptr 5 0], .fn 138 [.ptr 0 0], .fn 139 [.ptr 0 0, .ptr 7 0], .fn 143 [.ptr 0 0], .fn 144 [.ptr 0 0]]), (30, pI)], [(0, .box [pS, pL [.s, hI], pL zs2, pL zs1, pL zs0, pL [.s, hI], pL zs3]), (1, .box [.mp 2]), (2, .mp .s .b), (3, .box [.mp 4]), (4, .mp .s .b), (5, .box [.mp 6]), (6, .mp .s .b), (7, .box [.mp 8]), (8, .mp .s .b)]⟩
def E126_l0 (N : Nat) {R : Type} (n : Nat) (x : P126_l0.den) (k : KS R) : Option R := design_CheckDesign_l0 N (fun r0 r1 => k .ret ⟨[(2, dI r0), (3, dI r1)], []⟩) (k (.ex 0) ⟨[], []⟩) n x.1.2.1 x.2.1.1 x.2.1.2.1 x.2.1.2.2.1 x.2.1.2.2.2.1 x.2.1.2.2.2.2.1 x.2.1.2.2.2.2.2.1 x.2.1.2.2.2.2.2.2.1 x.2.2.2.1.1 x.2.2.2.1.2 x.2.2.2.2.2.1.1 x.2.2.2.2.2.1.2 x.2.2.2.2.2.2.2.1.1 x.2.2.2.2.2.2.2.1.2 x.2.2.2.2.2.2.2.2.2.1.1 x.2.2.2.2.2.2.2.2.2.1.2
theorem O126_l0 (N : Nat) {R : Type} : LpG T P126_l0 (E126_l0 N (R := R)) [29, 30] c88_l0 :=
  loop_ok (F125_ok N) (H := H126) (Lp := noL) (X := noX) (p := 250) (LOK0 (by kernel_rfl)) (fun _ _ => rfl) (fun n x k => by kernel_rfl)
noncomputable def L126_1 (N : Nat) {R : Type} : LpS R := updL noL 250 (lent' P126_l0 (E126_l0 N N))
def design_CheckDesign (N : Nat) {R : Type} (a0 : ByteArray) (a1 : zt5) (a2 : zt1) (a3 : zt2) (a4 : zt0) (a5 : zt5) (a6 : zt4) (k0 : Int → Int → Option R) : Option R := (design_CheckDesign_l0 N k0 (k0 0 0) N 0 a0 a1 a2 a3 a4 a5 a6 0 [] 0 [] 0 [] 0 [])
def P126 : AP := ⟨[.agg [pS, pL [.s, hI], pL zs2, pL zs1, pL zs0, pL [.s, hI], pL zs3]], []⟩
def E126 (N : Nat) {R : Type} (x : P126.den) (k : KK R) : Option R := design_CheckDesign N x.1.1.1 x.1.1.2.1 x.1.1.2.2.1 x.1.1.2.2.2.1 x.1.1.2.2.2.2.1 x.1.1.2.2.2.2.2.1 x.1.1.2.2.2.2.2.2.1 (fun r0 r1 => k [] [dI r0, dI r1] [])
noncomputable def F126 (N : Nat) {R : Type} : CfS R := uC (F125 N) 88 P126 (E126 N)
theorem F126_ok (N : Nat) {R : Type} : FOK (F126 N : CfS R) (runF T) :=
  uC_ok (F125_ok N) (H := H126) (Lp := (L126_1 N)) (X := noX) (rp := []) (ver := c88) rfl (LOK_of (l := [(250, [29, 30], c88_l0)]) (by kernel_rfl) ⟨(updL_ok (O126_l0 N N)), trivial⟩) (fun x k => by kernel_rfl)
def design_open (N : Nat) {R : Type} (a0 : ByteArray) (a1 : zt5) (a2 : zt1) (a3 : zt2) (a4 : zt0) (a5 : zt5) (a6 : zt4) (k0 : ByteArray → zt5 → zt1 → zt2 → zt0 → zt5 → zt4 → Int → Option R) : Option R := (design_CheckDesign N a0 a1 a2 a3 a4 a5 a6 (fun y1 y2 => (k0 a0 a1 a2 a3 a4 a5 a6 y2)))
def P127 : AP := ⟨[.agg [pS, pL [.s, hI], pL zs2, pL zs1, pL zs0, pL [.s, hI], pL zs3]], []⟩
def E127 (N : Nat) {R : Type} (x : P127.den) (k : KK R) : Option R := design_open N x.1.1.1 x.1.1.2.1 x.1.1.2.2.1 x.1.1.2.2.2.1 x.1.1.2.2.2.2.1 x.1.1.2.2.2.2.2.1 x.1.1.2.2.2.2.2.2.1 (fun r0 r1 r2 r3 r4 r5 r6 r7 => k [] [.agg [dS r0, dL [.s, hI] r1, dL zs2 r2, dL zs1 r3, dL zs0 r4, dL [.s, hI] r5, dL zs3 r6], dI r7] [])
noncomputable def F127 (N : Nat) {R : Type} : CfS R := uC (F126 N) 49 P127 (E127 N)
theorem F127_ok (N : Nat) {R : Type} : FOK (F127 N : CfS R) (runF T) :=
  uC_ok (F126_ok N) (H := noH) (Lp := noL) (X := noX) (rp := []) (ver := c49) rfl (LOK0 (by kernel_rfl)) (fun x k => by kernel_rfl)
def H128 : Nat → Option (List Sh) := fun n => if n = 17000 then some [hI] else none
def design_network_reset_l0 (N : Nat) {R : Type} (k0 : List Int → Option R) : Nat → zt1 → Int → Int → List Int → Option R
  | 0, _, _, _, _ => none
  | n + 1, b0, b1, b2, b3 => (bif decide (b2 < b1) then ((at? b0 b2).bind fun x1 => (bif roomB (b3.length + 1) 8 then (design_network_reset_l0 N k0 n b0 b1 (w64 (b2 + 1)) (b3 ++ [x1.2.2.2.1])) else none)) else (k0 b3))
def P128_l0 : SP := ⟨[(3, .own 0), (8, pL zs2), (9, pI), (10, pI)], [(0, .arr [hI])]⟩
def E128_l0 (N : Nat) {R : Type} (n : Nat) (x : P128_l0.den) (k : KS R) : Option R := design_network_reset_l0 N (fun r0 => k (.ex 0) ⟨[(3, .own 0)], [(0, .arr (.t [hI] r0))]⟩) n x.1.2.1 x.1.2.2.1 x.1.2.2.2.1 x.2.1
theorem O128_l0 (N : Nat) {R : Type} : LpG T P128_l0 (E128_l0 N (R := R)) [3, 8, 9, 10] c50_l0 :=
  loop_ok (F127_ok N) (H := H128) (Lp := noL) (X := noX) (p := 58) (LOK0 (by kernel_rfl)) (fun _ _ => rfl) (fun n x k => by kernel_rfl)
noncomputable def L128_1 (N : Nat) {R : Type} : LpS R := updL noL 58 (lent' P128_l0 (E128_l0 N N))
def design_network_reset (N : Nat) {R : Type} (a0 : ByteArray) (a1 : zt5) (a2 : zt1) (a3 : zt2) (a4 : zt0) (a5 : zt5) (a6 : zt4) (k0 : List Int → Option R) : Option R := (design_network_reset_l0 N k0 N a2 ((a2.length : Nat) : Int) 0 [])
def P128 : AP := ⟨[.agg [pS, pL [.s, hI], pL zs2, pL zs1, pL zs0, pL [.s, hI], pL zs3]], []⟩
def E128 (N : Nat) {R : Type} (x : P128.den) (k : KK R) : Option R := design_network_reset N x.1.1.1 x.1.1.2.1 x.1.1.2.2.1 x.1.1.2.2.2.1 x.1.1.2.2.2.2.1 x.1.1.2.2.2.2.2.1 x.1.1.2.2.2.2.2.2.1 (fun r0 => k [] [dL [hI] r0] [])
noncomputable def F128 (N : Nat) {R : Type} : CfS R := uC (F127 N) 50 P128 (E128 N)
theorem F128_ok (N : Nat) {R : Type} : FOK (F128 N : CfS R) (runF T) :=
  uC_ok (F127_ok N) (H := H128) (Lp := (L128_1 N)) (X := noX) (rp := []) (ver := c50) rfl (LOK_of (l := [(58, [3, 8, 9, 10], c50_l0)]) (by kernel_rfl) ⟨(updL_ok (O128_l0 N N)), trivial⟩) (fun x k => by kernel_rfl)
def design_ResetOf (N : Nat) {R : Type} (a0 : ByteArray) (a1 : zt5) (a2 : zt1) (a3 : zt2) (a4 : zt0) (a5 : zt5) (a6 : zt4) (k0 : List Int → Int → Option R) : Option R := (design_open N a0 a1 a2 a3 a4 a5 a6 (fun y1 y2 y3 y4 y5 y6 y7 y8 => (bif decide (y8 ≠ 0) then (k0 [] y8) else (design_network_reset N y1 y2 y3 y4 y5 y6 y7 (fun y9 => (k0 y9 0))))))
def P129 : AP := ⟨[.agg [pS, pL [.s, hI], pL zs2, pL zs1, pL zs0, pL [.s, hI], pL zs3]], []⟩
def E129 (N : Nat) {R : Type} (x : P129.den) (k : KK R) : Option R := design_ResetOf N x.1.1.1 x.1.1.2.1 x.1.1.2.2.1 x.1.1.2.2.2.1 x.1.1.2.2.2.2.1 x.1.1.2.2.2.2.2.1 x.1.1.2.2.2.2.2.2.1 (fun r0 r1 => k [] [dL [hI] r0, dI r1] [])
noncomputable def F129 (N : Nat) {R : Type} : CfS R := uC (F128 N) 13 P129 (E129 N)
theorem F129_ok (N : Nat) {R : Type} : FOK (F129 N : CfS R) (runF T) :=
  uC_ok (F128_ok N) (H := noH) (Lp := noL) (X := noX) (rp := [⟨[pL [hI], pI], []⟩]) (ver := c13) rfl (LOK0 (by kernel_rfl)) (fun x k => by kernel_rfl)
def design_network_inputsErr_c1 (N : Nat) {R : Type} (a0 : Int) (a1 : Int) (a2 : ByteArray) (a3 : zt5) (a4 : zt1) (a5 : zt2) (a6 : zt0) (a7 : zt5) (a8 : zt4) (k0 : Int → ByteArray → zt5 → zt1 → zt2 → zt0 → zt5 → zt4 → Option R) : Option R := ((at? a3 a0).bind fun x1 => (design_fits N a1 x1.2 (fun y2 => (design_unless N y2 2 (fun y3 => (k0 y3 a2 a3 a4 a5 a6 a7 a8))))))
def P130 : AP := ⟨[pI, pI, .ptr 0 0], [(0, .box [pS, pL [.s, hI], pL zs2, pL zs1, pL zs0, pL [.s, hI], pL zs3])]⟩
def E130 (N : Nat) {R : Type} (x : P130.den) (k : KK R) : Option R := design_network_inputsErr_c1 N x.1.1 x.1.2.1 x.2.1.1 x.2.1.2.1 x.2.1.2.2.1 x.2.1.2.2.2.1 x.2.1.2.2.2.2.1 x.2.1.2.2.2.2.2.1 x.2.1.2.2.2.2.2.2.1 (fun r0 r1 r2 r3 r4 r5 r6 r7 => k [0] [dI r0] [(0, .box [dS r1, dL [.s, hI] r2, dL zs2 r3, dL zs1 r4, dL zs0 r5, dL [.s, hI] r6, dL zs3 r7])])
noncomputable def F130 (N : Nat) {R : Type} : CfS R := uC (F129 N) 95 P130 (E130 N)
theorem F130_ok (N : Nat) {R : Type} : FOK (F130 N : CfS R) (runF T) :=
  uC_ok (F129_ok N) (H := noH) (Lp := noL) (X := noX) (rp := []) (ver := c95) rfl (LOK0 (by kernel_rfl)) (fun x k => by kernel_rfl)
def design_each_int_network_inputsErr_c1_l0 (N : Nat) {R : Type} (k0 : Int → Int → ByteArray → zt5 → zt1 → zt2 → zt0 → zt5 → zt4 → Option R) (k1 : ByteArray → zt5 → zt1 → zt2 → zt0 → zt5 → zt4 → Option R) : Nat → List Int → Int → Int → ByteArray → zt5 → zt1 → zt2 → zt0 → zt5 → zt4 → Option R
  | 0, _, _, _, _, _, _, _, _, _, _ => none
  | n + 1, b0, b1, b2, b3, b4, b5, b6, b7, b8, b9 => (bif decide (b2 < b1) then ((at? b0 b2).bind fun x1 => (design_network_inputsErr_c1 N b2 x1 b3 b4 b5 b6 b7 b8 b9 (fun y2 y3 y4 y5 y6 y7 y8 y9 => (bif decide (y2 ≠ 0) then (k0 b2 y2 y3 y4 y5 y6 y7 y8 y9) else (design_each_int_network_inputsErr_c1_l0 N k0 k1 n b0 b1 (w64 (b2 + 1)) y3 y4 y5 y6 y7 y8 y9))))) else (k1 b3 b4 b5 b6 b7 b8 b9))
def P131_l0 : SP := ⟨[(1, .fn 95 [.ptr 0 0]), (9, pL [hI]), (10, pI), (11, pI), (100001, .fn 95 [.ptr 0 0])], [(0, .box [pS, pL [.s, hI], pL zs2, pL zs1, pL zs0, pL [.s, hI], pL zs3])]⟩
def E131_l0 (N : Nat) {R : Type} (n : Nat) (x : P131_l0.den) (k : KS R) : Option R := design_each_int_network_inputsErr_c1_l0 N (fun r0 r1 r2 r3 r4 r5 r6 r7 r8 => k .ret ⟨[(4, dI r0), (5, dI r1), (100001, .fn 95 [.ptr 0 0])], [(0, .box [dS r2, dL [.s, hI] r3, dL zs2 r4, dL zs1 r5, dL zs0 r6, dL [.s, hI] r7, dL zs3 r8])]⟩) (fun r0 r1 r2 r3 r4 r5 r6 => k (.ex 0) ⟨[(100001, .fn 95 [.ptr 0 0])], [(0, .box [dS r0, dL [.s, hI] r1, dL zs2 r2, dL zs1 r3, dL zs0 r4, dL [.s, hI] r5, dL zs3 r6])]⟩) n x.1.2.1 x.1.2.2.1 x.1.2.2.2.1 x.2.1.1 x.2.1.2.1 x.2.1.2.2.1 x.2.1.2.2.2.1 x.2.1.2.2.2.2.1 x.2.1.2.2.2.2.2.1 x.2.1.2.2.2.2.2.2.1
theorem O131_l0 (N : Nat) {R : Type} : LpG T P131_l0 (E131_l0 N (R := R)) [1, 9, 10, 11] c94_l0 :=
  loop_ok (F130_ok N) (H := noH) (Lp := noL) (X := noX) (p := 26) (LOK0 (by kernel_rfl)) (fun _ _ => rfl) (fun n x k => by kernel_rfl)
noncomputable def L131_1 (N : Nat) {R : Type} : LpS R := updL noL 26 (lent' P131_l0 (E131_l0 N N))
def design_each_int_network_inputsErr_c1 (N : Nat) {R : Type} (a0 : List Int) (a1 : ByteArray) (a2 : zt5) (a3 : zt1) (a4 : zt2) (a5 : zt0) (a6 : zt5) (a7 : zt4) (k0 : Int → Int → ByteArray → zt5 → zt1 → zt2 → zt0 → zt5 → zt4 → Option R) : Option R := (design_each_int_network_inputsErr_c1_l0 N k0 (fun z19 z20 z21 z22 z23 z24 z25 => (k0 0 0 z19 z20 z21 z22 z23 z24 z25)) N a0 ((a0.length : Nat) : Int) 0 a1 a2 a3 a4 a5 a6 a7)
def P131 : AP := ⟨[pL [hI], .fn 95 [.ptr 0 0]], [(0, .box [pS, pL [.s, hI], pL zs2, pL zs1, pL zs0, pL [.s, hI], pL zs3])]⟩
def E131 (N : Nat) {R : Type} (x : P131.den) (k : KK R) : Option R := design_each_int_network_inputsErr_c1 N x.1.1 x.2.1.1 x.2.1.2.1 x.2.1.2.2.1 x.2.1.2.2.2.1 x.2.1.2.2.2.2.1 x.2.1.2.2.2.2.2.1 x.2.1.2.2.2.2.2.2.1 (fun r0 r1 r2 r3 r4 r5 r6 r7 r8 => k [0] [dI r0, dI r1] [(0, .box [dS r2, dL [.s, hI] r3, dL zs2 r4, dL zs1 r5, dL zs0 r6, dL [.s, hI] r7, dL zs3 r8])])
noncomputable def F131 (N : Nat) {R : Type} : CfS R := uC (F130 N) 94 P131 (E131 N)
theorem F131_ok (N : Nat) {R : Type} : FOK (F131 N : CfS R) (runF T) :=
  uC_ok (F130_ok N) (H := noH) (Lp := (L131_1 N)) (X := noX) (rp := []) (ver := c94) rfl (LOK_of (l := [(26, [1, 9, 10, 11], c94_l0)]) (by kernel_rfl) ⟨(updL_ok (O131_l0 N N)), trivial⟩) (fun x k => by kernel_rfl)
def design_network_inputsErr (N : Nat) {R : Type} (a0 : ByteArray) (a1 : zt5) (a2 : zt1) (a3 : zt2) (a4 : zt0) (a5 : zt5) (a6 : zt4) (a7 : List Int) (k0 : Int → Option R) : Option R := (bif decide (((a7.length : Nat) : Int) ≠ ((a1.length : Nat) : Int)) then (k0 10) else (design_each_int_network_inputsErr_c1 N a7 a0 a1 a2 a3 a4 a5 a6 (fun y1 y2 y3 y4 y5 y6 y7 y8 y9 => (k0 y2))))
def P132 : AP := ⟨[.agg [pS, pL [.s, hI], pL zs2, pL zs1, pL zs0, pL [.s, hI], pL zs3], pL [hI]], []⟩
def E132 (N : Nat) {R : Type} (x : P132.den) (k : KK R) : Option R := design_network_inputsErr N x.1.1.1 x.1.1.2.1 x.1.1.2.2.1 x.1.1.2.2.2.1 x.1.1.2.2.2.2.1 x.1.1.2.2.2.2.2.1 x.1.1.2.2.2.2.2.2.1 x.1.2.1 (fun r0 => k [] [dI r0] [])
noncomputable def F132 (N : Nat) {R : Type} : CfS R := uC (F131 N) 55 P132 (E132 N)
theorem F132_ok (N : Nat) {R : Type} : FOK (F132 N : CfS R) (runF T) :=
  uC_ok (F131_ok N) (H := noH) (Lp := noL) (X := noX) (rp := []) (ver := c55) rfl (LOK0 (by kernel_rfl)) (fun x k => by kernel_rfl)
def design_network_stateErr_c1 (N : Nat) {R : Type} (a0 : Int) (a1 : Int) (a2 : ByteArray) (a3 : zt5) (a4 : zt1) (a5 : zt2) (a6 : zt0) (a7 : zt5) (a8 : zt4) (k0 : Int → ByteArray → zt5 → zt1 → zt2 → zt0 → zt5 → zt4 → Option R) : Option R := ((at? a4 a0).bind fun x1 => (design_fits N a1 x1.2.2.1 (fun y2 => (design_unless N y2 2 (fun y3 => (k0 y3 a2 a3 a4 a5 a6 a7 a8))))))
def P133 : AP := ⟨[pI, pI, .ptr 0 0], [(0, .box [pS, pL [.s, hI], pL zs2, pL zs1, pL zs0, pL [.s, hI], pL zs3])]⟩
def E133 (N : Nat) {R : Type} (x : P133.den) (k : KK R) : Option R := design_network_stateErr_c1 N x.1.1 x.1.2.1 x.2.1.1 x.2.1.2.1 x.2.1.2.2.1 x.2.1.2.2.2.1 x.2.1.2.2.2.2.1 x.2.1.2.2.2.2.2.1 x.2.1.2.2.2.2.2.2.1 (fun r0 r1 r2 r3 r4 r5 r6 r7 => k [0] [dI r0] [(0, .box [dS r1, dL [.s, hI] r2, dL zs2 r3, dL zs1 r4, dL zs0 r5, dL [.s, hI] r6, dL zs3 r7])])
noncomputable def F133 (N : Nat) {R : Type} : CfS R := uC (F132 N) 97 P133 (E133 N)
theorem F133_ok (N : Nat) {R : Type} : FOK (F133 N : CfS R) (runF T) :=
  uC_ok (F132_ok N) (H := noH) (Lp := noL) (X := noX) (rp := []) (ver := c97) rfl (LOK0 (by kernel_rfl)) (fun x k => by kernel_rfl)
def design_each_int_network_stateErr_c1_l0 (N : Nat) {R : Type} (k0 : Int → Int → ByteArray → zt5 → zt1 → zt2 → zt0 → zt5 → zt4 → Option R) (k1 : ByteArray → zt5 → zt1 → zt2 → zt0 → zt5 → zt4 → Option R) : Nat → List Int → Int → Int → ByteArray → zt5 → zt1 → zt2 → zt0 → zt5 → zt4 → Option R
  | 0, _, _, _, _, _, _, _, _, _, _ => none
  | n + 1, b0, b1, b2, b3, b4, b5, b6, b7, b8, b9 => (bif decide (b2 < b1) then ((at? b0 b2).bind fun x1 => (design_network_stateErr_c1 N b2 x1 b3 b4 b5 b6 b7 b8 b9 (fun y2 y3 y4 y5 y6 y7 y8 y9 => (bif decide (y2 ≠ 0) then (k0 b2 y2 y3 y4 y5 y6 y7 y8 y9) else (design_each_int_network_stateErr_c1_l0 N k0 k1 n b0 b1 (w64 (b2 + 1)) y3 y4 y5 y6 y7 y8 y9))))) else (k1 b3 b4 b5 b6 b7 b8 b9))
def P134_l0 : SP := ⟨[(1, .fn 97 [.ptr 0 0]), (9, pL [hI]), (10, pI), (11, pI), (100001, .fn 97 [.ptr 0 0])], [(0, .box [pS, pL [.s, hI], pL zs2, pL zs1, pL zs0, pL [.s, hI], pL zs3])]⟩
def E134_l0 (N : Nat) {R : Type} (n : Nat) (x : P134_l0.den) (k : KS R) : Option R := design_each_int_network_stateErr_c1_l0 N (fun r0 r1 r2 r3 r4 r5 r6 r7 r8 => k .ret ⟨[(4, dI r0), (5, dI r1), (100001, .fn 97 [.ptr 0 0])], [(0, .box [dS r2, dL [.s, hI] r3, dL zs2 r4, dL zs1 r5, dL zs0 r6, dL [.s, hI] r7, dL zs3 r8])]⟩) (fun r0 r1 r2 r3 r4 r5 r6 => k (.ex 0) ⟨[(100001, .fn 97 [.ptr 0 0])], [(0, .box [dS r0, dL [.s, hI] r1, dL zs2 r2, dL zs1 r3, dL zs0 r4, dL [.s, hI] r5, dL zs3 r6])]⟩) n x.1.2.1 x.1.2.2.1 x.1.2.2.2.1 x.2.1.1 x.2.1.2.1 x.2.1.2.2.1 x.2.1.2.2.2.1 x.2.1.2.2.2.2.1 x.2.1.2.2.2.2.2.1 x.2.1.2.2.2.2.2.2.1
theorem O134_l0 (N : Nat) {R : Type} : LpG T P134_l0 (E134_l0 N (R := R)) [1, 9, 10, 11] c94_l0 :=
  loop_ok (F133_ok N) (H := noH) (Lp := noL) (X := noX) (p := 26) (LOK0 (by kernel_rfl)) (fun _ _ => rfl) (fun n x k => by kernel_rfl)
noncomputable def L134_1 (N : Nat) {R : Type} : LpS R := updL noL 26 (lent' P134_l0 (E134_l0 N N))
def design_each_int_network_stateErr_c1 (N : Nat) {R : Type} (a0 : List Int) (a1 : ByteArray) (a2 : zt5) (a3 : zt1) (a4 : zt2) (a5 : zt0) (a6 : zt5) (a7 : zt4) (k0 : Int → Int → ByteArray → zt5 → zt1 → zt2 → zt0 → zt5 → zt4 → Option R) : Option R := (design_each_int_network_stateErr_c1_l0 N k0 (fun z19 z20 z21 z22 z23 z24 z25 => (k0 0 0 z19 z20 z21 z22 z23 z24 z25)) N a0 ((a0.length : Nat) : Int) 0 a1 a2 a3 a4 a5 a6 a7)
def P134 : AP := ⟨[pL [hI], .fn 97 [.ptr 0 0]], [(0, .box [pS, pL [.s, hI], pL zs2, pL zs1, pL zs0, pL [.s, hI], pL zs3])]⟩
def E134 (N : Nat) {R : Type} (x : P134.den) (k : KK R) : Option R := design_each_int_network_stateErr_c1 N x.1.1 x.2.1.1 x.2.1.2.1 x.2.1.2.2.1 x.2.1.2.2.2.1 x.2.1.2.2.2.2.1 x.2.1.2.2.2.2.2.1 x.2.1.2.2.2.2.2.2.1 (fun r0 r1 r2 r3 r4 r5 r6 r7 r8 => k [0] [dI r0, dI r1] [(0, .box [dS r2, dL [.s, hI] r3, dL zs2 r4, dL zs1 r5, dL zs0 r6, dL [.s, hI] r7, dL zs3 r8])])
noncomputable def F134 (N : Nat) {R : Type} : CfS R := uC (F133 N) 94 P134 (E134 N)
theorem F134_ok (N : Nat) {R : Type} : FOK (F134 N : CfS R) (runF T) :=
  uC_ok (F133_ok N) (H := noH) (Lp := (L134_1 N)) (X := noX) (rp := []) (ver := c94) rfl (LOK_of (l := [(26, [1, 9, 10, 11], c94_l0)]) (by kernel_rfl) ⟨(updL_ok (O134_l0 N N)), trivial⟩) (fun x k => by kernel_rfl)
def design_network_stateErr (N : Nat) {R : Type} (a0 : ByteArray) (a1 : zt5) (a2 : zt1) (a3 : zt2) (a4 : zt0) (a5 : zt5) (a6 : zt4) (a7 : List Int) (k0 : Int → Option R) : Option R := (bif decide (((a7.length : Nat) : Int) ≠ ((a2.length : Nat) : Int)) then (k0 10) else (design_each_int_network_stateErr_c1 N a7 a0 a1 a2 a3 a4 a5 a6 (fun y1 y2 y3 y4 y5 y6 y7 y8 y9 => (k0 y2))))
def P135 : AP := ⟨[.agg [pS, pL [.s, hI], pL zs2, pL zs1, pL zs0, pL [.s, hI], pL zs3], pL [hI]], []⟩
def E135 (N : Nat) {R : Type} (x : P135.den) (k : KK R) : Option R := design_network_stateErr N x.1.1.1 x.1.1.2.1 x.1.1.2.2.1 x.1.1.2.2.2.1 x.1.1.2.2.2.2.1 x.1.1.2.2.2.2.2.1 x.1.1.2.2.2.2.2.2.1 x.1.2.1 (fun r0 => k [] [dI r0] [])
noncomputable def F135 (N : Nat) {R : Type} : CfS R := uC (F134 N) 56 P135 (E135 N)
theorem F135_ok (N : Nat) {R : Type} : FOK (F135 N : CfS R) (runF T) :=
  uC_ok (F134_ok N) (H := noH) (Lp := noL) (X := noX) (rp := []) (ver := c56) rfl (LOK0 (by kernel_rfl)) (fun x k => by kernel_rfl)
def H136 : Nat → Option (List Sh) := fun n => if n = 20000 then some [hI] else none
def design_openState (N : Nat) {R : Type} (a0 : ByteArray) (a1 : zt5) (a2 : zt1) (a3 : zt2) (a4 : zt0) (a5 : zt5) (a6 : zt4) (a7 : List Int) (a8 : List Int) (k0 : ByteArray → zt5 → zt1 → zt2 → zt0 → zt5 → zt4 → Int → Option R) : Option R := (design_open N a0 a1 a2 a3 a4 a5 a6 (fun y1 y2 y3 y4 y5 y6 y7 y8 => (bif decide (y8 = 0) then (design_network_inputsErr N y1 y2 y3 y4 y5 y6 y7 a7 (fun y9 => (design_network_stateErr N y1 y2 y3 y4 y5 y6 y7 a8 (fun y10 => (design_first N [y9, y10] (fun y11 => (k0 y1 y2 y3 y4 y5 y6 y7 y11))))))) else (k0 y1 y2 y3 y4 y5 y6 y7 y8))))
def P136 : AP := ⟨[.agg [pS, pL [.s, hI], pL zs2, pL zs1, pL zs0, pL [.s, hI], pL zs3], pL [hI], pL [hI]], []⟩
def E136 (N : Nat) {R : Type} (x : P136.den) (k : KK R) : Option R := design_openState N x.1.1.1 x.1.1.2.1 x.1.1.2.2.1 x.1.1.2.2.2.1 x.1.1.2.2.2.2.1 x.1.1.2.2.2.2.2.1 x.1.1.2.2.2.2.2.2.1 x.1.2.1 x.1.2.2.1 (fun r0 r1 r2 r3 r4 r5 r6 r7 => k [] [.agg [dS r0, dL [.s, hI] r1, dL zs2 r2, dL zs1 r3, dL zs0 r4, dL [.s, hI] r5, dL zs3 r6], dI r7] [])
noncomputable def F136 (N : Nat) {R : Type} : CfS R := uC (F135 N) 51 P136 (E136 N)
theorem F136_ok (N : Nat) {R : Type} : FOK (F136 N : CfS R) (runF T) :=
  uC_ok (F135_ok N) (H := H136) (Lp := noL) (X := noX) (rp := []) (ver := c51) rfl (LOK0 (by kernel_rfl)) (fun x k => by kernel_rfl)
def slices_Concat_state_int_l0 (N : Nat) {R : Type} (k0 : List (List Int) → Int → Option R) : Nat → List (List Int) → Int → List (List Int) → Int → Int → Option R
  | 0, _, _, _, _, _ => none
  | n + 1, b0, b1, b2, b3, b4 => (bif decide (b4 < b3) then ((at? b2 b4).bind fun x1 => (bif decide ((w64 (b1 + ((x1.length : Nat) : Int))) < 0) then none else (slices_Concat_state_int_l0 N k0 n b0 (w64 (b1 + ((x1.length : Nat) : Int))) b2 b3 (w64 (b4 + 1))))) else (k0 b0 b1))
def P137_l0 : SP := ⟨[(0, pL zs5), (3, pI), (9, pL zs5), (10, pI), (11, pI)], []⟩
def E137_l0 (N : Nat) {R : Type} (n : Nat) (x : P137_l0.den) (k : KS R) : Option R := slices_Concat_state_int_l0 N (fun r0 r1 => k (.ex 0) ⟨[(0, dL zs5 r0), (3, dI r1)], []⟩) n x.1.1 x.1.2.1 x.1.2.2.1 x.1.2.2.2.1 x.1.2.2.2.2.1
theorem O137_l0 (N : Nat) {R : Type} : LpG T P137_l0 (E137_l0 N (R := R)) [0, 3, 9, 10, 11] c91_l0 :=
  loop_ok (F136_ok N) (H := noH) (Lp := noL) (X := noX) (p := 58) (LOK0 (by kernel_rfl)) (fun _ _ => rfl) (fun n x k => by kernel_rfl)
noncomputable def L137_1 (N : Nat) {R : Type} : LpS R := updL noL 58 (lent' P137_l0 (E137_l0 N N))
def slices_Concat_state_int_l1 (N : Nat) {R : Type} (k0 : List Int → Option R) : Nat → List (List Int) → Int → Int → List Int → Option R
  | 0, _, _, _, _ => none
  | n + 1, b0, b1, b2, b3 => (bif decide (b2 < b1) then ((at? b0 b2).bind fun x1 => (bif roomB (b3.length + x1.length) 8 then (slices_Concat_state_int_l1 N k0 n b0 b1 (w64 (b2 + 1)) (b3 ++ x1)) else none)) else (k0 b3))
def P137_l1 : SP := ⟨[(6, .own 0), (25, pL zs5), (26, pI), (27, pI)], [(0, .arr [hI])]⟩
def E137_l1 (N : Nat) {R : Type} (n : Nat) (x : P137_l1.den) (k : KS R) : Option R := slices_Concat_state_int_l1 N (fun r0 => k (.ex 2) ⟨[(6, .own 0)], [(0, .arr (.t [hI] r0))]⟩) n x.1.2.1 x.1.2.2.1 x.1.2.2.2.1 x.2.1
theorem O137_l1 (N : Nat) {R : Type} : LpG T P137_l1 (E137_l1 N (R := R)) [6, 25, 26, 27] c91_l1 :=
  loop_ok (F136_ok N) (H := noH) (Lp := (L137_1 N)) (X := noX) (p := 250) (LOK0 (by kernel_rfl)) (fun _ _ => rfl) (fun n x k => by kernel_rfl)
noncomputable def L137_2 (N : Nat) {R : Type} : LpS R := updL (L137_1 N) 250 (lent' P137_l1 (E137_l1 N N))
def slices_Concat_state_int (N : Nat) {R : Type} (a0 : List (List Int)) (k0 : List Int → Option R) : Option R := (slices_Concat_state_int_l0 N (fun z2 z3 => (bif growB 8 z3 then (slices_Concat_state_int_l1 N k0 N z2 ((z2.length : Nat) : Int) 0 []) else none)) N a0 0 a0 ((a0.length : Nat) : Int) 0)
def P137 : AP := ⟨[pL zs5], []⟩
def E137 (N : Nat) {R : Type} (x : P137.den) (k : KK R) : Option R := slices_Concat_state_int N x.1.1 (fun r0 => k [] [dL [hI] r0] [])
noncomputable def F137 (N : Nat) {R : Type} : CfS R := uC (F136 N) 91 P137 (E137 N)
theorem F137_ok (N : Nat) {R : Type} : FOK (F137 N : CfS R) (runF T) :=
  uC_ok (F136_ok N) (H := noH) (Lp := (L137_2 N)) (X := noX) (rp := []) (ver := c91) rfl (LOK_of (l := [(58, [0, 3, 9, 10, 11], c91_l0), (250, [6, 25, 26, 27], c91_l1)]) (by kernel_rfl) ⟨(updL_ne (by decide) (updL_ok (O137_l0 N N))), (updL_ok (O137_l1 N N)), trivial⟩) (fun x k => by kernel_rfl)
def graph_graphErr (N : Nat) {R : Type} (a0 : List Int) (a1 : zt2) (k0 : Int → Option R) : Option R := (graph_CheckNodes N a0 a1 (fun y1 y2 => (k0 y2)))
def P138 : AP := ⟨[pL [hI], pL zs1], []⟩
def E138 (N : Nat) {R : Type} (x : P138.den) (k : KK R) : Option R := graph_graphErr N x.1.1 x.1.2.1 (fun r0 => k [] [dI r0] [])
noncomputable def F138 (N : Nat) {R : Type} : CfS R := uC (F137 N) 150 P138 (E138 N)
theorem F138_ok (N : Nat) {R : Type} : FOK (F138 N : CfS R) (runF T) :=
  uC_ok (F137_ok N) (H := noH) (Lp := noL) (X := noX) (rp := []) (ver := c150) rfl (LOK0 (by kernel_rfl)) (fun x k => by kernel_rfl)
def graph_ValuesOf_c1 (N : Nat) {R : Type} (a0 : Int) (a1 : Int) (a2 : List Int) (k0 : Int → List Int → Option R) : Option R := ((at? a2 a0).bind fun x1 => (graph_fits N a1 x1 (fun y2 => (graph_unless N y2 2 (fun y3 => (k0 y3 a2))))))
def P139 : AP := ⟨[pI, pI, .ptr 0 0], [(0, .box [pL [hI]])]⟩
def E139 (N : Nat) {R : Type} (x : P139.den) (k : KK R) : Option R := graph_ValuesOf_c1 N x.1.1 x.1.2.1 x.2.1.1 (fun r0 r1 => k [0] [dI r0] [(0, .box [dL [hI] r1])])
noncomputable def F139 (N : Nat) {R : Type} : CfS R := uC (F138 N) 153 P139 (E139 N)
theorem F139_ok (N : Nat) {R : Type} : FOK (F139 N : CfS R) (runF T) :=
  uC_ok (F138_ok N) (H := noH) (Lp := noL) (X := noX) (rp := []) (ver := c153) rfl (LOK0 (by kernel_rfl)) (fun x k => by kernel_rfl)
def graph_each_int_ValuesOf_c1_l0 (N : Nat) {R : Type} (k0 : Int → Int → List Int → Option R) (k1 : List Int → Option R) : Nat → List Int → Int → Int → List Int → Option R
  | 0, _, _, _, _ => none
  | n + 1, b0, b1, b2, b3 => (bif decide (b2 < b1) then ((at? b0 b2).bind fun x1 => (graph_ValuesOf_c1 N b2 x1 b3 (fun y2 y3 => (bif decide (y2 ≠ 0) then (k0 b2 y2 y3) else (graph_each_int_ValuesOf_c1_l0 N k0 k1 n b0 b1 (w64 (b2 + 1)) y3))))) else (k1 b3))
def P140_l0 : SP := ⟨[(1, .fn 153 [.ptr 0 0]), (9, pL [hI]), (10, pI), (11, pI), (100001, .fn 153 [.ptr 0 0])], [(0, .box [pL [hI]])]⟩
def E140_l0 (N : Nat) {R : Type} (n : Nat) (x : P140_l0.den) (k : KS R) : Option R := graph_each_int_ValuesOf_c1_l0 N (fun r0 r1 r2 => k .ret ⟨[(4, dI r0), (5, dI r1), (100001, .fn 153 [.ptr 0 0])], [(0, .box [dL [hI] r2])]⟩) (fun r0 => k (.ex 0) ⟨[(100001, .fn 153 [.ptr 0 0])], [(0, .box [dL [hI] r0])]⟩) n x.1.2.1 x.1.2.2.1 x.1.2.2.2.1 x.2.1.1
theorem O140_l0 (N : Nat) {R : Type} : LpG T P140_l0 (E140_l0 N (R := R)) [1, 9, 10, 11] c152_l0 :=
  loop_ok (F139_ok N) (H := noH) (Lp := noL) (X := noX) (p := 26) (LOK0 (by kernel_rfl)) (fun _ _ => rfl) (fun n x k => by kernel_rfl)
noncomputable def L140_1 (N : Nat) {R : Type} : LpS R := updL noL 26 (lent' P140_l0 (E140_l0 N N))
def graph_each_int_ValuesOf_c1 (N : Nat) {R : Type} (a0 : List Int) (a1 : List Int) (k0 : Int → Int → List Int → Option R) : Option R := (graph_each_int_ValuesOf_c1_l0 N k0 (fun z7 => (k0 0 0 z7)) N a0 ((a0.length : Nat) : Int) 0 a1)
def P140 : AP := ⟨[pL [hI], .fn 153 [.ptr 0 0]], [(0, .box [pL [hI]])]⟩
def E140 (N : Nat) {R : Type} (x : P140.den) (k : KK R) : Option R := graph_each_int_ValuesOf_c1 N x.1.1 x.2.1.1 (fun r0 r1 r2 => k [0] [dI r0, dI r1] [(0, .box [dL [hI] r2])])
noncomputable def F140 (N : Nat) {R : Type} : CfS R := uC (F139 N) 152 P140 (E140 N)
theorem F140_ok (N : Nat) {R : Type} : FOK (F140 N : CfS R) (runF T) :=
  uC_ok (F139_ok N) (H := noH) (Lp := (L140_1 N)) (X := noX) (rp := []) (ver := c152) rfl (LOK_of (l := [(26, [1, 9, 10, 11], c152_l0)]) (by kernel_rfl) ⟨(updL_ok (O140_l0 N N)), trivial⟩) (fun x k => by kernel_rfl)
def graph_operations_c21 (N : Nat) {R : Type} (a0 : Int) (a1 : Int) (a2 : List Int) (a3 : Int) (a4 : List Int) (a5 : List Int) (k0 : Int → Option R) : Option R := ((at? a5 0).bind fun x1 => ((at? a5 1).bind fun x2 => (bif decide ((min x2 a1) < 0) then none else (k0 (shr' .i64 x1 (min x2 a1))))))
def P141 : AP := ⟨[.agg [pI, pI, pL [hI], pI], pL [hI], pL [hI]], []⟩
def E141 (N : Nat) {R : Type} (x : P141.den) (k : KK R) : Option R := graph_operations_c21 N x.1.1.1 x.1.1.2.1 x.1.1.2.2.1 x.1.1.2.2.2.1 x.1.2.1 x.1.2.2.1 (fun r0 => k [] [dI r0] [])
noncomputable def F141 (N : Nat) {R : Type} : CfS R := uC (F140 N) 235 P141 (E141 N)
theorem F141_ok (N : Nat) {R : Type} : FOK (F141 N : CfS R) (runF T) :=
  uC_ok (F140_ok N) (H := noH) (Lp := noL) (X := noX) (rp := []) (ver := c235) rfl (LOK0 (by kernel_rfl)) (fun x k => by kernel_rfl)
def graph_mask (N : Nat) {R : Type} (a0 : Int) (a1 : Int) (k0 : Int → Option R) : Option R := (bif decide (a1 < 0) then none else (k0 (andI .i64 a0 (w64 ((shl' .i64 1 a1) - 1)))))
def P142 : AP := ⟨[pI, pI], []⟩
def E142 (N : Nat) {R : Type} (x : P142.den) (k : KK R) : Option R := graph_mask N x.1.1 x.1.2.1 (fun r0 => k [] [dI r0] [])
noncomputable def F142 (N : Nat) {R : Type} : CfS R := uC (F141 N) 211 P142 (E142 N)
theorem F142_ok (N : Nat) {R : Type} : FOK (F142 N : CfS R) (runF T) :=
  uC_ok (F141_ok N) (H := noH) (Lp := noL) (X := noX) (rp := []) (ver := c211) rfl (LOK0 (by kernel_rfl)) (fun x k => by kernel_rfl)
def graph_operations_c20 (N : Nat) {R : Type} (a0 : Int) (a1 : Int) (a2 : List Int) (a3 : Int) (a4 : List Int) (a5 : List Int) (k0 : Int → Option R) : Option R := ((at? a5 0).bind fun x1 => ((at? a5 1).bind fun x2 => (bif decide ((min x2 a1) < 0) then none else (graph_mask N (shl' .i64 x1 (min x2 a1)) a1 k0))))
def P143 : AP := ⟨[.agg [pI, pI, pL [hI], pI], pL [hI], pL [hI]], []⟩
def E143 (N : Nat) {R : Type} (x : P143.den) (k : KK R) : Option R := graph_operations_c20 N x.1.1.1 x.1.1.2.1 x.1.1.2.2.1 x.1.1.2.2.2.1 x.1.2.1 x.1.2.2.1 (fun r0 => k [] [dI r0] [])
noncomputable def F143 (N : Nat) {R : Type} : CfS R := uC (F142 N) 234 P143 (E143 N)
theorem F143_ok (N : Nat) {R : Type} : FOK (F143 N : CfS R) (runF T) :=
  uC_ok (F142_ok N) (H := noH) (Lp := noL) (X := noX) (rp := []) (ver := c234) rfl (LOK0 (by kernel_rfl)) (fun x k => by kernel_rfl)
def graph_signed (N : Nat) {R : Type} (a0 : Int) (a1 : Int) (k0 : Int → Option R) : Option R := (bif decide ((w64 (a1 - 1)) < 0) then none else (bif decide ((andI .i64 (shr' .i64 a0 (w64 (a1 - 1))) 1) = 1) then (bif decide (a1 < 0) then none else (k0 (w64 (a0 - (shl' .i64 1 a1))))) else (k0 a0)))
def P144 : AP := ⟨[pI, pI], []⟩
def E144 (N : Nat) {R : Type} (x : P144.den) (k : KK R) : Option R := graph_signed N x.1.1 x.1.2.1 (fun r0 => k [] [dI r0] [])
noncomputable def F144 (N : Nat) {R : Type} : CfS R := uC (F143 N) 223 P144 (E144 N)
theorem F144_ok (N : Nat) {R : Type} : FOK (F144 N : CfS R) (runF T) :=
  uC_ok (F143_ok N) (H := noH) (Lp := noL) (X := noX) (rp := []) (ver := c223) rfl (LOK0 (by kernel_rfl)) (fun x k => by kernel_rfl)
def graph_operations_c19 (N : Nat) {R : Type} (a0 : Int) (a1 : Int) (a2 : List Int) (a3 : Int) (a4 : List Int) (a5 : List Int) (k0 : Int → Option R) : Option R := ((at? a5 0).bind fun x1 => ((at? a4 0).bind fun x2 => (graph_signed N x1 x2 (fun y3 => (graph_mask N y3 a1 k0)))))
def P145 : AP := ⟨[.agg [pI, pI, pL [hI], pI], pL [hI], pL [hI]], []⟩
def E145 (N : Nat) {R : Type} (x : P145.den) (k : KK R) : Option R := graph_operations_c19 N x.1.1.1 x.1.1.2.1 x.1.1.2.2.1 x.1.1.2.2.2.1 x.1.2.1 x.1.2.2.1 (fun r0 => k [] [dI r0] [])
noncomputable def F145 (N : Nat) {R : Type} : CfS R := uC (F144 N) 232 P145 (E145 N)
theorem F145_ok (N : Nat) {R : Type} : FOK (F145 N : CfS R) (runF T) :=
  uC_ok (F144_ok N) (H := noH) (Lp := noL) (X := noX) (rp := []) (ver := c232) rfl (LOK0 (by kernel_rfl)) (fun x k => by kernel_rfl)
def graph_operations_c18 (N : Nat) {R : Type} (a0 : Int) (a1 : Int) (a2 : List Int) (a3 : Int) (a4 : List Int) (a5 : List Int) (k0 : Int → Option R) : Option R := ((at? a5 0).bind fun x1 => (k0 x1))
def P146 : AP := ⟨[.agg [pI, pI, pL [hI], pI], pL [hI], pL [hI]], []⟩
def E146 (N : Nat) {R : Type} (x : P146.den) (k : KK R) : Option R := graph_operations_c18 N x.1.1.1 x.1.1.2.1 x.1.1.2.2.1 x.1.1.2.2.2.1 x.1.2.1 x.1.2.2.1 (fun r0 => k [] [dI r0] [])
noncomputable def F146 (N : Nat) {R : Type} : CfS R := uC (F145 N) 231 P146 (E146 N)
theorem F146_ok (N : Nat) {R : Type} : FOK (F146 N : CfS R) (runF T) :=
  uC_ok (F145_ok N) (H := noH) (Lp := noL) (X := noX) (rp := []) (ver := c231) rfl (LOK0 (by kernel_rfl)) (fun x k => by kernel_rfl)
def graph_operations_c17 (N : Nat) {R : Type} (a0 : Int) (a1 : Int) (a2 : List Int) (a3 : Int) (a4 : List Int) (a5 : List Int) (k0 : Int → Option R) : Option R := ((at? a5 0).bind fun x1 => (bif decide (a3 < 0) then none else (graph_mask N (shr' .i64 x1 a3) a1 k0)))
def P147 : AP := ⟨[.agg [pI, pI, pL [hI], pI], pL [hI], pL [hI]], []⟩
def E147 (N : Nat) {R : Type} (x : P147.den) (k : KK R) : Option R := graph_operations_c17 N x.1.1.1 x.1.1.2.1 x.1.1.2.2.1 x.1.1.2.2.2.1 x.1.2.1 x.1.2.2.1 (fun r0 => k [] [dI r0] [])
noncomputable def F147 (N : Nat) {R : Type} : CfS R := uC (F146 N) 229 P147 (E147 N)
theorem F147_ok (N : Nat) {R : Type} : FOK (F147 N : CfS R) (runF T) :=
  uC_ok (F146_ok N) (H := noH) (Lp := noL) (X := noX) (rp := []) (ver := c229) rfl (LOK0 (by kernel_rfl)) (fun x k => by kernel_rfl)
def graph_operations_c15 (N : Nat) {R : Type} (a0 : Int) (a1 : Int) (a2 : List Int) (a3 : Int) (a4 : List Int) (a5 : List Int) (k0 : Int → Option R) : Option R := ((at? a5 0).bind fun x1 => ((at? a4 1).bind fun x2 => (bif decide (x2 < 0) then none else ((at? a5 1).bind fun x3 => (k0 (orI .i64 (shl' .i64 x1 x2) x3))))))
def P148 : AP := ⟨[.agg [pI, pI, pL [hI], pI], pL [hI], pL [hI]], []⟩
def E148 (N : Nat) {R : Type} (x : P148.den) (k : KK R) : Option R := graph_operations_c15 N x.1.1.1 x.1.1.2.1 x.1.1.2.2.1 x.1.1.2.2.2.1 x.1.2.1 x.1.2.2.1 (fun r0 => k [] [dI r0] [])
noncomputable def F148 (N : Nat) {R : Type} : CfS R := uC (F147 N) 227 P148 (E148 N)
theorem F148_ok (N : Nat) {R : Type} : FOK (F148 N : CfS R) (runF T) :=
  uC_ok (F147_ok N) (H := noH) (Lp := noL) (X := noX) (rp := []) (ver := c227) rfl (LOK0 (by kernel_rfl)) (fun x k => by kernel_rfl)
def graph_operations_c13 (N : Nat) {R : Type} (a0 : Int) (a1 : Int) (a2 : List Int) (a3 : Int) (a4 : List Int) (a5 : List Int) (k0 : Int → Option R) : Option R := ((at? a5 0).bind fun x1 => (bif decide (x1 = 1) then ((at? a5 1).bind fun x2 => (k0 x2)) else ((at? a5 2).bind fun x3 => (k0 x3))))
def P149 : AP := ⟨[.agg [pI, pI, pL [hI], pI], pL [hI], pL [hI]], []⟩
def E149 (N : Nat) {R : Type} (x : P149.den) (k : KK R) : Option R := graph_operations_c13 N x.1.1.1 x.1.1.2.1 x.1.1.2.2.1 x.1.1.2.2.2.1 x.1.2.1 x.1.2.2.1 (fun r0 => k [] [dI r0] [])
noncomputable def F149 (N : Nat) {R : Type} : CfS R := uC (F148 N) 225 P149 (E149 N)
theorem F149_ok (N : Nat) {R : Type} : FOK (F149 N : CfS R) (runF T) :=
  uC_ok (F148_ok N) (H := noH) (Lp := noL) (X := noX) (rp := []) (ver := c225) rfl (LOK0 (by kernel_rfl)) (fun x k => by kernel_rfl)
def graph_operations_c11 (N : Nat) {R : Type} (a0 : Int) (a1 : Int) (a2 : Int) (k0 : Bool → Option R) : Option R := (graph_signed N a0 a2 (fun y1 => (graph_signed N a1 a2 (fun y2 => (k0 (decide (y1 < y2)))))))
def P150 : AP := ⟨[pI, pI, pI], []⟩
def E150 (N : Nat) {R : Type} (x : P150.den) (k : KK R) : Option R := graph_operations_c11 N x.1.1 x.1.2.1 x.1.2.2.1 (fun r0 => k [] [dB r0] [])
noncomputable def F150 (N : Nat) {R : Type} : CfS R := uC (F149 N) 222 P150 (E150 N)
theorem F150_ok (N : Nat) {R : Type} : FOK (F150 N : CfS R) (runF T) :=
  uC_ok (F149_ok N) (H := noH) (Lp := noL) (X := noX) (rp := []) (ver := c222) rfl (LOK0 (by kernel_rfl)) (fun x k => by kernel_rfl)
def graph_truth (N : Nat) {R : Type} (a0 : Bool) (k0 : Int → Option R) : Option R := (bif a0 then (k0 1) else (k0 0))
def P151 : AP := ⟨[pB], []⟩
def E151 (N : Nat) {R : Type} (x : P151.den) (k : KK R) : Option R := graph_truth N x.1.1 (fun r0 => k [] [dI r0] [])
noncomputable def F151 (N : Nat) {R : Type} : CfS R := uC (F150 N) 247 P151 (E151 N)
theorem F151_ok (N : Nat) {R : Type} : FOK (F151 N : CfS R) (runF T) :=
  uC_ok (F150_ok N) (H := noH) (Lp := noL) (X := noX) (rp := []) (ver := c247) rfl (LOK0 (by kernel_rfl)) (fun x k => by kernel_rfl)
def graph_relation_c1_operations_c11 (N : Nat) {R : Type} (a0 : Int) (a1 : Int) (a2 : List Int) (a3 : Int) (a4 : List Int) (a5 : List Int) (k0 : Int → Option R) : Option R := ((at? a5 0).bind fun x1 => ((at? a5 1).bind fun x2 => ((at? a4 0).bind fun x3 => (graph_operations_c11 N x1 x2 x3 (fun y4 => (graph_truth N y4 k0))))))
def P152 : AP := ⟨[.agg [pI, pI, pL [hI], pI], pL [hI], pL [hI], .p (.cp [.fn 222 []])], []⟩
def E152 (N : Nat) {R : Type} (x : P152.den) (k : KK R) : Option R := graph_relation_c1_operations_c11 N x.1.1.1 x.1.1.2.1 x.1.1.2.2.1 x.1.1.2.2.2.1 x.1.2.1 x.1.2.2.1 (fun r0 => k [] [dI r0] [])
noncomputable def F152 (N : Nat) {R : Type} : CfS R := uC (F151 N) 246 P152 (E152 N)
theorem F152_ok (N : Nat) {R : Type} : FOK (F152 N : CfS R) (runF T) :=
  uC_ok (F151_ok N) (H := noH) (Lp := noL) (X := noX) (rp := []) (ver := c246) rfl (LOK0 (by kernel_rfl)) (fun x k => by kernel_rfl)
def graph_operations_c10 (N : Nat) {R : Type} (a0 : Int) (a1 : Int) (a2 : Int) (k0 : Bool → Option R) : Option R := (k0 (decide (a0 < a1)))
def P153 : AP := ⟨[pI, pI, pI], []⟩
def E153 (N : Nat) {R : Type} (x : P153.den) (k : KK R) : Option R := graph_operations_c10 N x.1.1 x.1.2.1 x.1.2.2.1 (fun r0 => k [] [dB r0] [])
noncomputable def F153 (N : Nat) {R : Type} : CfS R := uC (F152 N) 221 P153 (E153 N)
theorem F153_ok (N : Nat) {R : Type} : FOK (F153 N : CfS R) (runF T) :=
  uC_ok (F152_ok N) (H := noH) (Lp := noL) (X := noX) (rp := []) (ver := c221) rfl (LOK0 (by kernel_rfl)) (fun x k => by kernel_rfl)
def graph_relation_c1_operations_c10 (N : Nat) {R : Type} (a0 : Int) (a1 : Int) (a2 : List Int) (a3 : Int) (a4 : List Int) (a5 : List Int) (k0 : Int → Option R) : Option R := ((at? a5 0).bind fun x1 => ((at? a5 1).bind fun x2 => ((at? a4 0).bind fun x3 => (graph_operations_c10 N x1 x2 x3 (fun y4 => (graph_truth N y4 k0))))))
def P154 : AP := ⟨[.agg [pI, pI, pL [hI], pI], pL [hI], pL [hI], .p (.cp [.fn 221 []])], []⟩
def E154 (N : Nat) {R : Type} (x : P154.den) (k : KK R) : Option R := graph_relation_c1_operations_c10 N x.1.1.1 x.1.1.2.1 x.1.1.2.2.1 x.1.1.2.2.2.1 x.1.2.1 x.1.2.2.1 (fun r0 => k [] [dI r0] [])
noncomputable def F154 (N : Nat) {R : Type} : CfS R := uC (F153 N) 246 P154 (E154 N)
theorem F154_ok (N : Nat) {R : Type} : FOK (F154 N : CfS R) (runF T) :=
  uC_ok (F153_ok N) (H := noH) (Lp := noL) (X := noX) (rp := []) (ver := c246) rfl (LOK0 (by kernel_rfl)) (fun x k => by kernel_rfl)
def graph_operations_c9 (N : Nat) {R : Type} (a0 : Int) (a1 : Int) (a2 : Int) (k0 : Bool → Option R) : Option R := (k0 (decide (a0 = a1)))
def P155 : AP := ⟨[pI, pI, pI], []⟩
def E155 (N : Nat) {R : Type} (x : P155.den) (k : KK R) : Option R := graph_operations_c9 N x.1.1 x.1.2.1 x.1.2.2.1 (fun r0 => k [] [dB r0] [])
noncomputable def F155 (N : Nat) {R : Type} : CfS R := uC (F154 N) 220 P155 (E155 N)
theorem F155_ok (N : Nat) {R : Type} : FOK (F155 N : CfS R) (runF T) :=
  uC_ok (F154_ok N) (H := noH) (Lp := noL) (X := noX) (rp := []) (ver := c220) rfl (LOK0 (by kernel_rfl)) (fun x k => by kernel_rfl)
def graph_relation_c1_operations_c9 (N : Nat) {R : Type} (a0 : Int) (a1 : Int) (a2 : List Int) (a3 : Int) (a4 : List Int) (a5 : List Int) (k0 : Int → Option R) : Option R := ((at? a5 0).bind fun x1 => ((at? a5 1).bind fun x2 => ((at? a4 0).bind fun x3 => (graph_operations_c9 N x1 x2 x3 (fun y4 => (graph_truth N y4 k0))))))
def P156 : AP := ⟨[.agg [pI, pI, pL [hI], pI], pL [hI], pL [hI], .p (.cp [.fn 220 []])], []⟩
def E156 (N : Nat) {R : Type} (x : P156.den) (k : KK R) : Option R := graph_relation_c1_operations_c9 N x.1.1.1 x.1.1.2.1 x.1.1.2.2.1 x.1.1.2.2.2.1 x.1.2.1 x.1.2.2.1 (fun r0 => k [] [dI r0] [])
noncomputable def F156 (N : Nat) {R : Type} : CfS R := uC (F155 N) 246 P156 (E156 N)
theorem F156_ok (N : Nat) {R : Type} : FOK (F156 N : CfS R) (runF T) :=
  uC_ok (F155_ok N) (H := noH) (Lp := noL) (X := noX) (rp := []) (ver := c246) rfl (LOK0 (by kernel_rfl)) (fun x k => by kernel_rfl)
def graph_operations_c8 (N : Nat) {R : Type} (a0 : Int) (a1 : Int) (k0 : Int → Option R) : Option R := (k0 (w64 (a0 * a1)))
def P157 : AP := ⟨[pI, pI], []⟩
def E157 (N : Nat) {R : Type} (x : P157.den) (k : KK R) : Option R := graph_operations_c8 N x.1.1 x.1.2.1 (fun r0 => k [] [dI r0] [])
noncomputable def F157 (N : Nat) {R : Type} : CfS R := uC (F156 N) 218 P157 (E157 N)
theorem F157_ok (N : Nat) {R : Type} : FOK (F157 N : CfS R) (runF T) :=
  uC_ok (F156_ok N) (H := noH) (Lp := noL) (X := noX) (rp := []) (ver := c218) rfl (LOK0 (by kernel_rfl)) (fun x k => by kernel_rfl)
def graph_binary_c1_operations_c8 (N : Nat) {R : Type} (a0 : Int) (a1 : Int) (a2 : List Int) (a3 : Int) (a4 : List Int) (a5 : List Int) (k0 : Int → Option R) : Option R := ((at? a5 0).bind fun x1 => ((at? a5 1).bind fun x2 => (graph_operations_c8 N x1 x2 (fun y3 => (graph_mask N y3 a1 k0)))))
def P158 : AP := ⟨[.agg [pI, pI, pL [hI], pI], pL [hI], pL [hI], .p (.cp [.fn 218 []])], []⟩
def E158 (N : Nat) {R : Type} (x : P158.den) (k : KK R) : Option R := graph_binary_c1_operations_c8 N x.1.1.1 x.1.1.2.1 x.1.1.2.2.1 x.1.1.2.2.2.1 x.1.2.1 x.1.2.2.1 (fun r0 => k [] [dI r0] [])
noncomputable def F158 (N : Nat) {R : Type} : CfS R := uC (F157 N) 244 P158 (E158 N)
theorem F158_ok (N : Nat) {R : Type} : FOK (F158 N : CfS R) (runF T) :=
  uC_ok (F157_ok N) (H := noH) (Lp := noL) (X := noX) (rp := []) (ver := c244) rfl (LOK0 (by kernel_rfl)) (fun x k => by kernel_rfl)
def graph_operations_c7 (N : Nat) {R : Type} (a0 : Int) (a1 : Int) (k0 : Int → Option R) : Option R := (k0 (w64 (a0 - a1)))
def P159 : AP := ⟨[pI, pI], []⟩
def E159 (N : Nat) {R : Type} (x : P159.den) (k : KK R) : Option R := graph_operations_c7 N x.1.1 x.1.2.1 (fun r0 => k [] [dI r0] [])
noncomputable def F159 (N : Nat) {R : Type} : CfS R := uC (F158 N) 217 P159 (E159 N)
theorem F159_ok (N : Nat) {R : Type} : FOK (F159 N : CfS R) (runF T) :=
  uC_ok (F158_ok N) (H := noH) (Lp := noL) (X := noX) (rp := []) (ver := c217) rfl (LOK0 (by kernel_rfl)) (fun x k => by kernel_rfl)
def graph_binary_c1_operations_c7 (N : Nat) {R : Type} (a0 : Int) (a1 : Int) (a2 : List Int) (a3 : Int) (a4 : List Int) (a5 : List Int) (k0 : Int → Option R) : Option R := ((at? a5 0).bind fun x1 => ((at? a5 1).bind fun x2 => (graph_operations_c7 N x1 x2 (fun y3 => (graph_mask N y3 a1 k0)))))
def P160 : AP := ⟨[.agg [pI, pI, pL [hI], pI], pL [hI], pL [hI], .p (.cp [.fn 217 []])], []⟩
def E160 (N : Nat) {R : Type} (x : P160.den) (k : KK R) : Option R := graph_binary_c1_operations_c7 N x.1.1.1 x.1.1.2.1 x.1.1.2.2.1 x.1.1.2.2.2.1 x.1.2.1 x.1.2.2.1 (fun r0 => k [] [dI r0] [])
noncomputable def F160 (N : Nat) {R : Type} : CfS R := uC (F159 N) 244 P160 (E160 N)
theorem F160_ok (N : Nat) {R : Type} : FOK (F160 N : CfS R) (runF T) :=
  uC_ok (F159_ok N) (H := noH) (Lp := noL) (X := noX) (rp := []) (ver := c244) rfl (LOK0 (by kernel_rfl)) (fun x k => by kernel_rfl)
def graph_operations_c6 (N : Nat) {R : Type} (a0 : Int) (a1 : Int) (k0 : Int → Option R) : Option R := (k0 (w64 (a0 + a1)))
def P161 : AP := ⟨[pI, pI], []⟩
def E161 (N : Nat) {R : Type} (x : P161.den) (k : KK R) : Option R := graph_operations_c6 N x.1.1 x.1.2.1 (fun r0 => k [] [dI r0] [])
noncomputable def F161 (N : Nat) {R : Type} : CfS R := uC (F160 N) 216 P161 (E161 N)
theorem F161_ok (N : Nat) {R : Type} : FOK (F161 N : CfS R) (runF T) :=
  uC_ok (F160_ok N) (H := noH) (Lp := noL) (X := noX) (rp := []) (ver := c216) rfl (LOK0 (by kernel_rfl)) (fun x k => by kernel_rfl)
def graph_binary_c1_operations_c6 (N : Nat) {R : Type} (a0 : Int) (a1 : Int) (a2 : List Int) (a3 : Int) (a4 : List Int) (a5 : List Int) (k0 : Int → Option R) : Option R := ((at? a5 0).bind fun x1 => ((at? a5 1).bind fun x2 => (graph_operations_c6 N x1 x2 (fun y3 => (graph_mask N y3 a1 k0)))))
def P162 : AP := ⟨[.agg [pI, pI, pL [hI], pI], pL [hI], pL [hI], .p (.cp [.fn 216 []])], []⟩
def E162 (N : Nat) {R : Type} (x : P162.den) (k : KK R) : Option R := graph_binary_c1_operations_c6 N x.1.1.1 x.1.1.2.1 x.1.1.2.2.1 x.1.1.2.2.2.1 x.1.2.1 x.1.2.2.1 (fun r0 => k [] [dI r0] [])
noncomputable def F162 (N : Nat) {R : Type} : CfS R := uC (F161 N) 244 P162 (E162 N)
theorem F162_ok (N : Nat) {R : Type} : FOK (F162 N : CfS R) (runF T) :=
  uC_ok (F161_ok N) (H := noH) (Lp := noL) (X := noX) (rp := []) (ver := c244) rfl (LOK0 (by kernel_rfl)) (fun x k => by kernel_rfl)
def graph_operations_c5 (N : Nat) {R : Type} (a0 : Int) (a1 : Int) (k0 : Int → Option R) : Option R := (k0 (xorI .i64 a0 a1))
def P163 : AP := ⟨[pI, pI], []⟩
def E163 (N : Nat) {R : Type} (x : P163.den) (k : KK R) : Option R := graph_operations_c5 N x.1.1 x.1.2.1 (fun r0 => k [] [dI r0] [])
noncomputable def F163 (N : Nat) {R : Type} : CfS R := uC (F162 N) 215 P163 (E163 N)
theorem F163_ok (N : Nat) {R : Type} : FOK (F163 N : CfS R) (runF T) :=
  uC_ok (F162_ok N) (H := noH) (Lp := noL) (X := noX) (rp := []) (ver := c215) rfl (LOK0 (by kernel_rfl)) (fun x k => by kernel_rfl)
def graph_binary_c1_operations_c5 (N : Nat) {R : Type} (a0 : Int) (a1 : Int) (a2 : List Int) (a3 : Int) (a4 : List Int) (a5 : List Int) (k0 : Int → Option R) : Option R := ((at? a5 0).bind fun x1 => ((at? a5 1).bind fun x2 => (graph_operations_c5 N x1 x2 (fun y3 => (graph_mask N y3 a1 k0)))))
def P164 : AP := ⟨[.agg [pI, pI, pL [hI], pI], pL [hI], pL [hI], .p (.cp [.fn 215 []])], []⟩
def E164 (N : Nat) {R : Type} (x : P164.den) (k : KK R) : Option R := graph_binary_c1_operations_c5 N x.1.1.1 x.1.1.2.1 x.1.1.2.2.1 x.1.1.2.2.2.1 x.1.2.1 x.1.2.2.1 (fun r0 => k [] [dI r0] [])
noncomputable def F164 (N : Nat) {R : Type} : CfS R := uC (F163 N) 244 P164 (E164 N)
theorem F164_ok (N : Nat) {R : Type} : FOK (F164 N : CfS R) (runF T) :=
  uC_ok (F163_ok N) (H := noH) (Lp := noL) (X := noX) (rp := []) (ver := c244) rfl (LOK0 (by kernel_rfl)) (fun x k => by kernel_rfl)
def graph_operations_c4 (N : Nat) {R : Type} (a0 : Int) (a1 : Int) (k0 : Int → Option R) : Option R := (k0 (orI .i64 a0 a1))
def P165 : AP := ⟨[pI, pI], []⟩
def E165 (N : Nat) {R : Type} (x : P165.den) (k : KK R) : Option R := graph_operations_c4 N x.1.1 x.1.2.1 (fun r0 => k [] [dI r0] [])
noncomputable def F165 (N : Nat) {R : Type} : CfS R := uC (F164 N) 214 P165 (E165 N)
theorem F165_ok (N : Nat) {R : Type} : FOK (F165 N : CfS R) (runF T) :=
  uC_ok (F164_ok N) (H := noH) (Lp := noL) (X := noX) (rp := []) (ver := c214) rfl (LOK0 (by kernel_rfl)) (fun x k => by kernel_rfl)
def graph_binary_c1_operations_c4 (N : Nat) {R : Type} (a0 : Int) (a1 : Int) (a2 : List Int) (a3 : Int) (a4 : List Int) (a5 : List Int) (k0 : Int → Option R) : Option R := ((at? a5 0).bind fun x1 => ((at? a5 1).bind fun x2 => (graph_operations_c4 N x1 x2 (fun y3 => (graph_mask N y3 a1 k0)))))
def P166 : AP := ⟨[.agg [pI, pI, pL [hI], pI], pL [hI], pL [hI], .p (.cp [.fn 214 []])], []⟩
def E166 (N : Nat) {R : Type} (x : P166.den) (k : KK R) : Option R := graph_binary_c1_operations_c4 N x.1.1.1 x.1.1.2.1 x.1.1.2.2.1 x.1.1.2.2.2.1 x.1.2.1 x.1.2.2.1 (fun r0 => k [] [dI r0] [])
noncomputable def F166 (N : Nat) {R : Type} : CfS R := uC (F165 N) 244 P166 (E166 N)
theorem F166_ok (N : Nat) {R : Type} : FOK (F166 N : CfS R) (runF T) :=
  uC_ok (F165_ok N) (H := noH) (Lp := noL) (X := noX) (rp := []) (ver := c244) rfl (LOK0 (by kernel_rfl)) (fun x k => by kernel_rfl)
def graph_operations_c3 (N : Nat) {R : Type} (a0 : Int) (a1 : Int) (k0 : Int → Option R) : Option R := (k0 (andI .i64 a0 a1))
def P167 : AP := ⟨[pI, pI], []⟩
def E167 (N : Nat) {R : Type} (x : P167.den) (k : KK R) : Option R := graph_operations_c3 N x.1.1 x.1.2.1 (fun r0 => k [] [dI r0] [])
noncomputable def F167 (N : Nat) {R : Type} : CfS R := uC (F166 N) 213 P167 (E167 N)
theorem F167_ok (N : Nat) {R : Type} : FOK (F167 N : CfS R) (runF T) :=
  uC_ok (F166_ok N) (H := noH) (Lp := noL) (X := noX) (rp := []) (ver := c213) rfl (LOK0 (by kernel_rfl)) (fun x k => by kernel_rfl)
def graph_binary_c1_operations_c3 (N : Nat) {R : Type} (a0 : Int) (a1 : Int) (a2 : List Int) (a3 : Int) (a4 : List Int) (a5 : List Int) (k0 : Int → Option R) : Option R := ((at? a5 0).bind fun x1 => ((at? a5 1).bind fun x2 => (graph_operations_c3 N x1 x2 (fun y3 => (graph_mask N y3 a1 k0)))))
def P168 : AP := ⟨[.agg [pI, pI, pL [hI], pI], pL [hI], pL [hI], .p (.cp [.fn 213 []])], []⟩
def E168 (N : Nat) {R : Type} (x : P168.den) (k : KK R) : Option R := graph_binary_c1_operations_c3 N x.1.1.1 x.1.1.2.1 x.1.1.2.2.1 x.1.1.2.2.2.1 x.1.2.1 x.1.2.2.1 (fun r0 => k [] [dI r0] [])
noncomputable def F168 (N : Nat) {R : Type} : CfS R := uC (F167 N) 244 P168 (E168 N)
theorem F168_ok (N : Nat) {R : Type} : FOK (F168 N : CfS R) (runF T) :=
  uC_ok (F167_ok N) (H := noH) (Lp := noL) (X := noX) (rp := []) (ver := c244) rfl (LOK0 (by kernel_rfl)) (fun x k => by kernel_rfl)
def graph_operations_c2 (N : Nat) {R : Type} (a0 : Int) (a1 : Int) (a2 : List Int) (a3 : Int) (a4 : List Int) (a5 : List Int) (k0 : Int → Option R) : Option R := ((at? a5 0).bind fun x1 => (graph_mask N (notI .i64 x1) a1 k0))
def P169 : AP := ⟨[.agg [pI, pI, pL [hI], pI], pL [hI], pL [hI]], []⟩
def E169 (N : Nat) {R : Type} (x : P169.den) (k : KK R) : Option R := graph_operations_c2 N x.1.1.1 x.1.1.2.1 x.1.1.2.2.1 x.1.1.2.2.2.1 x.1.2.1 x.1.2.2.1 (fun r0 => k [] [dI r0] [])
noncomputable def F169 (N : Nat) {R : Type} : CfS R := uC (F168 N) 210 P169 (E169 N)
theorem F169_ok (N : Nat) {R : Type} : FOK (F169 N : CfS R) (runF T) :=
  uC_ok (F168_ok N) (H := noH) (Lp := noL) (X := noX) (rp := []) (ver := c210) rfl (LOK0 (by kernel_rfl)) (fun x k => by kernel_rfl)
def graph_operations_c1 (N : Nat) {R : Type} (a0 : Int) (a1 : Int) (a2 : List Int) (a3 : Int) (a4 : List Int) (a5 : List Int) (k0 : Int → Option R) : Option R := (k0 a3)
def P170 : AP := ⟨[.agg [pI, pI, pL [hI], pI], pL [hI], pL [hI]], []⟩
def E170 (N : Nat) {R : Type} (x : P170.den) (k : KK R) : Option R := graph_operations_c1 N x.1.1.1 x.1.1.2.1 x.1.1.2.2.1 x.1.1.2.2.2.1 x.1.2.1 x.1.2.2.1 (fun r0 => k [] [dI r0] [])
noncomputable def F170 (N : Nat) {R : Type} : CfS R := uC (F169 N) 207 P170 (E170 N)
theorem F170_ok (N : Nat) {R : Type} : FOK (F170 N : CfS R) (runF T) :=
  uC_ok (F169_ok N) (H := noH) (Lp := noL) (X := noX) (rp := []) (ver := c207) rfl (LOK0 (by kernel_rfl)) (fun x k => by kernel_rfl)
def H171 : Nat → Option (List Sh) := fun n => if n = 19000 then some [hI] else if n = 26000 then some [hI] else none
def graph_applied_l0 (N : Nat) {R : Type} (k0 : Int → Int → List Int → Int → List Int → List Int → Option R) : Nat → zt2 → List Int → List Int → Int → Int → Int → Int → List Int → Int → List Int → List Int → Option R
  | 0, _, _, _, _, _, _, _, _, _, _, _ => none
  | n + 1, b0, b1, b2, b3, b4, b5, b6, b7, b8, b9, b10 => (bif decide (b4 < b3) then ((at? b2 b4).bind fun x1 => ((at? b0 x1).bind fun x2 => (bif roomB (b9.length + 1) 8 then ((at? b1 x1).bind fun x3 => (bif roomB (b10.length + 1) 8 then (graph_applied_l0 N k0 n b0 b1 b2 b3 (w64 (b4 + 1)) b5 b6 b7 b8 (b9 ++ [x2.2.1]) (b10 ++ [x3])) else none)) else none))) else (k0 b5 b6 b7 b8 b9 b10))
def P171_l0 : SP := ⟨[(0, .p (.cp [.ks (ByteArray.mk #[99, 111, 110, 115, 116]), .ki .i64 0, .kb true, .fn 208 [], .fn 207 [], .ks (ByteArray.mk #[108, 101, 97, 102]), .ki .i64 0, .kb true, .fn 208 [], .fn 207 [], .ks (ByteArray.mk #[110, 111, 116]), .ki .i64 1, .kb false, .fn 209 [], .fn 210 [], .ks (ByteArray.mk #[97, 110, 100]), .ki .i64 2, .kb false, .fn 209 [], .fn 244 [.cp [.fn 213 []]], .ks (ByteArray.mk #[111, 114]), .ki .i64 2, .kb false, .fn 209 [], .fn 244 [.cp [.fn 214 []]], .ks (ByteArray.mk #[120, 111, 114]), .ki .i64 2, .kb false, .fn 209 [], .fn 244 [.cp [.fn 215 []]], .ks (ByteArray.mk #[97, 100, 100]), .ki .i64 2, .kb false, .fn 209 [], .fn 244 [.cp [.fn 216 []]], .ks (ByteArray.mk #[115, 117, 98]), .ki .i64 2, .kb false, .fn 209 [], .fn 244 [.cp [.fn 217 []]], .ks (ByteArray.mk #[109, 117, 108]), .ki .i64 2, .kb false, .fn 209 [], .fn 244 [.cp [.fn 218 []]], .ks (ByteArray.mk #[101, 113]), .ki .i64 2, .kb false, .fn 245 [], .fn 246 [.cp [.fn 220 []]], .ks (ByteArray.mk #[108, 116]), .ki .i64 2, .kb false, .fn 245 [], .fn 246 [.cp [.fn 221 []]], .ks (ByteArray.mk #[115, 108, 116]), .ki .i64 2, .kb false, .fn 245 [], .fn 246 [.cp [.fn 222 []]], .ks (ByteArray.mk #[109, 117, 120]), .ki .i64 3, .kb false, .fn 224 [], .fn 225 [], .ks (ByteArray.mk #[106, 111, 105, 110]), .ki .i64 2, .kb false, .fn 226 [], .fn 227 [], .ks (ByteArray.mk #[115, 108, 105, 99, 101]), .ki .i64 1, .kb true, .fn 228 [], .fn 229 [], .ks (ByteArray.mk #[122, 101, 120, 116]), .ki .i64 1, .kb false, .fn 230 [], .fn 231 [], .ks (ByteArray.mk #[115, 101, 120, 116]), .ki .i64 1, .kb false, .fn 230 [], .fn 232 [], .ks (ByteArray.mk #[115, 104, 108]), .ki .i64 2, .kb false, .fn 233 [], .fn 234 [], .ks (ByteArray.mk #[115, 104, 114]), .ki .i64 2, .kb false, .fn 233 [], .fn 235 []])), (1, pL zs1), (3, pL [hI]), (6, .ptr 0 0), (9, .own 1), (10, .own 2), (14, pL [hI]), (15, pI), (16, pI)], [(0, .box [pI, pI, pL [hI], pI]), (1, .arr [hI]), (2, .arr [hI])]⟩
def E171_l0 (N : Nat) {R : Type} (n : Nat) (x : P171_l0.den) (k : KS R) : Option R := graph_applied_l0 N (fun r0 r1 r2 r3 r4 r5 => k (.ex 0) ⟨[(0, .p (.cp [.s (ByteArray.mk #[99, 111, 110, 115, 116]), .i .i64 0, .b true, .fn 208 [], .fn 207 [], .s (ByteArray.mk #[108, 101, 97, 102]), .i .i64 0, .b true, .fn 208 [], .fn 207 [], .s (ByteArray.mk #[110, 111, 116]), .i .i64 1, .b false, .fn 209 [], .fn 210 [], .s (ByteArray.mk #[97, 110, 100]), .i .i64 2, .b false, .fn 209 [], .fn 244 [.cp [.fn 213 []]], .s (ByteArray.mk #[111, 114]), .i .i64 2, .b false, .fn 209 [], .fn 244 [.cp [.fn 214 []]], .s (ByteArray.mk #[120, 111, 114]), .i .i64 2, .b false, .fn 209 [], .fn 244 [.cp [.fn 215 []]], .s (ByteArray.mk #[97, 100, 100]), .i .i64 2, .b false, .fn 209 [], .fn 244 [.cp [.fn 216 []]], .s (ByteArray.mk #[115, 117, 98]), .i .i64 2, .b false, .fn 209 [], .fn 244 [.cp [.fn 217 []]], .s (ByteArray.mk #[109, 117, 108]), .i .i64 2, .b false, .fn 209 [], .fn 244 [.cp [.fn 218 []]], .s (ByteArray.mk #[101, 113]), .i .i64 2, .b false, .fn 245 [], .fn 246 [.cp [.fn 220 []]], .s (ByteArray.mk #[108, 116]), .i .i64 2, .b false, .fn 245 [], .fn 246 [.cp [.fn 221 []]], .s (ByteArray.mk #[115, 108, 116]), .i .i64 2, .b false, .fn 245 [], .fn 246 [.cp [.fn 222 []]], .s (ByteArray.mk #[109, 117, 120]), .i .i64 3, .b false, .fn 224 [], .fn 225 [], .s (ByteArray.mk #[106, 111, 105, 110]), .i .i64 2, .b false, .fn 226 [], .fn 227 [], .s (ByteArray.mk #[115, 108, 105, 99, 101]), .i .i64 1, .b true, .fn 228 [], .fn 229 [], .s (ByteArray.mk #[122, 101, 120, 116]), .i .i64 1, .b false, .fn 230 [], .fn 231 [], .s (ByteArray.mk #[115, 101, 120, 116]), .i .i64 1, .b false, .fn 230 [], .fn 232 [], .s (ByteArray.mk #[115, 104, 108]), .i .i64 2, .b false, .fn 233 [], .fn 234 [], .s (ByteArray.mk #[115, 104, 114]), .i .i64 2, .b false, .fn 233 [], .fn 235 []])), (6, .ptr 0 0), (9, .own 1), (10, .own 2)], [(0, .box [dI r0, dI r1, dL [hI] r2, dI r3]), (1, .arr (.t [hI] r4)), (2, .arr (.t [hI] r5))]⟩) n x.1.2.1 x.1.2.2.1 x.1.2.2.2.2.2.2.1 x.1.2.2.2.2.2.2.2.1 x.1.2.2.2.2.2.2.2.2.1 x.2.1.1 x.2.1.2.1 x.2.1.2.2.1 x.2.1.2.2.2.1 x.2.2.1 x.2.2.2.1
theorem O171_l0 (N : Nat) {R : Type} : LpG T P171_l0 (E171_l0 N (R := R)) [0, 1, 3, 6, 9, 10, 14, 15, 16] c191_l0 :=
  loop_ok (F170_ok N) (H := H171) (Lp := noL) (X := noX) (p := 58) (LOK0 (by kernel_rfl)) (fun _ _ => rfl) (fun n x k => by kernel_rfl)
noncomputable def L171_1 (N : Nat) {R : Type} : LpS R := updL noL 58 (lent' P171_l0 (E171_l0 N N))
def graph_applied (N : Nat) {R : Type} (a0 : zt2) (a1 : Int) (a2 : Int) (a3 : List Int) (a4 : Int) (a5 : List Int) (k0 : Int → Option R) : Option R := (graph_applied_l0 N (fun z4 z5 z6 z7 z8 z9 => (bif decide (z4 = 18) then (graph_operations_c21 N z4 z5 z6 z7 z8 z9 k0) else (bif decide (z4 = 17) then (graph_operations_c20 N z4 z5 z6 z7 z8 z9 k0) else (bif decide (z4 = 16) then (graph_operations_c19 N z4 z5 z6 z7 z8 z9 k0) else (bif decide (z4 = 15) then (graph_operations_c18 N z4 z5 z6 z7 z8 z9 k0) else (bif decide (z4 = 14) then (graph_operations_c17 N z4 z5 z6 z7 z8 z9 k0) else (bif decide (z4 = 13) then (graph_operations_c15 N z4 z5 z6 z7 z8 z9 k0) else (bif decide (z4 = 12) then (graph_operations_c13 N z4 z5 z6 z7 z8 z9 k0) else (bif decide (z4 = 11) then (graph_relation_c1_operations_c11 N z4 z5 z6 z7 z8 z9 k0) else (bif decide (z4 = 10) then (graph_relation_c1_operations_c10 N z4 z5 z6 z7 z8 z9 k0) else (bif decide (z4 = 9) then (graph_relation_c1_operations_c9 N z4 z5 z6 z7 z8 z9 k0) else (bif decide (z4 = 8) then (graph_binary_c1_operations_c8 N z4 z5 z6 z7 z8 z9 k0) else (bif decide (z4 = 7) then (graph_binary_c1_operations_c7 N z4 z5 z6 z7 z8 z9 k0) else (bif decide (z4 = 6) then (graph_binary_c1_operations_c6 N z4 z5 z6 z7 z8 z9 k0) else (bif decide (z4 = 5) then (graph_binary_c1_operations_c5 N z4 z5 z6 z7 z8 z9 k0) else (bif decide (z4 = 4) then (graph_binary_c1_operations_c4 N z4 z5 z6 z7 z8 z9 k0) else (bif decide (z4 = 3) then (graph_binary_c1_operations_c3 N z4 z5 z6 z7 z8 z9 k0) else (bif decide (z4 = 2) then (graph_operations_c2 N z4 z5 z6 z7 z8 z9 k0) else (bif decide (z4 = 1) then (graph_operations_c1 N z4 z5 z6 z7 z8 z9 k0) else (bif decide (z4 = 0) then (graph_operations_c1 N z4 z5 z6 z7 z8 z9 k0) else none)))))))))))))))))))) N a0 a5 a3 ((a3.length : Nat) : Int) 0 a1 a2 a3 a4 [] [])
def P171 : AP := ⟨[.p (.cp [.ks (ByteArray.mk #[99, 111, 110, 115, 116]), .ki .i64 0, .kb true, .fn 208 [], .fn 207 [], .ks (ByteArray.mk #[108, 101, 97, 102]), .ki .i64 0, .kb true, .fn 208 [], .fn 207 [], .ks (ByteArray.mk #[110, 111, 116]), .ki .i64 1, .kb false, .fn 209 [], .fn 210 [], .ks (ByteArray.mk #[97, 110, 100]), .ki .i64 2, .kb false, .fn 209 [], .fn 244 [.cp [.fn 213 []]], .ks (ByteArray.mk #[111, 114]), .ki .i64 2, .kb false, .fn 209 [], .fn 244 [.cp [.fn 214 []]], .ks (ByteArray.mk #[120, 111, 114]), .ki .i64 2, .kb false, .fn 209 [], .fn 244 [.cp [.fn 215 []]], .ks (ByteArray.mk #[97, 100, 100]), .ki .i64 2, .kb false, .fn 209 [], .fn 244 [.cp [.fn 216 []]], .ks (ByteArray.mk #[115, 117, 98]), .ki .i64 2, .kb false, .fn 209 [], .fn 244 [.cp [.fn 217 []]], .ks (ByteArray.mk #[109, 117, 108]), .ki .i64 2, .kb false, .fn 209 [], .fn 244 [.cp [.fn 218 []]], .ks (ByteArray.mk #[101, 113]), .ki .i64 2, .kb false, .fn 245 [], .fn 246 [.cp [.fn 220 []]], .ks (ByteArray.mk #[108, 116]), .ki .i64 2, .kb false, .fn 245 [], .fn 246 [.cp [.fn 221 []]], .ks (ByteArray.mk #[115, 108, 116]), .ki .i64 2, .kb false, .fn 245 [], .fn 246 [.cp [.fn 222 []]], .ks (ByteArray.mk #[109, 117, 120]), .ki .i64 3, .kb false, .fn 224 [], .fn 225 [], .ks (ByteArray.mk #[106, 111, 105, 110]), .ki .i64 2, .kb false, .fn 226 [], .fn 227 [], .ks (ByteArray.mk #[115, 108, 105, 99, 101]), .ki .i64 1, .kb true, .fn 228 [], .fn 229 [], .ks (ByteArray.mk #[122, 101, 120, 116]), .ki .i64 1, .kb false, .fn 230 [], .fn 231 [], .ks (ByteArray.mk #[115, 101, 120, 116]), .ki .i64 1, .kb false, .fn 230 [], .fn 232 [], .ks (ByteArray.mk #[115, 104, 108]), .ki .i64 2, .kb false, .fn 233 [], .fn 234 [], .ks (ByteArray.mk #[115, 104, 114]), .ki .i64 2, .kb false, .fn 233 [], .fn 235 []]), pL zs1, .agg [pI, pI, pL [hI], pI], pL [hI]], []⟩
def E171 (N : Nat) {R : Type} (x : P171.den) (k : KK R) : Option R := graph_applied N x.1.2.1 x.1.2.2.1.1 x.1.2.2.1.2.1 x.1.2.2.1.2.2.1 x.1.2.2.1.2.2.2.1 x.1.2.2.2.1 (fun r0 => k [] [dI r0] [])
noncomputable def F171 (N : Nat) {R : Type} : CfS R := uC (F170 N) 191 P171 (E171 N)
theorem F171_ok (N : Nat) {R : Type} : FOK (F171 N : CfS R) (runF T) :=
  uC_ok (F170_ok N) (H := H171) (Lp := (L171_1 N)) (X := noX) (rp := []) (ver := c191) rfl (LOK_of (l := [(58, [0, 1, 3, 6, 9, 10, 14, 15, 16], c191_l0)]) (by kernel_rfl) ⟨(updL_ok (O171_l0 N N)), trivial⟩) (fun x k => by kernel_rfl)
end Am
end Go.Proofs.YtfdmmnfjdifccaaGreatDoor
