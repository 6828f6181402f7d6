/- Each function that is reached as a function on plain data, and that the version comes to it. -/
import Derived.Test.YtfdmmnfjdifccaaGreatDoorTBF0
set_option linter.unusedVariables false
set_option linter.constructorNameAsVariable false
set_option maxRecDepth 100000
namespace Go.Proofs.YtfdmmnfjdifccaaGreatDoor
namespace Am
def X137 : Nat → List SP := fun p => if p = 127 then [⟨[(2, .own 0)], [(0, .arr [hI])]⟩] else []
def slices_Concat_state_int_l0 (N : Nat) {R : Type} (k0 : List (List Int) → Int → Option R) : Nat → List (List Int) → Int → List (List Int) → Int → Int → Option R
  | 0, _, _, _, _, _ => none
  | n + 1, b0, b1, b2, b3, b4 => (bif decide (b4 < b3) then ((at? b2 b4).bind fun x1 => (bif decide ((w64 (b1 + ((x1.length : Nat) : Int))) < 0) then none else (slices_Concat_state_int_l0 N k0 n b0 (w64 (b1 + ((x1.length : Nat) : Int))) b2 b3 (w64 (b4 + 1))))) else (k0 b0 b1))
def P137_l0 : SP := ⟨[(0, pL zs5), (3, pI), (9, pL zs5), (10, pI), (11, pI)], []⟩
def E137_l0 (N : Nat) {R : Type} (n : Nat) (x : P137_l0.den) (k : KS R) : Option R := slices_Concat_state_int_l0 N (fun r0 r1 => k (.ex 0) ⟨[(0, dL zs5 r0), (3, dI r1)], []⟩) n x.1.1 x.1.2.1 x.1.2.2.1 x.1.2.2.2.1 x.1.2.2.2.2.1
theorem O137_l0 (N : Nat) {R : Type} : LpG T P137_l0 (E137_l0 N (R := R)) [0, 3, 9, 10, 11] c91_l0 :=
  loop_ok (F136_ok N) (H := noH) (Lp := noL) (X := X137) (p := 58) (LOK0 (by kernel_rfl)) (fun _ _ => rfl) (fun n x k => by kernel_rfl)
noncomputable def L137_1 (N : Nat) {R : Type} : LpS R := updL noL 58 (lent' P137_l0 (E137_l0 N N))
def slices_Concat_state_int_l1 (N : Nat) {R : Type} (k0 : Option R) (k1 : List Int → Option R) : Nat → List (List Int) → Int → Int → List Int → Option R
  | 0, _, _, _, _ => none
  | n + 1, b0, b1, b2, b3 => (bif decide (b2 < b1) then ((at? b0 b2).bind fun x1 => (bif roomB (b3.length + x1.length) 8 then (slices_Concat_state_int_l1 N k0 k1 n b0 b1 (w64 (b2 + 1)) (b3 ++ x1)) else none)) else (k1 b3))
def P137_l1 : SP := ⟨[(6, .own 0), (25, pL zs5), (26, pI), (27, pI)], [(0, .arr [hI])]⟩
def E137_l1 (N : Nat) {R : Type} (n : Nat) (x : P137_l1.den) (k : KS R) : Option R := slices_Concat_state_int_l1 N (k (.ex 2) ⟨[(6, .own 0)], [(0, .arr (.e 1))]⟩) (fun r0 => k (.ex 2) ⟨[(6, .own 0)], [(0, .arr (.t [hI] r0))]⟩) n x.1.2.1 x.1.2.2.1 x.1.2.2.2.1 x.2.1
theorem O137_l1 (N : Nat) {R : Type} : LpG T P137_l1 (E137_l1 N (R := R)) [6, 25, 26, 27] c91_l1 :=
  loop_ok (F136_ok N) (H := noH) (Lp := (L137_1 N)) (X := X137) (p := 250) (LOK0 (by kernel_rfl)) (fun _ _ => rfl) (fun n x k => by kernel_rfl)
noncomputable def L137_2 (N : Nat) {R : Type} : LpS R := updL (L137_1 N) 250 (lent' P137_l1 (E137_l1 N N))
def slices_Concat_state_int (N : Nat) {R : Type} (a0 : List (List Int)) (k0 : List Int → Option R) : Option R := (slices_Concat_state_int_l0 N (fun z2 z3 => (bif growB 8 z3 then (slices_Concat_state_int_l1 N (k0 []) k0 N z2 ((z2.length : Nat) : Int) 0 []) else none)) N a0 0 a0 ((a0.length : Nat) : Int) 0)
def P137 : AP := ⟨[pL zs5], []⟩
def E137 (N : Nat) {R : Type} (x : P137.den) (k : KK R) : Option R := slices_Concat_state_int N x.1.1 (fun r0 => k [] [dL [hI] r0] [])
noncomputable def F137 (N : Nat) {R : Type} : CfS R := uC (F136 N) 91 P137 (E137 N)
theorem F137_ok (N : Nat) {R : Type} : FOK (F137 N : CfS R) (runF T) :=
  uC_ok (F136_ok N) (H := noH) (Lp := (L137_2 N)) (X := X137) (rp := []) (ver := c91) rfl (LOK_of (l := [(58, [0, 3, 9, 10, 11], c91_l0), (250, [6, 25, 26, 27], c91_l1)]) (by kernel_rfl) ⟨(updL_ne (by decide) (updL_ok (O137_l0 N N))), (updL_ok (O137_l1 N N)), trivial⟩) (fun x k => by kernel_rfl)
def graph_graphErr (N : Nat) {R : Type} (a0 : List Int) (a1 : zt2) (k0 : Int → Option R) : Option R := (graph_CheckNodes N a0 a1 (fun y1 y2 => (k0 y2)))
def P138 : AP := ⟨[pL [hI], pL zs1], []⟩
def E138 (N : Nat) {R : Type} (x : P138.den) (k : KK R) : Option R := graph_graphErr N x.1.1 x.1.2.1 (fun r0 => k [] [dI r0] [])
noncomputable def F138 (N : Nat) {R : Type} : CfS R := uC (F137 N) 150 P138 (E138 N)
theorem F138_ok (N : Nat) {R : Type} : FOK (F138 N : CfS R) (runF T) :=
  uC_ok (F137_ok N) (H := noH) (Lp := noL) (X := noX) (rp := []) (ver := c150) rfl (LOK0 (by kernel_rfl)) (fun x k => by kernel_rfl)
def graph_ValuesOf_c1 (N : Nat) {R : Type} (a0 : Int) (a1 : Int) (a2 : List Int) (k0 : Int → List Int → Option R) : Option R := ((at? a2 a0).bind fun x1 => (graph_fits N a1 x1 (fun y2 => (graph_unless N y2 2 (fun y3 => (k0 y3 a2))))))
def P139 : AP := ⟨[pI, pI, .ptr 0 0], [(0, .box [pL [hI]])]⟩
def E139 (N : Nat) {R : Type} (x : P139.den) (k : KK R) : Option R := graph_ValuesOf_c1 N x.1.1 x.1.2.1 x.2.1.1 (fun r0 r1 => k [0] [dI r0] [(0, .box [dL [hI] r1])])
noncomputable def F139 (N : Nat) {R : Type} : CfS R := uC (F138 N) 153 P139 (E139 N)
theorem F139_ok (N : Nat) {R : Type} : FOK (F139 N : CfS R) (runF T) :=
  uC_ok (F138_ok N) (H := noH) (Lp := noL) (X := noX) (rp := []) (ver := c153) rfl (LOK0 (by kernel_rfl)) (fun x k => by kernel_rfl)
def graph_each_int_v1_l0 (N : Nat) {R : Type} (k0 : Int → Int → List Int → Option R) (k1 : List Int → Option R) : Nat → List Int → Int → Int → List Int → Option R
  | 0, _, _, _, _ => none
  | n + 1, b0, b1, b2, b3 => (bif decide (b2 < b1) then ((at? b0 b2).bind fun x1 => (graph_ValuesOf_c1 N b2 x1 b3 (fun y2 y3 => (bif decide (y2 ≠ 0) then (k0 b2 y2 y3) else (graph_each_int_v1_l0 N k0 k1 n b0 b1 (w64 (b2 + 1)) y3))))) else (k1 b3))
def P140_l0 : SP := ⟨[(1, .fn 153 [.ptr 0 0]), (9, pL [hI]), (10, pI), (11, pI), (100001, .fn 153 [.ptr 0 0])], [(0, .box [pL [hI]])]⟩
def E140_l0 (N : Nat) {R : Type} (n : Nat) (x : P140_l0.den) (k : KS R) : Option R := graph_each_int_v1_l0 N (fun r0 r1 r2 => k .ret ⟨[(4, dI r0), (5, dI r1), (100001, .fn 153 [.ptr 0 0])], [(0, .box [dL [hI] r2])]⟩) (fun r0 => k (.ex 0) ⟨[(100001, .fn 153 [.ptr 0 0])], [(0, .box [dL [hI] r0])]⟩) n x.1.2.1 x.1.2.2.1 x.1.2.2.2.1 x.2.1.1
theorem O140_l0 (N : Nat) {R : Type} : LpG T P140_l0 (E140_l0 N (R := R)) [1, 9, 10, 11] c152_l0 :=
  loop_ok (F139_ok N) (H := noH) (Lp := noL) (X := noX) (p := 26) (LOK0 (by kernel_rfl)) (fun _ _ => rfl) (fun n x k => by kernel_rfl)
noncomputable def L140_1 (N : Nat) {R : Type} : LpS R := updL noL 26 (lent' P140_l0 (E140_l0 N N))
def graph_each_int_v1 (N : Nat) {R : Type} (a0 : List Int) (a1 : List Int) (k0 : Int → Int → List Int → Option R) : Option R := (graph_each_int_v1_l0 N k0 (fun z7 => (k0 0 0 z7)) N a0 ((a0.length : Nat) : Int) 0 a1)
def P140 : AP := ⟨[pL [hI], .fn 153 [.ptr 0 0]], [(0, .box [pL [hI]])]⟩
def E140 (N : Nat) {R : Type} (x : P140.den) (k : KK R) : Option R := graph_each_int_v1 N x.1.1 x.2.1.1 (fun r0 r1 r2 => k [0] [dI r0, dI r1] [(0, .box [dL [hI] r2])])
noncomputable def F140 (N : Nat) {R : Type} : CfS R := uC (F139 N) 152 P140 (E140 N)
theorem F140_ok (N : Nat) {R : Type} : FOK (F140 N : CfS R) (runF T) :=
  uC_ok (F139_ok N) (H := noH) (Lp := (L140_1 N)) (X := noX) (rp := []) (ver := c152) rfl (LOK_of (l := [(26, [1, 9, 10, 11], c152_l0)]) (by kernel_rfl) ⟨(updL_ok (O140_l0 N N)), trivial⟩) (fun x k => by kernel_rfl)
def graph_operations_c21 (N : Nat) {R : Type} (a0 : Int) (a1 : Int) (a2 : List Int) (a3 : Int) (a4 : List Int) (a5 : List Int) (k0 : Int → Option R) : Option R := ((at? a5 0).bind fun x1 => ((at? a5 1).bind fun x2 => (bif decide ((min x2 a1) < 0) then none else (k0 (shr' .i64 x1 (min x2 a1))))))
def P141 : AP := ⟨[.agg [pI, pI, pL [hI], pI], pL [hI], pL [hI]], []⟩
def E141 (N : Nat) {R : Type} (x : P141.den) (k : KK R) : Option R := graph_operations_c21 N x.1.1.1 x.1.1.2.1 x.1.1.2.2.1 x.1.1.2.2.2.1 x.1.2.1 x.1.2.2.1 (fun r0 => k [] [dI r0] [])
noncomputable def F141 (N : Nat) {R : Type} : CfS R := uC (F140 N) 235 P141 (E141 N)
theorem F141_ok (N : Nat) {R : Type} : FOK (F141 N : CfS R) (runF T) :=
  uC_ok (F140_ok N) (H := noH) (Lp := noL) (X := noX) (rp := []) (ver := c235) rfl (LOK0 (by kernel_rfl)) (fun x k => by kernel_rfl)
def graph_mask (N : Nat) {R : Type} (a0 : Int) (a1 : Int) (k0 : Int → Option R) : Option R := (bif decide (a1 < 0) then none else (k0 (andI .i64 a0 (w64 ((shl' .i64 1 a1) - 1)))))
def P142 : AP := ⟨[pI, pI], []⟩
def E142 (N : Nat) {R : Type} (x : P142.den) (k : KK R) : Option R := graph_mask N x.1.1 x.1.2.1 (fun r0 => k [] [dI r0] [])
noncomputable def F142 (N : Nat) {R : Type} : CfS R := uC (F141 N) 211 P142 (E142 N)
theorem F142_ok (N : Nat) {R : Type} : FOK (F142 N : CfS R) (runF T) :=
  uC_ok (F141_ok N) (H := noH) (Lp := noL) (X := noX) (rp := []) (ver := c211) rfl (LOK0 (by kernel_rfl)) (fun x k => by kernel_rfl)
def graph_operations_c20 (N : Nat) {R : Type} (a0 : Int) (a1 : Int) (a2 : List Int) (a3 : Int) (a4 : List Int) (a5 : List Int) (k0 : Int → Option R) : Option R := ((at? a5 0).bind fun x1 => ((at? a5 1).bind fun x2 => (bif decide ((min x2 a1) < 0) then none else (graph_mask N (shl' .i64 x1 (min x2 a1)) a1 k0))))
def P143 : AP := ⟨[.agg [pI, pI, pL [hI], pI], pL [hI], pL [hI]], []⟩
def E143 (N : Nat) {R : Type} (x : P143.den) (k : KK R) : Option R := graph_operations_c20 N x.1.1.1 x.1.1.2.1 x.1.1.2.2.1 x.1.1.2.2.2.1 x.1.2.1 x.1.2.2.1 (fun r0 => k [] [dI r0] [])
noncomputable def F143 (N : Nat) {R : Type} : CfS R := uC (F142 N) 234 P143 (E143 N)
theorem F143_ok (N : Nat) {R : Type} : FOK (F143 N : CfS R) (runF T) :=
  uC_ok (F142_ok N) (H := noH) (Lp := noL) (X := noX) (rp := []) (ver := c234) rfl (LOK0 (by kernel_rfl)) (fun x k => by kernel_rfl)
def graph_signed (N : Nat) {R : Type} (a0 : Int) (a1 : Int) (k0 : Int → Option R) : Option R := (bif decide ((w64 (a1 - 1)) < 0) then none else (bif decide ((andI .i64 (shr' .i64 a0 (w64 (a1 - 1))) 1) = 1) then (bif decide (a1 < 0) then none else (k0 (w64 (a0 - (shl' .i64 1 a1))))) else (k0 a0)))
def P144 : AP := ⟨[pI, pI], []⟩
def E144 (N : Nat) {R : Type} (x : P144.den) (k : KK R) : Option R := graph_signed N x.1.1 x.1.2.1 (fun r0 => k [] [dI r0] [])
noncomputable def F144 (N : Nat) {R : Type} : CfS R := uC (F143 N) 223 P144 (E144 N)
theorem F144_ok (N : Nat) {R : Type} : FOK (F144 N : CfS R) (runF T) :=
  uC_ok (F143_ok N) (H := noH) (Lp := noL) (X := noX) (rp := []) (ver := c223) rfl (LOK0 (by kernel_rfl)) (fun x k => by kernel_rfl)
def graph_operations_c19 (N : Nat) {R : Type} (a0 : Int) (a1 : Int) (a2 : List Int) (a3 : Int) (a4 : List Int) (a5 : List Int) (k0 : Int → Option R) : Option R := ((at? a5 0).bind fun x1 => ((at? a4 0).bind fun x2 => (graph_signed N x1 x2 (fun y3 => (graph_mask N y3 a1 k0)))))
def P145 : AP := ⟨[.agg [pI, pI, pL [hI], pI], pL [hI], pL [hI]], []⟩
def E145 (N : Nat) {R : Type} (x : P145.den) (k : KK R) : Option R := graph_operations_c19 N x.1.1.1 x.1.1.2.1 x.1.1.2.2.1 x.1.1.2.2.2.1 x.1.2.1 x.1.2.2.1 (fun r0 => k [] [dI r0] [])
noncomputable def F145 (N : Nat) {R : Type} : CfS R := uC (F144 N) 232 P145 (E145 N)
theorem F145_ok (N : Nat) {R : Type} : FOK (F145 N : CfS R) (runF T) :=
  uC_ok (F144_ok N) (H := noH) (Lp := noL) (X := noX) (rp := []) (ver := c232) rfl (LOK0 (by kernel_rfl)) (fun x k => by kernel_rfl)
def graph_operations_c18 (N : Nat) {R : Type} (a0 : Int) (a1 : Int) (a2 : List Int) (a3 : Int) (a4 : List Int) (a5 : List Int) (k0 : Int → Option R) : Option R := ((at? a5 0).bind fun x1 => (k0 x1))
def P146 : AP := ⟨[.agg [pI, pI, pL [hI], pI], pL [hI], pL [hI]], []⟩
def E146 (N : Nat) {R : Type} (x : P146.den) (k : KK R) : Option R := graph_operations_c18 N x.1.1.1 x.1.1.2.1 x.1.1.2.2.1 x.1.1.2.2.2.1 x.1.2.1 x.1.2.2.1 (fun r0 => k [] [dI r0] [])
noncomputable def F146 (N : Nat) {R : Type} : CfS R := uC (F145 N) 231 P146 (E146 N)
theorem F146_ok (N : Nat) {R : Type} : FOK (F146 N : CfS R) (runF T) :=
  uC_ok (F145_ok N) (H := noH) (Lp := noL) (X := noX) (rp := []) (ver := c231) rfl (LOK0 (by kernel_rfl)) (fun x k => by kernel_rfl)
def graph_operations_c17 (N : Nat) {R : Type} (a0 : Int) (a1 : Int) (a2 : List Int) (a3 : Int) (a4 : List Int) (a5 : List Int) (k0 : Int → Option R) : Option R := ((at? a5 0).bind fun x1 => (bif decide (a3 < 0) then none else (graph_mask N (shr' .i64 x1 a3) a1 k0)))
def P147 : AP := ⟨[.agg [pI, pI, pL [hI], pI], pL [hI], pL [hI]], []⟩
def E147 (N : Nat) {R : Type} (x : P147.den) (k : KK R) : Option R := graph_operations_c17 N x.1.1.1 x.1.1.2.1 x.1.1.2.2.1 x.1.1.2.2.2.1 x.1.2.1 x.1.2.2.1 (fun r0 => k [] [dI r0] [])
noncomputable def F147 (N : Nat) {R : Type} : CfS R := uC (F146 N) 229 P147 (E147 N)
theorem F147_ok (N : Nat) {R : Type} : FOK (F147 N : CfS R) (runF T) :=
  uC_ok (F146_ok N) (H := noH) (Lp := noL) (X := noX) (rp := []) (ver := c229) rfl (LOK0 (by kernel_rfl)) (fun x k => by kernel_rfl)
def graph_operations_c15 (N : Nat) {R : Type} (a0 : Int) (a1 : Int) (a2 : List Int) (a3 : Int) (a4 : List Int) (a5 : List Int) (k0 : Int → Option R) : Option R := ((at? a5 0).bind fun x1 => ((at? a4 1).bind fun x2 => (bif decide (x2 < 0) then none else ((at? a5 1).bind fun x3 => (k0 (orI .i64 (shl' .i64 x1 x2) x3))))))
def P148 : AP := ⟨[.agg [pI, pI, pL [hI], pI], pL [hI], pL [hI]], []⟩
def E148 (N : Nat) {R : Type} (x : P148.den) (k : KK R) : Option R := graph_operations_c15 N x.1.1.1 x.1.1.2.1 x.1.1.2.2.1 x.1.1.2.2.2.1 x.1.2.1 x.1.2.2.1 (fun r0 => k [] [dI r0] [])
noncomputable def F148 (N : Nat) {R : Type} : CfS R := uC (F147 N) 227 P148 (E148 N)
theorem F148_ok (N : Nat) {R : Type} : FOK (F148 N : CfS R) (runF T) :=
  uC_ok (F147_ok N) (H := noH) (Lp := noL) (X := noX) (rp := []) (ver := c227) rfl (LOK0 (by kernel_rfl)) (fun x k => by kernel_rfl)
def graph_operations_c13 (N : Nat) {R : Type} (a0 : Int) (a1 : Int) (a2 : List Int) (a3 : Int) (a4 : List Int) (a5 : List Int) (k0 : Int → Option R) : Option R := ((at? a5 0).bind fun x1 => (bif decide (x1 = 1) then ((at? a5 1).bind fun x2 => (k0 x2)) else ((at? a5 2).bind fun x3 => (k0 x3))))
def P149 : AP := ⟨[.agg [pI, pI, pL [hI], pI], pL [hI], pL [hI]], []⟩
def E149 (N : Nat) {R : Type} (x : P149.den) (k : KK R) : Option R := graph_operations_c13 N x.1.1.1 x.1.1.2.1 x.1.1.2.2.1 x.1.1.2.2.2.1 x.1.2.1 x.1.2.2.1 (fun r0 => k [] [dI r0] [])
noncomputable def F149 (N : Nat) {R : Type} : CfS R := uC (F148 N) 225 P149 (E149 N)
theorem F149_ok (N : Nat) {R : Type} : FOK (F149 N : CfS R) (runF T) :=
  uC_ok (F148_ok N) (H := noH) (Lp := noL) (X := noX) (rp := []) (ver := c225) rfl (LOK0 (by kernel_rfl)) (fun x k => by kernel_rfl)
def graph_operations_c11 (N : Nat) {R : Type} (a0 : Int) (a1 : Int) (a2 : Int) (k0 : Bool → Option R) : Option R := (graph_signed N a0 a2 (fun y1 => (graph_signed N a1 a2 (fun y2 => (k0 (decide (y1 < y2)))))))
def P150 : AP := ⟨[pI, pI, pI], []⟩
def E150 (N : Nat) {R : Type} (x : P150.den) (k : KK R) : Option R := graph_operations_c11 N x.1.1 x.1.2.1 x.1.2.2.1 (fun r0 => k [] [dB r0] [])
noncomputable def F150 (N : Nat) {R : Type} : CfS R := uC (F149 N) 222 P150 (E150 N)
theorem F150_ok (N : Nat) {R : Type} : FOK (F150 N : CfS R) (runF T) :=
  uC_ok (F149_ok N) (H := noH) (Lp := noL) (X := noX) (rp := []) (ver := c222) rfl (LOK0 (by kernel_rfl)) (fun x k => by kernel_rfl)
def graph_truth (N : Nat) {R : Type} (a0 : Bool) (k0 : Int → Option R) : Option R := (bif a0 then (k0 1) else (k0 0))
def P151 : AP := ⟨[pB], []⟩
def E151 (N : Nat) {R : Type} (x : P151.den) (k : KK R) : Option R := graph_truth N x.1.1 (fun r0 => k [] [dI r0] [])
noncomputable def F151 (N : Nat) {R : Type} : CfS R := uC (F150 N) 247 P151 (E151 N)
theorem F151_ok (N : Nat) {R : Type} : FOK (F151 N : CfS R) (runF T) :=
  uC_ok (F150_ok N) (H := noH) (Lp := noL) (X := noX) (rp := []) (ver := c247) rfl (LOK0 (by kernel_rfl)) (fun x k => by kernel_rfl)
def graph_relation_c1 (N : Nat) {R : Type} (a0 : Int) (a1 : Int) (a2 : List Int) (a3 : Int) (a4 : List Int) (a5 : List Int) (k0 : Int → Option R) : Option R := ((at? a5 0).bind fun x1 => ((at? a5 1).bind fun x2 => ((at? a4 0).bind fun x3 => (graph_operations_c11 N x1 x2 x3 (fun y4 => (graph_truth N y4 k0))))))
def P152 : AP := ⟨[.agg [pI, pI, pL [hI], pI], pL [hI], pL [hI], .p (.cp [.fn 222 []])], []⟩
def E152 (N : Nat) {R : Type} (x : P152.den) (k : KK R) : Option R := graph_relation_c1 N x.1.1.1 x.1.1.2.1 x.1.1.2.2.1 x.1.1.2.2.2.1 x.1.2.1 x.1.2.2.1 (fun r0 => k [] [dI r0] [])
noncomputable def F152 (N : Nat) {R : Type} : CfS R := uC (F151 N) 246 P152 (E152 N)
theorem F152_ok (N : Nat) {R : Type} : FOK (F152 N : CfS R) (runF T) :=
  uC_ok (F151_ok N) (H := noH) (Lp := noL) (X := noX) (rp := []) (ver := c246) rfl (LOK0 (by kernel_rfl)) (fun x k => by kernel_rfl)
def graph_operations_c10 (N : Nat) {R : Type} (a0 : Int) (a1 : Int) (a2 : Int) (k0 : Bool → Option R) : Option R := (k0 (decide (a0 < a1)))
def P153 : AP := ⟨[pI, pI, pI], []⟩
def E153 (N : Nat) {R : Type} (x : P153.den) (k : KK R) : Option R := graph_operations_c10 N x.1.1 x.1.2.1 x.1.2.2.1 (fun r0 => k [] [dB r0] [])
noncomputable def F153 (N : Nat) {R : Type} : CfS R := uC (F152 N) 221 P153 (E153 N)
theorem F153_ok (N : Nat) {R : Type} : FOK (F153 N : CfS R) (runF T) :=
  uC_ok (F152_ok N) (H := noH) (Lp := noL) (X := noX) (rp := []) (ver := c221) rfl (LOK0 (by kernel_rfl)) (fun x k => by kernel_rfl)
def graph_relation_c1_v1 (N : Nat) {R : Type} (a0 : Int) (a1 : Int) (a2 : List Int) (a3 : Int) (a4 : List Int) (a5 : List Int) (k0 : Int → Option R) : Option R := ((at? a5 0).bind fun x1 => ((at? a5 1).bind fun x2 => ((at? a4 0).bind fun x3 => (graph_operations_c10 N x1 x2 x3 (fun y4 => (graph_truth N y4 k0))))))
def P154 : AP := ⟨[.agg [pI, pI, pL [hI], pI], pL [hI], pL [hI], .p (.cp [.fn 221 []])], []⟩
def E154 (N : Nat) {R : Type} (x : P154.den) (k : KK R) : Option R := graph_relation_c1_v1 N x.1.1.1 x.1.1.2.1 x.1.1.2.2.1 x.1.1.2.2.2.1 x.1.2.1 x.1.2.2.1 (fun r0 => k [] [dI r0] [])
noncomputable def F154 (N : Nat) {R : Type} : CfS R := uC (F153 N) 246 P154 (E154 N)
theorem F154_ok (N : Nat) {R : Type} : FOK (F154 N : CfS R) (runF T) :=
  uC_ok (F153_ok N) (H := noH) (Lp := noL) (X := noX) (rp := []) (ver := c246) rfl (LOK0 (by kernel_rfl)) (fun x k => by kernel_rfl)
def graph_operations_c9 (N : Nat) {R : Type} (a0 : Int) (a1 : Int) (a2 : Int) (k0 : Bool → Option R) : Option R := (k0 (decide (a0 = a1)))
def P155 : AP := ⟨[pI, pI, pI], []⟩
def E155 (N : Nat) {R : Type} (x : P155.den) (k : KK R) : Option R := graph_operations_c9 N x.1.1 x.1.2.1 x.1.2.2.1 (fun r0 => k [] [dB r0] [])
noncomputable def F155 (N : Nat) {R : Type} : CfS R := uC (F154 N) 220 P155 (E155 N)
theorem F155_ok (N : Nat) {R : Type} : FOK (F155 N : CfS R) (runF T) :=
  uC_ok (F154_ok N) (H := noH) (Lp := noL) (X := noX) (rp := []) (ver := c220) rfl (LOK0 (by kernel_rfl)) (fun x k => by kernel_rfl)
def graph_relation_c1_v2 (N : Nat) {R : Type} (a0 : Int) (a1 : Int) (a2 : List Int) (a3 : Int) (a4 : List Int) (a5 : List Int) (k0 : Int → Option R) : Option R := ((at? a5 0).bind fun x1 => ((at? a5 1).bind fun x2 => ((at? a4 0).bind fun x3 => (graph_operations_c9 N x1 x2 x3 (fun y4 => (graph_truth N y4 k0))))))
def P156 : AP := ⟨[.agg [pI, pI, pL [hI], pI], pL [hI], pL [hI], .p (.cp [.fn 220 []])], []⟩
def E156 (N : Nat) {R : Type} (x : P156.den) (k : KK R) : Option R := graph_relation_c1_v2 N x.1.1.1 x.1.1.2.1 x.1.1.2.2.1 x.1.1.2.2.2.1 x.1.2.1 x.1.2.2.1 (fun r0 => k [] [dI r0] [])
noncomputable def F156 (N : Nat) {R : Type} : CfS R := uC (F155 N) 246 P156 (E156 N)
theorem F156_ok (N : Nat) {R : Type} : FOK (F156 N : CfS R) (runF T) :=
  uC_ok (F155_ok N) (H := noH) (Lp := noL) (X := noX) (rp := []) (ver := c246) rfl (LOK0 (by kernel_rfl)) (fun x k => by kernel_rfl)
def graph_operations_c8 (N : Nat) {R : Type} (a0 : Int) (a1 : Int) (k0 : Int → Option R) : Option R := (k0 (w64 (a0 * a1)))
def P157 : AP := ⟨[pI, pI], []⟩
def E157 (N : Nat) {R : Type} (x : P157.den) (k : KK R) : Option R := graph_operations_c8 N x.1.1 x.1.2.1 (fun r0 => k [] [dI r0] [])
noncomputable def F157 (N : Nat) {R : Type} : CfS R := uC (F156 N) 218 P157 (E157 N)
theorem F157_ok (N : Nat) {R : Type} : FOK (F157 N : CfS R) (runF T) :=
  uC_ok (F156_ok N) (H := noH) (Lp := noL) (X := noX) (rp := []) (ver := c218) rfl (LOK0 (by kernel_rfl)) (fun x k => by kernel_rfl)
def graph_binary_c1 (N : Nat) {R : Type} (a0 : Int) (a1 : Int) (a2 : List Int) (a3 : Int) (a4 : List Int) (a5 : List Int) (k0 : Int → Option R) : Option R := ((at? a5 0).bind fun x1 => ((at? a5 1).bind fun x2 => (graph_operations_c8 N x1 x2 (fun y3 => (graph_mask N y3 a1 k0)))))
def P158 : AP := ⟨[.agg [pI, pI, pL [hI], pI], pL [hI], pL [hI], .p (.cp [.fn 218 []])], []⟩
def E158 (N : Nat) {R : Type} (x : P158.den) (k : KK R) : Option R := graph_binary_c1 N x.1.1.1 x.1.1.2.1 x.1.1.2.2.1 x.1.1.2.2.2.1 x.1.2.1 x.1.2.2.1 (fun r0 => k [] [dI r0] [])
noncomputable def F158 (N : Nat) {R : Type} : CfS R := uC (F157 N) 244 P158 (E158 N)
theorem F158_ok (N : Nat) {R : Type} : FOK (F158 N : CfS R) (runF T) :=
  uC_ok (F157_ok N) (H := noH) (Lp := noL) (X := noX) (rp := []) (ver := c244) rfl (LOK0 (by kernel_rfl)) (fun x k => by kernel_rfl)
def graph_operations_c7 (N : Nat) {R : Type} (a0 : Int) (a1 : Int) (k0 : Int → Option R) : Option R := (k0 (w64 (a0 - a1)))
def P159 : AP := ⟨[pI, pI], []⟩
def E159 (N : Nat) {R : Type} (x : P159.den) (k : KK R) : Option R := graph_operations_c7 N x.1.1 x.1.2.1 (fun r0 => k [] [dI r0] [])
noncomputable def F159 (N : Nat) {R : Type} : CfS R := uC (F158 N) 217 P159 (E159 N)
theorem F159_ok (N : Nat) {R : Type} : FOK (F159 N : CfS R) (runF T) :=
  uC_ok (F158_ok N) (H := noH) (Lp := noL) (X := noX) (rp := []) (ver := c217) rfl (LOK0 (by kernel_rfl)) (fun x k => by kernel_rfl)
def graph_binary_c1_v1 (N : Nat) {R : Type} (a0 : Int) (a1 : Int) (a2 : List Int) (a3 : Int) (a4 : List Int) (a5 : List Int) (k0 : Int → Option R) : Option R := ((at? a5 0).bind fun x1 => ((at? a5 1).bind fun x2 => (graph_operations_c7 N x1 x2 (fun y3 => (graph_mask N y3 a1 k0)))))
def P160 : AP := ⟨[.agg [pI, pI, pL [hI], pI], pL [hI], pL [hI], .p (.cp [.fn 217 []])], []⟩
def E160 (N : Nat) {R : Type} (x : P160.den) (k : KK R) : Option R := graph_binary_c1_v1 N x.1.1.1 x.1.1.2.1 x.1.1.2.2.1 x.1.1.2.2.2.1 x.1.2.1 x.1.2.2.1 (fun r0 => k [] [dI r0] [])
noncomputable def F160 (N : Nat) {R : Type} : CfS R := uC (F159 N) 244 P160 (E160 N)
theorem F160_ok (N : Nat) {R : Type} : FOK (F160 N : CfS R) (runF T) :=
  uC_ok (F159_ok N) (H := noH) (Lp := noL) (X := noX) (rp := []) (ver := c244) rfl (LOK0 (by kernel_rfl)) (fun x k => by kernel_rfl)
def graph_operations_c6 (N : Nat) {R : Type} (a0 : Int) (a1 : Int) (k0 : Int → Option R) : Option R := (k0 (w64 (a0 + a1)))
def P161 : AP := ⟨[pI, pI], []⟩
def E161 (N : Nat) {R : Type} (x : P161.den) (k : KK R) : Option R := graph_operations_c6 N x.1.1 x.1.2.1 (fun r0 => k [] [dI r0] [])
noncomputable def F161 (N : Nat) {R : Type} : CfS R := uC (F160 N) 216 P161 (E161 N)
theorem F161_ok (N : Nat) {R : Type} : FOK (F161 N : CfS R) (runF T) :=
  uC_ok (F160_ok N) (H := noH) (Lp := noL) (X := noX) (rp := []) (ver := c216) rfl (LOK0 (by kernel_rfl)) (fun x k => by kernel_rfl)
def graph_binary_c1_v2 (N : Nat) {R : Type} (a0 : Int) (a1 : Int) (a2 : List Int) (a3 : Int) (a4 : List Int) (a5 : List Int) (k0 : Int → Option R) : Option R := ((at? a5 0).bind fun x1 => ((at? a5 1).bind fun x2 => (graph_operations_c6 N x1 x2 (fun y3 => (graph_mask N y3 a1 k0)))))
def P162 : AP := ⟨[.agg [pI, pI, pL [hI], pI], pL [hI], pL [hI], .p (.cp [.fn 216 []])], []⟩
def E162 (N : Nat) {R : Type} (x : P162.den) (k : KK R) : Option R := graph_binary_c1_v2 N x.1.1.1 x.1.1.2.1 x.1.1.2.2.1 x.1.1.2.2.2.1 x.1.2.1 x.1.2.2.1 (fun r0 => k [] [dI r0] [])
noncomputable def F162 (N : Nat) {R : Type} : CfS R := uC (F161 N) 244 P162 (E162 N)
theorem F162_ok (N : Nat) {R : Type} : FOK (F162 N : CfS R) (runF T) :=
  uC_ok (F161_ok N) (H := noH) (Lp := noL) (X := noX) (rp := []) (ver := c244) rfl (LOK0 (by kernel_rfl)) (fun x k => by kernel_rfl)
def graph_operations_c5 (N : Nat) {R : Type} (a0 : Int) (a1 : Int) (k0 : Int → Option R) : Option R := (k0 (xorI .i64 a0 a1))
def P163 : AP := ⟨[pI, pI], []⟩
def E163 (N : Nat) {R : Type} (x : P163.den) (k : KK R) : Option R := graph_operations_c5 N x.1.1 x.1.2.1 (fun r0 => k [] [dI r0] [])
noncomputable def F163 (N : Nat) {R : Type} : CfS R := uC (F162 N) 215 P163 (E163 N)
theorem F163_ok (N : Nat) {R : Type} : FOK (F163 N : CfS R) (runF T) :=
  uC_ok (F162_ok N) (H := noH) (Lp := noL) (X := noX) (rp := []) (ver := c215) rfl (LOK0 (by kernel_rfl)) (fun x k => by kernel_rfl)
def graph_binary_c1_v3 (N : Nat) {R : Type} (a0 : Int) (a1 : Int) (a2 : List Int) (a3 : Int) (a4 : List Int) (a5 : List Int) (k0 : Int → Option R) : Option R := ((at? a5 0).bind fun x1 => ((at? a5 1).bind fun x2 => (graph_operations_c5 N x1 x2 (fun y3 => (graph_mask N y3 a1 k0)))))
def P164 : AP := ⟨[.agg [pI, pI, pL [hI], pI], pL [hI], pL [hI], .p (.cp [.fn 215 []])], []⟩
def E164 (N : Nat) {R : Type} (x : P164.den) (k : KK R) : Option R := graph_binary_c1_v3 N x.1.1.1 x.1.1.2.1 x.1.1.2.2.1 x.1.1.2.2.2.1 x.1.2.1 x.1.2.2.1 (fun r0 => k [] [dI r0] [])
noncomputable def F164 (N : Nat) {R : Type} : CfS R := uC (F163 N) 244 P164 (E164 N)
theorem F164_ok (N : Nat) {R : Type} : FOK (F164 N : CfS R) (runF T) :=
  uC_ok (F163_ok N) (H := noH) (Lp := noL) (X := noX) (rp := []) (ver := c244) rfl (LOK0 (by kernel_rfl)) (fun x k => by kernel_rfl)
def graph_operations_c4 (N : Nat) {R : Type} (a0 : Int) (a1 : Int) (k0 : Int → Option R) : Option R := (k0 (orI .i64 a0 a1))
def P165 : AP := ⟨[pI, pI], []⟩
def E165 (N : Nat) {R : Type} (x : P165.den) (k : KK R) : Option R := graph_operations_c4 N x.1.1 x.1.2.1 (fun r0 => k [] [dI r0] [])
noncomputable def F165 (N : Nat) {R : Type} : CfS R := uC (F164 N) 214 P165 (E165 N)
theorem F165_ok (N : Nat) {R : Type} : FOK (F165 N : CfS R) (runF T) :=
  uC_ok (F164_ok N) (H := noH) (Lp := noL) (X := noX) (rp := []) (ver := c214) rfl (LOK0 (by kernel_rfl)) (fun x k => by kernel_rfl)
def graph_binary_c1_v4 (N : Nat) {R : Type} (a0 : Int) (a1 : Int) (a2 : List Int) (a3 : Int) (a4 : List Int) (a5 : List Int) (k0 : Int → Option R) : Option R := ((at? a5 0).bind fun x1 => ((at? a5 1).bind fun x2 => (graph_operations_c4 N x1 x2 (fun y3 => (graph_mask N y3 a1 k0)))))
def P166 : AP := ⟨[.agg [pI, pI, pL [hI], pI], pL [hI], pL [hI], .p (.cp [.fn 214 []])], []⟩
def E166 (N : Nat) {R : Type} (x : P166.den) (k : KK R) : Option R := graph_binary_c1_v4 N x.1.1.1 x.1.1.2.1 x.1.1.2.2.1 x.1.1.2.2.2.1 x.1.2.1 x.1.2.2.1 (fun r0 => k [] [dI r0] [])
noncomputable def F166 (N : Nat) {R : Type} : CfS R := uC (F165 N) 244 P166 (E166 N)
theorem F166_ok (N : Nat) {R : Type} : FOK (F166 N : CfS R) (runF T) :=
  uC_ok (F165_ok N) (H := noH) (Lp := noL) (X := noX) (rp := []) (ver := c244) rfl (LOK0 (by kernel_rfl)) (fun x k => by kernel_rfl)
def graph_operations_c3 (N : Nat) {R : Type} (a0 : Int) (a1 : Int) (k0 : Int → Option R) : Option R := (k0 (andI .i64 a0 a1))
def P167 : AP := ⟨[pI, pI], []⟩
def E167 (N : Nat) {R : Type} (x : P167.den) (k : KK R) : Option R := graph_operations_c3 N x.1.1 x.1.2.1 (fun r0 => k [] [dI r0] [])
noncomputable def F167 (N : Nat) {R : Type} : CfS R := uC (F166 N) 213 P167 (E167 N)
theorem F167_ok (N : Nat) {R : Type} : FOK (F167 N : CfS R) (runF T) :=
  uC_ok (F166_ok N) (H := noH) (Lp := noL) (X := noX) (rp := []) (ver := c213) rfl (LOK0 (by kernel_rfl)) (fun x k => by kernel_rfl)
def graph_binary_c1_v5 (N : Nat) {R : Type} (a0 : Int) (a1 : Int) (a2 : List Int) (a3 : Int) (a4 : List Int) (a5 : List Int) (k0 : Int → Option R) : Option R := ((at? a5 0).bind fun x1 => ((at? a5 1).bind fun x2 => (graph_operations_c3 N x1 x2 (fun y3 => (graph_mask N y3 a1 k0)))))
def P168 : AP := ⟨[.agg [pI, pI, pL [hI], pI], pL [hI], pL [hI], .p (.cp [.fn 213 []])], []⟩
def E168 (N : Nat) {R : Type} (x : P168.den) (k : KK R) : Option R := graph_binary_c1_v5 N x.1.1.1 x.1.1.2.1 x.1.1.2.2.1 x.1.1.2.2.2.1 x.1.2.1 x.1.2.2.1 (fun r0 => k [] [dI r0] [])
noncomputable def F168 (N : Nat) {R : Type} : CfS R := uC (F167 N) 244 P168 (E168 N)
theorem F168_ok (N : Nat) {R : Type} : FOK (F168 N : CfS R) (runF T) :=
  uC_ok (F167_ok N) (H := noH) (Lp := noL) (X := noX) (rp := []) (ver := c244) rfl (LOK0 (by kernel_rfl)) (fun x k => by kernel_rfl)
def graph_operations_c2 (N : Nat) {R : Type} (a0 : Int) (a1 : Int) (a2 : List Int) (a3 : Int) (a4 : List Int) (a5 : List Int) (k0 : Int → Option R) : Option R := ((at? a5 0).bind fun x1 => (graph_mask N (notI .i64 x1) a1 k0))
def P169 : AP := ⟨[.agg [pI, pI, pL [hI], pI], pL [hI], pL [hI]], []⟩
def E169 (N : Nat) {R : Type} (x : P169.den) (k : KK R) : Option R := graph_operations_c2 N x.1.1.1 x.1.1.2.1 x.1.1.2.2.1 x.1.1.2.2.2.1 x.1.2.1 x.1.2.2.1 (fun r0 => k [] [dI r0] [])
noncomputable def F169 (N : Nat) {R : Type} : CfS R := uC (F168 N) 210 P169 (E169 N)
theorem F169_ok (N : Nat) {R : Type} : FOK (F169 N : CfS R) (runF T) :=
  uC_ok (F168_ok N) (H := noH) (Lp := noL) (X := noX) (rp := []) (ver := c210) rfl (LOK0 (by kernel_rfl)) (fun x k => by kernel_rfl)
def graph_operations_c1 (N : Nat) {R : Type} (a0 : Int) (a1 : Int) (a2 : List Int) (a3 : Int) (a4 : List Int) (a5 : List Int) (k0 : Int → Option R) : Option R := (k0 a3)
def P170 : AP := ⟨[.agg [pI, pI, pL [hI], pI], pL [hI], pL [hI]], []⟩
def E170 (N : Nat) {R : Type} (x : P170.den) (k : KK R) : Option R := graph_operations_c1 N x.1.1.1 x.1.1.2.1 x.1.1.2.2.1 x.1.1.2.2.2.1 x.1.2.1 x.1.2.2.1 (fun r0 => k [] [dI r0] [])
noncomputable def F170 (N : Nat) {R : Type} : CfS R := uC (F169 N) 207 P170 (E170 N)
theorem F170_ok (N : Nat) {R : Type} : FOK (F170 N : CfS R) (runF T) :=
  uC_ok (F169_ok N) (H := noH) (Lp := noL) (X := noX) (rp := []) (ver := c207) rfl (LOK0 (by kernel_rfl)) (fun x k => by kernel_rfl)
def H171 : Nat → Option (List Sh) := fun n => if n = 19000 then some [hI] else if n = 26000 then some [hI] else none
def graph_applied_l0 (N : Nat) {R : Type} (k0 : ByteArray → ByteArray → ByteArray → ByteArray → ByteArray → ByteArray → ByteArray → ByteArray → ByteArray → Int → Int → List Int → Int → Option R) (k1 : ByteArray → ByteArray → ByteArray → ByteArray → ByteArray → ByteArray → ByteArray → ByteArray → ByteArray → Int → Int → List Int → Int → List Int → List Int → Option R) : Nat → ByteArray → ByteArray → ByteArray → ByteArray → ByteArray → ByteArray → ByteArray → ByteArray → ByteArray → zt2 → List Int → List Int → Int → Int → Int → Int → List Int → Int → List Int → List Int → Option R
  | 0, _, _, _, _, _, _, _, _, _, _, _, _, _, _, _, _, _, _, _, _ => none
  | n + 1, b0, b1, b2, b3, b4, b5, b6, b7, b8, b9, b10, b11, b12, b13, b14, b15, b16, b17, b18, b19 => (bif decide (b13 < b12) then ((at? b11 b13).bind fun x1 => ((at? b9 x1).bind fun x2 => (bif roomB (b18.length + 1) 8 then ((at? b10 x1).bind fun x3 => (bif roomB (b19.length + 1) 8 then (graph_applied_l0 N k0 k1 n b0 b1 b2 b3 b4 b5 b6 b7 b8 b9 b10 b11 b12 (w64 (b13 + 1)) b14 b15 b16 b17 (b18 ++ [x2.2.1]) (b19 ++ [x3])) else none)) else none))) else (k1 b0 b1 b2 b3 b4 b5 b6 b7 b8 b14 b15 b16 b17 b18 b19))
def P171_l0 : SP := ⟨[(0, .p (.cp [.ks (ByteArray.mk #[99, 111, 110, 115, 116]), .ki .i64 0, .kb true, .fn 208 [], .fn 207 [], .ks (ByteArray.mk #[108, 101, 97, 102]), .ki .i64 0, .kb true, .fn 208 [], .fn 207 [], .ks (ByteArray.mk #[110, 111, 116]), .ki .i64 1, .kb false, .fn 209 [], .fn 210 [], .s .s, .ki .i64 2, .kb false, .fn 209 [], .fn 244 [.cp [.fn 213 []]], .s .s, .ki .i64 2, .kb false, .fn 209 [], .fn 244 [.cp [.fn 214 []]], .s .s, .ki .i64 2, .kb false, .fn 209 [], .fn 244 [.cp [.fn 215 []]], .s .s, .ki .i64 2, .kb false, .fn 209 [], .fn 244 [.cp [.fn 216 []]], .s .s, .ki .i64 2, .kb false, .fn 209 [], .fn 244 [.cp [.fn 217 []]], .s .s, .ki .i64 2, .kb false, .fn 209 [], .fn 244 [.cp [.fn 218 []]], .s .s, .ki .i64 2, .kb false, .fn 245 [], .fn 246 [.cp [.fn 220 []]], .s .s, .ki .i64 2, .kb false, .fn 245 [], .fn 246 [.cp [.fn 221 []]], .s .s, .ki .i64 2, .kb false, .fn 245 [], .fn 246 [.cp [.fn 222 []]], .ks (ByteArray.mk #[109, 117, 120]), .ki .i64 3, .kb false, .fn 224 [], .fn 225 [], .ks (ByteArray.mk #[106, 111, 105, 110]), .ki .i64 2, .kb false, .fn 226 [], .fn 227 [], .ks (ByteArray.mk #[115, 108, 105, 99, 101]), .ki .i64 1, .kb true, .fn 228 [], .fn 229 [], .ks (ByteArray.mk #[122, 101, 120, 116]), .ki .i64 1, .kb false, .fn 230 [], .fn 231 [], .ks (ByteArray.mk #[115, 101, 120, 116]), .ki .i64 1, .kb false, .fn 230 [], .fn 232 [], .ks (ByteArray.mk #[115, 104, 108]), .ki .i64 2, .kb false, .fn 233 [], .fn 234 [], .ks (ByteArray.mk #[115, 104, 114]), .ki .i64 2, .kb false, .fn 233 [], .fn 235 []])), (1, pL zs1), (3, pL [hI]), (6, .ptr 0 0), (9, .own 1), (10, .own 2), (14, pL [hI]), (15, pI), (16, pI)], [(0, .box [pI, pI, pL [hI], pI]), (1, .arr [hI]), (2, .arr [hI])]⟩
def E171_l0 (N : Nat) {R : Type} (n : Nat) (x : P171_l0.den) (k : KS R) : Option R := graph_applied_l0 N (fun r0 r1 r2 r3 r4 r5 r6 r7 r8 r9 r10 r11 r12 => k (.ex 0) ⟨[(0, .p (.cp [.s (ByteArray.mk #[99, 111, 110, 115, 116]), .i .i64 0, .b true, .fn 208 [], .fn 207 [], .s (ByteArray.mk #[108, 101, 97, 102]), .i .i64 0, .b true, .fn 208 [], .fn 207 [], .s (ByteArray.mk #[110, 111, 116]), .i .i64 1, .b false, .fn 209 [], .fn 210 [], .s r0, .i .i64 2, .b false, .fn 209 [], .fn 244 [.cp [.fn 213 []]], .s r1, .i .i64 2, .b false, .fn 209 [], .fn 244 [.cp [.fn 214 []]], .s r2, .i .i64 2, .b false, .fn 209 [], .fn 244 [.cp [.fn 215 []]], .s r3, .i .i64 2, .b false, .fn 209 [], .fn 244 [.cp [.fn 216 []]], .s r4, .i .i64 2, .b false, .fn 209 [], .fn 244 [.cp [.fn 217 []]], .s r5, .i .i64 2, .b false, .fn 209 [], .fn 244 [.cp [.fn 218 []]], .s r6, .i .i64 2, .b false, .fn 245 [], .fn 246 [.cp [.fn 220 []]], .s r7, .i .i64 2, .b false, .fn 245 [], .fn 246 [.cp [.fn 221 []]], .s r8, .i .i64 2, .b false, .fn 245 [], .fn 246 [.cp [.fn 222 []]], .s (ByteArray.mk #[109, 117, 120]), .i .i64 3, .b false, .fn 224 [], .fn 225 [], .s (ByteArray.mk #[106, 111, 105, 110]), .i .i64 2, .b false, .fn 226 [], .fn 227 [], .s (ByteArray.mk #[115, 108, 105, 99, 101]), .i .i64 1, .b true, .fn 228 [], .fn 229 [], .s (ByteArray.mk #[122, 101, 120, 116]), .i .i64 1, .b false, .fn 230 [], .fn 231 [], .s (ByteArray.mk #[115, 101, 120, 116]), .i .i64 1, .b false, .fn 230 [], .fn 232 [], .s (ByteArray.mk #[115, 104, 108]), .i .i64 2, .b false, .fn 233 [], .fn 234 [], .s (ByteArray.mk #[115, 104, 114]), .i .i64 2, .b false, .fn 233 [], .fn 235 []])), (6, .ptr 0 0), (9, .own 1), (10, .own 2)], [(0, .box [dI r9, dI r10, dL [hI] r11, dI r12]), (1, .arr (.e 1)), (2, .arr (.e 1))]⟩) (fun r0 r1 r2 r3 r4 r5 r6 r7 r8 r9 r10 r11 r12 r13 r14 => k (.ex 0) ⟨[(0, .p (.cp [.s (ByteArray.mk #[99, 111, 110, 115, 116]), .i .i64 0, .b true, .fn 208 [], .fn 207 [], .s (ByteArray.mk #[108, 101, 97, 102]), .i .i64 0, .b true, .fn 208 [], .fn 207 [], .s (ByteArray.mk #[110, 111, 116]), .i .i64 1, .b false, .fn 209 [], .fn 210 [], .s r0, .i .i64 2, .b false, .fn 209 [], .fn 244 [.cp [.fn 213 []]], .s r1, .i .i64 2, .b false, .fn 209 [], .fn 244 [.cp [.fn 214 []]], .s r2, .i .i64 2, .b false, .fn 209 [], .fn 244 [.cp [.fn 215 []]], .s r3, .i .i64 2, .b false, .fn 209 [], .fn 244 [.cp [.fn 216 []]], .s r4, .i .i64 2, .b false, .fn 209 [], .fn 244 [.cp [.fn 217 []]], .s r5, .i .i64 2, .b false, .fn 209 [], .fn 244 [.cp [.fn 218 []]], .s r6, .i .i64 2, .b false, .fn 245 [], .fn 246 [.cp [.fn 220 []]], .s r7, .i .i64 2, .b false, .fn 245 [], .fn 246 [.cp [.fn 221 []]], .s r8, .i .i64 2, .b false, .fn 245 [], .fn 246 [.cp [.fn 222 []]], .s (ByteArray.mk #[109, 117, 120]), .i .i64 3, .b false, .fn 224 [], .fn 225 [], .s (ByteArray.mk #[106, 111, 105, 110]), .i .i64 2, .b false, .fn 226 [], .fn 227 [], .s (ByteArray.mk #[115, 108, 105, 99, 101]), .i .i64 1, .b true, .fn 228 [], .fn 229 [], .s (ByteArray.mk #[122, 101, 120, 116]), .i .i64 1, .b false, .fn 230 [], .fn 231 [], .s (ByteArray.mk #[115, 101, 120, 116]), .i .i64 1, .b false, .fn 230 [], .fn 232 [], .s (ByteArray.mk #[115, 104, 108]), .i .i64 2, .b false, .fn 233 [], .fn 234 [], .s (ByteArray.mk #[115, 104, 114]), .i .i64 2, .b false, .fn 233 [], .fn 235 []])), (6, .ptr 0 0), (9, .own 1), (10, .own 2)], [(0, .box [dI r9, dI r10, dL [hI] r11, dI r12]), (1, .arr (.t [hI] r13)), (2, .arr (.t [hI] r14))]⟩) n x.1.1.2.2.2.2.2.2.2.2.2.2.2.2.2.2.2.1 x.1.1.2.2.2.2.2.2.2.2.2.2.2.2.2.2.2.2.2.2.2.2.1 x.1.1.2.2.2.2.2.2.2.2.2.2.2.2.2.2.2.2.2.2.2.2.2.2.2.2.2.1 x.1.1.2.2.2.2.2.2.2.2.2.2.2.2.2.2.2.2.2.2.2.2.2.2.2.2.2.2.2.2.2.2.1 x.1.1.2.2.2.2.2.2.2.2.2.2.2.2.2.2.2.2.2.2.2.2.2.2.2.2.2.2.2.2.2.2.2.2.2.2.2.1 x.1.1.2.2.2.2.2.2.2.2.2.2.2.2.2.2.2.2.2.2.2.2.2.2.2.2.2.2.2.2.2.2.2.2.2.2.2.2.2.2.2.2.1 x.1.1.2.2.2.2.2.2.2.2.2.2.2.2.2.2.2.2.2.2.2.2.2.2.2.2.2.2.2.2.2.2.2.2.2.2.2.2.2.2.2.2.2.2.2.2.2.1 x.1.1.2.2.2.2.2.2.2.2.2.2.2.2.2.2.2.2.2.2.2.2.2.2.2.2.2.2.2.2.2.2.2.2.2.2.2.2.2.2.2.2.2.2.2.2.2.2.2.2.2.2.1 x.1.1.2.2.2.2.2.2.2.2.2.2.2.2.2.2.2.2.2.2.2.2.2.2.2.2.2.2.2.2.2.2.2.2.2.2.2.2.2.2.2.2.2.2.2.2.2.2.2.2.2.2.2.2.2.2.2.1 x.1.2.1 x.1.2.2.1 x.1.2.2.2.2.2.2.1 x.1.2.2.2.2.2.2.2.1 x.1.2.2.2.2.2.2.2.2.1 x.2.1.1 x.2.1.2.1 x.2.1.2.2.1 x.2.1.2.2.2.1 x.2.2.1 x.2.2.2.1
theorem O171_l0 (N : Nat) {R : Type} : LpG T P171_l0 (E171_l0 N (R := R)) [0, 1, 3, 6, 9, 10, 14, 15, 16] c191_l0 :=
  loop_ok (F170_ok N) (H := H171) (Lp := noL) (X := noX) (p := 58) (LOK0 (by kernel_rfl)) (fun _ _ => rfl) (fun n x k => by kernel_rfl)
noncomputable def L171_1 (N : Nat) {R : Type} : LpS R := updL noL 58 (lent' P171_l0 (E171_l0 N N))
def graph_applied (N : Nat) {R : Type} (a0 : ByteArray) (a1 : ByteArray) (a2 : ByteArray) (a3 : ByteArray) (a4 : ByteArray) (a5 : ByteArray) (a6 : ByteArray) (a7 : ByteArray) (a8 : ByteArray) (a9 : zt2) (a10 : Int) (a11 : Int) (a12 : List Int) (a13 : Int) (a14 : List Int) (k0 : Int → Option R) : Option R := (graph_applied_l0 N (fun z4 z5 z6 z7 z8 z9 z10 z11 z12 z13 z14 z15 z16 => (bif decide (z13 = 18) then (graph_operations_c21 N z13 z14 z15 z16 [] [] k0) else (bif decide (z13 = 17) then (graph_operations_c20 N z13 z14 z15 z16 [] [] k0) else (bif decide (z13 = 16) then (graph_operations_c19 N z13 z14 z15 z16 [] [] k0) else (bif decide (z13 = 15) then (graph_operations_c18 N z13 z14 z15 z16 [] [] k0) else (bif decide (z13 = 14) then (graph_operations_c17 N z13 z14 z15 z16 [] [] k0) else (bif decide (z13 = 13) then (graph_operations_c15 N z13 z14 z15 z16 [] [] k0) else (bif decide (z13 = 12) then (graph_operations_c13 N z13 z14 z15 z16 [] [] k0) else (bif decide (z13 = 11) then (graph_relation_c1 N z13 z14 z15 z16 [] [] k0) else (bif decide (z13 = 10) then (graph_relation_c1_v1 N z13 z14 z15 z16 [] [] k0) else (bif decide (z13 = 9) then (graph_relation_c1_v2 N z13 z14 z15 z16 [] [] k0) else (bif decide (z13 = 8) then (graph_binary_c1 N z13 z14 z15 z16 [] [] k0) else (bif decide (z13 = 7) then (graph_binary_c1_v1 N z13 z14 z15 z16 [] [] k0) else (bif decide (z13 = 6) then (graph_binary_c1_v2 N z13 z14 z15 z16 [] [] k0) else (bif decide (z13 = 5) then (graph_binary_c1_v3 N z13 z14 z15 z16 [] [] k0) else (bif decide (z13 = 4) then (graph_binary_c1_v4 N z13 z14 z15 z16 [] [] k0) else (bif decide (z13 = 3) then (graph_binary_c1_v5 N z13 z14 z15 z16 [] [] k0) else (bif decide (z13 = 2) then (graph_operations_c2 N z13 z14 z15 z16 [] [] k0) else (bif decide (z13 = 1) then (graph_operations_c1 N z13 z14 z15 z16 [] [] k0) else (bif decide (z13 = 0) then (graph_operations_c1 N z13 z14 z15 z16 [] [] k0) else none)))))))))))))))))))) (fun z36 z37 z38 z39 z40 z41 z42 z43 z44 z45 z46 z47 z48 z49 z50 => (bif decide (z45 = 18) then (graph_operations_c21 N z45 z46 z47 z48 z49 z50 k0) else (bif decide (z45 = 17) then (graph_operations_c20 N z45 z46 z47 z48 z49 z50 k0) else (bif decide (z45 = 16) then (graph_operations_c19 N z45 z46 z47 z48 z49 z50 k0) else (bif decide (z45 = 15) then (graph_operations_c18 N z45 z46 z47 z48 z49 z50 k0) else (bif decide (z45 = 14) then (graph_operations_c17 N z45 z46 z47 z48 z49 z50 k0) else (bif decide (z45 = 13) then (graph_operations_c15 N z45 z46 z47 z48 z49 z50 k0) else (bif decide (z45 = 12) then (graph_operations_c13 N z45 z46 z47 z48 z49 z50 k0) else (bif decide (z45 = 11) then (graph_relation_c1 N z45 z46 z47 z48 z49 z50 k0) else (bif decide (z45 = 10) then (graph_relation_c1_v1 N z45 z46 z47 z48 z49 z50 k0) else (bif decide (z45 = 9) then (graph_relation_c1_v2 N z45 z46 z47 z48 z49 z50 k0) else (bif decide (z45 = 8) then (graph_binary_c1 N z45 z46 z47 z48 z49 z50 k0) else (bif decide (z45 = 7) then (graph_binary_c1_v1 N z45 z46 z47 z48 z49 z50 k0) else (bif decide (z45 = 6) then (graph_binary_c1_v2 N z45 z46 z47 z48 z49 z50 k0) else (bif decide (z45 = 5) then (graph_binary_c1_v3 N z45 z46 z47 z48 z49 z50 k0) else (bif decide (z45 = 4) then (graph_binary_c1_v4 N z45 z46 z47 z48 z49 z50 k0) else (bif decide (z45 = 3) then (graph_binary_c1_v5 N z45 z46 z47 z48 z49 z50 k0) else (bif decide (z45 = 2) then (graph_operations_c2 N z45 z46 z47 z48 z49 z50 k0) else (bif decide (z45 = 1) then (graph_operations_c1 N z45 z46 z47 z48 z49 z50 k0) else (bif decide (z45 = 0) then (graph_operations_c1 N z45 z46 z47 z48 z49 z50 k0) else none)))))))))))))))))))) N a0 a1 a2 a3 a4 a5 a6 a7 a8 a9 a14 a12 ((a12.length : Nat) : Int) 0 a10 a11 a12 a13 [] [])
def P171 : AP := ⟨[.p (.cp [.ks (ByteArray.mk #[99, 111, 110, 115, 116]), .ki .i64 0, .kb true, .fn 208 [], .fn 207 [], .ks (ByteArray.mk #[108, 101, 97, 102]), .ki .i64 0, .kb true, .fn 208 [], .fn 207 [], .ks (ByteArray.mk #[110, 111, 116]), .ki .i64 1, .kb false, .fn 209 [], .fn 210 [], .s .s, .ki .i64 2, .kb false, .fn 209 [], .fn 244 [.cp [.fn 213 []]], .s .s, .ki .i64 2, .kb false, .fn 209 [], .fn 244 [.cp [.fn 214 []]], .s .s, .ki .i64 2, .kb false, .fn 209 [], .fn 244 [.cp [.fn 215 []]], .s .s, .ki .i64 2, .kb false, .fn 209 [], .fn 244 [.cp [.fn 216 []]], .s .s, .ki .i64 2, .kb false, .fn 209 [], .fn 244 [.cp [.fn 217 []]], .s .s, .ki .i64 2, .kb false, .fn 209 [], .fn 244 [.cp [.fn 218 []]], .s .s, .ki .i64 2, .kb false, .fn 245 [], .fn 246 [.cp [.fn 220 []]], .s .s, .ki .i64 2, .kb false, .fn 245 [], .fn 246 [.cp [.fn 221 []]], .s .s, .ki .i64 2, .kb false, .fn 245 [], .fn 246 [.cp [.fn 222 []]], .ks (ByteArray.mk #[109, 117, 120]), .ki .i64 3, .kb false, .fn 224 [], .fn 225 [], .ks (ByteArray.mk #[106, 111, 105, 110]), .ki .i64 2, .kb false, .fn 226 [], .fn 227 [], .ks (ByteArray.mk #[115, 108, 105, 99, 101]), .ki .i64 1, .kb true, .fn 228 [], .fn 229 [], .ks (ByteArray.mk #[122, 101, 120, 116]), .ki .i64 1, .kb false, .fn 230 [], .fn 231 [], .ks (ByteArray.mk #[115, 101, 120, 116]), .ki .i64 1, .kb false, .fn 230 [], .fn 232 [], .ks (ByteArray.mk #[115, 104, 108]), .ki .i64 2, .kb false, .fn 233 [], .fn 234 [], .ks (ByteArray.mk #[115, 104, 114]), .ki .i64 2, .kb false, .fn 233 [], .fn 235 []]), pL zs1, .agg [pI, pI, pL [hI], pI], pL [hI]], []⟩
def E171 (N : Nat) {R : Type} (x : P171.den) (k : KK R) : Option R := graph_applied N x.1.1.2.2.2.2.2.2.2.2.2.2.2.2.2.2.2.1 x.1.1.2.2.2.2.2.2.2.2.2.2.2.2.2.2.2.2.2.2.2.2.1 x.1.1.2.2.2.2.2.2.2.2.2.2.2.2.2.2.2.2.2.2.2.2.2.2.2.2.2.1 x.1.1.2.2.2.2.2.2.2.2.2.2.2.2.2.2.2.2.2.2.2.2.2.2.2.2.2.2.2.2.2.2.1 x.1.1.2.2.2.2.2.2.2.2.2.2.2.2.2.2.2.2.2.2.2.2.2.2.2.2.2.2.2.2.2.2.2.2.2.2.2.1 x.1.1.2.2.2.2.2.2.2.2.2.2.2.2.2.2.2.2.2.2.2.2.2.2.2.2.2.2.2.2.2.2.2.2.2.2.2.2.2.2.2.2.1 x.1.1.2.2.2.2.2.2.2.2.2.2.2.2.2.2.2.2.2.2.2.2.2.2.2.2.2.2.2.2.2.2.2.2.2.2.2.2.2.2.2.2.2.2.2.2.2.1 x.1.1.2.2.2.2.2.2.2.2.2.2.2.2.2.2.2.2.2.2.2.2.2.2.2.2.2.2.2.2.2.2.2.2.2.2.2.2.2.2.2.2.2.2.2.2.2.2.2.2.2.2.1 x.1.1.2.2.2.2.2.2.2.2.2.2.2.2.2.2.2.2.2.2.2.2.2.2.2.2.2.2.2.2.2.2.2.2.2.2.2.2.2.2.2.2.2.2.2.2.2.2.2.2.2.2.2.2.2.2.2.1 x.1.2.1 x.1.2.2.1.1 x.1.2.2.1.2.1 x.1.2.2.1.2.2.1 x.1.2.2.1.2.2.2.1 x.1.2.2.2.1 (fun r0 => k [] [dI r0] [])
noncomputable def F171 (N : Nat) {R : Type} : CfS R := uC (F170 N) 191 P171 (E171 N)
theorem F171_ok (N : Nat) {R : Type} : FOK (F171 N : CfS R) (runF T) :=
  uC_ok (F170_ok N) (H := H171) (Lp := (L171_1 N)) (X := noX) (rp := []) (ver := c191) rfl (LOK_of (l := [(58, [0, 1, 3, 6, 9, 10, 14, 15, 16], c191_l0)]) (by kernel_rfl) ⟨(updL_ok (O171_l0 N N)), trivial⟩) (fun x k => by kernel_rfl)
def X172 : Nat → List SP := fun p => if p = 63 then [⟨[(4, .own 0)], [(0, .arr [hI])]⟩] else []
def H172 : Nat → Option (List Sh) := fun n => if n = 23000 then some [hI] else if n = 33000 then some [hI] else none
def graph_valued_l0 (N : Nat) {R : Type} (k0 : Option R) (k1 : List Int → Option R) : Nat → zt2 → List Int → zt2 → Int → Int → ByteArray → ByteArray → ByteArray → ByteArray → ByteArray → ByteArray → ByteArray → ByteArray → ByteArray → List Int → Option R
  | 0, _, _, _, _, _, _, _, _, _, _, _, _, _, _, _ => none
  | n + 1, b0, b1, b2, b3, b4, b5, b6, b7, b8, b9, b10, b11, b12, b13, b14 => (bif decide (b4 < b3) then ((at? b2 b4).bind fun x1 => (bif decide (x1.1 = 1) then ((at? b1 x1.2.2.2).bind fun x2 => (bif roomB (b14.length + 1) 8 then (graph_valued_l0 N k0 k1 n b0 b1 b2 b3 (w64 (b4 + 1)) b5 b6 b7 b8 b9 b10 b11 b12 b13 (b14 ++ [x2])) else none)) else (graph_applied N b5 b6 b7 b8 b9 b10 b11 b12 b13 b0 x1.1 x1.2.1 x1.2.2.1 x1.2.2.2 b14 (fun y3 => (bif roomB (b14.length + 1) 8 then (graph_valued_l0 N k0 k1 n b0 b1 b2 b3 (w64 (b4 + 1)) b5 b6 b7 b8 b9 b10 b11 b12 b13 (b14 ++ [y3])) else none))))) else (k1 b14))
def P172_l0 : SP := ⟨[(0, pL zs1), (1, pL [hI]), (5, .ptr 0 0), (6, .own 1), (11, pL zs1), (12, pI), (13, pI)], [(0, .box [.p (.ks (ByteArray.mk #[99, 111, 110, 115, 116])), .p (.ki .i64 0), .p (.kb true), .p (.fn 208 []), .p (.fn 207 []), .p (.ks (ByteArray.mk #[108, 101, 97, 102])), .p (.ki .i64 0), .p (.kb true), .p (.fn 208 []), .p (.fn 207 []), .p (.ks (ByteArray.mk #[110, 111, 116])), .p (.ki .i64 1), .p (.kb false), .p (.fn 209 []), .p (.fn 210 []), pS, .p (.ki .i64 2), .p (.kb false), .p (.fn 209 []), .p (.fn 244 [.cp [.fn 213 []]]), pS, .p (.ki .i64 2), .p (.kb false), .p (.fn 209 []), .p (.fn 244 [.cp [.fn 214 []]]), pS, .p (.ki .i64 2), .p (.kb false), .p (.fn 209 []), .p (.fn 244 [.cp [.fn 215 []]]), pS, .p (.ki .i64 2), .p (.kb false), .p (.fn 209 []), .p (.fn 244 [.cp [.fn 216 []]]), pS, .p (.ki .i64 2), .p (.kb false), .p (.fn 209 []), .p (.fn 244 [.cp [.fn 217 []]]), pS, .p (.ki .i64 2), .p (.kb false), .p (.fn 209 []), .p (.fn 244 [.cp [.fn 218 []]]), pS, .p (.ki .i64 2), .p (.kb false), .p (.fn 245 []), .p (.fn 246 [.cp [.fn 220 []]]), pS, .p (.ki .i64 2), .p (.kb false), .p (.fn 245 []), .p (.fn 246 [.cp [.fn 221 []]]), pS, .p (.ki .i64 2), .p (.kb false), .p (.fn 245 []), .p (.fn 246 [.cp [.fn 222 []]]), .p (.ks (ByteArray.mk #[109, 117, 120])), .p (.ki .i64 3), .p (.kb false), .p (.fn 224 []), .p (.fn 225 []), .p (.ks (ByteArray.mk #[106, 111, 105, 110])), .p (.ki .i64 2), .p (.kb false), .p (.fn 226 []), .p (.fn 227 []), .p (.ks (ByteArray.mk #[115, 108, 105, 99, 101])), .p (.ki .i64 1), .p (.kb true), .p (.fn 228 []), .p (.fn 229 []), .p (.ks (ByteArray.mk #[122, 101, 120, 116])), .p (.ki .i64 1), .p (.kb false), .p (.fn 230 []), .p (.fn 231 []), .p (.ks (ByteArray.mk #[115, 101, 120, 116])), .p (.ki .i64 1), .p (.kb false), .p (.fn 230 []), .p (.fn 232 []), .p (.ks (ByteArray.mk #[115, 104, 108])), .p (.ki .i64 2), .p (.kb false), .p (.fn 233 []), .p (.fn 234 []), .p (.ks (ByteArray.mk #[115, 104, 114])), .p (.ki .i64 2), .p (.kb false), .p (.fn 233 []), .p (.fn 235 [])]), (1, .arr [hI])]⟩
def E172_l0 (N : Nat) {R : Type} (n : Nat) (x : P172_l0.den) (k : KS R) : Option R := graph_valued_l0 N (k (.ex 0) ⟨[(6, .own 0)], [(0, .arr (.e 1))]⟩) (fun r0 => k (.ex 0) ⟨[(6, .own 0)], [(0, .arr (.t [hI] r0))]⟩) n x.1.1 x.1.2.1 x.1.2.2.2.2.1 x.1.2.2.2.2.2.1 x.1.2.2.2.2.2.2.1 x.2.1.2.2.2.2.2.2.2.2.2.2.2.2.2.2.2.1 x.2.1.2.2.2.2.2.2.2.2.2.2.2.2.2.2.2.2.2.2.2.2.1 x.2.1.2.2.2.2.2.2.2.2.2.2.2.2.2.2.2.2.2.2.2.2.2.2.2.2.2.1 x.2.1.2.2.2.2.2.2.2.2.2.2.2.2.2.2.2.2.2.2.2.2.2.2.2.2.2.2.2.2.2.2.1 x.2.1.2.2.2.2.2.2.2.2.2.2.2.2.2.2.2.2.2.2.2.2.2.2.2.2.2.2.2.2.2.2.2.2.2.2.2.1 x.2.1.2.2.2.2.2.2.2.2.2.2.2.2.2.2.2.2.2.2.2.2.2.2.2.2.2.2.2.2.2.2.2.2.2.2.2.2.2.2.2.2.1 x.2.1.2.2.2.2.2.2.2.2.2.2.2.2.2.2.2.2.2.2.2.2.2.2.2.2.2.2.2.2.2.2.2.2.2.2.2.2.2.2.2.2.2.2.2.2.2.1 x.2.1.2.2.2.2.2.2.2.2.2.2.2.2.2.2.2.2.2.2.2.2.2.2.2.2.2.2.2.2.2.2.2.2.2.2.2.2.2.2.2.2.2.2.2.2.2.2.2.2.2.2.1 x.2.1.2.2.2.2.2.2.2.2.2.2.2.2.2.2.2.2.2.2.2.2.2.2.2.2.2.2.2.2.2.2.2.2.2.2.2.2.2.2.2.2.2.2.2.2.2.2.2.2.2.2.2.2.2.2.2.1 x.2.2.1
theorem O172_l0 (N : Nat) {R : Type} : LpG T P172_l0 (E172_l0 N (R := R)) [0, 1, 5, 6, 11, 12, 13] c155_l0 :=
  loop_ok (F171_ok N) (H := H172) (Lp := noL) (X := X172) (p := 122) (LOK0 (by kernel_rfl)) (fun _ _ => rfl) (fun n x k => by kernel_rfl)
noncomputable def L172_1 (N : Nat) {R : Type} : LpS R := updL noL 122 (lent' P172_l0 (E172_l0 N N))
def graph_valued (N : Nat) {R : Type} (a0 : zt2) (a1 : List Int) (k0 : List Int → Option R) : Option R := (graph_operations N (fun y1 y2 y3 y4 y5 y6 y7 y8 y9 => (graph_valued_l0 N (k0 []) k0 N a0 a1 a0 ((a0.length : Nat) : Int) 0 y1 y2 y3 y4 y5 y6 y7 y8 y9 [])))
def P172 : AP := ⟨[pL zs1, pL [hI]], []⟩
def E172 (N : Nat) {R : Type} (x : P172.den) (k : KK R) : Option R := graph_valued N x.1.1 x.1.2.1 (fun r0 => k [] [dL [hI] r0] [])
noncomputable def F172 (N : Nat) {R : Type} : CfS R := uC (F171 N) 155 P172 (E172 N)
theorem F172_ok (N : Nat) {R : Type} : FOK (F172 N : CfS R) (runF T) :=
  uC_ok (F171_ok N) (H := H172) (Lp := (L172_1 N)) (X := X172) (rp := []) (ver := c155) rfl (LOK_of (l := [(122, [0, 1, 5, 6, 11, 12, 13], c155_l0)]) (by kernel_rfl) ⟨(updL_ok (O172_l0 N N)), trivial⟩) (fun x k => by kernel_rfl)
def H173 : Nat → Option (List Sh) := fun n => if n = 13000 then some [hI] else none
def graph_ValuesOf (N : Nat) {R : Type} (a0 : List Int) (a1 : zt2) (a2 : List Int) (k0 : List Int → Int → Option R) : Option R := (graph_graphErr N a0 a1 (fun y1 => (graph_unless N (decide (((a2.length : Nat) : Int) = ((a0.length : Nat) : Int))) 10 (fun y2 => (graph_first N [y1, y2] (fun y3 => (bif decide (y3 ≠ 0) then (k0 [] y3) else (graph_each_int_v1 N a2 a0 (fun y4 y5 y6 => (bif decide (y5 ≠ 0) then (k0 [] y5) else (graph_valued N a1 a2 (fun y7 => (k0 y7 0)))))))))))))
def P173 : AP := ⟨[pL [hI], pL zs1, pL [hI]], []⟩
def E173 (N : Nat) {R : Type} (x : P173.den) (k : KK R) : Option R := graph_ValuesOf N x.1.1 x.1.2.1 x.1.2.2.1 (fun r0 r1 => k [] [dL [hI] r0, dI r1] [])
noncomputable def F173 (N : Nat) {R : Type} : CfS R := uC (F172 N) 89 P173 (E173 N)
theorem F173_ok (N : Nat) {R : Type} : FOK (F173 N : CfS R) (runF T) :=
  uC_ok (F172_ok N) (H := H173) (Lp := noL) (X := noX) (rp := [⟨[pL [hI], pI], []⟩]) (ver := c89) rfl (LOK0 (by kernel_rfl)) (fun x k => by kernel_rfl)
def H174 : Nat → Option (List Sh) := fun n => if n = 11000 then some [.sl [hI]] else none
def design_network_values (N : Nat) {R : Type} (a0 : ByteArray) (a1 : zt5) (a2 : zt1) (a3 : zt2) (a4 : zt0) (a5 : zt5) (a6 : zt4) (a7 : List Int) (a8 : List Int) (k0 : List Int → Option R) : Option R := (design_leaves N a0 a1 a2 a3 a4 a5 a6 (fun y1 => (slices_Concat_state_int N [a7, a8] (fun y2 => (graph_ValuesOf N y1 a3 y2 (fun y3 y4 => (k0 y3)))))))
def P174 : AP := ⟨[.agg [pS, pL [.s, hI], pL zs2, pL zs1, pL zs0, pL [.s, hI], pL zs3], pL [hI], pL [hI]], []⟩
def E174 (N : Nat) {R : Type} (x : P174.den) (k : KK R) : Option R := design_network_values N x.1.1.1 x.1.1.2.1 x.1.1.2.2.1 x.1.1.2.2.2.1 x.1.1.2.2.2.2.1 x.1.1.2.2.2.2.2.1 x.1.1.2.2.2.2.2.2.1 x.1.2.1 x.1.2.2.1 (fun r0 => k [] [dL [hI] r0] [])
noncomputable def F174 (N : Nat) {R : Type} : CfS R := uC (F173 N) 52 P174 (E174 N)
theorem F174_ok (N : Nat) {R : Type} : FOK (F174 N : CfS R) (runF T) :=
  uC_ok (F173_ok N) (H := H174) (Lp := noL) (X := noX) (rp := []) (ver := c52) rfl (LOK0 (by kernel_rfl)) (fun x k => by kernel_rfl)
def X175 : Nat → List SP := fun p => if p = 117 then [⟨[(6, .own 0), (7, pI)], [(0, .arr [hI])]⟩] else if p = 255 then [⟨[(6, .own 0), (7, pI)], [(0, .arr [hI])]⟩] else []
def H175 : Nat → Option (List Sh) := fun n => if n = 40000 then some [hI] else none
def design_OutputsIn_l0 (N : Nat) {R : Type} (k0 : Option R) (k1 : List Int → Option R) : Nat → List Int → zt5 → Int → Int → List Int → Option R
  | 0, _, _, _, _, _ => none
  | n + 1, b0, b1, b2, b3, b4 => (bif decide (b3 < b2) then ((at? b1 b3).bind fun x1 => ((at? b0 x1.2).bind fun x2 => (bif roomB (b4.length + 1) 8 then (design_OutputsIn_l0 N k0 k1 n b0 b1 b2 (w64 (b3 + 1)) (b4 ++ [x2])) else none))) else (k1 b4))
def P175_l0 : SP := ⟨[(10, pL [hI]), (11, .own 0), (29, pL [.s, hI]), (30, pI), (31, pI)], [(0, .arr [hI])]⟩
def E175_l0 (N : Nat) {R : Type} (n : Nat) (x : P175_l0.den) (k : KS R) : Option R := design_OutputsIn_l0 N (k (.ex 0) ⟨[(11, .own 0)], [(0, .arr (.e 1))]⟩) (fun r0 => k (.ex 0) ⟨[(11, .own 0)], [(0, .arr (.t [hI] r0))]⟩) n x.1.1 x.1.2.2.1 x.1.2.2.2.1 x.1.2.2.2.2.1 x.2.1
theorem O175_l0 (N : Nat) {R : Type} : LpG T P175_l0 (E175_l0 N (R := R)) [10, 11, 29, 30, 31] c14_l0 :=
  loop_ok (F174_ok N) (H := H175) (Lp := noL) (X := X175) (p := 506) (LOK0 (by kernel_rfl)) (fun _ _ => rfl) (fun n x k => by kernel_rfl)
noncomputable def L175_1 (N : Nat) {R : Type} : LpS R := updL noL 506 (lent' P175_l0 (E175_l0 N N))
def design_OutputsIn (N : Nat) {R : Type} (a0 : ByteArray) (a1 : zt5) (a2 : zt1) (a3 : zt2) (a4 : zt0) (a5 : zt5) (a6 : zt4) (a7 : List Int) (a8 : List Int) (k0 : List Int → Int → Option R) : Option R := (design_openState N a0 a1 a2 a3 a4 a5 a6 a7 a8 (fun y1 y2 y3 y4 y5 y6 y7 y8 => (bif decide (y8 ≠ 0) then (k0 [] y8) else (design_network_values N y1 y2 y3 y4 y5 y6 y7 a7 a8 (fun y9 => (design_OutputsIn_l0 N (k0 [] 0) (fun z10 => (k0 z10 0)) N y9 a5 ((a5.length : Nat) : Int) 0 []))))))
def P175 : AP := ⟨[.agg [pS, pL [.s, hI], pL zs2, pL zs1, pL zs0, pL [.s, hI], pL zs3], pL [hI], pL [hI]], []⟩
def E175 (N : Nat) {R : Type} (x : P175.den) (k : KK R) : Option R := design_OutputsIn N x.1.1.1 x.1.1.2.1 x.1.1.2.2.1 x.1.1.2.2.2.1 x.1.1.2.2.2.2.1 x.1.1.2.2.2.2.2.1 x.1.1.2.2.2.2.2.2.1 x.1.2.1 x.1.2.2.1 (fun r0 r1 => k [] [dL [hI] r0, dI r1] [])
noncomputable def F175 (N : Nat) {R : Type} : CfS R := uC (F174 N) 14 P175 (E175 N)
theorem F175_ok (N : Nat) {R : Type} : FOK (F175 N : CfS R) (runF T) :=
  uC_ok (F174_ok N) (H := H175) (Lp := (L175_1 N)) (X := X175) (rp := []) (ver := c14) rfl (LOK_of (l := [(506, [10, 11, 29, 30, 31], c14_l0)]) (by kernel_rfl) ⟨(updL_ok (O175_l0 N N)), trivial⟩) (fun x k => by kernel_rfl)
def design_network_ruleErr (N : Nat) {R : Type} (a0 : ByteArray) (a1 : zt5) (a2 : zt1) (a3 : zt2) (a4 : zt0) (a5 : zt5) (a6 : zt4) (a7 : Int) (k0 : Int → Option R) : Option R := (design_within N a7 0 (w64 (((a4.length : Nat) : Int) - 1)) (fun y1 => (design_unless N y1 6 k0)))
def P176 : AP := ⟨[.agg [pS, pL [.s, hI], pL zs2, pL zs1, pL zs0, pL [.s, hI], pL zs3], pI], []⟩
def E176 (N : Nat) {R : Type} (x : P176.den) (k : KK R) : Option R := design_network_ruleErr N x.1.1.1 x.1.1.2.1 x.1.1.2.2.1 x.1.1.2.2.2.1 x.1.1.2.2.2.2.1 x.1.1.2.2.2.2.2.1 x.1.1.2.2.2.2.2.2.1 x.1.2.1 (fun r0 => k [] [dI r0] [])
noncomputable def F176 (N : Nat) {R : Type} : CfS R := uC (F175 N) 54 P176 (E176 N)
theorem F176_ok (N : Nat) {R : Type} : FOK (F176 N : CfS R) (runF T) :=
  uC_ok (F175_ok N) (H := noH) (Lp := noL) (X := noX) (rp := []) (ver := c54) rfl (LOK0 (by kernel_rfl)) (fun x k => by kernel_rfl)
def design_network_isEnabled (N : Nat) {R : Type} (a0 : ByteArray) (a1 : zt5) (a2 : zt1) (a3 : zt2) (a4 : zt0) (a5 : zt5) (a6 : zt4) (a7 : Int) (a8 : List Int) (k0 : Bool → Option R) : Option R := ((at? a4 a7).bind fun x1 => ((at? a8 x1.2.1).bind fun x2 => (k0 (decide (x2 = 1)))))
def P177 : AP := ⟨[.agg [pS, pL [.s, hI], pL zs2, pL zs1, pL zs0, pL [.s, hI], pL zs3], pI, pL [hI]], []⟩
def E177 (N : Nat) {R : Type} (x : P177.den) (k : KK R) : Option R := design_network_isEnabled N x.1.1.1 x.1.1.2.1 x.1.1.2.2.1 x.1.1.2.2.2.1 x.1.1.2.2.2.2.1 x.1.1.2.2.2.2.2.1 x.1.1.2.2.2.2.2.2.1 x.1.2.1 x.1.2.2.1 (fun r0 => k [] [dB r0] [])
noncomputable def F177 (N : Nat) {R : Type} : CfS R := uC (F176 N) 57 P177 (E177 N)
theorem F177_ok (N : Nat) {R : Type} : FOK (F177 N : CfS R) (runF T) :=
  uC_ok (F176_ok N) (H := noH) (Lp := noL) (X := noX) (rp := []) (ver := c57) rfl (LOK0 (by kernel_rfl)) (fun x k => by kernel_rfl)
def design_network_happened_l0 (N : Nat) {R : Type} (k0 : List Int → Option R) : Nat → List Int → zt6 → Int → Int → List Int → Option R
  | 0, _, _, _, _, _ => none
  | n + 1, b0, b1, b2, b3, b4 => (bif decide (b3 < b2) then ((at? b1 b3).bind fun x1 => ((at? b0 x1.2.1).bind fun x2 => (bif decide (x2 = 1) then ((at? b0 x1.2.2).bind fun x3 => (bif inR x1.1 b4.length then ((b4[x1.1.toNat]?).bind fun x4 => (design_network_happened_l0 N k0 n b0 b1 b2 (w64 (b3 + 1)) (List.set b4 x1.1.toNat x3))) else none)) else (design_network_happened_l0 N k0 n b0 b1 b2 (w64 (b3 + 1)) b4)))) else (k0 b4))
def P178_l0 : SP := ⟨[(2, pL [hI]), (9, .own 0), (20, pL zs4), (21, pI), (22, pI)], [(0, .arr [hI])]⟩
def E178_l0 (N : Nat) {R : Type} (n : Nat) (x : P178_l0.den) (k : KS R) : Option R := design_network_happened_l0 N (fun r0 => k (.ex 0) ⟨[(9, .own 0)], [(0, .arr (.t [hI] r0))]⟩) n x.1.1 x.1.2.2.1 x.1.2.2.2.1 x.1.2.2.2.2.1 x.2.1
theorem O178_l0 (N : Nat) {R : Type} : LpG T P178_l0 (E178_l0 N (R := R)) [2, 9, 20, 21, 22] c58_l0 :=
  loop_ok (F177_ok N) (H := noH) (Lp := noL) (X := noX) (p := 58) (LOK0 (by kernel_rfl)) (fun _ _ => rfl) (fun n x k => by kernel_rfl)
noncomputable def L178_1 (N : Nat) {R : Type} : LpS R := updL noL 58 (lent' P178_l0 (E178_l0 N N))
def design_network_happened (N : Nat) {R : Type} (a0 : ByteArray) (a1 : zt5) (a2 : zt1) (a3 : zt2) (a4 : zt0) (a5 : zt5) (a6 : zt4) (a7 : Int) (a8 : List Int) (a9 : List Int) (k0 : List Int → Option R) : Option R := (bif roomB a9.length 8 then ((at? a4 a7).bind fun x1 => (design_network_happened_l0 N k0 N a8 x1.2.2 ((x1.2.2.length : Nat) : Int) 0 a9)) else none)
def P178 : AP := ⟨[.agg [pS, pL [.s, hI], pL zs2, pL zs1, pL zs0, pL [.s, hI], pL zs3], pI, pL [hI], pL [hI]], []⟩
def E178 (N : Nat) {R : Type} (x : P178.den) (k : KK R) : Option R := design_network_happened N x.1.1.1 x.1.1.2.1 x.1.1.2.2.1 x.1.1.2.2.2.1 x.1.1.2.2.2.2.1 x.1.1.2.2.2.2.2.1 x.1.1.2.2.2.2.2.2.1 x.1.2.1 x.1.2.2.1 x.1.2.2.2.1 (fun r0 => k [] [dL [hI] r0] [])
noncomputable def F178 (N : Nat) {R : Type} : CfS R := uC (F177 N) 58 P178 (E178 N)
theorem F178_ok (N : Nat) {R : Type} : FOK (F178 N : CfS R) (runF T) :=
  uC_ok (F177_ok N) (H := noH) (Lp := (L178_1 N)) (X := noX) (rp := []) (ver := c58) rfl (LOK_of (l := [(58, [2, 9, 20, 21, 22], c58_l0)]) (by kernel_rfl) ⟨(updL_ok (O178_l0 N N)), trivial⟩) (fun x k => by kernel_rfl)
def H179 : Nat → Option (List Sh) := fun n => if n = 23000 then some [hI] else none
def design_Happened_j0 (N : Nat) {R : Type} (k0 : Int → Option R) (k1 : List Int → Int → Option R) (b0 : Int) (b1 : List Int) (b2 : List Int) (b3 : Int) (b4 : ByteArray) (b5 : zt5) (b6 : zt1) (b7 : zt2) (b8 : zt0) (b9 : zt5) (b10 : zt4) : Option R := (bif decide (b3 ≠ 0) then (k0 b3) else (design_network_values N b4 b5 b6 b7 b8 b9 b10 b1 b2 (fun y1 => (design_network_isEnabled N b4 b5 b6 b7 b8 b9 b10 b0 y1 (fun y2 => (bif (!y2) then (k0 24) else (design_network_happened N b4 b5 b6 b7 b8 b9 b10 b0 y1 b2 (fun y3 => (k1 y3 0)))))))))
def P179_j0 : SP := ⟨[(1, pI), (2, pL [hI]), (3, pL [hI]), (10, .ptr 0 0), (11, pI)], [(0, .box [pS, pL [.s, hI], pL zs2, pL zs1, pL zs0, pL [.s, hI], pL zs3])]⟩
def E179_j0 (N : Nat) {R : Type} (n : Nat) (x : P179_j0.den) (k : KS R) : Option R := match n with
  | 0 => none
  | _ + 1 => design_Happened_j0 N (fun r0 => k .ret ⟨[(8, .own 0), (9, dI r0)], [(0, .arr (.e 1))]⟩) (fun r0 r1 => k .ret ⟨[(8, dL [hI] r0), (9, dI r1)], []⟩) x.1.1 x.1.2.1 x.1.2.2.1 x.1.2.2.2.2.1 x.2.1.1 x.2.1.2.1 x.2.1.2.2.1 x.2.1.2.2.2.1 x.2.1.2.2.2.2.1 x.2.1.2.2.2.2.2.1 x.2.1.2.2.2.2.2.2.1
theorem O179_j0 (N : Nat) {R : Type} : LpG T P179_j0 (E179_j0 N (R := R)) [1, 2, 3, 10, 11] c15_j0 :=
  loop_ok (F178_ok N) (H := H179) (Lp := noL) (X := noX) (p := 30) (LOK0 (by kernel_rfl)) (fun _ _ => rfl) (fun n x k => by kernel_rfl)
noncomputable def L179_1 (N : Nat) {R : Type} : LpS R := updL noL 30 (lent' P179_j0 (E179_j0 N 1))
def design_Happened (N : Nat) {R : Type} (a0 : ByteArray) (a1 : zt5) (a2 : zt1) (a3 : zt2) (a4 : zt0) (a5 : zt5) (a6 : zt4) (a7 : Int) (a8 : List Int) (a9 : List Int) (k0 : List Int → Int → Option R) : Option R := (design_open N a0 a1 a2 a3 a4 a5 a6 (fun y1 y2 y3 y4 y5 y6 y7 y8 => (bif decide (y8 = 0) then (design_network_ruleErr N y1 y2 y3 y4 y5 y6 y7 a7 (fun y9 => (design_network_inputsErr N y1 y2 y3 y4 y5 y6 y7 a8 (fun y10 => (design_network_stateErr N y1 y2 y3 y4 y5 y6 y7 a9 (fun y11 => (design_first N [y9, y10, y11] (fun y12 => (design_Happened_j0 N (fun z13 => (k0 [] z13)) k0 a7 a8 a9 y12 y1 y2 y3 y4 y5 y6 y7))))))))) else (design_Happened_j0 N (fun z16 => (k0 [] z16)) k0 a7 a8 a9 y8 y1 y2 y3 y4 y5 y6 y7))))
def P179 : AP := ⟨[.agg [pS, pL [.s, hI], pL zs2, pL zs1, pL zs0, pL [.s, hI], pL zs3], pI, pL [hI], pL [hI]], []⟩
def E179 (N : Nat) {R : Type} (x : P179.den) (k : KK R) : Option R := design_Happened N x.1.1.1 x.1.1.2.1 x.1.1.2.2.1 x.1.1.2.2.2.1 x.1.1.2.2.2.2.1 x.1.1.2.2.2.2.2.1 x.1.1.2.2.2.2.2.2.1 x.1.2.1 x.1.2.2.1 x.1.2.2.2.1 (fun r0 r1 => k [] [dL [hI] r0, dI r1] [])
noncomputable def F179 (N : Nat) {R : Type} : CfS R := uC (F178 N) 15 P179 (E179 N)
theorem F179_ok (N : Nat) {R : Type} : FOK (F179 N : CfS R) (runF T) :=
  uC_ok (F178_ok N) (H := H179) (Lp := (L179_1 N)) (X := noX) (rp := [⟨[pL [hI], pI], []⟩]) (ver := c15) rfl (LOK_of (l := [(30, [1, 2, 3, 10, 11], c15_j0)]) (by kernel_rfl) ⟨(updL_ok (O179_j0 N 1)), trivial⟩) (fun x k => by kernel_rfl)
def X180 : Nat → List SP := fun p => if p = 237 then [⟨[(4, .own 0), (5, pI)], [(0, .arr [hI])]⟩] else if p = 245 then [⟨[(4, .own 0), (5, pI)], [(0, .arr [hI])]⟩] else if p = 511 then [⟨[(4, .own 0), (5, pI)], [(0, .arr [hI])]⟩] else []
def H180 : Nat → Option (List Sh) := fun n => if n = 17000 then some [hI] else if n = 48000 then some [hI] else if n = 62000 then some [hI] else none
def arith_Filtered_l0 (N : Nat) {R : Type} (k0 : Option R) (k1 : List Int → Option R) : Nat → List Int → List Int → Int → Int → ByteArray → zt5 → zt1 → zt2 → zt0 → zt5 → List Int → Option R
  | 0, _, _, _, _, _, _, _, _, _, _, _ => none
  | n + 1, b0, b1, b2, b3, b4, b5, b6, b7, b8, b9, b10 => (bif decide (b3 < b2) then ((at? b1 b3).bind fun x1 => (design_OutputsIn N b4 b5 b6 b7 b8 b9 [] [x1] b0 (fun y2 y3 => (bif roomB (b10.length + y2.length) 8 then (design_Happened N b4 b5 b6 b7 b8 b9 [] 0 [x1] b0 (fun y4 y5 => (arith_Filtered_l0 N k0 k1 n y4 b1 b2 (w64 (b3 + 1)) b4 b5 b6 b7 b8 b9 (b10 ++ y2)))) else none)))) else (k1 b10))
def P180_l0 : SP := ⟨[(6, .ptr 0 0), (8, pL [hI]), (10, .own 1), (39, pL [hI]), (40, pI), (41, pI)], [(0, .box [pS, pL [.s, hI], pL zs2, pL zs1, pL zs0, pL [.s, hI], .p (.e 2)]), (1, .arr [hI])]⟩
def E180_l0 (N : Nat) {R : Type} (n : Nat) (x : P180_l0.den) (k : KS R) : Option R := arith_Filtered_l0 N (k (.ex 0) ⟨[(10, .own 0)], [(0, .arr (.e 1))]⟩) (fun r0 => k (.ex 0) ⟨[(10, .own 0)], [(0, .arr (.t [hI] r0))]⟩) n x.1.2.1 x.1.2.2.2.1 x.1.2.2.2.2.1 x.1.2.2.2.2.2.1 x.2.1.1 x.2.1.2.1 x.2.1.2.2.1 x.2.1.2.2.2.1 x.2.1.2.2.2.2.1 x.2.1.2.2.2.2.2.1 x.2.2.1
theorem O180_l0 (N : Nat) {R : Type} : LpG T P180_l0 (E180_l0 N (R := R)) [6, 8, 10, 39, 40, 41] c10_l0 :=
  loop_ok (F179_ok N) (H := H180) (Lp := noL) (X := X180) (p := 1018) (LOK0 (by kernel_rfl)) (fun _ _ => rfl) (fun n x k => by kernel_rfl)
noncomputable def L180_1 (N : Nat) {R : Type} : LpS R := updL noL 1018 (lent' P180_l0 (E180_l0 N N))
def arith_Filtered (N : Nat) {R : Type} (a0 : List Int) (a1 : Int) (a2 : Int) (a3 : List Int) (k0 : List Int → Int → Option R) : Option R := (arith_FilterOf N a0 a1 a2 (fun y1 y2 y3 y4 y5 y6 y7 => (arith_unless N (decide (((a3.length : Nat) : Int) ≤ 30)) 8 (fun y8 => (arith_first N [y7, y8] (fun y9 => (bif decide (y9 ≠ 0) then (k0 [] y9) else (arith_each_int_v2 N a3 a0 a1 a2 (fun y10 y11 y12 y13 => (bif (!y10) then (k0 [] 2) else (design_ResetOf N y1 y2 y3 y4 y5 y6 [] (fun y14 y15 => (arith_Filtered_l0 N (k0 [] 0) (fun z16 => (k0 z16 0)) N y14 a3 ((a3.length : Nat) : Int) 0 y1 y2 y3 y4 y5 y6 [])))))))))))))
def P180 : AP := ⟨[.agg [pL [hI], pI, pI], pL [hI]], []⟩
def E180 (N : Nat) {R : Type} (x : P180.den) (k : KK R) : Option R := arith_Filtered N x.1.1.1 x.1.1.2.1 x.1.1.2.2.1 x.1.2.1 (fun r0 r1 => k [] [dL [hI] r0, dI r1] [])
noncomputable def F180 (N : Nat) {R : Type} : CfS R := uC (F179 N) 10 P180 (E180 N)
theorem F180_ok (N : Nat) {R : Type} : FOK (F180 N : CfS R) (runF T) :=
  uC_ok (F179_ok N) (H := H180) (Lp := (L180_1 N)) (X := X180) (rp := []) (ver := c10) rfl (LOK_of (l := [(1018, [6, 8, 10, 39, 40, 41], c10_l0)]) (by kernel_rfl) ⟨(updL_ok (O180_l0 N N)), trivial⟩) (fun x k => by kernel_rfl)
def ratchetbase_Ints_l0 (N : Nat) {R : Type} (k0 : Bool → Option R) (k1 : Option R) : Nat → List Int → List Int → Int → Option R
  | 0, _, _, _ => none
  | n + 1, b0, b1, b2 => (bif decide (b2 < ((b0.length : Nat) : Int)) then ((at? b0 b2).bind fun x1 => ((at? b1 b2).bind fun x2 => (bif decide (x1 ≠ x2) then (k0 false) else (ratchetbase_Ints_l0 N k0 k1 n b0 b1 (w64 (b2 + 1)))))) else k1)
def P181_l0 : SP := ⟨[(0, pL [hI]), (1, pL [hI]), (5, pI)], []⟩
def E181_l0 (N : Nat) {R : Type} (n : Nat) (x : P181_l0.den) (k : KS R) : Option R := ratchetbase_Ints_l0 N (fun r0 => k .ret ⟨[(4, dB r0)], []⟩) (k (.ex 0) ⟨[], []⟩) n x.1.1 x.1.2.1 x.1.2.2.1
theorem O181_l0 (N : Nat) {R : Type} : LpG T P181_l0 (E181_l0 N (R := R)) [0, 1, 5] c20_l0 :=
  loop_ok (F180_ok N) (H := noH) (Lp := noL) (X := noX) (p := 58) (LOK0 (by kernel_rfl)) (fun _ _ => rfl) (fun n x k => by kernel_rfl)
noncomputable def L181_1 (N : Nat) {R : Type} : LpS R := updL noL 58 (lent' P181_l0 (E181_l0 N N))
def ratchetbase_Ints (N : Nat) {R : Type} (a0 : List Int) (a1 : List Int) (k0 : Bool → Option R) : Option R := (bif decide (((a0.length : Nat) : Int) ≠ ((a1.length : Nat) : Int)) then (k0 false) else (ratchetbase_Ints_l0 N k0 (k0 true) N a0 a1 0))
def P181 : AP := ⟨[pL [hI], pL [hI]], []⟩
def E181 (N : Nat) {R : Type} (x : P181.den) (k : KK R) : Option R := ratchetbase_Ints N x.1.1 x.1.2.1 (fun r0 => k [] [dB r0] [])
noncomputable def F181 (N : Nat) {R : Type} : CfS R := uC (F180 N) 20 P181 (E181 N)
theorem F181_ok (N : Nat) {R : Type} : FOK (F181 N : CfS R) (runF T) :=
  uC_ok (F180_ok N) (H := noH) (Lp := (L181_1 N)) (X := noX) (rp := []) (ver := c20) rfl (LOK_of (l := [(58, [0, 1, 5], c20_l0)]) (by kernel_rfl) ⟨(updL_ok (O181_l0 N N)), trivial⟩) (fun x k => by kernel_rfl)
def H182 : Nat → Option (List Sh) := fun n => if n = 18000 then some [hI] else if n = 20000 then some [hI] else if n = 48000 then some [hI] else none
def ratchettop_arithShown (N : Nat) {R : Type} (k0 : Bool → Option R) : Option R := (ratchetlaw30_Form N (fun y1 y2 y3 y4 => (arith_MulFixed N 27 24 y1 y2 y3 y4 (fun y5 y6 => (bits_MulWide N 4 9 4 5 (fun y7 y8 y9 => (arith_Filtered N [1, (-2)] 4 8 [3, 5, 15] (fun y10 y11 => (bif decide (y6 = 0) then (bif decide (y5 = 40) then (bif decide (y9 = 0) then (bif (false != (decide (y7 = 8) && (decide (y8 = 45) && true))) then (bif decide (y11 = 0) then (ratchetbase_Ints N y10 [3, 255, 245] k0) else (k0 false)) else (k0 false)) else (k0 false)) else (k0 false)) else (k0 false))))))))))
def P182 : AP := ⟨[], []⟩
def E182 (N : Nat) {R : Type} (x : P182.den) (k : KK R) : Option R := ratchettop_arithShown N (fun r0 => k [] [dB r0] [])
noncomputable def F182 (N : Nat) {R : Type} : CfS R := uC (F181 N) 6 P182 (E182 N)
theorem F182_ok (N : Nat) {R : Type} : FOK (F182 N : CfS R) (runF T) :=
  uC_ok (F181_ok N) (H := H182) (Lp := noL) (X := noX) (rp := []) (ver := c6) rfl (LOK0 (by kernel_rfl)) (fun x k => by kernel_rfl)
def ratchetbase_Within (N : Nat) {R : Type} (a0 : Int) (a1 : Int) (a2 : Int) (k0 : Bool → Option R) : Option R := (bif decide (a1 ≤ a0) then (k0 (decide (a0 ≤ a2))) else (k0 false))
def P183 : AP := ⟨[pI, pI, pI], []⟩
def E183 (N : Nat) {R : Type} (x : P183.den) (k : KK R) : Option R := ratchetbase_Within N x.1.1 x.1.2.1 x.1.2.2.1 (fun r0 => k [] [dB r0] [])
noncomputable def F183 (N : Nat) {R : Type} : CfS R := uC (F182 N) 31 P183 (E183 N)
theorem F183_ok (N : Nat) {R : Type} : FOK (F183 N : CfS R) (runF T) :=
  uC_ok (F182_ok N) (H := noH) (Lp := noL) (X := noX) (rp := []) (ver := c31) rfl (LOK0 (by kernel_rfl)) (fun x k => by kernel_rfl)
def ratchetbase_Power (N : Nat) {R : Type} (a0 : Int) (k0 : Int → Option R) : Option R := (bif decide (a0 < 0) then none else (k0 (shl' .i64 1 a0)))
def P184 : AP := ⟨[pI], []⟩
def E184 (N : Nat) {R : Type} (x : P184.den) (k : KK R) : Option R := ratchetbase_Power N x.1.1 (fun r0 => k [] [dI r0] [])
noncomputable def F184 (N : Nat) {R : Type} : CfS R := uC (F183 N) 17 P184 (E184 N)
theorem F184_ok (N : Nat) {R : Type} : FOK (F184 N : CfS R) (runF T) :=
  uC_ok (F183_ok N) (H := noH) (Lp := noL) (X := noX) (rp := []) (ver := c17) rfl (LOK0 (by kernel_rfl)) (fun x k => by kernel_rfl)
def ratchetbase_Fits (N : Nat) {R : Type} (a0 : Int) (a1 : Int) (k0 : Bool → Option R) : Option R := (ratchetbase_Power N a1 (fun y1 => (ratchetbase_Within N a0 0 (w64 (y1 - 1)) k0)))
def P185 : AP := ⟨[pI, pI], []⟩
def E185 (N : Nat) {R : Type} (x : P185.den) (k : KK R) : Option R := ratchetbase_Fits N x.1.1 x.1.2.1 (fun r0 => k [] [dB r0] [])
noncomputable def F185 (N : Nat) {R : Type} : CfS R := uC (F184 N) 32 P185 (E185 N)
theorem F185_ok (N : Nat) {R : Type} : FOK (F185 N : CfS R) (runF T) :=
  uC_ok (F184_ok N) (H := noH) (Lp := noL) (X := noX) (rp := []) (ver := c32) rfl (LOK0 (by kernel_rfl)) (fun x k => by kernel_rfl)
def H186 : Nat → Option (List Sh) := fun n => if n = 14000 then some [hI] else none
def bits_pair (N : Nat) {R : Type} (a0 : Int) (a1 : Int) (a2 : Int) (a3 : Int) (k0 : Int → Option R) : Option R := (bits_CheckBits N a0 a1 (fun y1 => (bits_CheckBits N a2 a3 (fun y2 => (bits_unless N (decide (a0 = a2)) 25 (fun y3 => (bits_first N [y1, y2, y3] k0)))))))
def P186 : AP := ⟨[.agg [pI, pI], .agg [pI, pI]], []⟩
def E186 (N : Nat) {R : Type} (x : P186.den) (k : KK R) : Option R := bits_pair N x.1.1.1 x.1.1.2.1 x.1.2.1.1 x.1.2.1.2.1 (fun r0 => k [] [dI r0] [])
noncomputable def F186 (N : Nat) {R : Type} : CfS R := uC (F185 N) 70 P186 (E186 N)
theorem F186_ok (N : Nat) {R : Type} : FOK (F186 N : CfS R) (runF T) :=
  uC_ok (F185_ok N) (H := H186) (Lp := noL) (X := noX) (rp := []) (ver := c70) rfl (LOK0 (by kernel_rfl)) (fun x k => by kernel_rfl)
def bits_isBit (N : Nat) {R : Type} (a0 : Int) (k0 : Bool → Option R) : Option R := (bits_within N a0 0 1 k0)
def P187 : AP := ⟨[pI], []⟩
def E187 (N : Nat) {R : Type} (x : P187.den) (k : KK R) : Option R := bits_isBit N x.1.1 (fun r0 => k [] [dB r0] [])
noncomputable def F187 (N : Nat) {R : Type} : CfS R := uC (F186 N) 72 P187 (E187 N)
theorem F187_ok (N : Nat) {R : Type} : FOK (F187 N : CfS R) (runF T) :=
  uC_ok (F186_ok N) (H := noH) (Lp := noL) (X := noX) (rp := []) (ver := c72) rfl (LOK0 (by kernel_rfl)) (fun x k => by kernel_rfl)
def bits_word_top (N : Nat) {R : Type} (a0 : Int) (a1 : Int) (k0 : Int → Option R) : Option R := (bif decide ((w64 (a0 - 1)) < 0) then none else (k0 (shr' .i64 a1 (w64 (a0 - 1)))))
def P188 : AP := ⟨[.agg [pI, pI]], []⟩
def E188 (N : Nat) {R : Type} (x : P188.den) (k : KK R) : Option R := bits_word_top N x.1.1.1 x.1.1.2.1 (fun r0 => k [] [dI r0] [])
noncomputable def F188 (N : Nat) {R : Type} : CfS R := uC (F187 N) 111 P188 (E188 N)
theorem F188_ok (N : Nat) {R : Type} : FOK (F188 N : CfS R) (runF T) :=
  uC_ok (F187_ok N) (H := noH) (Lp := noL) (X := noX) (rp := []) (ver := c111) rfl (LOK0 (by kernel_rfl)) (fun x k => by kernel_rfl)
def bits_word_signed (N : Nat) {R : Type} (a0 : Int) (a1 : Int) (k0 : Int → Option R) : Option R := (bits_word_top N a0 a1 (fun y1 => (bif decide (a0 < 0) then none else (k0 (w64 (a1 - (shl' .i64 y1 a0)))))))
def P189 : AP := ⟨[.agg [pI, pI]], []⟩
def E189 (N : Nat) {R : Type} (x : P189.den) (k : KK R) : Option R := bits_word_signed N x.1.1.1 x.1.1.2.1 (fun r0 => k [] [dI r0] [])
noncomputable def F189 (N : Nat) {R : Type} : CfS R := uC (F188 N) 74 P189 (E189 N)
theorem F189_ok (N : Nat) {R : Type} : FOK (F189 N : CfS R) (runF T) :=
  uC_ok (F188_ok N) (H := noH) (Lp := noL) (X := noX) (rp := []) (ver := c74) rfl (LOK0 (by kernel_rfl)) (fun x k => by kernel_rfl)
def bits_one (N : Nat) {R : Type} (a0 : Bool) (k0 : Int → Option R) : Option R := (bif a0 then (k0 1) else (k0 0))
def P190 : AP := ⟨[pB], []⟩
def E190 (N : Nat) {R : Type} (x : P190.den) (k : KK R) : Option R := bits_one N x.1.1 (fun r0 => k [] [dI r0] [])
noncomputable def F190 (N : Nat) {R : Type} : CfS R := uC (F189 N) 110 P190 (E190 N)
theorem F190_ok (N : Nat) {R : Type} : FOK (F190 N : CfS R) (runF T) :=
  uC_ok (F189_ok N) (H := noH) (Lp := noL) (X := noX) (rp := []) (ver := c110) rfl (LOK0 (by kernel_rfl)) (fun x k => by kernel_rfl)
def bits_flags (N : Nat) {R : Type} (a0 : Int) (a1 : Int) (a2 : Int) (k0 : Int → Int → Int → Int → Int → Int → Option R) : Option R := (bits_of N a1 a0 (fun y1 y2 => (bif decide (a0 < 0) then none else (bits_within N a1 0 (w64 ((shl' .i64 1 a0) - 1)) (fun y3 => (bits_one N (!y3) (fun y4 => (bits_word_signed N y1 y2 (fun y5 => (bits_one N (decide (y5 ≠ a2)) (fun y6 => (bits_one N (decide (y2 = 0)) (fun y7 => (bits_word_top N y1 y2 (fun y8 => (k0 y1 y2 y4 y6 y7 y8))))))))))))))))
def P191 : AP := ⟨[pI, pI, pI], []⟩
def E191 (N : Nat) {R : Type} (x : P191.den) (k : KK R) : Option R := bits_flags N x.1.1 x.1.2.1 x.1.2.2.1 (fun r0 r1 r2 r3 r4 r5 => k [] [.agg [dI r0, dI r1, dI r2, dI r3, dI r4, dI r5]] [])
noncomputable def F191 (N : Nat) {R : Type} : CfS R := uC (F190 N) 73 P191 (E191 N)
theorem F191_ok (N : Nat) {R : Type} : FOK (F191 N : CfS R) (runF T) :=
  uC_ok (F190_ok N) (H := noH) (Lp := noL) (X := noX) (rp := []) (ver := c73) rfl (LOK0 (by kernel_rfl)) (fun x k => by kernel_rfl)
def H192 : Nat → Option (List Sh) := fun n => if n = 11000 then some [hI] else none
def bits_AddWith (N : Nat) {R : Type} (a0 : Int) (a1 : Int) (a2 : Int) (a3 : Int) (a4 : Int) (k0 : Int → Int → Int → Int → Int → Int → Int → Option R) : Option R := (bits_pair N a0 a1 a2 a3 (fun y1 => (bits_isBit N a4 (fun y2 => (bits_unless N y2 2 (fun y3 => (bits_first N [y1, y3] (fun y4 => (bif decide (y4 ≠ 0) then (k0 0 0 0 0 0 0 y4) else (bits_word_signed N a0 a1 (fun y5 => (bits_word_signed N a2 a3 (fun y6 => (bits_flags N a0 (w64 ((w64 (a1 + a3)) + a4)) (w64 ((w64 (y5 + y6)) + a4)) (fun y7 y8 y9 y10 y11 y12 => (k0 y7 y8 y9 y10 y11 y12 0))))))))))))))))
def P192 : AP := ⟨[.agg [pI, pI], .agg [pI, pI], pI], []⟩
def E192 (N : Nat) {R : Type} (x : P192.den) (k : KK R) : Option R := bits_AddWith N x.1.1.1 x.1.1.2.1 x.1.2.1.1 x.1.2.1.2.1 x.1.2.2.1 (fun r0 r1 r2 r3 r4 r5 r6 => k [] [.agg [dI r0, dI r1, dI r2, dI r3, dI r4, dI r5], dI r6] [])
noncomputable def F192 (N : Nat) {R : Type} : CfS R := uC (F191 N) 33 P192 (E192 N)
theorem F192_ok (N : Nat) {R : Type} : FOK (F192 N : CfS R) (runF T) :=
  uC_ok (F191_ok N) (H := H192) (Lp := noL) (X := noX) (rp := []) (ver := c33) rfl (LOK0 (by kernel_rfl)) (fun x k => by kernel_rfl)
def H193 : Nat → Option (List Sh) := fun n => if n = 13000 then some [hI] else if n = 24000 then some [hI] else none
def bits_FieldOf_j0 (N : Nat) {R : Type} (k0 : Int → Int → Int → Option R) (b0 : Int) (b1 : Int) (b2 : Int) (b3 : Int) (b4 : Int) (b5 : Int) (b6 : Int) : Option R := (bits_unless N (decide ((w64 (b0 + b1)) ≤ b3)) 25 (fun y1 => (bits_first N [b2, y1] (fun y2 => (bif decide (y2 ≠ 0) then (k0 y2 0 0) else (bif decide (b0 < 0) then none else (bits_of N (shr' .i64 b4 b0) b1 (fun y3 y4 => (k0 0 y3 y4)))))))))
def P193_j0 : SP := ⟨[(1, pI), (2, pI), (3, .ptr 0 0), (6, .ptr 1 0), (8, pI)], [(0, .box [pI, pI]), (1, .box [pI, pI])]⟩
def E193_j0 (N : Nat) {R : Type} (n : Nat) (x : P193_j0.den) (k : KS R) : Option R := match n with
  | 0 => none
  | _ + 1 => bits_FieldOf_j0 N (fun r0 r1 r2 => k .ret ⟨[(6, .ptr 0 0), (7, dI r0)], [(0, .box [dI r1, dI r2])]⟩) x.1.1 x.1.2.1 x.1.2.2.2.2.1 x.2.1.1 x.2.1.2.1 x.2.2.1.1 x.2.2.1.2.1
theorem O193_j0 (N : Nat) {R : Type} : LpG T P193_j0 (E193_j0 N (R := R)) [1, 2, 3, 6, 8] c35_j0 :=
  loop_ok (F192_ok N) (H := H193) (Lp := noL) (X := noX) (p := 14) (LOK0 (by kernel_rfl)) (fun _ _ => rfl) (fun n x k => by kernel_rfl)
noncomputable def L193_1 (N : Nat) {R : Type} : LpS R := updL noL 14 (lent' P193_j0 (E193_j0 N 1))
def bits_FieldOf (N : Nat) {R : Type} (a0 : Int) (a1 : Int) (a2 : Int) (a3 : Int) (k0 : Int → Int → Int → Option R) : Option R := (bits_CheckBits N a0 a1 (fun y1 => (bits_within N a2 0 16 (fun y2 => (bif y2 then (bits_isWidth N a3 (fun y3 => (bits_unless N y3 2 (fun y4 => (bits_first N [y1, y4] (fun y5 => (bits_FieldOf_j0 N (fun z6 z7 z8 => (k0 z7 z8 z6)) a2 a3 y5 a0 a1 0 0))))))) else (bits_unless N false 2 (fun y9 => (bits_first N [y1, y9] (fun y10 => (bits_FieldOf_j0 N (fun z11 z12 z13 => (k0 z12 z13 z11)) a2 a3 y10 a0 a1 0 0))))))))))
def P193 : AP := ⟨[.agg [pI, pI], pI, pI], []⟩
def E193 (N : Nat) {R : Type} (x : P193.den) (k : KK R) : Option R := bits_FieldOf N x.1.1.1 x.1.1.2.1 x.1.2.1 x.1.2.2.1 (fun r0 r1 r2 => k [] [.agg [dI r0, dI r1], dI r2] [])
noncomputable def F193 (N : Nat) {R : Type} : CfS R := uC (F192 N) 35 P193 (E193 N)
theorem F193_ok (N : Nat) {R : Type} : FOK (F193 N : CfS R) (runF T) :=
  uC_ok (F192_ok N) (H := H193) (Lp := (L193_1 N)) (X := noX) (rp := []) (ver := c35) rfl (LOK_of (l := [(14, [1, 2, 3, 6, 8], c35_j0)]) (by kernel_rfl) ⟨(updL_ok (O193_j0 N 1)), trivial⟩) (fun x k => by kernel_rfl)
def ratchetbase_Mod (N : Nat) {R : Type} (a0 : Int) (a1 : Int) (k0 : Int → Option R) : Option R := (bif decide (a1 = 0) then none else (bif decide ((Int.tmod a0 a1) < 0) then (k0 (w64 ((Int.tmod a0 a1) + a1))) else (k0 (Int.tmod a0 a1))))
def P194 : AP := ⟨[pI, pI], []⟩
def E194 (N : Nat) {R : Type} (x : P194.den) (k : KK R) : Option R := ratchetbase_Mod N x.1.1 x.1.2.1 (fun r0 => k [] [dI r0] [])
noncomputable def F194 (N : Nat) {R : Type} : CfS R := uC (F193 N) 16 P194 (E194 N)
theorem F194_ok (N : Nat) {R : Type} : FOK (F194 N : CfS R) (runF T) :=
  uC_ok (F193_ok N) (H := noH) (Lp := noL) (X := noX) (rp := []) (ver := c16) rfl (LOK0 (by kernel_rfl)) (fun x k => by kernel_rfl)
def H195 : Nat → Option (List Sh) := fun n => if n = 7000 then some [hI] else none
def arith_AddFixed (N : Nat) {R : Type} (a0 : Int) (a1 : Int) (a2 : Int) (a3 : Int) (a4 : Int) (a5 : Int) (k0 : Int → Int → Option R) : Option R := (arith_opened N a2 a3 a4 a5 [a0, a1] (fun y1 y2 y3 y4 y5 => (bif decide (y5 ≠ 0) then (k0 0 y5) else (arith_form_signed N y1 y2 y3 y4 a0 (fun y6 => (arith_form_signed N y1 y2 y3 y4 a1 (fun y7 => (arith_form_fixed N y1 y2 y3 y4 (w64 (y6 + y7)) 1 (fun y8 => (k0 y8 0))))))))))
def P195 : AP := ⟨[pI, pI, .agg [pI, pI, pI, pI]], []⟩
def E195 (N : Nat) {R : Type} (x : P195.den) (k : KK R) : Option R := arith_AddFixed N x.1.1 x.1.2.1 x.1.2.2.1.1 x.1.2.2.1.2.1 x.1.2.2.1.2.2.1 x.1.2.2.1.2.2.2.1 (fun r0 r1 => k [] [dI r0, dI r1] [])
noncomputable def F195 (N : Nat) {R : Type} : CfS R := uC (F194 N) 36 P195 (E195 N)
theorem F195_ok (N : Nat) {R : Type} : FOK (F195 N : CfS R) (runF T) :=
  uC_ok (F194_ok N) (H := H195) (Lp := noL) (X := noX) (rp := []) (ver := c36) rfl (LOK0 (by kernel_rfl)) (fun x k => by kernel_rfl)
def ratchettop_TopArithBits (N : Nat) {R : Type} (a0 : Int) (a1 : Int) (a2 : Int) (a3 : Int) (a4 : Int) (k0 : Bool → Option R) : Option R := (ratchettop_arithShown N (fun y1 => (bif (!y1) then (k0 false) else (ratchetbase_Within N a0 2 8 (fun y2 => (bif (!y2) then (k0 true) else (bif decide (a2 ≠ a0) then (k0 true) else (ratchetbase_Fits N a1 a0 (fun y3 => (bif (!y3) then (k0 true) else (ratchetbase_Fits N a3 a0 (fun y4 => (bif (!y4) then (k0 true) else (bits_AddWith N a0 a1 a2 a3 0 (fun y5 y6 y7 y8 y9 y10 y11 => (bits_MulWide N a0 a1 a2 a3 (fun y12 y13 y14 => (bif decide (y11 ≠ 0) then (k0 false) else (bif decide (y14 ≠ 0) then (k0 false) else (bits_FieldOf N y12 y13 0 a0 (fun y15 y16 y17 => (ratchetbase_Mod N a4 a0 (fun y18 => (ratchetbase_Mod N a4 a0 (fun y19 => (arith_AddFixed N a1 a3 a0 y18 0 0 (fun y20 y21 => (arith_AddFixed N a1 a3 a0 y19 0 1 (fun y22 y23 => (arith_MulFixed N a1 a3 a0 0 0 0 (fun y24 y25 => (bif decide (y17 ≠ 0) then (k0 false) else (bif decide (y21 ≠ 0) then (k0 false) else (bif decide (y23 ≠ 0) then (k0 false) else (bif decide (y25 ≠ 0) then (k0 false) else (bif decide (y20 ≠ y6) then (k0 false) else (bif decide (y24 ≠ y16) then (k0 false) else (bif decide (y8 = 0) then (k0 (decide (y22 = y20))) else (ratchetbase_Power N (w64 (a0 - 1)) (fun y26 => (bif decide (y26 ≤ a1) then (ratchetbase_Power N (w64 (a0 - 1)) (fun y27 => (k0 (decide (y22 = y27))))) else (ratchetbase_Power N (w64 (a0 - 1)) (fun y28 => (k0 (decide (y22 = (w64 (y28 - 1))))))))))))))))))))))))))))))))))))))))))))))))
def P196 : AP := ⟨[.agg [pI, pI], .agg [pI, pI], pI], []⟩
def E196 (N : Nat) {R : Type} (x : P196.den) (k : KK R) : Option R := ratchettop_TopArithBits N x.1.1.1 x.1.1.2.1 x.1.2.1.1 x.1.2.1.2.1 x.1.2.2.1 (fun r0 => k [] [dB r0] [])
noncomputable def F196 (N : Nat) {R : Type} : CfS R := uC (F195 N) 5 P196 (E196 N)
theorem F196_ok (N : Nat) {R : Type} : FOK (F196 N : CfS R) (runF T) :=
  uC_ok (F195_ok N) (H := noH) (Lp := noL) (X := noX) (rp := []) (ver := c5) rfl (LOK0 (by kernel_rfl)) (fun x k => by kernel_rfl)
/-- What is left to show. -/
def PureTopArithBits : Prop := ∀ (x0 : Int × Int) (x1 : Int × Int) (x2 : Int), okL [hI, hI] x0 → okL [hI, hI] x1 → okL [hI] x2 → ∃ N, ∀ {R : Type} (k : Bool → Option R), ratchettop_TopArithBits N x0.1 x0.2 x1.1 x1.2 x2 k = k true
end Am
end Go.Proofs.YtfdmmnfjdifccaaGreatDoor
