/- Each function that is reached as a function on plain data, and that the version comes to it. -/
import Derived.Test.YtfdmmnfjdifccaaGreatDoorTFF0
set_option linter.unusedVariables false
set_option linter.constructorNameAsVariable false
set_option maxRecDepth 100000
namespace Go.Proofs.YtfdmmnfjdifccaaGreatDoor
namespace Am
def H172 : Nat → Option (List Sh) := fun n => if n = 23000 then some [hI] else if n = 33000 then some [hI] else none
def graph_valued_l0 (N : Nat) {R : Type} (k0 : List Int → Option R) : Nat → zt2 → List Int → zt2 → Int → Int → List Int → Option R
  | 0, _, _, _, _, _, _ => none
  | n + 1, b0, b1, b2, b3, b4, b5 => (bif decide (b4 < b3) then ((at? b2 b4).bind fun x1 => (bif decide (x1.1 = 1) then ((at? b1 x1.2.2.2).bind fun x2 => (bif roomB (b5.length + 1) 8 then (graph_valued_l0 N k0 n b0 b1 b2 b3 (w64 (b4 + 1)) (b5 ++ [x2])) else none)) else (graph_applied N b0 x1.1 x1.2.1 x1.2.2.1 x1.2.2.2 b5 (fun y3 => (bif roomB (b5.length + 1) 8 then (graph_valued_l0 N k0 n b0 b1 b2 b3 (w64 (b4 + 1)) (b5 ++ [y3])) else none))))) else (k0 b5))
def P172_l0 : SP := ⟨[(0, pL zs1), (1, pL [hI]), (5, .ptr 0 0), (6, .own 1), (11, pL zs1), (12, pI), (13, pI)], [(0, .box [.p (.ks (ByteArray.mk #[99, 111, 110, 115, 116])), .p (.ki .i64 0), .p (.kb true), .p (.fn 208 []), .p (.fn 207 []), .p (.ks (ByteArray.mk #[108, 101, 97, 102])), .p (.ki .i64 0), .p (.kb true), .p (.fn 208 []), .p (.fn 207 []), .p (.ks (ByteArray.mk #[110, 111, 116])), .p (.ki .i64 1), .p (.kb false), .p (.fn 209 []), .p (.fn 210 []), .p (.ks (ByteArray.mk #[97, 110, 100])), .p (.ki .i64 2), .p (.kb false), .p (.fn 209 []), .p (.fn 244 [.cp [.fn 213 []]]), .p (.ks (ByteArray.mk #[111, 114])), .p (.ki .i64 2), .p (.kb false), .p (.fn 209 []), .p (.fn 244 [.cp [.fn 214 []]]), .p (.ks (ByteArray.mk #[120, 111, 114])), .p (.ki .i64 2), .p (.kb false), .p (.fn 209 []), .p (.fn 244 [.cp [.fn 215 []]]), .p (.ks (ByteArray.mk #[97, 100, 100])), .p (.ki .i64 2), .p (.kb false), .p (.fn 209 []), .p (.fn 244 [.cp [.fn 216 []]]), .p (.ks (ByteArray.mk #[115, 117, 98])), .p (.ki .i64 2), .p (.kb false), .p (.fn 209 []), .p (.fn 244 [.cp [.fn 217 []]]), .p (.ks (ByteArray.mk #[109, 117, 108])), .p (.ki .i64 2), .p (.kb false), .p (.fn 209 []), .p (.fn 244 [.cp [.fn 218 []]]), .p (.ks (ByteArray.mk #[101, 113])), .p (.ki .i64 2), .p (.kb false), .p (.fn 245 []), .p (.fn 246 [.cp [.fn 220 []]]), .p (.ks (ByteArray.mk #[108, 116])), .p (.ki .i64 2), .p (.kb false), .p (.fn 245 []), .p (.fn 246 [.cp [.fn 221 []]]), .p (.ks (ByteArray.mk #[115, 108, 116])), .p (.ki .i64 2), .p (.kb false), .p (.fn 245 []), .p (.fn 246 [.cp [.fn 222 []]]), .p (.ks (ByteArray.mk #[109, 117, 120])), .p (.ki .i64 3), .p (.kb false), .p (.fn 224 []), .p (.fn 225 []), .p (.ks (ByteArray.mk #[106, 111, 105, 110])), .p (.ki .i64 2), .p (.kb false), .p (.fn 226 []), .p (.fn 227 []), .p (.ks (ByteArray.mk #[115, 108, 105, 99, 101])), .p (.ki .i64 1), .p (.kb true), .p (.fn 228 []), .p (.fn 229 []), .p (.ks (ByteArray.mk #[122, 101, 120, 116])), .p (.ki .i64 1), .p (.kb false), .p (.fn 230 []), .p (.fn 231 []), .p (.ks (ByteArray.mk #[115, 101, 120, 116])), .p (.ki .i64 1), .p (.kb false), .p (.fn 230 []), .p (.fn 232 []), .p (.ks (ByteArray.mk #[115, 104, 108])), .p (.ki .i64 2), .p (.kb false), .p (.fn 233 []), .p (.fn 234 []), .p (.ks (ByteArray.mk #[115, 104, 114])), .p (.ki .i64 2), .p (.kb false), .p (.fn 233 []), .p (.fn 235 [])]), (1, .arr [hI])]⟩
def E172_l0 (N : Nat) {R : Type} (n : Nat) (x : P172_l0.den) (k : KS R) : Option R := graph_valued_l0 N (fun r0 => k (.ex 0) ⟨[(6, .own 0)], [(0, .arr (.t [hI] r0))]⟩) n x.1.1 x.1.2.1 x.1.2.2.2.2.1 x.1.2.2.2.2.2.1 x.1.2.2.2.2.2.2.1 x.2.2.1
theorem O172_l0 (N : Nat) {R : Type} : LpG T P172_l0 (E172_l0 N (R := R)) [0, 1, 5, 6, 11, 12, 13] c155_l0 :=
  loop_ok (F171_ok N) (H := H172) (Lp := noL) (X := noX) (p := 122) (LOK0 (by kernel_rfl)) (fun _ _ => rfl) (fun n x k => by kernel_rfl)
noncomputable def L172_1 (N : Nat) {R : Type} : LpS R := updL noL 122 (lent' P172_l0 (E172_l0 N N))
def graph_valued (N : Nat) {R : Type} (a0 : zt2) (a1 : List Int) (k0 : List Int → Option R) : Option R := (graph_operations N (graph_valued_l0 N k0 N a0 a1 a0 ((a0.length : Nat) : Int) 0 []))
def P172 : AP := ⟨[pL zs1, pL [hI]], []⟩
def E172 (N : Nat) {R : Type} (x : P172.den) (k : KK R) : Option R := graph_valued N x.1.1 x.1.2.1 (fun r0 => k [] [dL [hI] r0] [])
noncomputable def F172 (N : Nat) {R : Type} : CfS R := uC (F171 N) 155 P172 (E172 N)
theorem F172_ok (N : Nat) {R : Type} : FOK (F172 N : CfS R) (runF T) :=
  uC_ok (F171_ok N) (H := H172) (Lp := (L172_1 N)) (X := noX) (rp := []) (ver := c155) rfl (LOK_of (l := [(122, [0, 1, 5, 6, 11, 12, 13], c155_l0)]) (by kernel_rfl) ⟨(updL_ok (O172_l0 N N)), trivial⟩) (fun x k => by kernel_rfl)
def H173 : Nat → Option (List Sh) := fun n => if n = 13000 then some [hI] else none
def graph_ValuesOf (N : Nat) {R : Type} (a0 : List Int) (a1 : zt2) (a2 : List Int) (k0 : List Int → Int → Option R) : Option R := (graph_graphErr N a0 a1 (fun y1 => (graph_unless N (decide (((a2.length : Nat) : Int) = ((a0.length : Nat) : Int))) 10 (fun y2 => (graph_first N [y1, y2] (fun y3 => (bif decide (y3 ≠ 0) then (k0 [] y3) else (graph_each_int_ValuesOf_c1 N a2 a0 (fun y4 y5 y6 => (bif decide (y5 ≠ 0) then (k0 [] y5) else (graph_valued N a1 a2 (fun y7 => (k0 y7 0)))))))))))))
def P173 : AP := ⟨[pL [hI], pL zs1, pL [hI]], []⟩
def E173 (N : Nat) {R : Type} (x : P173.den) (k : KK R) : Option R := graph_ValuesOf N x.1.1 x.1.2.1 x.1.2.2.1 (fun r0 r1 => k [] [dL [hI] r0, dI r1] [])
noncomputable def F173 (N : Nat) {R : Type} : CfS R := uC (F172 N) 89 P173 (E173 N)
theorem F173_ok (N : Nat) {R : Type} : FOK (F173 N : CfS R) (runF T) :=
  uC_ok (F172_ok N) (H := H173) (Lp := noL) (X := noX) (rp := [⟨[pL [hI], pI], []⟩]) (ver := c89) rfl (LOK0 (by kernel_rfl)) (fun x k => by kernel_rfl)
def H174 : Nat → Option (List Sh) := fun n => if n = 11000 then some [.sl [hI]] else none
def design_network_values (N : Nat) {R : Type} (a0 : ByteArray) (a1 : zt5) (a2 : zt1) (a3 : zt2) (a4 : zt0) (a5 : zt5) (a6 : zt4) (a7 : List Int) (a8 : List Int) (k0 : List Int → Option R) : Option R := (design_leaves N a0 a1 a2 a3 a4 a5 a6 (fun y1 => (slices_Concat_state_int N [a7, a8] (fun y2 => (graph_ValuesOf N y1 a3 y2 (fun y3 y4 => (k0 y3)))))))
def P174 : AP := ⟨[.agg [pS, pL [.s, hI], pL zs2, pL zs1, pL zs0, pL [.s, hI], pL zs3], pL [hI], pL [hI]], []⟩
def E174 (N : Nat) {R : Type} (x : P174.den) (k : KK R) : Option R := design_network_values N x.1.1.1 x.1.1.2.1 x.1.1.2.2.1 x.1.1.2.2.2.1 x.1.1.2.2.2.2.1 x.1.1.2.2.2.2.2.1 x.1.1.2.2.2.2.2.2.1 x.1.2.1 x.1.2.2.1 (fun r0 => k [] [dL [hI] r0] [])
noncomputable def F174 (N : Nat) {R : Type} : CfS R := uC (F173 N) 52 P174 (E174 N)
theorem F174_ok (N : Nat) {R : Type} : FOK (F174 N : CfS R) (runF T) :=
  uC_ok (F173_ok N) (H := H174) (Lp := noL) (X := noX) (rp := []) (ver := c52) rfl (LOK0 (by kernel_rfl)) (fun x k => by kernel_rfl)
def X175 : Nat → List SP := fun p => if p = 117 then [⟨[(6, .own 0), (7, pI)], [(0, .arr [hI])]⟩] else []
def H175 : Nat → Option (List Sh) := fun n => if n = 40000 then some [hI] else none
def design_OutputsIn_l0 (N : Nat) {R : Type} (k0 : List Int → Option R) : Nat → List Int → zt5 → Int → Int → List Int → Option R
  | 0, _, _, _, _, _ => none
  | n + 1, b0, b1, b2, b3, b4 => (bif decide (b3 < b2) then ((at? b1 b3).bind fun x1 => ((at? b0 x1.2).bind fun x2 => (bif roomB (b4.length + 1) 8 then (design_OutputsIn_l0 N k0 n b0 b1 b2 (w64 (b3 + 1)) (b4 ++ [x2])) else none))) else (k0 b4))
def P175_l0 : SP := ⟨[(10, pL [hI]), (11, .own 0), (29, pL [.s, hI]), (30, pI), (31, pI)], [(0, .arr [hI])]⟩
def E175_l0 (N : Nat) {R : Type} (n : Nat) (x : P175_l0.den) (k : KS R) : Option R := design_OutputsIn_l0 N (fun r0 => k (.ex 0) ⟨[(11, .own 0)], [(0, .arr (.t [hI] r0))]⟩) n x.1.1 x.1.2.2.1 x.1.2.2.2.1 x.1.2.2.2.2.1 x.2.1
theorem O175_l0 (N : Nat) {R : Type} : LpG T P175_l0 (E175_l0 N (R := R)) [10, 11, 29, 30, 31] c14_l0 :=
  loop_ok (F174_ok N) (H := H175) (Lp := noL) (X := X175) (p := 506) (LOK0 (by kernel_rfl)) (fun _ _ => rfl) (fun n x k => by kernel_rfl)
noncomputable def L175_1 (N : Nat) {R : Type} : LpS R := updL noL 506 (lent' P175_l0 (E175_l0 N N))
def design_OutputsIn (N : Nat) {R : Type} (a0 : ByteArray) (a1 : zt5) (a2 : zt1) (a3 : zt2) (a4 : zt0) (a5 : zt5) (a6 : zt4) (a7 : List Int) (a8 : List Int) (k0 : List Int → Int → Option R) : Option R := (design_openState N a0 a1 a2 a3 a4 a5 a6 a7 a8 (fun y1 y2 y3 y4 y5 y6 y7 y8 => (bif decide (y8 ≠ 0) then (k0 [] y8) else (design_network_values N y1 y2 y3 y4 y5 y6 y7 a7 a8 (fun y9 => (design_OutputsIn_l0 N (fun z10 => (k0 z10 0)) N y9 a5 ((a5.length : Nat) : Int) 0 []))))))
def P175 : AP := ⟨[.agg [pS, pL [.s, hI], pL zs2, pL zs1, pL zs0, pL [.s, hI], pL zs3], pL [hI], pL [hI]], []⟩
def E175 (N : Nat) {R : Type} (x : P175.den) (k : KK R) : Option R := design_OutputsIn N x.1.1.1 x.1.1.2.1 x.1.1.2.2.1 x.1.1.2.2.2.1 x.1.1.2.2.2.2.1 x.1.1.2.2.2.2.2.1 x.1.1.2.2.2.2.2.2.1 x.1.2.1 x.1.2.2.1 (fun r0 r1 => k [] [dL [hI] r0, dI r1] [])
noncomputable def F175 (N : Nat) {R : Type} : CfS R := uC (F174 N) 14 P175 (E175 N)
theorem F175_ok (N : Nat) {R : Type} : FOK (F175 N : CfS R) (runF T) :=
  uC_ok (F174_ok N) (H := H175) (Lp := (L175_1 N)) (X := X175) (rp := []) (ver := c14) rfl (LOK_of (l := [(506, [10, 11, 29, 30, 31], c14_l0)]) (by kernel_rfl) ⟨(updL_ok (O175_l0 N N)), trivial⟩) (fun x k => by kernel_rfl)
def design_network_ruleErr (N : Nat) {R : Type} (a0 : ByteArray) (a1 : zt5) (a2 : zt1) (a3 : zt2) (a4 : zt0) (a5 : zt5) (a6 : zt4) (a7 : Int) (k0 : Int → Option R) : Option R := (design_within N a7 0 (w64 (((a4.length : Nat) : Int) - 1)) (fun y1 => (design_unless N y1 6 k0)))
def P176 : AP := ⟨[.agg [pS, pL [.s, hI], pL zs2, pL zs1, pL zs0, pL [.s, hI], pL zs3], pI], []⟩
def E176 (N : Nat) {R : Type} (x : P176.den) (k : KK R) : Option R := design_network_ruleErr N x.1.1.1 x.1.1.2.1 x.1.1.2.2.1 x.1.1.2.2.2.1 x.1.1.2.2.2.2.1 x.1.1.2.2.2.2.2.1 x.1.1.2.2.2.2.2.2.1 x.1.2.1 (fun r0 => k [] [dI r0] [])
noncomputable def F176 (N : Nat) {R : Type} : CfS R := uC (F175 N) 54 P176 (E176 N)
theorem F176_ok (N : Nat) {R : Type} : FOK (F176 N : CfS R) (runF T) :=
  uC_ok (F175_ok N) (H := noH) (Lp := noL) (X := noX) (rp := []) (ver := c54) rfl (LOK0 (by kernel_rfl)) (fun x k => by kernel_rfl)
def design_network_isEnabled (N : Nat) {R : Type} (a0 : ByteArray) (a1 : zt5) (a2 : zt1) (a3 : zt2) (a4 : zt0) (a5 : zt5) (a6 : zt4) (a7 : Int) (a8 : List Int) (k0 : Bool → Option R) : Option R := ((at? a4 a7).bind fun x1 => ((at? a8 x1.2.1).bind fun x2 => (k0 (decide (x2 = 1)))))
def P177 : AP := ⟨[.agg [pS, pL [.s, hI], pL zs2, pL zs1, pL zs0, pL [.s, hI], pL zs3], pI, pL [hI]], []⟩
def E177 (N : Nat) {R : Type} (x : P177.den) (k : KK R) : Option R := design_network_isEnabled N x.1.1.1 x.1.1.2.1 x.1.1.2.2.1 x.1.1.2.2.2.1 x.1.1.2.2.2.2.1 x.1.1.2.2.2.2.2.1 x.1.1.2.2.2.2.2.2.1 x.1.2.1 x.1.2.2.1 (fun r0 => k [] [dB r0] [])
noncomputable def F177 (N : Nat) {R : Type} : CfS R := uC (F176 N) 57 P177 (E177 N)
theorem F177_ok (N : Nat) {R : Type} : FOK (F177 N : CfS R) (runF T) :=
  uC_ok (F176_ok N) (H := noH) (Lp := noL) (X := noX) (rp := []) (ver := c57) rfl (LOK0 (by kernel_rfl)) (fun x k => by kernel_rfl)
def design_network_happened_l0 (N : Nat) {R : Type} (k0 : List Int → Option R) : Nat → List Int → zt6 → Int → Int → List Int → Option R
  | 0, _, _, _, _, _ => none
  | n + 1, b0, b1, b2, b3, b4 => (bif decide (b3 < b2) then ((at? b1 b3).bind fun x1 => ((at? b0 x1.2.1).bind fun x2 => (bif decide (x2 = 1) then ((at? b0 x1.2.2).bind fun x3 => (bif inR x1.1 b4.length then ((b4[x1.1.toNat]?).bind fun x4 => (design_network_happened_l0 N k0 n b0 b1 b2 (w64 (b3 + 1)) (List.set b4 x1.1.toNat x3))) else none)) else (design_network_happened_l0 N k0 n b0 b1 b2 (w64 (b3 + 1)) b4)))) else (k0 b4))
def P178_l0 : SP := ⟨[(2, pL [hI]), (9, .own 0), (20, pL zs4), (21, pI), (22, pI)], [(0, .arr [hI])]⟩
def E178_l0 (N : Nat) {R : Type} (n : Nat) (x : P178_l0.den) (k : KS R) : Option R := design_network_happened_l0 N (fun r0 => k (.ex 0) ⟨[(9, .own 0)], [(0, .arr (.t [hI] r0))]⟩) n x.1.1 x.1.2.2.1 x.1.2.2.2.1 x.1.2.2.2.2.1 x.2.1
theorem O178_l0 (N : Nat) {R : Type} : LpG T P178_l0 (E178_l0 N (R := R)) [2, 9, 20, 21, 22] c58_l0 :=
  loop_ok (F177_ok N) (H := noH) (Lp := noL) (X := noX) (p := 58) (LOK0 (by kernel_rfl)) (fun _ _ => rfl) (fun n x k => by kernel_rfl)
noncomputable def L178_1 (N : Nat) {R : Type} : LpS R := updL noL 58 (lent' P178_l0 (E178_l0 N N))
def design_network_happened (N : Nat) {R : Type} (a0 : ByteArray) (a1 : zt5) (a2 : zt1) (a3 : zt2) (a4 : zt0) (a5 : zt5) (a6 : zt4) (a7 : Int) (a8 : List Int) (a9 : List Int) (k0 : List Int → Option R) : Option R := (bif roomB a9.length 8 then ((at? a4 a7).bind fun x1 => (design_network_happened_l0 N k0 N a8 x1.2.2 ((x1.2.2.length : Nat) : Int) 0 a9)) else none)
def P178 : AP := ⟨[.agg [pS, pL [.s, hI], pL zs2, pL zs1, pL zs0, pL [.s, hI], pL zs3], pI, pL [hI], pL [hI]], []⟩
def E178 (N : Nat) {R : Type} (x : P178.den) (k : KK R) : Option R := design_network_happened N x.1.1.1 x.1.1.2.1 x.1.1.2.2.1 x.1.1.2.2.2.1 x.1.1.2.2.2.2.1 x.1.1.2.2.2.2.2.1 x.1.1.2.2.2.2.2.2.1 x.1.2.1 x.1.2.2.1 x.1.2.2.2.1 (fun r0 => k [] [dL [hI] r0] [])
noncomputable def F178 (N : Nat) {R : Type} : CfS R := uC (F177 N) 58 P178 (E178 N)
theorem F178_ok (N : Nat) {R : Type} : FOK (F178 N : CfS R) (runF T) :=
  uC_ok (F177_ok N) (H := noH) (Lp := (L178_1 N)) (X := noX) (rp := []) (ver := c58) rfl (LOK_of (l := [(58, [2, 9, 20, 21, 22], c58_l0)]) (by kernel_rfl) ⟨(updL_ok (O178_l0 N N)), trivial⟩) (fun x k => by kernel_rfl)
def H179 : Nat → Option (List Sh) := fun n => if n = 23000 then some [hI] else none
def design_Happened_j0 (N : Nat) {R : Type} (k0 : Int → Option R) (k1 : List Int → Int → Option R) (b0 : Int) (b1 : List Int) (b2 : List Int) (b3 : Int) (b4 : ByteArray) (b5 : zt5) (b6 : zt1) (b7 : zt2) (b8 : zt0) (b9 : zt5) (b10 : zt4) : Option R := (bif decide (b3 ≠ 0) then (k0 b3) else (design_network_values N b4 b5 b6 b7 b8 b9 b10 b1 b2 (fun y1 => (design_network_isEnabled N b4 b5 b6 b7 b8 b9 b10 b0 y1 (fun y2 => (bif (!y2) then (k0 24) else (design_network_happened N b4 b5 b6 b7 b8 b9 b10 b0 y1 b2 (fun y3 => (k1 y3 0)))))))))
def P179_j0 : SP := ⟨[(1, pI), (2, pL [hI]), (3, pL [hI]), (10, .ptr 0 0), (11, pI)], [(0, .box [pS, pL [.s, hI], pL zs2, pL zs1, pL zs0, pL [.s, hI], pL zs3])]⟩
def E179_j0 (N : Nat) {R : Type} (n : Nat) (x : P179_j0.den) (k : KS R) : Option R := match n with
  | 0 => none
  | _ + 1 => design_Happened_j0 N (fun r0 => k .ret ⟨[(8, .own 0), (9, dI r0)], [(0, .arr (.e 1))]⟩) (fun r0 r1 => k .ret ⟨[(8, dL [hI] r0), (9, dI r1)], []⟩) x.1.1 x.1.2.1 x.1.2.2.1 x.1.2.2.2.2.1 x.2.1.1 x.2.1.2.1 x.2.1.2.2.1 x.2.1.2.2.2.1 x.2.1.2.2.2.2.1 x.2.1.2.2.2.2.2.1 x.2.1.2.2.2.2.2.2.1
theorem O179_j0 (N : Nat) {R : Type} : LpG T P179_j0 (E179_j0 N (R := R)) [1, 2, 3, 10, 11] c15_j0 :=
  loop_ok (F178_ok N) (H := H179) (Lp := noL) (X := noX) (p := 30) (LOK0 (by kernel_rfl)) (fun _ _ => rfl) (fun n x k => by kernel_rfl)
noncomputable def L179_1 (N : Nat) {R : Type} : LpS R := updL noL 30 (lent' P179_j0 (E179_j0 N 1))
def design_Happened (N : Nat) {R : Type} (a0 : ByteArray) (a1 : zt5) (a2 : zt1) (a3 : zt2) (a4 : zt0) (a5 : zt5) (a6 : zt4) (a7 : Int) (a8 : List Int) (a9 : List Int) (k0 : List Int → Int → Option R) : Option R := (design_open N a0 a1 a2 a3 a4 a5 a6 (fun y1 y2 y3 y4 y5 y6 y7 y8 => (bif decide (y8 = 0) then (design_network_ruleErr N y1 y2 y3 y4 y5 y6 y7 a7 (fun y9 => (design_network_inputsErr N y1 y2 y3 y4 y5 y6 y7 a8 (fun y10 => (design_network_stateErr N y1 y2 y3 y4 y5 y6 y7 a9 (fun y11 => (design_first N [y9, y10, y11] (fun y12 => (design_Happened_j0 N (fun z13 => (k0 [] z13)) k0 a7 a8 a9 y12 y1 y2 y3 y4 y5 y6 y7))))))))) else (design_Happened_j0 N (fun z16 => (k0 [] z16)) k0 a7 a8 a9 y8 y1 y2 y3 y4 y5 y6 y7))))
def P179 : AP := ⟨[.agg [pS, pL [.s, hI], pL zs2, pL zs1, pL zs0, pL [.s, hI], pL zs3], pI, pL [hI], pL [hI]], []⟩
def E179 (N : Nat) {R : Type} (x : P179.den) (k : KK R) : Option R := design_Happened N x.1.1.1 x.1.1.2.1 x.1.1.2.2.1 x.1.1.2.2.2.1 x.1.1.2.2.2.2.1 x.1.1.2.2.2.2.2.1 x.1.1.2.2.2.2.2.2.1 x.1.2.1 x.1.2.2.1 x.1.2.2.2.1 (fun r0 r1 => k [] [dL [hI] r0, dI r1] [])
noncomputable def F179 (N : Nat) {R : Type} : CfS R := uC (F178 N) 15 P179 (E179 N)
theorem F179_ok (N : Nat) {R : Type} : FOK (F179 N : CfS R) (runF T) :=
  uC_ok (F178_ok N) (H := H179) (Lp := (L179_1 N)) (X := noX) (rp := [⟨[pL [hI], pI], []⟩]) (ver := c15) rfl (LOK_of (l := [(30, [1, 2, 3, 10, 11], c15_j0)]) (by kernel_rfl) ⟨(updL_ok (O179_j0 N 1)), trivial⟩) (fun x k => by kernel_rfl)
def X180 : Nat → List SP := fun p => if p = 237 then [⟨[(4, .own 0), (5, pI)], [(0, .arr [hI])]⟩] else if p = 245 then [⟨[(4, .own 0), (5, pI)], [(0, .arr [hI])]⟩] else []
def H180 : Nat → Option (List Sh) := fun n => if n = 17000 then some [hI] else if n = 48000 then some [hI] else if n = 62000 then some [hI] else none
def arith_Filtered_l0 (N : Nat) {R : Type} (k0 : List Int → Option R) : Nat → List Int → List Int → Int → Int → ByteArray → zt5 → zt1 → zt2 → zt0 → zt5 → List Int → Option R
  | 0, _, _, _, _, _, _, _, _, _, _, _ => none
  | n + 1, b0, b1, b2, b3, b4, b5, b6, b7, b8, b9, b10 => (bif decide (b3 < b2) then ((at? b1 b3).bind fun x1 => (design_OutputsIn N b4 b5 b6 b7 b8 b9 [] [x1] b0 (fun y2 y3 => (bif roomB (b10.length + y2.length) 8 then (design_Happened N b4 b5 b6 b7 b8 b9 [] 0 [x1] b0 (fun y4 y5 => (arith_Filtered_l0 N k0 n y4 b1 b2 (w64 (b3 + 1)) b4 b5 b6 b7 b8 b9 (b10 ++ y2)))) else none)))) else (k0 b10))
def P180_l0 : SP := ⟨[(6, .ptr 0 0), (8, pL [hI]), (10, .own 1), (39, pL [hI]), (40, pI), (41, pI)], [(0, .box [pS, pL [.s, hI], pL zs2, pL zs1, pL zs0, pL [.s, hI], .p (.e 2)]), (1, .arr [hI])]⟩
def E180_l0 (N : Nat) {R : Type} (n : Nat) (x : P180_l0.den) (k : KS R) : Option R := arith_Filtered_l0 N (fun r0 => k (.ex 0) ⟨[(10, .own 0)], [(0, .arr (.t [hI] r0))]⟩) n x.1.2.1 x.1.2.2.2.1 x.1.2.2.2.2.1 x.1.2.2.2.2.2.1 x.2.1.1 x.2.1.2.1 x.2.1.2.2.1 x.2.1.2.2.2.1 x.2.1.2.2.2.2.1 x.2.1.2.2.2.2.2.1 x.2.2.1
theorem O180_l0 (N : Nat) {R : Type} : LpG T P180_l0 (E180_l0 N (R := R)) [6, 8, 10, 39, 40, 41] c10_l0 :=
  loop_ok (F179_ok N) (H := H180) (Lp := noL) (X := X180) (p := 1018) (LOK0 (by kernel_rfl)) (fun _ _ => rfl) (fun n x k => by kernel_rfl)
noncomputable def L180_1 (N : Nat) {R : Type} : LpS R := updL noL 1018 (lent' P180_l0 (E180_l0 N N))
def arith_Filtered (N : Nat) {R : Type} (a0 : List Int) (a1 : Int) (a2 : Int) (a3 : List Int) (k0 : List Int → Int → Option R) : Option R := (arith_FilterOf N a0 a1 a2 (fun y1 y2 y3 y4 y5 y6 y7 => (arith_unless N (decide (((a3.length : Nat) : Int) ≤ 30)) 8 (fun y8 => (arith_first N [y7, y8] (fun y9 => (bif decide (y9 ≠ 0) then (k0 [] y9) else (arith_each_int_Filtered_c1 N a3 a0 a1 a2 (fun y10 y11 y12 y13 => (bif (!y10) then (k0 [] 2) else (design_ResetOf N y1 y2 y3 y4 y5 y6 [] (fun y14 y15 => (arith_Filtered_l0 N (fun z16 => (k0 z16 0)) N y14 a3 ((a3.length : Nat) : Int) 0 y1 y2 y3 y4 y5 y6 [])))))))))))))
def P180 : AP := ⟨[.agg [pL [hI], pI, pI], pL [hI]], []⟩
def E180 (N : Nat) {R : Type} (x : P180.den) (k : KK R) : Option R := arith_Filtered N x.1.1.1 x.1.1.2.1 x.1.1.2.2.1 x.1.2.1 (fun r0 r1 => k [] [dL [hI] r0, dI r1] [])
noncomputable def F180 (N : Nat) {R : Type} : CfS R := uC (F179 N) 10 P180 (E180 N)
theorem F180_ok (N : Nat) {R : Type} : FOK (F180 N : CfS R) (runF T) :=
  uC_ok (F179_ok N) (H := H180) (Lp := (L180_1 N)) (X := X180) (rp := []) (ver := c10) rfl (LOK_of (l := [(1018, [6, 8, 10, 39, 40, 41], c10_l0)]) (by kernel_rfl) ⟨(updL_ok (O180_l0 N N)), trivial⟩) (fun x k => by kernel_rfl)
def ratchetbase_Ints_l0 (N : Nat) {R : Type} (k0 : Bool → Option R) (k1 : Option R) : Nat → List Int → List Int → Int → Option R
  | 0, _, _, _ => none
  | n + 1, b0, b1, b2 => (bif decide (b2 < ((b0.length : Nat) : Int)) then ((at? b0 b2).bind fun x1 => ((at? b1 b2).bind fun x2 => (bif decide (x1 ≠ x2) then (k0 false) else (ratchetbase_Ints_l0 N k0 k1 n b0 b1 (w64 (b2 + 1)))))) else k1)
def P181_l0 : SP := ⟨[(0, pL [hI]), (1, pL [hI]), (5, pI)], []⟩
def E181_l0 (N : Nat) {R : Type} (n : Nat) (x : P181_l0.den) (k : KS R) : Option R := ratchetbase_Ints_l0 N (fun r0 => k .ret ⟨[(4, dB r0)], []⟩) (k (.ex 0) ⟨[], []⟩) n x.1.1 x.1.2.1 x.1.2.2.1
theorem O181_l0 (N : Nat) {R : Type} : LpG T P181_l0 (E181_l0 N (R := R)) [0, 1, 5] c20_l0 :=
  loop_ok (F180_ok N) (H := noH) (Lp := noL) (X := noX) (p := 58) (LOK0 (by kernel_rfl)) (fun _ _ => rfl) (fun n x k => by kernel_rfl)
noncomputable def L181_1 (N : Nat) {R : Type} : LpS R := updL noL 58 (lent' P181_l0 (E181_l0 N N))
def ratchetbase_Ints (N : Nat) {R : Type} (a0 : List Int) (a1 : List Int) (k0 : Bool → Option R) : Option R := (bif decide (((a0.length : Nat) : Int) ≠ ((a1.length : Nat) : Int)) then (k0 false) else (ratchetbase_Ints_l0 N k0 (k0 true) N a0 a1 0))
def P181 : AP := ⟨[pL [hI], pL [hI]], []⟩
def E181 (N : Nat) {R : Type} (x : P181.den) (k : KK R) : Option R := ratchetbase_Ints N x.1.1 x.1.2.1 (fun r0 => k [] [dB r0] [])
noncomputable def F181 (N : Nat) {R : Type} : CfS R := uC (F180 N) 20 P181 (E181 N)
theorem F181_ok (N : Nat) {R : Type} : FOK (F181 N : CfS R) (runF T) :=
  uC_ok (F180_ok N) (H := noH) (Lp := (L181_1 N)) (X := noX) (rp := []) (ver := c20) rfl (LOK_of (l := [(58, [0, 1, 5], c20_l0)]) (by kernel_rfl) ⟨(updL_ok (O181_l0 N N)), trivial⟩) (fun x k => by kernel_rfl)
def H182 : Nat → Option (List Sh) := fun n => if n = 18000 then some [hI] else if n = 20000 then some [hI] else if n = 48000 then some [hI] else none
def ratchettop_arithShown (N : Nat) {R : Type} (k0 : Bool → Option R) : Option R := (ratchetlaw30_Form N (fun y1 y2 y3 y4 => (arith_MulFixed N 27 24 y1 y2 y3 y4 (fun y5 y6 => (bits_MulWide N 4 9 4 5 (fun y7 y8 y9 => (arith_Filtered N [1, (-2)] 4 8 [3, 5, 15] (fun y10 y11 => (bif decide (y6 = 0) then (bif decide (y5 = 40) then (bif decide (y9 = 0) then (bif (false != (decide (y7 = 8) && (decide (y8 = 45) && true))) then (bif decide (y11 = 0) then (ratchetbase_Ints N y10 [3, 255, 245] k0) else (k0 false)) else (k0 false)) else (k0 false)) else (k0 false)) else (k0 false))))))))))
def P182 : AP := ⟨[], []⟩
def E182 (N : Nat) {R : Type} (x : P182.den) (k : KK R) : Option R := ratchettop_arithShown N (fun r0 => k [] [dB r0] [])
noncomputable def F182 (N : Nat) {R : Type} : CfS R := uC (F181 N) 6 P182 (E182 N)
theorem F182_ok (N : Nat) {R : Type} : FOK (F182 N : CfS R) (runF T) :=
  uC_ok (F181_ok N) (H := H182) (Lp := noL) (X := noX) (rp := []) (ver := c6) rfl (LOK0 (by kernel_rfl)) (fun x k => by kernel_rfl)
def ratchetbase_Within (N : Nat) {R : Type} (a0 : Int) (a1 : Int) (a2 : Int) (k0 : Bool → Option R) : Option R := (bif decide (a1 ≤ a0) then (k0 (decide (a0 ≤ a2))) else (k0 false))
def P183 : AP := ⟨[pI, pI, pI], []⟩
def E183 (N : Nat) {R : Type} (x : P183.den) (k : KK R) : Option R := ratchetbase_Within N x.1.1 x.1.2.1 x.1.2.2.1 (fun r0 => k [] [dB r0] [])
noncomputable def F183 (N : Nat) {R : Type} : CfS R := uC (F182 N) 31 P183 (E183 N)
theorem F183_ok (N : Nat) {R : Type} : FOK (F183 N : CfS R) (runF T) :=
  uC_ok (F182_ok N) (H := noH) (Lp := noL) (X := noX) (rp := []) (ver := c31) rfl (LOK0 (by kernel_rfl)) (fun x k => by kernel_rfl)
def ratchetref30_FilterErr_l0 (N : Nat) {R : Type} (k0 : Int → Option R) (k1 : List Int → Int → Int → Option R) : Nat → Int → List Int → Int → Int → Option R
  | 0, _, _, _, _ => none
  | n + 1, b0, b1, b2, b3 => (bif decide (b0 < ((b1.length : Nat) : Int)) then ((at? b1 b0).bind fun x1 => (ratchetbase_Within N x1 (-7) 7 (fun y2 => (bif (!y2) then (k0 2) else (ratchetref30_FilterErr_l0 N k0 k1 n (w64 (b0 + 1)) b1 b2 b3))))) else (k1 b1 b2 b3))
def P184_l0 : SP := ⟨[(1, .ptr 0 0), (3, pI)], [(0, .box [pL [hI], pI, pI])]⟩
def E184_l0 (N : Nat) {R : Type} (n : Nat) (x : P184_l0.den) (k : KS R) : Option R := ratchetref30_FilterErr_l0 N (fun r0 => k .ret ⟨[(2, dI r0)], []⟩) (fun r0 r1 r2 => k (.ex 0) ⟨[(1, .ptr 0 0)], [(0, .box [dL [hI] r0, dI r1, dI r2])]⟩) n x.1.2.1 x.2.1.1 x.2.1.2.1 x.2.1.2.2.1
theorem O184_l0 (N : Nat) {R : Type} : LpG T P184_l0 (E184_l0 N (R := R)) [1, 3] c22_l0 :=
  loop_ok (F183_ok N) (H := noH) (Lp := noL) (X := noX) (p := 122) (LOK0 (by kernel_rfl)) (fun _ _ => rfl) (fun n x k => by kernel_rfl)
noncomputable def L184_1 (N : Nat) {R : Type} : LpS R := updL noL 122 (lent' P184_l0 (E184_l0 N N))
def ratchetref30_FilterErr (N : Nat) {R : Type} (a0 : List Int) (a1 : Int) (a2 : Int) (k0 : Int → Option R) : Option R := (bif decide (((a0.length : Nat) : Int) = 0) then (k0 10) else (bif decide (4 < ((a0.length : Nat) : Int)) then (k0 8) else (ratchetref30_FilterErr_l0 N k0 (fun z4 z5 z6 => (ratchetbase_Within N z5 1 8 (fun y7 => (bif (!y7) then (k0 25) else (ratchetbase_Within N z6 z5 16 (fun y8 => (bif (!y8) then (k0 25) else (k0 0)))))))) N 0 a0 a1 a2)))
def P184 : AP := ⟨[.agg [pL [hI], pI, pI]], []⟩
def E184 (N : Nat) {R : Type} (x : P184.den) (k : KK R) : Option R := ratchetref30_FilterErr N x.1.1.1 x.1.1.2.1 x.1.1.2.2.1 (fun r0 => k [] [dI r0] [])
noncomputable def F184 (N : Nat) {R : Type} : CfS R := uC (F183 N) 22 P184 (E184 N)
theorem F184_ok (N : Nat) {R : Type} : FOK (F184 N : CfS R) (runF T) :=
  uC_ok (F183_ok N) (H := noH) (Lp := (L184_1 N)) (X := noX) (rp := []) (ver := c22) rfl (LOK_of (l := [(122, [1, 3], c22_l0)]) (by kernel_rfl) ⟨(updL_ok (O184_l0 N N)), trivial⟩) (fun x k => by kernel_rfl)
def ratchetbase_Power (N : Nat) {R : Type} (a0 : Int) (k0 : Int → Option R) : Option R := (bif decide (a0 < 0) then none else (k0 (shl' .i64 1 a0)))
def P185 : AP := ⟨[pI], []⟩
def E185 (N : Nat) {R : Type} (x : P185.den) (k : KK R) : Option R := ratchetbase_Power N x.1.1 (fun r0 => k [] [dI r0] [])
noncomputable def F185 (N : Nat) {R : Type} : CfS R := uC (F184 N) 17 P185 (E185 N)
theorem F185_ok (N : Nat) {R : Type} : FOK (F185 N : CfS R) (runF T) :=
  uC_ok (F184_ok N) (H := noH) (Lp := noL) (X := noX) (rp := []) (ver := c17) rfl (LOK0 (by kernel_rfl)) (fun x k => by kernel_rfl)
def ratchetbase_Fits (N : Nat) {R : Type} (a0 : Int) (a1 : Int) (k0 : Bool → Option R) : Option R := (ratchetbase_Power N a1 (fun y1 => (ratchetbase_Within N a0 0 (w64 (y1 - 1)) k0)))
def P186 : AP := ⟨[pI, pI], []⟩
def E186 (N : Nat) {R : Type} (x : P186.den) (k : KK R) : Option R := ratchetbase_Fits N x.1.1 x.1.2.1 (fun r0 => k [] [dB r0] [])
noncomputable def F186 (N : Nat) {R : Type} : CfS R := uC (F185 N) 32 P186 (E186 N)
theorem F186_ok (N : Nat) {R : Type} : FOK (F186 N : CfS R) (runF T) :=
  uC_ok (F185_ok N) (H := noH) (Lp := noL) (X := noX) (rp := []) (ver := c32) rfl (LOK0 (by kernel_rfl)) (fun x k => by kernel_rfl)
def ratchetref30_FilteredErr_l0 (N : Nat) {R : Type} (k0 : Int → Option R) (k1 : Option R) : Nat → List Int → Int → List Int → Int → Int → Option R
  | 0, _, _, _, _, _ => none
  | n + 1, b0, b1, b2, b3, b4 => (bif decide (b1 < ((b0.length : Nat) : Int)) then ((at? b0 b1).bind fun x1 => (ratchetbase_Fits N x1 b3 (fun y2 => (bif (!y2) then (k0 2) else (ratchetref30_FilteredErr_l0 N k0 k1 n b0 (w64 (b1 + 1)) b2 b3 b4))))) else k1)
def P187_l0 : SP := ⟨[(1, pL [hI]), (2, .ptr 0 0), (6, pI)], [(0, .box [pL [hI], pI, pI])]⟩
def E187_l0 (N : Nat) {R : Type} (n : Nat) (x : P187_l0.den) (k : KS R) : Option R := ratchetref30_FilteredErr_l0 N (fun r0 => k .ret ⟨[(4, dI r0)], []⟩) (k (.ex 0) ⟨[], []⟩) n x.1.1 x.1.2.2.1 x.2.1.1 x.2.1.2.1 x.2.1.2.2.1
theorem O187_l0 (N : Nat) {R : Type} : LpG T P187_l0 (E187_l0 N (R := R)) [1, 2, 6] c7_l0 :=
  loop_ok (F186_ok N) (H := noH) (Lp := noL) (X := noX) (p := 122) (LOK0 (by kernel_rfl)) (fun _ _ => rfl) (fun n x k => by kernel_rfl)
noncomputable def L187_1 (N : Nat) {R : Type} : LpS R := updL noL 122 (lent' P187_l0 (E187_l0 N N))
def ratchetref30_FilteredErr (N : Nat) {R : Type} (a0 : List Int) (a1 : Int) (a2 : Int) (a3 : List Int) (k0 : Int → Option R) : Option R := (ratchetref30_FilterErr N a0 a1 a2 (fun y1 => (bif decide (y1 ≠ 0) then (k0 y1) else (bif decide (30 < ((a3.length : Nat) : Int)) then (k0 8) else (ratchetref30_FilteredErr_l0 N k0 (k0 0) N a3 0 a0 a1 a2)))))
def P187 : AP := ⟨[.agg [pL [hI], pI, pI], pL [hI]], []⟩
def E187 (N : Nat) {R : Type} (x : P187.den) (k : KK R) : Option R := ratchetref30_FilteredErr N x.1.1.1 x.1.1.2.1 x.1.1.2.2.1 x.1.2.1 (fun r0 => k [] [dI r0] [])
noncomputable def F187 (N : Nat) {R : Type} : CfS R := uC (F186 N) 7 P187 (E187 N)
theorem F187_ok (N : Nat) {R : Type} : FOK (F187 N : CfS R) (runF T) :=
  uC_ok (F186_ok N) (H := noH) (Lp := (L187_1 N)) (X := noX) (rp := []) (ver := c7) rfl (LOK_of (l := [(122, [1, 2, 6], c7_l0)]) (by kernel_rfl) ⟨(updL_ok (O187_l0 N N)), trivial⟩) (fun x k => by kernel_rfl)
def H188 : Nat → Option (List Sh) := fun n => if n = 2000 then some [hI] else none
def ratchetbase_CopyInts (N : Nat) {R : Type} (a0 : List Int) (k0 : List Int → Option R) : Option R := (bif roomB (0 + a0.length) 8 then (k0 a0) else none)
def P188 : AP := ⟨[pL [hI]], []⟩
def E188 (N : Nat) {R : Type} (x : P188.den) (k : KK R) : Option R := ratchetbase_CopyInts N x.1.1 (fun r0 => k [] [dL [hI] r0] [])
noncomputable def F188 (N : Nat) {R : Type} : CfS R := uC (F187 N) 8 P188 (E188 N)
theorem F188_ok (N : Nat) {R : Type} : FOK (F188 N : CfS R) (runF T) :=
  uC_ok (F187_ok N) (H := H188) (Lp := noL) (X := noX) (rp := []) (ver := c8) rfl (LOK0 (by kernel_rfl)) (fun x k => by kernel_rfl)
def ratchetbase_Signed (N : Nat) {R : Type} (a0 : Int) (a1 : Int) (k0 : Int → Option R) : Option R := (ratchetbase_Power N (w64 (a1 - 1)) (fun y1 => (bif decide (y1 ≤ a0) then (ratchetbase_Power N a1 (fun y2 => (k0 (w64 (a0 - y2))))) else (k0 a0))))
def P189 : AP := ⟨[pI, pI], []⟩
def E189 (N : Nat) {R : Type} (x : P189.den) (k : KK R) : Option R := ratchetbase_Signed N x.1.1 x.1.2.1 (fun r0 => k [] [dI r0] [])
noncomputable def F189 (N : Nat) {R : Type} : CfS R := uC (F188 N) 11 P189 (E189 N)
theorem F189_ok (N : Nat) {R : Type} : FOK (F189 N : CfS R) (runF T) :=
  uC_ok (F188_ok N) (H := noH) (Lp := noL) (X := noX) (rp := []) (ver := c11) rfl (LOK0 (by kernel_rfl)) (fun x k => by kernel_rfl)
def arith_isSample (N : Nat) {R : Type} (a0 : Int) (k0 : Bool → Option R) : Option R := (arith_within N a0 (-1000) 1000 k0)
def P190 : AP := ⟨[pI], []⟩
def E190 (N : Nat) {R : Type} (x : P190.den) (k : KK R) : Option R := arith_isSample N x.1.1 (fun r0 => k [] [dB r0] [])
noncomputable def F190 (N : Nat) {R : Type} : CfS R := uC (F189 N) 87 P190 (E190 N)
theorem F190_ok (N : Nat) {R : Type} : FOK (F190 N : CfS R) (runF T) :=
  uC_ok (F189_ok N) (H := noH) (Lp := noL) (X := noX) (rp := []) (ver := c87) rfl (LOK0 (by kernel_rfl)) (fun x k => by kernel_rfl)
def arith_each_int__c1_isSample (N : Nat) {R : Type} (a0 : Int) (k0 : Bool → Option R) : Option R := (arith_isSample N a0 (fun y1 => (k0 (!y1))))
def P191 : AP := ⟨[pI, .ptr 0 0], [(0, .box [.p (.fn 87 [])])]⟩
def E191 (N : Nat) {R : Type} (x : P191.den) (k : KK R) : Option R := arith_each_int__c1_isSample N x.1.1 (fun r0 => k [0] [dB r0] [(0, .box [.p (.fn 87 [])])])
noncomputable def F191 (N : Nat) {R : Type} : CfS R := uC (F190 N) 86 P191 (E191 N)
theorem F191_ok (N : Nat) {R : Type} : FOK (F191 N : CfS R) (runF T) :=
  uC_ok (F190_ok N) (H := noH) (Lp := noL) (X := noX) (rp := []) (ver := c86) rfl (LOK0 (by kernel_rfl)) (fun x k => by kernel_rfl)
def slices_IndexFunc_Lint_int_isSample_l0 (N : Nat) {R : Type} (k0 : Int → Option R) (k1 : Option R) : Nat → List Int → Int → Int → Option R
  | 0, _, _, _ => none
  | n + 1, b0, b1, b2 => (bif decide (b2 < b1) then ((at? b0 b2).bind fun x1 => (arith_each_int__c1_isSample N x1 (fun y2 => (bif y2 then (k0 b2) else (slices_IndexFunc_Lint_int_isSample_l0 N k0 k1 n b0 b1 (w64 (b2 + 1))))))) else k1)
def P192_l0 : SP := ⟨[(0, pL [hI]), (1, .fn 86 [.ptr 0 0]), (7, pI), (8, pI), (100001, .fn 86 [.ptr 0 0])], [(0, .box [.p (.fn 87 [])])]⟩
def E192_l0 (N : Nat) {R : Type} (n : Nat) (x : P192_l0.den) (k : KS R) : Option R := slices_IndexFunc_Lint_int_isSample_l0 N (fun r0 => k .ret ⟨[(4, dI r0), (100001, .fn 86 [.ptr 0 0])], [(0, .box [.p (.fn 87 [])])]⟩) (k (.ex 0) ⟨[(100001, .fn 86 [.ptr 0 0])], [(0, .box [.p (.fn 87 [])])]⟩) n x.1.1 x.1.2.2.1 x.1.2.2.2.1
theorem O192_l0 (N : Nat) {R : Type} : LpG T P192_l0 (E192_l0 N (R := R)) [0, 1, 7, 8] c116_l0 :=
  loop_ok (F191_ok N) (H := noH) (Lp := noL) (X := noX) (p := 26) (LOK0 (by kernel_rfl)) (fun _ _ => rfl) (fun n x k => by kernel_rfl)
noncomputable def L192_1 (N : Nat) {R : Type} : LpS R := updL noL 26 (lent' P192_l0 (E192_l0 N N))
def slices_IndexFunc_Lint_int_isSample (N : Nat) {R : Type} (a0 : List Int) (k0 : Int → Option R) : Option R := (slices_IndexFunc_Lint_int_isSample_l0 N k0 (k0 (-1)) N a0 ((a0.length : Nat) : Int) 0)
def P192 : AP := ⟨[pL [hI], .fn 86 [.ptr 0 0]], [(0, .box [.p (.fn 87 [])])]⟩
def E192 (N : Nat) {R : Type} (x : P192.den) (k : KK R) : Option R := slices_IndexFunc_Lint_int_isSample N x.1.1 (fun r0 => k [0] [dI r0] [(0, .box [.p (.fn 87 [])])])
noncomputable def F192 (N : Nat) {R : Type} : CfS R := uC (F191 N) 116 P192 (E192 N)
theorem F192_ok (N : Nat) {R : Type} : FOK (F192 N : CfS R) (runF T) :=
  uC_ok (F191_ok N) (H := noH) (Lp := (L192_1 N)) (X := noX) (rp := []) (ver := c116) rfl (LOK_of (l := [(26, [0, 1, 7, 8], c116_l0)]) (by kernel_rfl) ⟨(updL_ok (O192_l0 N N)), trivial⟩) (fun x k => by kernel_rfl)
def slices_ContainsFunc_Lint_int_isSample (N : Nat) {R : Type} (a0 : List Int) (k0 : Bool → Option R) : Option R := (slices_IndexFunc_Lint_int_isSample N a0 (fun y1 => (k0 (decide (0 ≤ y1)))))
def P193 : AP := ⟨[pL [hI], .fn 86 [.ptr 0 0]], [(0, .box [.p (.fn 87 [])])]⟩
def E193 (N : Nat) {R : Type} (x : P193.den) (k : KK R) : Option R := slices_ContainsFunc_Lint_int_isSample N x.1.1 (fun r0 => k [0] [dB r0] [(0, .box [.p (.fn 87 [])])])
noncomputable def F193 (N : Nat) {R : Type} : CfS R := uC (F192 N) 85 P193 (E193 N)
theorem F193_ok (N : Nat) {R : Type} : FOK (F193 N : CfS R) (runF T) :=
  uC_ok (F192_ok N) (H := noH) (Lp := noL) (X := noX) (rp := []) (ver := c85) rfl (LOK0 (by kernel_rfl)) (fun x k => by kernel_rfl)
def arith_each_int_isSample (N : Nat) {R : Type} (a0 : List Int) (k0 : Bool → Option R) : Option R := (slices_ContainsFunc_Lint_int_isSample N a0 (fun y1 => (k0 (!y1))))
def P194 : AP := ⟨[pL [hI], .p (.fn 87 [])], []⟩
def E194 (N : Nat) {R : Type} (x : P194.den) (k : KK R) : Option R := arith_each_int_isSample N x.1.1 (fun r0 => k [] [dB r0] [])
noncomputable def F194 (N : Nat) {R : Type} : CfS R := uC (F193 N) 45 P194 (E194 N)
theorem F194_ok (N : Nat) {R : Type} : FOK (F194 N : CfS R) (runF T) :=
  uC_ok (F193_ok N) (H := noH) (Lp := noL) (X := noX) (rp := []) (ver := c45) rfl (LOK0 (by kernel_rfl)) (fun x k => by kernel_rfl)
def H195 : Nat → Option (List Sh) := fun n => if n = 13000 then some [hI] else none
def arith_samplesErr (N : Nat) {R : Type} (a0 : List Int) (k0 : Int → Option R) : Option R := (arith_unless N (decide (0 < ((a0.length : Nat) : Int))) 10 (fun y1 => (arith_unless N (decide (((a0.length : Nat) : Int) ≤ 30)) 8 (fun y2 => (arith_each_int_isSample N a0 (fun y3 => (arith_unless N y3 2 (fun y4 => (arith_first N [y1, y2, y4] k0)))))))))
def P195 : AP := ⟨[pL [hI]], []⟩
def E195 (N : Nat) {R : Type} (x : P195.den) (k : KK R) : Option R := arith_samplesErr N x.1.1 (fun r0 => k [] [dI r0] [])
noncomputable def F195 (N : Nat) {R : Type} : CfS R := uC (F194 N) 48 P195 (E195 N)
theorem F195_ok (N : Nat) {R : Type} : FOK (F195 N : CfS R) (runF T) :=
  uC_ok (F194_ok N) (H := H195) (Lp := noL) (X := noX) (rp := []) (ver := c48) rfl (LOK0 (by kernel_rfl)) (fun x k => by kernel_rfl)
def X196 : Nat → List SP := fun p => if p = 109 then [⟨[(4, .own 0), (5, pI)], [(0, .arr [hI])]⟩] else []
def H196 : Nat → Option (List Sh) := fun n => if n = 7000 then some [hI] else if n = 21000 then some [hI] else none
def arith_ConvolvedBy_l1 (N : Nat) {R : Type} (k0 : List Int → List Int → Int → Int → List Int → Option R) : Nat → List Int → Int → Int → List Int → Int → Int → List Int → Int → Int → List Int → Option R
  | 0, _, _, _, _, _, _, _, _, _, _ => none
  | n + 1, b0, b1, b2, b3, b4, b5, b6, b7, b8, b9 => (bif decide (b8 < b7) then ((at? b6 b8).bind fun x1 => (bif inR (w64 (b1 + b8)) b9.length then ((b9[(w64 (b1 + b8)).toNat]?).bind fun x2 => (bif inR (w64 (b1 + b8)) b9.length then ((b9[(w64 (b1 + b8)).toNat]?).bind fun x3 => (arith_ConvolvedBy_l1 N k0 n b0 b1 b2 b3 b4 b5 b6 b7 (w64 (b8 + 1)) (List.set b9 ((w64 (b1 + b8)).toNat) (w64 (x2 + (w64 (b2 * x1))))))) else none)) else none)) else (k0 b0 b3 b4 b5 b9))
def P196_l1 : SP := ⟨[(1, pL [hI]), (7, .own 0), (8, pI), (9, pI), (28, pL [hI]), (29, pI), (30, pI), (35, pL [hI]), (36, pI), (37, pI)], [(0, .arr [hI])]⟩
def E196_l1 (N : Nat) {R : Type} (n : Nat) (x : P196_l1.den) (k : KS R) : Option R := arith_ConvolvedBy_l1 N (fun r0 r1 r2 r3 r4 => k (.ex 2) ⟨[(1, dL [hI] r0), (7, .own 0), (28, dL [hI] r1), (29, dI r2), (30, dI r3)], [(0, .arr (.t [hI] r4))]⟩) n x.1.1 x.1.2.2.1 x.1.2.2.2.1 x.1.2.2.2.2.1 x.1.2.2.2.2.2.1 x.1.2.2.2.2.2.2.1 x.1.2.2.2.2.2.2.2.1 x.1.2.2.2.2.2.2.2.2.1 x.1.2.2.2.2.2.2.2.2.2.1 x.2.1
theorem O196_l1 (N : Nat) {R : Type} : LpG T P196_l1 (E196_l1 N (R := R)) [1, 7, 8, 9, 28, 29, 30, 35, 36, 37] c12_l1 :=
  loop_ok (F195_ok N) (H := H196) (Lp := noL) (X := X196) (p := 31334) (LOK0 (by kernel_rfl)) (fun _ _ => rfl) (fun n x k => by kernel_rfl)
noncomputable def L196_1 (N : Nat) {R : Type} : LpS R := updL noL 31334 (lent' P196_l1 (E196_l1 N N))
def arith_ConvolvedBy_l0 (N : Nat) {R : Type} (k0 : List Int → Option R) : Nat → List Int → List Int → Int → Int → List Int → Option R
  | 0, _, _, _, _, _ => none
  | n + 1, b0, b1, b2, b3, b4 => (bif decide (b3 < b2) then ((at? b1 b3).bind fun x1 => (arith_ConvolvedBy_l1 N (fun z4 z5 z6 z7 z8 => (arith_ConvolvedBy_l0 N k0 n z4 z5 z6 (w64 (z7 + 1)) z8)) N b0 b3 x1 b1 b2 b3 b0 ((b0.length : Nat) : Int) 0 b4)) else (k0 b4))
def P196_l0 : SP := ⟨[(1, pL [hI]), (7, .own 0), (28, pL [hI]), (29, pI), (30, pI)], [(0, .arr [hI])]⟩
def E196_l0 (N : Nat) {R : Type} (n : Nat) (x : P196_l0.den) (k : KS R) : Option R := arith_ConvolvedBy_l0 N (fun r0 => k (.ex 0) ⟨[(7, .own 0)], [(0, .arr (.t [hI] r0))]⟩) n x.1.1 x.1.2.2.1 x.1.2.2.2.1 x.1.2.2.2.2.1 x.2.1
theorem O196_l0 (N : Nat) {R : Type} : LpG T P196_l0 (E196_l0 N (R := R)) [1, 7, 28, 29, 30] c12_l0 :=
  loop_ok (F195_ok N) (H := H196) (Lp := (L196_1 N)) (X := X196) (p := 122) (LOK_of (l := [(31334, [1, 7, 8, 9, 28, 29, 30, 35, 36, 37], c12_l1)]) (by kernel_rfl) ⟨(updL_ok (O196_l1 N N)), trivial⟩) (fun _ _ => rfl) (fun n x k => by kernel_rfl)
noncomputable def L196_2 (N : Nat) {R : Type} : LpS R := updL (L196_1 N) 122 (lent' P196_l0 (E196_l0 N N))
def arith_ConvolvedBy (N : Nat) {R : Type} (a0 : List Int) (a1 : List Int) (k0 : List Int → Int → Option R) : Option R := (arith_samplesErr N a0 (fun y1 => (arith_samplesErr N a1 (fun y2 => (arith_first N [y1, y2] (fun y3 => (bif decide (y3 ≠ 0) then (k0 [] y3) else (bif decide (0 ≤ (w64 ((w64 (((a0.length : Nat) : Int) + ((a1.length : Nat) : Int))) - 1)) ∧ (w64 ((w64 (((a0.length : Nat) : Int) + ((a1.length : Nat) : Int))) - 1)) ≤ (w64 ((w64 (((a0.length : Nat) : Int) + ((a1.length : Nat) : Int))) - 1))) then (bif roomB ((w64 ((w64 (((a0.length : Nat) : Int) + ((a1.length : Nat) : Int))) - 1)).toNat) 8 then (arith_ConvolvedBy_l0 N (fun z9 => (k0 z9 0)) N a1 a0 ((a0.length : Nat) : Int) 0 (List.replicate ((w64 ((w64 (((a0.length : Nat) : Int) + ((a1.length : Nat) : Int))) - 1)).toNat) 0)) else none) else none))))))))
def P196 : AP := ⟨[pL [hI], pL [hI]], []⟩
def E196 (N : Nat) {R : Type} (x : P196.den) (k : KK R) : Option R := arith_ConvolvedBy N x.1.1 x.1.2.1 (fun r0 r1 => k [] [dL [hI] r0, dI r1] [])
noncomputable def F196 (N : Nat) {R : Type} : CfS R := uC (F195 N) 12 P196 (E196 N)
theorem F196_ok (N : Nat) {R : Type} : FOK (F196 N : CfS R) (runF T) :=
  uC_ok (F195_ok N) (H := H196) (Lp := (L196_2 N)) (X := X196) (rp := []) (ver := c12) rfl (LOK_of (l := [(122, [1, 7, 28, 29, 30], c12_l0)]) (by kernel_rfl) ⟨(updL_ok (O196_l0 N N)), trivial⟩) (fun x k => by kernel_rfl)
def ratchetbase_Mod (N : Nat) {R : Type} (a0 : Int) (a1 : Int) (k0 : Int → Option R) : Option R := (bif decide (a1 = 0) then none else (bif decide ((Int.tmod a0 a1) < 0) then (k0 (w64 ((Int.tmod a0 a1) + a1))) else (k0 (Int.tmod a0 a1))))
def P197 : AP := ⟨[pI, pI], []⟩
def E197 (N : Nat) {R : Type} (x : P197.den) (k : KK R) : Option R := ratchetbase_Mod N x.1.1 x.1.2.1 (fun r0 => k [] [dI r0] [])
noncomputable def F197 (N : Nat) {R : Type} : CfS R := uC (F196 N) 16 P197 (E197 N)
theorem F197_ok (N : Nat) {R : Type} : FOK (F197 N : CfS R) (runF T) :=
  uC_ok (F196_ok N) (H := noH) (Lp := noL) (X := noX) (rp := []) (ver := c16) rfl (LOK0 (by kernel_rfl)) (fun x k => by kernel_rfl)
def H198 : Nat → Option (List Sh) := fun n => if n = 62000 then some [hI] else none
def ratchettop_TopArithFilter_l0 (N : Nat) {R : Type} (k0 : List Int → Int → List Int → Int → List Int → Int → Int → ByteArray → zt5 → zt1 → zt2 → zt0 → zt5 → List Int → Option R) : Nat → List Int → Int → List Int → Int → Int → List Int → Int → Int → ByteArray → zt5 → zt1 → zt2 → zt0 → zt5 → List Int → Option R
  | 0, _, _, _, _, _, _, _, _, _, _, _, _, _, _, _ => none
  | n + 1, b0, b1, b2, b3, b4, b5, b6, b7, b8, b9, b10, b11, b12, b13, b14 => (bif decide (b4 < ((b0.length : Nat) : Int)) then ((at? b0 b4).bind fun x1 => (ratchetbase_Signed N x1 b6 (fun y2 => (bif roomB (b14.length + 1) 8 then (ratchettop_TopArithFilter_l0 N k0 n b0 b1 b2 b3 (w64 (b4 + 1)) b5 b6 b7 b8 b9 b10 b11 b12 b13 (b14 ++ [y2])) else none)))) else (k0 b0 b1 b2 b3 b5 b6 b7 b8 b9 b10 b11 b12 b13 b14))
def P198_l0 : SP := ⟨[(1, pL [hI]), (2, .ptr 0 0), (6, .ptr 1 0), (7, pI), (8, pL [hI]), (9, pI), (10, .own 2), (11, pI)], [(0, .box [pL [hI], pI, pI]), (1, .box [pS, pL [.s, hI], pL zs2, pL zs1, pL zs0, pL [.s, hI], .p (.e 2)]), (2, .arr [hI])]⟩
def E198_l0 (N : Nat) {R : Type} (n : Nat) (x : P198_l0.den) (k : KS R) : Option R := ratchettop_TopArithFilter_l0 N (fun r0 r1 r2 r3 r4 r5 r6 r7 r8 r9 r10 r11 r12 r13 => k (.ex 0) ⟨[(1, dL [hI] r0), (2, .ptr 0 0), (6, .ptr 1 0), (7, dI r1), (8, dL [hI] r2), (9, dI r3), (10, .own 2)], [(0, .box [dL [hI] r4, dI r5, dI r6]), (1, .box [dS r7, dL [.s, hI] r8, dL zs2 r9, dL zs1 r10, dL zs0 r11, dL [.s, hI] r12, .p (.l (.e 2))]), (2, .arr (.t [hI] r13))]⟩) n x.1.1 x.1.2.2.2.1 x.1.2.2.2.2.1 x.1.2.2.2.2.2.1 x.1.2.2.2.2.2.2.2.1 x.2.1.1 x.2.1.2.1 x.2.1.2.2.1 x.2.2.1.1 x.2.2.1.2.1 x.2.2.1.2.2.1 x.2.2.1.2.2.2.1 x.2.2.1.2.2.2.2.1 x.2.2.1.2.2.2.2.2.1 x.2.2.2.1
theorem O198_l0 (N : Nat) {R : Type} : LpG T P198_l0 (E198_l0 N (R := R)) [1, 2, 6, 7, 8, 9, 10, 11] c3_l0 :=
  loop_ok (F197_ok N) (H := H198) (Lp := noL) (X := noX) (p := 2042) (LOK0 (by kernel_rfl)) (fun _ _ => rfl) (fun n x k => by kernel_rfl)
noncomputable def L198_1 (N : Nat) {R : Type} : LpS R := updL noL 2042 (lent' P198_l0 (E198_l0 N N))
def ratchettop_TopArithFilter_l1 (N : Nat) {R : Type} (k0 : Bool → Option R) (k1 : Option R) : Nat → List Int → List Int → List Int → List Int → Int → List Int → Int → Int → ByteArray → zt5 → zt1 → zt2 → zt0 → zt5 → Option R
  | 0, _, _, _, _, _, _, _, _, _, _, _, _, _, _ => none
  | n + 1, b0, b1, b2, b3, b4, b5, b6, b7, b8, b9, b10, b11, b12, b13 => (bif decide (b4 < ((b0.length : Nat) : Int)) then (bif slP b4 (w64 (b4 + 1)) b0.length then (design_OutputsIn N b8 b9 b10 b11 b12 b13 [] (List.take ((w64 (b4 + 1)).toNat - b4.toNat) (List.drop b4.toNat b0)) b3 (fun y1 y2 => (bif slP b4 (w64 (b4 + 1)) b0.length then (design_Happened N b8 b9 b10 b11 b12 b13 [] 0 (List.take ((w64 (b4 + 1)).toNat - b4.toNat) (List.drop b4.toNat b0)) b3 (fun y3 y4 => (bif decide (y2 ≠ 0) then (k0 false) else (bif decide (y4 ≠ 0) then (k0 false) else (bif decide (((y1.length : Nat) : Int) ≠ 1) then (k0 false) else ((at? y1 0).bind fun x5 => ((at? b1 b4).bind fun x6 => (bif decide (x5 ≠ x6) then (k0 false) else ((at? b1 b4).bind fun x7 => ((at? b2 b4).bind fun x8 => (ratchetbase_Power N b7 (fun y9 => (ratchetbase_Mod N x8 y9 (fun y10 => (bif decide (x7 ≠ y10) then (k0 false) else (ratchettop_TopArithFilter_l1 N k0 k1 n b0 b1 b2 y3 (w64 (b4 + 1)) b5 b6 b7 b8 b9 b10 b11 b12 b13)))))))))))))))) else none))) else none) else k1)
def P198_l1 : SP := ⟨[(1, pL [hI]), (2, .ptr 0 0), (6, .ptr 1 0), (8, pL [hI]), (12, pL [hI]), (14, pL [hI]), (16, pI)], [(0, .box [pL [hI], pI, pI]), (1, .box [pS, pL [.s, hI], pL zs2, pL zs1, pL zs0, pL [.s, hI], .p (.e 2)])]⟩
def E198_l1 (N : Nat) {R : Type} (n : Nat) (x : P198_l1.den) (k : KS R) : Option R := ratchettop_TopArithFilter_l1 N (fun r0 => k .ret ⟨[(4, dB r0)], []⟩) (k (.ex 2) ⟨[], []⟩) n x.1.1 x.1.2.2.2.1 x.1.2.2.2.2.1 x.1.2.2.2.2.2.1 x.1.2.2.2.2.2.2.1 x.2.1.1 x.2.1.2.1 x.2.1.2.2.1 x.2.2.1.1 x.2.2.1.2.1 x.2.2.1.2.2.1 x.2.2.1.2.2.2.1 x.2.2.1.2.2.2.2.1 x.2.2.1.2.2.2.2.2.1
theorem O198_l1 (N : Nat) {R : Type} : LpG T P198_l1 (E198_l1 N (R := R)) [1, 2, 6, 8, 12, 14, 16] c3_l1 :=
  loop_ok (F197_ok N) (H := H198) (Lp := (L198_1 N)) (X := noX) (p := 32762) (LOK0 (by kernel_rfl)) (fun _ _ => rfl) (fun n x k => by kernel_rfl)
noncomputable def L198_2 (N : Nat) {R : Type} : LpS R := updL (L198_1 N) 32762 (lent' P198_l1 (E198_l1 N N))
def ratchettop_TopArithFilter (N : Nat) {R : Type} (a0 : List Int) (a1 : Int) (a2 : Int) (a3 : List Int) (k0 : Bool → Option R) : Option R := (ratchettop_arithShown N (fun y1 => (bif (!y1) then (k0 false) else (bif decide (((a3.length : Nat) : Int) = 0) then (k0 true) else (bif decide (20 < ((a3.length : Nat) : Int)) then (k0 true) else (ratchetref30_FilteredErr N a0 a1 a2 a3 (fun y2 => (bif decide (y2 ≠ 0) then (k0 true) else (ratchetbase_CopyInts N a0 (fun y3 => (arith_FilterOf N y3 a1 a2 (fun y4 y5 y6 y7 y8 y9 y10 => (ratchetbase_CopyInts N a3 (fun y11 => (arith_Filtered N y3 a1 a2 y11 (fun y12 y13 => (ratchettop_TopArithFilter_l0 N (fun z14 z15 z16 z17 z18 z19 z20 z21 z22 z23 z24 z25 z26 z27 => (ratchetbase_CopyInts N z18 (fun y28 => (arith_ConvolvedBy N y28 z27 (fun y29 y30 => (design_ResetOf N z21 z22 z23 z24 z25 z26 [] (fun y31 y32 => (bif decide (z15 ≠ 0) then (k0 false) else (bif decide (z17 ≠ 0) then (k0 false) else (bif decide (y30 ≠ 0) then (k0 false) else (bif decide (y32 ≠ 0) then (k0 false) else (bif decide (((z16.length : Nat) : Int) ≠ ((z14.length : Nat) : Int)) then (k0 false) else (bif decide (((y29.length : Nat) : Int) < ((z14.length : Nat) : Int)) then (k0 false) else (ratchettop_TopArithFilter_l1 N k0 (k0 true) N z14 z16 y29 y31 0 z18 z19 z20 z21 z22 z23 z24 z25 z26)))))))))))))) N a3 y10 y12 y13 0 a0 a1 a2 y4 y5 y6 y7 y8 y9 [])))))))))))))))))
def P198 : AP := ⟨[.agg [pL [hI], pI, pI], pL [hI]], []⟩
def E198 (N : Nat) {R : Type} (x : P198.den) (k : KK R) : Option R := ratchettop_TopArithFilter N x.1.1.1 x.1.1.2.1 x.1.1.2.2.1 x.1.2.1 (fun r0 => k [] [dB r0] [])
noncomputable def F198 (N : Nat) {R : Type} : CfS R := uC (F197 N) 3 P198 (E198 N)
theorem F198_ok (N : Nat) {R : Type} : FOK (F198 N : CfS R) (runF T) :=
  uC_ok (F197_ok N) (H := H198) (Lp := (L198_2 N)) (X := noX) (rp := []) (ver := c3) rfl (LOK_of (l := [(2042, [1, 2, 6, 7, 8, 9, 10, 11], c3_l0), (32762, [1, 2, 6, 8, 12, 14, 16], c3_l1)]) (by kernel_rfl) ⟨(updL_ne (by decide) (updL_ok (O198_l0 N N))), (updL_ok (O198_l1 N N)), trivial⟩) (fun x k => by kernel_rfl)
/-- What is left to show. -/
def PureTopArithFilter : Prop := ∀ (x0 : (List Int) × Int × Int) (x1 : List Int), okL [.sl [hI], hI, hI] x0 → okL [.sl [hI]] x1 → ∃ N, ∀ {R : Type} (k : Bool → Option R), ratchettop_TopArithFilter N x0.1 x0.2.1 x0.2.2 x1 k = k true
end Am
end Go.Proofs.YtfdmmnfjdifccaaGreatDoor
