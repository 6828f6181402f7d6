/- Each function that is reached as a function on plain data, and that the version comes to it. -/
import Derived.Test.YtfdmmnfjdifccaaGreatDoorAFC
set_option linter.unusedVariables false
set_option linter.constructorNameAsVariable false
set_option maxRecDepth 100000
namespace Go.Proofs.YtfdmmnfjdifccaaGreatDoor
namespace Am
noncomputable section
variable (N : Nat) {R : Type}
abbrev zt0 : Type := List (ByteArray × Int × (List (Int × Int × Int)))
abbrev zt1 : Type := List (ByteArray × Int × Int × Int × Int)
abbrev zt2 : Type := List (Int × Int × (List Int) × Int)
abbrev zt3 : Type := List (ByteArray × Nat × Bool)
abbrev zt4 : Type := List (Int × Int × Int × Int)
abbrev zt5 : Type := List (Int × (List Int))
abbrev zt6 : Type := List (ByteArray × Int)
abbrev zt7 : Type := List (Int × Int × Int)
abbrev zs0 : List Sh := [.s, hI, .sl [hI, hI, hI]]
abbrev zs1 : List Sh := [hI, hI, .sl [hI], hI]
abbrev zs2 : List Sh := [.s, hI, hI, hI, hI]
abbrev zs3 : List Sh := [hI, hI, hI, hI]
abbrev zs4 : List Sh := [hI, .sl [hI]]
abbrev zs5 : List Sh := [hI, hI, hI]
abbrev zs6 : List Sh := [.sl [hI]]
abbrev zb0 : List PD := [.p (.ks (ByteArray.mk #[99, 111, 110, 115, 116])), .p (.ki .i64 0), .p (.kb true), .p (.fn 208 []), .p (.fn 207 []), .p (.ks (ByteArray.mk #[108, 101, 97, 102])), .p (.ki .i64 0), .p (.kb true), .p (.fn 208 []), .p (.fn 207 []), .p (.ks (ByteArray.mk #[110, 111, 116])), .p (.ki .i64 1), .p (.kb false), .p (.fn 209 []), .p (.fn 210 []), .p (.ks (ByteArray.mk #[97, 110, 100])), .p (.ki .i64 2), .p (.kb false), .p (.fn 209 []), .p (.fn 244 [.cp [.fn 213 []]]), .p (.ks (ByteArray.mk #[111, 114])), .p (.ki .i64 2), .p (.kb false), .p (.fn 209 []), .p (.fn 244 [.cp [.fn 214 []]]), .p (.ks (ByteArray.mk #[120, 111, 114])), .p (.ki .i64 2), .p (.kb false), .p (.fn 209 []), .p (.fn 244 [.cp [.fn 215 []]]), .p (.ks (ByteArray.mk #[97, 100, 100])), .p (.ki .i64 2), .p (.kb false), .p (.fn 209 []), .p (.fn 244 [.cp [.fn 216 []]]), .p (.ks (ByteArray.mk #[115, 117, 98])), .p (.ki .i64 2), .p (.kb false), .p (.fn 209 []), .p (.fn 244 [.cp [.fn 217 []]]), .p (.ks (ByteArray.mk #[109, 117, 108])), .p (.ki .i64 2), .p (.kb false), .p (.fn 209 []), .p (.fn 244 [.cp [.fn 218 []]]), .p (.ks (ByteArray.mk #[101, 113])), .p (.ki .i64 2), .p (.kb false), .p (.fn 245 []), .p (.fn 246 [.cp [.fn 220 []]]), .p (.ks (ByteArray.mk #[108, 116])), .p (.ki .i64 2), .p (.kb false), .p (.fn 245 []), .p (.fn 246 [.cp [.fn 221 []]]), .p (.ks (ByteArray.mk #[115, 108, 116])), .p (.ki .i64 2), .p (.kb false), .p (.fn 245 []), .p (.fn 246 [.cp [.fn 222 []]]), .p (.ks (ByteArray.mk #[109, 117, 120])), .p (.ki .i64 3), .p (.kb false), .p (.fn 224 []), .p (.fn 225 []), .p (.ks (ByteArray.mk #[106, 111, 105, 110])), .p (.ki .i64 2), .p (.kb false), .p (.fn 226 []), .p (.fn 227 []), .p (.ks (ByteArray.mk #[115, 108, 105, 99, 101])), .p (.ki .i64 1), .p (.kb true), .p (.fn 228 []), .p (.fn 229 []), .p (.ks (ByteArray.mk #[122, 101, 120, 116])), .p (.ki .i64 1), .p (.kb false), .p (.fn 230 []), .p (.fn 231 []), .p (.ks (ByteArray.mk #[115, 101, 120, 116])), .p (.ki .i64 1), .p (.kb false), .p (.fn 230 []), .p (.fn 232 []), .p (.ks (ByteArray.mk #[115, 104, 108])), .p (.ki .i64 2), .p (.kb false), .p (.fn 233 []), .p (.fn 234 []), .p (.ks (ByteArray.mk #[115, 104, 114])), .p (.ki .i64 2), .p (.kb false), .p (.fn 233 []), .p (.fn 235 [])]
abbrev zd1 : List DS := [dS (ByteArray.mk #[99, 111, 110, 115, 116]), dI 0, dB true, .p (.fn 208 []), .p (.fn 207 []), dS (ByteArray.mk #[108, 101, 97, 102]), dI 0, dB true, .p (.fn 208 []), .p (.fn 207 []), dS (ByteArray.mk #[110, 111, 116]), dI 1, dB false, .p (.fn 209 []), .p (.fn 210 []), dS (ByteArray.mk #[97, 110, 100]), dI 2, dB false, .p (.fn 209 []), .p (.fn 244 [.cp [.fn 213 []]]), dS (ByteArray.mk #[111, 114]), dI 2, dB false, .p (.fn 209 []), .p (.fn 244 [.cp [.fn 214 []]]), dS (ByteArray.mk #[120, 111, 114]), dI 2, dB false, .p (.fn 209 []), .p (.fn 244 [.cp [.fn 215 []]]), dS (ByteArray.mk #[97, 100, 100]), dI 2, dB false, .p (.fn 209 []), .p (.fn 244 [.cp [.fn 216 []]]), dS (ByteArray.mk #[115, 117, 98]), dI 2, dB false, .p (.fn 209 []), .p (.fn 244 [.cp [.fn 217 []]]), dS (ByteArray.mk #[109, 117, 108]), dI 2, dB false, .p (.fn 209 []), .p (.fn 244 [.cp [.fn 218 []]]), dS (ByteArray.mk #[101, 113]), dI 2, dB false, .p (.fn 245 []), .p (.fn 246 [.cp [.fn 220 []]]), dS (ByteArray.mk #[108, 116]), dI 2, dB false, .p (.fn 245 []), .p (.fn 246 [.cp [.fn 221 []]]), dS (ByteArray.mk #[115, 108, 116]), dI 2, dB false, .p (.fn 245 []), .p (.fn 246 [.cp [.fn 222 []]]), dS (ByteArray.mk #[109, 117, 120]), dI 3, dB false, .p (.fn 224 []), .p (.fn 225 []), dS (ByteArray.mk #[106, 111, 105, 110]), dI 2, dB false, .p (.fn 226 []), .p (.fn 227 []), dS (ByteArray.mk #[115, 108, 105, 99, 101]), dI 1, dB true, .p (.fn 228 []), .p (.fn 229 []), dS (ByteArray.mk #[122, 101, 120, 116]), dI 1, dB false, .p (.fn 230 []), .p (.fn 231 []), dS (ByteArray.mk #[115, 101, 120, 116]), dI 1, dB false, .p (.fn 230 []), .p (.fn 232 []), dS (ByteArray.mk #[115, 104, 108]), dI 2, dB false, .p (.fn 233 []), .p (.fn 234 []), dS (ByteArray.mk #[115, 104, 114]), dI 2, dB false, .p (.fn 233 []), .p (.fn 235 [])]
abbrev zb2 : List PD := [pS, pL [.s, hI], pL zs2, pL zs1, pL zs0, pL [.s, hI], pL zs4]
abbrev zd3 (v0 : ByteArray) (v1 : List (denL [.s, hI])) (v2 : List (denL zs2)) (v3 : List (denL zs1)) (v4 : List (denL zs0)) (v5 : List (denL [.s, hI])) (v6 : List (denL zs4)) : List DS := [dS v0, dL [.s, hI] v1, dL zs2 v2, dL zs1 v3, dL zs0 v4, dL [.s, hI] v5, dL zs4 v6]
abbrev zb4 : List PD := [pI, pI, pL [hI], pI]
abbrev zb5 : List PD := [pL [hI], pI, pI]
abbrev zd6 (v0 v1 v2 v3 : Int) : List DS := [dI v0, dI v1, dI v2, dI v3]
abbrev zb7 : List PD := [pS, pL [.s, hI], pL zs2, pL zs1, pL zs0, pL [.s, hI], .p (.e 2)]
abbrev zb8 : List PD := [pS, .own 2, .own 3, .own 4, .own 5, .own 6, .own 7]
abbrev zd9 (v0 : List (denL [hI])) (v1 v2 : Int) : List DS := [dL [hI] v0, dI v1, dI v2]
abbrev zd10 (v0 : ByteArray) : List DS := [dS v0, .own 1, .own 2, .own 3, .own 4, .own 5, .own 6]
abbrev zd11 (v0 : ByteArray) : List DS := [dS v0, .own 2, .own 3, .own 4, .own 5, .own 6, .own 7]
abbrev zb12 : List PD := [pS, pI, pB, .p (.fv []), .p (.fa)]
abbrev zb13 : List PD := [pS, .own 1, .own 2, .own 3, .own 4, .own 5, .own 6]
def F0 (N : Nat) {R : Type} : CfS R := (updC (updC (updC (updC nilC 98 (cloneE 1 8)) 42 (itoaE)) 106 (repE)) 156 (growE 1 8))
theorem F0_ok (N : Nat) {R : Type} : FOK (F0 N : CfS R) (runF T) := (FOK_upd (FOK_upd (FOK_upd (FOK_upd FOK_nil (Snd_clone (sz := 1) (bytes := 8) rfl rfl)) (Snd_itoa rfl rfl)) (Snd_rep rfl rfl)) (Snd_grow rfl rfl))
def ratchetlaw30_Form (N : Nat) {R : Type} (k0 : Int → Int → Int → Int → Option R) : Option R := (k0 8 4 1 1)
def P1 : AP := ⟨[], []⟩
def E1 (x : P1.den) (k : KK R) : Option R := ratchetlaw30_Form N (fun r0 r1 r2 r3 => k [] [.agg (zd6 r0 r1 r2 r3)] [])
def F1 : CfS R := uC (F0 N) 38 P1 (E1 N)
theorem F1_ok : FOK (F1 N : CfS R) (runF T) := uCk (F0_ok N) c38
def arith_divisor_l0 (N : Nat) {R : Type} (k0 : Int → Option R) : Nat → Int → Int → Option R
  | 0, _, _ => none
  | n + 1, b0, b1 => (bif decide (b1 ≠ 0) then (bif decide (b1 = 0) then none else (arith_divisor_l0 N k0 n b1 (Int.tmod b0 b1))) else (k0 b0))
def P2_l0 : SP := ⟨[(0, pI), (1, pI)], []⟩
def E2_l0 (n : Nat) (x : P2_l0.den) (k : KS R) : Option R := arith_divisor_l0 N (fun r0 => k (.ex 0) ⟨[(0, dI r0)], []⟩) n x.1.1 x.1.2.1
theorem O2_l0 : LpG T P2_l0 (E2_l0 N (R := R)) [0, 1] c157_l0 := lpk (F1_ok N) 12
def L2_1 : LpS R := updL noL 12 (lent' P2_l0 (E2_l0 N N))
def arith_divisor (N : Nat) {R : Type} (a0 a1 : Int) (k0 : Int → Option R) : Option R := (arith_divisor_l0 N (fun z1 => (k0 (max z1 (w64 (0 - z1))))) N a0 a1)
def P2 : AP := ⟨[pI, pI], []⟩
def E2 (x : P2.den) (k : KK R) : Option R := arith_divisor N x.1.1 x.1.2.1 (fun r0 => k [] [dI r0] [])
def F2 : CfS R := uC (F1 N) 157 P2 (E2 N)
theorem F2_ok : FOK (F2 N : CfS R) (runF T) := uCk (F1_ok N) c157 (Lp := (L2_1 N)) (hl := (LOK_of (l := [(12, [0, 1], c157_l0)]) (by kernel_rfl) ⟨(updL_ok (O2_l0 N N)), trivial⟩))
def arith_unless (N : Nat) {R : Type} (a0 : Bool) (a1 : Int) (k0 : Int → Option R) : Option R := (bif a0 then (k0 0) else (k0 a1))
def P3 : AP := ⟨[pB, pI], []⟩
def E3 (x : P3.den) (k : KK R) : Option R := arith_unless N x.1.1 x.1.2.1 (fun r0 => k [] [dI r0] [])
def F3 : CfS R := uC (F2 N) 44 P3 (E3 N)
theorem F3_ok : FOK (F3 N : CfS R) (runF T) := uCk (F2_ok N) c44
def arith_within (N : Nat) {R : Type} (a0 a1 a2 : Int) (k0 : Bool → Option R) : Option R := (bif decide (a1 ≤ a0) then (k0 (decide (a0 ≤ a2))) else (k0 false))
def P4 : AP := ⟨[pI, pI, pI], []⟩
def E4 (x : P4.den) (k : KK R) : Option R := arith_within N x.1.1 x.1.2.1 x.1.2.2.1 (fun r0 => k [] [dB r0] [])
def F4 : CfS R := uC (F3 N) 47 P4 (E4 N)
theorem F4_ok : FOK (F4 N : CfS R) (runF T) := uCk (F3_ok N) c47
def arith_first_l0 (N : Nat) {R : Type} (k0 : Int → Option R) (k1 : Option R) : Nat → List Int → Int → Int → Option R
  | 0, _, _, _ => none
  | n + 1, b0, b1, b2 => (bif decide (b2 < b1) then ((at? b0 b2).bind fun x1 => (bif decide (x1 ≠ 0) then (k0 x1) else (arith_first_l0 N k0 k1 n b0 b1 (w64 (b2 + 1))))) else k1)
def P5_l0 : SP := ⟨[(5, pL [hI]), (6, pI), (7, pI)], []⟩
def E5_l0 (n : Nat) (x : P5_l0.den) (k : KS R) : Option R := arith_first_l0 N (fun r0 => k .ret ⟨[(2, dI r0)], []⟩) (k (.ex 0) ⟨[], []⟩) n x.1.1 x.1.2.1 x.1.2.2.1
theorem O5_l0 : LpG T P5_l0 (E5_l0 N (R := R)) [5, 6, 7] c43_l0 := lpk (F4_ok N) 26
def L5_1 : LpS R := updL noL 26 (lent' P5_l0 (E5_l0 N N))
def arith_first (N : Nat) {R : Type} (a0 : List Int) (k0 : Int → Option R) : Option R := (arith_first_l0 N k0 (k0 0) N a0 ((a0.length : Nat) : Int) 0)
def P5 : AP := ⟨[pL [hI]], []⟩
def E5 (x : P5.den) (k : KK R) : Option R := arith_first N x.1.1 (fun r0 => k [] [dI r0] [])
def F5 : CfS R := uC (F4 N) 43 P5 (E5 N)
theorem F5_ok : FOK (F5 N : CfS R) (runF T) := uCk (F4_ok N) c43 (Lp := (L5_1 N)) (hl := (LOK_of (l := [(26, [5, 6, 7], c43_l0)]) (by kernel_rfl) ⟨(updL_ok (O5_l0 N N)), trivial⟩))
def H6 : Nat → Option (List Sh) := fun n => if n = 24000 then some [hI] else none
def arith_fractionErr (N : Nat) {R : Type} (a0 a1 : Int) (k0 : Int → Option R) : Option R := (bif decide (0 < a1) then (arith_divisor N a0 a1 (fun y1 => (arith_unless N (decide (y1 = 1)) 3 (fun y2 => (arith_within N a0 (-1000000000) 1000000000 (fun y3 => (bif y3 then (arith_unless N (decide (a1 ≤ 1000000000)) 2 (fun y4 => (arith_first N [y2, y4] k0))) else (arith_unless N false 2 (fun y6 => (arith_first N [y2, y6] k0)))))))))) else (arith_unless N false 3 (fun y8 => (arith_within N a0 (-1000000000) 1000000000 (fun y9 => (bif y9 then (arith_unless N (decide (a1 ≤ 1000000000)) 2 (fun y10 => (arith_first N [y8, y10] k0))) else (arith_unless N false 2 (fun y12 => (arith_first N [y8, y12] k0)))))))))
def P6 : AP := ⟨[.agg [pI, pI]], []⟩
def E6 (x : P6.den) (k : KK R) : Option R := arith_fractionErr N x.1.1.1 x.1.1.2.1 (fun r0 => k [] [dI r0] [])
def F6 : CfS R := uC (F5 N) 99 P6 (E6 N)
theorem F6_ok : FOK (F6 N : CfS R) (runF T) := uCk (F5_ok N) c99 (H := H6)
def H7 : Nat → Option (List Sh) := fun n => if n = 23000 then some [hI] else none
def arith_CheckForm (N : Nat) {R : Type} (a0 a1 a2 a3 : Int) (k0 : Int → Option R) : Option R := (arith_within N a0 2 16 (fun y1 => (arith_unless N y1 25 (fun y2 => (arith_within N a1 0 (w64 (a0 - 1)) (fun y3 => (arith_unless N y3 2 (fun y4 => (arith_within N a2 0 2 (fun y5 => (bif y5 then (arith_within N a3 0 1 (fun y6 => (arith_unless N y6 15 (fun y7 => (arith_first N [y2, y4, y7] k0))))) else (arith_unless N false 15 (fun y9 => (arith_first N [y2, y4, y9] k0))))))))))))))
def P7 : AP := ⟨[.agg [pI, pI, pI, pI]], []⟩
def E7 (x : P7.den) (k : KK R) : Option R := arith_CheckForm N x.1.1.1 x.1.1.2.1 x.1.1.2.2.1 x.1.1.2.2.2.1 (fun r0 => k [] [dI r0] [])
def F7 : CfS R := uC (F6 N) 100 P7 (E7 N)
theorem F7_ok : FOK (F7 N : CfS R) (runF T) := uCk (F6_ok N) c100 (H := H7)
def arith_form_one (N : Nat) {R : Type} (a0 a1 a2 a3 : Int) (k0 : Int → Option R) : Option R := (bif decide (a1 < 0) then none else (k0 (shl' .i64 1 a1)))
def P8 : AP := ⟨[.agg [pI, pI, pI, pI]], []⟩
def E8 (x : P8.den) (k : KK R) : Option R := arith_form_one N x.1.1.1 x.1.1.2.1 x.1.1.2.2.1 x.1.1.2.2.2.1 (fun r0 => k [] [dI r0] [])
def F8 : CfS R := uC (F7 N) 82 P8 (E8 N)
theorem F8_ok : FOK (F8 N : CfS R) (runF T) := uCk (F7_ok N) c82
def arith_form_rounded_j0 (N : Nat) {R : Type} (k0 : Int → Option R) (b0 b1 b2 b3 b4 b5 b6 : Int) : Option R := (bif decide (b5 = 1) then (bif decide (b1 < (w64 (2 * (w64 (b0 - (w64 (b2 * b1))))))) then (k0 (w64 (b2 + 1))) else (bif decide ((w64 (2 * (w64 (b0 - (w64 (b2 * b1)))))) = b1) then (bif decide ((Int.tmod b2 2) ≠ 0) then (k0 (w64 (b2 + 1))) else (bif decide (b5 = 2) then (bif decide (b0 < 0) then (bif decide (0 < (w64 (b0 - (w64 (b2 * b1))))) then (k0 (w64 (b2 + 1))) else (k0 b2)) else (k0 b2)) else (k0 b2))) else (bif decide (b5 = 2) then (bif decide (b0 < 0) then (bif decide (0 < (w64 (b0 - (w64 (b2 * b1))))) then (k0 (w64 (b2 + 1))) else (k0 b2)) else (k0 b2)) else (k0 b2)))) else (bif decide (b5 = 2) then (bif decide (b0 < 0) then (bif decide (0 < (w64 (b0 - (w64 (b2 * b1))))) then (k0 (w64 (b2 + 1))) else (k0 b2)) else (k0 b2)) else (k0 b2)))
def P9_j0 : SP := ⟨[(1, pI), (2, pI), (3, .ptr 0 0), (7, pI)], [(0, .box [pI, pI, pI, pI])]⟩
def E9_j0 (n : Nat) (x : P9_j0.den) (k : KS R) : Option R := match n with
  | 0 => none
  | _ + 1 => arith_form_rounded_j0 N (fun r0 => k .ret ⟨[(6, dI r0)], []⟩) x.1.1 x.1.2.1 x.1.2.2.2.1 x.2.1.1 x.2.1.2.1 x.2.1.2.2.1 x.2.1.2.2.2.1
theorem O9_j0 : LpG T P9_j0 (E9_j0 N (R := R)) [1, 2, 3, 7] c113_j0 := lpk (F8_ok N) 30
def L9_1 : LpS R := updL noL 30 (lent' P9_j0 (E9_j0 N 1))
def arith_form_rounded (N : Nat) {R : Type} (a0 a1 a2 a3 a4 a5 : Int) (k0 : Int → Option R) : Option R := (bif decide (a5 = 0) then none else (bif decide (a5 = 0) then none else (bif decide ((Int.tmod a4 a5) < 0) then (arith_form_rounded_j0 N k0 a4 a5 (w64 ((w64 (Int.tdiv a4 a5)) - 1)) a0 a1 a2 a3) else (arith_form_rounded_j0 N k0 a4 a5 (w64 (Int.tdiv a4 a5)) a0 a1 a2 a3))))
def P9 : AP := ⟨[.agg [pI, pI, pI, pI], pI, pI], []⟩
def E9 (x : P9.den) (k : KK R) : Option R := arith_form_rounded N x.1.1.1 x.1.1.2.1 x.1.1.2.2.1 x.1.1.2.2.2.1 x.1.2.1 x.1.2.2.1 (fun r0 => k [] [dI r0] [])
def F9 : CfS R := uC (F8 N) 113 P9 (E9 N)
theorem F9_ok : FOK (F9 N : CfS R) (runF T) := uCk (F8_ok N) c113 (Lp := (L9_1 N)) (hl := (LOK_of (l := [(30, [1, 2, 3, 7], c113_j0)]) (by kernel_rfl) ⟨(updL_ok (O9_j0 N 1)), trivial⟩))
def arith_form_size (N : Nat) {R : Type} (a0 a1 a2 a3 : Int) (k0 : Int → Option R) : Option R := (bif decide (a0 < 0) then none else (k0 (shl' .i64 1 a0)))
def P10 : AP := ⟨[.agg [pI, pI, pI, pI]], []⟩
def E10 (x : P10.den) (k : KK R) : Option R := arith_form_size N x.1.1.1 x.1.1.2.1 x.1.1.2.2.1 x.1.1.2.2.2.1 (fun r0 => k [] [dI r0] [])
def F10 : CfS R := uC (F9 N) 114 P10 (E10 N)
theorem F10_ok : FOK (F10 N : CfS R) (runF T) := uCk (F9_ok N) c114
def arith_form_fixed (N : Nat) {R : Type} (a0 a1 a2 a3 a4 a5 : Int) (k0 : Int → Option R) : Option R := (arith_form_rounded N a0 a1 a2 a3 a4 a5 (fun y1 => (arith_form_size N a0 a1 a2 a3 (fun y2 => (bif decide (a3 = 1) then (arith_form_size N a0 a1 a2 a3 (fun y3 => (k0 (andI .i64 (max (w64 (0 - (w64 (Int.tdiv y2 2)))) (min (w64 ((w64 (Int.tdiv y2 2)) - 1)) y1)) (w64 (y3 - 1)))))) else (arith_form_size N a0 a1 a2 a3 (fun y4 => (k0 (andI .i64 y1 (w64 (y4 - 1)))))))))))
def P11 : AP := ⟨[.agg [pI, pI, pI, pI], pI, pI], []⟩
def E11 (x : P11.den) (k : KK R) : Option R := arith_form_fixed N x.1.1.1 x.1.1.2.1 x.1.1.2.2.1 x.1.1.2.2.2.1 x.1.2.1 x.1.2.2.1 (fun r0 => k [] [dI r0] [])
def F11 : CfS R := uC (F10 N) 80 P11 (E11 N)
theorem F11_ok : FOK (F11 N : CfS R) (runF T) := uCk (F10_ok N) c80
def H12 : Nat → Option (List Sh) := fun n => if n = 9000 then some [hI] else none
def arith_FixedOf (N : Nat) {R : Type} (a0 a1 a2 a3 a4 a5 : Int) (k0 : Int → Int → Option R) : Option R := (arith_fractionErr N a0 a1 (fun y1 => (arith_CheckForm N a2 a3 a4 a5 (fun y2 => (arith_first N [y1, y2] (fun y3 => (bif decide (y3 ≠ 0) then (k0 0 y3) else (arith_form_one N a2 a3 a4 a5 (fun y4 => (arith_form_fixed N a2 a3 a4 a5 (w64 (a0 * y4)) a1 (fun y5 => (k0 y5 0))))))))))))
def P12 : AP := ⟨[.agg [pI, pI], .agg [pI, pI, pI, pI]], []⟩
def E12 (x : P12.den) (k : KK R) : Option R := arith_FixedOf N x.1.1.1 x.1.1.2.1 x.1.2.1.1 x.1.2.1.2.1 x.1.2.1.2.2.1 x.1.2.1.2.2.2.1 (fun r0 r1 => k [] [dI r0, dI r1] [])
def F12 : CfS R := uC (F11 N) 59 P12 (E12 N)
theorem F12_ok : FOK (F12 N : CfS R) (runF T) := uCk (F11_ok N) c59 (H := H12)
def arith_form_valuesErr_c1 (N : Nat) {R : Type} (a0 a1 a2 a3 a4 : Int) (k0 : Bool → Int → Int → Int → Int → Option R) : Option R := (arith_form_size N a1 a2 a3 a4 (fun y1 => (arith_within N a0 0 (w64 (y1 - 1)) (fun y2 => (k0 y2 a1 a2 a3 a4)))))
def P13 : AP := ⟨[pI, .ptr 0 0], [(0, .box [pI, pI, pI, pI])]⟩
def E13 (x : P13.den) (k : KK R) : Option R := arith_form_valuesErr_c1 N x.1.1 x.2.1.1 x.2.1.2.1 x.2.1.2.2.1 x.2.1.2.2.2.1 (fun r0 r1 r2 r3 r4 => k [0] [dB r0] [(0, .box (zd6 r1 r2 r3 r4))])
def F13 : CfS R := uC (F12 N) 177 P13 (E13 N)
theorem F13_ok : FOK (F13 N : CfS R) (runF T) := uCk (F12_ok N) c177
def arith_each_int__c1_form_valuesErr_c1 (N : Nat) {R : Type} (a0 a1 a2 a3 a4 : Int) (k0 : Bool → Int → Int → Int → Int → Option R) : Option R := (arith_form_valuesErr_c1 N a0 a1 a2 a3 a4 (fun y1 y2 y3 y4 y5 => (k0 (!y1) y2 y3 y4 y5)))
def P14 : AP := ⟨[pI, .ptr 0 0], [(0, .box [.fn 177 [.ptr 1 0]]), (1, .box [pI, pI, pI, pI])]⟩
def E14 (x : P14.den) (k : KK R) : Option R := arith_each_int__c1_form_valuesErr_c1 N x.1.1 x.2.2.1.1 x.2.2.1.2.1 x.2.2.1.2.2.1 x.2.2.1.2.2.2.1 (fun r0 r1 r2 r3 r4 => k [0, 1] [dB r0] [(0, .box [.fn 177 [.ptr 1 0]]), (1, .box (zd6 r1 r2 r3 r4))])
def F14 : CfS R := uC (F13 N) 86 P14 (E14 N)
theorem F14_ok : FOK (F14 N : CfS R) (runF T) := uCk (F13_ok N) c86
def slices_IndexFunc_Lint_int_form_valuesErr_c1_l0 (N : Nat) {R : Type} (k0 : Int → Int → Int → Int → Int → Option R) (k1 : Int → Int → Int → Int → Option R) : Nat → List Int → Int → Int → Int → Int → Int → Int → Option R
  | 0, _, _, _, _, _, _, _ => none
  | n + 1, b0, b1, b2, b3, b4, b5, b6 => (bif decide (b2 < b1) then ((at? b0 b2).bind fun x1 => (arith_each_int__c1_form_valuesErr_c1 N x1 b3 b4 b5 b6 (fun y2 y3 y4 y5 y6 => (bif y2 then (k0 b2 y3 y4 y5 y6) else (slices_IndexFunc_Lint_int_form_valuesErr_c1_l0 N k0 k1 n b0 b1 (w64 (b2 + 1)) y3 y4 y5 y6))))) else (k1 b3 b4 b5 b6))
def P15_l0 : SP := ⟨[(0, pL [hI]), (1, .fn 86 [.ptr 0 0]), (7, pI), (8, pI), (100001, .fn 86 [.ptr 0 0]), (100002, .ptr 1 0)], [(0, .box [.fn 177 [.ptr 1 0]]), (1, .box [pI, pI, pI, pI])]⟩
def E15_l0 (n : Nat) (x : P15_l0.den) (k : KS R) : Option R := slices_IndexFunc_Lint_int_form_valuesErr_c1_l0 N (fun r0 r1 r2 r3 r4 => k .ret ⟨[(4, dI r0), (100001, .fn 86 [.ptr 0 0]), (100002, .ptr 1 0)], [(0, .box [.fn 177 [.ptr 1 0]]), (1, .box (zd6 r1 r2 r3 r4))]⟩) (fun r0 r1 r2 r3 => k (.ex 0) ⟨[(100001, .fn 86 [.ptr 0 0]), (100002, .ptr 1 0)], [(0, .box [.fn 177 [.ptr 1 0]]), (1, .box (zd6 r0 r1 r2 r3))]⟩) n x.1.1 x.1.2.2.1 x.1.2.2.2.1 x.2.2.1.1 x.2.2.1.2.1 x.2.2.1.2.2.1 x.2.2.1.2.2.2.1
theorem O15_l0 : LpG T P15_l0 (E15_l0 N (R := R)) [0, 1, 7, 8] c116_l0 := lpk (F14_ok N) 26
def L15_1 : LpS R := updL noL 26 (lent' P15_l0 (E15_l0 N N))
def slices_IndexFunc_Lint_int_form_valuesErr_c1 (N : Nat) {R : Type} (a0 : List Int) (a1 a2 a3 a4 : Int) (k0 : Int → Int → Int → Int → Int → Option R) : Option R := (slices_IndexFunc_Lint_int_form_valuesErr_c1_l0 N k0 (fun z12 z13 z14 z15 => (k0 (-1) z12 z13 z14 z15)) N a0 ((a0.length : Nat) : Int) 0 a1 a2 a3 a4)
def P15 : AP := ⟨[pL [hI], .fn 86 [.ptr 0 0]], [(0, .box [.fn 177 [.ptr 1 0]]), (1, .box [pI, pI, pI, pI])]⟩
def E15 (x : P15.den) (k : KK R) : Option R := slices_IndexFunc_Lint_int_form_valuesErr_c1 N x.1.1 x.2.2.1.1 x.2.2.1.2.1 x.2.2.1.2.2.1 x.2.2.1.2.2.2.1 (fun r0 r1 r2 r3 r4 => k [0, 1] [dI r0] [(0, .box [.fn 177 [.ptr 1 0]]), (1, .box (zd6 r1 r2 r3 r4))])
def F15 : CfS R := uC (F14 N) 116 P15 (E15 N)
theorem F15_ok : FOK (F15 N : CfS R) (runF T) := uCk (F14_ok N) c116 (Lp := (L15_1 N)) (hl := (LOK_of (l := [(26, [0, 1, 7, 8], c116_l0)]) (by kernel_rfl) ⟨(updL_ok (O15_l0 N N)), trivial⟩))
def slices_ContainsFunc_Lint_int_form_valuesErr_c1 (N : Nat) {R : Type} (a0 : List Int) (a1 a2 a3 a4 : Int) (k0 : Bool → Int → Int → Int → Int → Option R) : Option R := (slices_IndexFunc_Lint_int_form_valuesErr_c1 N a0 a1 a2 a3 a4 (fun y1 y2 y3 y4 y5 => (k0 (decide (0 ≤ y1)) y2 y3 y4 y5)))
def P16 : AP := ⟨[pL [hI], .fn 86 [.ptr 0 0]], [(0, .box [.fn 177 [.ptr 1 0]]), (1, .box [pI, pI, pI, pI])]⟩
def E16 (x : P16.den) (k : KK R) : Option R := slices_ContainsFunc_Lint_int_form_valuesErr_c1 N x.1.1 x.2.2.1.1 x.2.2.1.2.1 x.2.2.1.2.2.1 x.2.2.1.2.2.2.1 (fun r0 r1 r2 r3 r4 => k [0, 1] [dB r0] [(0, .box [.fn 177 [.ptr 1 0]]), (1, .box (zd6 r1 r2 r3 r4))])
def F16 : CfS R := uC (F15 N) 85 P16 (E16 N)
theorem F16_ok : FOK (F16 N : CfS R) (runF T) := uCk (F15_ok N) c85
def arith_each_int_form_valuesErr_c1 (N : Nat) {R : Type} (a0 : List Int) (a1 a2 a3 a4 : Int) (k0 : Bool → Int → Int → Int → Int → Option R) : Option R := (slices_ContainsFunc_Lint_int_form_valuesErr_c1 N a0 a1 a2 a3 a4 (fun y1 y2 y3 y4 y5 => (k0 (!y1) y2 y3 y4 y5)))
def P17 : AP := ⟨[pL [hI], .fn 177 [.ptr 0 0]], [(0, .box [pI, pI, pI, pI])]⟩
def E17 (x : P17.den) (k : KK R) : Option R := arith_each_int_form_valuesErr_c1 N x.1.1 x.2.1.1 x.2.1.2.1 x.2.1.2.2.1 x.2.1.2.2.2.1 (fun r0 r1 r2 r3 r4 => k [0] [dB r0] [(0, .box (zd6 r1 r2 r3 r4))])
def F17 : CfS R := uC (F16 N) 45 P17 (E17 N)
theorem F17_ok : FOK (F17 N : CfS R) (runF T) := uCk (F16_ok N) c45
def arith_form_valuesErr (N : Nat) {R : Type} (a0 a1 a2 a3 : Int) (a4 : List Int) (k0 : Int → Option R) : Option R := (arith_each_int_form_valuesErr_c1 N a4 a0 a1 a2 a3 (fun y1 y2 y3 y4 y5 => (arith_unless N y1 2 k0)))
def P18 : AP := ⟨[.agg [pI, pI, pI, pI], pL [hI]], []⟩
def E18 (x : P18.den) (k : KK R) : Option R := arith_form_valuesErr N x.1.1.1 x.1.1.2.1 x.1.1.2.2.1 x.1.1.2.2.2.1 x.1.2.1 (fun r0 => k [] [dI r0] [])
def F18 : CfS R := uC (F17 N) 112 P18 (E18 N)
theorem F18_ok : FOK (F18 N : CfS R) (runF T) := uCk (F17_ok N) c112
def arith_opened (N : Nat) {R : Type} (a0 a1 a2 a3 : Int) (a4 : List Int) (k0 : Int → Int → Int → Int → Int → Option R) : Option R := (arith_CheckForm N a0 a1 a2 a3 (fun y1 => (bif decide (y1 ≠ 0) then (k0 a0 a1 a2 a3 y1) else (arith_form_valuesErr N a0 a1 a2 a3 a4 (fun y2 => (k0 a0 a1 a2 a3 y2))))))
def P19 : AP := ⟨[.agg [pI, pI, pI, pI], pL [hI]], []⟩
def E19 (x : P19.den) (k : KK R) : Option R := arith_opened N x.1.1.1 x.1.1.2.1 x.1.1.2.2.1 x.1.1.2.2.2.1 x.1.2.1 (fun r0 r1 r2 r3 r4 => k [] [.agg (zd6 r0 r1 r2 r3), dI r4] [])
def F19 : CfS R := uC (F18 N) 79 P19 (E19 N)
theorem F19_ok : FOK (F19 N : CfS R) (runF T) := uCk (F18_ok N) c79
def arith_form_signed (N : Nat) {R : Type} (a0 a1 a2 a3 a4 : Int) (k0 : Int → Option R) : Option R := (arith_form_size N a0 a1 a2 a3 (fun y1 => (bif decide ((w64 (Int.tdiv y1 2)) ≤ a4) then (arith_form_size N a0 a1 a2 a3 (fun y2 => (k0 (w64 (a4 - y2))))) else (k0 a4))))
def P20 : AP := ⟨[.agg [pI, pI, pI, pI], pI], []⟩
def E20 (x : P20.den) (k : KK R) : Option R := arith_form_signed N x.1.1.1 x.1.1.2.1 x.1.1.2.2.1 x.1.1.2.2.2.1 x.1.2.1 (fun r0 => k [] [dI r0] [])
def F20 : CfS R := uC (F19 N) 81 P20 (E20 N)
theorem F20_ok : FOK (F20 N : CfS R) (runF T) := uCk (F19_ok N) c81
def H21 : Nat → Option (List Sh) := fun n => if n = 7000 then some [hI] else none
def arith_MulFixed (N : Nat) {R : Type} (a0 a1 a2 a3 a4 a5 : Int) (k0 : Int → Int → Option R) : Option R := (arith_opened N a2 a3 a4 a5 [a0, a1] (fun y1 y2 y3 y4 y5 => (bif decide (y5 ≠ 0) then (k0 0 y5) else (arith_form_signed N y1 y2 y3 y4 a0 (fun y6 => (arith_form_signed N y1 y2 y3 y4 a1 (fun y7 => (arith_form_one N y1 y2 y3 y4 (fun y8 => (arith_form_fixed N y1 y2 y3 y4 (w64 (y6 * y7)) y8 (fun y9 => (k0 y9 0))))))))))))
def P21 : AP := ⟨[pI, pI, .agg [pI, pI, pI, pI]], []⟩
def E21 (x : P21.den) (k : KK R) : Option R := arith_MulFixed N x.1.1 x.1.2.1 x.1.2.2.1.1 x.1.2.2.1.2.1 x.1.2.2.1.2.2.1 x.1.2.2.1.2.2.2.1 (fun r0 r1 => k [] [dI r0, dI r1] [])
def F21 : CfS R := uC (F20 N) 37 P21 (E21 N)
theorem F21_ok : FOK (F21 N : CfS R) (runF T) := uCk (F20_ok N) c37 (H := H21)
def arith_isCount (N : Nat) {R : Type} (a0 : Int) (k0 : Bool → Option R) : Option R := (bif decide (a0 = 1) then (k0 true) else (bif decide (a0 = 2) then (k0 true) else (bif decide (a0 = 4) then (k0 true) else (k0 (decide (a0 = 8))))))
def P22 : AP := ⟨[pI], []⟩
def E22 (x : P22.den) (k : KK R) : Option R := arith_isCount N x.1.1 (fun r0 => k [] [dB r0] [])
def F22 : CfS R := uC (F21 N) 158 P22 (E22 N)
theorem F22_ok : FOK (F22 N : CfS R) (runF T) := uCk (F21_ok N) c158
def arith_isSample (N : Nat) {R : Type} (a0 : Int) (k0 : Bool → Option R) : Option R := (arith_within N a0 (-1000) 1000 k0)
def P23 : AP := ⟨[pI], []⟩
def E23 (x : P23.den) (k : KK R) : Option R := arith_isSample N x.1.1 (fun r0 => k [] [dB r0] [])
def F23 : CfS R := uC (F22 N) 87 P23 (E23 N)
theorem F23_ok : FOK (F23 N : CfS R) (runF T) := uCk (F22_ok N) c87
def arith_pointsErr_c1 (N : Nat) {R : Type} (a0 a1 : Int) (k0 : Bool → Option R) : Option R := (arith_isSample N a0 (fun y1 => (bif y1 then (arith_isSample N a1 k0) else (k0 false))))
def P24 : AP := ⟨[.agg [pI, pI]], []⟩
def E24 (x : P24.den) (k : KK R) : Option R := arith_pointsErr_c1 N x.1.1.1 x.1.1.2.1 (fun r0 => k [] [dB r0] [])
def F24 : CfS R := uC (F23 N) 160 P24 (E24 N)
theorem F24_ok : FOK (F24 N : CfS R) (runF T) := uCk (F23_ok N) c160
def api_Gauss__c1_pointsErr_c1 (N : Nat) {R : Type} (a0 a1 : Int) (k0 : Bool → Option R) : Option R := (arith_pointsErr_c1 N a0 a1 (fun y1 => (k0 (!y1))))
def P25 : AP := ⟨[.agg [pI, pI], .ptr 0 0], [(0, .box [.p (.fn 160 [])])]⟩
def E25 (x : P25.den) (k : KK R) : Option R := api_Gauss__c1_pointsErr_c1 N x.1.1.1 x.1.1.2.1 (fun r0 => k [0] [dB r0] [(0, .box [.p (.fn 160 [])])])
def F25 : CfS R := uC (F24 N) 193 P25 (E25 N)
theorem F25_ok : FOK (F25 N : CfS R) (runF T) := uCk (F24_ok N) c193
def slices_IndexFunc_Gauss_Gauss_pointsErr_c1_l0 (N : Nat) {R : Type} (k0 : Int → Option R) (k1 : Option R) : Nat → (List (Int × Int)) → Int → Int → Option R
  | 0, _, _, _ => none
  | n + 1, b0, b1, b2 => (bif decide (b2 < b1) then ((at? b0 b2).bind fun x1 => (api_Gauss__c1_pointsErr_c1 N x1.1 x1.2 (fun y2 => (bif y2 then (k0 b2) else (slices_IndexFunc_Gauss_Gauss_pointsErr_c1_l0 N k0 k1 n b0 b1 (w64 (b2 + 1))))))) else k1)
def P26_l0 : SP := ⟨[(0, pL [hI, hI]), (1, .fn 193 [.ptr 0 0]), (7, pI), (8, pI), (100001, .fn 193 [.ptr 0 0])], [(0, .box [.p (.fn 160 [])])]⟩
def E26_l0 (n : Nat) (x : P26_l0.den) (k : KS R) : Option R := slices_IndexFunc_Gauss_Gauss_pointsErr_c1_l0 N (fun r0 => k .ret ⟨[(4, dI r0), (100001, .fn 193 [.ptr 0 0])], [(0, .box [.p (.fn 160 [])])]⟩) (k (.ex 0) ⟨[(100001, .fn 193 [.ptr 0 0])], [(0, .box [.p (.fn 160 [])])]⟩) n x.1.1 x.1.2.2.1 x.1.2.2.2.1
theorem O26_l0 : LpG T P26_l0 (E26_l0 N (R := R)) [0, 1, 7, 8] c236_l0 := lpk (F25_ok N) 26
def L26_1 : LpS R := updL noL 26 (lent' P26_l0 (E26_l0 N N))
def slices_IndexFunc_Gauss_Gauss_pointsErr_c1 (N : Nat) {R : Type} (a0 : List (Int × Int)) (k0 : Int → Option R) : Option R := (slices_IndexFunc_Gauss_Gauss_pointsErr_c1_l0 N k0 (k0 (-1)) N a0 ((a0.length : Nat) : Int) 0)
def P26 : AP := ⟨[pL [hI, hI], .fn 193 [.ptr 0 0]], [(0, .box [.p (.fn 160 [])])]⟩
def E26 (x : P26.den) (k : KK R) : Option R := slices_IndexFunc_Gauss_Gauss_pointsErr_c1 N x.1.1 (fun r0 => k [0] [dI r0] [(0, .box [.p (.fn 160 [])])])
def F26 : CfS R := uC (F25 N) 236 P26 (E26 N)
theorem F26_ok : FOK (F26 N : CfS R) (runF T) := uCk (F25_ok N) c236 (Lp := (L26_1 N)) (hl := (LOK_of (l := [(26, [0, 1, 7, 8], c236_l0)]) (by kernel_rfl) ⟨(updL_ok (O26_l0 N N)), trivial⟩))
def slices_ContainsFunc_Gauss_Gauss_pointsErr_c1 (N : Nat) {R : Type} (a0 : List (Int × Int)) (k0 : Bool → Option R) : Option R := (slices_IndexFunc_Gauss_Gauss_pointsErr_c1 N a0 (fun y1 => (k0 (decide (0 ≤ y1)))))
def P27 : AP := ⟨[pL [hI, hI], .fn 193 [.ptr 0 0]], [(0, .box [.p (.fn 160 [])])]⟩
def E27 (x : P27.den) (k : KK R) : Option R := slices_ContainsFunc_Gauss_Gauss_pointsErr_c1 N x.1.1 (fun r0 => k [0] [dB r0] [(0, .box [.p (.fn 160 [])])])
def F27 : CfS R := uC (F26 N) 192 P27 (E27 N)
theorem F27_ok : FOK (F27 N : CfS R) (runF T) := uCk (F26_ok N) c192
def arith_each_Gauss_pointsErr_c1 (N : Nat) {R : Type} (a0 : List (Int × Int)) (k0 : Bool → Option R) : Option R := (slices_ContainsFunc_Gauss_Gauss_pointsErr_c1 N a0 (fun y1 => (k0 (!y1))))
def P28 : AP := ⟨[pL [hI, hI], .p (.fn 160 [])], []⟩
def E28 (x : P28.den) (k : KK R) : Option R := arith_each_Gauss_pointsErr_c1 N x.1.1 (fun r0 => k [] [dB r0] [])
def F28 : CfS R := uC (F27 N) 159 P28 (E28 N)
theorem F28_ok : FOK (F28 N : CfS R) (runF T) := uCk (F27_ok N) c159
def H29 : Nat → Option (List Sh) := fun n => if n = 9000 then some [hI] else none
def arith_pointsErr (N : Nat) {R : Type} (a0 : List (Int × Int)) (k0 : Int → Option R) : Option R := (arith_isCount N ((a0.length : Nat) : Int) (fun y1 => (arith_unless N y1 10 (fun y2 => (arith_each_Gauss_pointsErr_c1 N a0 (fun y3 => (arith_unless N y3 2 (fun y4 => (arith_first N [y2, y4] k0)))))))))
def P29 : AP := ⟨[pL [hI, hI]], []⟩
def E29 (x : P29.den) (k : KK R) : Option R := arith_pointsErr N x.1.1 (fun r0 => k [] [dI r0] [])
def F29 : CfS R := uC (F28 N) 101 P29 (E29 N)
theorem F29_ok : FOK (F29 N : CfS R) (runF T) := uCk (F28_ok N) c101 (H := H29)
def arith_of (N : Nat) {R : Type} (a0 a1 : Int) (k0 : Int → Int → Int → Int → Option R) : Option R := (k0 a0 0 a1 0)
def P30 : AP := ⟨[.agg [pI, pI]], []⟩
def E30 (x : P30.den) (k : KK R) : Option R := arith_of N x.1.1.1 x.1.1.2.1 (fun r0 r1 r2 r3 => k [] [.agg (zd6 r0 r1 r2 r3)] [])
def F30 : CfS R := uC (F29 N) 103 P30 (E30 N)
theorem F30_ok : FOK (F30 N : CfS R) (runF T) := uCk (F29_ok N) c103
def arith_powers (N : Nat) {R : Type} (k0 : Int → Int → Int → Int → Int → Int → Int → Int → Int → Int → Int → Int → Int → Int → Int → Int → Int → Int → Int → Int → Int → Int → Int → Int → Int → Int → Int → Int → Int → Int → Int → Int → Option R) : Option R := (k0 1 0 0 0 0 1 0 (-1) 0 0 (-1) 0 0 (-1) 0 (-1) (-1) 0 0 0 0 (-1) 0 1 0 0 1 0 0 1 0 1)
def P31 : AP := ⟨[], []⟩
def E31 (x : P31.den) (k : KK R) : Option R := arith_powers N (fun r0 r1 r2 r3 r4 r5 r6 r7 r8 r9 r10 r11 r12 r13 r14 r15 r16 r17 r18 r19 r20 r21 r22 r23 r24 r25 r26 r27 r28 r29 r30 r31 => k [] [.agg [dI r0, dI r1, dI r2, dI r3, dI r4, dI r5, dI r6, dI r7, dI r8, dI r9, dI r10, dI r11, dI r12, dI r13, dI r14, dI r15, dI r16, dI r17, dI r18, dI r19, dI r20, dI r21, dI r22, dI r23, dI r24, dI r25, dI r26, dI r27, dI r28, dI r29, dI r30, dI r31]] [])
def F31 : CfS R := uC (F30 N) 161 P31 (E31 N)
theorem F31_ok : FOK (F31 N : CfS R) (runF T) := uCk (F30_ok N) c161
def arith_number_turned (N : Nat) {R : Type} (a0 a1 a2 a3 a4 : Int) (k0 : Int → Int → Int → Int → Option R) : Option R := (arith_powers N (fun y1 y2 y3 y4 y5 y6 y7 y8 y9 y10 y11 y12 y13 y14 y15 y16 y17 y18 y19 y20 y21 y22 y23 y24 y25 y26 y27 y28 y29 y30 y31 y32 => (bif decide ((Int.tmod a4 8) = 7) then (k0 (w64 ((w64 (a0 * y29)) - (w64 (a2 * y31)))) (w64 ((w64 (a0 * y30)) - (w64 (a2 * y32)))) (w64 ((w64 (a0 * y31)) + (w64 (a2 * y29)))) (w64 ((w64 (a0 * y32)) + (w64 (a2 * y30))))) else (bif decide ((Int.tmod a4 8) = 6) then (k0 (w64 ((w64 (a0 * y25)) - (w64 (a2 * y27)))) (w64 ((w64 (a0 * y26)) - (w64 (a2 * y28)))) (w64 ((w64 (a0 * y27)) + (w64 (a2 * y25)))) (w64 ((w64 (a0 * y28)) + (w64 (a2 * y26))))) else (bif decide ((Int.tmod a4 8) = 5) then (k0 (w64 ((w64 (a0 * y21)) - (w64 (a2 * y23)))) (w64 ((w64 (a0 * y22)) - (w64 (a2 * y24)))) (w64 ((w64 (a0 * y23)) + (w64 (a2 * y21)))) (w64 ((w64 (a0 * y24)) + (w64 (a2 * y22))))) else (bif decide ((Int.tmod a4 8) = 4) then (k0 (w64 ((w64 (a0 * y17)) - (w64 (a2 * y19)))) (w64 ((w64 (a0 * y18)) - (w64 (a2 * y20)))) (w64 ((w64 (a0 * y19)) + (w64 (a2 * y17)))) (w64 ((w64 (a0 * y20)) + (w64 (a2 * y18))))) else (bif decide ((Int.tmod a4 8) = 3) then (k0 (w64 ((w64 (a0 * y13)) - (w64 (a2 * y15)))) (w64 ((w64 (a0 * y14)) - (w64 (a2 * y16)))) (w64 ((w64 (a0 * y15)) + (w64 (a2 * y13)))) (w64 ((w64 (a0 * y16)) + (w64 (a2 * y14))))) else (bif decide ((Int.tmod a4 8) = 2) then (k0 (w64 ((w64 (a0 * y9)) - (w64 (a2 * y11)))) (w64 ((w64 (a0 * y10)) - (w64 (a2 * y12)))) (w64 ((w64 (a0 * y11)) + (w64 (a2 * y9)))) (w64 ((w64 (a0 * y12)) + (w64 (a2 * y10))))) else (bif decide ((Int.tmod a4 8) = 1) then (k0 (w64 ((w64 (a0 * y5)) - (w64 (a2 * y7)))) (w64 ((w64 (a0 * y6)) - (w64 (a2 * y8)))) (w64 ((w64 (a0 * y7)) + (w64 (a2 * y5)))) (w64 ((w64 (a0 * y8)) + (w64 (a2 * y6))))) else (bif decide ((Int.tmod a4 8) = 0) then (k0 (w64 ((w64 (a0 * y1)) - (w64 (a2 * y3)))) (w64 ((w64 (a0 * y2)) - (w64 (a2 * y4)))) (w64 ((w64 (a0 * y3)) + (w64 (a2 * y1)))) (w64 ((w64 (a0 * y4)) + (w64 (a2 * y2))))) else none))))))))))
def P32 : AP := ⟨[.agg [pI, pI, pI, pI], pI], []⟩
def E32 (x : P32.den) (k : KK R) : Option R := arith_number_turned N x.1.1.1 x.1.1.2.1 x.1.1.2.2.1 x.1.1.2.2.2.1 x.1.2.1 (fun r0 r1 r2 r3 => k [] [.agg (zd6 r0 r1 r2 r3)] [])
def F32 : CfS R := uC (F31 N) 104 P32 (E32 N)
theorem F32_ok : FOK (F32 N : CfS R) (runF T) := uCk (F31_ok N) c104
def arith_number_plus (N : Nat) {R : Type} (a0 a1 a2 a3 a4 a5 a6 a7 : Int) (k0 : Int → Int → Int → Int → Option R) : Option R := (k0 (w64 (a0 + a4)) (w64 (a1 + a5)) (w64 (a2 + a6)) (w64 (a3 + a7)))
def P33 : AP := ⟨[.agg [pI, pI, pI, pI], .agg [pI, pI, pI, pI]], []⟩
def E33 (x : P33.den) (k : KK R) : Option R := arith_number_plus N x.1.1.1 x.1.1.2.1 x.1.1.2.2.1 x.1.1.2.2.2.1 x.1.2.1.1 x.1.2.1.2.1 x.1.2.1.2.2.1 x.1.2.1.2.2.2.1 (fun r0 r1 r2 r3 => k [] [.agg (zd6 r0 r1 r2 r3)] [])
def F33 : CfS R := uC (F32 N) 102 P33 (E33 N)
theorem F33_ok : FOK (F33 N : CfS R) (runF T) := uCk (F32_ok N) c102
def X34 : Nat → List SP := fun p => if p = 109 then [⟨[(2, .own 0), (3, pI)], [(0, .arr zs3)]⟩] else []
def H34 : Nat → Option (List Sh) := fun n => if n = 47000 then some [hI, hI, hI, hI] else none
def arith_TransformOf_l1 (N : Nat) {R : Type} (k0 : (List (Int × Int)) → Int → Int → zt4 → Int → Int → Int → Int → Option R) : Nat → (List (Int × Int)) → Int → Int → Int → (List (Int × Int)) → Int → Int → zt4 → Int → Int → Int → Int → Option R
  | 0, _, _, _, _, _, _, _, _, _, _, _, _ => none
  | n + 1, b0, b1, b2, b3, b4, b5, b6, b7, b8, b9, b10, b11 => (bif decide (b6 < b5) then ((at? b4 b6).bind fun x1 => (arith_of N x1.1 x1.2 (fun y2 y3 y4 y5 => (bif decide (((b0.length : Nat) : Int) = 0) then none else (arith_number_turned N y2 y3 y4 y5 (w64 ((w64 (b6 * b1)) * (w64 (Int.tdiv 8 ((b0.length : Nat) : Int))))) (fun y6 y7 y8 y9 => (arith_number_plus N b8 b9 b10 b11 y6 y7 y8 y9 (fun y10 y11 y12 y13 => (arith_TransformOf_l1 N k0 n b0 b1 b2 b3 b4 b5 (w64 (b6 + 1)) b7 y10 y11 y12 y13))))))))) else (k0 b0 b2 b3 b7 b8 b9 b10 b11))
def P34_l1 : SP := ⟨[(0, pL [hI, hI]), (5, .own 0), (6, pI), (7, .ptr 1 0), (16, pI), (17, pI), (20, pL [hI, hI]), (21, pI), (22, pI)], [(0, .arr zs3), (1, .box [pI, pI, pI, pI])]⟩
def E34_l1 (n : Nat) (x : P34_l1.den) (k : KS R) : Option R := arith_TransformOf_l1 N (fun r0 r1 r2 r3 r4 r5 r6 r7 => k (.ex 2) ⟨[(0, dL [hI, hI] r0), (5, .own 0), (7, .ptr 1 0), (16, dI r1), (17, dI r2)], [(0, .arr (.t zs3 r3)), (1, .box (zd6 r4 r5 r6 r7))]⟩) n x.1.1 x.1.2.2.1 x.1.2.2.2.2.1 x.1.2.2.2.2.2.1 x.1.2.2.2.2.2.2.1 x.1.2.2.2.2.2.2.2.1 x.1.2.2.2.2.2.2.2.2.1 x.2.1 x.2.2.1.1 x.2.2.1.2.1 x.2.2.1.2.2.1 x.2.2.1.2.2.2.1
theorem O34_l1 : LpG T P34_l1 (E34_l1 N (R := R)) [0, 5, 6, 7, 16, 17, 20, 21, 22] c60_l1 := lpk (F33_ok N) 125338 (H := H34) (X := X34)
def L34_1 : LpS R := updL noL 125338 (lent' P34_l1 (E34_l1 N N))
def arith_TransformOf_l0 (N : Nat) {R : Type} (k0 : zt4 → Option R) : Nat → (List (Int × Int)) → Int → Int → zt4 → Option R
  | 0, _, _, _, _ => none
  | n + 1, b0, b1, b2, b3 => (bif decide (b2 < b1) then (arith_TransformOf_l1 N (fun z14 z15 z16 z17 z18 z19 z20 z21 => (bif roomB (z17.length + 1) 32 then (arith_TransformOf_l0 N k0 n z14 z15 (w64 (z16 + 1)) (z17 ++ [(z18, z19, z20, z21)])) else none)) N b0 b2 b1 b2 b0 ((b0.length : Nat) : Int) 0 b3 0 0 0 0) else (k0 b3))
def P34_l0 : SP := ⟨[(0, pL [hI, hI]), (5, .own 0), (16, pI), (17, pI)], [(0, .arr zs3)]⟩
def E34_l0 (n : Nat) (x : P34_l0.den) (k : KS R) : Option R := arith_TransformOf_l0 N (fun r0 => k (.ex 0) ⟨[(5, .own 0)], [(0, .arr (.t zs3 r0))]⟩) n x.1.1 x.1.2.2.1 x.1.2.2.2.1 x.2.1
theorem O34_l0 : LpG T P34_l0 (E34_l0 N (R := R)) [0, 5, 16, 17] c60_l0 := lpk (F33_ok N) 122 (H := H34) (Lp := (L34_1 N)) (X := X34) (hl := (LOK_of (l := [(125338, [0, 5, 6, 7, 16, 17, 20, 21, 22], c60_l1)]) (by kernel_rfl) ⟨(updL_ok (O34_l1 N N)), trivial⟩))
def L34_2 : LpS R := updL (L34_1 N) 122 (lent' P34_l0 (E34_l0 N N))
def arith_TransformOf (N : Nat) {R : Type} (a0 : List (Int × Int)) (k0 : zt4 → Int → Option R) : Option R := (arith_pointsErr N a0 (fun y1 => (bif decide (y1 ≠ 0) then (k0 [] y1) else (arith_TransformOf_l0 N (fun z22 => (k0 z22 0)) N a0 ((a0.length : Nat) : Int) 0 []))))
def P34 : AP := ⟨[pL [hI, hI]], []⟩
def E34 (x : P34.den) (k : KK R) : Option R := arith_TransformOf N x.1.1 (fun r0 r1 => k [] [dL zs3 r0, dI r1] [])
def F34 : CfS R := uC (F33 N) 60 P34 (E34 N)
theorem F34_ok : FOK (F34 N : CfS R) (runF T) := uCk (F33_ok N) c60 (H := H34) (Lp := (L34_2 N)) (X := X34) (hl := (LOK_of (l := [(122, [0, 5, 16, 17], c60_l0)]) (by kernel_rfl) ⟨(updL_ok (O34_l0 N N)), trivial⟩))
def arith_each_int__c1_isSample (N : Nat) {R : Type} (a0 : Int) (k0 : Bool → Option R) : Option R := (arith_isSample N a0 (fun y1 => (k0 (!y1))))
def P35 : AP := ⟨[pI, .ptr 0 0], [(0, .box [.p (.fn 87 [])])]⟩
def E35 (x : P35.den) (k : KK R) : Option R := arith_each_int__c1_isSample N x.1.1 (fun r0 => k [0] [dB r0] [(0, .box [.p (.fn 87 [])])])
def F35 : CfS R := uC (F34 N) 86 P35 (E35 N)
theorem F35_ok : FOK (F35 N : CfS R) (runF T) := uCk (F34_ok N) c86
def slices_IndexFunc_Lint_int_isSample_l0 (N : Nat) {R : Type} (k0 : Int → Option R) (k1 : Option R) : Nat → List Int → Int → Int → Option R
  | 0, _, _, _ => none
  | n + 1, b0, b1, b2 => (bif decide (b2 < b1) then ((at? b0 b2).bind fun x1 => (arith_each_int__c1_isSample N x1 (fun y2 => (bif y2 then (k0 b2) else (slices_IndexFunc_Lint_int_isSample_l0 N k0 k1 n b0 b1 (w64 (b2 + 1))))))) else k1)
def P36_l0 : SP := ⟨[(0, pL [hI]), (1, .fn 86 [.ptr 0 0]), (7, pI), (8, pI), (100001, .fn 86 [.ptr 0 0])], [(0, .box [.p (.fn 87 [])])]⟩
def E36_l0 (n : Nat) (x : P36_l0.den) (k : KS R) : Option R := slices_IndexFunc_Lint_int_isSample_l0 N (fun r0 => k .ret ⟨[(4, dI r0), (100001, .fn 86 [.ptr 0 0])], [(0, .box [.p (.fn 87 [])])]⟩) (k (.ex 0) ⟨[(100001, .fn 86 [.ptr 0 0])], [(0, .box [.p (.fn 87 [])])]⟩) n x.1.1 x.1.2.2.1 x.1.2.2.2.1
theorem O36_l0 : LpG T P36_l0 (E36_l0 N (R := R)) [0, 1, 7, 8] c116_l0 := lpk (F35_ok N) 26
def L36_1 : LpS R := updL noL 26 (lent' P36_l0 (E36_l0 N N))
def slices_IndexFunc_Lint_int_isSample (N : Nat) {R : Type} (a0 : List Int) (k0 : Int → Option R) : Option R := (slices_IndexFunc_Lint_int_isSample_l0 N k0 (k0 (-1)) N a0 ((a0.length : Nat) : Int) 0)
def P36 : AP := ⟨[pL [hI], .fn 86 [.ptr 0 0]], [(0, .box [.p (.fn 87 [])])]⟩
def E36 (x : P36.den) (k : KK R) : Option R := slices_IndexFunc_Lint_int_isSample N x.1.1 (fun r0 => k [0] [dI r0] [(0, .box [.p (.fn 87 [])])])
def F36 : CfS R := uC (F35 N) 116 P36 (E36 N)
theorem F36_ok : FOK (F36 N : CfS R) (runF T) := uCk (F35_ok N) c116 (Lp := (L36_1 N)) (hl := (LOK_of (l := [(26, [0, 1, 7, 8], c116_l0)]) (by kernel_rfl) ⟨(updL_ok (O36_l0 N N)), trivial⟩))
def slices_ContainsFunc_Lint_int_isSample (N : Nat) {R : Type} (a0 : List Int) (k0 : Bool → Option R) : Option R := (slices_IndexFunc_Lint_int_isSample N a0 (fun y1 => (k0 (decide (0 ≤ y1)))))
def P37 : AP := ⟨[pL [hI], .fn 86 [.ptr 0 0]], [(0, .box [.p (.fn 87 [])])]⟩
def E37 (x : P37.den) (k : KK R) : Option R := slices_ContainsFunc_Lint_int_isSample N x.1.1 (fun r0 => k [0] [dB r0] [(0, .box [.p (.fn 87 [])])])
def F37 : CfS R := uC (F36 N) 85 P37 (E37 N)
theorem F37_ok : FOK (F37 N : CfS R) (runF T) := uCk (F36_ok N) c85
def arith_each_int_isSample (N : Nat) {R : Type} (a0 : List Int) (k0 : Bool → Option R) : Option R := (slices_ContainsFunc_Lint_int_isSample N a0 (fun y1 => (k0 (!y1))))
def P38 : AP := ⟨[pL [hI], .p (.fn 87 [])], []⟩
def E38 (x : P38.den) (k : KK R) : Option R := arith_each_int_isSample N x.1.1 (fun r0 => k [] [dB r0] [])
def F38 : CfS R := uC (F37 N) 45 P38 (E38 N)
theorem F38_ok : FOK (F38 N : CfS R) (runF T) := uCk (F37_ok N) c45
def H39 : Nat → Option (List Sh) := fun n => if n = 13000 then some [hI] else none
def arith_samplesErr (N : Nat) {R : Type} (a0 : List Int) (k0 : Int → Option R) : Option R := (arith_unless N (decide (0 < ((a0.length : Nat) : Int))) 10 (fun y1 => (arith_unless N (decide (((a0.length : Nat) : Int) ≤ 30)) 8 (fun y2 => (arith_each_int_isSample N a0 (fun y3 => (arith_unless N y3 2 (fun y4 => (arith_first N [y1, y2, y4] k0)))))))))
def P39 : AP := ⟨[pL [hI]], []⟩
def E39 (x : P39.den) (k : KK R) : Option R := arith_samplesErr N x.1.1 (fun r0 => k [] [dI r0] [])
def F39 : CfS R := uC (F38 N) 48 P39 (E39 N)
theorem F39_ok : FOK (F39 N : CfS R) (runF T) := uCk (F38_ok N) c48 (H := H39)
def X40 : Nat → List SP := fun p => if p = 109 then [⟨[(4, .own 0), (5, pI)], [(0, .arr [hI])]⟩] else []
def H40 : Nat → Option (List Sh) := fun n => if n = 7000 then some [hI] else if n = 21000 then some [hI] else none
def arith_ConvolvedBy_l1 (N : Nat) {R : Type} (k0 : List Int → List Int → Int → Int → List Int → Option R) : Nat → List Int → Int → Int → List Int → Int → Int → List Int → Int → Int → List Int → Option R
  | 0, _, _, _, _, _, _, _, _, _, _ => none
  | n + 1, b0, b1, b2, b3, b4, b5, b6, b7, b8, b9 => (bif decide (b8 < b7) then ((at? b6 b8).bind fun x1 => (bif inR (w64 (b1 + b8)) b9.length then ((b9[(w64 (b1 + b8)).toNat]?).bind fun x2 => (bif inR (w64 (b1 + b8)) b9.length then ((b9[(w64 (b1 + b8)).toNat]?).bind fun x3 => (arith_ConvolvedBy_l1 N k0 n b0 b1 b2 b3 b4 b5 b6 b7 (w64 (b8 + 1)) (List.set b9 ((w64 (b1 + b8)).toNat) (w64 (x2 + (w64 (b2 * x1))))))) else none)) else none)) else (k0 b0 b3 b4 b5 b9))
def P40_l1 : SP := ⟨[(1, pL [hI]), (7, .own 0), (8, pI), (9, pI), (28, pL [hI]), (29, pI), (30, pI), (35, pL [hI]), (36, pI), (37, pI)], [(0, .arr [hI])]⟩
def E40_l1 (n : Nat) (x : P40_l1.den) (k : KS R) : Option R := arith_ConvolvedBy_l1 N (fun r0 r1 r2 r3 r4 => k (.ex 2) ⟨[(1, dL [hI] r0), (7, .own 0), (28, dL [hI] r1), (29, dI r2), (30, dI r3)], [(0, .arr (.t [hI] r4))]⟩) n x.1.1 x.1.2.2.1 x.1.2.2.2.1 x.1.2.2.2.2.1 x.1.2.2.2.2.2.1 x.1.2.2.2.2.2.2.1 x.1.2.2.2.2.2.2.2.1 x.1.2.2.2.2.2.2.2.2.1 x.1.2.2.2.2.2.2.2.2.2.1 x.2.1
theorem O40_l1 : LpG T P40_l1 (E40_l1 N (R := R)) [1, 7, 8, 9, 28, 29, 30, 35, 36, 37] c12_l1 := lpk (F39_ok N) 31334 (H := H40) (X := X40)
def L40_1 : LpS R := updL noL 31334 (lent' P40_l1 (E40_l1 N N))
def arith_ConvolvedBy_l0 (N : Nat) {R : Type} (k0 : List Int → Option R) : Nat → List Int → List Int → Int → Int → List Int → Option R
  | 0, _, _, _, _, _ => none
  | n + 1, b0, b1, b2, b3, b4 => (bif decide (b3 < b2) then ((at? b1 b3).bind fun x1 => (arith_ConvolvedBy_l1 N (fun z4 z5 z6 z7 z8 => (arith_ConvolvedBy_l0 N k0 n z4 z5 z6 (w64 (z7 + 1)) z8)) N b0 b3 x1 b1 b2 b3 b0 ((b0.length : Nat) : Int) 0 b4)) else (k0 b4))
def P40_l0 : SP := ⟨[(1, pL [hI]), (7, .own 0), (28, pL [hI]), (29, pI), (30, pI)], [(0, .arr [hI])]⟩
def E40_l0 (n : Nat) (x : P40_l0.den) (k : KS R) : Option R := arith_ConvolvedBy_l0 N (fun r0 => k (.ex 0) ⟨[(7, .own 0)], [(0, .arr (.t [hI] r0))]⟩) n x.1.1 x.1.2.2.1 x.1.2.2.2.1 x.1.2.2.2.2.1 x.2.1
theorem O40_l0 : LpG T P40_l0 (E40_l0 N (R := R)) [1, 7, 28, 29, 30] c12_l0 := lpk (F39_ok N) 122 (H := H40) (Lp := (L40_1 N)) (X := X40) (hl := (LOK_of (l := [(31334, [1, 7, 8, 9, 28, 29, 30, 35, 36, 37], c12_l1)]) (by kernel_rfl) ⟨(updL_ok (O40_l1 N N)), trivial⟩))
def L40_2 : LpS R := updL (L40_1 N) 122 (lent' P40_l0 (E40_l0 N N))
def arith_ConvolvedBy (N : Nat) {R : Type} (a0 a1 : List Int) (k0 : List Int → Int → Option R) : Option R := (arith_samplesErr N a0 (fun y1 => (arith_samplesErr N a1 (fun y2 => (arith_first N [y1, y2] (fun y3 => (bif decide (y3 ≠ 0) then (k0 [] y3) else (bif decide (0 ≤ (w64 ((w64 (((a0.length : Nat) : Int) + ((a1.length : Nat) : Int))) - 1)) ∧ (w64 ((w64 (((a0.length : Nat) : Int) + ((a1.length : Nat) : Int))) - 1)) ≤ (w64 ((w64 (((a0.length : Nat) : Int) + ((a1.length : Nat) : Int))) - 1))) then (bif roomB ((w64 ((w64 (((a0.length : Nat) : Int) + ((a1.length : Nat) : Int))) - 1)).toNat) 8 then (arith_ConvolvedBy_l0 N (fun z9 => (k0 z9 0)) N a1 a0 ((a0.length : Nat) : Int) 0 (List.replicate ((w64 ((w64 (((a0.length : Nat) : Int) + ((a1.length : Nat) : Int))) - 1)).toNat) 0)) else none) else none))))))))
def P40 : AP := ⟨[pL [hI], pL [hI]], []⟩
def E40 (x : P40.den) (k : KK R) : Option R := arith_ConvolvedBy N x.1.1 x.1.2.1 (fun r0 r1 => k [] [dL [hI] r0, dI r1] [])
def F40 : CfS R := uC (F39 N) 12 P40 (E40 N)
theorem F40_ok : FOK (F40 N : CfS R) (runF T) := uCk (F39_ok N) c12 (H := H40) (Lp := (L40_2 N)) (X := X40) (hl := (LOK_of (l := [(122, [1, 7, 28, 29, 30], c12_l0)]) (by kernel_rfl) ⟨(updL_ok (O40_l0 N N)), trivial⟩))
def arith_power_l0 (N : Nat) {R : Type} (k0 : Int → Option R) : Nat → Int → Int → Int → Int → Option R
  | 0, _, _, _, _ => none
  | n + 1, b0, b1, b2, b3 => (bif decide (b3 < b2) then (arith_power_l0 N k0 n b0 (w64 (b1 * b0)) b2 (w64 (b3 + 1))) else (k0 b1))
def P41_l0 : SP := ⟨[(0, pI), (5, pI), (6, pI), (7, pI)], []⟩
def E41_l0 (n : Nat) (x : P41_l0.den) (k : KS R) : Option R := arith_power_l0 N (fun r0 => k (.ex 0) ⟨[(5, dI r0)], []⟩) n x.1.1 x.1.2.1 x.1.2.2.1 x.1.2.2.2.1
theorem O41_l0 : LpG T P41_l0 (E41_l0 N (R := R)) [0, 5, 6, 7] c105_l0 := lpk (F40_ok N) 58
def L41_1 : LpS R := updL noL 58 (lent' P41_l0 (E41_l0 N N))
def arith_power (N : Nat) {R : Type} (a0 a1 : Int) (k0 : Int → Option R) : Option R := (arith_power_l0 N k0 N a0 1 a1 0)
def P41 : AP := ⟨[pI, pI], []⟩
def E41 (x : P41.den) (k : KK R) : Option R := arith_power N x.1.1 x.1.2.1 (fun r0 => k [] [dI r0] [])
def F41 : CfS R := uC (F40 N) 105 P41 (E41 N)
theorem F41_ok : FOK (F41 N : CfS R) (runF T) := uCk (F40_ok N) c105 (Lp := (L41_1 N)) (hl := (LOK_of (l := [(58, [0, 5, 6, 7], c105_l0)]) (by kernel_rfl) ⟨(updL_ok (O41_l0 N N)), trivial⟩))
def H42 : Nat → Option (List Sh) := fun n => if n = 6000 then some [hI] else none
def arith_FormatFixed_j0 (N : Nat) {R : Type} (k0 : ByteArray → Int → Option R) (b0 : Int) (b1 : ByteArray) (b2 b3 b4 b5 : Int) : Option R := (bif decide (-9223372036854775808 ≤ b0 ∧ b0 ≤ 9223372036854775807) then (bif repOk (ByteArray.mk #[48]) (max 0 (w64 ((w64 (b3 + 1)) - (((itoaB b0).size : Nat) : Int)))) then (bif decide (((((repB (ByteArray.mk #[48]) ((max 0 (w64 ((w64 (b3 + 1)) - (((itoaB b0).size : Nat) : Int)))).toNat)).size + (itoaB b0).size : Nat)) : Int) > 9223372036854775807) then none else (bif decide (0 < b3) then (bif slP 0 (w64 (((((repB (ByteArray.mk #[48]) ((max 0 (w64 ((w64 (b3 + 1)) - (((itoaB b0).size : Nat) : Int)))).toNat)) ++ (itoaB b0)).size : Nat) : Int) - b3)) ((repB (ByteArray.mk #[48]) ((max 0 (w64 ((w64 (b3 + 1)) - (((itoaB b0).size : Nat) : Int)))).toNat)) ++ (itoaB b0)).size then (bif decide (((((ByteArray.extract ((repB (ByteArray.mk #[48]) ((max 0 (w64 ((w64 (b3 + 1)) - (((itoaB b0).size : Nat) : Int)))).toNat)) ++ (itoaB b0)) 0 ((w64 (((((repB (ByteArray.mk #[48]) ((max 0 (w64 ((w64 (b3 + 1)) - (((itoaB b0).size : Nat) : Int)))).toNat)) ++ (itoaB b0)).size : Nat) : Int) - b3)).toNat)).size + (ByteArray.mk #[46]).size : Nat)) : Int) > 9223372036854775807) then none else (bif slP (w64 (((((repB (ByteArray.mk #[48]) ((max 0 (w64 ((w64 (b3 + 1)) - (((itoaB b0).size : Nat) : Int)))).toNat)) ++ (itoaB b0)).size : Nat) : Int) - b3)) ((((repB (ByteArray.mk #[48]) ((max 0 (w64 ((w64 (b3 + 1)) - (((itoaB b0).size : Nat) : Int)))).toNat)) ++ (itoaB b0)).size : Nat) : Int) ((repB (ByteArray.mk #[48]) ((max 0 (w64 ((w64 (b3 + 1)) - (((itoaB b0).size : Nat) : Int)))).toNat)) ++ (itoaB b0)).size then (bif decide ((((((ByteArray.extract ((repB (ByteArray.mk #[48]) ((max 0 (w64 ((w64 (b3 + 1)) - (((itoaB b0).size : Nat) : Int)))).toNat)) ++ (itoaB b0)) 0 ((w64 (((((repB (ByteArray.mk #[48]) ((max 0 (w64 ((w64 (b3 + 1)) - (((itoaB b0).size : Nat) : Int)))).toNat)) ++ (itoaB b0)).size : Nat) : Int) - b3)).toNat)) ++ (ByteArray.mk #[46])).size + (ByteArray.extract ((repB (ByteArray.mk #[48]) ((max 0 (w64 ((w64 (b3 + 1)) - (((itoaB b0).size : Nat) : Int)))).toNat)) ++ (itoaB b0)) ((w64 (((((repB (ByteArray.mk #[48]) ((max 0 (w64 ((w64 (b3 + 1)) - (((itoaB b0).size : Nat) : Int)))).toNat)) ++ (itoaB b0)).size : Nat) : Int) - b3)).toNat) (((repB (ByteArray.mk #[48]) ((max 0 (w64 ((w64 (b3 + 1)) - (((itoaB b0).size : Nat) : Int)))).toNat)) ++ (itoaB b0)).size)).size : Nat)) : Int) > 9223372036854775807) then none else (bif decide ((((b1.size + (((ByteArray.extract ((repB (ByteArray.mk #[48]) ((max 0 (w64 ((w64 (b3 + 1)) - (((itoaB b0).size : Nat) : Int)))).toNat)) ++ (itoaB b0)) 0 ((w64 (((((repB (ByteArray.mk #[48]) ((max 0 (w64 ((w64 (b3 + 1)) - (((itoaB b0).size : Nat) : Int)))).toNat)) ++ (itoaB b0)).size : Nat) : Int) - b3)).toNat)) ++ (ByteArray.mk #[46])) ++ (ByteArray.extract ((repB (ByteArray.mk #[48]) ((max 0 (w64 ((w64 (b3 + 1)) - (((itoaB b0).size : Nat) : Int)))).toNat)) ++ (itoaB b0)) ((w64 (((((repB (ByteArray.mk #[48]) ((max 0 (w64 ((w64 (b3 + 1)) - (((itoaB b0).size : Nat) : Int)))).toNat)) ++ (itoaB b0)).size : Nat) : Int) - b3)).toNat) (((repB (ByteArray.mk #[48]) ((max 0 (w64 ((w64 (b3 + 1)) - (((itoaB b0).size : Nat) : Int)))).toNat)) ++ (itoaB b0)).size))).size : Nat)) : Int) > 9223372036854775807) then none else (k0 (b1 ++ (((ByteArray.extract ((repB (ByteArray.mk #[48]) ((max 0 (w64 ((w64 (b3 + 1)) - (((itoaB b0).size : Nat) : Int)))).toNat)) ++ (itoaB b0)) 0 ((w64 (((((repB (ByteArray.mk #[48]) ((max 0 (w64 ((w64 (b3 + 1)) - (((itoaB b0).size : Nat) : Int)))).toNat)) ++ (itoaB b0)).size : Nat) : Int) - b3)).toNat)) ++ (ByteArray.mk #[46])) ++ (ByteArray.extract ((repB (ByteArray.mk #[48]) ((max 0 (w64 ((w64 (b3 + 1)) - (((itoaB b0).size : Nat) : Int)))).toNat)) ++ (itoaB b0)) ((w64 (((((repB (ByteArray.mk #[48]) ((max 0 (w64 ((w64 (b3 + 1)) - (((itoaB b0).size : Nat) : Int)))).toNat)) ++ (itoaB b0)).size : Nat) : Int) - b3)).toNat) (((repB (ByteArray.mk #[48]) ((max 0 (w64 ((w64 (b3 + 1)) - (((itoaB b0).size : Nat) : Int)))).toNat)) ++ (itoaB b0)).size)))) 0))) else none)) else none) else (bif decide ((((b1.size + ((repB (ByteArray.mk #[48]) ((max 0 (w64 ((w64 (b3 + 1)) - (((itoaB b0).size : Nat) : Int)))).toNat)) ++ (itoaB b0)).size : Nat)) : Int) > 9223372036854775807) then none else (k0 (b1 ++ ((repB (ByteArray.mk #[48]) ((max 0 (w64 ((w64 (b3 + 1)) - (((itoaB b0).size : Nat) : Int)))).toNat)) ++ (itoaB b0))) 0)))) else none) else none)
def P42_j0 : SP := ⟨[(6, .ptr 0 0), (8, pI), (9, pS)], [(0, .box [pI, pI, pI, pI])]⟩
def E42_j0 (n : Nat) (x : P42_j0.den) (k : KS R) : Option R := match n with
  | 0 => none
  | _ + 1 => arith_FormatFixed_j0 N (fun r0 r1 => k .ret ⟨[(4, dS r0), (5, dI r1)], []⟩) x.1.2.1 x.1.2.2.1 x.2.1.1 x.2.1.2.1 x.2.1.2.2.1 x.2.1.2.2.2.1
theorem O42_j0 : LpG T P42_j0 (E42_j0 N (R := R)) [6, 8, 9] c61_j0 := lpk (F41_ok N) 254 (H := H42)
def L42_1 : LpS R := updL noL 254 (lent' P42_j0 (E42_j0 N 1))
def arith_FormatFixed (N : Nat) {R : Type} (a0 a1 a2 a3 a4 : Int) (k0 : ByteArray → Int → Option R) : Option R := (arith_opened N a1 a2 a3 a4 [a0] (fun y1 y2 y3 y4 y5 => (bif decide (y5 ≠ 0) then (k0 (ByteArray.mk #[]) y5) else (arith_form_signed N y1 y2 y3 y4 a0 (fun y6 => (arith_power N 5 y2 (fun y7 => (bif decide ((w64 (y6 * y7)) < 0) then (arith_FormatFixed_j0 N k0 (w64 (0 - (w64 (y6 * y7)))) (ByteArray.mk #[45]) y1 y2 y3 y4) else (arith_FormatFixed_j0 N k0 (w64 (y6 * y7)) (ByteArray.mk #[]) y1 y2 y3 y4)))))))))
def P42 : AP := ⟨[pI, .agg [pI, pI, pI, pI]], []⟩
def E42 (x : P42.den) (k : KK R) : Option R := arith_FormatFixed N x.1.1 x.1.2.1.1 x.1.2.1.2.1 x.1.2.1.2.2.1 x.1.2.1.2.2.2.1 (fun r0 r1 => k [] [dS r0, dI r1] [])
def F42 : CfS R := uC (F41 N) 61 P42 (E42 N)
theorem F42_ok : FOK (F42 N : CfS R) (runF T) := uCk (F41_ok N) c61 (H := H42) (Lp := (L42_1 N)) (hl := (LOK_of (l := [(254, [6, 8, 9], c61_j0)]) (by kernel_rfl) ⟨(updL_ok (O42_j0 N 1)), trivial⟩))
def ratchetbase_Ints_l0 (N : Nat) {R : Type} (k0 : Bool → Option R) (k1 : Option R) : Nat → List Int → List Int → Int → Option R
  | 0, _, _, _ => none
  | n + 1, b0, b1, b2 => (bif decide (b2 < ((b0.length : Nat) : Int)) then ((at? b0 b2).bind fun x1 => ((at? b1 b2).bind fun x2 => (bif decide (x1 ≠ x2) then (k0 false) else (ratchetbase_Ints_l0 N k0 k1 n b0 b1 (w64 (b2 + 1)))))) else k1)
def P43_l0 : SP := ⟨[(0, pL [hI]), (1, pL [hI]), (5, pI)], []⟩
def E43_l0 (n : Nat) (x : P43_l0.den) (k : KS R) : Option R := ratchetbase_Ints_l0 N (fun r0 => k .ret ⟨[(4, dB r0)], []⟩) (k (.ex 0) ⟨[], []⟩) n x.1.1 x.1.2.1 x.1.2.2.1
theorem O43_l0 : LpG T P43_l0 (E43_l0 N (R := R)) [0, 1, 5] c20_l0 := lpk (F42_ok N) 58
def L43_1 : LpS R := updL noL 58 (lent' P43_l0 (E43_l0 N N))
def ratchetbase_Ints (N : Nat) {R : Type} (a0 a1 : List Int) (k0 : Bool → Option R) : Option R := (bif decide (((a0.length : Nat) : Int) ≠ ((a1.length : Nat) : Int)) then (k0 false) else (ratchetbase_Ints_l0 N k0 (k0 true) N a0 a1 0))
def P43 : AP := ⟨[pL [hI], pL [hI]], []⟩
def E43 (x : P43.den) (k : KK R) : Option R := ratchetbase_Ints N x.1.1 x.1.2.1 (fun r0 => k [] [dB r0] [])
def F43 : CfS R := uC (F42 N) 20 P43 (E43 N)
theorem F43_ok : FOK (F43 N : CfS R) (runF T) := uCk (F42_ok N) c20 (Lp := (L43_1 N)) (hl := (LOK_of (l := [(58, [0, 1, 5], c20_l0)]) (by kernel_rfl) ⟨(updL_ok (O43_l0 N N)), trivial⟩))
def H44 : Nat → Option (List Sh) := fun n => if n = 21000 then some [hI, hI] else if n = 28000 then some [hI] else if n = 29000 then some [hI] else if n = 86000 then some [hI] else none
def ratchetlaw30_awake (N : Nat) {R : Type} (k0 : Bool → Option R) : Option R := (ratchetlaw30_Form N (fun y1 y2 y3 y4 => (arith_FixedOf N 5 3 y1 y2 y3 y4 (fun y5 y6 => (ratchetlaw30_Form N (fun y7 y8 y9 y10 => (arith_MulFixed N 27 24 y7 y8 y9 y10 (fun y11 y12 => (arith_TransformOf N [(1, 0), (2, 0), (3, 0), (4, 0)] (fun y13 y14 => (arith_ConvolvedBy N [1, 2] [3, 4] (fun y15 y16 => (ratchetlaw30_Form N (fun y17 y18 y19 y20 => (arith_FormatFixed N 229 y17 y18 y19 y20 (fun y21 y22 => (bif decide (y6 = 0) then (bif decide (y5 = 27) then (bif decide (y12 = 0) then (bif decide (y11 = 40) then (bif decide (y14 = 0) then (bif decide (((y13.length : Nat) : Int) = 4) then ((at? y13 0).bind fun x23 => (bif (false != (decide (x23.1 = 10) && (decide (x23.2.1 = 0) && (decide (x23.2.2.1 = 0) && (decide (x23.2.2.2 = 0) && true))))) then ((at? y13 1).bind fun x24 => (bif (false != (decide (x24.1 = (-2)) && (decide (x24.2.1 = 0) && (decide (x24.2.2.1 = 2) && (decide (x24.2.2.2 = 0) && true))))) then (bif decide (y16 = 0) then (ratchetbase_Ints N y15 [3, 10, 8] (fun y25 => (bif y25 then (bif decide (y22 = 0) then (k0 (decide (y21 = (ByteArray.mk #[45, 49, 46, 54, 56, 55, 53])))) else (k0 false)) else (k0 false)))) else (k0 false)) else (k0 false))) else (k0 false))) else (k0 false)) else (k0 false)) else (k0 false)) else (k0 false)) else (k0 false)) else (k0 false))))))))))))))))))
def P44 : AP := ⟨[], []⟩
def E44 (x : P44.den) (k : KK R) : Option R := ratchetlaw30_awake N (fun r0 => k [] [dB r0] [])
def F44 : CfS R := uC (F43 N) 18 P44 (E44 N)
theorem F44_ok : FOK (F44 N : CfS R) (runF T) := uCk (F43_ok N) c18 (H := H44)
def H45 : Nat → Option (List Sh) := fun n => if n = 2000 then some [hI] else none
def ratchetbase_CopyInts (N : Nat) {R : Type} (a0 : List Int) (k0 : List Int → Option R) : Option R := (bif roomB (0 + a0.length) 8 then (k0 a0) else none)
def P45 : AP := ⟨[pL [hI]], []⟩
def E45 (x : P45.den) (k : KK R) : Option R := ratchetbase_CopyInts N x.1.1 (fun r0 => k [] [.own 0] [(0, .arr (.t [hI] r0))])
def F45 : CfS R := uC (F44 N) 8 P45 (E45 N)
theorem F45_ok : FOK (F45 N : CfS R) (runF T) := uCk (F44_ok N) c8 (H := H45)
def arith_filterErr_c1 (N : Nat) {R : Type} (a0 : Int) (k0 : Bool → Option R) : Option R := (arith_within N a0 (-7) 7 k0)
def P46 : AP := ⟨[pI], []⟩
def E46 (x : P46.den) (k : KK R) : Option R := arith_filterErr_c1 N x.1.1 (fun r0 => k [] [dB r0] [])
def F46 : CfS R := uC (F45 N) 83 P46 (E46 N)
theorem F46_ok : FOK (F46 N : CfS R) (runF T) := uCk (F45_ok N) c83
def arith_each_int__c1_filterErr_c1 (N : Nat) {R : Type} (a0 : Int) (k0 : Bool → Option R) : Option R := (arith_filterErr_c1 N a0 (fun y1 => (k0 (!y1))))
def P47 : AP := ⟨[pI, .ptr 0 0], [(0, .box [.p (.fn 83 [])])]⟩
def E47 (x : P47.den) (k : KK R) : Option R := arith_each_int__c1_filterErr_c1 N x.1.1 (fun r0 => k [0] [dB r0] [(0, .box [.p (.fn 83 [])])])
def F47 : CfS R := uC (F46 N) 86 P47 (E47 N)
theorem F47_ok : FOK (F47 N : CfS R) (runF T) := uCk (F46_ok N) c86
def slices_IndexFunc_Lint_int_filterErr_c1_l0 (N : Nat) {R : Type} (k0 : Int → Option R) (k1 : Option R) : Nat → List Int → Int → Int → Option R
  | 0, _, _, _ => none
  | n + 1, b0, b1, b2 => (bif decide (b2 < b1) then ((at? b0 b2).bind fun x1 => (arith_each_int__c1_filterErr_c1 N x1 (fun y2 => (bif y2 then (k0 b2) else (slices_IndexFunc_Lint_int_filterErr_c1_l0 N k0 k1 n b0 b1 (w64 (b2 + 1))))))) else k1)
def P48_l0 : SP := ⟨[(0, pL [hI]), (1, .fn 86 [.ptr 0 0]), (7, pI), (8, pI), (100001, .fn 86 [.ptr 0 0])], [(0, .box [.p (.fn 83 [])])]⟩
def E48_l0 (n : Nat) (x : P48_l0.den) (k : KS R) : Option R := slices_IndexFunc_Lint_int_filterErr_c1_l0 N (fun r0 => k .ret ⟨[(4, dI r0), (100001, .fn 86 [.ptr 0 0])], [(0, .box [.p (.fn 83 [])])]⟩) (k (.ex 0) ⟨[(100001, .fn 86 [.ptr 0 0])], [(0, .box [.p (.fn 83 [])])]⟩) n x.1.1 x.1.2.2.1 x.1.2.2.2.1
theorem O48_l0 : LpG T P48_l0 (E48_l0 N (R := R)) [0, 1, 7, 8] c116_l0 := lpk (F47_ok N) 26
def L48_1 : LpS R := updL noL 26 (lent' P48_l0 (E48_l0 N N))
def slices_IndexFunc_Lint_int_filterErr_c1 (N : Nat) {R : Type} (a0 : List Int) (k0 : Int → Option R) : Option R := (slices_IndexFunc_Lint_int_filterErr_c1_l0 N k0 (k0 (-1)) N a0 ((a0.length : Nat) : Int) 0)
def P48 : AP := ⟨[pL [hI], .fn 86 [.ptr 0 0]], [(0, .box [.p (.fn 83 [])])]⟩
def E48 (x : P48.den) (k : KK R) : Option R := slices_IndexFunc_Lint_int_filterErr_c1 N x.1.1 (fun r0 => k [0] [dI r0] [(0, .box [.p (.fn 83 [])])])
def F48 : CfS R := uC (F47 N) 116 P48 (E48 N)
theorem F48_ok : FOK (F48 N : CfS R) (runF T) := uCk (F47_ok N) c116 (Lp := (L48_1 N)) (hl := (LOK_of (l := [(26, [0, 1, 7, 8], c116_l0)]) (by kernel_rfl) ⟨(updL_ok (O48_l0 N N)), trivial⟩))
def slices_ContainsFunc_Lint_int_filterErr_c1 (N : Nat) {R : Type} (a0 : List Int) (k0 : Bool → Option R) : Option R := (slices_IndexFunc_Lint_int_filterErr_c1 N a0 (fun y1 => (k0 (decide (0 ≤ y1)))))
def P49 : AP := ⟨[pL [hI], .fn 86 [.ptr 0 0]], [(0, .box [.p (.fn 83 [])])]⟩
def E49 (x : P49.den) (k : KK R) : Option R := slices_ContainsFunc_Lint_int_filterErr_c1 N x.1.1 (fun r0 => k [0] [dB r0] [(0, .box [.p (.fn 83 [])])])
def F49 : CfS R := uC (F48 N) 85 P49 (E49 N)
theorem F49_ok : FOK (F49 N : CfS R) (runF T) := uCk (F48_ok N) c85
def arith_each_int_filterErr_c1 (N : Nat) {R : Type} (a0 : List Int) (k0 : Bool → Option R) : Option R := (slices_ContainsFunc_Lint_int_filterErr_c1 N a0 (fun y1 => (k0 (!y1))))
def P50 : AP := ⟨[pL [hI], .p (.fn 83 [])], []⟩
def E50 (x : P50.den) (k : KK R) : Option R := arith_each_int_filterErr_c1 N x.1.1 (fun r0 => k [] [dB r0] [])
def F50 : CfS R := uC (F49 N) 45 P50 (E50 N)
theorem F50_ok : FOK (F50 N : CfS R) (runF T) := uCk (F49_ok N) c45
def H51 : Nat → Option (List Sh) := fun n => if n = 28000 then some [hI] else none
def arith_filterErr (N : Nat) {R : Type} (a0 : List Int) (a1 a2 : Int) (k0 : Int → Option R) : Option R := (arith_unless N (decide (0 < ((a0.length : Nat) : Int))) 10 (fun y1 => (arith_unless N (decide (((a0.length : Nat) : Int) ≤ 4)) 8 (fun y2 => (arith_each_int_filterErr_c1 N a0 (fun y3 => (arith_unless N y3 2 (fun y4 => (arith_within N a1 1 8 (fun y5 => (bif y5 then (arith_within N a2 a1 16 (fun y6 => (arith_unless N y6 25 (fun y7 => (arith_first N [y1, y2, y4, y7] k0))))) else (arith_unless N false 25 (fun y9 => (arith_first N [y1, y2, y4, y9] k0))))))))))))))
def P51 : AP := ⟨[.agg zb5], []⟩
def E51 (x : P51.den) (k : KK R) : Option R := arith_filterErr N x.1.1.1 x.1.1.2.1 x.1.1.2.2.1 (fun r0 => k [] [dI r0] [])
def F51 : CfS R := uC (F50 N) 39 P51 (E51 N)
theorem F51_ok : FOK (F51 N : CfS R) (runF T) := uCk (F50_ok N) c39 (H := H51)
def H52 : Nat → Option (List Sh) := fun n => if n = 6000 then some [hI, hI, .sl [hI], hI] else none
def arith_FilterOf_c1 (N : Nat) {R : Type} (a0 a1 : Int) (a2 : List Int) (a3 : Int) (a4 : ByteArray) (a5 : zt6) (k0 : Int → ByteArray → zt6 → zt2 → Option R) : Option R := (k0 0 a4 a5 [(a0, a1, a2, a3)])
def P52 : AP := ⟨[.agg zb4, .ptr 0 0], [(0, .box zb13), (1, .arr [.s, hI]), (2, .em 5), (3, .em 4), (4, .em 3), (5, .em 2), (6, .em 2)]⟩
def E52 (x : P52.den) (k : KK R) : Option R := arith_FilterOf_c1 N x.1.1.1 x.1.1.2.1 x.1.1.2.2.1 x.1.1.2.2.2.1 x.2.1.1 x.2.2.1 (fun r0 r1 r2 r3 => k [0] [dI r0] [(0, .box (zd10 r1)), (1, .arr (.t [.s, hI] r2)), (2, .arr (.e 5)), (3, .arr (.t zs1 r3)), (4, .arr (.e 3)), (5, .arr (.e 2)), (6, .arr (.e 2))])
def F52 : CfS R := uC (F51 N) 40 P52 (E52 N)
theorem F52_ok : FOK (F52 N : CfS R) (runF T) := uCk (F51_ok N) c40 (H := H52)
def arith_FilterOf_c2 (N : Nat) {R : Type} (a0 a1 : Int) (a2 : ByteArray) (a3 : zt6) (k0 : Int → ByteArray → zt6 → zt2 → Option R) : Option R := (bif decide (a0 < 0) then none else (arith_FilterOf_c1 N 0 a0 [] (andI .i64 a1 (w64 ((shl' .i64 1 a0) - 1))) a2 a3 k0))
def P53 : AP := ⟨[pI, pI, .ptr 0 0], [(0, .box [.fn 40 [.ptr 1 0]]), (1, .box zb8), (2, .arr [.s, hI]), (3, .em 5), (4, .em 4), (5, .em 3), (6, .em 2), (7, .em 2)]⟩
def E53 (x : P53.den) (k : KK R) : Option R := arith_FilterOf_c2 N x.1.1 x.1.2.1 x.2.2.1.1 x.2.2.2.1 (fun r0 r1 r2 r3 => k [0, 1] [dI r0] [(0, .box [.fn 40 [.ptr 1 0]]), (1, .box (zd11 r1)), (2, .arr (.t [.s, hI] r2)), (3, .arr (.e 5)), (4, .arr (.t zs1 r3)), (5, .arr (.e 3)), (6, .arr (.e 2)), (7, .arr (.e 2))])
def F53 : CfS R := uC (F52 N) 41 P53 (E53 N)
theorem F53_ok : FOK (F53 N : CfS R) (runF T) := uCk (F52_ok N) c41
def H54 : Nat → Option (List Sh) := fun n => if n = 6000 then some [hI, hI, .sl [hI], hI] else none
def arith_FilterOf_c1_v1 (N : Nat) {R : Type} (a0 a1 : Int) (a2 : List Int) (a3 : Int) (a4 : ByteArray) (a5 : zt6) (a6 : zt2) (k0 : Int → ByteArray → zt6 → zt2 → Option R) : Option R := (bif roomB (a6.length + 1) 48 then (k0 (w64 ((((a6 ++ [(a0, a1, a2, a3)]).length : Nat) : Int) - 1)) a4 a5 (a6 ++ [(a0, a1, a2, a3)])) else none)
def P54 : AP := ⟨[.agg zb4, .ptr 0 0], [(0, .box zb13), (1, .arr [.s, hI]), (2, .em 5), (3, .arr zs1), (4, .em 3), (5, .em 2), (6, .em 2)]⟩
def E54 (x : P54.den) (k : KK R) : Option R := arith_FilterOf_c1_v1 N x.1.1.1 x.1.1.2.1 x.1.1.2.2.1 x.1.1.2.2.2.1 x.2.1.1 x.2.2.1 x.2.2.2.2.1 (fun r0 r1 r2 r3 => k [0] [dI r0] [(0, .box (zd10 r1)), (1, .arr (.t [.s, hI] r2)), (2, .arr (.e 5)), (3, .arr (.t zs1 r3)), (4, .arr (.e 3)), (5, .arr (.e 2)), (6, .arr (.e 2))])
def F54 : CfS R := uC (F53 N) 40 P54 (E54 N)
theorem F54_ok : FOK (F54 N : CfS R) (runF T) := uCk (F53_ok N) c40 (H := H54)
def arith_FilterOf_c2_v1 (N : Nat) {R : Type} (a0 a1 : Int) (a2 : ByteArray) (a3 : zt6) (a4 : zt2) (k0 : Int → ByteArray → zt6 → zt2 → Option R) : Option R := (bif decide (a0 < 0) then none else (arith_FilterOf_c1_v1 N 0 a0 [] (andI .i64 a1 (w64 ((shl' .i64 1 a0) - 1))) a2 a3 a4 k0))
def P55 : AP := ⟨[pI, pI, .ptr 0 0], [(0, .box [.fn 40 [.ptr 1 0]]), (1, .box zb8), (2, .arr [.s, hI]), (3, .em 5), (4, .arr zs1), (5, .em 3), (6, .em 2), (7, .em 2)]⟩
def E55 (x : P55.den) (k : KK R) : Option R := arith_FilterOf_c2_v1 N x.1.1 x.1.2.1 x.2.2.1.1 x.2.2.2.1 x.2.2.2.2.2.1 (fun r0 r1 r2 r3 => k [0, 1] [dI r0] [(0, .box [.fn 40 [.ptr 1 0]]), (1, .box (zd11 r1)), (2, .arr (.t [.s, hI] r2)), (3, .arr (.e 5)), (4, .arr (.t zs1 r3)), (5, .arr (.e 3)), (6, .arr (.e 2)), (7, .arr (.e 2))])
def F55 : CfS R := uC (F54 N) 41 P55 (E55 N)
theorem F55_ok : FOK (F55 N : CfS R) (runF T) := uCk (F54_ok N) c41
def H56 : Nat → Option (List Sh) := fun n => if n = 6000 then some [hI, hI, .sl [hI], hI] else none
def arith_FilterOf_c1_v2 (N : Nat) {R : Type} (a0 a1 : Int) (a2 : List Int) (a3 : Int) (a4 : ByteArray) (a5 : zt6) (a6 : zt1) (a7 : zt2) (k0 : Int → ByteArray → zt6 → zt1 → zt2 → Option R) : Option R := (bif roomB (a7.length + 1) 48 then (k0 (w64 ((((a7 ++ [(a0, a1, a2, a3)]).length : Nat) : Int) - 1)) a4 a5 a6 (a7 ++ [(a0, a1, a2, a3)])) else none)
def P56 : AP := ⟨[.agg zb4, .ptr 0 0], [(0, .box zb13), (1, .arr [.s, hI]), (2, .arr zs2), (3, .arr zs1), (4, .em 3), (5, .em 2), (6, .em 2)]⟩
def E56 (x : P56.den) (k : KK R) : Option R := arith_FilterOf_c1_v2 N x.1.1.1 x.1.1.2.1 x.1.1.2.2.1 x.1.1.2.2.2.1 x.2.1.1 x.2.2.1 x.2.2.2.1 x.2.2.2.2.1 (fun r0 r1 r2 r3 r4 => k [0] [dI r0] [(0, .box (zd10 r1)), (1, .arr (.t [.s, hI] r2)), (2, .arr (.t zs2 r3)), (3, .arr (.t zs1 r4)), (4, .arr (.e 3)), (5, .arr (.e 2)), (6, .arr (.e 2))])
def F56 : CfS R := uC (F55 N) 40 P56 (E56 N)
theorem F56_ok : FOK (F56 N : CfS R) (runF T) := uCk (F55_ok N) c40 (H := H56)
def arith_FilterOf_c2_v2 (N : Nat) {R : Type} (a0 a1 : Int) (a2 : ByteArray) (a3 : zt6) (a4 : zt1) (a5 : zt2) (k0 : Int → ByteArray → zt6 → zt1 → zt2 → Option R) : Option R := (bif decide (a0 < 0) then none else (arith_FilterOf_c1_v2 N 0 a0 [] (andI .i64 a1 (w64 ((shl' .i64 1 a0) - 1))) a2 a3 a4 a5 k0))
def P57 : AP := ⟨[pI, pI, .ptr 0 0], [(0, .box [.fn 40 [.ptr 1 0]]), (1, .box zb8), (2, .arr [.s, hI]), (3, .arr zs2), (4, .arr zs1), (5, .em 3), (6, .em 2), (7, .em 2)]⟩
def E57 (x : P57.den) (k : KK R) : Option R := arith_FilterOf_c2_v2 N x.1.1 x.1.2.1 x.2.2.1.1 x.2.2.2.1 x.2.2.2.2.1 x.2.2.2.2.2.1 (fun r0 r1 r2 r3 r4 => k [0, 1] [dI r0] [(0, .box [.fn 40 [.ptr 1 0]]), (1, .box (zd11 r1)), (2, .arr (.t [.s, hI] r2)), (3, .arr (.t zs2 r3)), (4, .arr (.t zs1 r4)), (5, .arr (.e 3)), (6, .arr (.e 2)), (7, .arr (.e 2))])
def F57 : CfS R := uC (F56 N) 41 P57 (E57 N)
theorem F57_ok : FOK (F57 N : CfS R) (runF T) := uCk (F56_ok N) c41
def X58 : Nat → List SP := fun p => if p = 109 then [⟨[(2, .ptr 0 0), (3, pI)], [(0, .box [pS, .own 1, .own 2, .own 3, .own 4, .own 5, .own 6]), (1, .arr [.s, hI]), (2, .arr zs2), (3, .arr zs1), (4, .arr zs0), (5, .arr [.s, hI]), (6, .em 2)]⟩] else []
def H58 : Nat → Option (List Sh) := fun n => if n = 16000 then some [.s, hI] else if n = 58000 then some [.s, hI, hI, hI, hI] else if n = 71000 then some [hI, hI, hI] else if n = 84000 then some [hI] else if n = 94000 then some [hI] else if n = 107000 then some [hI] else if n = 116000 then some [hI] else if n = 123000 then some [.s, hI, .sl [hI, hI, hI]] else if n = 128000 then some [.s, hI] else none
def arith_FilterOf_j0 (N : Nat) {R : Type} (k0 : Int → Int → List Int → Int → Int → List Int → Int → Int → ByteArray → ByteArray → zt6 → zt1 → zt2 → ByteArray → Int → zt7 → List Int → Option R) (b0 b1 b2 b3 : Int) (b4 : List Int) (b5 b6 : Int) (b7 : List Int) (b8 b9 : Int) (b10 b11 : ByteArray) (b12 : zt6) (b13 : zt1) (b14 : zt2) (b15 : ByteArray) (b16 : Int) (b17 : zt7) (b18 : List Int) : Option R := (arith_FilterOf_c1_v2 N 1 b8 [] b2 b11 b12 b13 b14 (fun y1 y2 y3 y4 y5 => (bif roomB (b18.length + 1) 8 then (bif inR b2 ((b18 ++ [y1]).length) then (((b18 ++ [y1])[b2.toNat]?).bind fun x6 => (arith_FilterOf_c1_v2 N 16 b9 [x6] 0 y2 y3 y4 y5 (fun y7 y8 y9 y10 y11 => (arith_FilterOf_c2_v2 N b9 b3 y8 y9 y10 y11 (fun y12 y13 y14 y15 y16 => (arith_FilterOf_c1_v2 N 8 b9 [y7, y12] 0 y13 y14 y15 y16 (fun y17 y18 y19 y20 y21 => (arith_FilterOf_c1_v2 N 6 b9 [b1, y17] 0 y18 y19 y20 y21 (fun y22 y23 y24 y25 y26 => (k0 b0 y22 b4 b5 b6 b7 b8 b9 b10 y23 y24 y25 y26 b15 b16 b17 (b18 ++ [y1]))))))))))) else none) else none)))
def P58_j0 : SP := ⟨[(1, .ptr 0 0), (2, .ptr 1 0), (5, .ptr 8 0), (6, .ptr 15 0), (7, .fn 41 [.ptr 15 0]), (8, pI), (9, .ptr 16 0), (10, .own 18), (11, pI), (12, pI), (13, pI), (38, pL [hI]), (39, pI), (40, pI)], [(0, .box zb5), (1, .box zb8), (2, .em 2), (3, .em 5), (4, .em 4), (5, .em 3), (6, .em 2), (7, .em 2), (8, .box [pS, .own 9, .own 10, .own 11, .own 12, .own 13, .own 14]), (9, .arr [.s, hI]), (10, .arr zs2), (11, .arr zs1), (12, .em 3), (13, .em 2), (14, .em 2), (15, .box [.fn 40 [.ptr 8 0]]), (16, .box [pS, pI, .own 17]), (17, .arr zs5), (18, .arr [hI])]⟩
def E58_j0 (n : Nat) (x : P58_j0.den) (k : KS R) : Option R := match n with
  | 0 => none
  | _ + 1 => arith_FilterOf_j0 N (fun r0 r1 r2 r3 r4 r5 r6 r7 r8 r9 r10 r11 r12 r13 r14 r15 r16 => k (.ex 1523929) ⟨[(1, .ptr 0 0), (2, .ptr 1 0), (5, .ptr 8 0), (6, .ptr 15 0), (7, .fn 41 [.ptr 15 0]), (8, dI r0), (9, .ptr 16 0), (10, .own 18), (11, dI r1), (38, dL [hI] r2), (39, dI r3), (40, dI r4)], [(0, .box (zd9 r5 r6 r7)), (1, .box (zd11 r8)), (2, .arr (.e 2)), (3, .arr (.e 5)), (4, .arr (.e 4)), (5, .arr (.e 3)), (6, .arr (.e 2)), (7, .arr (.e 2)), (8, .box [dS r9, .own 9, .own 10, .own 11, .own 12, .own 13, .own 14]), (9, .arr (.t [.s, hI] r10)), (10, .arr (.t zs2 r11)), (11, .arr (.t zs1 r12)), (12, .arr (.e 3)), (13, .arr (.e 2)), (14, .arr (.e 2)), (15, .box [.fn 40 [.ptr 8 0]]), (16, .box [dS r13, dI r14, .own 17]), (17, .arr (.t zs5 r15)), (18, .arr (.t [hI] r16))]⟩) x.1.2.2.2.2.2.1 x.1.2.2.2.2.2.2.2.2.1 x.1.2.2.2.2.2.2.2.2.2.1 x.1.2.2.2.2.2.2.2.2.2.2.1 x.1.2.2.2.2.2.2.2.2.2.2.2.1 x.1.2.2.2.2.2.2.2.2.2.2.2.2.1 x.1.2.2.2.2.2.2.2.2.2.2.2.2.2.1 x.2.1.1 x.2.1.2.1 x.2.1.2.2.1 x.2.2.1.1 x.2.2.2.2.2.2.2.2.2.1.1 x.2.2.2.2.2.2.2.2.2.2.1 x.2.2.2.2.2.2.2.2.2.2.2.1 x.2.2.2.2.2.2.2.2.2.2.2.2.1 x.2.2.2.2.2.2.2.2.2.2.2.2.2.2.2.2.2.1.1 x.2.2.2.2.2.2.2.2.2.2.2.2.2.2.2.2.2.1.2.1 x.2.2.2.2.2.2.2.2.2.2.2.2.2.2.2.2.2.2.1 x.2.2.2.2.2.2.2.2.2.2.2.2.2.2.2.2.2.2.2.1
theorem O58_j0 : LpG T P58_j0 (E58_j0 N (R := R)) [1, 2, 5, 6, 7, 8, 9, 10, 11, 12, 13, 38, 39, 40] c9_j0 := lpk (F57_ok N) 2095718 (H := H58) (X := X58)
def L58_1 : LpS R := updL noL 2095718 (lent' P58_j0 (E58_j0 N 1))
def arith_FilterOf_l0 (N : Nat) {R : Type} (k0 : Int → ByteArray → ByteArray → zt6 → zt1 → zt2 → ByteArray → Int → zt7 → Option R) : Nat → Int → Int → List Int → Int → Int → List Int → Int → Int → ByteArray → ByteArray → zt6 → zt1 → zt2 → ByteArray → Int → zt7 → List Int → Option R
  | 0, _, _, _, _, _, _, _, _, _, _, _, _, _, _, _, _, _ => none
  | n + 1, b0, b1, b2, b3, b4, b5, b6, b7, b8, b9, b10, b11, b12, b13, b14, b15, b16 => (bif decide (b4 < b3) then ((at? b2 b4).bind fun x1 => (bif decide (0 < b4) then (bif decide (-9223372036854775808 ≤ b4 ∧ b4 ≤ 9223372036854775807) then (bif decide (((((ByteArray.mk #[100]).size + (itoaB b4).size : Nat)) : Int) > 9223372036854775807) then none else (bif roomB (b11.length + 1) 48 then (bif inR (w64 (b4 - 1)) b16.length then ((b16[(w64 (b4 - 1)).toNat]?).bind fun x2 => (bif roomB (1 + b15.length) 24 then (arith_FilterOf_j0 N (fun z27 z28 z29 z30 z31 z32 z33 z34 z35 z36 z37 z38 z39 z40 z41 z42 z43 => (arith_FilterOf_l0 N k0 n z27 z28 z29 z30 (w64 (z31 + 1)) z32 z33 z34 z35 z36 z37 z38 z39 z40 z41 z42 z43)) b0 b1 b4 x1 b2 b3 b4 b5 b6 b7 b8 b9 b10 (b11 ++ [(((ByteArray.mk #[100]) ++ (itoaB b4)), 0, b6, 0, 0)]) b12 b13 b14 ([((w64 (b4 - 1)), b0, x2)] ++ b15) b16) else none)) else none) else none)) else none) else (arith_FilterOf_j0 N (fun z44 z45 z46 z47 z48 z49 z50 z51 z52 z53 z54 z55 z56 z57 z58 z59 z60 => (arith_FilterOf_l0 N k0 n z44 z45 z46 z47 (w64 (z48 + 1)) z49 z50 z51 z52 z53 z54 z55 z56 z57 z58 z59 z60)) b0 b1 b4 x1 b2 b3 b4 b5 b6 b7 b8 b9 b10 b11 b12 b13 b14 b15 b16))) else (k0 b1 b8 b9 b10 b11 b12 b13 b14 b15))
def P58_l0 : SP := ⟨[(1, .ptr 0 0), (2, .ptr 1 0), (5, .ptr 8 0), (6, .ptr 15 0), (7, .fn 41 [.ptr 15 0]), (8, pI), (9, .ptr 16 0), (10, .own 18), (11, pI), (38, pL [hI]), (39, pI), (40, pI)], [(0, .box zb5), (1, .box zb8), (2, .em 2), (3, .em 5), (4, .em 4), (5, .em 3), (6, .em 2), (7, .em 2), (8, .box [pS, .own 9, .own 10, .own 11, .own 12, .own 13, .own 14]), (9, .arr [.s, hI]), (10, .arr zs2), (11, .arr zs1), (12, .em 3), (13, .em 2), (14, .em 2), (15, .box [.fn 40 [.ptr 8 0]]), (16, .box [pS, pI, .own 17]), (17, .arr zs5), (18, .arr [hI])]⟩
def E58_l0 (n : Nat) (x : P58_l0.den) (k : KS R) : Option R := arith_FilterOf_l0 N (fun r0 r1 r2 r3 r4 r5 r6 r7 r8 => k (.ex 0) ⟨[(2, .ptr 0 0), (5, .ptr 7 0), (9, .ptr 14 0), (11, dI r0)], [(0, .box (zd10 r1)), (1, .arr (.e 2)), (2, .arr (.e 5)), (3, .arr (.e 4)), (4, .arr (.e 3)), (5, .arr (.e 2)), (6, .arr (.e 2)), (7, .box [dS r2, .own 8, .own 9, .own 10, .own 11, .own 12, .own 13]), (8, .arr (.t [.s, hI] r3)), (9, .arr (.t zs2 r4)), (10, .arr (.t zs1 r5)), (11, .arr (.e 3)), (12, .arr (.e 2)), (13, .arr (.e 2)), (14, .box [dS r6, dI r7, .own 15]), (15, .arr (.t zs5 r8))]⟩) n x.1.2.2.2.2.2.1 x.1.2.2.2.2.2.2.2.2.1 x.1.2.2.2.2.2.2.2.2.2.1 x.1.2.2.2.2.2.2.2.2.2.2.1 x.1.2.2.2.2.2.2.2.2.2.2.2.1 x.2.1.1 x.2.1.2.1 x.2.1.2.2.1 x.2.2.1.1 x.2.2.2.2.2.2.2.2.2.1.1 x.2.2.2.2.2.2.2.2.2.2.1 x.2.2.2.2.2.2.2.2.2.2.2.1 x.2.2.2.2.2.2.2.2.2.2.2.2.1 x.2.2.2.2.2.2.2.2.2.2.2.2.2.2.2.2.2.1.1 x.2.2.2.2.2.2.2.2.2.2.2.2.2.2.2.2.2.1.2.1 x.2.2.2.2.2.2.2.2.2.2.2.2.2.2.2.2.2.2.1 x.2.2.2.2.2.2.2.2.2.2.2.2.2.2.2.2.2.2.2.1
theorem O58_l0 : LpG T P58_l0 (E58_l0 N (R := R)) [1, 2, 5, 6, 7, 8, 9, 10, 11, 38, 39, 40] c9_l0 := lpk (F57_ok N) 8186 (H := H58) (Lp := (L58_1 N)) (X := X58) (hl := (LOK_of (l := [(2095718, [1, 2, 5, 6, 7, 8, 9, 10, 11, 12, 13, 38, 39, 40], c9_j0)]) (by kernel_rfl) ⟨(updL_ok (O58_j0 N 1)), trivial⟩))
def L58_2 : LpS R := updL (L58_1 N) 8186 (lent' P58_l0 (E58_l0 N N))
def arith_FilterOf (N : Nat) {R : Type} (a0 : List Int) (a1 a2 : Int) (k0 : ByteArray → zt6 → zt1 → zt2 → zt0 → zt6 → Int → Option R) : Option R := (arith_filterErr N a0 a1 a2 (fun y1 => (bif decide (y1 ≠ 0) then (k0 (ByteArray.mk #[]) [] [] [] [] [] y1) else (arith_FilterOf_c2_v2 N 1 1 (ByteArray.mk #[102, 105, 108, 116, 101, 114]) [((ByteArray.mk #[120]), a1)] [] [] (fun y2 y3 y4 y5 y6 => (arith_FilterOf_c2_v2 N a2 0 y3 y4 y5 y6 (fun y7 y8 y9 y10 y11 => (arith_FilterOf_l0 N (fun z61 z62 z63 z64 z65 z66 z67 z68 z69 => (k0 z63 z64 z65 z66 [(z67, z68, z69)] [((ByteArray.mk #[121]), z61)] 0)) N y2 y7 a0 ((a0.length : Nat) : Int) 0 a0 a1 a2 (ByteArray.mk #[]) y8 y9 y10 y11 (ByteArray.mk #[115, 104, 105, 102, 116]) y2 [] []))))))))
def P58 : AP := ⟨[.agg zb5], []⟩
def E58 (x : P58.den) (k : KK R) : Option R := arith_FilterOf N x.1.1.1 x.1.1.2.1 x.1.1.2.2.1 (fun r0 r1 r2 r3 r4 r5 r6 => k [] [.agg [dS r0, dL [.s, hI] r1, dL zs2 r2, dL zs1 r3, dL zs0 r4, dL [.s, hI] r5, .p (.l (.e 2))], dI r6] [])
def F58 : CfS R := uC (F57 N) 9 P58 (E58 N)
theorem F58_ok : FOK (F58 N : CfS R) (runF T) := uCk (F57_ok N) c9 (H := H58) (Lp := (L58_2 N)) (X := X58) (hl := (LOK_of (l := [(8186, [1, 2, 5, 6, 7, 8, 9, 10, 11, 38, 39, 40], c9_l0)]) (by kernel_rfl) ⟨(updL_ok (O58_l0 N N)), trivial⟩))
def arith_Filtered_c1 (N : Nat) {R : Type} (a0 : Int) (a1 : List Int) (a2 a3 : Int) (k0 : Bool → List Int → Int → Int → Option R) : Option R := (bif decide (a2 < 0) then none else (arith_within N a0 0 (w64 ((shl' .i64 1 a2) - 1)) (fun y1 => (k0 y1 a1 a2 a3))))
def P59 : AP := ⟨[pI, .ptr 0 0], [(0, .box zb5)]⟩
def E59 (x : P59.den) (k : KK R) : Option R := arith_Filtered_c1 N x.1.1 x.2.1.1 x.2.1.2.1 x.2.1.2.2.1 (fun r0 r1 r2 r3 => k [0] [dB r0] [(0, .box (zd9 r1 r2 r3))])
def F59 : CfS R := uC (F58 N) 46 P59 (E59 N)
theorem F59_ok : FOK (F59 N : CfS R) (runF T) := uCk (F58_ok N) c46
def arith_each_int__c1_Filtered_c1 (N : Nat) {R : Type} (a0 : Int) (a1 : List Int) (a2 a3 : Int) (k0 : Bool → List Int → Int → Int → Option R) : Option R := (arith_Filtered_c1 N a0 a1 a2 a3 (fun y1 y2 y3 y4 => (k0 (!y1) y2 y3 y4)))
def P60 : AP := ⟨[pI, .ptr 0 0], [(0, .box [.fn 46 [.ptr 1 0]]), (1, .box zb5)]⟩
def E60 (x : P60.den) (k : KK R) : Option R := arith_each_int__c1_Filtered_c1 N x.1.1 x.2.2.1.1 x.2.2.1.2.1 x.2.2.1.2.2.1 (fun r0 r1 r2 r3 => k [0, 1] [dB r0] [(0, .box [.fn 46 [.ptr 1 0]]), (1, .box (zd9 r1 r2 r3))])
def F60 : CfS R := uC (F59 N) 86 P60 (E60 N)
theorem F60_ok : FOK (F60 N : CfS R) (runF T) := uCk (F59_ok N) c86
def slices_IndexFunc_Lint_int_Filtered_c1_l0 (N : Nat) {R : Type} (k0 : Int → List Int → Int → Int → Option R) (k1 : List Int → Int → Int → Option R) : Nat → List Int → Int → Int → List Int → Int → Int → Option R
  | 0, _, _, _, _, _, _ => none
  | n + 1, b0, b1, b2, b3, b4, b5 => (bif decide (b2 < b1) then ((at? b0 b2).bind fun x1 => (arith_each_int__c1_Filtered_c1 N x1 b3 b4 b5 (fun y2 y3 y4 y5 => (bif y2 then (k0 b2 y3 y4 y5) else (slices_IndexFunc_Lint_int_Filtered_c1_l0 N k0 k1 n b0 b1 (w64 (b2 + 1)) y3 y4 y5))))) else (k1 b3 b4 b5))
def P61_l0 : SP := ⟨[(0, pL [hI]), (1, .fn 86 [.ptr 0 0]), (7, pI), (8, pI), (100001, .fn 86 [.ptr 0 0]), (100002, .ptr 1 0)], [(0, .box [.fn 46 [.ptr 1 0]]), (1, .box zb5)]⟩
def E61_l0 (n : Nat) (x : P61_l0.den) (k : KS R) : Option R := slices_IndexFunc_Lint_int_Filtered_c1_l0 N (fun r0 r1 r2 r3 => k .ret ⟨[(4, dI r0), (100001, .fn 86 [.ptr 0 0]), (100002, .ptr 1 0)], [(0, .box [.fn 46 [.ptr 1 0]]), (1, .box (zd9 r1 r2 r3))]⟩) (fun r0 r1 r2 => k (.ex 0) ⟨[(100001, .fn 86 [.ptr 0 0]), (100002, .ptr 1 0)], [(0, .box [.fn 46 [.ptr 1 0]]), (1, .box (zd9 r0 r1 r2))]⟩) n x.1.1 x.1.2.2.1 x.1.2.2.2.1 x.2.2.1.1 x.2.2.1.2.1 x.2.2.1.2.2.1
theorem O61_l0 : LpG T P61_l0 (E61_l0 N (R := R)) [0, 1, 7, 8] c116_l0 := lpk (F60_ok N) 26
def L61_1 : LpS R := updL noL 26 (lent' P61_l0 (E61_l0 N N))
def slices_IndexFunc_Lint_int_Filtered_c1 (N : Nat) {R : Type} (a0 a1 : List Int) (a2 a3 : Int) (k0 : Int → List Int → Int → Int → Option R) : Option R := (slices_IndexFunc_Lint_int_Filtered_c1_l0 N k0 (fun z10 z11 z12 => (k0 (-1) z10 z11 z12)) N a0 ((a0.length : Nat) : Int) 0 a1 a2 a3)
def P61 : AP := ⟨[pL [hI], .fn 86 [.ptr 0 0]], [(0, .box [.fn 46 [.ptr 1 0]]), (1, .box zb5)]⟩
def E61 (x : P61.den) (k : KK R) : Option R := slices_IndexFunc_Lint_int_Filtered_c1 N x.1.1 x.2.2.1.1 x.2.2.1.2.1 x.2.2.1.2.2.1 (fun r0 r1 r2 r3 => k [0, 1] [dI r0] [(0, .box [.fn 46 [.ptr 1 0]]), (1, .box (zd9 r1 r2 r3))])
def F61 : CfS R := uC (F60 N) 116 P61 (E61 N)
theorem F61_ok : FOK (F61 N : CfS R) (runF T) := uCk (F60_ok N) c116 (Lp := (L61_1 N)) (hl := (LOK_of (l := [(26, [0, 1, 7, 8], c116_l0)]) (by kernel_rfl) ⟨(updL_ok (O61_l0 N N)), trivial⟩))
def slices_ContainsFunc_Lint_int_Filtered_c1 (N : Nat) {R : Type} (a0 a1 : List Int) (a2 a3 : Int) (k0 : Bool → List Int → Int → Int → Option R) : Option R := (slices_IndexFunc_Lint_int_Filtered_c1 N a0 a1 a2 a3 (fun y1 y2 y3 y4 => (k0 (decide (0 ≤ y1)) y2 y3 y4)))
def P62 : AP := ⟨[pL [hI], .fn 86 [.ptr 0 0]], [(0, .box [.fn 46 [.ptr 1 0]]), (1, .box zb5)]⟩
def E62 (x : P62.den) (k : KK R) : Option R := slices_ContainsFunc_Lint_int_Filtered_c1 N x.1.1 x.2.2.1.1 x.2.2.1.2.1 x.2.2.1.2.2.1 (fun r0 r1 r2 r3 => k [0, 1] [dB r0] [(0, .box [.fn 46 [.ptr 1 0]]), (1, .box (zd9 r1 r2 r3))])
def F62 : CfS R := uC (F61 N) 85 P62 (E62 N)
theorem F62_ok : FOK (F62 N : CfS R) (runF T) := uCk (F61_ok N) c85
def arith_each_int_Filtered_c1 (N : Nat) {R : Type} (a0 a1 : List Int) (a2 a3 : Int) (k0 : Bool → List Int → Int → Int → Option R) : Option R := (slices_ContainsFunc_Lint_int_Filtered_c1 N a0 a1 a2 a3 (fun y1 y2 y3 y4 => (k0 (!y1) y2 y3 y4)))
def P63 : AP := ⟨[pL [hI], .fn 46 [.ptr 0 0]], [(0, .box zb5)]⟩
def E63 (x : P63.den) (k : KK R) : Option R := arith_each_int_Filtered_c1 N x.1.1 x.2.1.1 x.2.1.2.1 x.2.1.2.2.1 (fun r0 r1 r2 r3 => k [0] [dB r0] [(0, .box (zd9 r1 r2 r3))])
def F63 : CfS R := uC (F62 N) 45 P63 (E63 N)
theorem F63_ok : FOK (F63 N : CfS R) (runF T) := uCk (F62_ok N) c45
def design_within (N : Nat) {R : Type} (a0 a1 a2 : Int) (k0 : Bool → Option R) : Option R := (bif decide (a1 ≤ a0) then (k0 (decide (a0 ≤ a2))) else (k0 false))
def P64 : AP := ⟨[pI, pI, pI], []⟩
def E64 (x : P64.den) (k : KK R) : Option R := design_within N x.1.1 x.1.2.1 x.1.2.2.1 (fun r0 => k [] [dB r0] [])
def F64 : CfS R := uC (F63 N) 93 P64 (E64 N)
theorem F64_ok : FOK (F64 N : CfS R) (runF T) := uCk (F63_ok N) c93
def design_unless (N : Nat) {R : Type} (a0 : Bool) (a1 : Int) (k0 : Int → Option R) : Option R := (bif a0 then (k0 0) else (k0 a1))
def P65 : AP := ⟨[pB, pI], []⟩
def E65 (x : P65.den) (k : KK R) : Option R := design_unless N x.1.1 x.1.2.1 (fun r0 => k [] [dI r0] [])
def F65 : CfS R := uC (F64 N) 92 P65 (E65 N)
theorem F65_ok : FOK (F65 N : CfS R) (runF T) := uCk (F64_ok N) c92
def slices_Index_Lint_int_l0 (N : Nat) {R : Type} (k0 : Int → Option R) (k1 : Option R) : Nat → List Int → Int → Int → Int → Option R
  | 0, _, _, _, _ => none
  | n + 1, b0, b1, b2, b3 => (bif decide (b3 < b2) then ((at? b0 b3).bind fun x1 => (bif decide (b1 = x1) then (k0 b3) else (slices_Index_Lint_int_l0 N k0 k1 n b0 b1 b2 (w64 (b3 + 1))))) else k1)
def P66_l0 : SP := ⟨[(0, pL [hI]), (1, pI), (7, pI), (8, pI)], []⟩
def E66_l0 (n : Nat) (x : P66_l0.den) (k : KS R) : Option R := slices_Index_Lint_int_l0 N (fun r0 => k .ret ⟨[(4, dI r0)], []⟩) (k (.ex 0) ⟨[], []⟩) n x.1.1 x.1.2.1 x.1.2.2.1 x.1.2.2.2.1
theorem O66_l0 : LpG T P66_l0 (E66_l0 N (R := R)) [0, 1, 7, 8] c190_l0 := lpk (F65_ok N) 26
def L66_1 : LpS R := updL noL 26 (lent' P66_l0 (E66_l0 N N))
def slices_Index_Lint_int (N : Nat) {R : Type} (a0 : List Int) (a1 : Int) (k0 : Int → Option R) : Option R := (slices_Index_Lint_int_l0 N k0 (k0 (-1)) N a0 a1 ((a0.length : Nat) : Int) 0)
def P66 : AP := ⟨[pL [hI], pI], []⟩
def E66 (x : P66.den) (k : KK R) : Option R := slices_Index_Lint_int N x.1.1 x.1.2.1 (fun r0 => k [] [dI r0] [])
def F66 : CfS R := uC (F65 N) 190 P66 (E66 N)
theorem F66_ok : FOK (F66 N : CfS R) (runF T) := uCk (F65_ok N) c190 (Lp := (L66_1 N)) (hl := (LOK_of (l := [(26, [0, 1, 7, 8], c190_l0)]) (by kernel_rfl) ⟨(updL_ok (O66_l0 N N)), trivial⟩))
def slices_Contains_Lint_int (N : Nat) {R : Type} (a0 : List Int) (a1 : Int) (k0 : Bool → Option R) : Option R := (slices_Index_Lint_int N a0 a1 (fun y1 => (k0 (decide (0 ≤ y1)))))
def P67 : AP := ⟨[pL [hI], pI], []⟩
def E67 (x : P67.den) (k : KK R) : Option R := slices_Contains_Lint_int N x.1.1 x.1.2.1 (fun r0 => k [] [dB r0] [])
def F67 : CfS R := uC (F66 N) 148 P67 (E67 N)
theorem F67_ok : FOK (F67 N : CfS R) (runF T) := uCk (F66_ok N) c148
def design_first_l0 (N : Nat) {R : Type} (k0 : Int → Option R) (k1 : Option R) : Nat → List Int → Int → Int → Option R
  | 0, _, _, _ => none
  | n + 1, b0, b1, b2 => (bif decide (b2 < b1) then ((at? b0 b2).bind fun x1 => (bif decide (x1 ≠ 0) then (k0 x1) else (design_first_l0 N k0 k1 n b0 b1 (w64 (b2 + 1))))) else k1)
def P68_l0 : SP := ⟨[(5, pL [hI]), (6, pI), (7, pI)], []⟩
def E68_l0 (n : Nat) (x : P68_l0.den) (k : KS R) : Option R := design_first_l0 N (fun r0 => k .ret ⟨[(2, dI r0)], []⟩) (k (.ex 0) ⟨[], []⟩) n x.1.1 x.1.2.1 x.1.2.2.1
theorem O68_l0 : LpG T P68_l0 (E68_l0 N (R := R)) [5, 6, 7] c53_l0 := lpk (F67_ok N) 26
def L68_1 : LpS R := updL noL 26 (lent' P68_l0 (E68_l0 N N))
def design_first (N : Nat) {R : Type} (a0 : List Int) (k0 : Int → Option R) : Option R := (design_first_l0 N k0 (k0 0) N a0 ((a0.length : Nat) : Int) 0)
def P68 : AP := ⟨[pL [hI]], []⟩
def E68 (x : P68.den) (k : KK R) : Option R := design_first N x.1.1 (fun r0 => k [] [dI r0] [])
def F68 : CfS R := uC (F67 N) 53 P68 (E68 N)
theorem F68_ok : FOK (F68 N : CfS R) (runF T) := uCk (F67_ok N) c53 (Lp := (L68_1 N)) (hl := (LOK_of (l := [(26, [5, 6, 7], c53_l0)]) (by kernel_rfl) ⟨(updL_ok (O68_l0 N N)), trivial⟩))
def H69 : Nat → Option (List Sh) := fun n => if n = 17000 then some [hI] else none
def design_CheckDesign_c11_c1_c1 (N : Nat) {R : Type} (a0 a1 : Int) (a2 : ByteArray) (a3 : zt6) (a4 : zt1) (a5 : zt2) (a6 : zt0) (a7 : zt6) (a8 : zt5) (a9 : Int) (a10 : List Int) (k0 : Int → ByteArray → zt6 → zt1 → zt2 → zt0 → zt6 → zt5 → Int → List Int → Option R) : Option R := (design_within N a1 0 (w64 (((a6.length : Nat) : Int) - 1)) (fun y1 => (design_unless N y1 6 (fun y2 => (bif slP 0 a0 a10.length then (slices_Contains_Lint_int N (List.take a0.toNat (List.drop 0 a10)) a1 (fun y3 => (design_unless N (!y3) 23 (fun y4 => (design_first N [y2, y4] (fun y5 => (k0 y5 a2 a3 a4 a5 a6 a7 a8 a9 a10))))))) else none)))))
def P69 : AP := ⟨[pI, pI, .ptr 0 0, .ptr 1 0], [(0, .box zb2), (1, .box [pI, pL [hI]])]⟩
def E69 (x : P69.den) (k : KK R) : Option R := design_CheckDesign_c11_c1_c1 N x.1.1 x.1.2.1 x.2.1.1 x.2.1.2.1 x.2.1.2.2.1 x.2.1.2.2.2.1 x.2.1.2.2.2.2.1 x.2.1.2.2.2.2.2.1 x.2.1.2.2.2.2.2.2.1 x.2.2.1.1 x.2.2.1.2.1 (fun r0 r1 r2 r3 r4 r5 r6 r7 r8 r9 => k [0, 1] [dI r0] [(0, .box (zd3 r1 r2 r3 r4 r5 r6 r7)), (1, .box [dI r8, dL [hI] r9])])
def F69 : CfS R := uC (F68 N) 147 P69 (E69 N)
theorem F69_ok : FOK (F69 N : CfS R) (runF T) := uCk (F68_ok N) c147 (H := H69)
def design_each_int_CheckDesign_c11_c1_c1_l0 (N : Nat) {R : Type} (k0 : Int → Int → ByteArray → zt6 → zt1 → zt2 → zt0 → zt6 → zt5 → Int → List Int → Option R) (k1 : ByteArray → zt6 → zt1 → zt2 → zt0 → zt6 → zt5 → Int → List Int → Option R) : Nat → List Int → Int → Int → ByteArray → zt6 → zt1 → zt2 → zt0 → zt6 → zt5 → Int → List Int → Option R
  | 0, _, _, _, _, _, _, _, _, _, _, _, _ => none
  | n + 1, b0, b1, b2, b3, b4, b5, b6, b7, b8, b9, b10, b11 => (bif decide (b2 < b1) then ((at? b0 b2).bind fun x1 => (design_CheckDesign_c11_c1_c1 N b2 x1 b3 b4 b5 b6 b7 b8 b9 b10 b11 (fun y2 y3 y4 y5 y6 y7 y8 y9 y10 y11 => (bif decide (y2 ≠ 0) then (k0 b2 y2 y3 y4 y5 y6 y7 y8 y9 y10 y11) else (design_each_int_CheckDesign_c11_c1_c1_l0 N k0 k1 n b0 b1 (w64 (b2 + 1)) y3 y4 y5 y6 y7 y8 y9 y10 y11))))) else (k1 b3 b4 b5 b6 b7 b8 b9 b10 b11))
def P70_l0 : SP := ⟨[(1, .fn 147 [.ptr 0 0, .ptr 1 0]), (9, pL [hI]), (10, pI), (11, pI), (100001, .fn 147 [.ptr 0 0, .ptr 1 0])], [(0, .box zb2), (1, .box [pI, pL [hI]])]⟩
def E70_l0 (n : Nat) (x : P70_l0.den) (k : KS R) : Option R := design_each_int_CheckDesign_c11_c1_c1_l0 N (fun r0 r1 r2 r3 r4 r5 r6 r7 r8 r9 r10 => k .ret ⟨[(4, dI r0), (5, dI r1), (100001, .fn 147 [.ptr 0 0, .ptr 1 0])], [(0, .box (zd3 r2 r3 r4 r5 r6 r7 r8)), (1, .box [dI r9, dL [hI] r10])]⟩) (fun r0 r1 r2 r3 r4 r5 r6 r7 r8 => k (.ex 0) ⟨[(100001, .fn 147 [.ptr 0 0, .ptr 1 0])], [(0, .box (zd3 r0 r1 r2 r3 r4 r5 r6)), (1, .box [dI r7, dL [hI] r8])]⟩) n x.1.2.1 x.1.2.2.1 x.1.2.2.2.1 x.2.1.1 x.2.1.2.1 x.2.1.2.2.1 x.2.1.2.2.2.1 x.2.1.2.2.2.2.1 x.2.1.2.2.2.2.2.1 x.2.1.2.2.2.2.2.2.1 x.2.2.1.1 x.2.2.1.2.1
theorem O70_l0 : LpG T P70_l0 (E70_l0 N (R := R)) [1, 9, 10, 11] c94_l0 := lpk (F69_ok N) 26
def L70_1 : LpS R := updL noL 26 (lent' P70_l0 (E70_l0 N N))
def design_each_int_CheckDesign_c11_c1_c1 (N : Nat) {R : Type} (a0 : List Int) (a1 : ByteArray) (a2 : zt6) (a3 : zt1) (a4 : zt2) (a5 : zt0) (a6 : zt6) (a7 : zt5) (a8 : Int) (a9 : List Int) (k0 : Int → Int → ByteArray → zt6 → zt1 → zt2 → zt0 → zt6 → zt5 → Int → List Int → Option R) : Option R := (design_each_int_CheckDesign_c11_c1_c1_l0 N k0 (fun z23 z24 z25 z26 z27 z28 z29 z30 z31 => (k0 0 0 z23 z24 z25 z26 z27 z28 z29 z30 z31)) N a0 ((a0.length : Nat) : Int) 0 a1 a2 a3 a4 a5 a6 a7 a8 a9)
def P70 : AP := ⟨[pL [hI], .fn 147 [.ptr 0 0, .ptr 1 0]], [(0, .box zb2), (1, .box [pI, pL [hI]])]⟩
def E70 (x : P70.den) (k : KK R) : Option R := design_each_int_CheckDesign_c11_c1_c1 N x.1.1 x.2.1.1 x.2.1.2.1 x.2.1.2.2.1 x.2.1.2.2.2.1 x.2.1.2.2.2.2.1 x.2.1.2.2.2.2.2.1 x.2.1.2.2.2.2.2.2.1 x.2.2.1.1 x.2.2.1.2.1 (fun r0 r1 r2 r3 r4 r5 r6 r7 r8 r9 r10 => k [0, 1] [dI r0, dI r1] [(0, .box (zd3 r2 r3 r4 r5 r6 r7 r8)), (1, .box [dI r9, dL [hI] r10])])
def F70 : CfS R := uC (F69 N) 94 P70 (E70 N)
theorem F70_ok : FOK (F70 N : CfS R) (runF T) := uCk (F69_ok N) c94 (Lp := (L70_1 N)) (hl := (LOK_of (l := [(26, [1, 9, 10, 11], c94_l0)]) (by kernel_rfl) ⟨(updL_ok (O70_l0 N N)), trivial⟩))
def H71 : Nat → Option (List Sh) := fun n => if n = 22000 then some [hI] else none
def design_CheckDesign_c11_c1 (N : Nat) {R : Type} (a0 a1 : Int) (a2 : List Int) (a3 : ByteArray) (a4 : zt6) (a5 : zt1) (a6 : zt2) (a7 : zt0) (a8 : zt6) (a9 : zt5) (k0 : Int → ByteArray → zt6 → zt1 → zt2 → zt0 → zt6 → zt5 → Option R) : Option R := (design_each_int_CheckDesign_c11_c1_c1 N a2 a3 a4 a5 a6 a7 a8 a9 a1 a2 (fun y1 y2 y3 y4 y5 y6 y7 y8 y9 y10 y11 => (design_within N y10 0 3 (fun y12 => (design_unless N y12 15 (fun y13 => (design_within N ((y11.length : Nat) : Int) 1 16 (fun y14 => (design_unless N y14 10 (fun y15 => (design_first N [y13, y15, y2] (fun y16 => (k0 y16 y3 y4 y5 y6 y7 y8 y9)))))))))))))
def P71 : AP := ⟨[pI, .agg [pI, pL [hI]], .ptr 0 0], [(0, .box zb2)]⟩
def E71 (x : P71.den) (k : KK R) : Option R := design_CheckDesign_c11_c1 N x.1.1 x.1.2.1.1 x.1.2.1.2.1 x.2.1.1 x.2.1.2.1 x.2.1.2.2.1 x.2.1.2.2.2.1 x.2.1.2.2.2.2.1 x.2.1.2.2.2.2.2.1 x.2.1.2.2.2.2.2.2.1 (fun r0 r1 r2 r3 r4 r5 r6 r7 => k [0] [dI r0] [(0, .box (zd3 r1 r2 r3 r4 r5 r6 r7))])
def F71 : CfS R := uC (F70 N) 146 P71 (E71 N)
theorem F71_ok : FOK (F71 N : CfS R) (runF T) := uCk (F70_ok N) c146 (H := H71)
def design_each_Attribute_CheckDesign_c11_c1_l0 (N : Nat) {R : Type} (k0 : Int → Int → ByteArray → zt6 → zt1 → zt2 → zt0 → zt6 → zt5 → Option R) (k1 : ByteArray → zt6 → zt1 → zt2 → zt0 → zt6 → zt5 → Option R) : Nat → zt5 → Int → Int → ByteArray → zt6 → zt1 → zt2 → zt0 → zt6 → zt5 → Option R
  | 0, _, _, _, _, _, _, _, _, _, _ => none
  | n + 1, b0, b1, b2, b3, b4, b5, b6, b7, b8, b9 => (bif decide (b2 < b1) then ((at? b0 b2).bind fun x1 => (design_CheckDesign_c11_c1 N b2 x1.1 x1.2 b3 b4 b5 b6 b7 b8 b9 (fun y2 y3 y4 y5 y6 y7 y8 y9 => (bif decide (y2 ≠ 0) then (k0 b2 y2 y3 y4 y5 y6 y7 y8 y9) else (design_each_Attribute_CheckDesign_c11_c1_l0 N k0 k1 n b0 b1 (w64 (b2 + 1)) y3 y4 y5 y6 y7 y8 y9))))) else (k1 b3 b4 b5 b6 b7 b8 b9))
def P72_l0 : SP := ⟨[(1, .fn 146 [.ptr 0 0]), (9, pL zs4), (10, pI), (11, pI), (100001, .fn 146 [.ptr 0 0])], [(0, .box zb2)]⟩
def E72_l0 (n : Nat) (x : P72_l0.den) (k : KS R) : Option R := design_each_Attribute_CheckDesign_c11_c1_l0 N (fun r0 r1 r2 r3 r4 r5 r6 r7 r8 => k .ret ⟨[(4, dI r0), (5, dI r1), (100001, .fn 146 [.ptr 0 0])], [(0, .box (zd3 r2 r3 r4 r5 r6 r7 r8))]⟩) (fun r0 r1 r2 r3 r4 r5 r6 => k (.ex 0) ⟨[(100001, .fn 146 [.ptr 0 0])], [(0, .box (zd3 r0 r1 r2 r3 r4 r5 r6))]⟩) n x.1.2.1 x.1.2.2.1 x.1.2.2.2.1 x.2.1.1 x.2.1.2.1 x.2.1.2.2.1 x.2.1.2.2.2.1 x.2.1.2.2.2.2.1 x.2.1.2.2.2.2.2.1 x.2.1.2.2.2.2.2.2.1
theorem O72_l0 : LpG T P72_l0 (E72_l0 N (R := R)) [1, 9, 10, 11] c145_l0 := lpk (F71_ok N) 26
def L72_1 : LpS R := updL noL 26 (lent' P72_l0 (E72_l0 N N))
def design_each_Attribute_CheckDesign_c11_c1 (N : Nat) {R : Type} (a0 : zt5) (a1 : ByteArray) (a2 : zt6) (a3 : zt1) (a4 : zt2) (a5 : zt0) (a6 : zt6) (a7 : zt5) (k0 : Int → Int → ByteArray → zt6 → zt1 → zt2 → zt0 → zt6 → zt5 → Option R) : Option R := (design_each_Attribute_CheckDesign_c11_c1_l0 N k0 (fun z19 z20 z21 z22 z23 z24 z25 => (k0 0 0 z19 z20 z21 z22 z23 z24 z25)) N a0 ((a0.length : Nat) : Int) 0 a1 a2 a3 a4 a5 a6 a7)
def P72 : AP := ⟨[pL zs4, .fn 146 [.ptr 0 0]], [(0, .box zb2)]⟩
def E72 (x : P72.den) (k : KK R) : Option R := design_each_Attribute_CheckDesign_c11_c1 N x.1.1 x.2.1.1 x.2.1.2.1 x.2.1.2.2.1 x.2.1.2.2.2.1 x.2.1.2.2.2.2.1 x.2.1.2.2.2.2.2.1 x.2.1.2.2.2.2.2.2.1 (fun r0 r1 r2 r3 r4 r5 r6 r7 r8 => k [0] [dI r0, dI r1] [(0, .box (zd3 r2 r3 r4 r5 r6 r7 r8))])
def F72 : CfS R := uC (F71 N) 145 P72 (E72 N)
theorem F72_ok : FOK (F72 N : CfS R) (runF T) := uCk (F71_ok N) c145 (Lp := (L72_1 N)) (hl := (LOK_of (l := [(26, [1, 9, 10, 11], c145_l0)]) (by kernel_rfl) ⟨(updL_ok (O72_l0 N N)), trivial⟩))
def design_CheckDesign_c11 (N : Nat) {R : Type} (a0 : ByteArray) (a1 : zt6) (a2 : zt1) (a3 : zt2) (a4 : zt0) (a5 : zt6) (a6 : zt5) (k0 : Int → Int → ByteArray → zt6 → zt1 → zt2 → zt0 → zt6 → zt5 → Option R) : Option R := (design_each_Attribute_CheckDesign_c11_c1 N a6 a0 a1 a2 a3 a4 a5 a6 k0)
def P73 : AP := ⟨[.ptr 0 0], [(0, .box zb2)]⟩
def E73 (x : P73.den) (k : KK R) : Option R := design_CheckDesign_c11 N x.2.1.1 x.2.1.2.1 x.2.1.2.2.1 x.2.1.2.2.2.1 x.2.1.2.2.2.2.1 x.2.1.2.2.2.2.2.1 x.2.1.2.2.2.2.2.2.1 (fun r0 r1 r2 r3 r4 r5 r6 r7 r8 => k [0] [dI r0, dI r1] [(0, .box (zd3 r2 r3 r4 r5 r6 r7 r8))])
def F73 : CfS R := uC (F72 N) 144 P73 (E73 N)
theorem F73_ok : FOK (F73 N : CfS R) (runF T) := uCk (F72_ok N) c144
def design_CheckDesign_c10 (N : Nat) {R : Type} (a0 : ByteArray) (a1 : zt6) (a2 : zt1) (a3 : zt2) (a4 : zt0) (a5 : zt6) (a6 : zt5) (k0 : Int → Int → ByteArray → zt6 → zt1 → zt2 → zt0 → zt6 → zt5 → Option R) : Option R := (design_unless N (decide (((a6.length : Nat) : Int) ≤ 16)) 8 (fun y1 => (k0 0 y1 a0 a1 a2 a3 a4 a5 a6)))
def P74 : AP := ⟨[.ptr 0 0], [(0, .box zb2)]⟩
def E74 (x : P74.den) (k : KK R) : Option R := design_CheckDesign_c10 N x.2.1.1 x.2.1.2.1 x.2.1.2.2.1 x.2.1.2.2.2.1 x.2.1.2.2.2.2.1 x.2.1.2.2.2.2.2.1 x.2.1.2.2.2.2.2.2.1 (fun r0 r1 r2 r3 r4 r5 r6 r7 r8 => k [0] [dI r0, dI r1] [(0, .box (zd3 r2 r3 r4 r5 r6 r7 r8))])
def F74 : CfS R := uC (F73 N) 143 P74 (E74 N)
theorem F74_ok : FOK (F74 N : CfS R) (runF T) := uCk (F73_ok N) c143
def design_isName_l0 (N : Nat) {R : Type} (k0 : Bool → Option R) (k1 : ByteArray → Option R) : Nat → ByteArray → Int → Int → Option R
  | 0, _, _, _ => none
  | n + 1, b0, b1, b2 => (bif decide (b2 < b1) then ((byte? b0 b2).bind fun x1 => (design_within N (w64 x1) 97 122 (fun y2 => (bif y2 then (design_isName_l0 N k0 k1 n b0 b1 (w64 (b2 + 1))) else (design_within N (w64 x1) 65 90 (fun y3 => (bif (!y3) then (bif decide (b2 = 0) then (k0 false) else (bif decide ((w64 x1) ≠ 95) then (design_within N (w64 x1) 48 57 (fun y4 => (bif (!y4) then (k0 false) else (design_isName_l0 N k0 k1 n b0 b1 (w64 (b2 + 1)))))) else (design_isName_l0 N k0 k1 n b0 b1 (w64 (b2 + 1))))) else (design_isName_l0 N k0 k1 n b0 b1 (w64 (b2 + 1)))))))))) else (k1 b0))
def P75_l0 : SP := ⟨[(0, pS), (7, pI), (8, pI)], []⟩
def E75_l0 (n : Nat) (x : P75_l0.den) (k : KS R) : Option R := design_isName_l0 N (fun r0 => k .ret ⟨[(2, dB r0)], []⟩) (fun r0 => k (.ex 0) ⟨[(0, dS r0)], []⟩) n x.1.1 x.1.2.1 x.1.2.2.1
theorem O75_l0 : LpG T P75_l0 (E75_l0 N (R := R)) [0, 7, 8] c118_l0 := lpk (F74_ok N) 26
def L75_1 : LpS R := updL noL 26 (lent' P75_l0 (E75_l0 N N))
def design_isName (N : Nat) {R : Type} (a0 : ByteArray) (k0 : Bool → Option R) : Option R := (design_isName_l0 N k0 (fun z6 => (design_within N ((z6.size : Nat) : Int) 1 16 k0)) N a0 ((a0.size : Nat) : Int) 0)
def P75 : AP := ⟨[pS], []⟩
def E75 (x : P75.den) (k : KK R) : Option R := design_isName N x.1.1 (fun r0 => k [] [dB r0] [])
def F75 : CfS R := uC (F74 N) 118 P75 (E75 N)
theorem F75_ok : FOK (F75 N : CfS R) (runF T) := uCk (F74_ok N) c118 (Lp := (L75_1 N)) (hl := (LOK_of (l := [(26, [0, 7, 8], c118_l0)]) (by kernel_rfl) ⟨(updL_ok (O75_l0 N N)), trivial⟩))
def H76 : Nat → Option (List Sh) := fun n => if n = 10000 then some [hI] else none
def design_names_err (N : Nat) {R : Type} (a0 : ByteArray) (a1 : Nat) (a2 : zt3) (k0 : Int → Nat → zt3 → Option R) : Option R := (design_isName N a0 (fun y1 => (design_unless N y1 4 (fun y2 => (design_unless N (!(mgetD .s a0 a2 false)) 5 (fun y3 => (design_first N [y2, y3] (fun y4 => (k0 y4 (mclkD .s a0 a1 a2) (mputD .s a0 true a1 a2))))))))))
def P76 : AP := ⟨[.mp 0, pS], [(0, .mp .s .b)]⟩
def E76 (x : P76.den) (k : KK R) : Option R := design_names_err N x.1.2.1 x.2.1.1 x.2.1.2 (fun r0 r1 r2 => k [0] [dI r0] [(0, .mp .s .b r1 r2)])
def F76 : CfS R := uC (F75 N) 122 P76 (E76 N)
theorem F76_ok : FOK (F76 N : CfS R) (runF T) := uCk (F75_ok N) c122 (H := H76)
def design_isNode (N : Nat) {R : Type} (a0 : ByteArray) (a1 : zt6) (a2 : zt1) (a3 : zt2) (a4 : zt0) (a5 : zt6) (a6 : zt5) (a7 : Int) (k0 : Bool → Option R) : Option R := (design_within N a7 0 (w64 (((a3.length : Nat) : Int) - 1)) k0)
def P77 : AP := ⟨[.agg zb2, pI], []⟩
def E77 (x : P77.den) (k : KK R) : Option R := design_isNode N x.1.1.1 x.1.1.2.1 x.1.1.2.2.1 x.1.1.2.2.2.1 x.1.1.2.2.2.2.1 x.1.1.2.2.2.2.2.1 x.1.1.2.2.2.2.2.2.1 x.1.2.1 (fun r0 => k [] [dB r0] [])
def F77 : CfS R := uC (F76 N) 142 P77 (E77 N)
theorem F77_ok : FOK (F77 N : CfS R) (runF T) := uCk (F76_ok N) c142
def H78 : Nat → Option (List Sh) := fun n => if n = 12000 then some [hI] else none
def design_CheckDesign_c9_c1 (N : Nat) {R : Type} (a0 : Int) (a1 : ByteArray) (a2 : Int) (a3 : Nat) (a4 : zt3) (a5 : ByteArray) (a6 : zt6) (a7 : zt1) (a8 : zt2) (a9 : zt0) (a10 : zt6) (a11 : zt5) (k0 : Int → Nat → zt3 → ByteArray → zt6 → zt1 → zt2 → zt0 → zt6 → zt5 → Option R) : Option R := (design_names_err N a1 a3 a4 (fun y1 y2 y3 => (design_isNode N a5 a6 a7 a8 a9 a10 a11 a2 (fun y4 => (design_unless N y4 9 (fun y5 => (design_first N [y1, y5] (fun y6 => (k0 y6 y2 y3 a5 a6 a7 a8 a9 a10 a11)))))))))
def P78 : AP := ⟨[pI, .agg [pS, pI], .ptr 0 0, .ptr 2 0], [(0, .box [.mp 1]), (1, .mp .s .b), (2, .box zb2)]⟩
def E78 (x : P78.den) (k : KK R) : Option R := design_CheckDesign_c9_c1 N x.1.1 x.1.2.1.1 x.1.2.1.2.1 x.2.2.1.1 x.2.2.1.2 x.2.2.2.1.1 x.2.2.2.1.2.1 x.2.2.2.1.2.2.1 x.2.2.2.1.2.2.2.1 x.2.2.2.1.2.2.2.2.1 x.2.2.2.1.2.2.2.2.2.1 x.2.2.2.1.2.2.2.2.2.2.1 (fun r0 r1 r2 r3 r4 r5 r6 r7 r8 r9 => k [0, 2, 1] [dI r0] [(0, .box [.mp 1]), (1, .mp .s .b r1 r2), (2, .box (zd3 r3 r4 r5 r6 r7 r8 r9))])
def F78 : CfS R := uC (F77 N) 141 P78 (E78 N)
theorem F78_ok : FOK (F78 N : CfS R) (runF T) := uCk (F77_ok N) c141 (H := H78)
def design_each_Output_CheckDesign_c9_c1_l0 (N : Nat) {R : Type} (k0 : Int → Int → Nat → zt3 → ByteArray → zt6 → zt1 → zt2 → zt0 → zt6 → zt5 → Option R) (k1 : Nat → zt3 → ByteArray → zt6 → zt1 → zt2 → zt0 → zt6 → zt5 → Option R) : Nat → zt6 → Int → Int → Nat → zt3 → ByteArray → zt6 → zt1 → zt2 → zt0 → zt6 → zt5 → Option R
  | 0, _, _, _, _, _, _, _, _, _, _, _, _ => none
  | n + 1, b0, b1, b2, b3, b4, b5, b6, b7, b8, b9, b10, b11 => (bif decide (b2 < b1) then ((at? b0 b2).bind fun x1 => (design_CheckDesign_c9_c1 N b2 x1.1 x1.2 b3 b4 b5 b6 b7 b8 b9 b10 b11 (fun y2 y3 y4 y5 y6 y7 y8 y9 y10 y11 => (bif decide (y2 ≠ 0) then (k0 b2 y2 y3 y4 y5 y6 y7 y8 y9 y10 y11) else (design_each_Output_CheckDesign_c9_c1_l0 N k0 k1 n b0 b1 (w64 (b2 + 1)) y3 y4 y5 y6 y7 y8 y9 y10 y11))))) else (k1 b3 b4 b5 b6 b7 b8 b9 b10 b11))
def P79_l0 : SP := ⟨[(1, .fn 141 [.ptr 0 0, .ptr 2 0]), (9, pL [.s, hI]), (10, pI), (11, pI), (100001, .fn 141 [.ptr 0 0, .ptr 2 0]), (100002, .mp 1)], [(0, .box [.mp 1]), (1, .mp .s .b), (2, .box zb2)]⟩
def E79_l0 (n : Nat) (x : P79_l0.den) (k : KS R) : Option R := design_each_Output_CheckDesign_c9_c1_l0 N (fun r0 r1 r2 r3 r4 r5 r6 r7 r8 r9 r10 => k .ret ⟨[(4, dI r0), (5, dI r1), (100001, .fn 141 [.ptr 0 0, .ptr 2 0]), (100002, .mp 1)], [(0, .box [.mp 1]), (1, .mp .s .b r2 r3), (2, .box (zd3 r4 r5 r6 r7 r8 r9 r10))]⟩) (fun r0 r1 r2 r3 r4 r5 r6 r7 r8 => k (.ex 0) ⟨[(100001, .fn 141 [.ptr 0 0, .ptr 2 0]), (100002, .mp 1)], [(0, .box [.mp 1]), (1, .mp .s .b r0 r1), (2, .box (zd3 r2 r3 r4 r5 r6 r7 r8))]⟩) n x.1.2.1 x.1.2.2.1 x.1.2.2.2.1 x.2.2.1.1 x.2.2.1.2 x.2.2.2.1.1 x.2.2.2.1.2.1 x.2.2.2.1.2.2.1 x.2.2.2.1.2.2.2.1 x.2.2.2.1.2.2.2.2.1 x.2.2.2.1.2.2.2.2.2.1 x.2.2.2.1.2.2.2.2.2.2.1
theorem O79_l0 : LpG T P79_l0 (E79_l0 N (R := R)) [1, 9, 10, 11] c140_l0 := lpk (F78_ok N) 26
def L79_1 : LpS R := updL noL 26 (lent' P79_l0 (E79_l0 N N))
def design_each_Output_CheckDesign_c9_c1 (N : Nat) {R : Type} (a0 : zt6) (a1 : Nat) (a2 : zt3) (a3 : ByteArray) (a4 : zt6) (a5 : zt1) (a6 : zt2) (a7 : zt0) (a8 : zt6) (a9 : zt5) (k0 : Int → Int → Nat → zt3 → ByteArray → zt6 → zt1 → zt2 → zt0 → zt6 → zt5 → Option R) : Option R := (design_each_Output_CheckDesign_c9_c1_l0 N k0 (fun z23 z24 z25 z26 z27 z28 z29 z30 z31 => (k0 0 0 z23 z24 z25 z26 z27 z28 z29 z30 z31)) N a0 ((a0.length : Nat) : Int) 0 a1 a2 a3 a4 a5 a6 a7 a8 a9)
def P79 : AP := ⟨[pL [.s, hI], .fn 141 [.ptr 0 0, .ptr 2 0]], [(0, .box [.mp 1]), (1, .mp .s .b), (2, .box zb2)]⟩
def E79 (x : P79.den) (k : KK R) : Option R := design_each_Output_CheckDesign_c9_c1 N x.1.1 x.2.2.1.1 x.2.2.1.2 x.2.2.2.1.1 x.2.2.2.1.2.1 x.2.2.2.1.2.2.1 x.2.2.2.1.2.2.2.1 x.2.2.2.1.2.2.2.2.1 x.2.2.2.1.2.2.2.2.2.1 x.2.2.2.1.2.2.2.2.2.2.1 (fun r0 r1 r2 r3 r4 r5 r6 r7 r8 r9 r10 => k [0, 2, 1] [dI r0, dI r1] [(0, .box [.mp 1]), (1, .mp .s .b r2 r3), (2, .box (zd3 r4 r5 r6 r7 r8 r9 r10))])
def F79 : CfS R := uC (F78 N) 140 P79 (E79 N)
theorem F79_ok : FOK (F79 N : CfS R) (runF T) := uCk (F78_ok N) c140 (Lp := (L79_1 N)) (hl := (LOK_of (l := [(26, [1, 9, 10, 11], c140_l0)]) (by kernel_rfl) ⟨(updL_ok (O79_l0 N N)), trivial⟩))
def design_CheckDesign_c9 (N : Nat) {R : Type} (a0 : ByteArray) (a1 : zt6) (a2 : zt1) (a3 : zt2) (a4 : zt0) (a5 : zt6) (a6 : zt5) (a7 : Nat) (a8 : zt3) (k0 : Int → Int → ByteArray → zt6 → zt1 → zt2 → zt0 → zt6 → zt5 → Nat → zt3 → Option R) : Option R := (design_each_Output_CheckDesign_c9_c1 N a5 a7 a8 a0 a1 a2 a3 a4 a5 a6 (fun y1 y2 y3 y4 y5 y6 y7 y8 y9 y10 y11 => (k0 y1 y2 y5 y6 y7 y8 y9 y10 y11 y3 y4)))
def P80 : AP := ⟨[.ptr 0 0, .ptr 1 0], [(0, .box zb2), (1, .box [.mp 2]), (2, .mp .s .b)]⟩
def E80 (x : P80.den) (k : KK R) : Option R := design_CheckDesign_c9 N x.2.1.1 x.2.1.2.1 x.2.1.2.2.1 x.2.1.2.2.2.1 x.2.1.2.2.2.2.1 x.2.1.2.2.2.2.2.1 x.2.1.2.2.2.2.2.2.1 x.2.2.2.1.1 x.2.2.2.1.2 (fun r0 r1 r2 r3 r4 r5 r6 r7 r8 r9 r10 => k [0, 1, 2] [dI r0, dI r1] [(0, .box (zd3 r2 r3 r4 r5 r6 r7 r8)), (1, .box [.mp 2]), (2, .mp .s .b r9 r10)])
def F80 : CfS R := uC (F79 N) 139 P80 (E80 N)
theorem F80_ok : FOK (F80 N : CfS R) (runF T) := uCk (F79_ok N) c139
def design_CheckDesign_c8 (N : Nat) {R : Type} (a0 : ByteArray) (a1 : zt6) (a2 : zt1) (a3 : zt2) (a4 : zt0) (a5 : zt6) (a6 : zt5) (k0 : Int → Int → ByteArray → zt6 → zt1 → zt2 → zt0 → zt6 → zt5 → Option R) : Option R := (design_unless N (decide (((a5.length : Nat) : Int) ≤ 12)) 8 (fun y1 => (k0 0 y1 a0 a1 a2 a3 a4 a5 a6)))
def P81 : AP := ⟨[.ptr 0 0], [(0, .box zb2)]⟩
def E81 (x : P81.den) (k : KK R) : Option R := design_CheckDesign_c8 N x.2.1.1 x.2.1.2.1 x.2.1.2.2.1 x.2.1.2.2.2.1 x.2.1.2.2.2.2.1 x.2.1.2.2.2.2.2.1 x.2.1.2.2.2.2.2.2.1 (fun r0 r1 r2 r3 r4 r5 r6 r7 r8 => k [0] [dI r0, dI r1] [(0, .box (zd3 r2 r3 r4 r5 r6 r7 r8))])
def F81 : CfS R := uC (F80 N) 138 P81 (E81 N)
theorem F81_ok : FOK (F81 N : CfS R) (runF T) := uCk (F80_ok N) c138
def design_isCondition (N : Nat) {R : Type} (a0 : ByteArray) (a1 : zt6) (a2 : zt1) (a3 : zt2) (a4 : zt0) (a5 : zt6) (a6 : zt5) (a7 : Int) (k0 : Bool → Option R) : Option R := (design_isNode N a0 a1 a2 a3 a4 a5 a6 a7 (fun y1 => (bif y1 then ((at? a3 a7).bind fun x2 => (k0 (decide (x2.2.1 = 1)))) else (k0 false))))
def P82 : AP := ⟨[.agg zb2, pI], []⟩
def E82 (x : P82.den) (k : KK R) : Option R := design_isCondition N x.1.1.1 x.1.1.2.1 x.1.1.2.2.1 x.1.1.2.2.2.1 x.1.1.2.2.2.2.1 x.1.1.2.2.2.2.2.1 x.1.1.2.2.2.2.2.2.1 x.1.2.1 (fun r0 => k [] [dB r0] [])
def F82 : CfS R := uC (F81 N) 134 P82 (E82 N)
theorem F82_ok : FOK (F82 N : CfS R) (runF T) := uCk (F81_ok N) c134
def H83 : Nat → Option (List Sh) := fun n => if n = 23000 then some [hI] else none
def design_writeErr (N : Nat) {R : Type} (a0 : ByteArray) (a1 : zt6) (a2 : zt1) (a3 : zt2) (a4 : zt0) (a5 : zt6) (a6 : zt5) (a7 a8 a9 : Int) (k0 : Int → Option R) : Option R := (design_within N a7 0 (w64 (((a2.length : Nat) : Int) - 1)) (fun y1 => (design_unless N y1 6 (fun y2 => (design_isCondition N a0 a1 a2 a3 a4 a5 a6 a8 (fun y3 => (bif y3 then (design_isNode N a0 a1 a2 a3 a4 a5 a6 a9 (fun y4 => (design_unless N y4 9 (fun y5 => (design_first N [y2, y5] (fun y6 => (bif decide (y6 ≠ 0) then (k0 y6) else ((at? a3 a9).bind fun x7 => ((at? a2 a7).bind fun x8 => (design_unless N (decide (x7.2.1 = x8.2.2.1)) 25 k0)))))))))) else (design_unless N false 9 (fun y10 => (design_first N [y2, y10] (fun y11 => (bif decide (y11 ≠ 0) then (k0 y11) else ((at? a3 a9).bind fun x12 => ((at? a2 a7).bind fun x13 => (design_unless N (decide (x12.2.1 = x13.2.2.1)) 25 k0)))))))))))))))
def P83 : AP := ⟨[.agg zb2, .agg [pI, pI, pI]], []⟩
def E83 (x : P83.den) (k : KK R) : Option R := design_writeErr N x.1.1.1 x.1.1.2.1 x.1.1.2.2.1 x.1.1.2.2.2.1 x.1.1.2.2.2.2.1 x.1.1.2.2.2.2.2.1 x.1.1.2.2.2.2.2.2.1 x.1.2.1.1 x.1.2.1.2.1 x.1.2.1.2.2.1 (fun r0 => k [] [dI r0] [])
def F83 : CfS R := uC (F82 N) 137 P83 (E83 N)
theorem F83_ok : FOK (F83 N : CfS R) (runF T) := uCk (F82_ok N) c137 (H := H83)
def design_CheckDesign_c7_c1_c1 (N : Nat) {R : Type} (a0 a1 a2 a3 : Int) (a4 : ByteArray) (a5 : zt6) (a6 : zt1) (a7 : zt2) (a8 : zt0) (a9 : zt6) (a10 : zt5) (k0 : Int → ByteArray → zt6 → zt1 → zt2 → zt0 → zt6 → zt5 → Option R) : Option R := (design_writeErr N a4 a5 a6 a7 a8 a9 a10 a1 a2 a3 (fun y1 => (k0 y1 a4 a5 a6 a7 a8 a9 a10)))
def P84 : AP := ⟨[pI, .agg [pI, pI, pI], .ptr 0 0], [(0, .box zb2)]⟩
def E84 (x : P84.den) (k : KK R) : Option R := design_CheckDesign_c7_c1_c1 N x.1.1 x.1.2.1.1 x.1.2.1.2.1 x.1.2.1.2.2.1 x.2.1.1 x.2.1.2.1 x.2.1.2.2.1 x.2.1.2.2.2.1 x.2.1.2.2.2.2.1 x.2.1.2.2.2.2.2.1 x.2.1.2.2.2.2.2.2.1 (fun r0 r1 r2 r3 r4 r5 r6 r7 => k [0] [dI r0] [(0, .box (zd3 r1 r2 r3 r4 r5 r6 r7))])
def F84 : CfS R := uC (F83 N) 136 P84 (E84 N)
theorem F84_ok : FOK (F84 N : CfS R) (runF T) := uCk (F83_ok N) c136
def design_each_Write_CheckDesign_c7_c1_c1_l0 (N : Nat) {R : Type} (k0 : Int → Int → ByteArray → zt6 → zt1 → zt2 → zt0 → zt6 → zt5 → Option R) (k1 : ByteArray → zt6 → zt1 → zt2 → zt0 → zt6 → zt5 → Option R) : Nat → zt7 → Int → Int → ByteArray → zt6 → zt1 → zt2 → zt0 → zt6 → zt5 → Option R
  | 0, _, _, _, _, _, _, _, _, _, _ => none
  | n + 1, b0, b1, b2, b3, b4, b5, b6, b7, b8, b9 => (bif decide (b2 < b1) then ((at? b0 b2).bind fun x1 => (design_CheckDesign_c7_c1_c1 N b2 x1.1 x1.2.1 x1.2.2 b3 b4 b5 b6 b7 b8 b9 (fun y2 y3 y4 y5 y6 y7 y8 y9 => (bif decide (y2 ≠ 0) then (k0 b2 y2 y3 y4 y5 y6 y7 y8 y9) else (design_each_Write_CheckDesign_c7_c1_c1_l0 N k0 k1 n b0 b1 (w64 (b2 + 1)) y3 y4 y5 y6 y7 y8 y9))))) else (k1 b3 b4 b5 b6 b7 b8 b9))
def P85_l0 : SP := ⟨[(1, .fn 136 [.ptr 0 0]), (9, pL zs5), (10, pI), (11, pI), (100001, .fn 136 [.ptr 0 0])], [(0, .box zb2)]⟩
def E85_l0 (n : Nat) (x : P85_l0.den) (k : KS R) : Option R := design_each_Write_CheckDesign_c7_c1_c1_l0 N (fun r0 r1 r2 r3 r4 r5 r6 r7 r8 => k .ret ⟨[(4, dI r0), (5, dI r1), (100001, .fn 136 [.ptr 0 0])], [(0, .box (zd3 r2 r3 r4 r5 r6 r7 r8))]⟩) (fun r0 r1 r2 r3 r4 r5 r6 => k (.ex 0) ⟨[(100001, .fn 136 [.ptr 0 0])], [(0, .box (zd3 r0 r1 r2 r3 r4 r5 r6))]⟩) n x.1.2.1 x.1.2.2.1 x.1.2.2.2.1 x.2.1.1 x.2.1.2.1 x.2.1.2.2.1 x.2.1.2.2.2.1 x.2.1.2.2.2.2.1 x.2.1.2.2.2.2.2.1 x.2.1.2.2.2.2.2.2.1
theorem O85_l0 : LpG T P85_l0 (E85_l0 N (R := R)) [1, 9, 10, 11] c135_l0 := lpk (F84_ok N) 26
def L85_1 : LpS R := updL noL 26 (lent' P85_l0 (E85_l0 N N))
def design_each_Write_CheckDesign_c7_c1_c1 (N : Nat) {R : Type} (a0 : zt7) (a1 : ByteArray) (a2 : zt6) (a3 : zt1) (a4 : zt2) (a5 : zt0) (a6 : zt6) (a7 : zt5) (k0 : Int → Int → ByteArray → zt6 → zt1 → zt2 → zt0 → zt6 → zt5 → Option R) : Option R := (design_each_Write_CheckDesign_c7_c1_c1_l0 N k0 (fun z19 z20 z21 z22 z23 z24 z25 => (k0 0 0 z19 z20 z21 z22 z23 z24 z25)) N a0 ((a0.length : Nat) : Int) 0 a1 a2 a3 a4 a5 a6 a7)
def P85 : AP := ⟨[pL zs5, .fn 136 [.ptr 0 0]], [(0, .box zb2)]⟩
def E85 (x : P85.den) (k : KK R) : Option R := design_each_Write_CheckDesign_c7_c1_c1 N x.1.1 x.2.1.1 x.2.1.2.1 x.2.1.2.2.1 x.2.1.2.2.2.1 x.2.1.2.2.2.2.1 x.2.1.2.2.2.2.2.1 x.2.1.2.2.2.2.2.2.1 (fun r0 r1 r2 r3 r4 r5 r6 r7 r8 => k [0] [dI r0, dI r1] [(0, .box (zd3 r2 r3 r4 r5 r6 r7 r8))])
def F85 : CfS R := uC (F84 N) 135 P85 (E85 N)
theorem F85_ok : FOK (F85 N : CfS R) (runF T) := uCk (F84_ok N) c135 (Lp := (L85_1 N)) (hl := (LOK_of (l := [(26, [1, 9, 10, 11], c135_l0)]) (by kernel_rfl) ⟨(updL_ok (O85_l0 N N)), trivial⟩))
def H86 : Nat → Option (List Sh) := fun n => if n = 17000 then some [hI] else if n = 31000 then some [hI] else none
def design_CheckDesign_c7_c1 (N : Nat) {R : Type} (a0 : Int) (a1 : ByteArray) (a2 : Int) (a3 : zt7) (a4 : Nat) (a5 : zt3) (a6 : ByteArray) (a7 : zt6) (a8 : zt1) (a9 : zt2) (a10 : zt0) (a11 : zt6) (a12 : zt5) (k0 : Int → Nat → zt3 → ByteArray → zt6 → zt1 → zt2 → zt0 → zt6 → zt5 → Option R) : Option R := (design_names_err N a1 a4 a5 (fun y1 y2 y3 => (design_isCondition N a6 a7 a8 a9 a10 a11 a12 a2 (fun y4 => (design_unless N y4 9 (fun y5 => (design_unless N (decide (((a3.length : Nat) : Int) ≤ 16)) 8 (fun y6 => (design_first N [y1, y5, y6] (fun y7 => (design_each_Write_CheckDesign_c7_c1_c1 N a3 a6 a7 a8 a9 a10 a11 a12 (fun y8 y9 y10 y11 y12 y13 y14 y15 y16 => (design_first N [y7, y9] (fun y17 => (k0 y17 y2 y3 y10 y11 y12 y13 y14 y15 y16)))))))))))))))
def P86 : AP := ⟨[pI, .agg [pS, pI, pL zs5], .ptr 0 0, .ptr 2 0], [(0, .box [.mp 1]), (1, .mp .s .b), (2, .box zb2)]⟩
def E86 (x : P86.den) (k : KK R) : Option R := design_CheckDesign_c7_c1 N x.1.1 x.1.2.1.1 x.1.2.1.2.1 x.1.2.1.2.2.1 x.2.2.1.1 x.2.2.1.2 x.2.2.2.1.1 x.2.2.2.1.2.1 x.2.2.2.1.2.2.1 x.2.2.2.1.2.2.2.1 x.2.2.2.1.2.2.2.2.1 x.2.2.2.1.2.2.2.2.2.1 x.2.2.2.1.2.2.2.2.2.2.1 (fun r0 r1 r2 r3 r4 r5 r6 r7 r8 r9 => k [0, 2, 1] [dI r0] [(0, .box [.mp 1]), (1, .mp .s .b r1 r2), (2, .box (zd3 r3 r4 r5 r6 r7 r8 r9))])
def F86 : CfS R := uC (F85 N) 133 P86 (E86 N)
theorem F86_ok : FOK (F86 N : CfS R) (runF T) := uCk (F85_ok N) c133 (H := H86)
def design_each_Rule_CheckDesign_c7_c1_l0 (N : Nat) {R : Type} (k0 : Int → Int → Nat → zt3 → ByteArray → zt6 → zt1 → zt2 → zt0 → zt6 → zt5 → Option R) (k1 : Nat → zt3 → ByteArray → zt6 → zt1 → zt2 → zt0 → zt6 → zt5 → Option R) : Nat → zt0 → Int → Int → Nat → zt3 → ByteArray → zt6 → zt1 → zt2 → zt0 → zt6 → zt5 → Option R
  | 0, _, _, _, _, _, _, _, _, _, _, _, _ => none
  | n + 1, b0, b1, b2, b3, b4, b5, b6, b7, b8, b9, b10, b11 => (bif decide (b2 < b1) then ((at? b0 b2).bind fun x1 => (design_CheckDesign_c7_c1 N b2 x1.1 x1.2.1 x1.2.2 b3 b4 b5 b6 b7 b8 b9 b10 b11 (fun y2 y3 y4 y5 y6 y7 y8 y9 y10 y11 => (bif decide (y2 ≠ 0) then (k0 b2 y2 y3 y4 y5 y6 y7 y8 y9 y10 y11) else (design_each_Rule_CheckDesign_c7_c1_l0 N k0 k1 n b0 b1 (w64 (b2 + 1)) y3 y4 y5 y6 y7 y8 y9 y10 y11))))) else (k1 b3 b4 b5 b6 b7 b8 b9 b10 b11))
def P87_l0 : SP := ⟨[(1, .fn 133 [.ptr 0 0, .ptr 2 0]), (9, pL zs0), (10, pI), (11, pI), (100001, .fn 133 [.ptr 0 0, .ptr 2 0]), (100002, .mp 1)], [(0, .box [.mp 1]), (1, .mp .s .b), (2, .box zb2)]⟩
def E87_l0 (n : Nat) (x : P87_l0.den) (k : KS R) : Option R := design_each_Rule_CheckDesign_c7_c1_l0 N (fun r0 r1 r2 r3 r4 r5 r6 r7 r8 r9 r10 => k .ret ⟨[(4, dI r0), (5, dI r1), (100001, .fn 133 [.ptr 0 0, .ptr 2 0]), (100002, .mp 1)], [(0, .box [.mp 1]), (1, .mp .s .b r2 r3), (2, .box (zd3 r4 r5 r6 r7 r8 r9 r10))]⟩) (fun r0 r1 r2 r3 r4 r5 r6 r7 r8 => k (.ex 0) ⟨[(100001, .fn 133 [.ptr 0 0, .ptr 2 0]), (100002, .mp 1)], [(0, .box [.mp 1]), (1, .mp .s .b r0 r1), (2, .box (zd3 r2 r3 r4 r5 r6 r7 r8))]⟩) n x.1.2.1 x.1.2.2.1 x.1.2.2.2.1 x.2.2.1.1 x.2.2.1.2 x.2.2.2.1.1 x.2.2.2.1.2.1 x.2.2.2.1.2.2.1 x.2.2.2.1.2.2.2.1 x.2.2.2.1.2.2.2.2.1 x.2.2.2.1.2.2.2.2.2.1 x.2.2.2.1.2.2.2.2.2.2.1
theorem O87_l0 : LpG T P87_l0 (E87_l0 N (R := R)) [1, 9, 10, 11] c132_l0 := lpk (F86_ok N) 26
def L87_1 : LpS R := updL noL 26 (lent' P87_l0 (E87_l0 N N))
def design_each_Rule_CheckDesign_c7_c1 (N : Nat) {R : Type} (a0 : zt0) (a1 : Nat) (a2 : zt3) (a3 : ByteArray) (a4 : zt6) (a5 : zt1) (a6 : zt2) (a7 : zt0) (a8 : zt6) (a9 : zt5) (k0 : Int → Int → Nat → zt3 → ByteArray → zt6 → zt1 → zt2 → zt0 → zt6 → zt5 → Option R) : Option R := (design_each_Rule_CheckDesign_c7_c1_l0 N k0 (fun z23 z24 z25 z26 z27 z28 z29 z30 z31 => (k0 0 0 z23 z24 z25 z26 z27 z28 z29 z30 z31)) N a0 ((a0.length : Nat) : Int) 0 a1 a2 a3 a4 a5 a6 a7 a8 a9)
def P87 : AP := ⟨[pL zs0, .fn 133 [.ptr 0 0, .ptr 2 0]], [(0, .box [.mp 1]), (1, .mp .s .b), (2, .box zb2)]⟩
def E87 (x : P87.den) (k : KK R) : Option R := design_each_Rule_CheckDesign_c7_c1 N x.1.1 x.2.2.1.1 x.2.2.1.2 x.2.2.2.1.1 x.2.2.2.1.2.1 x.2.2.2.1.2.2.1 x.2.2.2.1.2.2.2.1 x.2.2.2.1.2.2.2.2.1 x.2.2.2.1.2.2.2.2.2.1 x.2.2.2.1.2.2.2.2.2.2.1 (fun r0 r1 r2 r3 r4 r5 r6 r7 r8 r9 r10 => k [0, 2, 1] [dI r0, dI r1] [(0, .box [.mp 1]), (1, .mp .s .b r2 r3), (2, .box (zd3 r4 r5 r6 r7 r8 r9 r10))])
def F87 : CfS R := uC (F86 N) 132 P87 (E87 N)
theorem F87_ok : FOK (F87 N : CfS R) (runF T) := uCk (F86_ok N) c132 (Lp := (L87_1 N)) (hl := (LOK_of (l := [(26, [1, 9, 10, 11], c132_l0)]) (by kernel_rfl) ⟨(updL_ok (O87_l0 N N)), trivial⟩))
def design_CheckDesign_c7 (N : Nat) {R : Type} (a0 : ByteArray) (a1 : zt6) (a2 : zt1) (a3 : zt2) (a4 : zt0) (a5 : zt6) (a6 : zt5) (a7 : Nat) (a8 : zt3) (k0 : Int → Int → ByteArray → zt6 → zt1 → zt2 → zt0 → zt6 → zt5 → Nat → zt3 → Option R) : Option R := (design_each_Rule_CheckDesign_c7_c1 N a4 a7 a8 a0 a1 a2 a3 a4 a5 a6 (fun y1 y2 y3 y4 y5 y6 y7 y8 y9 y10 y11 => (k0 y1 y2 y5 y6 y7 y8 y9 y10 y11 y3 y4)))
def P88 : AP := ⟨[.ptr 0 0, .ptr 1 0], [(0, .box zb2), (1, .box [.mp 2]), (2, .mp .s .b)]⟩
def E88 (x : P88.den) (k : KK R) : Option R := design_CheckDesign_c7 N x.2.1.1 x.2.1.2.1 x.2.1.2.2.1 x.2.1.2.2.2.1 x.2.1.2.2.2.2.1 x.2.1.2.2.2.2.2.1 x.2.1.2.2.2.2.2.2.1 x.2.2.2.1.1 x.2.2.2.1.2 (fun r0 r1 r2 r3 r4 r5 r6 r7 r8 r9 r10 => k [0, 1, 2] [dI r0, dI r1] [(0, .box (zd3 r2 r3 r4 r5 r6 r7 r8)), (1, .box [.mp 2]), (2, .mp .s .b r9 r10)])
def F88 : CfS R := uC (F87 N) 131 P88 (E88 N)
theorem F88_ok : FOK (F88 N : CfS R) (runF T) := uCk (F87_ok N) c131
def design_CheckDesign_c6 (N : Nat) {R : Type} (a0 : ByteArray) (a1 : zt6) (a2 : zt1) (a3 : zt2) (a4 : zt0) (a5 : zt6) (a6 : zt5) (k0 : Int → Int → ByteArray → zt6 → zt1 → zt2 → zt0 → zt6 → zt5 → Option R) : Option R := (design_unless N (decide (((a4.length : Nat) : Int) ≤ 16)) 8 (fun y1 => (k0 0 y1 a0 a1 a2 a3 a4 a5 a6)))
def P89 : AP := ⟨[.ptr 0 0], [(0, .box zb2)]⟩
def E89 (x : P89.den) (k : KK R) : Option R := design_CheckDesign_c6 N x.2.1.1 x.2.1.2.1 x.2.1.2.2.1 x.2.1.2.2.2.1 x.2.1.2.2.2.2.1 x.2.1.2.2.2.2.2.1 x.2.1.2.2.2.2.2.2.1 (fun r0 r1 r2 r3 r4 r5 r6 r7 r8 => k [0] [dI r0, dI r1] [(0, .box (zd3 r2 r3 r4 r5 r6 r7 r8))])
def F89 : CfS R := uC (F88 N) 130 P89 (E89 N)
theorem F89_ok : FOK (F89 N : CfS R) (runF T) := uCk (F88_ok N) c130
def H90 : Nat → Option (List Sh) := fun n => if n = 16000 then some [hI] else if n = 33000 then some [hI] else none
def design_leaves_l0 (N : Nat) {R : Type} (k0 : ByteArray → zt6 → zt1 → zt2 → zt0 → zt6 → zt5 → List Int → Option R) : Nat → zt6 → Int → Int → ByteArray → zt6 → zt1 → zt2 → zt0 → zt6 → zt5 → List Int → Option R
  | 0, _, _, _, _, _, _, _, _, _, _, _ => none
  | n + 1, b0, b1, b2, b3, b4, b5, b6, b7, b8, b9, b10 => (bif decide (b2 < b1) then ((at? b0 b2).bind fun x1 => (bif roomB (b10.length + 1) 8 then (design_leaves_l0 N k0 n b0 b1 (w64 (b2 + 1)) b3 b4 b5 b6 b7 b8 b9 (b10 ++ [x1.2])) else none)) else (k0 b3 b4 b5 b6 b7 b8 b9 b10))
def P90_l0 : SP := ⟨[(1, .ptr 0 0), (3, .own 1), (9, pL [.s, hI]), (10, pI), (11, pI)], [(0, .box zb2), (1, .arr [hI])]⟩
def E90_l0 (n : Nat) (x : P90_l0.den) (k : KS R) : Option R := design_leaves_l0 N (fun r0 r1 r2 r3 r4 r5 r6 r7 => k (.ex 0) ⟨[(1, .ptr 0 0), (3, .own 1)], [(0, .box (zd3 r0 r1 r2 r3 r4 r5 r6)), (1, .arr (.t [hI] r7))]⟩) n x.1.2.2.1 x.1.2.2.2.1 x.1.2.2.2.2.1 x.2.1.1 x.2.1.2.1 x.2.1.2.2.1 x.2.1.2.2.2.1 x.2.1.2.2.2.2.1 x.2.1.2.2.2.2.2.1 x.2.1.2.2.2.2.2.2.1 x.2.2.1
theorem O90_l0 : LpG T P90_l0 (E90_l0 N (R := R)) [1, 3, 9, 10, 11] c90_l0 := lpk (F89_ok N) 58 (H := H90)
def L90_1 : LpS R := updL noL 58 (lent' P90_l0 (E90_l0 N N))
def design_leaves_l1 (N : Nat) {R : Type} (k0 : List Int → Option R) : Nat → zt1 → Int → Int → List Int → Option R
  | 0, _, _, _, _ => none
  | n + 1, b0, b1, b2, b3 => (bif decide (b2 < b1) then ((at? b0 b2).bind fun x1 => (bif roomB (b3.length + 1) 8 then (design_leaves_l1 N k0 n b0 b1 (w64 (b2 + 1)) (b3 ++ [x1.2.2.1])) else none)) else (k0 b3))
def P90_l1 : SP := ⟨[(3, .own 0), (22, pL zs2), (23, pI), (24, pI)], [(0, .arr [hI])]⟩
def E90_l1 (n : Nat) (x : P90_l1.den) (k : KS R) : Option R := design_leaves_l1 N (fun r0 => k (.ex 2) ⟨[(3, .own 0)], [(0, .arr (.t [hI] r0))]⟩) n x.1.2.1 x.1.2.2.1 x.1.2.2.2.1 x.2.1
theorem O90_l1 : LpG T P90_l1 (E90_l1 N (R := R)) [3, 22, 23, 24] c90_l1 := lpk (F89_ok N) 122 (H := H90) (Lp := (L90_1 N))
def L90_2 : LpS R := updL (L90_1 N) 122 (lent' P90_l1 (E90_l1 N N))
def design_leaves (N : Nat) {R : Type} (a0 : ByteArray) (a1 : zt6) (a2 : zt1) (a3 : zt2) (a4 : zt0) (a5 : zt6) (a6 : zt5) (k0 : List Int → Option R) : Option R := (design_leaves_l0 N (fun z2 z3 z4 z5 z6 z7 z8 z9 => (design_leaves_l1 N k0 N z4 ((z4.length : Nat) : Int) 0 z9)) N a1 ((a1.length : Nat) : Int) 0 a0 a1 a2 a3 a4 a5 a6 [])
def P90 : AP := ⟨[.agg zb2], []⟩
def E90 (x : P90.den) (k : KK R) : Option R := design_leaves N x.1.1.1 x.1.1.2.1 x.1.1.2.2.1 x.1.1.2.2.2.1 x.1.1.2.2.2.2.1 x.1.1.2.2.2.2.2.1 x.1.1.2.2.2.2.2.2.1 (fun r0 => k [] [dL [hI] r0] [])
def F90 : CfS R := uC (F89 N) 90 P90 (E90 N)
theorem F90_ok : FOK (F90 N : CfS R) (runF T) := uCk (F89_ok N) c90 (H := H90) (Lp := (L90_2 N)) (hl := (LOK_of (l := [(58, [1, 3, 9, 10, 11], c90_l0), (122, [3, 22, 23, 24], c90_l1)]) (by kernel_rfl) ⟨(updL_ne (by decide) (updL_ok (O90_l0 N N))), (updL_ok (O90_l1 N N)), trivial⟩))
def graph_within (N : Nat) {R : Type} (a0 a1 a2 : Int) (k0 : Bool → Option R) : Option R := (bif decide (a1 ≤ a0) then (k0 (decide (a0 ≤ a2))) else (k0 false))
def P91 : AP := ⟨[pI, pI, pI], []⟩
def E91 (x : P91.den) (k : KK R) : Option R := graph_within N x.1.1 x.1.2.1 x.1.2.2.1 (fun r0 => k [] [dB r0] [])
def F91 : CfS R := uC (F90 N) 187 P91 (E91 N)
theorem F91_ok : FOK (F91 N : CfS R) (runF T) := uCk (F90_ok N) c187
def graph_isWidth (N : Nat) {R : Type} (a0 : Int) (k0 : Bool → Option R) : Option R := (graph_within N a0 1 16 k0)
def P92 : AP := ⟨[pI], []⟩
def E92 (x : P92.den) (k : KK R) : Option R := graph_isWidth N x.1.1 (fun r0 => k [] [dB r0] [])
def F92 : CfS R := uC (F91 N) 183 P92 (E92 N)
theorem F92_ok : FOK (F92 N : CfS R) (runF T) := uCk (F91_ok N) c183
def graph_unless (N : Nat) {R : Type} (a0 : Bool) (a1 : Int) (k0 : Int → Option R) : Option R := (bif a0 then (k0 0) else (k0 a1))
def P93 : AP := ⟨[pB, pI], []⟩
def E93 (x : P93.den) (k : KK R) : Option R := graph_unless N x.1.1 x.1.2.1 (fun r0 => k [] [dI r0] [])
def F93 : CfS R := uC (F92 N) 151 P93 (E93 N)
theorem F93_ok : FOK (F93 N : CfS R) (runF T) := uCk (F92_ok N) c151
def graph_CheckNodes_c1 (N : Nat) {R : Type} (a0 a1 : Int) (k0 : Int → Option R) : Option R := (graph_isWidth N a1 (fun y1 => (graph_unless N y1 2 k0)))
def P94 : AP := ⟨[pI, pI], []⟩
def E94 (x : P94.den) (k : KK R) : Option R := graph_CheckNodes_c1 N x.1.1 x.1.2.1 (fun r0 => k [] [dI r0] [])
def F94 : CfS R := uC (F93 N) 182 P94 (E94 N)
theorem F94_ok : FOK (F94 N : CfS R) (runF T) := uCk (F93_ok N) c182
def graph_each_int_CheckNodes_c1_l0 (N : Nat) {R : Type} (k0 : Int → Int → Option R) (k1 : Option R) : Nat → List Int → Int → Int → Option R
  | 0, _, _, _ => none
  | n + 1, b0, b1, b2 => (bif decide (b2 < b1) then ((at? b0 b2).bind fun x1 => (graph_CheckNodes_c1 N b2 x1 (fun y2 => (bif decide (y2 ≠ 0) then (k0 b2 y2) else (graph_each_int_CheckNodes_c1_l0 N k0 k1 n b0 b1 (w64 (b2 + 1))))))) else k1)
def P95_l0 : SP := ⟨[(1, .p (.fn 182 [])), (9, pL [hI]), (10, pI), (11, pI)], []⟩
def E95_l0 (n : Nat) (x : P95_l0.den) (k : KS R) : Option R := graph_each_int_CheckNodes_c1_l0 N (fun r0 r1 => k .ret ⟨[(4, dI r0), (5, dI r1)], []⟩) (k (.ex 0) ⟨[], []⟩) n x.1.2.1 x.1.2.2.1 x.1.2.2.2.1
theorem O95_l0 : LpG T P95_l0 (E95_l0 N (R := R)) [1, 9, 10, 11] c152_l0 := lpk (F94_ok N) 26
def L95_1 : LpS R := updL noL 26 (lent' P95_l0 (E95_l0 N N))
def graph_each_int_CheckNodes_c1 (N : Nat) {R : Type} (a0 : List Int) (k0 : Int → Int → Option R) : Option R := (graph_each_int_CheckNodes_c1_l0 N k0 (k0 0 0) N a0 ((a0.length : Nat) : Int) 0)
def P95 : AP := ⟨[pL [hI], .p (.fn 182 [])], []⟩
def E95 (x : P95.den) (k : KK R) : Option R := graph_each_int_CheckNodes_c1 N x.1.1 (fun r0 r1 => k [] [dI r0, dI r1] [])
def F95 : CfS R := uC (F94 N) 152 P95 (E95 N)
theorem F95_ok : FOK (F95 N : CfS R) (runF T) := uCk (F94_ok N) c152 (Lp := (L95_1 N)) (hl := (LOK_of (l := [(26, [1, 9, 10, 11], c152_l0)]) (by kernel_rfl) ⟨(updL_ok (O95_l0 N N)), trivial⟩))
def graph_binary_operations_c3 (N : Nat) {R : Type} (k0 : Option R) : Option R := k0
def P96 : AP := ⟨[.p (.ks (ByteArray.mk #[97, 110, 100])), .p (.fn 213 [])], []⟩
def E96 (x : P96.den) (k : KK R) : Option R := graph_binary_operations_c3 N (k [] [.agg [dS (ByteArray.mk #[97, 110, 100]), dI 2, dB false, .p (.fn 209 []), .p (.fn 244 [.cp [.fn 213 []]])]] [])
def F96 : CfS R := uC (F95 N) 212 P96 (E96 N)
theorem F96_ok : FOK (F96 N : CfS R) (runF T) := uCk (F95_ok N) c212
def graph_binary_operations_c4 (N : Nat) {R : Type} (k0 : Option R) : Option R := k0
def P97 : AP := ⟨[.p (.ks (ByteArray.mk #[111, 114])), .p (.fn 214 [])], []⟩
def E97 (x : P97.den) (k : KK R) : Option R := graph_binary_operations_c4 N (k [] [.agg [dS (ByteArray.mk #[111, 114]), dI 2, dB false, .p (.fn 209 []), .p (.fn 244 [.cp [.fn 214 []]])]] [])
def F97 : CfS R := uC (F96 N) 212 P97 (E97 N)
theorem F97_ok : FOK (F97 N : CfS R) (runF T) := uCk (F96_ok N) c212
def graph_binary_operations_c5 (N : Nat) {R : Type} (k0 : Option R) : Option R := k0
def P98 : AP := ⟨[.p (.ks (ByteArray.mk #[120, 111, 114])), .p (.fn 215 [])], []⟩
def E98 (x : P98.den) (k : KK R) : Option R := graph_binary_operations_c5 N (k [] [.agg [dS (ByteArray.mk #[120, 111, 114]), dI 2, dB false, .p (.fn 209 []), .p (.fn 244 [.cp [.fn 215 []]])]] [])
def F98 : CfS R := uC (F97 N) 212 P98 (E98 N)
theorem F98_ok : FOK (F98 N : CfS R) (runF T) := uCk (F97_ok N) c212
def graph_binary_operations_c6 (N : Nat) {R : Type} (k0 : Option R) : Option R := k0
def P99 : AP := ⟨[.p (.ks (ByteArray.mk #[97, 100, 100])), .p (.fn 216 [])], []⟩
def E99 (x : P99.den) (k : KK R) : Option R := graph_binary_operations_c6 N (k [] [.agg [dS (ByteArray.mk #[97, 100, 100]), dI 2, dB false, .p (.fn 209 []), .p (.fn 244 [.cp [.fn 216 []]])]] [])
def F99 : CfS R := uC (F98 N) 212 P99 (E99 N)
theorem F99_ok : FOK (F99 N : CfS R) (runF T) := uCk (F98_ok N) c212
def graph_binary_operations_c7 (N : Nat) {R : Type} (k0 : Option R) : Option R := k0
def P100 : AP := ⟨[.p (.ks (ByteArray.mk #[115, 117, 98])), .p (.fn 217 [])], []⟩
def E100 (x : P100.den) (k : KK R) : Option R := graph_binary_operations_c7 N (k [] [.agg [dS (ByteArray.mk #[115, 117, 98]), dI 2, dB false, .p (.fn 209 []), .p (.fn 244 [.cp [.fn 217 []]])]] [])
def F100 : CfS R := uC (F99 N) 212 P100 (E100 N)
theorem F100_ok : FOK (F100 N : CfS R) (runF T) := uCk (F99_ok N) c212
def graph_binary_operations_c8 (N : Nat) {R : Type} (k0 : Option R) : Option R := k0
def P101 : AP := ⟨[.p (.ks (ByteArray.mk #[109, 117, 108])), .p (.fn 218 [])], []⟩
def E101 (x : P101.den) (k : KK R) : Option R := graph_binary_operations_c8 N (k [] [.agg [dS (ByteArray.mk #[109, 117, 108]), dI 2, dB false, .p (.fn 209 []), .p (.fn 244 [.cp [.fn 218 []]])]] [])
def F101 : CfS R := uC (F100 N) 212 P101 (E101 N)
theorem F101_ok : FOK (F101 N : CfS R) (runF T) := uCk (F100_ok N) c212
def graph_relation_operations_c9 (N : Nat) {R : Type} (k0 : Option R) : Option R := k0
def P102 : AP := ⟨[.p (.ks (ByteArray.mk #[101, 113])), .p (.fn 220 [])], []⟩
def E102 (x : P102.den) (k : KK R) : Option R := graph_relation_operations_c9 N (k [] [.agg [dS (ByteArray.mk #[101, 113]), dI 2, dB false, .p (.fn 245 []), .p (.fn 246 [.cp [.fn 220 []]])]] [])
def F102 : CfS R := uC (F101 N) 219 P102 (E102 N)
theorem F102_ok : FOK (F102 N : CfS R) (runF T) := uCk (F101_ok N) c219
def graph_relation_operations_c10 (N : Nat) {R : Type} (k0 : Option R) : Option R := k0
def P103 : AP := ⟨[.p (.ks (ByteArray.mk #[108, 116])), .p (.fn 221 [])], []⟩
def E103 (x : P103.den) (k : KK R) : Option R := graph_relation_operations_c10 N (k [] [.agg [dS (ByteArray.mk #[108, 116]), dI 2, dB false, .p (.fn 245 []), .p (.fn 246 [.cp [.fn 221 []]])]] [])
def F103 : CfS R := uC (F102 N) 219 P103 (E103 N)
theorem F103_ok : FOK (F103 N : CfS R) (runF T) := uCk (F102_ok N) c219
def graph_relation_operations_c11 (N : Nat) {R : Type} (k0 : Option R) : Option R := k0
def P104 : AP := ⟨[.p (.ks (ByteArray.mk #[115, 108, 116])), .p (.fn 222 [])], []⟩
def E104 (x : P104.den) (k : KK R) : Option R := graph_relation_operations_c11 N (k [] [.agg [dS (ByteArray.mk #[115, 108, 116]), dI 2, dB false, .p (.fn 245 []), .p (.fn 246 [.cp [.fn 222 []]])]] [])
def F104 : CfS R := uC (F103 N) 219 P104 (E104 N)
theorem F104_ok : FOK (F104 N : CfS R) (runF T) := uCk (F103_ok N) c219
def graph_operations (N : Nat) {R : Type} (k0 : Option R) : Option R := (graph_binary_operations_c3 N (graph_binary_operations_c4 N (graph_binary_operations_c5 N (graph_binary_operations_c6 N (graph_binary_operations_c7 N (graph_binary_operations_c8 N (graph_relation_operations_c9 N (graph_relation_operations_c10 N (graph_relation_operations_c11 N k0)))))))))
def P105 : AP := ⟨[], []⟩
def E105 (x : P105.den) (k : KK R) : Option R := graph_operations N (k [] [.agg zd1] [])
def F105 : CfS R := uC (F104 N) 184 P105 (E105 N)
theorem F105_ok : FOK (F105 N : CfS R) (runF T) := uCk (F104_ok N) c184
def graph_first_l0 (N : Nat) {R : Type} (k0 : Int → Option R) (k1 : Option R) : Nat → List Int → Int → Int → Option R
  | 0, _, _, _ => none
  | n + 1, b0, b1, b2 => (bif decide (b2 < b1) then ((at? b0 b2).bind fun x1 => (bif decide (x1 ≠ 0) then (k0 x1) else (graph_first_l0 N k0 k1 n b0 b1 (w64 (b2 + 1))))) else k1)
def P106_l0 : SP := ⟨[(5, pL [hI]), (6, pI), (7, pI)], []⟩
def E106_l0 (n : Nat) (x : P106_l0.den) (k : KS R) : Option R := graph_first_l0 N (fun r0 => k .ret ⟨[(2, dI r0)], []⟩) (k (.ex 0) ⟨[], []⟩) n x.1.1 x.1.2.1 x.1.2.2.1
theorem O106_l0 : LpG T P106_l0 (E106_l0 N (R := R)) [5, 6, 7] c149_l0 := lpk (F105_ok N) 26
def L106_1 : LpS R := updL noL 26 (lent' P106_l0 (E106_l0 N N))
def graph_first (N : Nat) {R : Type} (a0 : List Int) (k0 : Int → Option R) : Option R := (graph_first_l0 N k0 (k0 0) N a0 ((a0.length : Nat) : Int) 0)
def P106 : AP := ⟨[pL [hI]], []⟩
def E106 (x : P106.den) (k : KK R) : Option R := graph_first N x.1.1 (fun r0 => k [] [dI r0] [])
def F106 : CfS R := uC (F105 N) 149 P106 (E106 N)
theorem F106_ok : FOK (F106 N : CfS R) (runF T) := uCk (F105_ok N) c149 (Lp := (L106_1 N)) (hl := (LOK_of (l := [(26, [5, 6, 7], c149_l0)]) (by kernel_rfl) ⟨(updL_ok (O106_l0 N N)), trivial⟩))
def graph_CheckNodes_c2_c1 (N : Nat) {R : Type} (a0 a1 : Int) (k0 : Bool → Int → Option R) : Option R := (graph_within N a0 0 (w64 (a1 - 1)) (fun y1 => (k0 (!y1) a1)))
def P107 : AP := ⟨[pI, .ptr 0 0], [(0, .box [pI])]⟩
def E107 (x : P107.den) (k : KK R) : Option R := graph_CheckNodes_c2_c1 N x.1.1 x.2.1.1 (fun r0 r1 => k [0] [dB r0] [(0, .box [dI r1])])
def F107 : CfS R := uC (F106 N) 188 P107 (E107 N)
theorem F107_ok : FOK (F107 N : CfS R) (runF T) := uCk (F106_ok N) c188
def slices_IndexFunc_Lint_int_CheckNodes_c2_c1_l0 (N : Nat) {R : Type} (k0 : Int → Int → Option R) (k1 : Int → Option R) : Nat → List Int → Int → Int → Int → Option R
  | 0, _, _, _, _ => none
  | n + 1, b0, b1, b2, b3 => (bif decide (b2 < b1) then ((at? b0 b2).bind fun x1 => (graph_CheckNodes_c2_c1 N x1 b3 (fun y2 y3 => (bif y2 then (k0 b2 y3) else (slices_IndexFunc_Lint_int_CheckNodes_c2_c1_l0 N k0 k1 n b0 b1 (w64 (b2 + 1)) y3))))) else (k1 b3))
def P108_l0 : SP := ⟨[(0, pL [hI]), (1, .fn 188 [.ptr 0 0]), (7, pI), (8, pI), (100001, .fn 188 [.ptr 0 0])], [(0, .box [pI])]⟩
def E108_l0 (n : Nat) (x : P108_l0.den) (k : KS R) : Option R := slices_IndexFunc_Lint_int_CheckNodes_c2_c1_l0 N (fun r0 r1 => k .ret ⟨[(4, dI r0), (100001, .fn 188 [.ptr 0 0])], [(0, .box [dI r1])]⟩) (fun r0 => k (.ex 0) ⟨[(100001, .fn 188 [.ptr 0 0])], [(0, .box [dI r0])]⟩) n x.1.1 x.1.2.2.1 x.1.2.2.2.1 x.2.1.1
theorem O108_l0 : LpG T P108_l0 (E108_l0 N (R := R)) [0, 1, 7, 8] c116_l0 := lpk (F107_ok N) 26
def L108_1 : LpS R := updL noL 26 (lent' P108_l0 (E108_l0 N N))
def slices_IndexFunc_Lint_int_CheckNodes_c2_c1 (N : Nat) {R : Type} (a0 : List Int) (a1 : Int) (k0 : Int → Int → Option R) : Option R := (slices_IndexFunc_Lint_int_CheckNodes_c2_c1_l0 N k0 (fun z6 => (k0 (-1) z6)) N a0 ((a0.length : Nat) : Int) 0 a1)
def P108 : AP := ⟨[pL [hI], .fn 188 [.ptr 0 0]], [(0, .box [pI])]⟩
def E108 (x : P108.den) (k : KK R) : Option R := slices_IndexFunc_Lint_int_CheckNodes_c2_c1 N x.1.1 x.2.1.1 (fun r0 r1 => k [0] [dI r0] [(0, .box [dI r1])])
def F108 : CfS R := uC (F107 N) 116 P108 (E108 N)
theorem F108_ok : FOK (F108 N : CfS R) (runF T) := uCk (F107_ok N) c116 (Lp := (L108_1 N)) (hl := (LOK_of (l := [(26, [0, 1, 7, 8], c116_l0)]) (by kernel_rfl) ⟨(updL_ok (O108_l0 N N)), trivial⟩))
def slices_ContainsFunc_Lint_int_CheckNodes_c2_c1 (N : Nat) {R : Type} (a0 : List Int) (a1 : Int) (k0 : Bool → Int → Option R) : Option R := (slices_IndexFunc_Lint_int_CheckNodes_c2_c1 N a0 a1 (fun y1 y2 => (k0 (decide (0 ≤ y1)) y2)))
def P109 : AP := ⟨[pL [hI], .fn 188 [.ptr 0 0]], [(0, .box [pI])]⟩
def E109 (x : P109.den) (k : KK R) : Option R := slices_ContainsFunc_Lint_int_CheckNodes_c2_c1 N x.1.1 x.2.1.1 (fun r0 r1 => k [0] [dB r0] [(0, .box [dI r1])])
def F109 : CfS R := uC (F108 N) 85 P109 (E109 N)
theorem F109_ok : FOK (F109 N : CfS R) (runF T) := uCk (F108_ok N) c85
def graph_fits (N : Nat) {R : Type} (a0 a1 : Int) (k0 : Bool → Option R) : Option R := (bif decide (0 ≤ a1) then (bif decide (a1 < 0) then none else (graph_within N a0 0 (w64 ((shl' .i64 1 a1) - 1)) k0)) else (k0 false))
def P110 : AP := ⟨[pI, pI], []⟩
def E110 (x : P110.den) (k : KK R) : Option R := graph_fits N x.1.1 x.1.2.1 (fun r0 => k [] [dB r0] [])
def F110 : CfS R := uC (F109 N) 154 P110 (E110 N)
theorem F110_ok : FOK (F110 N : CfS R) (runF T) := uCk (F109_ok N) c154
def graph_valueErr_operations_c21 (N : Nat) {R : Type} (a0 : List Int) (a1 a2 : Int) (a3 : List Int) (a4 : Int) (k0 : Int → Option R) : Option R := (bif decide (a1 = 0) then (graph_fits N a4 a2 (fun y1 => (graph_unless N y1 2 k0))) else (bif decide (a1 = 1) then (graph_within N a4 0 (w64 (((a0.length : Nat) : Int) - 1)) (fun y3 => (bif (!y3) then (k0 6) else ((at? a0 a4).bind fun x4 => (graph_unless N (decide (x4 = a2)) 25 k0))))) else (bif decide (a1 = 14) then (graph_within N a4 0 15 (fun y6 => (graph_unless N y6 2 k0))) else (graph_unless N (decide (a4 = 0)) 3 k0))))
def P111 : AP := ⟨[pL [hI], .agg zb4, .agg [.p (.ks (ByteArray.mk #[115, 104, 114])), .p (.ki .i64 2), .p (.kb false), .p (.fn 233 []), .p (.fn 235 [])]], []⟩
def E111 (x : P111.den) (k : KK R) : Option R := graph_valueErr_operations_c21 N x.1.1 x.1.2.1.1 x.1.2.1.2.1 x.1.2.1.2.2.1 x.1.2.1.2.2.2.1 (fun r0 => k [] [dI r0] [])
def F111 : CfS R := uC (F110 N) 189 P111 (E111 N)
theorem F111_ok : FOK (F111 N : CfS R) (runF T) := uCk (F110_ok N) c189
def graph_shifted (N : Nat) {R : Type} (a0 : Int) (a1 : List Int) (a2 : Int) (k0 : Bool → Option R) : Option R := ((at? a1 0).bind fun x1 => (k0 (decide (x1 = a0))))
def P112 : AP := ⟨[pI, pL [hI], pI], []⟩
def E112 (x : P112.den) (k : KK R) : Option R := graph_shifted N x.1.1 x.1.2.1 x.1.2.2.1 (fun r0 => k [] [dB r0] [])
def F112 : CfS R := uC (F111 N) 233 P112 (E112 N)
theorem F112_ok : FOK (F112 N : CfS R) (runF T) := uCk (F111_ok N) c233
def graph_valueErr_shifted (N : Nat) {R : Type} (a0 : List Int) (a1 a2 : Int) (a3 : List Int) (a4 : Int) (a5 : ByteArray) (a6 : Nat) (k0 : Int → Option R) : Option R := (bif decide (a1 = 0) then (graph_fits N a4 a2 (fun y1 => (graph_unless N y1 2 k0))) else (bif decide (a1 = 1) then (graph_within N a4 0 (w64 (((a0.length : Nat) : Int) - 1)) (fun y3 => (bif (!y3) then (k0 6) else ((at? a0 a4).bind fun x4 => (graph_unless N (decide (x4 = a2)) 25 k0))))) else (bif decide (a1 = 14) then (graph_within N a4 0 15 (fun y6 => (graph_unless N y6 2 k0))) else (graph_unless N (decide (a4 = 0)) 3 k0))))
def P113 : AP := ⟨[pL [hI], .agg zb4, .agg [pS, .p (.ki .i64 2), .p (.kb false), .p (.fn 233 []), .p (.fv [])]], []⟩
def E113 (x : P113.den) (k : KK R) : Option R := graph_valueErr_shifted N x.1.1 x.1.2.1.1 x.1.2.1.2.1 x.1.2.1.2.2.1 x.1.2.1.2.2.2.1 x.1.2.2.1.1 x.1.2.2.1.2.2.2.2.1.1 (fun r0 => k [] [dI r0] [])
def F113 : CfS R := uC (F112 N) 189 P113 (E113 N)
theorem F113_ok : FOK (F113 N : CfS R) (runF T) := uCk (F112_ok N) c189
def graph_valueErr (N : Nat) {R : Type} (a0 : List Int) (a1 a2 : Int) (a3 : List Int) (a4 : Int) (a5 : ByteArray) (a6 : Int) (a7 a8 : Nat) (k0 : Int → Option R) : Option R := (bif decide (a1 = 0) then (graph_fits N a4 a2 (fun y1 => (graph_unless N y1 2 k0))) else (bif decide (a1 = 1) then (graph_within N a4 0 (w64 (((a0.length : Nat) : Int) - 1)) (fun y3 => (bif (!y3) then (k0 6) else ((at? a0 a4).bind fun x4 => (graph_unless N (decide (x4 = a2)) 25 k0))))) else (bif decide (a1 = 14) then (graph_within N a4 0 15 (fun y6 => (graph_unless N y6 2 k0))) else (graph_unless N (decide (a4 = 0)) 3 k0))))
def P114 : AP := ⟨[pL [hI], .agg zb4, .agg [pS, pI, .p (.kb false), .p (.fv []), .p (.fv [])]], []⟩
def E114 (x : P114.den) (k : KK R) : Option R := graph_valueErr N x.1.1 x.1.2.1.1 x.1.2.1.2.1 x.1.2.1.2.2.1 x.1.2.1.2.2.2.1 x.1.2.2.1.1 x.1.2.2.1.2.1 x.1.2.2.1.2.2.2.1.1 x.1.2.2.1.2.2.2.2.1.1 (fun r0 => k [] [dI r0] [])
def F114 : CfS R := uC (F113 N) 189 P114 (E114 N)
theorem F114_ok : FOK (F114 N : CfS R) (runF T) := uCk (F113_ok N) c189
def graph_extended (N : Nat) {R : Type} (a0 : Int) (a1 : List Int) (a2 : Int) (k0 : Bool → Option R) : Option R := ((at? a1 0).bind fun x1 => (k0 (decide (x1 ≤ a0))))
def P115 : AP := ⟨[pI, pL [hI], pI], []⟩
def E115 (x : P115.den) (k : KK R) : Option R := graph_extended N x.1.1 x.1.2.1 x.1.2.2.1 (fun r0 => k [] [dB r0] [])
def F115 : CfS R := uC (F114 N) 230 P115 (E115 N)
theorem F115_ok : FOK (F115 N : CfS R) (runF T) := uCk (F114_ok N) c230
def graph_valueErr_v1 (N : Nat) {R : Type} (a0 : List Int) (a1 a2 : Int) (a3 : List Int) (a4 : Int) (a5 : ByteArray) (a6 : Int) (a7 a8 : Nat) (k0 : Int → Option R) : Option R := (bif decide (a1 = 0) then (graph_fits N a4 a2 (fun y1 => (graph_unless N y1 2 k0))) else (bif decide (a1 = 1) then (graph_within N a4 0 (w64 (((a0.length : Nat) : Int) - 1)) (fun y3 => (bif (!y3) then (k0 6) else ((at? a0 a4).bind fun x4 => (graph_unless N (decide (x4 = a2)) 25 k0))))) else (bif decide (a1 = 14) then (graph_within N a4 0 15 (fun y6 => (graph_unless N y6 2 k0))) else (graph_unless N (decide (a4 = 0)) 3 k0))))
def P116 : AP := ⟨[pL [hI], .agg zb4, .agg [pS, pI, .p (.kb false), .p (.fv []), .p (.fv [])]], []⟩
def E116 (x : P116.den) (k : KK R) : Option R := graph_valueErr_v1 N x.1.1 x.1.2.1.1 x.1.2.1.2.1 x.1.2.1.2.2.1 x.1.2.1.2.2.2.1 x.1.2.2.1.1 x.1.2.2.1.2.1 x.1.2.2.1.2.2.2.1.1 x.1.2.2.1.2.2.2.2.1.1 (fun r0 => k [] [dI r0] [])
def F116 : CfS R := uC (F115 N) 189 P116 (E116 N)
theorem F116_ok : FOK (F116 N : CfS R) (runF T) := uCk (F115_ok N) c189
def graph_valueErr_v2 (N : Nat) {R : Type} (a0 : List Int) (a1 a2 : Int) (a3 : List Int) (a4 : Int) (a5 : ByteArray) (a6 : Int) (a7 : Bool) (a8 a9 : Nat) (k0 : Int → Option R) : Option R := (bif decide (a1 = 0) then (graph_fits N a4 a2 (fun y1 => (graph_unless N y1 2 k0))) else (bif decide (a1 = 1) then (graph_within N a4 0 (w64 (((a0.length : Nat) : Int) - 1)) (fun y3 => (bif (!y3) then (k0 6) else ((at? a0 a4).bind fun x4 => (graph_unless N (decide (x4 = a2)) 25 k0))))) else (bif decide (a1 = 14) then (graph_within N a4 0 15 (fun y6 => (graph_unless N y6 2 k0))) else (bif a7 then (graph_unless N true 3 k0) else (graph_unless N (decide (a4 = 0)) 3 k0)))))
def P117 : AP := ⟨[pL [hI], .agg zb4, .agg [pS, pI, pB, .p (.fv []), .p (.fv [])]], []⟩
def E117 (x : P117.den) (k : KK R) : Option R := graph_valueErr_v2 N x.1.1 x.1.2.1.1 x.1.2.1.2.1 x.1.2.1.2.2.1 x.1.2.1.2.2.2.1 x.1.2.2.1.1 x.1.2.2.1.2.1 x.1.2.2.1.2.2.1 x.1.2.2.1.2.2.2.1.1 x.1.2.2.1.2.2.2.2.1.1 (fun r0 => k [] [dI r0] [])
def F117 : CfS R := uC (F116 N) 189 P117 (E117 N)
theorem F117_ok : FOK (F117 N : CfS R) (runF T) := uCk (F116_ok N) c189
def graph_operations_c16 (N : Nat) {R : Type} (a0 : Int) (a1 : List Int) (a2 : Int) (k0 : Bool → Option R) : Option R := ((at? a1 0).bind fun x1 => (k0 (decide ((w64 (a2 + a0)) ≤ x1))))
def P118 : AP := ⟨[pI, pL [hI], pI], []⟩
def E118 (x : P118.den) (k : KK R) : Option R := graph_operations_c16 N x.1.1 x.1.2.1 x.1.2.2.1 (fun r0 => k [] [dB r0] [])
def F118 : CfS R := uC (F117 N) 228 P118 (E118 N)
theorem F118_ok : FOK (F118 N : CfS R) (runF T) := uCk (F117_ok N) c228
def graph_valueErr_v3 (N : Nat) {R : Type} (a0 : List Int) (a1 a2 : Int) (a3 : List Int) (a4 : Int) (a5 : ByteArray) (a6 : Int) (a7 : Bool) (a8 a9 : Nat) (k0 : Int → Option R) : Option R := (bif decide (a1 = 0) then (graph_fits N a4 a2 (fun y1 => (graph_unless N y1 2 k0))) else (bif decide (a1 = 1) then (graph_within N a4 0 (w64 (((a0.length : Nat) : Int) - 1)) (fun y3 => (bif (!y3) then (k0 6) else ((at? a0 a4).bind fun x4 => (graph_unless N (decide (x4 = a2)) 25 k0))))) else (bif decide (a1 = 14) then (graph_within N a4 0 15 (fun y6 => (graph_unless N y6 2 k0))) else (bif a7 then (graph_unless N true 3 k0) else (graph_unless N (decide (a4 = 0)) 3 k0)))))
def P119 : AP := ⟨[pL [hI], .agg zb4, .agg [pS, pI, pB, .p (.fv []), .p (.fv [])]], []⟩
def E119 (x : P119.den) (k : KK R) : Option R := graph_valueErr_v3 N x.1.1 x.1.2.1.1 x.1.2.1.2.1 x.1.2.1.2.2.1 x.1.2.1.2.2.2.1 x.1.2.2.1.1 x.1.2.2.1.2.1 x.1.2.2.1.2.2.1 x.1.2.2.1.2.2.2.1.1 x.1.2.2.1.2.2.2.2.1.1 (fun r0 => k [] [dI r0] [])
def F119 : CfS R := uC (F118 N) 189 P119 (E119 N)
theorem F119_ok : FOK (F119 N : CfS R) (runF T) := uCk (F118_ok N) c189
def graph_operations_c14 (N : Nat) {R : Type} (a0 : Int) (a1 : List Int) (a2 : Int) (k0 : Bool → Option R) : Option R := ((at? a1 0).bind fun x1 => ((at? a1 1).bind fun x2 => (k0 (decide ((w64 (x1 + x2)) = a0)))))
def P120 : AP := ⟨[pI, pL [hI], pI], []⟩
def E120 (x : P120.den) (k : KK R) : Option R := graph_operations_c14 N x.1.1 x.1.2.1 x.1.2.2.1 (fun r0 => k [] [dB r0] [])
def F120 : CfS R := uC (F119 N) 226 P120 (E120 N)
theorem F120_ok : FOK (F120 N : CfS R) (runF T) := uCk (F119_ok N) c226
def graph_valueErr_v4 (N : Nat) {R : Type} (a0 : List Int) (a1 a2 : Int) (a3 : List Int) (a4 : Int) (a5 : ByteArray) (a6 : Int) (a7 : Bool) (a8 a9 : Nat) (k0 : Int → Option R) : Option R := (bif decide (a1 = 0) then (graph_fits N a4 a2 (fun y1 => (graph_unless N y1 2 k0))) else (bif decide (a1 = 1) then (graph_within N a4 0 (w64 (((a0.length : Nat) : Int) - 1)) (fun y3 => (bif (!y3) then (k0 6) else ((at? a0 a4).bind fun x4 => (graph_unless N (decide (x4 = a2)) 25 k0))))) else (bif decide (a1 = 14) then (graph_within N a4 0 15 (fun y6 => (graph_unless N y6 2 k0))) else (bif a7 then (graph_unless N true 3 k0) else (graph_unless N (decide (a4 = 0)) 3 k0)))))
def P121 : AP := ⟨[pL [hI], .agg zb4, .agg [pS, pI, pB, .p (.fv []), .p (.fv [])]], []⟩
def E121 (x : P121.den) (k : KK R) : Option R := graph_valueErr_v4 N x.1.1 x.1.2.1.1 x.1.2.1.2.1 x.1.2.1.2.2.1 x.1.2.1.2.2.2.1 x.1.2.2.1.1 x.1.2.2.1.2.1 x.1.2.2.1.2.2.1 x.1.2.2.1.2.2.2.1.1 x.1.2.2.1.2.2.2.2.1.1 (fun r0 => k [] [dI r0] [])
def F121 : CfS R := uC (F120 N) 189 P121 (E121 N)
theorem F121_ok : FOK (F121 N : CfS R) (runF T) := uCk (F120_ok N) c189
def graph_operations_c12 (N : Nat) {R : Type} (a0 : Int) (a1 : List Int) (a2 : Int) (k0 : Bool → Option R) : Option R := ((at? a1 0).bind fun x1 => (bif decide (x1 = 1) then ((at? a1 1).bind fun x2 => (bif decide (x2 = a0) then ((at? a1 2).bind fun x3 => (k0 (decide (x3 = a0)))) else (k0 false))) else (k0 false)))
def P122 : AP := ⟨[pI, pL [hI], pI], []⟩
def E122 (x : P122.den) (k : KK R) : Option R := graph_operations_c12 N x.1.1 x.1.2.1 x.1.2.2.1 (fun r0 => k [] [dB r0] [])
def F122 : CfS R := uC (F121 N) 224 P122 (E122 N)
theorem F122_ok : FOK (F122 N : CfS R) (runF T) := uCk (F121_ok N) c224
def graph_valueErr_v5 (N : Nat) {R : Type} (a0 : List Int) (a1 a2 : Int) (a3 : List Int) (a4 : Int) (a5 : ByteArray) (a6 : Int) (a7 : Bool) (a8 a9 : Nat) (a10 : List S) (k0 : Int → Option R) : Option R := (bif decide (a1 = 0) then (graph_fits N a4 a2 (fun y1 => (graph_unless N y1 2 k0))) else (bif decide (a1 = 1) then (graph_within N a4 0 (w64 (((a0.length : Nat) : Int) - 1)) (fun y3 => (bif (!y3) then (k0 6) else ((at? a0 a4).bind fun x4 => (graph_unless N (decide (x4 = a2)) 25 k0))))) else (bif decide (a1 = 14) then (graph_within N a4 0 15 (fun y6 => (graph_unless N y6 2 k0))) else (bif a7 then (graph_unless N true 3 k0) else (graph_unless N (decide (a4 = 0)) 3 k0)))))
def P123 : AP := ⟨[pL [hI], .agg zb4, .agg zb12], []⟩
def E123 (x : P123.den) (k : KK R) : Option R := graph_valueErr_v5 N x.1.1 x.1.2.1.1 x.1.2.1.2.1 x.1.2.1.2.2.1 x.1.2.1.2.2.2.1 x.1.2.2.1.1 x.1.2.2.1.2.1 x.1.2.2.1.2.2.1 x.1.2.2.1.2.2.2.1.1 x.1.2.2.1.2.2.2.2.1.1 x.1.2.2.1.2.2.2.2.1.2 (fun r0 => k [] [dI r0] [])
def F123 : CfS R := uC (F122 N) 189 P123 (E123 N)
theorem F123_ok : FOK (F123 N : CfS R) (runF T) := uCk (F122_ok N) c189
def graph_compared (N : Nat) {R : Type} (a0 : Int) (a1 : List Int) (a2 : Int) (k0 : Bool → Option R) : Option R := (bif decide (a0 = 1) then ((at? a1 0).bind fun x1 => ((at? a1 1).bind fun x2 => (k0 (decide (x1 = x2))))) else (k0 false))
def P124 : AP := ⟨[pI, pL [hI], pI], []⟩
def E124 (x : P124.den) (k : KK R) : Option R := graph_compared N x.1.1 x.1.2.1 x.1.2.2.1 (fun r0 => k [] [dB r0] [])
def F124 : CfS R := uC (F123 N) 245 P124 (E124 N)
theorem F124_ok : FOK (F124 N : CfS R) (runF T) := uCk (F123_ok N) c245
def graph_valueErr_v6 (N : Nat) {R : Type} (a0 : List Int) (a1 a2 : Int) (a3 : List Int) (a4 : Int) (a5 : ByteArray) (a6 : Int) (a7 : Bool) (a8 a9 : Nat) (a10 : List S) (k0 : Int → Option R) : Option R := (bif decide (a1 = 0) then (graph_fits N a4 a2 (fun y1 => (graph_unless N y1 2 k0))) else (bif decide (a1 = 1) then (graph_within N a4 0 (w64 (((a0.length : Nat) : Int) - 1)) (fun y3 => (bif (!y3) then (k0 6) else ((at? a0 a4).bind fun x4 => (graph_unless N (decide (x4 = a2)) 25 k0))))) else (bif decide (a1 = 14) then (graph_within N a4 0 15 (fun y6 => (graph_unless N y6 2 k0))) else (bif a7 then (graph_unless N true 3 k0) else (graph_unless N (decide (a4 = 0)) 3 k0)))))
def P125 : AP := ⟨[pL [hI], .agg zb4, .agg zb12], []⟩
def E125 (x : P125.den) (k : KK R) : Option R := graph_valueErr_v6 N x.1.1 x.1.2.1.1 x.1.2.1.2.1 x.1.2.1.2.2.1 x.1.2.1.2.2.2.1 x.1.2.2.1.1 x.1.2.2.1.2.1 x.1.2.2.1.2.2.1 x.1.2.2.1.2.2.2.1.1 x.1.2.2.1.2.2.2.2.1.1 x.1.2.2.1.2.2.2.2.1.2 (fun r0 => k [] [dI r0] [])
def F125 : CfS R := uC (F124 N) 189 P125 (E125 N)
theorem F125_ok : FOK (F125 N : CfS R) (runF T) := uCk (F124_ok N) c189
def graph_same_c1 (N : Nat) {R : Type} (a0 a1 : Int) (k0 : Bool → Int → Option R) : Option R := (k0 (decide (a0 ≠ a1)) a1)
def P126 : AP := ⟨[pI, .ptr 0 0], [(0, .box [pI])]⟩
def E126 (x : P126.den) (k : KK R) : Option R := graph_same_c1 N x.1.1 x.2.1.1 (fun r0 r1 => k [0] [dB r0] [(0, .box [dI r1])])
def F126 : CfS R := uC (F125 N) 243 P126 (E126 N)
theorem F126_ok : FOK (F126 N : CfS R) (runF T) := uCk (F125_ok N) c243
def slices_IndexFunc_Lint_int_same_c1_l0 (N : Nat) {R : Type} (k0 : Int → Int → Option R) (k1 : Int → Option R) : Nat → List Int → Int → Int → Int → Option R
  | 0, _, _, _, _ => none
  | n + 1, b0, b1, b2, b3 => (bif decide (b2 < b1) then ((at? b0 b2).bind fun x1 => (graph_same_c1 N x1 b3 (fun y2 y3 => (bif y2 then (k0 b2 y3) else (slices_IndexFunc_Lint_int_same_c1_l0 N k0 k1 n b0 b1 (w64 (b2 + 1)) y3))))) else (k1 b3))
def P127_l0 : SP := ⟨[(0, pL [hI]), (1, .fn 243 [.ptr 0 0]), (7, pI), (8, pI), (100001, .fn 243 [.ptr 0 0])], [(0, .box [pI])]⟩
def E127_l0 (n : Nat) (x : P127_l0.den) (k : KS R) : Option R := slices_IndexFunc_Lint_int_same_c1_l0 N (fun r0 r1 => k .ret ⟨[(4, dI r0), (100001, .fn 243 [.ptr 0 0])], [(0, .box [dI r1])]⟩) (fun r0 => k (.ex 0) ⟨[(100001, .fn 243 [.ptr 0 0])], [(0, .box [dI r0])]⟩) n x.1.1 x.1.2.2.1 x.1.2.2.2.1 x.2.1.1
theorem O127_l0 : LpG T P127_l0 (E127_l0 N (R := R)) [0, 1, 7, 8] c116_l0 := lpk (F126_ok N) 26
def L127_1 : LpS R := updL noL 26 (lent' P127_l0 (E127_l0 N N))
def slices_IndexFunc_Lint_int_same_c1 (N : Nat) {R : Type} (a0 : List Int) (a1 : Int) (k0 : Int → Int → Option R) : Option R := (slices_IndexFunc_Lint_int_same_c1_l0 N k0 (fun z6 => (k0 (-1) z6)) N a0 ((a0.length : Nat) : Int) 0 a1)
def P127 : AP := ⟨[pL [hI], .fn 243 [.ptr 0 0]], [(0, .box [pI])]⟩
def E127 (x : P127.den) (k : KK R) : Option R := slices_IndexFunc_Lint_int_same_c1 N x.1.1 x.2.1.1 (fun r0 r1 => k [0] [dI r0] [(0, .box [dI r1])])
def F127 : CfS R := uC (F126 N) 116 P127 (E127 N)
theorem F127_ok : FOK (F127 N : CfS R) (runF T) := uCk (F126_ok N) c116 (Lp := (L127_1 N)) (hl := (LOK_of (l := [(26, [0, 1, 7, 8], c116_l0)]) (by kernel_rfl) ⟨(updL_ok (O127_l0 N N)), trivial⟩))
def slices_ContainsFunc_Lint_int_same_c1 (N : Nat) {R : Type} (a0 : List Int) (a1 : Int) (k0 : Bool → Int → Option R) : Option R := (slices_IndexFunc_Lint_int_same_c1 N a0 a1 (fun y1 y2 => (k0 (decide (0 ≤ y1)) y2)))
def P128 : AP := ⟨[pL [hI], .fn 243 [.ptr 0 0]], [(0, .box [pI])]⟩
def E128 (x : P128.den) (k : KK R) : Option R := slices_ContainsFunc_Lint_int_same_c1 N x.1.1 x.2.1.1 (fun r0 r1 => k [0] [dB r0] [(0, .box [dI r1])])
def F128 : CfS R := uC (F127 N) 85 P128 (E128 N)
theorem F128_ok : FOK (F128 N : CfS R) (runF T) := uCk (F127_ok N) c85
def graph_same (N : Nat) {R : Type} (a0 : Int) (a1 : List Int) (a2 : Int) (k0 : Bool → Option R) : Option R := (slices_ContainsFunc_Lint_int_same_c1 N a1 a0 (fun y1 y2 => (k0 (!y1))))
def P129 : AP := ⟨[pI, pL [hI], pI], []⟩
def E129 (x : P129.den) (k : KK R) : Option R := graph_same N x.1.1 x.1.2.1 x.1.2.2.1 (fun r0 => k [] [dB r0] [])
def F129 : CfS R := uC (F128 N) 209 P129 (E129 N)
theorem F129_ok : FOK (F129 N : CfS R) (runF T) := uCk (F128_ok N) c209
def graph_valueErr_v7 (N : Nat) {R : Type} (a0 : List Int) (a1 a2 : Int) (a3 : List Int) (a4 : Int) (a5 : ByteArray) (a6 : Int) (a7 : Bool) (a8 a9 : Nat) (a10 : List S) (k0 : Int → Option R) : Option R := (bif decide (a1 = 0) then (graph_fits N a4 a2 (fun y1 => (graph_unless N y1 2 k0))) else (bif decide (a1 = 1) then (graph_within N a4 0 (w64 (((a0.length : Nat) : Int) - 1)) (fun y3 => (bif (!y3) then (k0 6) else ((at? a0 a4).bind fun x4 => (graph_unless N (decide (x4 = a2)) 25 k0))))) else (bif decide (a1 = 14) then (graph_within N a4 0 15 (fun y6 => (graph_unless N y6 2 k0))) else (bif a7 then (graph_unless N true 3 k0) else (graph_unless N (decide (a4 = 0)) 3 k0)))))
def P130 : AP := ⟨[pL [hI], .agg zb4, .agg zb12], []⟩
def E130 (x : P130.den) (k : KK R) : Option R := graph_valueErr_v7 N x.1.1 x.1.2.1.1 x.1.2.1.2.1 x.1.2.1.2.2.1 x.1.2.1.2.2.2.1 x.1.2.2.1.1 x.1.2.2.1.2.1 x.1.2.2.1.2.2.1 x.1.2.2.1.2.2.2.1.1 x.1.2.2.1.2.2.2.2.1.1 x.1.2.2.1.2.2.2.2.1.2 (fun r0 => k [] [dI r0] [])
def F130 : CfS R := uC (F129 N) 189 P130 (E130 N)
theorem F130_ok : FOK (F130 N : CfS R) (runF T) := uCk (F129_ok N) c189
def graph_anyWidth (N : Nat) {R : Type} (a0 : Int) (a1 : List Int) (a2 : Int) (k0 : Bool → Option R) : Option R := (k0 true)
def P131 : AP := ⟨[pI, pL [hI], pI], []⟩
def E131 (x : P131.den) (k : KK R) : Option R := graph_anyWidth N x.1.1 x.1.2.1 x.1.2.2.1 (fun r0 => k [] [dB r0] [])
def F131 : CfS R := uC (F130 N) 208 P131 (E131 N)
theorem F131_ok : FOK (F131 N : CfS R) (runF T) := uCk (F130_ok N) c208
def H132 : Nat → Option (List Sh) := fun n => if n = 12000 then some [hI] else if n = 44000 then some [hI] else if n = 66000 then some [hI] else none
def graph_CheckNodes_c2_l0 (N : Nat) {R : Type} (k0 : Int → Int → List Int → Int → ByteArray → Int → Bool → Nat → Nat → List S → List Int → List Int → zt2 → Option R) : Nat → List Int → Int → Int → zt2 → Int → Int → List Int → Int → ByteArray → Int → Bool → Nat → Nat → List S → List Int → List Int → Option R
  | 0, _, _, _, _, _, _, _, _, _, _, _, _, _, _, _, _ => none
  | n + 1, b0, b1, b2, b3, b4, b5, b6, b7, b8, b9, b10, b11, b12, b13, b14, b15 => (bif decide (b2 < b1) then ((at? b0 b2).bind fun x1 => ((at? b3 x1).bind fun x2 => (bif roomB (b14.length + 1) 8 then (graph_CheckNodes_c2_l0 N k0 n b0 b1 (w64 (b2 + 1)) b3 b4 b5 b6 b7 b8 b9 b10 b11 b12 b13 (b14 ++ [x2.2.1]) b15) else none))) else (k0 b4 b5 b6 b7 b8 b9 b10 b11 b12 b13 b14 b15 b3))
def P132_l0 : SP := ⟨[(4, .ptr 0 0), (6, .ptr 1 0), (9, .ptr 2 0), (12, .own 3), (56, pL [hI]), (57, pI), (58, pI), (100002, .ptr 4 0), (100003, .ptr 5 0), (100004, .ptr 0 0)], [(0, .box [pL zs1]), (1, .box zb4), (2, .box zb12), (3, .arr [hI]), (4, .box zb0), (5, .box [pL [hI]])]⟩
def E132_l0 (n : Nat) (x : P132_l0.den) (k : KS R) : Option R := graph_CheckNodes_c2_l0 N (fun r0 r1 r2 r3 r4 r5 r6 r7 r8 r9 r10 r11 r12 => k (.ex 0) ⟨[(6, .ptr 0 0), (9, .ptr 1 0), (12, .own 2), (100002, .ptr 3 0), (100003, .ptr 4 0), (100004, .ptr 5 0)], [(0, .box [dI r0, dI r1, dL [hI] r2, dI r3]), (1, .box [dS r4, dI r5, dB r6, .p (.fn r7 []), .p (.fn r8 r9)]), (2, .arr (.t [hI] r10)), (3, .box zd1), (4, .box [dL [hI] r11]), (5, .box [dL zs1 r12])]⟩) n x.1.2.2.2.2.1 x.1.2.2.2.2.2.1 x.1.2.2.2.2.2.2.1 x.2.1.1 x.2.2.1.1 x.2.2.1.2.1 x.2.2.1.2.2.1 x.2.2.1.2.2.2.1 x.2.2.2.1.1 x.2.2.2.1.2.1 x.2.2.2.1.2.2.1 x.2.2.2.1.2.2.2.1.1 x.2.2.2.1.2.2.2.2.1.1 x.2.2.2.1.2.2.2.2.1.2 x.2.2.2.2.1 x.2.2.2.2.2.2.1.1
theorem O132_l0 : LpG T P132_l0 (E132_l0 N (R := R)) [4, 6, 9, 12, 56, 57, 58] c186_l0 := lpk (F131_ok N) 7962 (H := H132)
def L132_1 : LpS R := updL noL 7962 (lent' P132_l0 (E132_l0 N N))
def graph_CheckNodes_c2_j0 (N : Nat) {R : Type} (k0 : Int → List Int → zt2 → Option R) (b0 : Bool) (b1 : List Int) (b2 : zt2) (b3 b4 : Int) (b5 : List Int) (b6 : Int) (b7 : ByteArray) (b8 : Int) (b9 : Bool) (b10 b11 : Nat) (b12 : List S) : Option R := (graph_unless N (decide (((b5.length : Nat) : Int) = b8)) 10 (fun y1 => (graph_unless N (!b0) 9 (fun y2 => (graph_valueErr_v7 N b1 b3 b4 b5 b6 b7 b8 b9 b10 b11 b12 (fun y3 => (graph_first N [y1, y2, y3] (fun y4 => (bif decide (y4 ≠ 0) then (k0 y4 b1 b2) else (graph_CheckNodes_c2_l0 N (fun z5 z6 z7 z8 z9 z10 z11 z12 z13 z14 z15 z16 z17 => (bif decide (z12 = 208) then (graph_anyWidth N z6 z15 z8 (fun y18 => (graph_unless N y18 25 (fun y19 => (k0 y19 z16 z17))))) else (bif decide (z12 = 209) then (graph_same N z6 z15 z8 (fun y20 => (graph_unless N y20 25 (fun y21 => (k0 y21 z16 z17))))) else (bif decide (z12 = 224) then (graph_operations_c12 N z6 z15 z8 (fun y22 => (graph_unless N y22 25 (fun y23 => (k0 y23 z16 z17))))) else (bif decide (z12 = 226) then (graph_operations_c14 N z6 z15 z8 (fun y24 => (graph_unless N y24 25 (fun y25 => (k0 y25 z16 z17))))) else (bif decide (z12 = 228) then (graph_operations_c16 N z6 z15 z8 (fun y26 => (graph_unless N y26 25 (fun y27 => (k0 y27 z16 z17))))) else (bif decide (z12 = 230) then (graph_extended N z6 z15 z8 (fun y28 => (graph_unless N y28 25 (fun y29 => (k0 y29 z16 z17))))) else (bif decide (z12 = 233) then (graph_shifted N z6 z15 z8 (fun y30 => (graph_unless N y30 25 (fun y31 => (k0 y31 z16 z17))))) else (bif decide (z12 = 245) then (graph_compared N z6 z15 z8 (fun y32 => (graph_unless N y32 25 (fun y33 => (k0 y33 z16 z17))))) else none))))))))) N b5 ((b5.length : Nat) : Int) 0 b2 b3 b4 b5 b6 b7 b8 b9 b10 b11 b12 [] b1))))))))))
def P132_j0 : SP := ⟨[(3, .ptr 0 0), (4, .ptr 1 0), (6, .ptr 2 0), (9, .ptr 3 0), (10, pB), (100002, .ptr 4 0), (100003, .ptr 0 0), (100004, .ptr 1 0)], [(0, .box [pL [hI]]), (1, .box [pL zs1]), (2, .box zb4), (3, .box zb12), (4, .box zb0)]⟩
def E132_j0 (n : Nat) (x : P132_j0.den) (k : KS R) : Option R := match n with
  | 0 => none
  | _ + 1 => graph_CheckNodes_c2_j0 N (fun r0 r1 r2 => k .ret ⟨[(7, dI r0), (100002, .ptr 0 0), (100003, .ptr 1 0), (100004, .ptr 2 0)], [(0, .box zd1), (1, .box [dL [hI] r1]), (2, .box [dL zs1 r2])]⟩) x.1.2.2.2.2.1 x.2.1.1 x.2.2.1.1 x.2.2.2.1.1 x.2.2.2.1.2.1 x.2.2.2.1.2.2.1 x.2.2.2.1.2.2.2.1 x.2.2.2.2.1.1 x.2.2.2.2.1.2.1 x.2.2.2.2.1.2.2.1 x.2.2.2.2.1.2.2.2.1.1 x.2.2.2.2.1.2.2.2.2.1.1 x.2.2.2.2.1.2.2.2.2.1.2
theorem O132_j0 : LpG T P132_j0 (E132_j0 N (R := R)) [3, 4, 6, 9, 10] c186_j0 := lpk (F131_ok N) 62 (H := H132) (Lp := (L132_1 N)) (hl := (LOK_of (l := [(7962, [4, 6, 9, 12, 56, 57, 58], c186_l0)]) (by kernel_rfl) ⟨(updL_ok (O132_l0 N N)), trivial⟩))
def L132_2 : LpS R := updL (L132_1 N) 62 (lent' P132_j0 (E132_j0 N 1))
def graph_CheckNodes_c2 (N : Nat) {R : Type} (a0 a1 a2 : Int) (a3 : List Int) (a4 : Int) (a5 : List Int) (a6 : zt2) (k0 : Int → List Int → zt2 → Option R) : Option R := (graph_within N a1 0 18 (fun y1 => (graph_unless N y1 15 (fun y2 => (graph_isWidth N a2 (fun y3 => (graph_unless N y3 2 (fun y4 => (graph_first N [y2, y4] (fun y5 => (bif decide (y5 ≠ 0) then (k0 y5 a5 a6) else (bif decide (a1 = 18) then (slices_ContainsFunc_Lint_int_CheckNodes_c2_c1 N a3 a0 (fun y6 y7 => (graph_CheckNodes_c2_j0 N k0 y6 a5 a6 a1 a2 a3 a4 (ByteArray.mk #[115, 104, 114]) 2 false 233 235 ([] : List S)))) else (bif decide (a1 = 17) then (slices_ContainsFunc_Lint_int_CheckNodes_c2_c1 N a3 a0 (fun y37 y38 => (graph_CheckNodes_c2_j0 N k0 y37 a5 a6 a1 a2 a3 a4 (ByteArray.mk #[115, 104, 108]) 2 false 233 234 ([] : List S)))) else (bif decide (a1 = 16) then (slices_ContainsFunc_Lint_int_CheckNodes_c2_c1 N a3 a0 (fun y42 y43 => (graph_CheckNodes_c2_j0 N k0 y42 a5 a6 a1 a2 a3 a4 (ByteArray.mk #[115, 101, 120, 116]) 1 false 230 232 ([] : List S)))) else (bif decide (a1 = 15) then (slices_ContainsFunc_Lint_int_CheckNodes_c2_c1 N a3 a0 (fun y47 y48 => (graph_CheckNodes_c2_j0 N k0 y47 a5 a6 a1 a2 a3 a4 (ByteArray.mk #[122, 101, 120, 116]) 1 false 230 231 ([] : List S)))) else (bif decide (a1 = 14) then (slices_ContainsFunc_Lint_int_CheckNodes_c2_c1 N a3 a0 (fun y52 y53 => (graph_CheckNodes_c2_j0 N k0 y52 a5 a6 a1 a2 a3 a4 (ByteArray.mk #[115, 108, 105, 99, 101]) 1 true 228 229 ([] : List S)))) else (bif decide (a1 = 13) then (slices_ContainsFunc_Lint_int_CheckNodes_c2_c1 N a3 a0 (fun y57 y58 => (graph_CheckNodes_c2_j0 N k0 y57 a5 a6 a1 a2 a3 a4 (ByteArray.mk #[106, 111, 105, 110]) 2 false 226 227 ([] : List S)))) else (bif decide (a1 = 12) then (slices_ContainsFunc_Lint_int_CheckNodes_c2_c1 N a3 a0 (fun y62 y63 => (graph_CheckNodes_c2_j0 N k0 y62 a5 a6 a1 a2 a3 a4 (ByteArray.mk #[109, 117, 120]) 3 false 224 225 ([] : List S)))) else (bif decide (a1 = 11) then (slices_ContainsFunc_Lint_int_CheckNodes_c2_c1 N a3 a0 (fun y67 y68 => (graph_CheckNodes_c2_j0 N k0 y67 a5 a6 a1 a2 a3 a4 (ByteArray.mk #[115, 108, 116]) 2 false 245 246 ([.cp [.fn 222 []]] : List S)))) else (bif decide (a1 = 10) then (slices_ContainsFunc_Lint_int_CheckNodes_c2_c1 N a3 a0 (fun y72 y73 => (graph_CheckNodes_c2_j0 N k0 y72 a5 a6 a1 a2 a3 a4 (ByteArray.mk #[108, 116]) 2 false 245 246 ([.cp [.fn 221 []]] : List S)))) else (bif decide (a1 = 9) then (slices_ContainsFunc_Lint_int_CheckNodes_c2_c1 N a3 a0 (fun y77 y78 => (graph_CheckNodes_c2_j0 N k0 y77 a5 a6 a1 a2 a3 a4 (ByteArray.mk #[101, 113]) 2 false 245 246 ([.cp [.fn 220 []]] : List S)))) else (bif decide (a1 = 8) then (slices_ContainsFunc_Lint_int_CheckNodes_c2_c1 N a3 a0 (fun y82 y83 => (graph_CheckNodes_c2_j0 N k0 y82 a5 a6 a1 a2 a3 a4 (ByteArray.mk #[109, 117, 108]) 2 false 209 244 ([.cp [.fn 218 []]] : List S)))) else (bif decide (a1 = 7) then (slices_ContainsFunc_Lint_int_CheckNodes_c2_c1 N a3 a0 (fun y87 y88 => (graph_CheckNodes_c2_j0 N k0 y87 a5 a6 a1 a2 a3 a4 (ByteArray.mk #[115, 117, 98]) 2 false 209 244 ([.cp [.fn 217 []]] : List S)))) else (bif decide (a1 = 6) then (slices_ContainsFunc_Lint_int_CheckNodes_c2_c1 N a3 a0 (fun y92 y93 => (graph_CheckNodes_c2_j0 N k0 y92 a5 a6 a1 a2 a3 a4 (ByteArray.mk #[97, 100, 100]) 2 false 209 244 ([.cp [.fn 216 []]] : List S)))) else (bif decide (a1 = 5) then (slices_ContainsFunc_Lint_int_CheckNodes_c2_c1 N a3 a0 (fun y97 y98 => (graph_CheckNodes_c2_j0 N k0 y97 a5 a6 a1 a2 a3 a4 (ByteArray.mk #[120, 111, 114]) 2 false 209 244 ([.cp [.fn 215 []]] : List S)))) else (bif decide (a1 = 4) then (slices_ContainsFunc_Lint_int_CheckNodes_c2_c1 N a3 a0 (fun y102 y103 => (graph_CheckNodes_c2_j0 N k0 y102 a5 a6 a1 a2 a3 a4 (ByteArray.mk #[111, 114]) 2 false 209 244 ([.cp [.fn 214 []]] : List S)))) else (bif decide (a1 = 3) then (slices_ContainsFunc_Lint_int_CheckNodes_c2_c1 N a3 a0 (fun y107 y108 => (graph_CheckNodes_c2_j0 N k0 y107 a5 a6 a1 a2 a3 a4 (ByteArray.mk #[97, 110, 100]) 2 false 209 244 ([.cp [.fn 213 []]] : List S)))) else (bif decide (a1 = 2) then (slices_ContainsFunc_Lint_int_CheckNodes_c2_c1 N a3 a0 (fun y112 y113 => (graph_CheckNodes_c2_j0 N k0 y112 a5 a6 a1 a2 a3 a4 (ByteArray.mk #[110, 111, 116]) 1 false 209 210 ([] : List S)))) else (bif decide (a1 = 1) then (slices_ContainsFunc_Lint_int_CheckNodes_c2_c1 N a3 a0 (fun y117 y118 => (graph_CheckNodes_c2_j0 N k0 y117 a5 a6 a1 a2 a3 a4 (ByteArray.mk #[108, 101, 97, 102]) 0 true 208 207 ([] : List S)))) else (bif decide (a1 = 0) then (slices_ContainsFunc_Lint_int_CheckNodes_c2_c1 N a3 a0 (fun y122 y123 => (graph_CheckNodes_c2_j0 N k0 y122 a5 a6 a1 a2 a3 a4 (ByteArray.mk #[99, 111, 110, 115, 116]) 0 true 208 207 ([] : List S)))) else none))))))))))))))))))))))))))))))
def P132 : AP := ⟨[pI, .agg zb4, .ptr 0 0, .ptr 1 0, .ptr 2 0], [(0, .box zb0), (1, .box [pL [hI]]), (2, .box [pL zs1])]⟩
def E132 (x : P132.den) (k : KK R) : Option R := graph_CheckNodes_c2 N x.1.1 x.1.2.1.1 x.1.2.1.2.1 x.1.2.1.2.2.1 x.1.2.1.2.2.2.1 x.2.2.1.1 x.2.2.2.1.1 (fun r0 r1 r2 => k [0, 1, 2] [dI r0] [(0, .box zd1), (1, .box [dL [hI] r1]), (2, .box [dL zs1 r2])])
def F132 : CfS R := uC (F131 N) 186 P132 (E132 N)
theorem F132_ok : FOK (F132 N : CfS R) (runF T) := uCk (F131_ok N) c186 (H := H132) (Lp := (L132_2 N)) (hl := (LOK_of (l := [(62, [3, 4, 6, 9, 10], c186_j0)]) (by kernel_rfl) ⟨(updL_ok (O132_j0 N 1)), trivial⟩))
def graph_each_Node_l0 (N : Nat) {R : Type} (k0 : Int → Int → List Int → zt2 → Option R) (k1 : List Int → zt2 → Option R) : Nat → zt2 → Int → Int → List Int → zt2 → Option R
  | 0, _, _, _, _, _ => none
  | n + 1, b0, b1, b2, b3, b4 => (bif decide (b2 < b1) then ((at? b0 b2).bind fun x1 => (graph_CheckNodes_c2 N b2 x1.1 x1.2.1 x1.2.2.1 x1.2.2.2 b3 b4 (fun y2 y3 y4 => (bif decide (y2 ≠ 0) then (k0 b2 y2 y3 y4) else (graph_each_Node_l0 N k0 k1 n b0 b1 (w64 (b2 + 1)) y3 y4))))) else (k1 b3 b4))
def P133_l0 : SP := ⟨[(1, .fn 186 [.ptr 0 0, .ptr 1 0, .ptr 2 0]), (9, pL zs1), (10, pI), (11, pI), (100001, .fn 186 [.ptr 0 0, .ptr 1 0, .ptr 2 0])], [(0, .box zb0), (1, .box [pL [hI]]), (2, .box [pL zs1])]⟩
def E133_l0 (n : Nat) (x : P133_l0.den) (k : KS R) : Option R := graph_each_Node_l0 N (fun r0 r1 r2 r3 => k .ret ⟨[(4, dI r0), (5, dI r1), (100001, .fn 186 [.ptr 0 0, .ptr 1 0, .ptr 2 0])], [(0, .box zd1), (1, .box [dL [hI] r2]), (2, .box [dL zs1 r3])]⟩) (fun r0 r1 => k (.ex 0) ⟨[(100001, .fn 186 [.ptr 0 0, .ptr 1 0, .ptr 2 0])], [(0, .box zd1), (1, .box [dL [hI] r0]), (2, .box [dL zs1 r1])]⟩) n x.1.2.1 x.1.2.2.1 x.1.2.2.2.1 x.2.2.1.1 x.2.2.2.1.1
theorem O133_l0 : LpG T P133_l0 (E133_l0 N (R := R)) [1, 9, 10, 11] c185_l0 := lpk (F132_ok N) 26
def L133_1 : LpS R := updL noL 26 (lent' P133_l0 (E133_l0 N N))
def graph_each_Node (N : Nat) {R : Type} (a0 : zt2) (a1 : List Int) (a2 : zt2) (k0 : Int → Int → List Int → zt2 → Option R) : Option R := (graph_each_Node_l0 N k0 (fun z9 z10 => (k0 0 0 z9 z10)) N a0 ((a0.length : Nat) : Int) 0 a1 a2)
def P133 : AP := ⟨[pL zs1, .fn 186 [.ptr 0 0, .ptr 1 0, .ptr 2 0]], [(0, .box zb0), (1, .box [pL [hI]]), (2, .box [pL zs1])]⟩
def E133 (x : P133.den) (k : KK R) : Option R := graph_each_Node N x.1.1 x.2.2.1.1 x.2.2.2.1.1 (fun r0 r1 r2 r3 => k [0, 1, 2] [dI r0, dI r1] [(0, .box zd1), (1, .box [dL [hI] r2]), (2, .box [dL zs1 r3])])
def F133 : CfS R := uC (F132 N) 185 P133 (E133 N)
theorem F133_ok : FOK (F133 N : CfS R) (runF T) := uCk (F132_ok N) c185 (Lp := (L133_1 N)) (hl := (LOK_of (l := [(26, [1, 9, 10, 11], c185_l0)]) (by kernel_rfl) ⟨(updL_ok (O133_l0 N N)), trivial⟩))
def graph_CheckNodes (N : Nat) {R : Type} (a0 : List Int) (a1 : zt2) (k0 : Int → Int → Option R) : Option R := (bif decide (40 < ((a0.length : Nat) : Int)) then (k0 0 8) else (graph_each_int_CheckNodes_c1 N a0 (fun y1 y2 => (bif decide (y2 ≠ 0) then (k0 y1 y2) else (bif decide (400 < ((a1.length : Nat) : Int)) then (k0 0 8) else (graph_operations N (graph_each_Node N a1 a0 a1 (fun y3 y4 y5 y6 => (k0 y3 y4)))))))))
def P134 : AP := ⟨[pL [hI], pL zs1], []⟩
def E134 (x : P134.den) (k : KK R) : Option R := graph_CheckNodes N x.1.1 x.1.2.1 (fun r0 r1 => k [] [dI r0, dI r1] [])
def F134 : CfS R := uC (F133 N) 129 P134 (E134 N)
theorem F134_ok : FOK (F134 N : CfS R) (runF T) := uCk (F133_ok N) c129
def design_CheckDesign_c5 (N : Nat) {R : Type} (a0 : ByteArray) (a1 : zt6) (a2 : zt1) (a3 : zt2) (a4 : zt0) (a5 : zt6) (a6 : zt5) (k0 : Int → Int → ByteArray → zt6 → zt1 → zt2 → zt0 → zt6 → zt5 → Option R) : Option R := (design_leaves N a0 a1 a2 a3 a4 a5 a6 (fun y1 => (graph_CheckNodes N y1 a3 (fun y2 y3 => (k0 y2 y3 a0 a1 a2 a3 a4 a5 a6)))))
def P135 : AP := ⟨[.ptr 0 0], [(0, .box zb2)]⟩
def E135 (x : P135.den) (k : KK R) : Option R := design_CheckDesign_c5 N x.2.1.1 x.2.1.2.1 x.2.1.2.2.1 x.2.1.2.2.2.1 x.2.1.2.2.2.2.1 x.2.1.2.2.2.2.2.1 x.2.1.2.2.2.2.2.2.1 (fun r0 r1 r2 r3 r4 r5 r6 r7 r8 => k [0] [dI r0, dI r1] [(0, .box (zd3 r2 r3 r4 r5 r6 r7 r8))])
def F135 : CfS R := uC (F134 N) 128 P135 (E135 N)
theorem F135_ok : FOK (F135 N : CfS R) (runF T) := uCk (F134_ok N) c128
def design_isWidth (N : Nat) {R : Type} (a0 : Int) (k0 : Bool → Option R) : Option R := (design_within N a0 1 16 k0)
def P136 : AP := ⟨[pI], []⟩
def E136 (x : P136.den) (k : KK R) : Option R := design_isWidth N x.1.1 (fun r0 => k [] [dB r0] [])
def F136 : CfS R := uC (F135 N) 123 P136 (E136 N)
theorem F136_ok : FOK (F136 N : CfS R) (runF T) := uCk (F135_ok N) c123
def design_fits (N : Nat) {R : Type} (a0 a1 : Int) (k0 : Bool → Option R) : Option R := (bif decide (0 ≤ a1) then (bif decide (a1 < 0) then none else (design_within N a0 0 (w64 ((shl' .i64 1 a1) - 1)) k0)) else (k0 false))
def P137 : AP := ⟨[pI, pI], []⟩
def E137 (x : P137.den) (k : KK R) : Option R := design_fits N x.1.1 x.1.2.1 (fun r0 => k [] [dB r0] [])
def F137 : CfS R := uC (F136 N) 96 P137 (E137 N)
theorem F137_ok : FOK (F137 N : CfS R) (runF T) := uCk (F136_ok N) c96
def H138 : Nat → Option (List Sh) := fun n => if n = 15000 then some [hI] else none
def design_CheckDesign_c4_c1 (N : Nat) {R : Type} (a0 : Int) (a1 : ByteArray) (a2 a3 a4 a5 : Int) (a6 : Nat) (a7 : zt3) (k0 : Int → Nat → zt3 → Option R) : Option R := (design_names_err N a1 a6 a7 (fun y1 y2 y3 => (design_within N a2 0 1 (fun y4 => (design_unless N y4 15 (fun y5 => (design_isWidth N a3 (fun y6 => (design_unless N y6 2 (fun y7 => (design_first N [y1, y5, y7] (fun y8 => (bif decide (y8 ≠ 0) then (k0 y8 y2 y3) else (design_fits N a4 a3 (fun y9 => (bif y9 then (design_within N a5 0 3 (fun y10 => (design_unless N y10 2 (fun y11 => (k0 y11 y2 y3))))) else (design_unless N false 2 (fun y12 => (k0 y12 y2 y3)))))))))))))))))))
def P138 : AP := ⟨[pI, .agg [pS, pI, pI, pI, pI], .ptr 0 0], [(0, .box [.mp 1]), (1, .mp .s .b)]⟩
def E138 (x : P138.den) (k : KK R) : Option R := design_CheckDesign_c4_c1 N x.1.1 x.1.2.1.1 x.1.2.1.2.1 x.1.2.1.2.2.1 x.1.2.1.2.2.2.1 x.1.2.1.2.2.2.2.1 x.2.2.1.1 x.2.2.1.2 (fun r0 r1 r2 => k [0, 1] [dI r0] [(0, .box [.mp 1]), (1, .mp .s .b r1 r2)])
def F138 : CfS R := uC (F137 N) 127 P138 (E138 N)
theorem F138_ok : FOK (F138 N : CfS R) (runF T) := uCk (F137_ok N) c127 (H := H138)
def design_each_Element_CheckDesign_c4_c1_l0 (N : Nat) {R : Type} (k0 : Int → Int → Nat → zt3 → Option R) (k1 : Nat → zt3 → Option R) : Nat → zt1 → Int → Int → Nat → zt3 → Option R
  | 0, _, _, _, _, _ => none
  | n + 1, b0, b1, b2, b3, b4 => (bif decide (b2 < b1) then ((at? b0 b2).bind fun x1 => (design_CheckDesign_c4_c1 N b2 x1.1 x1.2.1 x1.2.2.1 x1.2.2.2.1 x1.2.2.2.2 b3 b4 (fun y2 y3 y4 => (bif decide (y2 ≠ 0) then (k0 b2 y2 y3 y4) else (design_each_Element_CheckDesign_c4_c1_l0 N k0 k1 n b0 b1 (w64 (b2 + 1)) y3 y4))))) else (k1 b3 b4))
def P139_l0 : SP := ⟨[(1, .fn 127 [.ptr 0 0]), (9, pL zs2), (10, pI), (11, pI), (100001, .fn 127 [.ptr 0 0]), (100002, .mp 1)], [(0, .box [.mp 1]), (1, .mp .s .b)]⟩
def E139_l0 (n : Nat) (x : P139_l0.den) (k : KS R) : Option R := design_each_Element_CheckDesign_c4_c1_l0 N (fun r0 r1 r2 r3 => k .ret ⟨[(4, dI r0), (5, dI r1), (100001, .fn 127 [.ptr 0 0]), (100002, .mp 1)], [(0, .box [.mp 1]), (1, .mp .s .b r2 r3)]⟩) (fun r0 r1 => k (.ex 0) ⟨[(100001, .fn 127 [.ptr 0 0]), (100002, .mp 1)], [(0, .box [.mp 1]), (1, .mp .s .b r0 r1)]⟩) n x.1.2.1 x.1.2.2.1 x.1.2.2.2.1 x.2.2.1.1 x.2.2.1.2
theorem O139_l0 : LpG T P139_l0 (E139_l0 N (R := R)) [1, 9, 10, 11] c126_l0 := lpk (F138_ok N) 26
def L139_1 : LpS R := updL noL 26 (lent' P139_l0 (E139_l0 N N))
def design_each_Element_CheckDesign_c4_c1 (N : Nat) {R : Type} (a0 : zt1) (a1 : Nat) (a2 : zt3) (k0 : Int → Int → Nat → zt3 → Option R) : Option R := (design_each_Element_CheckDesign_c4_c1_l0 N k0 (fun z9 z10 => (k0 0 0 z9 z10)) N a0 ((a0.length : Nat) : Int) 0 a1 a2)
def P139 : AP := ⟨[pL zs2, .fn 127 [.ptr 0 0]], [(0, .box [.mp 1]), (1, .mp .s .b)]⟩
def E139 (x : P139.den) (k : KK R) : Option R := design_each_Element_CheckDesign_c4_c1 N x.1.1 x.2.2.1.1 x.2.2.1.2 (fun r0 r1 r2 r3 => k [0, 1] [dI r0, dI r1] [(0, .box [.mp 1]), (1, .mp .s .b r2 r3)])
def F139 : CfS R := uC (F138 N) 126 P139 (E139 N)
theorem F139_ok : FOK (F139 N : CfS R) (runF T) := uCk (F138_ok N) c126 (Lp := (L139_1 N)) (hl := (LOK_of (l := [(26, [1, 9, 10, 11], c126_l0)]) (by kernel_rfl) ⟨(updL_ok (O139_l0 N N)), trivial⟩))
def design_CheckDesign_c4 (N : Nat) {R : Type} (a0 : ByteArray) (a1 : zt6) (a2 : zt1) (a3 : zt2) (a4 : zt0) (a5 : zt6) (a6 : zt5) (a7 : Nat) (a8 : zt3) (k0 : Int → Int → ByteArray → zt6 → zt1 → zt2 → zt0 → zt6 → zt5 → Nat → zt3 → Option R) : Option R := (design_each_Element_CheckDesign_c4_c1 N a2 a7 a8 (fun y1 y2 y3 y4 => (k0 y1 y2 a0 a1 a2 a3 a4 a5 a6 y3 y4)))
def P140 : AP := ⟨[.ptr 0 0, .ptr 1 0], [(0, .box zb2), (1, .box [.mp 2]), (2, .mp .s .b)]⟩
def E140 (x : P140.den) (k : KK R) : Option R := design_CheckDesign_c4 N x.2.1.1 x.2.1.2.1 x.2.1.2.2.1 x.2.1.2.2.2.1 x.2.1.2.2.2.2.1 x.2.1.2.2.2.2.2.1 x.2.1.2.2.2.2.2.2.1 x.2.2.2.1.1 x.2.2.2.1.2 (fun r0 r1 r2 r3 r4 r5 r6 r7 r8 r9 r10 => k [0, 1, 2] [dI r0, dI r1] [(0, .box (zd3 r2 r3 r4 r5 r6 r7 r8)), (1, .box [.mp 2]), (2, .mp .s .b r9 r10)])
def F140 : CfS R := uC (F139 N) 125 P140 (E140 N)
theorem F140_ok : FOK (F140 N : CfS R) (runF T) := uCk (F139_ok N) c125
def design_CheckDesign_c3 (N : Nat) {R : Type} (a0 : ByteArray) (a1 : zt6) (a2 : zt1) (a3 : zt2) (a4 : zt0) (a5 : zt6) (a6 : zt5) (k0 : Int → Int → ByteArray → zt6 → zt1 → zt2 → zt0 → zt6 → zt5 → Option R) : Option R := (design_unless N (decide ((w64 (((a1.length : Nat) : Int) + ((a2.length : Nat) : Int))) ≤ 40)) 8 (fun y1 => (k0 0 y1 a0 a1 a2 a3 a4 a5 a6)))
def P141 : AP := ⟨[.ptr 0 0], [(0, .box zb2)]⟩
def E141 (x : P141.den) (k : KK R) : Option R := design_CheckDesign_c3 N x.2.1.1 x.2.1.2.1 x.2.1.2.2.1 x.2.1.2.2.2.1 x.2.1.2.2.2.2.1 x.2.1.2.2.2.2.2.1 x.2.1.2.2.2.2.2.2.1 (fun r0 r1 r2 r3 r4 r5 r6 r7 r8 => k [0] [dI r0, dI r1] [(0, .box (zd3 r2 r3 r4 r5 r6 r7 r8))])
def F141 : CfS R := uC (F140 N) 124 P141 (E141 N)
theorem F141_ok : FOK (F141 N : CfS R) (runF T) := uCk (F140_ok N) c124
def H142 : Nat → Option (List Sh) := fun n => if n = 15000 then some [hI] else none
def design_CheckDesign_c2_c1 (N : Nat) {R : Type} (a0 : Int) (a1 : ByteArray) (a2 : Int) (a3 : Nat) (a4 : zt3) (a5 : Nat) (a6 : zt3) (k0 : Int → Nat → zt3 → Nat → zt3 → Option R) : Option R := (design_names_err N a1 a3 a4 (fun y1 y2 y3 => (design_names_err N a1 a5 a6 (fun y4 y5 y6 => (design_isWidth N a2 (fun y7 => (design_unless N y7 2 (fun y8 => (design_first N [y1, y4, y8] (fun y9 => (k0 y9 y2 y3 y5 y6)))))))))))
def P142 : AP := ⟨[pI, .agg [pS, pI], .ptr 0 0, .ptr 2 0], [(0, .box [.mp 1]), (1, .mp .s .b), (2, .box [.mp 3]), (3, .mp .s .b)]⟩
def E142 (x : P142.den) (k : KK R) : Option R := design_CheckDesign_c2_c1 N x.1.1 x.1.2.1.1 x.1.2.1.2.1 x.2.2.1.1 x.2.2.1.2 x.2.2.2.2.1.1 x.2.2.2.2.1.2 (fun r0 r1 r2 r3 r4 => k [0, 2, 1, 3] [dI r0] [(0, .box [.mp 1]), (1, .mp .s .b r1 r2), (2, .box [.mp 3]), (3, .mp .s .b r3 r4)])
def F142 : CfS R := uC (F141 N) 121 P142 (E142 N)
theorem F142_ok : FOK (F142 N : CfS R) (runF T) := uCk (F141_ok N) c121 (H := H142)
def design_each_Port_CheckDesign_c2_c1_l0 (N : Nat) {R : Type} (k0 : Int → Int → Nat → zt3 → Nat → zt3 → Option R) (k1 : Nat → zt3 → Nat → zt3 → Option R) : Nat → zt6 → Int → Int → Nat → zt3 → Nat → zt3 → Option R
  | 0, _, _, _, _, _, _, _ => none
  | n + 1, b0, b1, b2, b3, b4, b5, b6 => (bif decide (b2 < b1) then ((at? b0 b2).bind fun x1 => (design_CheckDesign_c2_c1 N b2 x1.1 x1.2 b3 b4 b5 b6 (fun y2 y3 y4 y5 y6 => (bif decide (y2 ≠ 0) then (k0 b2 y2 y3 y4 y5 y6) else (design_each_Port_CheckDesign_c2_c1_l0 N k0 k1 n b0 b1 (w64 (b2 + 1)) y3 y4 y5 y6))))) else (k1 b3 b4 b5 b6))
def P143_l0 : SP := ⟨[(1, .fn 121 [.ptr 0 0, .ptr 2 0]), (9, pL [.s, hI]), (10, pI), (11, pI), (100001, .fn 121 [.ptr 0 0, .ptr 2 0]), (100002, .mp 1), (100003, .mp 3)], [(0, .box [.mp 1]), (1, .mp .s .b), (2, .box [.mp 3]), (3, .mp .s .b)]⟩
def E143_l0 (n : Nat) (x : P143_l0.den) (k : KS R) : Option R := design_each_Port_CheckDesign_c2_c1_l0 N (fun r0 r1 r2 r3 r4 r5 => k .ret ⟨[(4, dI r0), (5, dI r1), (100001, .fn 121 [.ptr 0 0, .ptr 2 0]), (100002, .mp 1), (100003, .mp 3)], [(0, .box [.mp 1]), (1, .mp .s .b r2 r3), (2, .box [.mp 3]), (3, .mp .s .b r4 r5)]⟩) (fun r0 r1 r2 r3 => k (.ex 0) ⟨[(100001, .fn 121 [.ptr 0 0, .ptr 2 0]), (100002, .mp 1), (100003, .mp 3)], [(0, .box [.mp 1]), (1, .mp .s .b r0 r1), (2, .box [.mp 3]), (3, .mp .s .b r2 r3)]⟩) n x.1.2.1 x.1.2.2.1 x.1.2.2.2.1 x.2.2.1.1 x.2.2.1.2 x.2.2.2.2.1.1 x.2.2.2.2.1.2
theorem O143_l0 : LpG T P143_l0 (E143_l0 N (R := R)) [1, 9, 10, 11] c120_l0 := lpk (F142_ok N) 26
def L143_1 : LpS R := updL noL 26 (lent' P143_l0 (E143_l0 N N))
def design_each_Port_CheckDesign_c2_c1 (N : Nat) {R : Type} (a0 : zt6) (a1 : Nat) (a2 : zt3) (a3 : Nat) (a4 : zt3) (k0 : Int → Int → Nat → zt3 → Nat → zt3 → Option R) : Option R := (design_each_Port_CheckDesign_c2_c1_l0 N k0 (fun z13 z14 z15 z16 => (k0 0 0 z13 z14 z15 z16)) N a0 ((a0.length : Nat) : Int) 0 a1 a2 a3 a4)
def P143 : AP := ⟨[pL [.s, hI], .fn 121 [.ptr 0 0, .ptr 2 0]], [(0, .box [.mp 1]), (1, .mp .s .b), (2, .box [.mp 3]), (3, .mp .s .b)]⟩
def E143 (x : P143.den) (k : KK R) : Option R := design_each_Port_CheckDesign_c2_c1 N x.1.1 x.2.2.1.1 x.2.2.1.2 x.2.2.2.2.1.1 x.2.2.2.2.1.2 (fun r0 r1 r2 r3 r4 r5 => k [0, 2, 1, 3] [dI r0, dI r1] [(0, .box [.mp 1]), (1, .mp .s .b r2 r3), (2, .box [.mp 3]), (3, .mp .s .b r4 r5)])
def F143 : CfS R := uC (F142 N) 120 P143 (E143 N)
theorem F143_ok : FOK (F143 N : CfS R) (runF T) := uCk (F142_ok N) c120 (Lp := (L143_1 N)) (hl := (LOK_of (l := [(26, [1, 9, 10, 11], c120_l0)]) (by kernel_rfl) ⟨(updL_ok (O143_l0 N N)), trivial⟩))
def design_CheckDesign_c2 (N : Nat) {R : Type} (a0 : ByteArray) (a1 : zt6) (a2 : zt1) (a3 : zt2) (a4 : zt0) (a5 : zt6) (a6 : zt5) (a7 : Nat) (a8 : zt3) (a9 : Nat) (a10 : zt3) (k0 : Int → Int → ByteArray → zt6 → zt1 → zt2 → zt0 → zt6 → zt5 → Nat → zt3 → Nat → zt3 → Option R) : Option R := (design_each_Port_CheckDesign_c2_c1 N a1 a7 a8 a9 a10 (fun y1 y2 y3 y4 y5 y6 => (k0 y1 y2 a0 a1 a2 a3 a4 a5 a6 y3 y4 y5 y6)))
def P144 : AP := ⟨[.ptr 0 0, .ptr 1 0, .ptr 3 0], [(0, .box zb2), (1, .box [.mp 2]), (2, .mp .s .b), (3, .box [.mp 4]), (4, .mp .s .b)]⟩
def E144 (x : P144.den) (k : KK R) : Option R := design_CheckDesign_c2 N x.2.1.1 x.2.1.2.1 x.2.1.2.2.1 x.2.1.2.2.2.1 x.2.1.2.2.2.2.1 x.2.1.2.2.2.2.2.1 x.2.1.2.2.2.2.2.2.1 x.2.2.2.1.1 x.2.2.2.1.2 x.2.2.2.2.2.1.1 x.2.2.2.2.2.1.2 (fun r0 r1 r2 r3 r4 r5 r6 r7 r8 r9 r10 r11 r12 => k [0, 1, 3, 2, 4] [dI r0, dI r1] [(0, .box (zd3 r2 r3 r4 r5 r6 r7 r8)), (1, .box [.mp 2]), (2, .mp .s .b r9 r10), (3, .box [.mp 4]), (4, .mp .s .b r11 r12)])
def F144 : CfS R := uC (F143 N) 119 P144 (E144 N)
theorem F144_ok : FOK (F144 N : CfS R) (runF T) := uCk (F143_ok N) c119
def H145 : Nat → Option (List Sh) := fun n => if n = 12000 then some [hI] else none
def design_CheckDesign_c1 (N : Nat) {R : Type} (a0 : ByteArray) (a1 : zt6) (a2 : zt1) (a3 : zt2) (a4 : zt0) (a5 : zt6) (a6 : zt5) (k0 : Int → Int → ByteArray → zt6 → zt1 → zt2 → zt0 → zt6 → zt5 → Option R) : Option R := (design_isName N a0 (fun y1 => (design_unless N y1 4 (fun y2 => (design_unless N (decide (((a1.length : Nat) : Int) ≤ 12)) 8 (fun y3 => (design_first N [y2, y3] (fun y4 => (k0 0 y4 a0 a1 a2 a3 a4 a5 a6)))))))))
def P145 : AP := ⟨[.ptr 0 0], [(0, .box zb2)]⟩
def E145 (x : P145.den) (k : KK R) : Option R := design_CheckDesign_c1 N x.2.1.1 x.2.1.2.1 x.2.1.2.2.1 x.2.1.2.2.2.1 x.2.1.2.2.2.2.1 x.2.1.2.2.2.2.2.1 x.2.1.2.2.2.2.2.2.1 (fun r0 r1 r2 r3 r4 r5 r6 r7 r8 => k [0] [dI r0, dI r1] [(0, .box (zd3 r2 r3 r4 r5 r6 r7 r8))])
def F145 : CfS R := uC (F144 N) 117 P145 (E145 N)
theorem F145_ok : FOK (F145 N : CfS R) (runF T) := uCk (F144_ok N) c117 (H := H145)
def H146 : Nat → Option (List Sh) := fun n => if n = 4000 then some [.s, .b] else if n = 7000 then some [.s, .b] else if n = 8000 then some [.s, .b] else if n = 9000 then some [.s, .b] else none
def design_CheckDesign_l0 (N : Nat) {R : Type} (k0 : Int → Int → Option R) (k1 : Option R) : Nat → Int → ByteArray → zt6 → zt1 → zt2 → zt0 → zt6 → zt5 → Nat → zt3 → Nat → zt3 → Nat → zt3 → Nat → zt3 → Option R
  | 0, _, _, _, _, _, _, _, _, _, _, _, _, _, _, _, _ => none
  | n + 1, b0, b1, b2, b3, b4, b5, b6, b7, b8, b9, b10, b11, b12, b13, b14, b15 => (bif decide (b0 < 11) then (bif decide (b0 = 10) then (design_CheckDesign_c11 N b1 b2 b3 b4 b5 b6 b7 (fun y1 y2 y3 y4 y5 y6 y7 y8 y9 => (bif decide (y2 ≠ 0) then (k0 y1 y2) else (design_CheckDesign_l0 N k0 k1 n (w64 (b0 + 1)) y3 y4 y5 y6 y7 y8 y9 b8 b9 b10 b11 b12 b13 b14 b15)))) else (bif decide (b0 = 9) then (design_CheckDesign_c10 N b1 b2 b3 b4 b5 b6 b7 (fun y10 y11 y12 y13 y14 y15 y16 y17 y18 => (bif decide (y11 ≠ 0) then (k0 y10 y11) else (design_CheckDesign_l0 N k0 k1 n (w64 (b0 + 1)) y12 y13 y14 y15 y16 y17 y18 b8 b9 b10 b11 b12 b13 b14 b15)))) else (bif decide (b0 = 8) then (design_CheckDesign_c9 N b1 b2 b3 b4 b5 b6 b7 b14 b15 (fun y19 y20 y21 y22 y23 y24 y25 y26 y27 y28 y29 => (bif decide (y20 ≠ 0) then (k0 y19 y20) else (design_CheckDesign_l0 N k0 k1 n (w64 (b0 + 1)) y21 y22 y23 y24 y25 y26 y27 b8 b9 b10 b11 b12 b13 y28 y29)))) else (bif decide (b0 = 7) then (design_CheckDesign_c8 N b1 b2 b3 b4 b5 b6 b7 (fun y30 y31 y32 y33 y34 y35 y36 y37 y38 => (bif decide (y31 ≠ 0) then (k0 y30 y31) else (design_CheckDesign_l0 N k0 k1 n (w64 (b0 + 1)) y32 y33 y34 y35 y36 y37 y38 b8 b9 b10 b11 b12 b13 b14 b15)))) else (bif decide (b0 = 6) then (design_CheckDesign_c7 N b1 b2 b3 b4 b5 b6 b7 b12 b13 (fun y39 y40 y41 y42 y43 y44 y45 y46 y47 y48 y49 => (bif decide (y40 ≠ 0) then (k0 y39 y40) else (design_CheckDesign_l0 N k0 k1 n (w64 (b0 + 1)) y41 y42 y43 y44 y45 y46 y47 b8 b9 b10 b11 y48 y49 b14 b15)))) else (bif decide (b0 = 5) then (design_CheckDesign_c6 N b1 b2 b3 b4 b5 b6 b7 (fun y50 y51 y52 y53 y54 y55 y56 y57 y58 => (bif decide (y51 ≠ 0) then (k0 y50 y51) else (design_CheckDesign_l0 N k0 k1 n (w64 (b0 + 1)) y52 y53 y54 y55 y56 y57 y58 b8 b9 b10 b11 b12 b13 b14 b15)))) else (bif decide (b0 = 4) then (design_CheckDesign_c5 N b1 b2 b3 b4 b5 b6 b7 (fun y59 y60 y61 y62 y63 y64 y65 y66 y67 => (bif decide (y60 ≠ 0) then (k0 y59 y60) else (design_CheckDesign_l0 N k0 k1 n (w64 (b0 + 1)) y61 y62 y63 y64 y65 y66 y67 b8 b9 b10 b11 b12 b13 b14 b15)))) else (bif decide (b0 = 3) then (design_CheckDesign_c4 N b1 b2 b3 b4 b5 b6 b7 b8 b9 (fun y68 y69 y70 y71 y72 y73 y74 y75 y76 y77 y78 => (bif decide (y69 ≠ 0) then (k0 y68 y69) else (design_CheckDesign_l0 N k0 k1 n (w64 (b0 + 1)) y70 y71 y72 y73 y74 y75 y76 y77 y78 b10 b11 b12 b13 b14 b15)))) else (bif decide (b0 = 2) then (design_CheckDesign_c3 N b1 b2 b3 b4 b5 b6 b7 (fun y79 y80 y81 y82 y83 y84 y85 y86 y87 => (bif decide (y80 ≠ 0) then (k0 y79 y80) else (design_CheckDesign_l0 N k0 k1 n (w64 (b0 + 1)) y81 y82 y83 y84 y85 y86 y87 b8 b9 b10 b11 b12 b13 b14 b15)))) else (bif decide (b0 = 1) then (design_CheckDesign_c2 N b1 b2 b3 b4 b5 b6 b7 b8 b9 b10 b11 (fun y88 y89 y90 y91 y92 y93 y94 y95 y96 y97 y98 y99 y100 => (bif decide (y89 ≠ 0) then (k0 y88 y89) else (design_CheckDesign_l0 N k0 k1 n (w64 (b0 + 1)) y90 y91 y92 y93 y94 y95 y96 y97 y98 y99 y100 b12 b13 b14 b15)))) else (bif decide (b0 = 0) then (design_CheckDesign_c1 N b1 b2 b3 b4 b5 b6 b7 (fun y101 y102 y103 y104 y105 y106 y107 y108 y109 => (bif decide (y102 ≠ 0) then (k0 y101 y102) else (design_CheckDesign_l0 N k0 k1 n (w64 (b0 + 1)) y103 y104 y105 y106 y107 y108 y109 b8 b9 b10 b11 b12 b13 b14 b15)))) else none))))))))))) else k1)
def P146_l0 : SP := ⟨[(29, .agg [.fn 117 [.ptr 0 0], .fn 119 [.ptr 0 0, .ptr 1 0, .ptr 3 0], .fn 124 [.ptr 0 0], .fn 125 [.ptr 0 0, .ptr 1 0], .fn 128 [.ptr 0 0], .fn 130 [.ptr 0 0], .fn 131 [.ptr 0 0, .ptr 5 0], .fn 138 [.ptr 0 0], .fn 139 [.ptr 0 0, .ptr 7 0], .fn 143 [.ptr 0 0], .fn 144 [.ptr 0 0]]), (30, pI)], [(0, .box zb2), (1, .box [.mp 2]), (2, .mp .s .b), (3, .box [.mp 4]), (4, .mp .s .b), (5, .box [.mp 6]), (6, .mp .s .b), (7, .box [.mp 8]), (8, .mp .s .b)]⟩
def E146_l0 (n : Nat) (x : P146_l0.den) (k : KS R) : Option R := design_CheckDesign_l0 N (fun r0 r1 => k .ret ⟨[(2, dI r0), (3, dI r1)], []⟩) (k (.ex 0) ⟨[], []⟩) n x.1.2.1 x.2.1.1 x.2.1.2.1 x.2.1.2.2.1 x.2.1.2.2.2.1 x.2.1.2.2.2.2.1 x.2.1.2.2.2.2.2.1 x.2.1.2.2.2.2.2.2.1 x.2.2.2.1.1 x.2.2.2.1.2 x.2.2.2.2.2.1.1 x.2.2.2.2.2.1.2 x.2.2.2.2.2.2.2.1.1 x.2.2.2.2.2.2.2.1.2 x.2.2.2.2.2.2.2.2.2.1.1 x.2.2.2.2.2.2.2.2.2.1.2
theorem O146_l0 : LpG T P146_l0 (E146_l0 N (R := R)) [29, 30] c88_l0 := lpk (F145_ok N) 250 (H := H146)
def L146_1 : LpS R := updL noL 250 (lent' P146_l0 (E146_l0 N N))
def design_CheckDesign (N : Nat) {R : Type} (a0 : ByteArray) (a1 : zt6) (a2 : zt1) (a3 : zt2) (a4 : zt0) (a5 : zt6) (a6 : zt5) (k0 : Int → Int → Option R) : Option R := (design_CheckDesign_l0 N k0 (k0 0 0) N 0 a0 a1 a2 a3 a4 a5 a6 0 [] 0 [] 0 [] 0 [])
def P146 : AP := ⟨[.agg zb2], []⟩
def E146 (x : P146.den) (k : KK R) : Option R := design_CheckDesign N x.1.1.1 x.1.1.2.1 x.1.1.2.2.1 x.1.1.2.2.2.1 x.1.1.2.2.2.2.1 x.1.1.2.2.2.2.2.1 x.1.1.2.2.2.2.2.2.1 (fun r0 r1 => k [] [dI r0, dI r1] [])
def F146 : CfS R := uC (F145 N) 88 P146 (E146 N)
theorem F146_ok : FOK (F146 N : CfS R) (runF T) := uCk (F145_ok N) c88 (H := H146) (Lp := (L146_1 N)) (hl := (LOK_of (l := [(250, [29, 30], c88_l0)]) (by kernel_rfl) ⟨(updL_ok (O146_l0 N N)), trivial⟩))
def design_open (N : Nat) {R : Type} (a0 : ByteArray) (a1 : zt6) (a2 : zt1) (a3 : zt2) (a4 : zt0) (a5 : zt6) (a6 : zt5) (k0 : ByteArray → zt6 → zt1 → zt2 → zt0 → zt6 → zt5 → Int → Option R) : Option R := (design_CheckDesign N a0 a1 a2 a3 a4 a5 a6 (fun y1 y2 => (k0 a0 a1 a2 a3 a4 a5 a6 y2)))
def P147 : AP := ⟨[.agg zb2], []⟩
def E147 (x : P147.den) (k : KK R) : Option R := design_open N x.1.1.1 x.1.1.2.1 x.1.1.2.2.1 x.1.1.2.2.2.1 x.1.1.2.2.2.2.1 x.1.1.2.2.2.2.2.1 x.1.1.2.2.2.2.2.2.1 (fun r0 r1 r2 r3 r4 r5 r6 r7 => k [] [.agg (zd3 r0 r1 r2 r3 r4 r5 r6), dI r7] [])
def F147 : CfS R := uC (F146 N) 49 P147 (E147 N)
theorem F147_ok : FOK (F147 N : CfS R) (runF T) := uCk (F146_ok N) c49
def H148 : Nat → Option (List Sh) := fun n => if n = 17000 then some [hI] else none
def design_network_reset_l0 (N : Nat) {R : Type} (k0 : List Int → Option R) : Nat → zt1 → Int → Int → List Int → Option R
  | 0, _, _, _, _ => none
  | n + 1, b0, b1, b2, b3 => (bif decide (b2 < b1) then ((at? b0 b2).bind fun x1 => (bif roomB (b3.length + 1) 8 then (design_network_reset_l0 N k0 n b0 b1 (w64 (b2 + 1)) (b3 ++ [x1.2.2.2.1])) else none)) else (k0 b3))
def P148_l0 : SP := ⟨[(3, .own 0), (8, pL zs2), (9, pI), (10, pI)], [(0, .arr [hI])]⟩
def E148_l0 (n : Nat) (x : P148_l0.den) (k : KS R) : Option R := design_network_reset_l0 N (fun r0 => k (.ex 0) ⟨[(3, .own 0)], [(0, .arr (.t [hI] r0))]⟩) n x.1.2.1 x.1.2.2.1 x.1.2.2.2.1 x.2.1
theorem O148_l0 : LpG T P148_l0 (E148_l0 N (R := R)) [3, 8, 9, 10] c50_l0 := lpk (F147_ok N) 58 (H := H148)
def L148_1 : LpS R := updL noL 58 (lent' P148_l0 (E148_l0 N N))
def design_network_reset (N : Nat) {R : Type} (a0 : ByteArray) (a1 : zt6) (a2 : zt1) (a3 : zt2) (a4 : zt0) (a5 : zt6) (a6 : zt5) (k0 : List Int → Option R) : Option R := (design_network_reset_l0 N k0 N a2 ((a2.length : Nat) : Int) 0 [])
def P148 : AP := ⟨[.agg zb2], []⟩
def E148 (x : P148.den) (k : KK R) : Option R := design_network_reset N x.1.1.1 x.1.1.2.1 x.1.1.2.2.1 x.1.1.2.2.2.1 x.1.1.2.2.2.2.1 x.1.1.2.2.2.2.2.1 x.1.1.2.2.2.2.2.2.1 (fun r0 => k [] [dL [hI] r0] [])
def F148 : CfS R := uC (F147 N) 50 P148 (E148 N)
theorem F148_ok : FOK (F148 N : CfS R) (runF T) := uCk (F147_ok N) c50 (H := H148) (Lp := (L148_1 N)) (hl := (LOK_of (l := [(58, [3, 8, 9, 10], c50_l0)]) (by kernel_rfl) ⟨(updL_ok (O148_l0 N N)), trivial⟩))
def design_ResetOf (N : Nat) {R : Type} (a0 : ByteArray) (a1 : zt6) (a2 : zt1) (a3 : zt2) (a4 : zt0) (a5 : zt6) (a6 : zt5) (k0 : List Int → Int → Option R) : Option R := (design_open N a0 a1 a2 a3 a4 a5 a6 (fun y1 y2 y3 y4 y5 y6 y7 y8 => (bif decide (y8 ≠ 0) then (k0 [] y8) else (design_network_reset N y1 y2 y3 y4 y5 y6 y7 (fun y9 => (k0 y9 0))))))
def P149 : AP := ⟨[.agg zb2], []⟩
def E149 (x : P149.den) (k : KK R) : Option R := design_ResetOf N x.1.1.1 x.1.1.2.1 x.1.1.2.2.1 x.1.1.2.2.2.1 x.1.1.2.2.2.2.1 x.1.1.2.2.2.2.2.1 x.1.1.2.2.2.2.2.2.1 (fun r0 r1 => k [] [dL [hI] r0, dI r1] [])
def F149 : CfS R := uC (F148 N) 13 P149 (E149 N)
theorem F149_ok : FOK (F149 N : CfS R) (runF T) := uCk (F148_ok N) c13 (rp := [⟨[pL [hI], pI], []⟩])
def design_network_inputsErr_c1 (N : Nat) {R : Type} (a0 a1 : Int) (a2 : ByteArray) (a3 : zt6) (a4 : zt1) (a5 : zt2) (a6 : zt0) (a7 : zt6) (a8 : zt5) (k0 : Int → ByteArray → zt6 → zt1 → zt2 → zt0 → zt6 → zt5 → Option R) : Option R := ((at? a3 a0).bind fun x1 => (design_fits N a1 x1.2 (fun y2 => (design_unless N y2 2 (fun y3 => (k0 y3 a2 a3 a4 a5 a6 a7 a8))))))
def P150 : AP := ⟨[pI, pI, .ptr 0 0], [(0, .box zb2)]⟩
def E150 (x : P150.den) (k : KK R) : Option R := design_network_inputsErr_c1 N x.1.1 x.1.2.1 x.2.1.1 x.2.1.2.1 x.2.1.2.2.1 x.2.1.2.2.2.1 x.2.1.2.2.2.2.1 x.2.1.2.2.2.2.2.1 x.2.1.2.2.2.2.2.2.1 (fun r0 r1 r2 r3 r4 r5 r6 r7 => k [0] [dI r0] [(0, .box (zd3 r1 r2 r3 r4 r5 r6 r7))])
def F150 : CfS R := uC (F149 N) 95 P150 (E150 N)
theorem F150_ok : FOK (F150 N : CfS R) (runF T) := uCk (F149_ok N) c95
def design_each_int_network_inputsErr_c1_l0 (N : Nat) {R : Type} (k0 : Int → Int → ByteArray → zt6 → zt1 → zt2 → zt0 → zt6 → zt5 → Option R) (k1 : ByteArray → zt6 → zt1 → zt2 → zt0 → zt6 → zt5 → Option R) : Nat → List Int → Int → Int → ByteArray → zt6 → zt1 → zt2 → zt0 → zt6 → zt5 → Option R
  | 0, _, _, _, _, _, _, _, _, _, _ => none
  | n + 1, b0, b1, b2, b3, b4, b5, b6, b7, b8, b9 => (bif decide (b2 < b1) then ((at? b0 b2).bind fun x1 => (design_network_inputsErr_c1 N b2 x1 b3 b4 b5 b6 b7 b8 b9 (fun y2 y3 y4 y5 y6 y7 y8 y9 => (bif decide (y2 ≠ 0) then (k0 b2 y2 y3 y4 y5 y6 y7 y8 y9) else (design_each_int_network_inputsErr_c1_l0 N k0 k1 n b0 b1 (w64 (b2 + 1)) y3 y4 y5 y6 y7 y8 y9))))) else (k1 b3 b4 b5 b6 b7 b8 b9))
def P151_l0 : SP := ⟨[(1, .fn 95 [.ptr 0 0]), (9, pL [hI]), (10, pI), (11, pI), (100001, .fn 95 [.ptr 0 0])], [(0, .box zb2)]⟩
def E151_l0 (n : Nat) (x : P151_l0.den) (k : KS R) : Option R := design_each_int_network_inputsErr_c1_l0 N (fun r0 r1 r2 r3 r4 r5 r6 r7 r8 => k .ret ⟨[(4, dI r0), (5, dI r1), (100001, .fn 95 [.ptr 0 0])], [(0, .box (zd3 r2 r3 r4 r5 r6 r7 r8))]⟩) (fun r0 r1 r2 r3 r4 r5 r6 => k (.ex 0) ⟨[(100001, .fn 95 [.ptr 0 0])], [(0, .box (zd3 r0 r1 r2 r3 r4 r5 r6))]⟩) n x.1.2.1 x.1.2.2.1 x.1.2.2.2.1 x.2.1.1 x.2.1.2.1 x.2.1.2.2.1 x.2.1.2.2.2.1 x.2.1.2.2.2.2.1 x.2.1.2.2.2.2.2.1 x.2.1.2.2.2.2.2.2.1
theorem O151_l0 : LpG T P151_l0 (E151_l0 N (R := R)) [1, 9, 10, 11] c94_l0 := lpk (F150_ok N) 26
def L151_1 : LpS R := updL noL 26 (lent' P151_l0 (E151_l0 N N))
def design_each_int_network_inputsErr_c1 (N : Nat) {R : Type} (a0 : List Int) (a1 : ByteArray) (a2 : zt6) (a3 : zt1) (a4 : zt2) (a5 : zt0) (a6 : zt6) (a7 : zt5) (k0 : Int → Int → ByteArray → zt6 → zt1 → zt2 → zt0 → zt6 → zt5 → Option R) : Option R := (design_each_int_network_inputsErr_c1_l0 N k0 (fun z19 z20 z21 z22 z23 z24 z25 => (k0 0 0 z19 z20 z21 z22 z23 z24 z25)) N a0 ((a0.length : Nat) : Int) 0 a1 a2 a3 a4 a5 a6 a7)
def P151 : AP := ⟨[pL [hI], .fn 95 [.ptr 0 0]], [(0, .box zb2)]⟩
def E151 (x : P151.den) (k : KK R) : Option R := design_each_int_network_inputsErr_c1 N x.1.1 x.2.1.1 x.2.1.2.1 x.2.1.2.2.1 x.2.1.2.2.2.1 x.2.1.2.2.2.2.1 x.2.1.2.2.2.2.2.1 x.2.1.2.2.2.2.2.2.1 (fun r0 r1 r2 r3 r4 r5 r6 r7 r8 => k [0] [dI r0, dI r1] [(0, .box (zd3 r2 r3 r4 r5 r6 r7 r8))])
def F151 : CfS R := uC (F150 N) 94 P151 (E151 N)
theorem F151_ok : FOK (F151 N : CfS R) (runF T) := uCk (F150_ok N) c94 (Lp := (L151_1 N)) (hl := (LOK_of (l := [(26, [1, 9, 10, 11], c94_l0)]) (by kernel_rfl) ⟨(updL_ok (O151_l0 N N)), trivial⟩))
def design_network_inputsErr (N : Nat) {R : Type} (a0 : ByteArray) (a1 : zt6) (a2 : zt1) (a3 : zt2) (a4 : zt0) (a5 : zt6) (a6 : zt5) (a7 : List Int) (k0 : Int → Option R) : Option R := (bif decide (((a7.length : Nat) : Int) ≠ ((a1.length : Nat) : Int)) then (k0 10) else (design_each_int_network_inputsErr_c1 N a7 a0 a1 a2 a3 a4 a5 a6 (fun y1 y2 y3 y4 y5 y6 y7 y8 y9 => (k0 y2))))
def P152 : AP := ⟨[.agg zb2, pL [hI]], []⟩
def E152 (x : P152.den) (k : KK R) : Option R := design_network_inputsErr N x.1.1.1 x.1.1.2.1 x.1.1.2.2.1 x.1.1.2.2.2.1 x.1.1.2.2.2.2.1 x.1.1.2.2.2.2.2.1 x.1.1.2.2.2.2.2.2.1 x.1.2.1 (fun r0 => k [] [dI r0] [])
def F152 : CfS R := uC (F151 N) 55 P152 (E152 N)
theorem F152_ok : FOK (F152 N : CfS R) (runF T) := uCk (F151_ok N) c55
def design_network_stateErr_c1 (N : Nat) {R : Type} (a0 a1 : Int) (a2 : ByteArray) (a3 : zt6) (a4 : zt1) (a5 : zt2) (a6 : zt0) (a7 : zt6) (a8 : zt5) (k0 : Int → ByteArray → zt6 → zt1 → zt2 → zt0 → zt6 → zt5 → Option R) : Option R := ((at? a4 a0).bind fun x1 => (design_fits N a1 x1.2.2.1 (fun y2 => (design_unless N y2 2 (fun y3 => (k0 y3 a2 a3 a4 a5 a6 a7 a8))))))
def P153 : AP := ⟨[pI, pI, .ptr 0 0], [(0, .box zb2)]⟩
def E153 (x : P153.den) (k : KK R) : Option R := design_network_stateErr_c1 N x.1.1 x.1.2.1 x.2.1.1 x.2.1.2.1 x.2.1.2.2.1 x.2.1.2.2.2.1 x.2.1.2.2.2.2.1 x.2.1.2.2.2.2.2.1 x.2.1.2.2.2.2.2.2.1 (fun r0 r1 r2 r3 r4 r5 r6 r7 => k [0] [dI r0] [(0, .box (zd3 r1 r2 r3 r4 r5 r6 r7))])
def F153 : CfS R := uC (F152 N) 97 P153 (E153 N)
theorem F153_ok : FOK (F153 N : CfS R) (runF T) := uCk (F152_ok N) c97
def design_each_int_network_stateErr_c1_l0 (N : Nat) {R : Type} (k0 : Int → Int → ByteArray → zt6 → zt1 → zt2 → zt0 → zt6 → zt5 → Option R) (k1 : ByteArray → zt6 → zt1 → zt2 → zt0 → zt6 → zt5 → Option R) : Nat → List Int → Int → Int → ByteArray → zt6 → zt1 → zt2 → zt0 → zt6 → zt5 → Option R
  | 0, _, _, _, _, _, _, _, _, _, _ => none
  | n + 1, b0, b1, b2, b3, b4, b5, b6, b7, b8, b9 => (bif decide (b2 < b1) then ((at? b0 b2).bind fun x1 => (design_network_stateErr_c1 N b2 x1 b3 b4 b5 b6 b7 b8 b9 (fun y2 y3 y4 y5 y6 y7 y8 y9 => (bif decide (y2 ≠ 0) then (k0 b2 y2 y3 y4 y5 y6 y7 y8 y9) else (design_each_int_network_stateErr_c1_l0 N k0 k1 n b0 b1 (w64 (b2 + 1)) y3 y4 y5 y6 y7 y8 y9))))) else (k1 b3 b4 b5 b6 b7 b8 b9))
def P154_l0 : SP := ⟨[(1, .fn 97 [.ptr 0 0]), (9, pL [hI]), (10, pI), (11, pI), (100001, .fn 97 [.ptr 0 0])], [(0, .box zb2)]⟩
def E154_l0 (n : Nat) (x : P154_l0.den) (k : KS R) : Option R := design_each_int_network_stateErr_c1_l0 N (fun r0 r1 r2 r3 r4 r5 r6 r7 r8 => k .ret ⟨[(4, dI r0), (5, dI r1), (100001, .fn 97 [.ptr 0 0])], [(0, .box (zd3 r2 r3 r4 r5 r6 r7 r8))]⟩) (fun r0 r1 r2 r3 r4 r5 r6 => k (.ex 0) ⟨[(100001, .fn 97 [.ptr 0 0])], [(0, .box (zd3 r0 r1 r2 r3 r4 r5 r6))]⟩) n x.1.2.1 x.1.2.2.1 x.1.2.2.2.1 x.2.1.1 x.2.1.2.1 x.2.1.2.2.1 x.2.1.2.2.2.1 x.2.1.2.2.2.2.1 x.2.1.2.2.2.2.2.1 x.2.1.2.2.2.2.2.2.1
theorem O154_l0 : LpG T P154_l0 (E154_l0 N (R := R)) [1, 9, 10, 11] c94_l0 := lpk (F153_ok N) 26
def L154_1 : LpS R := updL noL 26 (lent' P154_l0 (E154_l0 N N))
def design_each_int_network_stateErr_c1 (N : Nat) {R : Type} (a0 : List Int) (a1 : ByteArray) (a2 : zt6) (a3 : zt1) (a4 : zt2) (a5 : zt0) (a6 : zt6) (a7 : zt5) (k0 : Int → Int → ByteArray → zt6 → zt1 → zt2 → zt0 → zt6 → zt5 → Option R) : Option R := (design_each_int_network_stateErr_c1_l0 N k0 (fun z19 z20 z21 z22 z23 z24 z25 => (k0 0 0 z19 z20 z21 z22 z23 z24 z25)) N a0 ((a0.length : Nat) : Int) 0 a1 a2 a3 a4 a5 a6 a7)
def P154 : AP := ⟨[pL [hI], .fn 97 [.ptr 0 0]], [(0, .box zb2)]⟩
def E154 (x : P154.den) (k : KK R) : Option R := design_each_int_network_stateErr_c1 N x.1.1 x.2.1.1 x.2.1.2.1 x.2.1.2.2.1 x.2.1.2.2.2.1 x.2.1.2.2.2.2.1 x.2.1.2.2.2.2.2.1 x.2.1.2.2.2.2.2.2.1 (fun r0 r1 r2 r3 r4 r5 r6 r7 r8 => k [0] [dI r0, dI r1] [(0, .box (zd3 r2 r3 r4 r5 r6 r7 r8))])
def F154 : CfS R := uC (F153 N) 94 P154 (E154 N)
theorem F154_ok : FOK (F154 N : CfS R) (runF T) := uCk (F153_ok N) c94 (Lp := (L154_1 N)) (hl := (LOK_of (l := [(26, [1, 9, 10, 11], c94_l0)]) (by kernel_rfl) ⟨(updL_ok (O154_l0 N N)), trivial⟩))
def design_network_stateErr (N : Nat) {R : Type} (a0 : ByteArray) (a1 : zt6) (a2 : zt1) (a3 : zt2) (a4 : zt0) (a5 : zt6) (a6 : zt5) (a7 : List Int) (k0 : Int → Option R) : Option R := (bif decide (((a7.length : Nat) : Int) ≠ ((a2.length : Nat) : Int)) then (k0 10) else (design_each_int_network_stateErr_c1 N a7 a0 a1 a2 a3 a4 a5 a6 (fun y1 y2 y3 y4 y5 y6 y7 y8 y9 => (k0 y2))))
def P155 : AP := ⟨[.agg zb2, pL [hI]], []⟩
def E155 (x : P155.den) (k : KK R) : Option R := design_network_stateErr N x.1.1.1 x.1.1.2.1 x.1.1.2.2.1 x.1.1.2.2.2.1 x.1.1.2.2.2.2.1 x.1.1.2.2.2.2.2.1 x.1.1.2.2.2.2.2.2.1 x.1.2.1 (fun r0 => k [] [dI r0] [])
def F155 : CfS R := uC (F154 N) 56 P155 (E155 N)
theorem F155_ok : FOK (F155 N : CfS R) (runF T) := uCk (F154_ok N) c56
def H156 : Nat → Option (List Sh) := fun n => if n = 20000 then some [hI] else none
def design_openState (N : Nat) {R : Type} (a0 : ByteArray) (a1 : zt6) (a2 : zt1) (a3 : zt2) (a4 : zt0) (a5 : zt6) (a6 : zt5) (a7 a8 : List Int) (k0 : ByteArray → zt6 → zt1 → zt2 → zt0 → zt6 → zt5 → Int → Option R) : Option R := (design_open N a0 a1 a2 a3 a4 a5 a6 (fun y1 y2 y3 y4 y5 y6 y7 y8 => (bif decide (y8 = 0) then (design_network_inputsErr N y1 y2 y3 y4 y5 y6 y7 a7 (fun y9 => (design_network_stateErr N y1 y2 y3 y4 y5 y6 y7 a8 (fun y10 => (design_first N [y9, y10] (fun y11 => (k0 y1 y2 y3 y4 y5 y6 y7 y11))))))) else (k0 y1 y2 y3 y4 y5 y6 y7 y8))))
def P156 : AP := ⟨[.agg zb2, pL [hI], pL [hI]], []⟩
def E156 (x : P156.den) (k : KK R) : Option R := design_openState N x.1.1.1 x.1.1.2.1 x.1.1.2.2.1 x.1.1.2.2.2.1 x.1.1.2.2.2.2.1 x.1.1.2.2.2.2.2.1 x.1.1.2.2.2.2.2.2.1 x.1.2.1 x.1.2.2.1 (fun r0 r1 r2 r3 r4 r5 r6 r7 => k [] [.agg (zd3 r0 r1 r2 r3 r4 r5 r6), dI r7] [])
def F156 : CfS R := uC (F155 N) 51 P156 (E156 N)
theorem F156_ok : FOK (F156 N : CfS R) (runF T) := uCk (F155_ok N) c51 (H := H156)
def slices_Concat_state_int_l0 (N : Nat) {R : Type} (k0 : List (List Int) → Int → Option R) : Nat → List (List Int) → Int → List (List Int) → Int → Int → Option R
  | 0, _, _, _, _, _ => none
  | n + 1, b0, b1, b2, b3, b4 => (bif decide (b4 < b3) then ((at? b2 b4).bind fun x1 => (bif decide ((w64 (b1 + ((x1.length : Nat) : Int))) < 0) then none else (slices_Concat_state_int_l0 N k0 n b0 (w64 (b1 + ((x1.length : Nat) : Int))) b2 b3 (w64 (b4 + 1))))) else (k0 b0 b1))
def P157_l0 : SP := ⟨[(0, pL zs6), (3, pI), (9, pL zs6), (10, pI), (11, pI)], []⟩
def E157_l0 (n : Nat) (x : P157_l0.den) (k : KS R) : Option R := slices_Concat_state_int_l0 N (fun r0 r1 => k (.ex 0) ⟨[(0, dL zs6 r0), (3, dI r1)], []⟩) n x.1.1 x.1.2.1 x.1.2.2.1 x.1.2.2.2.1 x.1.2.2.2.2.1
theorem O157_l0 : LpG T P157_l0 (E157_l0 N (R := R)) [0, 3, 9, 10, 11] c91_l0 := lpk (F156_ok N) 58
def L157_1 : LpS R := updL noL 58 (lent' P157_l0 (E157_l0 N N))
def slices_Concat_state_int_l1 (N : Nat) {R : Type} (k0 : List Int → Option R) : Nat → List (List Int) → Int → Int → List Int → Option R
  | 0, _, _, _, _ => none
  | n + 1, b0, b1, b2, b3 => (bif decide (b2 < b1) then ((at? b0 b2).bind fun x1 => (bif roomB (b3.length + x1.length) 8 then (slices_Concat_state_int_l1 N k0 n b0 b1 (w64 (b2 + 1)) (b3 ++ x1)) else none)) else (k0 b3))
def P157_l1 : SP := ⟨[(6, .own 0), (25, pL zs6), (26, pI), (27, pI)], [(0, .arr [hI])]⟩
def E157_l1 (n : Nat) (x : P157_l1.den) (k : KS R) : Option R := slices_Concat_state_int_l1 N (fun r0 => k (.ex 2) ⟨[(6, .own 0)], [(0, .arr (.t [hI] r0))]⟩) n x.1.2.1 x.1.2.2.1 x.1.2.2.2.1 x.2.1
theorem O157_l1 : LpG T P157_l1 (E157_l1 N (R := R)) [6, 25, 26, 27] c91_l1 := lpk (F156_ok N) 250 (Lp := (L157_1 N))
def L157_2 : LpS R := updL (L157_1 N) 250 (lent' P157_l1 (E157_l1 N N))
def slices_Concat_state_int (N : Nat) {R : Type} (a0 : List (List Int)) (k0 : List Int → Option R) : Option R := (slices_Concat_state_int_l0 N (fun z2 z3 => (bif growB 8 z3 then (slices_Concat_state_int_l1 N k0 N z2 ((z2.length : Nat) : Int) 0 []) else none)) N a0 0 a0 ((a0.length : Nat) : Int) 0)
def P157 : AP := ⟨[pL zs6], []⟩
def E157 (x : P157.den) (k : KK R) : Option R := slices_Concat_state_int N x.1.1 (fun r0 => k [] [dL [hI] r0] [])
def F157 : CfS R := uC (F156 N) 91 P157 (E157 N)
theorem F157_ok : FOK (F157 N : CfS R) (runF T) := uCk (F156_ok N) c91 (Lp := (L157_2 N)) (hl := (LOK_of (l := [(58, [0, 3, 9, 10, 11], c91_l0), (250, [6, 25, 26, 27], c91_l1)]) (by kernel_rfl) ⟨(updL_ne (by decide) (updL_ok (O157_l0 N N))), (updL_ok (O157_l1 N N)), trivial⟩))
def graph_graphErr (N : Nat) {R : Type} (a0 : List Int) (a1 : zt2) (k0 : Int → Option R) : Option R := (graph_CheckNodes N a0 a1 (fun y1 y2 => (k0 y2)))
def P158 : AP := ⟨[pL [hI], pL zs1], []⟩
def E158 (x : P158.den) (k : KK R) : Option R := graph_graphErr N x.1.1 x.1.2.1 (fun r0 => k [] [dI r0] [])
def F158 : CfS R := uC (F157 N) 150 P158 (E158 N)
theorem F158_ok : FOK (F158 N : CfS R) (runF T) := uCk (F157_ok N) c150
def graph_ValuesOf_c1 (N : Nat) {R : Type} (a0 a1 : Int) (a2 : List Int) (k0 : Int → List Int → Option R) : Option R := ((at? a2 a0).bind fun x1 => (graph_fits N a1 x1 (fun y2 => (graph_unless N y2 2 (fun y3 => (k0 y3 a2))))))
def P159 : AP := ⟨[pI, pI, .ptr 0 0], [(0, .box [pL [hI]])]⟩
def E159 (x : P159.den) (k : KK R) : Option R := graph_ValuesOf_c1 N x.1.1 x.1.2.1 x.2.1.1 (fun r0 r1 => k [0] [dI r0] [(0, .box [dL [hI] r1])])
def F159 : CfS R := uC (F158 N) 153 P159 (E159 N)
theorem F159_ok : FOK (F159 N : CfS R) (runF T) := uCk (F158_ok N) c153
def graph_each_int_ValuesOf_c1_l0 (N : Nat) {R : Type} (k0 : Int → Int → List Int → Option R) (k1 : List Int → Option R) : Nat → List Int → Int → Int → List Int → Option R
  | 0, _, _, _, _ => none
  | n + 1, b0, b1, b2, b3 => (bif decide (b2 < b1) then ((at? b0 b2).bind fun x1 => (graph_ValuesOf_c1 N b2 x1 b3 (fun y2 y3 => (bif decide (y2 ≠ 0) then (k0 b2 y2 y3) else (graph_each_int_ValuesOf_c1_l0 N k0 k1 n b0 b1 (w64 (b2 + 1)) y3))))) else (k1 b3))
def P160_l0 : SP := ⟨[(1, .fn 153 [.ptr 0 0]), (9, pL [hI]), (10, pI), (11, pI), (100001, .fn 153 [.ptr 0 0])], [(0, .box [pL [hI]])]⟩
def E160_l0 (n : Nat) (x : P160_l0.den) (k : KS R) : Option R := graph_each_int_ValuesOf_c1_l0 N (fun r0 r1 r2 => k .ret ⟨[(4, dI r0), (5, dI r1), (100001, .fn 153 [.ptr 0 0])], [(0, .box [dL [hI] r2])]⟩) (fun r0 => k (.ex 0) ⟨[(100001, .fn 153 [.ptr 0 0])], [(0, .box [dL [hI] r0])]⟩) n x.1.2.1 x.1.2.2.1 x.1.2.2.2.1 x.2.1.1
theorem O160_l0 : LpG T P160_l0 (E160_l0 N (R := R)) [1, 9, 10, 11] c152_l0 := lpk (F159_ok N) 26
def L160_1 : LpS R := updL noL 26 (lent' P160_l0 (E160_l0 N N))
def graph_each_int_ValuesOf_c1 (N : Nat) {R : Type} (a0 a1 : List Int) (k0 : Int → Int → List Int → Option R) : Option R := (graph_each_int_ValuesOf_c1_l0 N k0 (fun z7 => (k0 0 0 z7)) N a0 ((a0.length : Nat) : Int) 0 a1)
def P160 : AP := ⟨[pL [hI], .fn 153 [.ptr 0 0]], [(0, .box [pL [hI]])]⟩
def E160 (x : P160.den) (k : KK R) : Option R := graph_each_int_ValuesOf_c1 N x.1.1 x.2.1.1 (fun r0 r1 r2 => k [0] [dI r0, dI r1] [(0, .box [dL [hI] r2])])
def F160 : CfS R := uC (F159 N) 152 P160 (E160 N)
theorem F160_ok : FOK (F160 N : CfS R) (runF T) := uCk (F159_ok N) c152 (Lp := (L160_1 N)) (hl := (LOK_of (l := [(26, [1, 9, 10, 11], c152_l0)]) (by kernel_rfl) ⟨(updL_ok (O160_l0 N N)), trivial⟩))
def graph_operations_c21 (N : Nat) {R : Type} (a0 a1 : Int) (a2 : List Int) (a3 : Int) (a4 a5 : List Int) (k0 : Int → Option R) : Option R := ((at? a5 0).bind fun x1 => ((at? a5 1).bind fun x2 => (bif decide ((min x2 a1) < 0) then none else (k0 (shr' .i64 x1 (min x2 a1))))))
def P161 : AP := ⟨[.agg zb4, pL [hI], pL [hI]], []⟩
def E161 (x : P161.den) (k : KK R) : Option R := graph_operations_c21 N x.1.1.1 x.1.1.2.1 x.1.1.2.2.1 x.1.1.2.2.2.1 x.1.2.1 x.1.2.2.1 (fun r0 => k [] [dI r0] [])
def F161 : CfS R := uC (F160 N) 235 P161 (E161 N)
theorem F161_ok : FOK (F161 N : CfS R) (runF T) := uCk (F160_ok N) c235
def graph_mask (N : Nat) {R : Type} (a0 a1 : Int) (k0 : Int → Option R) : Option R := (bif decide (a1 < 0) then none else (k0 (andI .i64 a0 (w64 ((shl' .i64 1 a1) - 1)))))
def P162 : AP := ⟨[pI, pI], []⟩
def E162 (x : P162.den) (k : KK R) : Option R := graph_mask N x.1.1 x.1.2.1 (fun r0 => k [] [dI r0] [])
def F162 : CfS R := uC (F161 N) 211 P162 (E162 N)
theorem F162_ok : FOK (F162 N : CfS R) (runF T) := uCk (F161_ok N) c211
def graph_operations_c20 (N : Nat) {R : Type} (a0 a1 : Int) (a2 : List Int) (a3 : Int) (a4 a5 : List Int) (k0 : Int → Option R) : Option R := ((at? a5 0).bind fun x1 => ((at? a5 1).bind fun x2 => (bif decide ((min x2 a1) < 0) then none else (graph_mask N (shl' .i64 x1 (min x2 a1)) a1 k0))))
def P163 : AP := ⟨[.agg zb4, pL [hI], pL [hI]], []⟩
def E163 (x : P163.den) (k : KK R) : Option R := graph_operations_c20 N x.1.1.1 x.1.1.2.1 x.1.1.2.2.1 x.1.1.2.2.2.1 x.1.2.1 x.1.2.2.1 (fun r0 => k [] [dI r0] [])
def F163 : CfS R := uC (F162 N) 234 P163 (E163 N)
theorem F163_ok : FOK (F163 N : CfS R) (runF T) := uCk (F162_ok N) c234
def graph_signed (N : Nat) {R : Type} (a0 a1 : Int) (k0 : Int → Option R) : Option R := (bif decide ((w64 (a1 - 1)) < 0) then none else (bif decide ((andI .i64 (shr' .i64 a0 (w64 (a1 - 1))) 1) = 1) then (bif decide (a1 < 0) then none else (k0 (w64 (a0 - (shl' .i64 1 a1))))) else (k0 a0)))
def P164 : AP := ⟨[pI, pI], []⟩
def E164 (x : P164.den) (k : KK R) : Option R := graph_signed N x.1.1 x.1.2.1 (fun r0 => k [] [dI r0] [])
def F164 : CfS R := uC (F163 N) 223 P164 (E164 N)
theorem F164_ok : FOK (F164 N : CfS R) (runF T) := uCk (F163_ok N) c223
def graph_operations_c19 (N : Nat) {R : Type} (a0 a1 : Int) (a2 : List Int) (a3 : Int) (a4 a5 : List Int) (k0 : Int → Option R) : Option R := ((at? a5 0).bind fun x1 => ((at? a4 0).bind fun x2 => (graph_signed N x1 x2 (fun y3 => (graph_mask N y3 a1 k0)))))
def P165 : AP := ⟨[.agg zb4, pL [hI], pL [hI]], []⟩
def E165 (x : P165.den) (k : KK R) : Option R := graph_operations_c19 N x.1.1.1 x.1.1.2.1 x.1.1.2.2.1 x.1.1.2.2.2.1 x.1.2.1 x.1.2.2.1 (fun r0 => k [] [dI r0] [])
def F165 : CfS R := uC (F164 N) 232 P165 (E165 N)
theorem F165_ok : FOK (F165 N : CfS R) (runF T) := uCk (F164_ok N) c232
def graph_operations_c18 (N : Nat) {R : Type} (a0 a1 : Int) (a2 : List Int) (a3 : Int) (a4 a5 : List Int) (k0 : Int → Option R) : Option R := ((at? a5 0).bind fun x1 => (k0 x1))
def P166 : AP := ⟨[.agg zb4, pL [hI], pL [hI]], []⟩
def E166 (x : P166.den) (k : KK R) : Option R := graph_operations_c18 N x.1.1.1 x.1.1.2.1 x.1.1.2.2.1 x.1.1.2.2.2.1 x.1.2.1 x.1.2.2.1 (fun r0 => k [] [dI r0] [])
def F166 : CfS R := uC (F165 N) 231 P166 (E166 N)
theorem F166_ok : FOK (F166 N : CfS R) (runF T) := uCk (F165_ok N) c231
def graph_operations_c17 (N : Nat) {R : Type} (a0 a1 : Int) (a2 : List Int) (a3 : Int) (a4 a5 : List Int) (k0 : Int → Option R) : Option R := ((at? a5 0).bind fun x1 => (bif decide (a3 < 0) then none else (graph_mask N (shr' .i64 x1 a3) a1 k0)))
def P167 : AP := ⟨[.agg zb4, pL [hI], pL [hI]], []⟩
def E167 (x : P167.den) (k : KK R) : Option R := graph_operations_c17 N x.1.1.1 x.1.1.2.1 x.1.1.2.2.1 x.1.1.2.2.2.1 x.1.2.1 x.1.2.2.1 (fun r0 => k [] [dI r0] [])
def F167 : CfS R := uC (F166 N) 229 P167 (E167 N)
theorem F167_ok : FOK (F167 N : CfS R) (runF T) := uCk (F166_ok N) c229
def graph_operations_c15 (N : Nat) {R : Type} (a0 a1 : Int) (a2 : List Int) (a3 : Int) (a4 a5 : List Int) (k0 : Int → Option R) : Option R := ((at? a5 0).bind fun x1 => ((at? a4 1).bind fun x2 => (bif decide (x2 < 0) then none else ((at? a5 1).bind fun x3 => (k0 (orI .i64 (shl' .i64 x1 x2) x3))))))
def P168 : AP := ⟨[.agg zb4, pL [hI], pL [hI]], []⟩
def E168 (x : P168.den) (k : KK R) : Option R := graph_operations_c15 N x.1.1.1 x.1.1.2.1 x.1.1.2.2.1 x.1.1.2.2.2.1 x.1.2.1 x.1.2.2.1 (fun r0 => k [] [dI r0] [])
def F168 : CfS R := uC (F167 N) 227 P168 (E168 N)
theorem F168_ok : FOK (F168 N : CfS R) (runF T) := uCk (F167_ok N) c227
def graph_operations_c13 (N : Nat) {R : Type} (a0 a1 : Int) (a2 : List Int) (a3 : Int) (a4 a5 : List Int) (k0 : Int → Option R) : Option R := ((at? a5 0).bind fun x1 => (bif decide (x1 = 1) then ((at? a5 1).bind fun x2 => (k0 x2)) else ((at? a5 2).bind fun x3 => (k0 x3))))
def P169 : AP := ⟨[.agg zb4, pL [hI], pL [hI]], []⟩
def E169 (x : P169.den) (k : KK R) : Option R := graph_operations_c13 N x.1.1.1 x.1.1.2.1 x.1.1.2.2.1 x.1.1.2.2.2.1 x.1.2.1 x.1.2.2.1 (fun r0 => k [] [dI r0] [])
def F169 : CfS R := uC (F168 N) 225 P169 (E169 N)
theorem F169_ok : FOK (F169 N : CfS R) (runF T) := uCk (F168_ok N) c225
def graph_operations_c11 (N : Nat) {R : Type} (a0 a1 a2 : Int) (k0 : Bool → Option R) : Option R := (graph_signed N a0 a2 (fun y1 => (graph_signed N a1 a2 (fun y2 => (k0 (decide (y1 < y2)))))))
def P170 : AP := ⟨[pI, pI, pI], []⟩
def E170 (x : P170.den) (k : KK R) : Option R := graph_operations_c11 N x.1.1 x.1.2.1 x.1.2.2.1 (fun r0 => k [] [dB r0] [])
def F170 : CfS R := uC (F169 N) 222 P170 (E170 N)
theorem F170_ok : FOK (F170 N : CfS R) (runF T) := uCk (F169_ok N) c222
def graph_truth (N : Nat) {R : Type} (a0 : Bool) (k0 : Int → Option R) : Option R := (bif a0 then (k0 1) else (k0 0))
def P171 : AP := ⟨[pB], []⟩
def E171 (x : P171.den) (k : KK R) : Option R := graph_truth N x.1.1 (fun r0 => k [] [dI r0] [])
def F171 : CfS R := uC (F170 N) 247 P171 (E171 N)
theorem F171_ok : FOK (F171 N : CfS R) (runF T) := uCk (F170_ok N) c247
def graph_relation_c1_operations_c11 (N : Nat) {R : Type} (a0 a1 : Int) (a2 : List Int) (a3 : Int) (a4 a5 : List Int) (k0 : Int → Option R) : Option R := ((at? a5 0).bind fun x1 => ((at? a5 1).bind fun x2 => ((at? a4 0).bind fun x3 => (graph_operations_c11 N x1 x2 x3 (fun y4 => (graph_truth N y4 k0))))))
def P172 : AP := ⟨[.agg zb4, pL [hI], pL [hI], .p (.cp [.fn 222 []])], []⟩
def E172 (x : P172.den) (k : KK R) : Option R := graph_relation_c1_operations_c11 N x.1.1.1 x.1.1.2.1 x.1.1.2.2.1 x.1.1.2.2.2.1 x.1.2.1 x.1.2.2.1 (fun r0 => k [] [dI r0] [])
def F172 : CfS R := uC (F171 N) 246 P172 (E172 N)
theorem F172_ok : FOK (F172 N : CfS R) (runF T) := uCk (F171_ok N) c246
def graph_operations_c10 (N : Nat) {R : Type} (a0 a1 a2 : Int) (k0 : Bool → Option R) : Option R := (k0 (decide (a0 < a1)))
def P173 : AP := ⟨[pI, pI, pI], []⟩
def E173 (x : P173.den) (k : KK R) : Option R := graph_operations_c10 N x.1.1 x.1.2.1 x.1.2.2.1 (fun r0 => k [] [dB r0] [])
def F173 : CfS R := uC (F172 N) 221 P173 (E173 N)
theorem F173_ok : FOK (F173 N : CfS R) (runF T) := uCk (F172_ok N) c221
def graph_relation_c1_operations_c10 (N : Nat) {R : Type} (a0 a1 : Int) (a2 : List Int) (a3 : Int) (a4 a5 : List Int) (k0 : Int → Option R) : Option R := ((at? a5 0).bind fun x1 => ((at? a5 1).bind fun x2 => ((at? a4 0).bind fun x3 => (graph_operations_c10 N x1 x2 x3 (fun y4 => (graph_truth N y4 k0))))))
def P174 : AP := ⟨[.agg zb4, pL [hI], pL [hI], .p (.cp [.fn 221 []])], []⟩
def E174 (x : P174.den) (k : KK R) : Option R := graph_relation_c1_operations_c10 N x.1.1.1 x.1.1.2.1 x.1.1.2.2.1 x.1.1.2.2.2.1 x.1.2.1 x.1.2.2.1 (fun r0 => k [] [dI r0] [])
def F174 : CfS R := uC (F173 N) 246 P174 (E174 N)
theorem F174_ok : FOK (F174 N : CfS R) (runF T) := uCk (F173_ok N) c246
def graph_operations_c9 (N : Nat) {R : Type} (a0 a1 a2 : Int) (k0 : Bool → Option R) : Option R := (k0 (decide (a0 = a1)))
def P175 : AP := ⟨[pI, pI, pI], []⟩
def E175 (x : P175.den) (k : KK R) : Option R := graph_operations_c9 N x.1.1 x.1.2.1 x.1.2.2.1 (fun r0 => k [] [dB r0] [])
def F175 : CfS R := uC (F174 N) 220 P175 (E175 N)
theorem F175_ok : FOK (F175 N : CfS R) (runF T) := uCk (F174_ok N) c220
def graph_relation_c1_operations_c9 (N : Nat) {R : Type} (a0 a1 : Int) (a2 : List Int) (a3 : Int) (a4 a5 : List Int) (k0 : Int → Option R) : Option R := ((at? a5 0).bind fun x1 => ((at? a5 1).bind fun x2 => ((at? a4 0).bind fun x3 => (graph_operations_c9 N x1 x2 x3 (fun y4 => (graph_truth N y4 k0))))))
def P176 : AP := ⟨[.agg zb4, pL [hI], pL [hI], .p (.cp [.fn 220 []])], []⟩
def E176 (x : P176.den) (k : KK R) : Option R := graph_relation_c1_operations_c9 N x.1.1.1 x.1.1.2.1 x.1.1.2.2.1 x.1.1.2.2.2.1 x.1.2.1 x.1.2.2.1 (fun r0 => k [] [dI r0] [])
def F176 : CfS R := uC (F175 N) 246 P176 (E176 N)
theorem F176_ok : FOK (F176 N : CfS R) (runF T) := uCk (F175_ok N) c246
def graph_operations_c8 (N : Nat) {R : Type} (a0 a1 : Int) (k0 : Int → Option R) : Option R := (k0 (w64 (a0 * a1)))
def P177 : AP := ⟨[pI, pI], []⟩
def E177 (x : P177.den) (k : KK R) : Option R := graph_operations_c8 N x.1.1 x.1.2.1 (fun r0 => k [] [dI r0] [])
def F177 : CfS R := uC (F176 N) 218 P177 (E177 N)
theorem F177_ok : FOK (F177 N : CfS R) (runF T) := uCk (F176_ok N) c218
def graph_binary_c1_operations_c8 (N : Nat) {R : Type} (a0 a1 : Int) (a2 : List Int) (a3 : Int) (a4 a5 : List Int) (k0 : Int → Option R) : Option R := ((at? a5 0).bind fun x1 => ((at? a5 1).bind fun x2 => (graph_operations_c8 N x1 x2 (fun y3 => (graph_mask N y3 a1 k0)))))
def P178 : AP := ⟨[.agg zb4, pL [hI], pL [hI], .p (.cp [.fn 218 []])], []⟩
def E178 (x : P178.den) (k : KK R) : Option R := graph_binary_c1_operations_c8 N x.1.1.1 x.1.1.2.1 x.1.1.2.2.1 x.1.1.2.2.2.1 x.1.2.1 x.1.2.2.1 (fun r0 => k [] [dI r0] [])
def F178 : CfS R := uC (F177 N) 244 P178 (E178 N)
theorem F178_ok : FOK (F178 N : CfS R) (runF T) := uCk (F177_ok N) c244
def graph_operations_c7 (N : Nat) {R : Type} (a0 a1 : Int) (k0 : Int → Option R) : Option R := (k0 (w64 (a0 - a1)))
def P179 : AP := ⟨[pI, pI], []⟩
def E179 (x : P179.den) (k : KK R) : Option R := graph_operations_c7 N x.1.1 x.1.2.1 (fun r0 => k [] [dI r0] [])
def F179 : CfS R := uC (F178 N) 217 P179 (E179 N)
theorem F179_ok : FOK (F179 N : CfS R) (runF T) := uCk (F178_ok N) c217
def graph_binary_c1_operations_c7 (N : Nat) {R : Type} (a0 a1 : Int) (a2 : List Int) (a3 : Int) (a4 a5 : List Int) (k0 : Int → Option R) : Option R := ((at? a5 0).bind fun x1 => ((at? a5 1).bind fun x2 => (graph_operations_c7 N x1 x2 (fun y3 => (graph_mask N y3 a1 k0)))))
def P180 : AP := ⟨[.agg zb4, pL [hI], pL [hI], .p (.cp [.fn 217 []])], []⟩
def E180 (x : P180.den) (k : KK R) : Option R := graph_binary_c1_operations_c7 N x.1.1.1 x.1.1.2.1 x.1.1.2.2.1 x.1.1.2.2.2.1 x.1.2.1 x.1.2.2.1 (fun r0 => k [] [dI r0] [])
def F180 : CfS R := uC (F179 N) 244 P180 (E180 N)
theorem F180_ok : FOK (F180 N : CfS R) (runF T) := uCk (F179_ok N) c244
def graph_operations_c6 (N : Nat) {R : Type} (a0 a1 : Int) (k0 : Int → Option R) : Option R := (k0 (w64 (a0 + a1)))
def P181 : AP := ⟨[pI, pI], []⟩
def E181 (x : P181.den) (k : KK R) : Option R := graph_operations_c6 N x.1.1 x.1.2.1 (fun r0 => k [] [dI r0] [])
def F181 : CfS R := uC (F180 N) 216 P181 (E181 N)
theorem F181_ok : FOK (F181 N : CfS R) (runF T) := uCk (F180_ok N) c216
def graph_binary_c1_operations_c6 (N : Nat) {R : Type} (a0 a1 : Int) (a2 : List Int) (a3 : Int) (a4 a5 : List Int) (k0 : Int → Option R) : Option R := ((at? a5 0).bind fun x1 => ((at? a5 1).bind fun x2 => (graph_operations_c6 N x1 x2 (fun y3 => (graph_mask N y3 a1 k0)))))
def P182 : AP := ⟨[.agg zb4, pL [hI], pL [hI], .p (.cp [.fn 216 []])], []⟩
def E182 (x : P182.den) (k : KK R) : Option R := graph_binary_c1_operations_c6 N x.1.1.1 x.1.1.2.1 x.1.1.2.2.1 x.1.1.2.2.2.1 x.1.2.1 x.1.2.2.1 (fun r0 => k [] [dI r0] [])
def F182 : CfS R := uC (F181 N) 244 P182 (E182 N)
theorem F182_ok : FOK (F182 N : CfS R) (runF T) := uCk (F181_ok N) c244
def graph_operations_c5 (N : Nat) {R : Type} (a0 a1 : Int) (k0 : Int → Option R) : Option R := (k0 (xorI .i64 a0 a1))
def P183 : AP := ⟨[pI, pI], []⟩
def E183 (x : P183.den) (k : KK R) : Option R := graph_operations_c5 N x.1.1 x.1.2.1 (fun r0 => k [] [dI r0] [])
def F183 : CfS R := uC (F182 N) 215 P183 (E183 N)
theorem F183_ok : FOK (F183 N : CfS R) (runF T) := uCk (F182_ok N) c215
def graph_binary_c1_operations_c5 (N : Nat) {R : Type} (a0 a1 : Int) (a2 : List Int) (a3 : Int) (a4 a5 : List Int) (k0 : Int → Option R) : Option R := ((at? a5 0).bind fun x1 => ((at? a5 1).bind fun x2 => (graph_operations_c5 N x1 x2 (fun y3 => (graph_mask N y3 a1 k0)))))
def P184 : AP := ⟨[.agg zb4, pL [hI], pL [hI], .p (.cp [.fn 215 []])], []⟩
def E184 (x : P184.den) (k : KK R) : Option R := graph_binary_c1_operations_c5 N x.1.1.1 x.1.1.2.1 x.1.1.2.2.1 x.1.1.2.2.2.1 x.1.2.1 x.1.2.2.1 (fun r0 => k [] [dI r0] [])
def F184 : CfS R := uC (F183 N) 244 P184 (E184 N)
theorem F184_ok : FOK (F184 N : CfS R) (runF T) := uCk (F183_ok N) c244
def graph_operations_c4 (N : Nat) {R : Type} (a0 a1 : Int) (k0 : Int → Option R) : Option R := (k0 (orI .i64 a0 a1))
def P185 : AP := ⟨[pI, pI], []⟩
def E185 (x : P185.den) (k : KK R) : Option R := graph_operations_c4 N x.1.1 x.1.2.1 (fun r0 => k [] [dI r0] [])
def F185 : CfS R := uC (F184 N) 214 P185 (E185 N)
theorem F185_ok : FOK (F185 N : CfS R) (runF T) := uCk (F184_ok N) c214
def graph_binary_c1_operations_c4 (N : Nat) {R : Type} (a0 a1 : Int) (a2 : List Int) (a3 : Int) (a4 a5 : List Int) (k0 : Int → Option R) : Option R := ((at? a5 0).bind fun x1 => ((at? a5 1).bind fun x2 => (graph_operations_c4 N x1 x2 (fun y3 => (graph_mask N y3 a1 k0)))))
def P186 : AP := ⟨[.agg zb4, pL [hI], pL [hI], .p (.cp [.fn 214 []])], []⟩
def E186 (x : P186.den) (k : KK R) : Option R := graph_binary_c1_operations_c4 N x.1.1.1 x.1.1.2.1 x.1.1.2.2.1 x.1.1.2.2.2.1 x.1.2.1 x.1.2.2.1 (fun r0 => k [] [dI r0] [])
def F186 : CfS R := uC (F185 N) 244 P186 (E186 N)
theorem F186_ok : FOK (F186 N : CfS R) (runF T) := uCk (F185_ok N) c244
def graph_operations_c3 (N : Nat) {R : Type} (a0 a1 : Int) (k0 : Int → Option R) : Option R := (k0 (andI .i64 a0 a1))
def P187 : AP := ⟨[pI, pI], []⟩
def E187 (x : P187.den) (k : KK R) : Option R := graph_operations_c3 N x.1.1 x.1.2.1 (fun r0 => k [] [dI r0] [])
def F187 : CfS R := uC (F186 N) 213 P187 (E187 N)
theorem F187_ok : FOK (F187 N : CfS R) (runF T) := uCk (F186_ok N) c213
def graph_binary_c1_operations_c3 (N : Nat) {R : Type} (a0 a1 : Int) (a2 : List Int) (a3 : Int) (a4 a5 : List Int) (k0 : Int → Option R) : Option R := ((at? a5 0).bind fun x1 => ((at? a5 1).bind fun x2 => (graph_operations_c3 N x1 x2 (fun y3 => (graph_mask N y3 a1 k0)))))
def P188 : AP := ⟨[.agg zb4, pL [hI], pL [hI], .p (.cp [.fn 213 []])], []⟩
def E188 (x : P188.den) (k : KK R) : Option R := graph_binary_c1_operations_c3 N x.1.1.1 x.1.1.2.1 x.1.1.2.2.1 x.1.1.2.2.2.1 x.1.2.1 x.1.2.2.1 (fun r0 => k [] [dI r0] [])
def F188 : CfS R := uC (F187 N) 244 P188 (E188 N)
theorem F188_ok : FOK (F188 N : CfS R) (runF T) := uCk (F187_ok N) c244
def graph_operations_c2 (N : Nat) {R : Type} (a0 a1 : Int) (a2 : List Int) (a3 : Int) (a4 a5 : List Int) (k0 : Int → Option R) : Option R := ((at? a5 0).bind fun x1 => (graph_mask N (notI .i64 x1) a1 k0))
def P189 : AP := ⟨[.agg zb4, pL [hI], pL [hI]], []⟩
def E189 (x : P189.den) (k : KK R) : Option R := graph_operations_c2 N x.1.1.1 x.1.1.2.1 x.1.1.2.2.1 x.1.1.2.2.2.1 x.1.2.1 x.1.2.2.1 (fun r0 => k [] [dI r0] [])
def F189 : CfS R := uC (F188 N) 210 P189 (E189 N)
theorem F189_ok : FOK (F189 N : CfS R) (runF T) := uCk (F188_ok N) c210
def graph_operations_c1 (N : Nat) {R : Type} (a0 a1 : Int) (a2 : List Int) (a3 : Int) (a4 a5 : List Int) (k0 : Int → Option R) : Option R := (k0 a3)
def P190 : AP := ⟨[.agg zb4, pL [hI], pL [hI]], []⟩
def E190 (x : P190.den) (k : KK R) : Option R := graph_operations_c1 N x.1.1.1 x.1.1.2.1 x.1.1.2.2.1 x.1.1.2.2.2.1 x.1.2.1 x.1.2.2.1 (fun r0 => k [] [dI r0] [])
def F190 : CfS R := uC (F189 N) 207 P190 (E190 N)
theorem F190_ok : FOK (F190 N : CfS R) (runF T) := uCk (F189_ok N) c207
def H191 : Nat → Option (List Sh) := fun n => if n = 19000 then some [hI] else if n = 26000 then some [hI] else none
def graph_applied_l0 (N : Nat) {R : Type} (k0 : Int → Int → List Int → Int → List Int → List Int → Option R) : Nat → zt2 → List Int → List Int → Int → Int → Int → Int → List Int → Int → List Int → List Int → Option R
  | 0, _, _, _, _, _, _, _, _, _, _, _ => none
  | n + 1, b0, b1, b2, b3, b4, b5, b6, b7, b8, b9, b10 => (bif decide (b4 < b3) then ((at? b2 b4).bind fun x1 => ((at? b0 x1).bind fun x2 => (bif roomB (b9.length + 1) 8 then ((at? b1 x1).bind fun x3 => (bif roomB (b10.length + 1) 8 then (graph_applied_l0 N k0 n b0 b1 b2 b3 (w64 (b4 + 1)) b5 b6 b7 b8 (b9 ++ [x2.2.1]) (b10 ++ [x3])) else none)) else none))) else (k0 b5 b6 b7 b8 b9 b10))
def P191_l0 : SP := ⟨[(0, .p (.cp [.ks (ByteArray.mk #[99, 111, 110, 115, 116]), .ki .i64 0, .kb true, .fn 208 [], .fn 207 [], .ks (ByteArray.mk #[108, 101, 97, 102]), .ki .i64 0, .kb true, .fn 208 [], .fn 207 [], .ks (ByteArray.mk #[110, 111, 116]), .ki .i64 1, .kb false, .fn 209 [], .fn 210 [], .ks (ByteArray.mk #[97, 110, 100]), .ki .i64 2, .kb false, .fn 209 [], .fn 244 [.cp [.fn 213 []]], .ks (ByteArray.mk #[111, 114]), .ki .i64 2, .kb false, .fn 209 [], .fn 244 [.cp [.fn 214 []]], .ks (ByteArray.mk #[120, 111, 114]), .ki .i64 2, .kb false, .fn 209 [], .fn 244 [.cp [.fn 215 []]], .ks (ByteArray.mk #[97, 100, 100]), .ki .i64 2, .kb false, .fn 209 [], .fn 244 [.cp [.fn 216 []]], .ks (ByteArray.mk #[115, 117, 98]), .ki .i64 2, .kb false, .fn 209 [], .fn 244 [.cp [.fn 217 []]], .ks (ByteArray.mk #[109, 117, 108]), .ki .i64 2, .kb false, .fn 209 [], .fn 244 [.cp [.fn 218 []]], .ks (ByteArray.mk #[101, 113]), .ki .i64 2, .kb false, .fn 245 [], .fn 246 [.cp [.fn 220 []]], .ks (ByteArray.mk #[108, 116]), .ki .i64 2, .kb false, .fn 245 [], .fn 246 [.cp [.fn 221 []]], .ks (ByteArray.mk #[115, 108, 116]), .ki .i64 2, .kb false, .fn 245 [], .fn 246 [.cp [.fn 222 []]], .ks (ByteArray.mk #[109, 117, 120]), .ki .i64 3, .kb false, .fn 224 [], .fn 225 [], .ks (ByteArray.mk #[106, 111, 105, 110]), .ki .i64 2, .kb false, .fn 226 [], .fn 227 [], .ks (ByteArray.mk #[115, 108, 105, 99, 101]), .ki .i64 1, .kb true, .fn 228 [], .fn 229 [], .ks (ByteArray.mk #[122, 101, 120, 116]), .ki .i64 1, .kb false, .fn 230 [], .fn 231 [], .ks (ByteArray.mk #[115, 101, 120, 116]), .ki .i64 1, .kb false, .fn 230 [], .fn 232 [], .ks (ByteArray.mk #[115, 104, 108]), .ki .i64 2, .kb false, .fn 233 [], .fn 234 [], .ks (ByteArray.mk #[115, 104, 114]), .ki .i64 2, .kb false, .fn 233 [], .fn 235 []])), (1, pL zs1), (3, pL [hI]), (6, .ptr 0 0), (9, .own 1), (10, .own 2), (14, pL [hI]), (15, pI), (16, pI)], [(0, .box zb4), (1, .arr [hI]), (2, .arr [hI])]⟩
def E191_l0 (n : Nat) (x : P191_l0.den) (k : KS R) : Option R := graph_applied_l0 N (fun r0 r1 r2 r3 r4 r5 => k (.ex 0) ⟨[(0, .p (.cp [.s (ByteArray.mk #[99, 111, 110, 115, 116]), .i .i64 0, .b true, .fn 208 [], .fn 207 [], .s (ByteArray.mk #[108, 101, 97, 102]), .i .i64 0, .b true, .fn 208 [], .fn 207 [], .s (ByteArray.mk #[110, 111, 116]), .i .i64 1, .b false, .fn 209 [], .fn 210 [], .s (ByteArray.mk #[97, 110, 100]), .i .i64 2, .b false, .fn 209 [], .fn 244 [.cp [.fn 213 []]], .s (ByteArray.mk #[111, 114]), .i .i64 2, .b false, .fn 209 [], .fn 244 [.cp [.fn 214 []]], .s (ByteArray.mk #[120, 111, 114]), .i .i64 2, .b false, .fn 209 [], .fn 244 [.cp [.fn 215 []]], .s (ByteArray.mk #[97, 100, 100]), .i .i64 2, .b false, .fn 209 [], .fn 244 [.cp [.fn 216 []]], .s (ByteArray.mk #[115, 117, 98]), .i .i64 2, .b false, .fn 209 [], .fn 244 [.cp [.fn 217 []]], .s (ByteArray.mk #[109, 117, 108]), .i .i64 2, .b false, .fn 209 [], .fn 244 [.cp [.fn 218 []]], .s (ByteArray.mk #[101, 113]), .i .i64 2, .b false, .fn 245 [], .fn 246 [.cp [.fn 220 []]], .s (ByteArray.mk #[108, 116]), .i .i64 2, .b false, .fn 245 [], .fn 246 [.cp [.fn 221 []]], .s (ByteArray.mk #[115, 108, 116]), .i .i64 2, .b false, .fn 245 [], .fn 246 [.cp [.fn 222 []]], .s (ByteArray.mk #[109, 117, 120]), .i .i64 3, .b false, .fn 224 [], .fn 225 [], .s (ByteArray.mk #[106, 111, 105, 110]), .i .i64 2, .b false, .fn 226 [], .fn 227 [], .s (ByteArray.mk #[115, 108, 105, 99, 101]), .i .i64 1, .b true, .fn 228 [], .fn 229 [], .s (ByteArray.mk #[122, 101, 120, 116]), .i .i64 1, .b false, .fn 230 [], .fn 231 [], .s (ByteArray.mk #[115, 101, 120, 116]), .i .i64 1, .b false, .fn 230 [], .fn 232 [], .s (ByteArray.mk #[115, 104, 108]), .i .i64 2, .b false, .fn 233 [], .fn 234 [], .s (ByteArray.mk #[115, 104, 114]), .i .i64 2, .b false, .fn 233 [], .fn 235 []])), (6, .ptr 0 0), (9, .own 1), (10, .own 2)], [(0, .box [dI r0, dI r1, dL [hI] r2, dI r3]), (1, .arr (.t [hI] r4)), (2, .arr (.t [hI] r5))]⟩) n x.1.2.1 x.1.2.2.1 x.1.2.2.2.2.2.2.1 x.1.2.2.2.2.2.2.2.1 x.1.2.2.2.2.2.2.2.2.1 x.2.1.1 x.2.1.2.1 x.2.1.2.2.1 x.2.1.2.2.2.1 x.2.2.1 x.2.2.2.1
theorem O191_l0 : LpG T P191_l0 (E191_l0 N (R := R)) [0, 1, 3, 6, 9, 10, 14, 15, 16] c191_l0 := lpk (F190_ok N) 58 (H := H191)
def L191_1 : LpS R := updL noL 58 (lent' P191_l0 (E191_l0 N N))
def graph_applied (N : Nat) {R : Type} (a0 : zt2) (a1 a2 : Int) (a3 : List Int) (a4 : Int) (a5 : List Int) (k0 : Int → Option R) : Option R := (graph_applied_l0 N (fun z4 z5 z6 z7 z8 z9 => (bif decide (z4 = 18) then (graph_operations_c21 N z4 z5 z6 z7 z8 z9 k0) else (bif decide (z4 = 17) then (graph_operations_c20 N z4 z5 z6 z7 z8 z9 k0) else (bif decide (z4 = 16) then (graph_operations_c19 N z4 z5 z6 z7 z8 z9 k0) else (bif decide (z4 = 15) then (graph_operations_c18 N z4 z5 z6 z7 z8 z9 k0) else (bif decide (z4 = 14) then (graph_operations_c17 N z4 z5 z6 z7 z8 z9 k0) else (bif decide (z4 = 13) then (graph_operations_c15 N z4 z5 z6 z7 z8 z9 k0) else (bif decide (z4 = 12) then (graph_operations_c13 N z4 z5 z6 z7 z8 z9 k0) else (bif decide (z4 = 11) then (graph_relation_c1_operations_c11 N z4 z5 z6 z7 z8 z9 k0) else (bif decide (z4 = 10) then (graph_relation_c1_operations_c10 N z4 z5 z6 z7 z8 z9 k0) else (bif decide (z4 = 9) then (graph_relation_c1_operations_c9 N z4 z5 z6 z7 z8 z9 k0) else (bif decide (z4 = 8) then (graph_binary_c1_operations_c8 N z4 z5 z6 z7 z8 z9 k0) else (bif decide (z4 = 7) then (graph_binary_c1_operations_c7 N z4 z5 z6 z7 z8 z9 k0) else (bif decide (z4 = 6) then (graph_binary_c1_operations_c6 N z4 z5 z6 z7 z8 z9 k0) else (bif decide (z4 = 5) then (graph_binary_c1_operations_c5 N z4 z5 z6 z7 z8 z9 k0) else (bif decide (z4 = 4) then (graph_binary_c1_operations_c4 N z4 z5 z6 z7 z8 z9 k0) else (bif decide (z4 = 3) then (graph_binary_c1_operations_c3 N z4 z5 z6 z7 z8 z9 k0) else (bif decide (z4 = 2) then (graph_operations_c2 N z4 z5 z6 z7 z8 z9 k0) else (bif decide (z4 = 1) then (graph_operations_c1 N z4 z5 z6 z7 z8 z9 k0) else (bif decide (z4 = 0) then (graph_operations_c1 N z4 z5 z6 z7 z8 z9 k0) else none)))))))))))))))))))) N a0 a5 a3 ((a3.length : Nat) : Int) 0 a1 a2 a3 a4 [] [])
def P191 : AP := ⟨[.p (.cp [.ks (ByteArray.mk #[99, 111, 110, 115, 116]), .ki .i64 0, .kb true, .fn 208 [], .fn 207 [], .ks (ByteArray.mk #[108, 101, 97, 102]), .ki .i64 0, .kb true, .fn 208 [], .fn 207 [], .ks (ByteArray.mk #[110, 111, 116]), .ki .i64 1, .kb false, .fn 209 [], .fn 210 [], .ks (ByteArray.mk #[97, 110, 100]), .ki .i64 2, .kb false, .fn 209 [], .fn 244 [.cp [.fn 213 []]], .ks (ByteArray.mk #[111, 114]), .ki .i64 2, .kb false, .fn 209 [], .fn 244 [.cp [.fn 214 []]], .ks (ByteArray.mk #[120, 111, 114]), .ki .i64 2, .kb false, .fn 209 [], .fn 244 [.cp [.fn 215 []]], .ks (ByteArray.mk #[97, 100, 100]), .ki .i64 2, .kb false, .fn 209 [], .fn 244 [.cp [.fn 216 []]], .ks (ByteArray.mk #[115, 117, 98]), .ki .i64 2, .kb false, .fn 209 [], .fn 244 [.cp [.fn 217 []]], .ks (ByteArray.mk #[109, 117, 108]), .ki .i64 2, .kb false, .fn 209 [], .fn 244 [.cp [.fn 218 []]], .ks (ByteArray.mk #[101, 113]), .ki .i64 2, .kb false, .fn 245 [], .fn 246 [.cp [.fn 220 []]], .ks (ByteArray.mk #[108, 116]), .ki .i64 2, .kb false, .fn 245 [], .fn 246 [.cp [.fn 221 []]], .ks (ByteArray.mk #[115, 108, 116]), .ki .i64 2, .kb false, .fn 245 [], .fn 246 [.cp [.fn 222 []]], .ks (ByteArray.mk #[109, 117, 120]), .ki .i64 3, .kb false, .fn 224 [], .fn 225 [], .ks (ByteArray.mk #[106, 111, 105, 110]), .ki .i64 2, .kb false, .fn 226 [], .fn 227 [], .ks (ByteArray.mk #[115, 108, 105, 99, 101]), .ki .i64 1, .kb true, .fn 228 [], .fn 229 [], .ks (ByteArray.mk #[122, 101, 120, 116]), .ki .i64 1, .kb false, .fn 230 [], .fn 231 [], .ks (ByteArray.mk #[115, 101, 120, 116]), .ki .i64 1, .kb false, .fn 230 [], .fn 232 [], .ks (ByteArray.mk #[115, 104, 108]), .ki .i64 2, .kb false, .fn 233 [], .fn 234 [], .ks (ByteArray.mk #[115, 104, 114]), .ki .i64 2, .kb false, .fn 233 [], .fn 235 []]), pL zs1, .agg zb4, pL [hI]], []⟩
def E191 (x : P191.den) (k : KK R) : Option R := graph_applied N x.1.2.1 x.1.2.2.1.1 x.1.2.2.1.2.1 x.1.2.2.1.2.2.1 x.1.2.2.1.2.2.2.1 x.1.2.2.2.1 (fun r0 => k [] [dI r0] [])
def F191 : CfS R := uC (F190 N) 191 P191 (E191 N)
theorem F191_ok : FOK (F191 N : CfS R) (runF T) := uCk (F190_ok N) c191 (H := H191) (Lp := (L191_1 N)) (hl := (LOK_of (l := [(58, [0, 1, 3, 6, 9, 10, 14, 15, 16], c191_l0)]) (by kernel_rfl) ⟨(updL_ok (O191_l0 N N)), trivial⟩))
def H192 : Nat → Option (List Sh) := fun n => if n = 23000 then some [hI] else if n = 33000 then some [hI] else none
def graph_valued_l0 (N : Nat) {R : Type} (k0 : List Int → Option R) : Nat → zt2 → List Int → zt2 → Int → Int → List Int → Option R
  | 0, _, _, _, _, _, _ => none
  | n + 1, b0, b1, b2, b3, b4, b5 => (bif decide (b4 < b3) then ((at? b2 b4).bind fun x1 => (bif decide (x1.1 = 1) then ((at? b1 x1.2.2.2).bind fun x2 => (bif roomB (b5.length + 1) 8 then (graph_valued_l0 N k0 n b0 b1 b2 b3 (w64 (b4 + 1)) (b5 ++ [x2])) else none)) else (graph_applied N b0 x1.1 x1.2.1 x1.2.2.1 x1.2.2.2 b5 (fun y3 => (bif roomB (b5.length + 1) 8 then (graph_valued_l0 N k0 n b0 b1 b2 b3 (w64 (b4 + 1)) (b5 ++ [y3])) else none))))) else (k0 b5))
def P192_l0 : SP := ⟨[(0, pL zs1), (1, pL [hI]), (5, .ptr 0 0), (6, .own 1), (11, pL zs1), (12, pI), (13, pI)], [(0, .box zb0), (1, .arr [hI])]⟩
def E192_l0 (n : Nat) (x : P192_l0.den) (k : KS R) : Option R := graph_valued_l0 N (fun r0 => k (.ex 0) ⟨[(6, .own 0)], [(0, .arr (.t [hI] r0))]⟩) n x.1.1 x.1.2.1 x.1.2.2.2.2.1 x.1.2.2.2.2.2.1 x.1.2.2.2.2.2.2.1 x.2.2.1
theorem O192_l0 : LpG T P192_l0 (E192_l0 N (R := R)) [0, 1, 5, 6, 11, 12, 13] c155_l0 := lpk (F191_ok N) 122 (H := H192)
def L192_1 : LpS R := updL noL 122 (lent' P192_l0 (E192_l0 N N))
def graph_valued (N : Nat) {R : Type} (a0 : zt2) (a1 : List Int) (k0 : List Int → Option R) : Option R := (graph_operations N (graph_valued_l0 N k0 N a0 a1 a0 ((a0.length : Nat) : Int) 0 []))
def P192 : AP := ⟨[pL zs1, pL [hI]], []⟩
def E192 (x : P192.den) (k : KK R) : Option R := graph_valued N x.1.1 x.1.2.1 (fun r0 => k [] [dL [hI] r0] [])
def F192 : CfS R := uC (F191 N) 155 P192 (E192 N)
theorem F192_ok : FOK (F192 N : CfS R) (runF T) := uCk (F191_ok N) c155 (H := H192) (Lp := (L192_1 N)) (hl := (LOK_of (l := [(122, [0, 1, 5, 6, 11, 12, 13], c155_l0)]) (by kernel_rfl) ⟨(updL_ok (O192_l0 N N)), trivial⟩))
def H193 : Nat → Option (List Sh) := fun n => if n = 13000 then some [hI] else none
def graph_ValuesOf (N : Nat) {R : Type} (a0 : List Int) (a1 : zt2) (a2 : List Int) (k0 : List Int → Int → Option R) : Option R := (graph_graphErr N a0 a1 (fun y1 => (graph_unless N (decide (((a2.length : Nat) : Int) = ((a0.length : Nat) : Int))) 10 (fun y2 => (graph_first N [y1, y2] (fun y3 => (bif decide (y3 ≠ 0) then (k0 [] y3) else (graph_each_int_ValuesOf_c1 N a2 a0 (fun y4 y5 y6 => (bif decide (y5 ≠ 0) then (k0 [] y5) else (graph_valued N a1 a2 (fun y7 => (k0 y7 0)))))))))))))
def P193 : AP := ⟨[pL [hI], pL zs1, pL [hI]], []⟩
def E193 (x : P193.den) (k : KK R) : Option R := graph_ValuesOf N x.1.1 x.1.2.1 x.1.2.2.1 (fun r0 r1 => k [] [dL [hI] r0, dI r1] [])
def F193 : CfS R := uC (F192 N) 89 P193 (E193 N)
theorem F193_ok : FOK (F193 N : CfS R) (runF T) := uCk (F192_ok N) c89 (H := H193) (rp := [⟨[pL [hI], pI], []⟩])
def H194 : Nat → Option (List Sh) := fun n => if n = 11000 then some [.sl [hI]] else none
def design_network_values (N : Nat) {R : Type} (a0 : ByteArray) (a1 : zt6) (a2 : zt1) (a3 : zt2) (a4 : zt0) (a5 : zt6) (a6 : zt5) (a7 a8 : List Int) (k0 : List Int → Option R) : Option R := (design_leaves N a0 a1 a2 a3 a4 a5 a6 (fun y1 => (slices_Concat_state_int N [a7, a8] (fun y2 => (graph_ValuesOf N y1 a3 y2 (fun y3 y4 => (k0 y3)))))))
def P194 : AP := ⟨[.agg zb2, pL [hI], pL [hI]], []⟩
def E194 (x : P194.den) (k : KK R) : Option R := design_network_values N x.1.1.1 x.1.1.2.1 x.1.1.2.2.1 x.1.1.2.2.2.1 x.1.1.2.2.2.2.1 x.1.1.2.2.2.2.2.1 x.1.1.2.2.2.2.2.2.1 x.1.2.1 x.1.2.2.1 (fun r0 => k [] [dL [hI] r0] [])
def F194 : CfS R := uC (F193 N) 52 P194 (E194 N)
theorem F194_ok : FOK (F194 N : CfS R) (runF T) := uCk (F193_ok N) c52 (H := H194)
def X195 : Nat → List SP := fun p => if p = 117 then [⟨[(6, .own 0), (7, pI)], [(0, .arr [hI])]⟩] else []
def H195 : Nat → Option (List Sh) := fun n => if n = 40000 then some [hI] else none
def design_OutputsIn_l0 (N : Nat) {R : Type} (k0 : List Int → Option R) : Nat → List Int → zt6 → Int → Int → List Int → Option R
  | 0, _, _, _, _, _ => none
  | n + 1, b0, b1, b2, b3, b4 => (bif decide (b3 < b2) then ((at? b1 b3).bind fun x1 => ((at? b0 x1.2).bind fun x2 => (bif roomB (b4.length + 1) 8 then (design_OutputsIn_l0 N k0 n b0 b1 b2 (w64 (b3 + 1)) (b4 ++ [x2])) else none))) else (k0 b4))
def P195_l0 : SP := ⟨[(10, pL [hI]), (11, .own 0), (29, pL [.s, hI]), (30, pI), (31, pI)], [(0, .arr [hI])]⟩
def E195_l0 (n : Nat) (x : P195_l0.den) (k : KS R) : Option R := design_OutputsIn_l0 N (fun r0 => k (.ex 0) ⟨[(11, .own 0)], [(0, .arr (.t [hI] r0))]⟩) n x.1.1 x.1.2.2.1 x.1.2.2.2.1 x.1.2.2.2.2.1 x.2.1
theorem O195_l0 : LpG T P195_l0 (E195_l0 N (R := R)) [10, 11, 29, 30, 31] c14_l0 := lpk (F194_ok N) 506 (H := H195) (X := X195)
def L195_1 : LpS R := updL noL 506 (lent' P195_l0 (E195_l0 N N))
def design_OutputsIn (N : Nat) {R : Type} (a0 : ByteArray) (a1 : zt6) (a2 : zt1) (a3 : zt2) (a4 : zt0) (a5 : zt6) (a6 : zt5) (a7 a8 : List Int) (k0 : List Int → Int → Option R) : Option R := (design_openState N a0 a1 a2 a3 a4 a5 a6 a7 a8 (fun y1 y2 y3 y4 y5 y6 y7 y8 => (bif decide (y8 ≠ 0) then (k0 [] y8) else (design_network_values N y1 y2 y3 y4 y5 y6 y7 a7 a8 (fun y9 => (design_OutputsIn_l0 N (fun z10 => (k0 z10 0)) N y9 a5 ((a5.length : Nat) : Int) 0 []))))))
def P195 : AP := ⟨[.agg zb2, pL [hI], pL [hI]], []⟩
def E195 (x : P195.den) (k : KK R) : Option R := design_OutputsIn N x.1.1.1 x.1.1.2.1 x.1.1.2.2.1 x.1.1.2.2.2.1 x.1.1.2.2.2.2.1 x.1.1.2.2.2.2.2.1 x.1.1.2.2.2.2.2.2.1 x.1.2.1 x.1.2.2.1 (fun r0 r1 => k [] [dL [hI] r0, dI r1] [])
def F195 : CfS R := uC (F194 N) 14 P195 (E195 N)
theorem F195_ok : FOK (F195 N : CfS R) (runF T) := uCk (F194_ok N) c14 (H := H195) (Lp := (L195_1 N)) (X := X195) (hl := (LOK_of (l := [(506, [10, 11, 29, 30, 31], c14_l0)]) (by kernel_rfl) ⟨(updL_ok (O195_l0 N N)), trivial⟩))
def design_network_ruleErr (N : Nat) {R : Type} (a0 : ByteArray) (a1 : zt6) (a2 : zt1) (a3 : zt2) (a4 : zt0) (a5 : zt6) (a6 : zt5) (a7 : Int) (k0 : Int → Option R) : Option R := (design_within N a7 0 (w64 (((a4.length : Nat) : Int) - 1)) (fun y1 => (design_unless N y1 6 k0)))
def P196 : AP := ⟨[.agg zb2, pI], []⟩
def E196 (x : P196.den) (k : KK R) : Option R := design_network_ruleErr N x.1.1.1 x.1.1.2.1 x.1.1.2.2.1 x.1.1.2.2.2.1 x.1.1.2.2.2.2.1 x.1.1.2.2.2.2.2.1 x.1.1.2.2.2.2.2.2.1 x.1.2.1 (fun r0 => k [] [dI r0] [])
def F196 : CfS R := uC (F195 N) 54 P196 (E196 N)
theorem F196_ok : FOK (F196 N : CfS R) (runF T) := uCk (F195_ok N) c54
def design_network_isEnabled (N : Nat) {R : Type} (a0 : ByteArray) (a1 : zt6) (a2 : zt1) (a3 : zt2) (a4 : zt0) (a5 : zt6) (a6 : zt5) (a7 : Int) (a8 : List Int) (k0 : Bool → Option R) : Option R := ((at? a4 a7).bind fun x1 => ((at? a8 x1.2.1).bind fun x2 => (k0 (decide (x2 = 1)))))
def P197 : AP := ⟨[.agg zb2, pI, pL [hI]], []⟩
def E197 (x : P197.den) (k : KK R) : Option R := design_network_isEnabled N x.1.1.1 x.1.1.2.1 x.1.1.2.2.1 x.1.1.2.2.2.1 x.1.1.2.2.2.2.1 x.1.1.2.2.2.2.2.1 x.1.1.2.2.2.2.2.2.1 x.1.2.1 x.1.2.2.1 (fun r0 => k [] [dB r0] [])
def F197 : CfS R := uC (F196 N) 57 P197 (E197 N)
theorem F197_ok : FOK (F197 N : CfS R) (runF T) := uCk (F196_ok N) c57
def design_network_happened_l0 (N : Nat) {R : Type} (k0 : List Int → Option R) : Nat → List Int → zt7 → Int → Int → List Int → Option R
  | 0, _, _, _, _, _ => none
  | n + 1, b0, b1, b2, b3, b4 => (bif decide (b3 < b2) then ((at? b1 b3).bind fun x1 => ((at? b0 x1.2.1).bind fun x2 => (bif decide (x2 = 1) then ((at? b0 x1.2.2).bind fun x3 => (bif inR x1.1 b4.length then ((b4[x1.1.toNat]?).bind fun x4 => (design_network_happened_l0 N k0 n b0 b1 b2 (w64 (b3 + 1)) (List.set b4 x1.1.toNat x3))) else none)) else (design_network_happened_l0 N k0 n b0 b1 b2 (w64 (b3 + 1)) b4)))) else (k0 b4))
def P198_l0 : SP := ⟨[(2, pL [hI]), (9, .own 0), (20, pL zs5), (21, pI), (22, pI)], [(0, .arr [hI])]⟩
def E198_l0 (n : Nat) (x : P198_l0.den) (k : KS R) : Option R := design_network_happened_l0 N (fun r0 => k (.ex 0) ⟨[(9, .own 0)], [(0, .arr (.t [hI] r0))]⟩) n x.1.1 x.1.2.2.1 x.1.2.2.2.1 x.1.2.2.2.2.1 x.2.1
theorem O198_l0 : LpG T P198_l0 (E198_l0 N (R := R)) [2, 9, 20, 21, 22] c58_l0 := lpk (F197_ok N) 58
def L198_1 : LpS R := updL noL 58 (lent' P198_l0 (E198_l0 N N))
def design_network_happened (N : Nat) {R : Type} (a0 : ByteArray) (a1 : zt6) (a2 : zt1) (a3 : zt2) (a4 : zt0) (a5 : zt6) (a6 : zt5) (a7 : Int) (a8 a9 : List Int) (k0 : List Int → Option R) : Option R := (bif roomB a9.length 8 then ((at? a4 a7).bind fun x1 => (design_network_happened_l0 N k0 N a8 x1.2.2 ((x1.2.2.length : Nat) : Int) 0 a9)) else none)
def P198 : AP := ⟨[.agg zb2, pI, pL [hI], pL [hI]], []⟩
def E198 (x : P198.den) (k : KK R) : Option R := design_network_happened N x.1.1.1 x.1.1.2.1 x.1.1.2.2.1 x.1.1.2.2.2.1 x.1.1.2.2.2.2.1 x.1.1.2.2.2.2.2.1 x.1.1.2.2.2.2.2.2.1 x.1.2.1 x.1.2.2.1 x.1.2.2.2.1 (fun r0 => k [] [dL [hI] r0] [])
def F198 : CfS R := uC (F197 N) 58 P198 (E198 N)
theorem F198_ok : FOK (F198 N : CfS R) (runF T) := uCk (F197_ok N) c58 (Lp := (L198_1 N)) (hl := (LOK_of (l := [(58, [2, 9, 20, 21, 22], c58_l0)]) (by kernel_rfl) ⟨(updL_ok (O198_l0 N N)), trivial⟩))
def H199 : Nat → Option (List Sh) := fun n => if n = 23000 then some [hI] else none
def design_Happened_j0 (N : Nat) {R : Type} (k0 : Int → Option R) (k1 : List Int → Int → Option R) (b0 : Int) (b1 b2 : List Int) (b3 : Int) (b4 : ByteArray) (b5 : zt6) (b6 : zt1) (b7 : zt2) (b8 : zt0) (b9 : zt6) (b10 : zt5) : Option R := (bif decide (b3 ≠ 0) then (k0 b3) else (design_network_values N b4 b5 b6 b7 b8 b9 b10 b1 b2 (fun y1 => (design_network_isEnabled N b4 b5 b6 b7 b8 b9 b10 b0 y1 (fun y2 => (bif (!y2) then (k0 24) else (design_network_happened N b4 b5 b6 b7 b8 b9 b10 b0 y1 b2 (fun y3 => (k1 y3 0)))))))))
def P199_j0 : SP := ⟨[(1, pI), (2, pL [hI]), (3, pL [hI]), (10, .ptr 0 0), (11, pI)], [(0, .box zb2)]⟩
def E199_j0 (n : Nat) (x : P199_j0.den) (k : KS R) : Option R := match n with
  | 0 => none
  | _ + 1 => design_Happened_j0 N (fun r0 => k .ret ⟨[(8, .own 0), (9, dI r0)], [(0, .arr (.e 1))]⟩) (fun r0 r1 => k .ret ⟨[(8, dL [hI] r0), (9, dI r1)], []⟩) x.1.1 x.1.2.1 x.1.2.2.1 x.1.2.2.2.2.1 x.2.1.1 x.2.1.2.1 x.2.1.2.2.1 x.2.1.2.2.2.1 x.2.1.2.2.2.2.1 x.2.1.2.2.2.2.2.1 x.2.1.2.2.2.2.2.2.1
theorem O199_j0 : LpG T P199_j0 (E199_j0 N (R := R)) [1, 2, 3, 10, 11] c15_j0 := lpk (F198_ok N) 30 (H := H199)
def L199_1 : LpS R := updL noL 30 (lent' P199_j0 (E199_j0 N 1))
def design_Happened (N : Nat) {R : Type} (a0 : ByteArray) (a1 : zt6) (a2 : zt1) (a3 : zt2) (a4 : zt0) (a5 : zt6) (a6 : zt5) (a7 : Int) (a8 a9 : List Int) (k0 : List Int → Int → Option R) : Option R := (design_open N a0 a1 a2 a3 a4 a5 a6 (fun y1 y2 y3 y4 y5 y6 y7 y8 => (bif decide (y8 = 0) then (design_network_ruleErr N y1 y2 y3 y4 y5 y6 y7 a7 (fun y9 => (design_network_inputsErr N y1 y2 y3 y4 y5 y6 y7 a8 (fun y10 => (design_network_stateErr N y1 y2 y3 y4 y5 y6 y7 a9 (fun y11 => (design_first N [y9, y10, y11] (fun y12 => (design_Happened_j0 N (fun z13 => (k0 [] z13)) k0 a7 a8 a9 y12 y1 y2 y3 y4 y5 y6 y7))))))))) else (design_Happened_j0 N (fun z16 => (k0 [] z16)) k0 a7 a8 a9 y8 y1 y2 y3 y4 y5 y6 y7))))
def P199 : AP := ⟨[.agg zb2, pI, pL [hI], pL [hI]], []⟩
def E199 (x : P199.den) (k : KK R) : Option R := design_Happened N x.1.1.1 x.1.1.2.1 x.1.1.2.2.1 x.1.1.2.2.2.1 x.1.1.2.2.2.2.1 x.1.1.2.2.2.2.2.1 x.1.1.2.2.2.2.2.2.1 x.1.2.1 x.1.2.2.1 x.1.2.2.2.1 (fun r0 r1 => k [] [dL [hI] r0, dI r1] [])
def F199 : CfS R := uC (F198 N) 15 P199 (E199 N)
theorem F199_ok : FOK (F199 N : CfS R) (runF T) := uCk (F198_ok N) c15 (H := H199) (Lp := (L199_1 N)) (rp := [⟨[pL [hI], pI], []⟩]) (hl := (LOK_of (l := [(30, [1, 2, 3, 10, 11], c15_j0)]) (by kernel_rfl) ⟨(updL_ok (O199_j0 N 1)), trivial⟩))
def X200 : Nat → List SP := fun p => if p = 237 then [⟨[(4, .own 0), (5, pI)], [(0, .arr [hI])]⟩] else if p = 245 then [⟨[(4, .own 0), (5, pI)], [(0, .arr [hI])]⟩] else []
def H200 : Nat → Option (List Sh) := fun n => if n = 17000 then some [hI] else if n = 48000 then some [hI] else if n = 62000 then some [hI] else none
def arith_Filtered_l0 (N : Nat) {R : Type} (k0 : List Int → Option R) : Nat → List Int → List Int → Int → Int → ByteArray → zt6 → zt1 → zt2 → zt0 → zt6 → List Int → Option R
  | 0, _, _, _, _, _, _, _, _, _, _, _ => none
  | n + 1, b0, b1, b2, b3, b4, b5, b6, b7, b8, b9, b10 => (bif decide (b3 < b2) then ((at? b1 b3).bind fun x1 => (design_OutputsIn N b4 b5 b6 b7 b8 b9 [] [x1] b0 (fun y2 y3 => (bif roomB (b10.length + y2.length) 8 then (design_Happened N b4 b5 b6 b7 b8 b9 [] 0 [x1] b0 (fun y4 y5 => (arith_Filtered_l0 N k0 n y4 b1 b2 (w64 (b3 + 1)) b4 b5 b6 b7 b8 b9 (b10 ++ y2)))) else none)))) else (k0 b10))
def P200_l0 : SP := ⟨[(6, .ptr 0 0), (8, pL [hI]), (10, .own 1), (39, pL [hI]), (40, pI), (41, pI)], [(0, .box zb7), (1, .arr [hI])]⟩
def E200_l0 (n : Nat) (x : P200_l0.den) (k : KS R) : Option R := arith_Filtered_l0 N (fun r0 => k (.ex 0) ⟨[(10, .own 0)], [(0, .arr (.t [hI] r0))]⟩) n x.1.2.1 x.1.2.2.2.1 x.1.2.2.2.2.1 x.1.2.2.2.2.2.1 x.2.1.1 x.2.1.2.1 x.2.1.2.2.1 x.2.1.2.2.2.1 x.2.1.2.2.2.2.1 x.2.1.2.2.2.2.2.1 x.2.2.1
theorem O200_l0 : LpG T P200_l0 (E200_l0 N (R := R)) [6, 8, 10, 39, 40, 41] c10_l0 := lpk (F199_ok N) 1018 (H := H200) (X := X200)
def L200_1 : LpS R := updL noL 1018 (lent' P200_l0 (E200_l0 N N))
def arith_Filtered (N : Nat) {R : Type} (a0 : List Int) (a1 a2 : Int) (a3 : List Int) (k0 : List Int → Int → Option R) : Option R := (arith_FilterOf N a0 a1 a2 (fun y1 y2 y3 y4 y5 y6 y7 => (arith_unless N (decide (((a3.length : Nat) : Int) ≤ 30)) 8 (fun y8 => (arith_first N [y7, y8] (fun y9 => (bif decide (y9 ≠ 0) then (k0 [] y9) else (arith_each_int_Filtered_c1 N a3 a0 a1 a2 (fun y10 y11 y12 y13 => (bif (!y10) then (k0 [] 2) else (design_ResetOf N y1 y2 y3 y4 y5 y6 [] (fun y14 y15 => (arith_Filtered_l0 N (fun z16 => (k0 z16 0)) N y14 a3 ((a3.length : Nat) : Int) 0 y1 y2 y3 y4 y5 y6 [])))))))))))))
def P200 : AP := ⟨[.agg zb5, pL [hI]], []⟩
def E200 (x : P200.den) (k : KK R) : Option R := arith_Filtered N x.1.1.1 x.1.1.2.1 x.1.1.2.2.1 x.1.2.1 (fun r0 r1 => k [] [dL [hI] r0, dI r1] [])
def F200 : CfS R := uC (F199 N) 10 P200 (E200 N)
theorem F200_ok : FOK (F200 N : CfS R) (runF T) := uCk (F199_ok N) c10 (H := H200) (Lp := (L200_1 N)) (X := X200) (hl := (LOK_of (l := [(1018, [6, 8, 10, 39, 40, 41], c10_l0)]) (by kernel_rfl) ⟨(updL_ok (O200_l0 N N)), trivial⟩))
def ratchetbase_Within (N : Nat) {R : Type} (a0 a1 a2 : Int) (k0 : Bool → Option R) : Option R := (bif decide (a1 ≤ a0) then (k0 (decide (a0 ≤ a2))) else (k0 false))
def P201 : AP := ⟨[pI, pI, pI], []⟩
def E201 (x : P201.den) (k : KK R) : Option R := ratchetbase_Within N x.1.1 x.1.2.1 x.1.2.2.1 (fun r0 => k [] [dB r0] [])
def F201 : CfS R := uC (F200 N) 31 P201 (E201 N)
theorem F201_ok : FOK (F201 N : CfS R) (runF T) := uCk (F200_ok N) c31
def ratchetref30_SamplesErr_l0 (N : Nat) {R : Type} (k0 : Int → Option R) (k1 : Option R) : Nat → List Int → Int → Option R
  | 0, _, _ => none
  | n + 1, b0, b1 => (bif decide (b1 < ((b0.length : Nat) : Int)) then ((at? b0 b1).bind fun x1 => (ratchetbase_Within N x1 (-1000) 1000 (fun y2 => (bif (!y2) then (k0 2) else (ratchetref30_SamplesErr_l0 N k0 k1 n b0 (w64 (b1 + 1))))))) else k1)
def P202_l0 : SP := ⟨[(0, pL [hI]), (3, pI)], []⟩
def E202_l0 (n : Nat) (x : P202_l0.den) (k : KS R) : Option R := ratchetref30_SamplesErr_l0 N (fun r0 => k .ret ⟨[(2, dI r0)], []⟩) (k (.ex 0) ⟨[], []⟩) n x.1.1 x.1.2.1
theorem O202_l0 : LpG T P202_l0 (E202_l0 N (R := R)) [0, 3] c19_l0 := lpk (F201_ok N) 122
def L202_1 : LpS R := updL noL 122 (lent' P202_l0 (E202_l0 N N))
def ratchetref30_SamplesErr (N : Nat) {R : Type} (a0 : List Int) (k0 : Int → Option R) : Option R := (bif decide (((a0.length : Nat) : Int) = 0) then (k0 10) else (bif decide (30 < ((a0.length : Nat) : Int)) then (k0 8) else (ratchetref30_SamplesErr_l0 N k0 (k0 0) N a0 0)))
def P202 : AP := ⟨[pL [hI]], []⟩
def E202 (x : P202.den) (k : KK R) : Option R := ratchetref30_SamplesErr N x.1.1 (fun r0 => k [] [dI r0] [])
def F202 : CfS R := uC (F201 N) 19 P202 (E202 N)
theorem F202_ok : FOK (F202 N : CfS R) (runF T) := uCk (F201_ok N) c19 (Lp := (L202_1 N)) (hl := (LOK_of (l := [(122, [0, 3], c19_l0)]) (by kernel_rfl) ⟨(updL_ok (O202_l0 N N)), trivial⟩))
def H203 : Nat → Option (List Sh) := fun n => if n = 8000 then some [hI] else none
def ratchetref30_Convolve_l1 (N : Nat) {R : Type} (k0 : List Int → List Int → Int → List Int → Option R) : Nat → List Int → List Int → Int → Int → List Int → Option R
  | 0, _, _, _, _, _ => none
  | n + 1, b0, b1, b2, b3, b4 => (bif decide (b3 < ((b1.length : Nat) : Int)) then (bif inR (w64 (b2 + b3)) b4.length then ((b4[(w64 (b2 + b3)).toNat]?).bind fun x1 => ((at? b0 b2).bind fun x2 => ((at? b1 b3).bind fun x3 => (bif inR (w64 (b2 + b3)) b4.length then ((b4[(w64 (b2 + b3)).toNat]?).bind fun x4 => (ratchetref30_Convolve_l1 N k0 n b0 b1 b2 (w64 (b3 + 1)) (List.set b4 ((w64 (b2 + b3)).toNat) (w64 (x1 + (w64 (x2 * x3))))))) else none)))) else none) else (k0 b0 b1 b2 b4))
def P203_l1 : SP := ⟨[(0, pL [hI]), (1, pL [hI]), (5, .own 0), (6, pI), (7, pI)], [(0, .arr [hI])]⟩
def E203_l1 (n : Nat) (x : P203_l1.den) (k : KS R) : Option R := ratchetref30_Convolve_l1 N (fun r0 r1 r2 r3 => k (.ex 2) ⟨[(0, dL [hI] r0), (1, dL [hI] r1), (5, .own 0), (6, dI r2)], [(0, .arr (.t [hI] r3))]⟩) n x.1.1 x.1.2.1 x.1.2.2.2.1 x.1.2.2.2.2.1 x.2.1
theorem O203_l1 : LpG T P203_l1 (E203_l1 N (R := R)) [0, 1, 5, 6, 7] c21_l1 := lpk (F202_ok N) 3730 (H := H203)
def L203_1 : LpS R := updL noL 3730 (lent' P203_l1 (E203_l1 N N))
def ratchetref30_Convolve_l0 (N : Nat) {R : Type} (k0 : List Int → Option R) : Nat → List Int → List Int → Int → List Int → Option R
  | 0, _, _, _, _ => none
  | n + 1, b0, b1, b2, b3 => (bif decide (b2 < ((b0.length : Nat) : Int)) then (ratchetref30_Convolve_l1 N (fun z5 z6 z7 z8 => (ratchetref30_Convolve_l0 N k0 n z5 z6 (w64 (z7 + 1)) z8)) N b0 b1 b2 0 b3) else (k0 b3))
def P203_l0 : SP := ⟨[(0, pL [hI]), (1, pL [hI]), (5, .own 0), (6, pI)], [(0, .arr [hI])]⟩
def E203_l0 (n : Nat) (x : P203_l0.den) (k : KS R) : Option R := ratchetref30_Convolve_l0 N (fun r0 => k (.ex 0) ⟨[(5, .own 0)], [(0, .arr (.t [hI] r0))]⟩) n x.1.1 x.1.2.1 x.1.2.2.2.1 x.2.1
theorem O203_l0 : LpG T P203_l0 (E203_l0 N (R := R)) [0, 1, 5, 6] c21_l0 := lpk (F202_ok N) 58 (H := H203) (Lp := (L203_1 N)) (hl := (LOK_of (l := [(3730, [0, 1, 5, 6, 7], c21_l1)]) (by kernel_rfl) ⟨(updL_ok (O203_l1 N N)), trivial⟩))
def L203_2 : LpS R := updL (L203_1 N) 58 (lent' P203_l0 (E203_l0 N N))
def ratchetref30_Convolve (N : Nat) {R : Type} (a0 a1 : List Int) (k0 : List Int → Option R) : Option R := (bif decide (0 ≤ (w64 ((w64 (((a0.length : Nat) : Int) + ((a1.length : Nat) : Int))) - 1)) ∧ (w64 ((w64 (((a0.length : Nat) : Int) + ((a1.length : Nat) : Int))) - 1)) ≤ (w64 ((w64 (((a0.length : Nat) : Int) + ((a1.length : Nat) : Int))) - 1))) then (bif roomB ((w64 ((w64 (((a0.length : Nat) : Int) + ((a1.length : Nat) : Int))) - 1)).toNat) 8 then (ratchetref30_Convolve_l0 N k0 N a0 a1 0 (List.replicate ((w64 ((w64 (((a0.length : Nat) : Int) + ((a1.length : Nat) : Int))) - 1)).toNat) 0)) else none) else none)
def P203 : AP := ⟨[pL [hI], pL [hI]], []⟩
def E203 (x : P203.den) (k : KK R) : Option R := ratchetref30_Convolve N x.1.1 x.1.2.1 (fun r0 => k [] [dL [hI] r0] [])
def F203 : CfS R := uC (F202 N) 21 P203 (E203 N)
theorem F203_ok : FOK (F203 N : CfS R) (runF T) := uCk (F202_ok N) c21 (H := H203) (Lp := (L203_2 N)) (hl := (LOK_of (l := [(58, [0, 1, 5, 6], c21_l0)]) (by kernel_rfl) ⟨(updL_ok (O203_l0 N N)), trivial⟩))
def ratchetref30_FilterErr_l0 (N : Nat) {R : Type} (k0 : Int → Option R) (k1 : List Int → Int → Int → Option R) : Nat → Int → List Int → Int → Int → Option R
  | 0, _, _, _, _ => none
  | n + 1, b0, b1, b2, b3 => (bif decide (b0 < ((b1.length : Nat) : Int)) then ((at? b1 b0).bind fun x1 => (ratchetbase_Within N x1 (-7) 7 (fun y2 => (bif (!y2) then (k0 2) else (ratchetref30_FilterErr_l0 N k0 k1 n (w64 (b0 + 1)) b1 b2 b3))))) else (k1 b1 b2 b3))
def P204_l0 : SP := ⟨[(1, .ptr 0 0), (3, pI)], [(0, .box zb5)]⟩
def E204_l0 (n : Nat) (x : P204_l0.den) (k : KS R) : Option R := ratchetref30_FilterErr_l0 N (fun r0 => k .ret ⟨[(2, dI r0)], []⟩) (fun r0 r1 r2 => k (.ex 0) ⟨[(1, .ptr 0 0)], [(0, .box (zd9 r0 r1 r2))]⟩) n x.1.2.1 x.2.1.1 x.2.1.2.1 x.2.1.2.2.1
theorem O204_l0 : LpG T P204_l0 (E204_l0 N (R := R)) [1, 3] c22_l0 := lpk (F203_ok N) 122
def L204_1 : LpS R := updL noL 122 (lent' P204_l0 (E204_l0 N N))
def ratchetref30_FilterErr (N : Nat) {R : Type} (a0 : List Int) (a1 a2 : Int) (k0 : Int → Option R) : Option R := (bif decide (((a0.length : Nat) : Int) = 0) then (k0 10) else (bif decide (4 < ((a0.length : Nat) : Int)) then (k0 8) else (ratchetref30_FilterErr_l0 N k0 (fun z4 z5 z6 => (ratchetbase_Within N z5 1 8 (fun y7 => (bif (!y7) then (k0 25) else (ratchetbase_Within N z6 z5 16 (fun y8 => (bif (!y8) then (k0 25) else (k0 0)))))))) N 0 a0 a1 a2)))
def P204 : AP := ⟨[.agg zb5], []⟩
def E204 (x : P204.den) (k : KK R) : Option R := ratchetref30_FilterErr N x.1.1.1 x.1.1.2.1 x.1.1.2.2.1 (fun r0 => k [] [dI r0] [])
def F204 : CfS R := uC (F203 N) 22 P204 (E204 N)
theorem F204_ok : FOK (F204 N : CfS R) (runF T) := uCk (F203_ok N) c22 (Lp := (L204_1 N)) (hl := (LOK_of (l := [(122, [1, 3], c22_l0)]) (by kernel_rfl) ⟨(updL_ok (O204_l0 N N)), trivial⟩))
def ratchetbase_SamePorts_l0 (N : Nat) {R : Type} (k0 : Bool → Option R) (k1 : Option R) : Nat → zt6 → zt6 → Int → Option R
  | 0, _, _, _ => none
  | n + 1, b0, b1, b2 => (bif decide (b2 < ((b0.length : Nat) : Int)) then ((at? b0 b2).bind fun x1 => ((at? b1 b2).bind fun x2 => (bif (true != (decide (x1.1 = x2.1) && (decide (x1.2 = x2.2) && true))) then (k0 false) else (ratchetbase_SamePorts_l0 N k0 k1 n b0 b1 (w64 (b2 + 1)))))) else k1)
def P205_l0 : SP := ⟨[(0, pL [.s, hI]), (1, pL [.s, hI]), (5, pI)], []⟩
def E205_l0 (n : Nat) (x : P205_l0.den) (k : KS R) : Option R := ratchetbase_SamePorts_l0 N (fun r0 => k .ret ⟨[(4, dB r0)], []⟩) (k (.ex 0) ⟨[], []⟩) n x.1.1 x.1.2.1 x.1.2.2.1
theorem O205_l0 : LpG T P205_l0 (E205_l0 N (R := R)) [0, 1, 5] c62_l0 := lpk (F204_ok N) 58
def L205_1 : LpS R := updL noL 58 (lent' P205_l0 (E205_l0 N N))
def ratchetbase_SamePorts (N : Nat) {R : Type} (a0 a1 : zt6) (k0 : Bool → Option R) : Option R := (bif decide (((a0.length : Nat) : Int) ≠ ((a1.length : Nat) : Int)) then (k0 false) else (ratchetbase_SamePorts_l0 N k0 (k0 true) N a0 a1 0))
def P205 : AP := ⟨[pL [.s, hI], pL [.s, hI]], []⟩
def E205 (x : P205.den) (k : KK R) : Option R := ratchetbase_SamePorts N x.1.1 x.1.2.1 (fun r0 => k [] [dB r0] [])
def F205 : CfS R := uC (F204 N) 62 P205 (E205 N)
theorem F205_ok : FOK (F205 N : CfS R) (runF T) := uCk (F204_ok N) c62 (Lp := (L205_1 N)) (hl := (LOK_of (l := [(58, [0, 1, 5], c62_l0)]) (by kernel_rfl) ⟨(updL_ok (O205_l0 N N)), trivial⟩))
def ratchetbase_SameNodes_l0 (N : Nat) {R : Type} (k0 : Bool → Option R) (k1 : Option R) : Nat → zt2 → zt2 → Int → Option R
  | 0, _, _, _ => none
  | n + 1, b0, b1, b2 => (bif decide (b2 < ((b0.length : Nat) : Int)) then ((at? b0 b2).bind fun x1 => ((at? b1 b2).bind fun x2 => (bif decide (x1.1 ≠ x2.1) then (k0 false) else ((at? b0 b2).bind fun x3 => ((at? b1 b2).bind fun x4 => (bif decide (x3.2.1 ≠ x4.2.1) then (k0 false) else ((at? b0 b2).bind fun x5 => ((at? b1 b2).bind fun x6 => (bif decide (x5.2.2.2 ≠ x6.2.2.2) then (k0 false) else ((at? b0 b2).bind fun x7 => ((at? b1 b2).bind fun x8 => (ratchetbase_Ints N x7.2.2.1 x8.2.2.1 (fun y9 => (bif (!y9) then (k0 false) else (ratchetbase_SameNodes_l0 N k0 k1 n b0 b1 (w64 (b2 + 1))))))))))))))))) else k1)
def P206_l0 : SP := ⟨[(0, pL zs1), (1, pL zs1), (5, pI)], []⟩
def E206_l0 (n : Nat) (x : P206_l0.den) (k : KS R) : Option R := ratchetbase_SameNodes_l0 N (fun r0 => k .ret ⟨[(4, dB r0)], []⟩) (k (.ex 0) ⟨[], []⟩) n x.1.1 x.1.2.1 x.1.2.2.1
theorem O206_l0 : LpG T P206_l0 (E206_l0 N (R := R)) [0, 1, 5] c63_l0 := lpk (F205_ok N) 58
def L206_1 : LpS R := updL noL 58 (lent' P206_l0 (E206_l0 N N))
def ratchetbase_SameNodes (N : Nat) {R : Type} (a0 a1 : zt2) (k0 : Bool → Option R) : Option R := (bif decide (((a0.length : Nat) : Int) ≠ ((a1.length : Nat) : Int)) then (k0 false) else (ratchetbase_SameNodes_l0 N k0 (k0 true) N a0 a1 0))
def P206 : AP := ⟨[pL zs1, pL zs1], []⟩
def E206 (x : P206.den) (k : KK R) : Option R := ratchetbase_SameNodes N x.1.1 x.1.2.1 (fun r0 => k [] [dB r0] [])
def F206 : CfS R := uC (F205 N) 63 P206 (E206 N)
theorem F206_ok : FOK (F206 N : CfS R) (runF T) := uCk (F205_ok N) c63 (Lp := (L206_1 N)) (hl := (LOK_of (l := [(58, [0, 1, 5], c63_l0)]) (by kernel_rfl) ⟨(updL_ok (O206_l0 N N)), trivial⟩))
def ratchetbase_SameOutputs_l0 (N : Nat) {R : Type} (k0 : Bool → Option R) (k1 : Option R) : Nat → zt6 → zt6 → Int → Option R
  | 0, _, _, _ => none
  | n + 1, b0, b1, b2 => (bif decide (b2 < ((b0.length : Nat) : Int)) then ((at? b0 b2).bind fun x1 => ((at? b1 b2).bind fun x2 => (bif (true != (decide (x1.1 = x2.1) && (decide (x1.2 = x2.2) && true))) then (k0 false) else (ratchetbase_SameOutputs_l0 N k0 k1 n b0 b1 (w64 (b2 + 1)))))) else k1)
def P207_l0 : SP := ⟨[(0, pL [.s, hI]), (1, pL [.s, hI]), (5, pI)], []⟩
def E207_l0 (n : Nat) (x : P207_l0.den) (k : KS R) : Option R := ratchetbase_SameOutputs_l0 N (fun r0 => k .ret ⟨[(4, dB r0)], []⟩) (k (.ex 0) ⟨[], []⟩) n x.1.1 x.1.2.1 x.1.2.2.1
theorem O207_l0 : LpG T P207_l0 (E207_l0 N (R := R)) [0, 1, 5] c64_l0 := lpk (F206_ok N) 58
def L207_1 : LpS R := updL noL 58 (lent' P207_l0 (E207_l0 N N))
def ratchetbase_SameOutputs (N : Nat) {R : Type} (a0 a1 : zt6) (k0 : Bool → Option R) : Option R := (bif decide (((a0.length : Nat) : Int) ≠ ((a1.length : Nat) : Int)) then (k0 false) else (ratchetbase_SameOutputs_l0 N k0 (k0 true) N a0 a1 0))
def P207 : AP := ⟨[pL [.s, hI], pL [.s, hI]], []⟩
def E207 (x : P207.den) (k : KK R) : Option R := ratchetbase_SameOutputs N x.1.1 x.1.2.1 (fun r0 => k [] [dB r0] [])
def F207 : CfS R := uC (F206 N) 64 P207 (E207 N)
theorem F207_ok : FOK (F207 N : CfS R) (runF T) := uCk (F206_ok N) c64 (Lp := (L207_1 N)) (hl := (LOK_of (l := [(58, [0, 1, 5], c64_l0)]) (by kernel_rfl) ⟨(updL_ok (O207_l0 N N)), trivial⟩))
end
end Am
end Go.Proofs.YtfdmmnfjdifccaaGreatDoor
