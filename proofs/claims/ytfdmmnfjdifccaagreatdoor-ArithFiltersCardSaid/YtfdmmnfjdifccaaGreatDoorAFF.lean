/- Each function that is reached as a function on plain data, and that the version comes to it. -/
import Derived.Test.YtfdmmnfjdifccaaGreatDoorAFF0
set_option linter.unusedVariables false
set_option linter.constructorNameAsVariable false
set_option maxRecDepth 100000
namespace Go.Proofs.YtfdmmnfjdifccaaGreatDoor
namespace Am
noncomputable section
variable (N : Nat) {R : Type}
def ratchetbase_SameWrites_l0 (N : Nat) {R : Type} (k0 : Bool → Option R) (k1 : Option R) : Nat → zt7 → zt7 → Int → Option R
  | 0, _, _, _ => none
  | n + 1, b0, b1, b2 => (bif decide (b2 < ((b0.length : Nat) : Int)) then ((at? b0 b2).bind fun x1 => ((at? b1 b2).bind fun x2 => (bif (true != (decide (x1.1 = x2.1) && (decide (x1.2.1 = x2.2.1) && (decide (x1.2.2 = x2.2.2) && true)))) then (k0 false) else (ratchetbase_SameWrites_l0 N k0 k1 n b0 b1 (w64 (b2 + 1)))))) else k1)
def P208_l0 : SP := ⟨[(0, pL zs5), (1, pL zs5), (5, pI)], []⟩
def E208_l0 (n : Nat) (x : P208_l0.den) (k : KS R) : Option R := ratchetbase_SameWrites_l0 N (fun r0 => k .ret ⟨[(4, dB r0)], []⟩) (k (.ex 0) ⟨[], []⟩) n x.1.1 x.1.2.1 x.1.2.2.1
theorem O208_l0 : LpG T P208_l0 (E208_l0 N (R := R)) [0, 1, 5] c65_l0 := lpk (F207_ok N) 58
def L208_1 : LpS R := updL noL 58 (lent' P208_l0 (E208_l0 N N))
def ratchetbase_SameWrites (N : Nat) {R : Type} (a0 a1 : zt7) (k0 : Bool → Option R) : Option R := (bif decide (((a0.length : Nat) : Int) ≠ ((a1.length : Nat) : Int)) then (k0 false) else (ratchetbase_SameWrites_l0 N k0 (k0 true) N a0 a1 0))
def P208 : AP := ⟨[pL zs5, pL zs5], []⟩
def E208 (x : P208.den) (k : KK R) : Option R := ratchetbase_SameWrites N x.1.1 x.1.2.1 (fun r0 => k [] [dB r0] [])
def F208 : CfS R := uC (F207 N) 65 P208 (E208 N)
theorem F208_ok : FOK (F208 N : CfS R) (runF T) := uCk (F207_ok N) c65 (Lp := (L208_1 N)) (hl := (LOK_of (l := [(58, [0, 1, 5], c65_l0)]) (by kernel_rfl) ⟨(updL_ok (O208_l0 N N)), trivial⟩))
def ratchetbase_SameDesign_l0 (N : Nat) {R : Type} (k0 : Bool → Option R) (k1 : ByteArray → zt6 → zt1 → zt2 → zt0 → zt6 → zt5 → ByteArray → zt6 → zt1 → zt2 → zt0 → zt6 → zt5 → Option R) : Nat → Int → ByteArray → zt6 → zt1 → zt2 → zt0 → zt6 → zt5 → ByteArray → zt6 → zt1 → zt2 → zt0 → zt6 → zt5 → Option R
  | 0, _, _, _, _, _, _, _, _, _, _, _, _, _, _, _ => none
  | n + 1, b0, b1, b2, b3, b4, b5, b6, b7, b8, b9, b10, b11, b12, b13, b14 => (bif decide (b0 < ((b3.length : Nat) : Int)) then ((at? b3 b0).bind fun x1 => ((at? b10 b0).bind fun x2 => (bif (true != (decide (x1.1 = x2.1) && (decide (x1.2.1 = x2.2.1) && (decide (x1.2.2.1 = x2.2.2.1) && (decide (x1.2.2.2.1 = x2.2.2.2.1) && (decide (x1.2.2.2.2 = x2.2.2.2.2) && true)))))) then (k0 false) else (ratchetbase_SameDesign_l0 N k0 k1 n (w64 (b0 + 1)) b1 b2 b3 b4 b5 b6 b7 b8 b9 b10 b11 b12 b13 b14)))) else (k1 b1 b2 b3 b4 b5 b6 b7 b8 b9 b10 b11 b12 b13 b14))
def P209_l0 : SP := ⟨[(2, .ptr 0 0), (3, .ptr 1 0), (5, pI)], [(0, .box zb2), (1, .box zb2)]⟩
def E209_l0 (n : Nat) (x : P209_l0.den) (k : KS R) : Option R := ratchetbase_SameDesign_l0 N (fun r0 => k .ret ⟨[(4, dB r0)], []⟩) (fun r0 r1 r2 r3 r4 r5 r6 r7 r8 r9 r10 r11 r12 r13 => k (.ex 0) ⟨[(2, .ptr 0 0), (3, .ptr 1 0)], [(0, .box (zd3 r0 r1 r2 r3 r4 r5 r6)), (1, .box (zd3 r7 r8 r9 r10 r11 r12 r13))]⟩) n x.1.2.2.1 x.2.1.1 x.2.1.2.1 x.2.1.2.2.1 x.2.1.2.2.2.1 x.2.1.2.2.2.2.1 x.2.1.2.2.2.2.2.1 x.2.1.2.2.2.2.2.2.1 x.2.2.1.1 x.2.2.1.2.1 x.2.2.1.2.2.1 x.2.2.1.2.2.2.1 x.2.2.1.2.2.2.2.1 x.2.2.1.2.2.2.2.2.1 x.2.2.1.2.2.2.2.2.2.1
theorem O209_l0 : LpG T P209_l0 (E209_l0 N (R := R)) [2, 3, 5] c23_l0 := lpk (F208_ok N) 58
def L209_1 : LpS R := updL noL 58 (lent' P209_l0 (E209_l0 N N))
def ratchetbase_SameDesign_l1 (N : Nat) {R : Type} (k0 : Bool → Option R) (k1 : ByteArray → zt6 → zt1 → zt2 → zt0 → zt6 → zt5 → ByteArray → zt6 → zt1 → zt2 → zt0 → zt6 → zt5 → Option R) : Nat → Int → ByteArray → zt6 → zt1 → zt2 → zt0 → zt6 → zt5 → ByteArray → zt6 → zt1 → zt2 → zt0 → zt6 → zt5 → Option R
  | 0, _, _, _, _, _, _, _, _, _, _, _, _, _, _, _ => none
  | n + 1, b0, b1, b2, b3, b4, b5, b6, b7, b8, b9, b10, b11, b12, b13, b14 => (bif decide (b0 < ((b5.length : Nat) : Int)) then ((at? b5 b0).bind fun x1 => ((at? b12 b0).bind fun x2 => (bif decide (x1.1 ≠ x2.1) then (k0 false) else ((at? b5 b0).bind fun x3 => ((at? b12 b0).bind fun x4 => (bif decide (x3.2.1 ≠ x4.2.1) then (k0 false) else ((at? b5 b0).bind fun x5 => ((at? b12 b0).bind fun x6 => (ratchetbase_SameWrites N x5.2.2 x6.2.2 (fun y7 => (bif (!y7) then (k0 false) else (ratchetbase_SameDesign_l1 N k0 k1 n (w64 (b0 + 1)) b1 b2 b3 b4 b5 b6 b7 b8 b9 b10 b11 b12 b13 b14)))))))))))) else (k1 b1 b2 b3 b4 b5 b6 b7 b8 b9 b10 b11 b12 b13 b14))
def P209_l1 : SP := ⟨[(2, .ptr 0 0), (3, .ptr 1 0), (6, pI)], [(0, .box zb2), (1, .box zb2)]⟩
def E209_l1 (n : Nat) (x : P209_l1.den) (k : KS R) : Option R := ratchetbase_SameDesign_l1 N (fun r0 => k .ret ⟨[(4, dB r0)], []⟩) (fun r0 r1 r2 r3 r4 r5 r6 r7 r8 r9 r10 r11 r12 r13 => k (.ex 2) ⟨[(2, .ptr 0 0), (3, .ptr 1 0)], [(0, .box (zd3 r0 r1 r2 r3 r4 r5 r6)), (1, .box (zd3 r7 r8 r9 r10 r11 r12 r13))]⟩) n x.1.2.2.1 x.2.1.1 x.2.1.2.1 x.2.1.2.2.1 x.2.1.2.2.2.1 x.2.1.2.2.2.2.1 x.2.1.2.2.2.2.2.1 x.2.1.2.2.2.2.2.2.1 x.2.2.1.1 x.2.2.1.2.1 x.2.2.1.2.2.1 x.2.2.1.2.2.2.1 x.2.2.1.2.2.2.2.1 x.2.2.1.2.2.2.2.2.1 x.2.2.1.2.2.2.2.2.2.1
theorem O209_l1 : LpG T P209_l1 (E209_l1 N (R := R)) [2, 3, 6] c23_l1 := lpk (F208_ok N) 122 (Lp := (L209_1 N))
def L209_2 : LpS R := updL (L209_1 N) 122 (lent' P209_l1 (E209_l1 N N))
def ratchetbase_SameDesign_l2 (N : Nat) {R : Type} (k0 : Bool → Option R) (k1 : Option R) : Nat → Int → ByteArray → zt6 → zt1 → zt2 → zt0 → zt6 → zt5 → ByteArray → zt6 → zt1 → zt2 → zt0 → zt6 → zt5 → Option R
  | 0, _, _, _, _, _, _, _, _, _, _, _, _, _, _, _ => none
  | n + 1, b0, b1, b2, b3, b4, b5, b6, b7, b8, b9, b10, b11, b12, b13, b14 => (bif decide (b0 < ((b7.length : Nat) : Int)) then ((at? b7 b0).bind fun x1 => ((at? b14 b0).bind fun x2 => (bif decide (x1.1 ≠ x2.1) then (k0 false) else ((at? b7 b0).bind fun x3 => ((at? b14 b0).bind fun x4 => (ratchetbase_Ints N x3.2 x4.2 (fun y5 => (bif (!y5) then (k0 false) else (ratchetbase_SameDesign_l2 N k0 k1 n (w64 (b0 + 1)) b1 b2 b3 b4 b5 b6 b7 b8 b9 b10 b11 b12 b13 b14))))))))) else k1)
def P209_l2 : SP := ⟨[(2, .ptr 0 0), (3, .ptr 1 0), (7, pI)], [(0, .box zb2), (1, .box zb2)]⟩
def E209_l2 (n : Nat) (x : P209_l2.den) (k : KS R) : Option R := ratchetbase_SameDesign_l2 N (fun r0 => k .ret ⟨[(4, dB r0)], []⟩) (k (.ex 4) ⟨[], []⟩) n x.1.2.2.1 x.2.1.1 x.2.1.2.1 x.2.1.2.2.1 x.2.1.2.2.2.1 x.2.1.2.2.2.2.1 x.2.1.2.2.2.2.2.1 x.2.1.2.2.2.2.2.2.1 x.2.2.1.1 x.2.2.1.2.1 x.2.2.1.2.2.1 x.2.2.1.2.2.2.1 x.2.2.1.2.2.2.2.1 x.2.2.1.2.2.2.2.2.1 x.2.2.1.2.2.2.2.2.2.1
theorem O209_l2 : LpG T P209_l2 (E209_l2 N (R := R)) [2, 3, 7] c23_l2 := lpk (F208_ok N) 250 (Lp := (L209_2 N))
def L209_3 : LpS R := updL (L209_2 N) 250 (lent' P209_l2 (E209_l2 N N))
def ratchetbase_SameDesign (N : Nat) {R : Type} (a0 : ByteArray) (a1 : zt6) (a2 : zt1) (a3 : zt2) (a4 : zt0) (a5 : zt6) (a6 : zt5) (a7 : ByteArray) (a8 : zt6) (a9 : zt1) (a10 : zt2) (a11 : zt0) (a12 : zt6) (a13 : zt5) (k0 : Bool → Option R) : Option R := (bif decide (a0 ≠ a7) then (k0 false) else (ratchetbase_SamePorts N a1 a8 (fun y1 => (bif (!y1) then (k0 false) else (bif decide (((a2.length : Nat) : Int) ≠ ((a9.length : Nat) : Int)) then (k0 false) else (ratchetbase_SameNodes N a3 a10 (fun y2 => (bif (!y2) then (k0 false) else (bif decide (((a4.length : Nat) : Int) ≠ ((a11.length : Nat) : Int)) then (k0 false) else (ratchetbase_SameOutputs N a5 a12 (fun y3 => (bif (!y3) then (k0 false) else (bif decide (((a6.length : Nat) : Int) ≠ ((a13.length : Nat) : Int)) then (k0 false) else (ratchetbase_SameDesign_l0 N k0 (fun z5 z6 z7 z8 z9 z10 z11 z12 z13 z14 z15 z16 z17 z18 => (ratchetbase_SameDesign_l1 N k0 (fun z20 z21 z22 z23 z24 z25 z26 z27 z28 z29 z30 z31 z32 z33 => (ratchetbase_SameDesign_l2 N k0 (k0 true) N 0 z20 z21 z22 z23 z24 z25 z26 z27 z28 z29 z30 z31 z32 z33)) N 0 z5 z6 z7 z8 z9 z10 z11 z12 z13 z14 z15 z16 z17 z18)) N 0 a0 a1 a2 a3 a4 a5 a6 a7 a8 a9 a10 a11 a12 a13))))))))))))))
def P209 : AP := ⟨[.agg zb2, .agg zb2], []⟩
def E209 (x : P209.den) (k : KK R) : Option R := ratchetbase_SameDesign N x.1.1.1 x.1.1.2.1 x.1.1.2.2.1 x.1.1.2.2.2.1 x.1.1.2.2.2.2.1 x.1.1.2.2.2.2.2.1 x.1.1.2.2.2.2.2.2.1 x.1.2.1.1 x.1.2.1.2.1 x.1.2.1.2.2.1 x.1.2.1.2.2.2.1 x.1.2.1.2.2.2.2.1 x.1.2.1.2.2.2.2.2.1 x.1.2.1.2.2.2.2.2.2.1 (fun r0 => k [] [dB r0] [])
def F209 : CfS R := uC (F208 N) 23 P209 (E209 N)
theorem F209_ok : FOK (F209 N : CfS R) (runF T) := uCk (F208_ok N) c23 (Lp := (L209_3 N)) (hl := (LOK_of (l := [(58, [2, 3, 5], c23_l0), (122, [2, 3, 6], c23_l1), (250, [2, 3, 7], c23_l2)]) (by kernel_rfl) ⟨(updL_ne (by decide) (updL_ne (by decide) (updL_ok (O209_l0 N N)))), (updL_ne (by decide) (updL_ok (O209_l1 N N))), (updL_ok (O209_l2 N N)), trivial⟩))
def ratchetbase_IsName_j0 (N : Nat) {R : Type} (k0 : Bool → Option R) (k1 : ByteArray → Int → Option R) (b0 : ByteArray) (b1 b2 : Int) (b3 : Bool) : Option R := (bif (!b3) then (bif decide (b1 = 0) then (k0 false) else (bif decide (b2 ≠ 95) then (bif decide (b2 < 48) then (k0 false) else (bif decide (57 < b2) then (k0 false) else (k1 b0 b1))) else (k1 b0 b1))) else (k1 b0 b1))
def P210_j0 : SP := ⟨[(0, pS), (3, pI), (4, .p (.s (.i .u8))), (5, pB)], []⟩
def E210_j0 (n : Nat) (x : P210_j0.den) (k : KS R) : Option R := match n with
  | 0 => none
  | _ + 1 => ratchetbase_IsName_j0 N (fun r0 => k .ret ⟨[(2, dB r0)], []⟩) (fun r0 r1 => k (.ex 1001865) ⟨[(0, dS r0), (3, dI r1)], []⟩) x.1.1 x.1.2.1 x.1.2.2.1 x.1.2.2.2.1
theorem O210_j0 : LpG T P210_j0 (E210_j0 N (R := R)) [0, 3, 4, 5] c168_j0 := lpk (F209_ok N) 7462
def L210_1 : LpS R := updL noL 7462 (lent' P210_j0 (E210_j0 N 1))
def ratchetbase_IsName_l0 (N : Nat) {R : Type} (k0 : Bool → Option R) (k1 : Option R) : Nat → ByteArray → Int → Option R
  | 0, _, _ => none
  | n + 1, b0, b1 => (bif decide (b1 < ((b0.size : Nat) : Int)) then ((byte? b0 b1).bind fun x1 => (bif decide (97 ≤ x1) then (bif decide (x1 ≤ 122) then (ratchetbase_IsName_j0 N k0 (fun z3 z4 => (ratchetbase_IsName_l0 N k0 k1 n z3 (w64 (z4 + 1)))) b0 b1 x1 true) else (bif decide (65 ≤ x1) then (ratchetbase_IsName_j0 N k0 (fun z6 z7 => (ratchetbase_IsName_l0 N k0 k1 n z6 (w64 (z7 + 1)))) b0 b1 x1 (decide (x1 ≤ 90))) else (ratchetbase_IsName_j0 N k0 (fun z9 z10 => (ratchetbase_IsName_l0 N k0 k1 n z9 (w64 (z10 + 1)))) b0 b1 x1 false))) else (bif decide (65 ≤ x1) then (ratchetbase_IsName_j0 N k0 (fun z12 z13 => (ratchetbase_IsName_l0 N k0 k1 n z12 (w64 (z13 + 1)))) b0 b1 x1 (decide (x1 ≤ 90))) else (ratchetbase_IsName_j0 N k0 (fun z15 z16 => (ratchetbase_IsName_l0 N k0 k1 n z15 (w64 (z16 + 1)))) b0 b1 x1 false)))) else k1)
def P210_l0 : SP := ⟨[(0, pS), (3, pI)], []⟩
def E210_l0 (n : Nat) (x : P210_l0.den) (k : KS R) : Option R := ratchetbase_IsName_l0 N (fun r0 => k .ret ⟨[(2, dB r0)], []⟩) (k (.ex 0) ⟨[], []⟩) n x.1.1 x.1.2.1
theorem O210_l0 : LpG T P210_l0 (E210_l0 N (R := R)) [0, 3] c168_l0 := lpk (F209_ok N) 58 (Lp := (L210_1 N)) (hl := (LOK_of (l := [(7462, [0, 3, 4, 5], c168_j0)]) (by kernel_rfl) ⟨(updL_ok (O210_j0 N 1)), trivial⟩))
def L210_2 : LpS R := updL (L210_1 N) 58 (lent' P210_l0 (E210_l0 N N))
def ratchetbase_IsName (N : Nat) {R : Type} (a0 : ByteArray) (k0 : Bool → Option R) : Option R := (bif decide (((a0.size : Nat) : Int) < 1) then (k0 false) else (bif decide (16 < ((a0.size : Nat) : Int)) then (k0 false) else (ratchetbase_IsName_l0 N k0 (k0 true) N a0 0)))
def P210 : AP := ⟨[pS], []⟩
def E210 (x : P210.den) (k : KK R) : Option R := ratchetbase_IsName N x.1.1 (fun r0 => k [] [dB r0] [])
def F210 : CfS R := uC (F209 N) 168 P210 (E210 N)
theorem F210_ok : FOK (F210 N : CfS R) (runF T) := uCk (F209_ok N) c168 (Lp := (L210_2 N)) (hl := (LOK_of (l := [(58, [0, 3], c168_l0)]) (by kernel_rfl) ⟨(updL_ok (O210_l0 N N)), trivial⟩))
def ratchetbase_IsWidth (N : Nat) {R : Type} (a0 : Int) (k0 : Bool → Option R) : Option R := (ratchetbase_Within N a0 1 16 k0)
def P211 : AP := ⟨[pI], []⟩
def E211 (x : P211.den) (k : KK R) : Option R := ratchetbase_IsWidth N x.1.1 (fun r0 => k [] [dB r0] [])
def F211 : CfS R := uC (F210 N) 199 P211 (E211 N)
theorem F211_ok : FOK (F211 N : CfS R) (runF T) := uCk (F210_ok N) c199
def ratchetbase_PortsErr_l1 (N : Nat) {R : Type} (k0 : Int → Int → Option R) (k1 : zt6 → Int → Option R) : Nat → zt6 → Int → Int → Option R
  | 0, _, _, _ => none
  | n + 1, b0, b1, b2 => (bif decide (b2 < b1) then ((at? b0 b2).bind fun x1 => ((at? b0 b1).bind fun x2 => (bif decide (x1.1 = x2.1) then (k0 b1 5) else (ratchetbase_PortsErr_l1 N k0 k1 n b0 b1 (w64 (b2 + 1)))))) else (k1 b0 b1))
def P212_l1 : SP := ⟨[(0, pL [.s, hI]), (4, pI), (5, pI)], []⟩
def E212_l1 (n : Nat) (x : P212_l1.den) (k : KS R) : Option R := ratchetbase_PortsErr_l1 N (fun r0 r1 => k .ret ⟨[(2, dI r0), (3, dI r1)], []⟩) (fun r0 r1 => k (.ex 2) ⟨[(0, dL [.s, hI] r0), (4, dI r1)], []⟩) n x.1.1 x.1.2.1 x.1.2.2.1
theorem O212_l1 : LpG T P212_l1 (E212_l1 N (R := R)) [0, 4, 5] c169_l1 := lpk (F211_ok N) 14922
def L212_1 : LpS R := updL noL 14922 (lent' P212_l1 (E212_l1 N N))
def ratchetbase_PortsErr_l0 (N : Nat) {R : Type} (k0 : Int → Int → Option R) (k1 : Option R) : Nat → zt6 → Int → Option R
  | 0, _, _ => none
  | n + 1, b0, b1 => (bif decide (b1 < ((b0.length : Nat) : Int)) then ((at? b0 b1).bind fun x1 => (ratchetbase_IsName N x1.1 (fun y2 => (bif (!y2) then (k0 b1 4) else (ratchetbase_PortsErr_l1 N k0 (fun z5 z6 => ((at? z5 z6).bind fun x7 => (ratchetbase_IsWidth N x7.2 (fun y8 => (bif (!y8) then (k0 z6 2) else (ratchetbase_PortsErr_l0 N k0 k1 n z5 (w64 (z6 + 1)))))))) N b0 b1 0))))) else k1)
def P212_l0 : SP := ⟨[(0, pL [.s, hI]), (4, pI)], []⟩
def E212_l0 (n : Nat) (x : P212_l0.den) (k : KS R) : Option R := ratchetbase_PortsErr_l0 N (fun r0 r1 => k .ret ⟨[(2, dI r0), (3, dI r1)], []⟩) (k (.ex 0) ⟨[], []⟩) n x.1.1 x.1.2.1
theorem O212_l0 : LpG T P212_l0 (E212_l0 N (R := R)) [0, 4] c169_l0 := lpk (F211_ok N) 58 (Lp := (L212_1 N)) (hl := (LOK_of (l := [(14922, [0, 4, 5], c169_l1)]) (by kernel_rfl) ⟨(updL_ok (O212_l1 N N)), trivial⟩))
def L212_2 : LpS R := updL (L212_1 N) 58 (lent' P212_l0 (E212_l0 N N))
def ratchetbase_PortsErr (N : Nat) {R : Type} (a0 : zt6) (k0 : Int → Int → Option R) : Option R := (bif decide (12 < ((a0.length : Nat) : Int)) then (k0 0 8) else (ratchetbase_PortsErr_l0 N k0 (k0 0 0) N a0 0))
def P212 : AP := ⟨[pL [.s, hI]], []⟩
def E212 (x : P212.den) (k : KK R) : Option R := ratchetbase_PortsErr N x.1.1 (fun r0 r1 => k [] [dI r0, dI r1] [])
def F212 : CfS R := uC (F211 N) 169 P212 (E212 N)
theorem F212_ok : FOK (F212 N : CfS R) (runF T) := uCk (F211_ok N) c169 (Lp := (L212_2 N)) (hl := (LOK_of (l := [(58, [0, 4], c169_l0)]) (by kernel_rfl) ⟨(updL_ok (O212_l0 N N)), trivial⟩))
def ratchetbase_Power (N : Nat) {R : Type} (a0 : Int) (k0 : Int → Option R) : Option R := (bif decide (a0 < 0) then none else (k0 (shl' .i64 1 a0)))
def P213 : AP := ⟨[pI], []⟩
def E213 (x : P213.den) (k : KK R) : Option R := ratchetbase_Power N x.1.1 (fun r0 => k [] [dI r0] [])
def F213 : CfS R := uC (F212 N) 17 P213 (E213 N)
theorem F213_ok : FOK (F213 N : CfS R) (runF T) := uCk (F212_ok N) c17
def ratchetbase_Fits (N : Nat) {R : Type} (a0 a1 : Int) (k0 : Bool → Option R) : Option R := (ratchetbase_Power N a1 (fun y1 => (ratchetbase_Within N a0 0 (w64 (y1 - 1)) k0)))
def P214 : AP := ⟨[pI, pI], []⟩
def E214 (x : P214.den) (k : KK R) : Option R := ratchetbase_Fits N x.1.1 x.1.2.1 (fun r0 => k [] [dB r0] [])
def F214 : CfS R := uC (F213 N) 32 P214 (E214 N)
theorem F214_ok : FOK (F214 N : CfS R) (runF T) := uCk (F213_ok N) c32
def ratchetbase_ElementsErr_l1 (N : Nat) {R : Type} (k0 : Int → Int → Option R) (k1 : zt6 → zt1 → Int → Option R) : Nat → zt6 → zt1 → Int → Int → Option R
  | 0, _, _, _, _ => none
  | n + 1, b0, b1, b2, b3 => (bif decide (b3 < b2) then ((at? b1 b3).bind fun x1 => ((at? b1 b2).bind fun x2 => (bif decide (x1.1 = x2.1) then (k0 b2 5) else (ratchetbase_ElementsErr_l1 N k0 k1 n b0 b1 b2 (w64 (b3 + 1)))))) else (k1 b0 b1 b2))
def P215_l1 : SP := ⟨[(0, pL [.s, hI]), (1, pL zs2), (6, pI), (7, pI)], []⟩
def E215_l1 (n : Nat) (x : P215_l1.den) (k : KS R) : Option R := ratchetbase_ElementsErr_l1 N (fun r0 r1 => k .ret ⟨[(4, dI r0), (5, dI r1)], []⟩) (fun r0 r1 r2 => k (.ex 2) ⟨[(0, dL [.s, hI] r0), (1, dL zs2 r1), (6, dI r2)], []⟩) n x.1.1 x.1.2.1 x.1.2.2.1 x.1.2.2.2.1
theorem O215_l1 : LpG T P215_l1 (E215_l1 N (R := R)) [0, 1, 6, 7] c170_l1 := lpk (F214_ok N) 14922
def L215_1 : LpS R := updL noL 14922 (lent' P215_l1 (E215_l1 N N))
def ratchetbase_ElementsErr_l2 (N : Nat) {R : Type} (k0 : Int → Int → Option R) (k1 : zt6 → zt1 → Int → Option R) : Nat → zt6 → zt1 → Int → Int → Option R
  | 0, _, _, _, _ => none
  | n + 1, b0, b1, b2, b3 => (bif decide (b3 < ((b0.length : Nat) : Int)) then ((at? b0 b3).bind fun x1 => ((at? b1 b2).bind fun x2 => (bif decide (x1.1 = x2.1) then (k0 b2 5) else (ratchetbase_ElementsErr_l2 N k0 k1 n b0 b1 b2 (w64 (b3 + 1)))))) else (k1 b0 b1 b2))
def P215_l2 : SP := ⟨[(0, pL [.s, hI]), (1, pL zs2), (6, pI), (8, pI)], []⟩
def E215_l2 (n : Nat) (x : P215_l2.den) (k : KS R) : Option R := ratchetbase_ElementsErr_l2 N (fun r0 r1 => k .ret ⟨[(4, dI r0), (5, dI r1)], []⟩) (fun r0 r1 r2 => k (.ex 4) ⟨[(0, dL [.s, hI] r0), (1, dL zs2 r1), (6, dI r2)], []⟩) n x.1.1 x.1.2.1 x.1.2.2.1 x.1.2.2.2.1
theorem O215_l2 : LpG T P215_l2 (E215_l2 N (R := R)) [0, 1, 6, 8] c170_l2 := lpk (F214_ok N) 29850 (Lp := (L215_1 N))
def L215_2 : LpS R := updL (L215_1 N) 29850 (lent' P215_l2 (E215_l2 N N))
def ratchetbase_ElementsErr_l0 (N : Nat) {R : Type} (k0 : Int → Int → Option R) (k1 : Option R) : Nat → zt6 → zt1 → Int → Option R
  | 0, _, _, _ => none
  | n + 1, b0, b1, b2 => (bif decide (b2 < ((b1.length : Nat) : Int)) then ((at? b1 b2).bind fun x1 => (ratchetbase_IsName N x1.1 (fun y2 => (bif (!y2) then (k0 b2 4) else (ratchetbase_ElementsErr_l1 N k0 (fun z5 z6 z7 => (ratchetbase_ElementsErr_l2 N k0 (fun z10 z11 z12 => ((at? z11 z12).bind fun x13 => (ratchetbase_Within N x13.2.1 0 1 (fun y14 => (bif (!y14) then (k0 z12 15) else ((at? z11 z12).bind fun x15 => (ratchetbase_IsWidth N x15.2.2.1 (fun y16 => (bif (!y16) then (k0 z12 2) else ((at? z11 z12).bind fun x17 => ((at? z11 z12).bind fun x18 => (ratchetbase_Fits N x17.2.2.2.1 x18.2.2.1 (fun y19 => (bif (!y19) then (k0 z12 2) else ((at? z11 z12).bind fun x20 => (ratchetbase_Within N x20.2.2.2.2 0 3 (fun y21 => (bif (!y21) then (k0 z12 2) else (ratchetbase_ElementsErr_l0 N k0 k1 n z10 z11 (w64 (z12 + 1))))))))))))))))))))) N z5 z6 z7 0)) N b0 b1 b2 0))))) else k1)
def P215_l0 : SP := ⟨[(0, pL [.s, hI]), (1, pL zs2), (6, pI)], []⟩
def E215_l0 (n : Nat) (x : P215_l0.den) (k : KS R) : Option R := ratchetbase_ElementsErr_l0 N (fun r0 r1 => k .ret ⟨[(4, dI r0), (5, dI r1)], []⟩) (k (.ex 0) ⟨[], []⟩) n x.1.1 x.1.2.1 x.1.2.2.1
theorem O215_l0 : LpG T P215_l0 (E215_l0 N (R := R)) [0, 1, 6] c170_l0 := lpk (F214_ok N) 58 (Lp := (L215_2 N)) (hl := (LOK_of (l := [(14922, [0, 1, 6, 7], c170_l1), (29850, [0, 1, 6, 8], c170_l2)]) (by kernel_rfl) ⟨(updL_ne (by decide) (updL_ok (O215_l1 N N))), (updL_ok (O215_l2 N N)), trivial⟩))
def L215_3 : LpS R := updL (L215_2 N) 58 (lent' P215_l0 (E215_l0 N N))
def ratchetbase_ElementsErr (N : Nat) {R : Type} (a0 : zt6) (a1 : zt1) (k0 : Int → Int → Option R) : Option R := (bif decide (40 < (w64 (((a0.length : Nat) : Int) + ((a1.length : Nat) : Int)))) then (k0 0 8) else (ratchetbase_ElementsErr_l0 N k0 (k0 0 0) N a0 a1 0))
def P215 : AP := ⟨[pL [.s, hI], pL zs2], []⟩
def E215 (x : P215.den) (k : KK R) : Option R := ratchetbase_ElementsErr N x.1.1 x.1.2.1 (fun r0 r1 => k [] [dI r0, dI r1] [])
def F215 : CfS R := uC (F214 N) 170 P215 (E215 N)
theorem F215_ok : FOK (F215 N : CfS R) (runF T) := uCk (F214_ok N) c170 (Lp := (L215_3 N)) (hl := (LOK_of (l := [(58, [0, 1, 6], c170_l0)]) (by kernel_rfl) ⟨(updL_ok (O215_l0 N N)), trivial⟩))
def H216 : Nat → Option (List Sh) := fun n => if n = 17000 then some [hI] else if n = 36000 then some [hI] else none
def ratchetbase_Leaves_l0 (N : Nat) {R : Type} (k0 : ByteArray → zt6 → zt1 → zt2 → zt0 → zt6 → zt5 → List Int → Option R) : Nat → Int → ByteArray → zt6 → zt1 → zt2 → zt0 → zt6 → zt5 → List Int → Option R
  | 0, _, _, _, _, _, _, _, _, _ => none
  | n + 1, b0, b1, b2, b3, b4, b5, b6, b7, b8 => (bif decide (b0 < ((b2.length : Nat) : Int)) then ((at? b2 b0).bind fun x1 => (bif roomB (b8.length + 1) 8 then (ratchetbase_Leaves_l0 N k0 n (w64 (b0 + 1)) b1 b2 b3 b4 b5 b6 b7 (b8 ++ [x1.2])) else none)) else (k0 b1 b2 b3 b4 b5 b6 b7 b8))
def P216_l0 : SP := ⟨[(1, .ptr 0 0), (3, .own 1), (4, pI)], [(0, .box zb2), (1, .arr [hI])]⟩
def E216_l0 (n : Nat) (x : P216_l0.den) (k : KS R) : Option R := ratchetbase_Leaves_l0 N (fun r0 r1 r2 r3 r4 r5 r6 r7 => k (.ex 0) ⟨[(1, .ptr 0 0), (3, .own 1)], [(0, .box (zd3 r0 r1 r2 r3 r4 r5 r6)), (1, .arr (.t [hI] r7))]⟩) n x.1.2.2.1 x.2.1.1 x.2.1.2.1 x.2.1.2.2.1 x.2.1.2.2.2.1 x.2.1.2.2.2.2.1 x.2.1.2.2.2.2.2.1 x.2.1.2.2.2.2.2.2.1 x.2.2.1
theorem O216_l0 : LpG T P216_l0 (E216_l0 N (R := R)) [1, 3, 4] c172_l0 := lpk (F215_ok N) 58 (H := H216)
def L216_1 : LpS R := updL noL 58 (lent' P216_l0 (E216_l0 N N))
def ratchetbase_Leaves_l1 (N : Nat) {R : Type} (k0 : List Int → Option R) : Nat → Int → ByteArray → zt6 → zt1 → zt2 → zt0 → zt6 → zt5 → List Int → Option R
  | 0, _, _, _, _, _, _, _, _, _ => none
  | n + 1, b0, b1, b2, b3, b4, b5, b6, b7, b8 => (bif decide (b0 < ((b3.length : Nat) : Int)) then ((at? b3 b0).bind fun x1 => (bif roomB (b8.length + 1) 8 then (ratchetbase_Leaves_l1 N k0 n (w64 (b0 + 1)) b1 b2 b3 b4 b5 b6 b7 (b8 ++ [x1.2.2.1])) else none)) else (k0 b8))
def P216_l1 : SP := ⟨[(1, .ptr 0 0), (3, .own 1), (5, pI)], [(0, .box zb2), (1, .arr [hI])]⟩
def E216_l1 (n : Nat) (x : P216_l1.den) (k : KS R) : Option R := ratchetbase_Leaves_l1 N (fun r0 => k (.ex 2) ⟨[(3, .own 0)], [(0, .arr (.t [hI] r0))]⟩) n x.1.2.2.1 x.2.1.1 x.2.1.2.1 x.2.1.2.2.1 x.2.1.2.2.2.1 x.2.1.2.2.2.2.1 x.2.1.2.2.2.2.2.1 x.2.1.2.2.2.2.2.2.1 x.2.2.1
theorem O216_l1 : LpG T P216_l1 (E216_l1 N (R := R)) [1, 3, 5] c172_l1 := lpk (F215_ok N) 122 (H := H216) (Lp := (L216_1 N))
def L216_2 : LpS R := updL (L216_1 N) 122 (lent' P216_l1 (E216_l1 N N))
def ratchetbase_Leaves (N : Nat) {R : Type} (a0 : ByteArray) (a1 : zt6) (a2 : zt1) (a3 : zt2) (a4 : zt0) (a5 : zt6) (a6 : zt5) (k0 : List Int → Option R) : Option R := (ratchetbase_Leaves_l0 N (fun z2 z3 z4 z5 z6 z7 z8 z9 => (ratchetbase_Leaves_l1 N k0 N 0 z2 z3 z4 z5 z6 z7 z8 z9)) N 0 a0 a1 a2 a3 a4 a5 a6 [])
def P216 : AP := ⟨[.agg zb2], []⟩
def E216 (x : P216.den) (k : KK R) : Option R := ratchetbase_Leaves N x.1.1.1 x.1.1.2.1 x.1.1.2.2.1 x.1.1.2.2.2.1 x.1.1.2.2.2.2.1 x.1.1.2.2.2.2.2.1 x.1.1.2.2.2.2.2.2.1 (fun r0 => k [] [dL [hI] r0] [])
def F216 : CfS R := uC (F215 N) 172 P216 (E216 N)
theorem F216_ok : FOK (F216 N : CfS R) (runF T) := uCk (F215_ok N) c172 (H := H216) (Lp := (L216_2 N)) (hl := (LOK_of (l := [(58, [1, 3, 4], c172_l0), (122, [1, 3, 5], c172_l1)]) (by kernel_rfl) ⟨(updL_ne (by decide) (updL_ok (O216_l0 N N))), (updL_ok (O216_l1 N N)), trivial⟩))
def ratchetbase_ArgCount (N : Nat) {R : Type} (a0 : Int) (k0 : Int → Option R) : Option R := (bif decide (a0 = 0) then (k0 0) else (bif decide (a0 = 1) then (k0 0) else (bif decide (a0 = 2) then (k0 1) else (bif decide (a0 = 14) then (k0 1) else (bif decide (a0 = 15) then (k0 1) else (bif decide (a0 = 16) then (k0 1) else (bif decide (a0 = 12) then (k0 3) else (k0 2))))))))
def P217 : AP := ⟨[pI], []⟩
def E217 (x : P217.den) (k : KK R) : Option R := ratchetbase_ArgCount N x.1.1 (fun r0 => k [] [dI r0] [])
def F217 : CfS R := uC (F216 N) 239 P217 (E217 N)
theorem F217_ok : FOK (F217 N : CfS R) (runF T) := uCk (F216_ok N) c239
def H218 : Nat → Option (List Sh) := fun n => if n = 20000 then some [hI] else none
def ratchetbase_widthsFit_l0 (N : Nat) {R : Type} (k0 : Int → Int → List Int → Int → List Int → Option R) : Nat → zt2 → Int → Int → Int → List Int → Int → List Int → Option R
  | 0, _, _, _, _, _, _, _ => none
  | n + 1, b0, b1, b2, b3, b4, b5, b6 => (bif decide (b1 < ((b4.length : Nat) : Int)) then ((at? b4 b1).bind fun x1 => ((at? b0 x1).bind fun x2 => (bif roomB (b6.length + 1) 8 then (ratchetbase_widthsFit_l0 N k0 n b0 (w64 (b1 + 1)) b2 b3 b4 b5 (b6 ++ [x2.2.1])) else none))) else (k0 b2 b3 b4 b5 b6))
def P218_l0 : SP := ⟨[(0, pL zs1), (3, .ptr 0 0), (5, .own 1), (6, pI)], [(0, .box zb4), (1, .arr [hI])]⟩
def E218_l0 (n : Nat) (x : P218_l0.den) (k : KS R) : Option R := ratchetbase_widthsFit_l0 N (fun r0 r1 r2 r3 r4 => k (.ex 0) ⟨[(3, .ptr 0 0), (5, .own 1)], [(0, .box [dI r0, dI r1, dL [hI] r2, dI r3]), (1, .arr (.t [hI] r4))]⟩) n x.1.1 x.1.2.2.2.1 x.2.1.1 x.2.1.2.1 x.2.1.2.2.1 x.2.1.2.2.2.1 x.2.2.1
theorem O218_l0 : LpG T P218_l0 (E218_l0 N (R := R)) [0, 3, 5, 6] c240_l0 := lpk (F217_ok N) 58 (H := H218)
def L218_1 : LpS R := updL noL 58 (lent' P218_l0 (E218_l0 N N))
def ratchetbase_widthsFit (N : Nat) {R : Type} (a0 : zt2) (a1 a2 : Int) (a3 : List Int) (a4 : Int) (k0 : Bool → Option R) : Option R := (ratchetbase_widthsFit_l0 N (fun z3 z4 z5 z6 z7 => (bif decide (z3 = 2) then (bif inR 0 z7.length then ((z7[0]?).bind fun x8 => (k0 (decide (x8 = z4)))) else none) else (bif decide (z3 = 3) then (bif inR 0 z7.length then ((z7[0]?).bind fun x9 => (bif decide (x9 = z4) then (bif inR 1 z7.length then ((z7[1]?).bind fun x10 => (k0 (decide (x10 = z4)))) else none) else (k0 false))) else none) else (bif decide (z3 = 4) then (bif inR 0 z7.length then ((z7[0]?).bind fun x11 => (bif decide (x11 = z4) then (bif inR 1 z7.length then ((z7[1]?).bind fun x12 => (k0 (decide (x12 = z4)))) else none) else (k0 false))) else none) else (bif decide (z3 = 5) then (bif inR 0 z7.length then ((z7[0]?).bind fun x13 => (bif decide (x13 = z4) then (bif inR 1 z7.length then ((z7[1]?).bind fun x14 => (k0 (decide (x14 = z4)))) else none) else (k0 false))) else none) else (bif decide (z3 = 6) then (bif inR 0 z7.length then ((z7[0]?).bind fun x15 => (bif decide (x15 = z4) then (bif inR 1 z7.length then ((z7[1]?).bind fun x16 => (k0 (decide (x16 = z4)))) else none) else (k0 false))) else none) else (bif decide (z3 = 7) then (bif inR 0 z7.length then ((z7[0]?).bind fun x17 => (bif decide (x17 = z4) then (bif inR 1 z7.length then ((z7[1]?).bind fun x18 => (k0 (decide (x18 = z4)))) else none) else (k0 false))) else none) else (bif decide (z3 = 8) then (bif inR 0 z7.length then ((z7[0]?).bind fun x19 => (bif decide (x19 = z4) then (bif inR 1 z7.length then ((z7[1]?).bind fun x20 => (k0 (decide (x20 = z4)))) else none) else (k0 false))) else none) else (bif decide (z3 = 9) then (bif inR 0 z7.length then ((z7[0]?).bind fun x21 => (bif inR 1 z7.length then ((z7[1]?).bind fun x22 => (bif decide (x21 = x22) then (k0 (decide (z4 = 1))) else (k0 false))) else none)) else none) else (bif decide (z3 = 10) then (bif inR 0 z7.length then ((z7[0]?).bind fun x23 => (bif inR 1 z7.length then ((z7[1]?).bind fun x24 => (bif decide (x23 = x24) then (k0 (decide (z4 = 1))) else (k0 false))) else none)) else none) else (bif decide (z3 = 11) then (bif inR 0 z7.length then ((z7[0]?).bind fun x25 => (bif inR 1 z7.length then ((z7[1]?).bind fun x26 => (bif decide (x25 = x26) then (k0 (decide (z4 = 1))) else (k0 false))) else none)) else none) else (bif decide (z3 = 12) then (bif inR 0 z7.length then ((z7[0]?).bind fun x27 => (bif decide (x27 = 1) then (bif inR 1 z7.length then ((z7[1]?).bind fun x28 => (bif decide (x28 = z4) then (bif inR 2 z7.length then ((z7[2]?).bind fun x29 => (k0 (decide (x29 = z4)))) else none) else (k0 false))) else none) else (k0 false))) else none) else (bif decide (z3 = 13) then (bif inR 0 z7.length then ((z7[0]?).bind fun x30 => (bif inR 1 z7.length then ((z7[1]?).bind fun x31 => (k0 (decide ((w64 (x30 + x31)) = z4)))) else none)) else none) else (bif decide (z3 = 14) then (bif inR 0 z7.length then ((z7[0]?).bind fun x32 => (k0 (decide ((w64 (z6 + z4)) ≤ x32)))) else none) else (bif decide (z3 = 15) then (bif inR 0 z7.length then ((z7[0]?).bind fun x33 => (k0 (decide (x33 ≤ z4)))) else none) else (bif decide (z3 = 16) then (bif inR 0 z7.length then ((z7[0]?).bind fun x34 => (k0 (decide (x34 ≤ z4)))) else none) else (bif inR 0 z7.length then ((z7[0]?).bind fun x35 => (k0 (decide (x35 = z4)))) else none))))))))))))))))) N a0 0 a1 a2 a3 a4 [])
def P218 : AP := ⟨[pL zs1, .agg zb4], []⟩
def E218 (x : P218.den) (k : KK R) : Option R := ratchetbase_widthsFit N x.1.1 x.1.2.1.1 x.1.2.1.2.1 x.1.2.1.2.2.1 x.1.2.1.2.2.2.1 (fun r0 => k [] [dB r0] [])
def F218 : CfS R := uC (F217 N) 240 P218 (E218 N)
theorem F218_ok : FOK (F218 N : CfS R) (runF T) := uCk (F217_ok N) c240 (H := H218) (Lp := (L218_1 N)) (hl := (LOK_of (l := [(58, [0, 3, 5, 6], c240_l0)]) (by kernel_rfl) ⟨(updL_ok (O218_l0 N N)), trivial⟩))
def ratchetbase_nodeErr_l0 (N : Nat) {R : Type} (k0 : Int → Option R) (k1 : List Int → zt2 → Int → Int → List Int → Int → Option R) : Nat → List Int → zt2 → Int → Int → Int → Int → List Int → Int → Option R
  | 0, _, _, _, _, _, _, _, _ => none
  | n + 1, b0, b1, b2, b3, b4, b5, b6, b7 => (bif decide (b3 < ((b6.length : Nat) : Int)) then ((at? b6 b3).bind fun x1 => (ratchetbase_Within N x1 0 (w64 (b2 - 1)) (fun y2 => (bif (!y2) then (k0 9) else (ratchetbase_nodeErr_l0 N k0 k1 n b0 b1 b2 (w64 (b3 + 1)) b4 b5 b6 b7))))) else (k1 b0 b1 b4 b5 b6 b7))
def P219_l0 : SP := ⟨[(0, pL [hI]), (1, pL zs1), (2, pI), (7, .ptr 0 0), (8, pI)], [(0, .box zb4)]⟩
def E219_l0 (n : Nat) (x : P219_l0.den) (k : KS R) : Option R := ratchetbase_nodeErr_l0 N (fun r0 => k .ret ⟨[(6, dI r0)], []⟩) (fun r0 r1 r2 r3 r4 r5 => k (.ex 0) ⟨[(0, dL [hI] r0), (1, dL zs1 r1), (7, .ptr 0 0)], [(0, .box [dI r2, dI r3, dL [hI] r4, dI r5])]⟩) n x.1.1 x.1.2.1 x.1.2.2.1 x.1.2.2.2.2.1 x.2.1.1 x.2.1.2.1 x.2.1.2.2.1 x.2.1.2.2.2.1
theorem O219_l0 : LpG T P219_l0 (E219_l0 N (R := R)) [0, 1, 2, 7, 8] c200_l0 := lpk (F218_ok N) 506
def L219_1 : LpS R := updL noL 506 (lent' P219_l0 (E219_l0 N N))
def ratchetbase_nodeErr (N : Nat) {R : Type} (a0 : List Int) (a1 : zt2) (a2 : Int) (k0 : Int → Option R) : Option R := ((at? a1 a2).bind fun x1 => (ratchetbase_Within N x1.1 0 18 (fun y2 => (bif (!y2) then (k0 15) else (ratchetbase_IsWidth N x1.2.1 (fun y3 => (bif (!y3) then (k0 2) else (ratchetbase_ArgCount N x1.1 (fun y4 => (bif decide (((x1.2.2.1.length : Nat) : Int) ≠ y4) then (k0 10) else (ratchetbase_nodeErr_l0 N k0 (fun z6 z7 z8 z9 z10 z11 => (bif decide (z8 = 0) then (ratchetbase_Fits N z11 z9 (fun y12 => (bif (!y12) then (k0 2) else (k0 0)))) else (bif decide (z8 = 1) then (ratchetbase_Within N z11 0 (w64 (((z6.length : Nat) : Int) - 1)) (fun y13 => (bif (!y13) then (k0 6) else ((at? z6 z11).bind fun x14 => (bif decide (x14 ≠ z9) then (k0 25) else (k0 0)))))) else (bif decide (z8 = 14) then (ratchetbase_Within N z11 0 15 (fun y15 => (bif (!y15) then (k0 2) else (ratchetbase_widthsFit N z7 z8 z9 z10 z11 (fun y16 => (bif (!y16) then (k0 25) else (k0 0))))))) else (bif decide (z11 ≠ 0) then (k0 3) else (ratchetbase_widthsFit N z7 z8 z9 z10 z11 (fun y17 => (bif (!y17) then (k0 25) else (k0 0))))))))) N a0 a1 a2 0 x1.1 x1.2.1 x1.2.2.1 x1.2.2.2)))))))))))
def P219 : AP := ⟨[pL [hI], pL zs1, pI], []⟩
def E219 (x : P219.den) (k : KK R) : Option R := ratchetbase_nodeErr N x.1.1 x.1.2.1 x.1.2.2.1 (fun r0 => k [] [dI r0] [])
def F219 : CfS R := uC (F218 N) 200 P219 (E219 N)
theorem F219_ok : FOK (F219 N : CfS R) (runF T) := uCk (F218_ok N) c200 (Lp := (L219_1 N)) (hl := (LOK_of (l := [(506, [0, 1, 2, 7, 8], c200_l0)]) (by kernel_rfl) ⟨(updL_ok (O219_l0 N N)), trivial⟩))
def ratchetbase_NodesErr_l0 (N : Nat) {R : Type} (k0 : Int → Int → Option R) (k1 : Option R) : Nat → List Int → zt2 → Int → Option R
  | 0, _, _, _ => none
  | n + 1, b0, b1, b2 => (bif decide (b2 < ((b1.length : Nat) : Int)) then (ratchetbase_nodeErr N b0 b1 b2 (fun y1 => (bif decide (y1 ≠ 0) then (k0 b2 y1) else (ratchetbase_NodesErr_l0 N k0 k1 n b0 b1 (w64 (b2 + 1)))))) else k1)
def P220_l0 : SP := ⟨[(0, pL [hI]), (1, pL zs1), (6, pI)], []⟩
def E220_l0 (n : Nat) (x : P220_l0.den) (k : KS R) : Option R := ratchetbase_NodesErr_l0 N (fun r0 r1 => k .ret ⟨[(4, dI r0), (5, dI r1)], []⟩) (k (.ex 0) ⟨[], []⟩) n x.1.1 x.1.2.1 x.1.2.2.1
theorem O220_l0 : LpG T P220_l0 (E220_l0 N (R := R)) [0, 1, 6] c171_l0 := lpk (F219_ok N) 58
def L220_1 : LpS R := updL noL 58 (lent' P220_l0 (E220_l0 N N))
def ratchetbase_NodesErr (N : Nat) {R : Type} (a0 : List Int) (a1 : zt2) (k0 : Int → Int → Option R) : Option R := (bif decide (400 < ((a1.length : Nat) : Int)) then (k0 0 8) else (ratchetbase_NodesErr_l0 N k0 (k0 0 0) N a0 a1 0))
def P220 : AP := ⟨[pL [hI], pL zs1], []⟩
def E220 (x : P220.den) (k : KK R) : Option R := ratchetbase_NodesErr N x.1.1 x.1.2.1 (fun r0 r1 => k [] [dI r0, dI r1] [])
def F220 : CfS R := uC (F219 N) 171 P220 (E220 N)
theorem F220_ok : FOK (F220 N : CfS R) (runF T) := uCk (F219_ok N) c171 (Lp := (L220_1 N)) (hl := (LOK_of (l := [(58, [0, 1, 6], c171_l0)]) (by kernel_rfl) ⟨(updL_ok (O220_l0 N N)), trivial⟩))
def ratchetbase_IsNode (N : Nat) {R : Type} (a0 : zt2) (a1 : Int) (k0 : Bool → Option R) : Option R := (ratchetbase_Within N a1 0 (w64 (((a0.length : Nat) : Int) - 1)) k0)
def P221 : AP := ⟨[pL zs1, pI], []⟩
def E221 (x : P221.den) (k : KK R) : Option R := ratchetbase_IsNode N x.1.1 x.1.2.1 (fun r0 => k [] [dB r0] [])
def F221 : CfS R := uC (F220 N) 201 P221 (E221 N)
theorem F221_ok : FOK (F221 N : CfS R) (runF T) := uCk (F220_ok N) c201
def ratchetbase_IsCondition (N : Nat) {R : Type} (a0 : zt2) (a1 : Int) (k0 : Bool → Option R) : Option R := (ratchetbase_IsNode N a0 a1 (fun y1 => (bif y1 then ((at? a0 a1).bind fun x2 => (k0 (decide (x2.2.1 = 1)))) else (k0 false))))
def P222 : AP := ⟨[pL zs1, pI], []⟩
def E222 (x : P222.den) (k : KK R) : Option R := ratchetbase_IsCondition N x.1.1 x.1.2.1 (fun r0 => k [] [dB r0] [])
def F222 : CfS R := uC (F221 N) 173 P222 (E222 N)
theorem F222_ok : FOK (F222 N : CfS R) (runF T) := uCk (F221_ok N) c173
def ratchetbase_WritesErr_l0 (N : Nat) {R : Type} (k0 : Int → Option R) (k1 : Option R) : Nat → zt1 → zt2 → zt7 → Int → Option R
  | 0, _, _, _, _ => none
  | n + 1, b0, b1, b2, b3 => (bif decide (b3 < ((b2.length : Nat) : Int)) then ((at? b2 b3).bind fun x1 => (ratchetbase_Within N x1.1 0 (w64 (((b0.length : Nat) : Int) - 1)) (fun y2 => (bif (!y2) then (k0 6) else ((at? b2 b3).bind fun x3 => (ratchetbase_IsCondition N b1 x3.2.1 (fun y4 => (bif (!y4) then (k0 9) else ((at? b2 b3).bind fun x5 => (ratchetbase_IsNode N b1 x5.2.2 (fun y6 => (bif (!y6) then (k0 9) else ((at? b2 b3).bind fun x7 => ((at? b1 x7.2.2).bind fun x8 => ((at? b2 b3).bind fun x9 => ((at? b0 x9.1).bind fun x10 => (bif decide (x8.2.1 ≠ x10.2.2.1) then (k0 25) else (ratchetbase_WritesErr_l0 N k0 k1 n b0 b1 b2 (w64 (b3 + 1)))))))))))))))))))) else k1)
def P223_l0 : SP := ⟨[(0, pL zs2), (1, pL zs1), (2, pL zs5), (7, pI)], []⟩
def E223_l0 (n : Nat) (x : P223_l0.den) (k : KS R) : Option R := ratchetbase_WritesErr_l0 N (fun r0 => k .ret ⟨[(6, dI r0)], []⟩) (k (.ex 0) ⟨[], []⟩) n x.1.1 x.1.2.1 x.1.2.2.1 x.1.2.2.2.1
theorem O223_l0 : LpG T P223_l0 (E223_l0 N (R := R)) [0, 1, 2, 7] c174_l0 := lpk (F222_ok N) 58
def L223_1 : LpS R := updL noL 58 (lent' P223_l0 (E223_l0 N N))
def ratchetbase_WritesErr (N : Nat) {R : Type} (a0 : zt1) (a1 : zt2) (a2 : zt7) (k0 : Int → Option R) : Option R := (bif decide (16 < ((a2.length : Nat) : Int)) then (k0 8) else (ratchetbase_WritesErr_l0 N k0 (k0 0) N a0 a1 a2 0))
def P223 : AP := ⟨[pL zs2, pL zs1, pL zs5], []⟩
def E223 (x : P223.den) (k : KK R) : Option R := ratchetbase_WritesErr N x.1.1 x.1.2.1 x.1.2.2.1 (fun r0 => k [] [dI r0] [])
def F223 : CfS R := uC (F222 N) 174 P223 (E223 N)
theorem F223_ok : FOK (F223 N : CfS R) (runF T) := uCk (F222_ok N) c174 (Lp := (L223_1 N)) (hl := (LOK_of (l := [(58, [0, 1, 2, 7], c174_l0)]) (by kernel_rfl) ⟨(updL_ok (O223_l0 N N)), trivial⟩))
def ratchetbase_OutputsErr_l1 (N : Nat) {R : Type} (k0 : Int → Int → Option R) (k1 : zt2 → zt6 → Int → Option R) : Nat → zt2 → zt6 → Int → Int → Option R
  | 0, _, _, _, _ => none
  | n + 1, b0, b1, b2, b3 => (bif decide (b3 < b2) then ((at? b1 b3).bind fun x1 => ((at? b1 b2).bind fun x2 => (bif decide (x1.1 = x2.1) then (k0 b2 5) else (ratchetbase_OutputsErr_l1 N k0 k1 n b0 b1 b2 (w64 (b3 + 1)))))) else (k1 b0 b1 b2))
def P224_l1 : SP := ⟨[(0, pL zs1), (1, pL [.s, hI]), (6, pI), (7, pI)], []⟩
def E224_l1 (n : Nat) (x : P224_l1.den) (k : KS R) : Option R := ratchetbase_OutputsErr_l1 N (fun r0 r1 => k .ret ⟨[(4, dI r0), (5, dI r1)], []⟩) (fun r0 r1 r2 => k (.ex 2) ⟨[(0, dL zs1 r0), (1, dL [.s, hI] r1), (6, dI r2)], []⟩) n x.1.1 x.1.2.1 x.1.2.2.1 x.1.2.2.2.1
theorem O224_l1 : LpG T P224_l1 (E224_l1 N (R := R)) [0, 1, 6, 7] c175_l1 := lpk (F223_ok N) 14922
def L224_1 : LpS R := updL noL 14922 (lent' P224_l1 (E224_l1 N N))
def ratchetbase_OutputsErr_l0 (N : Nat) {R : Type} (k0 : Int → Int → Option R) (k1 : Option R) : Nat → zt2 → zt6 → Int → Option R
  | 0, _, _, _ => none
  | n + 1, b0, b1, b2 => (bif decide (b2 < ((b1.length : Nat) : Int)) then ((at? b1 b2).bind fun x1 => (ratchetbase_IsName N x1.1 (fun y2 => (bif (!y2) then (k0 b2 4) else (ratchetbase_OutputsErr_l1 N k0 (fun z5 z6 z7 => ((at? z6 z7).bind fun x8 => (ratchetbase_IsNode N z5 x8.2 (fun y9 => (bif (!y9) then (k0 z7 9) else (ratchetbase_OutputsErr_l0 N k0 k1 n z5 z6 (w64 (z7 + 1)))))))) N b0 b1 b2 0))))) else k1)
def P224_l0 : SP := ⟨[(0, pL zs1), (1, pL [.s, hI]), (6, pI)], []⟩
def E224_l0 (n : Nat) (x : P224_l0.den) (k : KS R) : Option R := ratchetbase_OutputsErr_l0 N (fun r0 r1 => k .ret ⟨[(4, dI r0), (5, dI r1)], []⟩) (k (.ex 0) ⟨[], []⟩) n x.1.1 x.1.2.1 x.1.2.2.1
theorem O224_l0 : LpG T P224_l0 (E224_l0 N (R := R)) [0, 1, 6] c175_l0 := lpk (F223_ok N) 58 (Lp := (L224_1 N)) (hl := (LOK_of (l := [(14922, [0, 1, 6, 7], c175_l1)]) (by kernel_rfl) ⟨(updL_ok (O224_l1 N N)), trivial⟩))
def L224_2 : LpS R := updL (L224_1 N) 58 (lent' P224_l0 (E224_l0 N N))
def ratchetbase_OutputsErr (N : Nat) {R : Type} (a0 : zt2) (a1 : zt6) (k0 : Int → Int → Option R) : Option R := (bif decide (12 < ((a1.length : Nat) : Int)) then (k0 0 8) else (ratchetbase_OutputsErr_l0 N k0 (k0 0 0) N a0 a1 0))
def P224 : AP := ⟨[pL zs1, pL [.s, hI]], []⟩
def E224 (x : P224.den) (k : KK R) : Option R := ratchetbase_OutputsErr N x.1.1 x.1.2.1 (fun r0 r1 => k [] [dI r0, dI r1] [])
def F224 : CfS R := uC (F223 N) 175 P224 (E224 N)
theorem F224_ok : FOK (F224 N : CfS R) (runF T) := uCk (F223_ok N) c175 (Lp := (L224_2 N)) (hl := (LOK_of (l := [(58, [0, 1, 6], c175_l0)]) (by kernel_rfl) ⟨(updL_ok (O224_l0 N N)), trivial⟩))
def ratchetbase_Has_l0 (N : Nat) {R : Type} (k0 : Bool → Option R) (k1 : Option R) : Nat → List Int → Int → Int → Option R
  | 0, _, _, _ => none
  | n + 1, b0, b1, b2 => (bif decide (b2 < ((b0.length : Nat) : Int)) then ((at? b0 b2).bind fun x1 => (bif decide (x1 = b1) then (k0 true) else (ratchetbase_Has_l0 N k0 k1 n b0 b1 (w64 (b2 + 1))))) else k1)
def P225_l0 : SP := ⟨[(0, pL [hI]), (1, pI), (5, pI)], []⟩
def E225_l0 (n : Nat) (x : P225_l0.den) (k : KS R) : Option R := ratchetbase_Has_l0 N (fun r0 => k .ret ⟨[(4, dB r0)], []⟩) (k (.ex 0) ⟨[], []⟩) n x.1.1 x.1.2.1 x.1.2.2.1
theorem O225_l0 : LpG T P225_l0 (E225_l0 N (R := R)) [0, 1, 5] c176_l0 := lpk (F224_ok N) 26
def L225_1 : LpS R := updL noL 26 (lent' P225_l0 (E225_l0 N N))
def ratchetbase_Has (N : Nat) {R : Type} (a0 : List Int) (a1 : Int) (k0 : Bool → Option R) : Option R := (ratchetbase_Has_l0 N k0 (k0 false) N a0 a1 0)
def P225 : AP := ⟨[pL [hI], pI], []⟩
def E225 (x : P225.den) (k : KK R) : Option R := ratchetbase_Has N x.1.1 x.1.2.1 (fun r0 => k [] [dB r0] [])
def F225 : CfS R := uC (F224 N) 176 P225 (E225 N)
theorem F225_ok : FOK (F225 N : CfS R) (runF T) := uCk (F224_ok N) c176 (Lp := (L225_1 N)) (hl := (LOK_of (l := [(26, [0, 1, 5], c176_l0)]) (by kernel_rfl) ⟨(updL_ok (O225_l0 N N)), trivial⟩))
def ratchetbase_DesignErr_l1 (N : Nat) {R : Type} (k0 : Int → Int → Option R) (k1 : Int → ByteArray → zt6 → zt1 → zt2 → zt0 → zt6 → zt5 → ByteArray → Int → zt7 → Option R) : Nat → Int → Int → ByteArray → zt6 → zt1 → zt2 → zt0 → zt6 → zt5 → ByteArray → Int → zt7 → Option R
  | 0, _, _, _, _, _, _, _, _, _, _, _, _ => none
  | n + 1, b0, b1, b2, b3, b4, b5, b6, b7, b8, b9, b10, b11 => (bif decide (b1 < b0) then ((at? b6 b1).bind fun x1 => (bif decide (x1.1 = b9) then (k0 b0 5) else (ratchetbase_DesignErr_l1 N k0 k1 n b0 (w64 (b1 + 1)) b2 b3 b4 b5 b6 b7 b8 b9 b10 b11))) else (k1 b0 b2 b3 b4 b5 b6 b7 b8 b9 b10 b11))
def P226_l1 : SP := ⟨[(1, .ptr 0 0), (10, pI), (11, .ptr 1 0), (12, pI)], [(0, .box zb2), (1, .box [pS, pI, pL zs5])]⟩
def E226_l1 (n : Nat) (x : P226_l1.den) (k : KS R) : Option R := ratchetbase_DesignErr_l1 N (fun r0 r1 => k .ret ⟨[(2, dI r0), (3, dI r1)], []⟩) (fun r0 r1 r2 r3 r4 r5 r6 r7 r8 r9 r10 => k (.ex 2) ⟨[(1, .ptr 0 0), (10, dI r0), (11, .ptr 1 0)], [(0, .box (zd3 r1 r2 r3 r4 r5 r6 r7)), (1, .box [dS r8, dI r9, dL zs5 r10])]⟩) n x.1.2.1 x.1.2.2.2.1 x.2.1.1 x.2.1.2.1 x.2.1.2.2.1 x.2.1.2.2.2.1 x.2.1.2.2.2.2.1 x.2.1.2.2.2.2.2.1 x.2.1.2.2.2.2.2.2.1 x.2.2.1.1 x.2.2.1.2.1 x.2.2.1.2.2.1
theorem O226_l1 : LpG T P226_l1 (E226_l1 N (R := R)) [1, 10, 11, 12] c107_l1 := lpk (F225_ok N) 521370
def L226_1 : LpS R := updL noL 521370 (lent' P226_l1 (E226_l1 N N))
def ratchetbase_DesignErr_l0 (N : Nat) {R : Type} (k0 : Int → Int → Option R) (k1 : ByteArray → zt6 → zt1 → zt2 → zt0 → zt6 → zt5 → Option R) : Nat → Int → ByteArray → zt6 → zt1 → zt2 → zt0 → zt6 → zt5 → Option R
  | 0, _, _, _, _, _, _, _, _ => none
  | n + 1, b0, b1, b2, b3, b4, b5, b6, b7 => (bif decide (b0 < ((b5.length : Nat) : Int)) then ((at? b5 b0).bind fun x1 => (ratchetbase_IsName N x1.1 (fun y2 => (bif (!y2) then (k0 b0 4) else (ratchetbase_DesignErr_l1 N k0 (fun z5 z6 z7 z8 z9 z10 z11 z12 z13 z14 z15 => (ratchetbase_IsCondition N z9 z14 (fun y16 => (bif (!y16) then (k0 z5 9) else (ratchetbase_WritesErr N z8 z9 z15 (fun y17 => (bif decide (y17 ≠ 0) then (k0 z5 y17) else (ratchetbase_DesignErr_l0 N k0 k1 n (w64 (z5 + 1)) z6 z7 z8 z9 z10 z11 z12)))))))) N b0 0 b1 b2 b3 b4 b5 b6 b7 x1.1 x1.2.1 x1.2.2))))) else (k1 b1 b2 b3 b4 b5 b6 b7))
def P226_l0 : SP := ⟨[(1, .ptr 0 0), (10, pI)], [(0, .box zb2)]⟩
def E226_l0 (n : Nat) (x : P226_l0.den) (k : KS R) : Option R := ratchetbase_DesignErr_l0 N (fun r0 r1 => k .ret ⟨[(2, dI r0), (3, dI r1)], []⟩) (fun r0 r1 r2 r3 r4 r5 r6 => k (.ex 0) ⟨[(1, .ptr 0 0)], [(0, .box (zd3 r0 r1 r2 r3 r4 r5 r6))]⟩) n x.1.2.1 x.2.1.1 x.2.1.2.1 x.2.1.2.2.1 x.2.1.2.2.2.1 x.2.1.2.2.2.2.1 x.2.1.2.2.2.2.2.1 x.2.1.2.2.2.2.2.2.1
theorem O226_l0 : LpG T P226_l0 (E226_l0 N (R := R)) [1, 10] c107_l0 := lpk (F225_ok N) 1018 (Lp := (L226_1 N)) (hl := (LOK_of (l := [(521370, [1, 10, 11, 12], c107_l1)]) (by kernel_rfl) ⟨(updL_ok (O226_l1 N N)), trivial⟩))
def L226_2 : LpS R := updL (L226_1 N) 1018 (lent' P226_l0 (E226_l0 N N))
def ratchetbase_DesignErr_l3 (N : Nat) {R : Type} (k0 : Int → Int → Option R) (k1 : Int → ByteArray → zt6 → zt1 → zt2 → zt0 → zt6 → zt5 → Option R) : Nat → Int → Int → ByteArray → zt6 → zt1 → zt2 → zt0 → zt6 → zt5 → Int → List Int → Option R
  | 0, _, _, _, _, _, _, _, _, _, _, _ => none
  | n + 1, b0, b1, b2, b3, b4, b5, b6, b7, b8, b9, b10 => (bif decide (b1 < ((b10.length : Nat) : Int)) then ((at? b10 b1).bind fun x1 => (ratchetbase_Within N x1 0 (w64 (((b6.length : Nat) : Int) - 1)) (fun y2 => (bif (!y2) then (k0 b0 6) else (bif slP 0 b1 b10.length then ((at? b10 b1).bind fun x3 => (ratchetbase_Has N (List.take b1.toNat (List.drop 0 b10)) x3 (fun y4 => (bif y4 then (k0 b0 23) else (ratchetbase_DesignErr_l3 N k0 k1 n b0 (w64 (b1 + 1)) b2 b3 b4 b5 b6 b7 b8 b9 b10))))) else none))))) else (k1 b0 b2 b3 b4 b5 b6 b7 b8))
def P226_l3 : SP := ⟨[(1, .ptr 0 0), (16, pI), (17, .ptr 1 0), (18, pI)], [(0, .box zb2), (1, .box [pI, pL [hI]])]⟩
def E226_l3 (n : Nat) (x : P226_l3.den) (k : KS R) : Option R := ratchetbase_DesignErr_l3 N (fun r0 r1 => k .ret ⟨[(2, dI r0), (3, dI r1)], []⟩) (fun r0 r1 r2 r3 r4 r5 r6 r7 => k (.ex 6) ⟨[(1, .ptr 0 0), (16, dI r0)], [(0, .box (zd3 r1 r2 r3 r4 r5 r6 r7))]⟩) n x.1.2.1 x.1.2.2.2.1 x.2.1.1 x.2.1.2.1 x.2.1.2.2.1 x.2.1.2.2.2.1 x.2.1.2.2.2.2.1 x.2.1.2.2.2.2.2.1 x.2.1.2.2.2.2.2.2.1 x.2.2.1.1 x.2.2.1.2.1
theorem O226_l3 : LpG T P226_l3 (E226_l3 N (R := R)) [1, 16, 17, 18] c107_l3 := lpk (F225_ok N) 4191390 (Lp := (L226_2 N))
def L226_3 : LpS R := updL (L226_2 N) 4191390 (lent' P226_l3 (E226_l3 N N))
def ratchetbase_DesignErr_l2 (N : Nat) {R : Type} (k0 : Int → Int → Option R) (k1 : Option R) : Nat → Int → ByteArray → zt6 → zt1 → zt2 → zt0 → zt6 → zt5 → Option R
  | 0, _, _, _, _, _, _, _, _ => none
  | n + 1, b0, b1, b2, b3, b4, b5, b6, b7 => (bif decide (b0 < ((b7.length : Nat) : Int)) then ((at? b7 b0).bind fun x1 => (ratchetbase_Within N x1.1 0 3 (fun y2 => (bif (!y2) then (k0 b0 15) else (bif decide (((x1.2.length : Nat) : Int) = 0) then (k0 b0 10) else (bif decide (16 < ((x1.2.length : Nat) : Int)) then (k0 b0 10) else (ratchetbase_DesignErr_l3 N k0 (fun z7 z8 z9 z10 z11 z12 z13 z14 => (ratchetbase_DesignErr_l2 N k0 k1 n (w64 (z7 + 1)) z8 z9 z10 z11 z12 z13 z14)) N b0 0 b1 b2 b3 b4 b5 b6 b7 x1.1 x1.2))))))) else k1)
def P226_l2 : SP := ⟨[(1, .ptr 0 0), (16, pI)], [(0, .box zb2)]⟩
def E226_l2 (n : Nat) (x : P226_l2.den) (k : KS R) : Option R := ratchetbase_DesignErr_l2 N (fun r0 r1 => k .ret ⟨[(2, dI r0), (3, dI r1)], []⟩) (k (.ex 4) ⟨[], []⟩) n x.1.2.1 x.2.1.1 x.2.1.2.1 x.2.1.2.2.1 x.2.1.2.2.2.1 x.2.1.2.2.2.2.1 x.2.1.2.2.2.2.2.1 x.2.1.2.2.2.2.2.2.1
theorem O226_l2 : LpG T P226_l2 (E226_l2 N (R := R)) [1, 16] c107_l2 := lpk (F225_ok N) 8186 (Lp := (L226_3 N)) (hl := (LOK_of (l := [(4191390, [1, 16, 17, 18], c107_l3)]) (by kernel_rfl) ⟨(updL_ok (O226_l3 N N)), trivial⟩))
def L226_4 : LpS R := updL (L226_3 N) 8186 (lent' P226_l2 (E226_l2 N N))
def ratchetbase_DesignErr (N : Nat) {R : Type} (a0 : ByteArray) (a1 : zt6) (a2 : zt1) (a3 : zt2) (a4 : zt0) (a5 : zt6) (a6 : zt5) (k0 : Int → Int → Option R) : Option R := (ratchetbase_IsName N a0 (fun y1 => (bif (!y1) then (k0 0 4) else (ratchetbase_PortsErr N a1 (fun y2 y3 => (bif decide (y3 ≠ 0) then (k0 y2 y3) else (ratchetbase_ElementsErr N a1 a2 (fun y4 y5 => (bif decide (y5 ≠ 0) then (k0 y4 y5) else (ratchetbase_Leaves N a0 a1 a2 a3 a4 a5 a6 (fun y6 => (ratchetbase_NodesErr N y6 a3 (fun y7 y8 => (bif decide (y8 ≠ 0) then (k0 y7 y8) else (bif decide (16 < ((a4.length : Nat) : Int)) then (k0 0 8) else (ratchetbase_DesignErr_l0 N k0 (fun z20 z21 z22 z23 z24 z25 z26 => (ratchetbase_OutputsErr N z23 z25 (fun y27 y28 => (bif decide (y28 ≠ 0) then (k0 y27 y28) else (bif decide (16 < ((z26.length : Nat) : Int)) then (k0 0 8) else (ratchetbase_DesignErr_l2 N k0 (k0 0 0) N 0 z20 z21 z22 z23 z24 z25 z26)))))) N 0 a0 a1 a2 a3 a4 a5 a6))))))))))))))))
def P226 : AP := ⟨[.agg zb2], []⟩
def E226 (x : P226.den) (k : KK R) : Option R := ratchetbase_DesignErr N x.1.1.1 x.1.1.2.1 x.1.1.2.2.1 x.1.1.2.2.2.1 x.1.1.2.2.2.2.1 x.1.1.2.2.2.2.2.1 x.1.1.2.2.2.2.2.2.1 (fun r0 r1 => k [] [dI r0, dI r1] [])
def F226 : CfS R := uC (F225 N) 107 P226 (E226 N)
theorem F226_ok : FOK (F226 N : CfS R) (runF T) := uCk (F225_ok N) c107 (Lp := (L226_4 N)) (hl := (LOK_of (l := [(1018, [1, 10], c107_l0), (8186, [1, 16], c107_l2)]) (by kernel_rfl) ⟨(updL_ne (by decide) (updL_ne (by decide) (updL_ok (O226_l0 N N)))), (updL_ok (O226_l2 N N)), trivial⟩))
def ratchetbase_IsDesign (N : Nat) {R : Type} (a0 : ByteArray) (a1 : zt6) (a2 : zt1) (a3 : zt2) (a4 : zt0) (a5 : zt6) (a6 : zt5) (k0 : Bool → Option R) : Option R := (ratchetbase_DesignErr N a0 a1 a2 a3 a4 a5 a6 (fun y1 y2 => (k0 (decide (y2 = 0)))))
def P227 : AP := ⟨[.agg zb2], []⟩
def E227 (x : P227.den) (k : KK R) : Option R := ratchetbase_IsDesign N x.1.1.1 x.1.1.2.1 x.1.1.2.2.1 x.1.1.2.2.2.1 x.1.1.2.2.2.2.1 x.1.1.2.2.2.2.2.1 x.1.1.2.2.2.2.2.2.1 (fun r0 => k [] [dB r0] [])
def F227 : CfS R := uC (F226 N) 66 P227 (E227 N)
theorem F227_ok : FOK (F227 N : CfS R) (runF T) := uCk (F226_ok N) c66
def ratchetbase_Size (N : Nat) {R : Type} (a0 : Int) (k0 : Int → Option R) : Option R := (k0 (max a0 (w64 (0 - a0))))
def P228 : AP := ⟨[pI], []⟩
def E228 (x : P228.den) (k : KK R) : Option R := ratchetbase_Size N x.1.1 (fun r0 => k [] [dI r0] [])
def F228 : CfS R := uC (F227 N) 108 P228 (E228 N)
theorem F228_ok : FOK (F228 N : CfS R) (runF T) := uCk (F227_ok N) c108
def H229 : Nat → Option (List Sh) := fun n => if n = 19000 then some [.i .u8] else none
def ratchetbase_Decimal_l0 (N : Nat) {R : Type} (k0 : ByteArray → ByteArray → Option R) : Nat → Int → ByteArray → ByteArray → Option R
  | 0, _, _, _ => none
  | n + 1, b0, b1, b2 => (bif decide (b0 ≠ 0) then (ratchetbase_Size N (Int.tmod b0 10) (fun y1 => (bif bytesOK [(IntKind.wrap .u8 (w64 (48 + y1)))] then (bif decide (((((strI [(IntKind.wrap .u8 (w64 (48 + y1)))]).size + b1.size : Nat)) : Int) > 9223372036854775807) then none else (ratchetbase_Decimal_l0 N k0 n (w64 (Int.tdiv b0 10)) ((strI [(IntKind.wrap .u8 (w64 (48 + y1)))]) ++ b1) b2)) else none))) else (k0 b1 b2))
def P229_l0 : SP := ⟨[(0, pI), (3, pS), (4, pS)], []⟩
def E229_l0 (n : Nat) (x : P229_l0.den) (k : KS R) : Option R := ratchetbase_Decimal_l0 N (fun r0 r1 => k (.ex 0) ⟨[(3, dS r0), (4, dS r1)], []⟩) n x.1.1 x.1.2.1 x.1.2.2.1
theorem O229_l0 : LpG T P229_l0 (E229_l0 N (R := R)) [0, 3, 4] c67_l0 := lpk (F228_ok N) 992 (H := H229)
def L229_1 : LpS R := updL noL 992 (lent' P229_l0 (E229_l0 N N))
def ratchetbase_Decimal_j0 (N : Nat) {R : Type} (k0 : ByteArray → Option R) (b0 : Int) (b1 b2 : ByteArray) : Option R := (ratchetbase_Decimal_l0 N (fun z2 z3 => (bif decide ((((z3.size + z2.size : Nat)) : Int) > 9223372036854775807) then none else (k0 (z3 ++ z2)))) N b0 b1 b2)
def P229_j0 : SP := ⟨[(0, pI), (3, pS), (4, pS)], []⟩
def E229_j0 (n : Nat) (x : P229_j0.den) (k : KS R) : Option R := match n with
  | 0 => none
  | _ + 1 => ratchetbase_Decimal_j0 N (fun r0 => k .ret ⟨[(2, dS r0)], []⟩) x.1.1 x.1.2.1 x.1.2.2.1
theorem O229_j0 : LpG T P229_j0 (E229_j0 N (R := R)) [0, 3, 4] c67_j0 := lpk (F228_ok N) 62 (H := H229) (Lp := (L229_1 N)) (hl := (LOK_of (l := [(992, [0, 3, 4], c67_l0)]) (by kernel_rfl) ⟨(updL_ok (O229_l0 N N)), trivial⟩))
def L229_2 : LpS R := updL (L229_1 N) 62 (lent' P229_j0 (E229_j0 N 1))
def ratchetbase_Decimal (N : Nat) {R : Type} (a0 : Int) (k0 : ByteArray → Option R) : Option R := (bif decide (a0 = 0) then (k0 (ByteArray.mk #[48])) else (bif decide (a0 < 0) then (ratchetbase_Decimal_j0 N k0 a0 (ByteArray.mk #[]) (ByteArray.mk #[45])) else (ratchetbase_Decimal_j0 N k0 a0 (ByteArray.mk #[]) (ByteArray.mk #[]))))
def P229 : AP := ⟨[pI], []⟩
def E229 (x : P229.den) (k : KK R) : Option R := ratchetbase_Decimal N x.1.1 (fun r0 => k [] [dS r0] [])
def F229 : CfS R := uC (F228 N) 67 P229 (E229 N)
theorem F229_ok : FOK (F229 N : CfS R) (runF T) := uCk (F228_ok N) c67 (H := H229) (Lp := (L229_2 N)) (hl := (LOK_of (l := [(62, [0, 3, 4], c67_j0)]) (by kernel_rfl) ⟨(updL_ok (O229_j0 N 1)), trivial⟩))
def H230 : Nat → Option (List Sh) := fun n => if n = 18000 then some [.s, hI] else none
def ratchetlaw30_isFilter_l0 (N : Nat) {R : Type} (k0 : Bool → Option R) (k1 : Option R) : Nat → Int → List Int → Int → Int → ByteArray → zt6 → zt1 → zt2 → zt0 → zt6 → zt5 → Option R
  | 0, _, _, _, _, _, _, _, _, _, _, _ => none
  | n + 1, b0, b1, b2, b3, b4, b5, b6, b7, b8, b9, b10 => (bif decide (b0 < ((b6.length : Nat) : Int)) then ((at? b6 b0).bind fun x1 => (ratchetbase_Decimal N (w64 (b0 + 1)) (fun y2 => (bif decide (((((ByteArray.mk #[100]).size + y2.size : Nat)) : Int) > 9223372036854775807) then none else (bif (true != (decide (x1.1 = ((ByteArray.mk #[100]) ++ y2)) && (decide (x1.2.1 = 0) && (decide (x1.2.2.1 = b2) && (decide (x1.2.2.2.1 = 0) && (decide (x1.2.2.2.2 = 0) && true)))))) then (k0 false) else (ratchetlaw30_isFilter_l0 N k0 k1 n (w64 (b0 + 1)) b1 b2 b3 b4 b5 b6 b7 b8 b9 b10)))))) else k1)
def P230_l0 : SP := ⟨[(2, .ptr 0 0), (3, .ptr 1 0), (5, pI)], [(0, .box zb5), (1, .box zb2)]⟩
def E230_l0 (n : Nat) (x : P230_l0.den) (k : KS R) : Option R := ratchetlaw30_isFilter_l0 N (fun r0 => k .ret ⟨[(4, dB r0)], []⟩) (k (.ex 0) ⟨[], []⟩) n x.1.2.2.1 x.2.1.1 x.2.1.2.1 x.2.1.2.2.1 x.2.2.1.1 x.2.2.1.2.1 x.2.2.1.2.2.1 x.2.2.1.2.2.2.1 x.2.2.1.2.2.2.2.1 x.2.2.1.2.2.2.2.2.1 x.2.2.1.2.2.2.2.2.2.1
theorem O230_l0 : LpG T P230_l0 (E230_l0 N (R := R)) [2, 3, 5] c24_l0 := lpk (F229_ok N) 58 (H := H230)
def L230_1 : LpS R := updL noL 58 (lent' P230_l0 (E230_l0 N N))
def ratchetlaw30_isFilter (N : Nat) {R : Type} (a0 : List Int) (a1 a2 : Int) (a3 : ByteArray) (a4 : zt6) (a5 : zt1) (a6 : zt2) (a7 : zt0) (a8 : zt6) (a9 : zt5) (k0 : Bool → Option R) : Option R := (ratchetbase_IsDesign N a3 a4 a5 a6 a7 a8 a9 (fun y1 => (bif (!y1) then (k0 false) else (bif decide (a3 ≠ (ByteArray.mk #[102, 105, 108, 116, 101, 114])) then (k0 false) else (ratchetbase_SamePorts N a4 [((ByteArray.mk #[120]), a1)] (fun y2 => (bif (!y2) then (k0 false) else (bif decide (((a5.length : Nat) : Int) ≠ (w64 (((a0.length : Nat) : Int) - 1))) then (k0 false) else (bif decide (((a7.length : Nat) : Int) ≠ 1) then (k0 false) else ((at? a7 0).bind fun x3 => (bif decide (x3.1 ≠ (ByteArray.mk #[115, 104, 105, 102, 116])) then (k0 false) else (bif decide (((a8.length : Nat) : Int) ≠ 1) then (k0 false) else ((at? a8 0).bind fun x4 => (bif decide (x4.1 ≠ (ByteArray.mk #[121])) then (k0 false) else ((at? a8 0).bind fun x5 => ((at? a6 x5.2).bind fun x6 => (bif decide (x6.2.1 ≠ a2) then (k0 false) else (bif decide (((a9.length : Nat) : Int) ≠ 0) then (k0 false) else (ratchetlaw30_isFilter_l0 N k0 (k0 true) N 0 a0 a1 a2 a3 a4 a5 a6 a7 a8 a9)))))))))))))))))))
def P230 : AP := ⟨[.agg zb5, .agg zb2], []⟩
def E230 (x : P230.den) (k : KK R) : Option R := ratchetlaw30_isFilter N x.1.1.1 x.1.1.2.1 x.1.1.2.2.1 x.1.2.1.1 x.1.2.1.2.1 x.1.2.1.2.2.1 x.1.2.1.2.2.2.1 x.1.2.1.2.2.2.2.1 x.1.2.1.2.2.2.2.2.1 x.1.2.1.2.2.2.2.2.2.1 (fun r0 => k [] [dB r0] [])
def F230 : CfS R := uC (F229 N) 24 P230 (E230 N)
theorem F230_ok : FOK (F230 N : CfS R) (runF T) := uCk (F229_ok N) c24 (H := H230) (Lp := (L230_1 N)) (hl := (LOK_of (l := [(58, [2, 3, 5], c24_l0)]) (by kernel_rfl) ⟨(updL_ok (O230_l0 N N)), trivial⟩))
def ratchetref30_FilteredErr_l0 (N : Nat) {R : Type} (k0 : Int → Option R) (k1 : Option R) : Nat → List Int → Int → List Int → Int → Int → Option R
  | 0, _, _, _, _, _ => none
  | n + 1, b0, b1, b2, b3, b4 => (bif decide (b1 < ((b0.length : Nat) : Int)) then ((at? b0 b1).bind fun x1 => (ratchetbase_Fits N x1 b3 (fun y2 => (bif (!y2) then (k0 2) else (ratchetref30_FilteredErr_l0 N k0 k1 n b0 (w64 (b1 + 1)) b2 b3 b4))))) else k1)
def P231_l0 : SP := ⟨[(1, pL [hI]), (2, .ptr 0 0), (6, pI)], [(0, .box zb5)]⟩
def E231_l0 (n : Nat) (x : P231_l0.den) (k : KS R) : Option R := ratchetref30_FilteredErr_l0 N (fun r0 => k .ret ⟨[(4, dI r0)], []⟩) (k (.ex 0) ⟨[], []⟩) n x.1.1 x.1.2.2.1 x.2.1.1 x.2.1.2.1 x.2.1.2.2.1
theorem O231_l0 : LpG T P231_l0 (E231_l0 N (R := R)) [1, 2, 6] c7_l0 := lpk (F230_ok N) 122
def L231_1 : LpS R := updL noL 122 (lent' P231_l0 (E231_l0 N N))
def ratchetref30_FilteredErr (N : Nat) {R : Type} (a0 : List Int) (a1 a2 : Int) (a3 : List Int) (k0 : Int → Option R) : Option R := (ratchetref30_FilterErr N a0 a1 a2 (fun y1 => (bif decide (y1 ≠ 0) then (k0 y1) else (bif decide (30 < ((a3.length : Nat) : Int)) then (k0 8) else (ratchetref30_FilteredErr_l0 N k0 (k0 0) N a3 0 a0 a1 a2)))))
def P231 : AP := ⟨[.agg zb5, pL [hI]], []⟩
def E231 (x : P231.den) (k : KK R) : Option R := ratchetref30_FilteredErr N x.1.1.1 x.1.1.2.1 x.1.1.2.2.1 x.1.2.1 (fun r0 => k [] [dI r0] [])
def F231 : CfS R := uC (F230 N) 7 P231 (E231 N)
theorem F231_ok : FOK (F231 N : CfS R) (runF T) := uCk (F230_ok N) c7 (Lp := (L231_1 N)) (hl := (LOK_of (l := [(122, [1, 2, 6], c7_l0)]) (by kernel_rfl) ⟨(updL_ok (O231_l0 N N)), trivial⟩))
def ratchetbase_Signed (N : Nat) {R : Type} (a0 a1 : Int) (k0 : Int → Option R) : Option R := (ratchetbase_Power N (w64 (a1 - 1)) (fun y1 => (bif decide (y1 ≤ a0) then (ratchetbase_Power N a1 (fun y2 => (k0 (w64 (a0 - y2))))) else (k0 a0))))
def P232 : AP := ⟨[pI, pI], []⟩
def E232 (x : P232.den) (k : KK R) : Option R := ratchetbase_Signed N x.1.1 x.1.2.1 (fun r0 => k [] [dI r0] [])
def F232 : CfS R := uC (F231 N) 11 P232 (E232 N)
theorem F232_ok : FOK (F232 N : CfS R) (runF T) := uCk (F231_ok N) c11
def ratchetbase_Mod (N : Nat) {R : Type} (a0 a1 : Int) (k0 : Int → Option R) : Option R := (bif decide (a1 = 0) then none else (bif decide ((Int.tmod a0 a1) < 0) then (k0 (w64 ((Int.tmod a0 a1) + a1))) else (k0 (Int.tmod a0 a1))))
def P233 : AP := ⟨[pI, pI], []⟩
def E233 (x : P233.den) (k : KK R) : Option R := ratchetbase_Mod N x.1.1 x.1.2.1 (fun r0 => k [] [dI r0] [])
def F233 : CfS R := uC (F232 N) 16 P233 (E233 N)
theorem F233_ok : FOK (F233 N : CfS R) (runF T) := uCk (F232_ok N) c16
def H234 : Nat → Option (List Sh) := fun n => if n = 48000 then some [hI] else none
def ratchetref30_Filter_l1 (N : Nat) {R : Type} (k0 : List Int → Int → Int → List Int → Int → Int → List Int → Option R) : Nat → List Int → Int → Int → Int → List Int → Int → Int → List Int → Option R
  | 0, _, _, _, _, _, _, _, _ => none
  | n + 1, b0, b1, b2, b3, b4, b5, b6, b7 => (bif decide (b3 < ((b4.length : Nat) : Int)) then (bif decide (b3 ≤ b1) then ((at? b4 b3).bind fun x1 => ((at? b0 (w64 (b1 - b3))).bind fun x2 => (ratchetbase_Signed N x2 b5 (fun y3 => (ratchetref30_Filter_l1 N k0 n b0 b1 (w64 (b2 + (w64 (x1 * y3)))) (w64 (b3 + 1)) b4 b5 b6 b7))))) else (k0 b0 b1 b2 b4 b5 b6 b7)) else (k0 b0 b1 b2 b4 b5 b6 b7))
def P234_l1 : SP := ⟨[(1, pL [hI]), (2, .ptr 0 0), (5, .own 1), (6, pI), (7, pI), (8, pI)], [(0, .box zb5), (1, .arr [hI])]⟩
def E234_l1 (n : Nat) (x : P234_l1.den) (k : KS R) : Option R := ratchetref30_Filter_l1 N (fun r0 r1 r2 r3 r4 r5 r6 => k (.ex 2) ⟨[(1, dL [hI] r0), (2, .ptr 0 0), (5, .own 1), (6, dI r1), (7, dI r2)], [(0, .box (zd9 r3 r4 r5)), (1, .arr (.t [hI] r6))]⟩) n x.1.1 x.1.2.2.2.1 x.1.2.2.2.2.1 x.1.2.2.2.2.2.1 x.2.1.1 x.2.1.2.1 x.2.1.2.2.1 x.2.2.1
theorem O234_l1 : LpG T P234_l1 (E234_l1 N (R := R)) [1, 2, 5, 6, 7, 8] c25_l1 := lpk (F233_ok N) 14922 (H := H234)
def L234_1 : LpS R := updL noL 14922 (lent' P234_l1 (E234_l1 N N))
def ratchetref30_Filter_l0 (N : Nat) {R : Type} (k0 : List Int → Option R) : Nat → List Int → Int → List Int → Int → Int → List Int → Option R
  | 0, _, _, _, _, _, _ => none
  | n + 1, b0, b1, b2, b3, b4, b5 => (bif decide (b1 < ((b0.length : Nat) : Int)) then (ratchetref30_Filter_l1 N (fun z4 z5 z6 z7 z8 z9 z10 => (ratchetbase_Power N z9 (fun y11 => (ratchetbase_Mod N z6 y11 (fun y12 => (bif roomB (z10.length + 1) 8 then (ratchetref30_Filter_l0 N k0 n z4 (w64 (z5 + 1)) z7 z8 z9 (z10 ++ [y12])) else none)))))) N b0 b1 0 0 b2 b3 b4 b5) else (k0 b5))
def P234_l0 : SP := ⟨[(1, pL [hI]), (2, .ptr 0 0), (5, .own 1), (6, pI)], [(0, .box zb5), (1, .arr [hI])]⟩
def E234_l0 (n : Nat) (x : P234_l0.den) (k : KS R) : Option R := ratchetref30_Filter_l0 N (fun r0 => k (.ex 0) ⟨[(5, .own 0)], [(0, .arr (.t [hI] r0))]⟩) n x.1.1 x.1.2.2.2.1 x.2.1.1 x.2.1.2.1 x.2.1.2.2.1 x.2.2.1
theorem O234_l0 : LpG T P234_l0 (E234_l0 N (R := R)) [1, 2, 5, 6] c25_l0 := lpk (F233_ok N) 58 (H := H234) (Lp := (L234_1 N)) (hl := (LOK_of (l := [(14922, [1, 2, 5, 6, 7, 8], c25_l1)]) (by kernel_rfl) ⟨(updL_ok (O234_l1 N N)), trivial⟩))
def L234_2 : LpS R := updL (L234_1 N) 58 (lent' P234_l0 (E234_l0 N N))
def ratchetref30_Filter (N : Nat) {R : Type} (a0 : List Int) (a1 a2 : Int) (a3 : List Int) (k0 : List Int → Option R) : Option R := (ratchetref30_Filter_l0 N k0 N a3 0 a0 a1 a2 [])
def P234 : AP := ⟨[.agg zb5, pL [hI]], []⟩
def E234 (x : P234.den) (k : KK R) : Option R := ratchetref30_Filter N x.1.1.1 x.1.1.2.1 x.1.1.2.2.1 x.1.2.1 (fun r0 => k [] [dL [hI] r0] [])
def F234 : CfS R := uC (F233 N) 25 P234 (E234 N)
theorem F234_ok : FOK (F234 N : CfS R) (runF T) := uCk (F233_ok N) c25 (H := H234) (Lp := (L234_2 N)) (hl := (LOK_of (l := [(58, [1, 2, 5, 6], c25_l0)]) (by kernel_rfl) ⟨(updL_ok (O234_l0 N N)), trivial⟩))
def H235 : Nat → Option (List Sh) := fun n => if n = 6000 then some [hI] else none
def ratchetbase_Resets_l0 (N : Nat) {R : Type} (k0 : List Int → Option R) : Nat → Int → ByteArray → zt6 → zt1 → zt2 → zt0 → zt6 → zt5 → List Int → Option R
  | 0, _, _, _, _, _, _, _, _, _ => none
  | n + 1, b0, b1, b2, b3, b4, b5, b6, b7, b8 => (bif decide (b0 < ((b3.length : Nat) : Int)) then ((at? b3 b0).bind fun x1 => (bif inR b0 b8.length then ((b8[b0.toNat]?).bind fun x2 => (ratchetbase_Resets_l0 N k0 n (w64 (b0 + 1)) b1 b2 b3 b4 b5 b6 b7 (List.set b8 b0.toNat x1.2.2.2.1))) else none)) else (k0 b8))
def P235_l0 : SP := ⟨[(1, .ptr 0 0), (3, .own 1), (4, pI)], [(0, .box zb2), (1, .arr [hI])]⟩
def E235_l0 (n : Nat) (x : P235_l0.den) (k : KS R) : Option R := ratchetbase_Resets_l0 N (fun r0 => k (.ex 0) ⟨[(3, .own 0)], [(0, .arr (.t [hI] r0))]⟩) n x.1.2.2.1 x.2.1.1 x.2.1.2.1 x.2.1.2.2.1 x.2.1.2.2.2.1 x.2.1.2.2.2.2.1 x.2.1.2.2.2.2.2.1 x.2.1.2.2.2.2.2.2.1 x.2.2.1
theorem O235_l0 : LpG T P235_l0 (E235_l0 N (R := R)) [1, 3, 4] c26_l0 := lpk (F234_ok N) 58 (H := H235)
def L235_1 : LpS R := updL noL 58 (lent' P235_l0 (E235_l0 N N))
def ratchetbase_Resets (N : Nat) {R : Type} (a0 : ByteArray) (a1 : zt6) (a2 : zt1) (a3 : zt2) (a4 : zt0) (a5 : zt6) (a6 : zt5) (k0 : List Int → Option R) : Option R := (bif decide (0 ≤ ((a2.length : Nat) : Int) ∧ ((a2.length : Nat) : Int) ≤ ((a2.length : Nat) : Int)) then (bif roomB a2.length 8 then (ratchetbase_Resets_l0 N k0 N 0 a0 a1 a2 a3 a4 a5 a6 (List.replicate a2.length 0)) else none) else none)
def P235 : AP := ⟨[.agg zb2], []⟩
def E235 (x : P235.den) (k : KK R) : Option R := ratchetbase_Resets N x.1.1.1 x.1.1.2.1 x.1.1.2.2.1 x.1.1.2.2.2.1 x.1.1.2.2.2.2.1 x.1.1.2.2.2.2.2.1 x.1.1.2.2.2.2.2.2.1 (fun r0 => k [] [dL [hI] r0] [])
def F235 : CfS R := uC (F234 N) 26 P235 (E235 N)
theorem F235_ok : FOK (F235 N : CfS R) (runF T) := uCk (F234_ok N) c26 (H := H235) (Lp := (L235_1 N)) (hl := (LOK_of (l := [(58, [1, 3, 4], c26_l0)]) (by kernel_rfl) ⟨(updL_ok (O235_l0 N N)), trivial⟩))
def ratchetbase_LeafValues (N : Nat) {R : Type} (a0 a1 : List Int) (k0 : List Int → Option R) : Option R := (ratchetbase_CopyInts N a0 (fun y1 => (bif roomB (y1.length + a1.length) 8 then (k0 (y1 ++ a1)) else none)))
def P236 : AP := ⟨[pL [hI], pL [hI]], []⟩
def E236 (x : P236.den) (k : KK R) : Option R := ratchetbase_LeafValues N x.1.1 x.1.2.1 (fun r0 => k [] [dL [hI] r0] [])
def F236 : CfS R := uC (F235 N) 28 P236 (E236 N)
theorem F236_ok : FOK (F236 N : CfS R) (runF T) := uCk (F235_ok N) c28
def ratchetbase_Bit (N : Nat) {R : Type} (a0 : Bool) (k0 : Int → Option R) : Option R := (bif a0 then (k0 1) else (k0 0))
def P237 : AP := ⟨[pB], []⟩
def E237 (x : P237.den) (k : KK R) : Option R := ratchetbase_Bit N x.1.1 (fun r0 => k [] [dI r0] [])
def F237 : CfS R := uC (F236 N) 109 P237 (E237 N)
theorem F237_ok : FOK (F237 N : CfS R) (runF T) := uCk (F236_ok N) c109
def ratchetbase_Apply (N : Nat) {R : Type} (a0 a1 : Int) (a2 : List Int) (a3 : Int) (a4 a5 a6 : List Int) (k0 : Int → Option R) : Option R := (ratchetbase_Power N a1 (fun y1 => (bif decide (a0 = 0) then (k0 a3) else (bif decide (a0 = 1) then ((at? a6 a3).bind fun x2 => (k0 x2)) else (bif decide (a0 = 2) then ((at? a4 0).bind fun x3 => (k0 (w64 ((w64 (y1 - 1)) - x3)))) else (bif decide (a0 = 3) then ((at? a4 0).bind fun x4 => ((at? a4 1).bind fun x5 => (k0 (andI .i64 x4 x5)))) else (bif decide (a0 = 4) then ((at? a4 0).bind fun x6 => ((at? a4 1).bind fun x7 => (k0 (orI .i64 x6 x7)))) else (bif decide (a0 = 5) then ((at? a4 0).bind fun x8 => ((at? a4 1).bind fun x9 => (k0 (xorI .i64 x8 x9)))) else (bif decide (a0 = 6) then ((at? a4 0).bind fun x10 => ((at? a4 1).bind fun x11 => (bif decide (y1 = 0) then none else (k0 (Int.tmod (w64 (x10 + x11)) y1))))) else (bif decide (a0 = 7) then ((at? a4 0).bind fun x12 => ((at? a4 1).bind fun x13 => (bif decide (y1 = 0) then none else (k0 (Int.tmod (w64 ((w64 (x12 - x13)) + y1)) y1))))) else (bif decide (a0 = 8) then ((at? a4 0).bind fun x14 => ((at? a4 1).bind fun x15 => (bif decide (y1 = 0) then none else (k0 (Int.tmod (w64 (x14 * x15)) y1))))) else (bif decide (a0 = 9) then ((at? a4 0).bind fun x16 => ((at? a4 1).bind fun x17 => (ratchetbase_Bit N (decide (x16 = x17)) k0))) else (bif decide (a0 = 10) then ((at? a4 0).bind fun x19 => ((at? a4 1).bind fun x20 => (ratchetbase_Bit N (decide (x19 < x20)) k0))) else (bif decide (a0 = 11) then ((at? a4 0).bind fun x22 => ((at? a5 0).bind fun x23 => (ratchetbase_Signed N x22 x23 (fun y24 => ((at? a4 1).bind fun x25 => ((at? a5 1).bind fun x26 => (ratchetbase_Signed N x25 x26 (fun y27 => (ratchetbase_Bit N (decide (y24 < y27)) k0))))))))) else (bif decide (a0 = 12) then ((at? a4 0).bind fun x29 => (bif decide (x29 = 1) then ((at? a4 1).bind fun x30 => (k0 x30)) else ((at? a4 2).bind fun x31 => (k0 x31)))) else (bif decide (a0 = 13) then ((at? a4 0).bind fun x32 => ((at? a5 1).bind fun x33 => (ratchetbase_Power N x33 (fun y34 => ((at? a4 1).bind fun x35 => (k0 (w64 ((w64 (x32 * y34)) + x35)))))))) else (bif decide (a0 = 14) then ((at? a4 0).bind fun x36 => (ratchetbase_Power N a3 (fun y37 => (bif decide (y37 = 0) then none else (bif decide (y1 = 0) then none else (k0 (Int.tmod (w64 (Int.tdiv x36 y37)) y1))))))) else (bif decide (a0 = 15) then ((at? a4 0).bind fun x38 => (k0 x38)) else (bif decide (a0 = 16) then ((at? a4 0).bind fun x39 => ((at? a5 0).bind fun x40 => (ratchetbase_Signed N x39 x40 (fun y41 => (bif decide (y1 = 0) then none else (k0 (Int.tmod (w64 (y41 + y1)) y1))))))) else (bif decide (a0 = 17) then ((at? a4 1).bind fun x42 => (bif decide (a1 ≤ x42) then (k0 0) else ((at? a4 0).bind fun x43 => ((at? a4 1).bind fun x44 => (ratchetbase_Power N x44 (fun y45 => (bif decide (y1 = 0) then none else (k0 (Int.tmod (w64 (x43 * y45)) y1))))))))) else ((at? a4 1).bind fun x46 => (bif decide (a1 ≤ x46) then (k0 0) else ((at? a4 0).bind fun x47 => ((at? a4 1).bind fun x48 => (ratchetbase_Power N x48 (fun y49 => (bif decide (y49 = 0) then none else (k0 (w64 (Int.tdiv x47 y49))))))))))))))))))))))))))))))
def P238 : AP := ⟨[.agg zb4, pL [hI], pL [hI], pL [hI]], []⟩
def E238 (x : P238.den) (k : KK R) : Option R := ratchetbase_Apply N x.1.1.1 x.1.1.2.1 x.1.1.2.2.1 x.1.1.2.2.2.1 x.1.2.1 x.1.2.2.1 x.1.2.2.2.1 (fun r0 => k [] [dI r0] [])
def F238 : CfS R := uC (F237 N) 68 P238 (E238 N)
theorem F238_ok : FOK (F238 N : CfS R) (runF T) := uCk (F237_ok N) c68
def H239 : Nat → Option (List Sh) := fun n => if n = 4000 then some [hI] else if n = 34000 then some [hI] else if n = 49000 then some [hI] else none
def ratchetbase_NodeValues_l1 (N : Nat) {R : Type} (k0 : zt2 → List Int → Int → List Int → List Int → List Int → Option R) : Nat → zt2 → List Int → Int → Int → List Int → List Int → List Int → Option R
  | 0, _, _, _, _, _, _, _ => none
  | n + 1, b0, b1, b2, b3, b4, b5, b6 => ((at? b0 b2).bind fun x1 => (bif decide (b3 < ((x1.2.2.1.length : Nat) : Int)) then ((at? b0 b2).bind fun x2 => ((at? x2.2.2.1 b3).bind fun x3 => (bif inR x3 b4.length then ((b4[x3.toNat]?).bind fun x4 => (bif roomB (b5.length + 1) 8 then ((at? b0 b2).bind fun x5 => ((at? x5.2.2.1 b3).bind fun x6 => ((at? b0 x6).bind fun x7 => (bif roomB (b6.length + 1) 8 then (ratchetbase_NodeValues_l1 N k0 n b0 b1 b2 (w64 (b3 + 1)) b4 (b5 ++ [x4]) (b6 ++ [x7.2.1])) else none)))) else none)) else none))) else (k0 b0 b1 b2 b4 b5 b6)))
def P239_l1 : SP := ⟨[(0, pL zs1), (1, pL [hI]), (5, .own 0), (6, pI), (7, .own 1), (8, .own 2), (9, pI)], [(0, .arr [hI]), (1, .arr [hI]), (2, .arr [hI])]⟩
def E239_l1 (n : Nat) (x : P239_l1.den) (k : KS R) : Option R := ratchetbase_NodeValues_l1 N (fun r0 r1 r2 r3 r4 r5 => k (.ex 2) ⟨[(0, dL zs1 r0), (1, dL [hI] r1), (5, .own 0), (6, dI r2), (7, .own 1), (8, .own 2)], [(0, .arr (.t [hI] r3)), (1, .arr (.t [hI] r4)), (2, .arr (.t [hI] r5))]⟩) n x.1.1 x.1.2.1 x.1.2.2.2.1 x.1.2.2.2.2.2.2.1 x.2.1 x.2.2.1 x.2.2.2.1
theorem O239_l1 : LpG T P239_l1 (E239_l1 N (R := R)) [0, 1, 5, 6, 7, 8, 9] c27_l1 := lpk (F238_ok N) 14922 (H := H239)
def L239_1 : LpS R := updL noL 14922 (lent' P239_l1 (E239_l1 N N))
def ratchetbase_NodeValues_l0 (N : Nat) {R : Type} (k0 : List Int → Option R) : Nat → zt2 → List Int → Int → List Int → Option R
  | 0, _, _, _, _ => none
  | n + 1, b0, b1, b2, b3 => (bif decide (b2 < ((b0.length : Nat) : Int)) then (ratchetbase_NodeValues_l1 N (fun z8 z9 z10 z11 z12 z13 => ((at? z8 z10).bind fun x14 => (ratchetbase_Apply N x14.1 x14.2.1 x14.2.2.1 x14.2.2.2 z12 z13 z9 (fun y15 => (bif inR z10 z11.length then ((z11[z10.toNat]?).bind fun x16 => (ratchetbase_NodeValues_l0 N k0 n z8 z9 (w64 (z10 + 1)) (List.set z11 z10.toNat y15))) else none))))) N b0 b1 b2 0 b3 [] []) else (k0 b3))
def P239_l0 : SP := ⟨[(0, pL zs1), (1, pL [hI]), (5, .own 0), (6, pI)], [(0, .arr [hI])]⟩
def E239_l0 (n : Nat) (x : P239_l0.den) (k : KS R) : Option R := ratchetbase_NodeValues_l0 N (fun r0 => k (.ex 0) ⟨[(5, .own 0)], [(0, .arr (.t [hI] r0))]⟩) n x.1.1 x.1.2.1 x.1.2.2.2.1 x.2.1
theorem O239_l0 : LpG T P239_l0 (E239_l0 N (R := R)) [0, 1, 5, 6] c27_l0 := lpk (F238_ok N) 58 (H := H239) (Lp := (L239_1 N)) (hl := (LOK_of (l := [(14922, [0, 1, 5, 6, 7, 8, 9], c27_l1)]) (by kernel_rfl) ⟨(updL_ok (O239_l1 N N)), trivial⟩))
def L239_2 : LpS R := updL (L239_1 N) 58 (lent' P239_l0 (E239_l0 N N))
def ratchetbase_NodeValues (N : Nat) {R : Type} (a0 : zt2) (a1 : List Int) (k0 : List Int → Option R) : Option R := (bif decide (0 ≤ ((a0.length : Nat) : Int) ∧ ((a0.length : Nat) : Int) ≤ ((a0.length : Nat) : Int)) then (bif roomB a0.length 8 then (ratchetbase_NodeValues_l0 N k0 N a0 a1 0 (List.replicate a0.length 0)) else none) else none)
def P239 : AP := ⟨[pL zs1, pL [hI]], []⟩
def E239 (x : P239.den) (k : KK R) : Option R := ratchetbase_NodeValues N x.1.1 x.1.2.1 (fun r0 => k [] [dL [hI] r0] [])
def F239 : CfS R := uC (F238 N) 27 P239 (E239 N)
theorem F239_ok : FOK (F239 N : CfS R) (runF T) := uCk (F238_ok N) c27 (H := H239) (Lp := (L239_2 N)) (hl := (LOK_of (l := [(58, [0, 1, 5, 6], c27_l0)]) (by kernel_rfl) ⟨(updL_ok (O239_l0 N N)), trivial⟩))
def ratchetbase_Enabled (N : Nat) {R : Type} (a0 : ByteArray) (a1 : zt6) (a2 : zt1) (a3 : zt2) (a4 : zt0) (a5 : zt6) (a6 : zt5) (a7 : Int) (a8 a9 : List Int) (k0 : Bool → Option R) : Option R := (ratchetbase_LeafValues N a8 a9 (fun y1 => (ratchetbase_NodeValues N a3 y1 (fun y2 => ((at? a4 a7).bind fun x3 => ((at? y2 x3.2.1).bind fun x4 => (k0 (decide (x4 = 1)))))))))
def P240 : AP := ⟨[.agg zb2, pI, pL [hI], pL [hI]], []⟩
def E240 (x : P240.den) (k : KK R) : Option R := ratchetbase_Enabled N x.1.1.1 x.1.1.2.1 x.1.1.2.2.1 x.1.1.2.2.2.1 x.1.1.2.2.2.2.1 x.1.1.2.2.2.2.2.1 x.1.1.2.2.2.2.2.2.1 x.1.2.1 x.1.2.2.1 x.1.2.2.2.1 (fun r0 => k [] [dB r0] [])
def F240 : CfS R := uC (F239 N) 29 P240 (E240 N)
theorem F240_ok : FOK (F240 N : CfS R) (runF T) := uCk (F239_ok N) c29
def ratchetbase_Happened_l0 (N : Nat) {R : Type} (k0 : List Int → Option R) : Nat → List Int → zt7 → Int → List Int → Option R
  | 0, _, _, _, _ => none
  | n + 1, b0, b1, b2, b3 => (bif decide (b2 < ((b1.length : Nat) : Int)) then ((at? b1 b2).bind fun x1 => ((at? b0 x1.2.1).bind fun x2 => (bif decide (x2 = 1) then ((at? b1 b2).bind fun x3 => ((at? b1 b2).bind fun x4 => ((at? b0 x4.2.2).bind fun x5 => (bif inR x3.1 b3.length then ((b3[x3.1.toNat]?).bind fun x6 => (ratchetbase_Happened_l0 N k0 n b0 b1 (w64 (b2 + 1)) (List.set b3 x3.1.toNat x5))) else none)))) else (ratchetbase_Happened_l0 N k0 n b0 b1 (w64 (b2 + 1)) b3)))) else (k0 b3))
def P241_l0 : SP := ⟨[(9, pL [hI]), (10, .own 0), (11, pL zs5), (12, pI)], [(0, .arr [hI])]⟩
def E241_l0 (n : Nat) (x : P241_l0.den) (k : KS R) : Option R := ratchetbase_Happened_l0 N (fun r0 => k (.ex 0) ⟨[(10, .own 0)], [(0, .arr (.t [hI] r0))]⟩) n x.1.1 x.1.2.2.1 x.1.2.2.2.1 x.2.1
theorem O241_l0 : LpG T P241_l0 (E241_l0 N (R := R)) [9, 10, 11, 12] c30_l0 := lpk (F240_ok N) 250
def L241_1 : LpS R := updL noL 250 (lent' P241_l0 (E241_l0 N N))
def ratchetbase_Happened (N : Nat) {R : Type} (a0 : ByteArray) (a1 : zt6) (a2 : zt1) (a3 : zt2) (a4 : zt0) (a5 : zt6) (a6 : zt5) (a7 : Int) (a8 a9 : List Int) (k0 : List Int → Option R) : Option R := (ratchetbase_LeafValues N a8 a9 (fun y1 => (ratchetbase_NodeValues N a3 y1 (fun y2 => (ratchetbase_CopyInts N a9 (fun y3 => ((at? a4 a7).bind fun x4 => (ratchetbase_Happened_l0 N k0 N y2 x4.2.2 0 y3))))))))
def P241 : AP := ⟨[.agg zb2, pI, pL [hI], pL [hI]], []⟩
def E241 (x : P241.den) (k : KK R) : Option R := ratchetbase_Happened N x.1.1.1 x.1.1.2.1 x.1.1.2.2.1 x.1.1.2.2.2.1 x.1.1.2.2.2.2.1 x.1.1.2.2.2.2.2.1 x.1.1.2.2.2.2.2.2.1 x.1.2.1 x.1.2.2.1 x.1.2.2.2.1 (fun r0 => k [] [dL [hI] r0] [])
def F241 : CfS R := uC (F240 N) 30 P241 (E241 N)
theorem F241_ok : FOK (F241 N : CfS R) (runF T) := uCk (F240_ok N) c30 (Lp := (L241_1 N)) (hl := (LOK_of (l := [(250, [9, 10, 11, 12], c30_l0)]) (by kernel_rfl) ⟨(updL_ok (O241_l0 N N)), trivial⟩))
def ratchetlaw30_ArithFilters_l0 (N : Nat) {R : Type} (k0 : Bool → Option R) (k1 : Option R) : Nat → List Int → List Int → List Int → Int → ByteArray → zt6 → zt1 → zt2 → zt0 → zt6 → Option R
  | 0, _, _, _, _, _, _, _, _, _, _ => none
  | n + 1, b0, b1, b2, b3, b4, b5, b6, b7, b8, b9 => (bif decide (b3 < ((b0.length : Nat) : Int)) then (bif slP b3 (w64 (b3 + 1)) b0.length then (ratchetbase_LeafValues N (List.take ((w64 (b3 + 1)).toNat - b3.toNat) (List.drop b3.toNat b0)) b2 (fun y1 => (ratchetbase_NodeValues N b7 y1 (fun y2 => ((at? b9 0).bind fun x3 => ((at? y2 x3.2).bind fun x4 => ((at? b1 b3).bind fun x5 => (bif decide (x4 ≠ x5) then (k0 false) else (bif slP b3 (w64 (b3 + 1)) b0.length then (ratchetbase_Enabled N b4 b5 b6 b7 b8 b9 [] 0 (List.take ((w64 (b3 + 1)).toNat - b3.toNat) (List.drop b3.toNat b0)) b2 (fun y6 => (bif (!y6) then (k0 false) else (bif slP b3 (w64 (b3 + 1)) b0.length then (ratchetbase_Happened N b4 b5 b6 b7 b8 b9 [] 0 (List.take ((w64 (b3 + 1)).toNat - b3.toNat) (List.drop b3.toNat b0)) b2 (fun y7 => (ratchetlaw30_ArithFilters_l0 N k0 k1 n b0 b1 y7 (w64 (b3 + 1)) b4 b5 b6 b7 b8 b9))) else none)))) else none))))))))) else none) else k1)
def P242_l0 : SP := ⟨[(1, pL [hI]), (12, .ptr 0 0), (15, pL [hI]), (16, pL [hI]), (17, pI)], [(0, .box zb7)]⟩
def E242_l0 (n : Nat) (x : P242_l0.den) (k : KS R) : Option R := ratchetlaw30_ArithFilters_l0 N (fun r0 => k .ret ⟨[(6, dB r0)], []⟩) (k (.ex 0) ⟨[], []⟩) n x.1.1 x.1.2.2.1 x.1.2.2.2.1 x.1.2.2.2.2.1 x.2.1.1 x.2.1.2.1 x.2.1.2.2.1 x.2.1.2.2.2.1 x.2.1.2.2.2.2.1 x.2.1.2.2.2.2.2.1
theorem O242_l0 : LpG T P242_l0 (E242_l0 N (R := R)) [1, 12, 15, 16, 17] c4_l0 := lpk (F241_ok N) 67047930
def L242_1 : LpS R := updL noL 67047930 (lent' P242_l0 (E242_l0 N N))
def ratchetlaw30_ArithFilters_j1 (N : Nat) {R : Type} (k0 : Bool → Option R) (b0 b1 : List Int) (b2 b3 : Int) (b4 : List Int) (b5 b6 : Int) (b7 : ByteArray) (b8 : zt6) (b9 : zt1) (b10 : zt2) (b11 : zt0) (b12 : zt6) : Option R := (ratchetref30_FilterErr N b4 b5 b6 (fun y1 => (bif decide (y1 ≠ 0) then (bif decide (b2 = y1) then (bif decide (b3 = y1) then (bif decide (((b1.length : Nat) : Int) = 0) then (ratchetbase_SameDesign N b7 b8 b9 b10 b11 b12 [] (ByteArray.mk #[]) [] [] [] [] [] [] k0) else (k0 false)) else (k0 false)) else (k0 false)) else (ratchetlaw30_isFilter N b4 b5 b6 b7 b8 b9 b10 b11 b12 [] (fun y3 => (bif (!y3) then (k0 false) else (bif decide (b3 ≠ 0) then (k0 false) else (ratchetref30_FilteredErr N b4 b5 b6 b0 (fun y4 => (bif decide (y4 ≠ 0) then (bif decide (b2 = y4) then (k0 (decide (((b1.length : Nat) : Int) = 0))) else (k0 false)) else (ratchetref30_Filter N b4 b5 b6 b0 (fun y5 => (bif decide (b2 ≠ 0) then (k0 false) else (ratchetbase_Ints N b1 y5 (fun y6 => (bif (!y6) then (k0 false) else (ratchetbase_Resets N b7 b8 b9 b10 b11 b12 [] (fun y7 => (ratchetlaw30_ArithFilters_l0 N k0 (k0 true) N b0 y5 y7 0 b7 b8 b9 b10 b11 b12)))))))))))))))))))
def P242_j1 : SP := ⟨[(1, pL [hI]), (3, .ptr 0 0), (10, pL [hI]), (11, pI), (12, .ptr 1 0), (13, pI)], [(0, .box zb5), (1, .box zb7)]⟩
def E242_j1 (n : Nat) (x : P242_j1.den) (k : KS R) : Option R := match n with
  | 0 => none
  | _ + 1 => ratchetlaw30_ArithFilters_j1 N (fun r0 => k .ret ⟨[(6, dB r0)], []⟩) x.1.1 x.1.2.2.1 x.1.2.2.2.1 x.1.2.2.2.2.2.1 x.2.1.1 x.2.1.2.1 x.2.1.2.2.1 x.2.2.1.1 x.2.2.1.2.1 x.2.2.1.2.2.1 x.2.2.1.2.2.2.1 x.2.2.1.2.2.2.2.1 x.2.2.1.2.2.2.2.2.1
theorem O242_j1 : LpG T P242_j1 (E242_j1 N (R := R)) [1, 3, 10, 11, 12, 13] c4_j1 := lpk (F241_ok N) 32738 (Lp := (L242_1 N)) (hl := (LOK_of (l := [(67047930, [1, 12, 15, 16, 17], c4_l0)]) (by kernel_rfl) ⟨(updL_ok (O242_l0 N N)), trivial⟩))
def L242_2 : LpS R := updL (L242_1 N) 32738 (lent' P242_j1 (E242_j1 N 1))
def ratchetlaw30_ArithFilters_j0 (N : Nat) {R : Type} (k0 : Bool → Option R) (b0 b1 b2 : List Int) (b3 : Int) (b4 : List Int) (b5 b6 b7 : Int) (b8 : List Int) (b9 b10 : Int) (b11 : ByteArray) (b12 : zt6) (b13 : zt1) (b14 : zt2) (b15 : zt0) (b16 : zt6) : Option R := (bif decide (b7 ≠ 0) then (bif decide (b3 ≠ b7) then (k0 false) else (bif decide (((b2.length : Nat) : Int) ≠ 0) then (k0 false) else (bif decide (b7 = 0) then (bif decide (b3 ≠ 0) then (k0 false) else (ratchetref30_Convolve N b8 b1 (fun y1 => (ratchetbase_Ints N b2 y1 (fun y2 => (bif (!y2) then (k0 false) else (ratchetlaw30_ArithFilters_j1 N k0 b0 b4 b5 b6 b8 b9 b10 b11 b12 b13 b14 b15 b16))))))) else (ratchetlaw30_ArithFilters_j1 N k0 b0 b4 b5 b6 b8 b9 b10 b11 b12 b13 b14 b15 b16)))) else (bif decide (b7 = 0) then (bif decide (b3 ≠ 0) then (k0 false) else (ratchetref30_Convolve N b8 b1 (fun y11 => (ratchetbase_Ints N b2 y11 (fun y12 => (bif (!y12) then (k0 false) else (ratchetlaw30_ArithFilters_j1 N k0 b0 b4 b5 b6 b8 b9 b10 b11 b12 b13 b14 b15 b16))))))) else (ratchetlaw30_ArithFilters_j1 N k0 b0 b4 b5 b6 b8 b9 b10 b11 b12 b13 b14 b15 b16)))
def P242_j0 : SP := ⟨[(1, pL [hI]), (2, pL [hI]), (3, .ptr 0 0), (8, pL [hI]), (9, pI), (10, pL [hI]), (11, pI), (12, .ptr 1 0), (13, pI), (14, pI)], [(0, .box zb5), (1, .box zb7)]⟩
def E242_j0 (n : Nat) (x : P242_j0.den) (k : KS R) : Option R := match n with
  | 0 => none
  | _ + 1 => ratchetlaw30_ArithFilters_j0 N (fun r0 => k .ret ⟨[(6, dB r0)], []⟩) x.1.1 x.1.2.1 x.1.2.2.2.1 x.1.2.2.2.2.1 x.1.2.2.2.2.2.1 x.1.2.2.2.2.2.2.1 x.1.2.2.2.2.2.2.2.2.1 x.1.2.2.2.2.2.2.2.2.2.1 x.2.1.1 x.2.1.2.1 x.2.1.2.2.1 x.2.2.1.1 x.2.2.1.2.1 x.2.2.1.2.2.1 x.2.2.1.2.2.2.1 x.2.2.1.2.2.2.2.1 x.2.2.1.2.2.2.2.2.1
theorem O242_j0 : LpG T P242_j0 (E242_j0 N (R := R)) [1, 2, 3, 8, 9, 10, 11, 12, 13, 14] c4_j0 := lpk (F241_ok N) 2046 (Lp := (L242_2 N)) (hl := (LOK_of (l := [(32738, [1, 3, 10, 11, 12, 13], c4_j1)]) (by kernel_rfl) ⟨(updL_ok (O242_j1 N 1)), trivial⟩))
def L242_3 : LpS R := updL (L242_2 N) 2046 (lent' P242_j0 (E242_j0 N 1))
def ratchetlaw30_ArithFilters (N : Nat) {R : Type} (a0 : List Int) (a1 a2 : Int) (a3 a4 : List Int) (k0 : Bool → Option R) : Option R := (ratchetlaw30_awake N (fun y1 => (bif (!y1) then (k0 false) else (bif decide (32 < ((a0.length : Nat) : Int)) then (k0 true) else (bif decide (32 < ((a3.length : Nat) : Int)) then (k0 true) else (bif decide (32 < ((a4.length : Nat) : Int)) then (k0 true) else (ratchetbase_CopyInts N a0 (fun y2 => (ratchetbase_CopyInts N a0 (fun y3 => (ratchetbase_CopyInts N a4 (fun y4 => (arith_ConvolvedBy N y3 y4 (fun y5 y6 => (ratchetbase_CopyInts N a3 (fun y7 => (arith_Filtered N y2 a1 a2 y7 (fun y8 y9 => (arith_FilterOf N y2 a1 a2 (fun y10 y11 y12 y13 y14 y15 y16 => (ratchetref30_SamplesErr N a0 (fun y17 => (bif decide (y17 = 0) then (ratchetref30_SamplesErr N a4 (fun y18 => (ratchetlaw30_ArithFilters_j0 N k0 a3 a4 y5 y6 y8 y9 y16 y18 a0 a1 a2 y10 y11 y12 y13 y14 y15))) else (ratchetlaw30_ArithFilters_j0 N k0 a3 a4 y5 y6 y8 y9 y16 y17 a0 a1 a2 y10 y11 y12 y13 y14 y15))))))))))))))))))))))))
def P242 : AP := ⟨[.agg zb5, pL [hI], pL [hI]], []⟩
def E242 (x : P242.den) (k : KK R) : Option R := ratchetlaw30_ArithFilters N x.1.1.1 x.1.1.2.1 x.1.1.2.2.1 x.1.2.1 x.1.2.2.1 (fun r0 => k [] [dB r0] [])
def F242 : CfS R := uC (F241 N) 4 P242 (E242 N)
theorem F242_ok : FOK (F242 N : CfS R) (runF T) := uCk (F241_ok N) c4 (Lp := (L242_3 N)) (hl := (LOK_of (l := [(2046, [1, 2, 3, 8, 9, 10, 11, 12, 13, 14], c4_j0)]) (by kernel_rfl) ⟨(updL_ok (O242_j0 N 1)), trivial⟩))
end
/-- What is left to show. -/
def PureArithFilters : Prop := ∀ (x0 : (List Int) × Int × Int) (x1 : List Int) (x2 : List Int), okL [.sl [hI], hI, hI] x0 → okL [.sl [hI]] x1 → okL [.sl [hI]] x2 → ∃ N, ∀ {R : Type} (k : Bool → Option R), ratchetlaw30_ArithFilters N x0.1 x0.2.1 x0.2.2 x1 x2 k = k true
end Am
end Go.Proofs.YtfdmmnfjdifccaaGreatDoor
