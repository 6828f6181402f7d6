/- the law over plain data -/
import Derived.Test.YtfdmmnfjdifccaaGreatDoorAFF
import Derived.Test.YtfdmmnfjdifccaaGreatDoorPu
set_option linter.unusedVariables false
set_option linter.unusedSimpArgs false
set_option maxRecDepth 100000
namespace Go.Proofs.YtfdmmnfjdifccaaGreatDoor
namespace Am
section
variable {R : Type}
theorem sc {k n : Nat} (h : k < n) : ∃ m, n = m + 1 := ⟨n - 1, by omega⟩
def p2 (n : Int) : Int := 2 ^ n.toNat
theorem p2_pos (n : Int) : 0 < p2 n := by unfold p2; exact Int.pow_pos (by omega)
theorem p2_nat (n : Nat) : p2 (n : Int) = ((2 ^ n : Nat) : Int) := by unfold p2; simp
theorem p2_le {a b : Int} (h : a ≤ b) : p2 a ≤ p2 b := by
 unfold p2
 have : (2 : Nat) ^ a.toNat ≤ 2 ^ b.toNat := Nat.pow_le_pow_right (by omega) (by omega)
 exact_mod_cast this
theorem p2_16 {n : Int} (h : n ≤ 16) : p2 n ≤ 65536 := p2_le h
theorem p2_add {a b : Int} (ha : 0 ≤ a) (hb : 0 ≤ b) : p2 (a + b) = p2 a * p2 b := by
 unfold p2
 rw [show (a + b).toNat = a.toNat + b.toNat by omega, Int.pow_add]
theorem p2_half {w : Int} (h : 1 ≤ w) : p2 w = 2 * p2 (w - 1) := by
 have := p2_add (a := w - 1) (b := 1) (by omega) (by omega)
 rw [show w - 1 + 1 = w by omega] at this
 rw [this, Int.mul_comm]; rfl
theorem shl_p2 {n : Int} (h0 : 0 ≤ n) (h : n ≤ 40) : shl' .i64 1 n = p2 n := by
 have h1 : p2 n ≤ p2 40 := p2_le h
 have h2 : p2 40 = 1099511627776 := by decide
 have h3 := p2_pos n
 unfold shl'
 have e : min n.toNat (IntKind.bits .i64) = n.toNat := by
  have : IntKind.bits .i64 = 64 := rfl
  omega
 rw [e, Int.one_mul]
 exact w64_id (x := p2 n) (by omega) (by omega)
def vok (w n : Int) : Bool := decide (0 ≤ n ∧ n ≤ p2 w - 1)
theorem toNat_mod64 (n : Int) : (BitVec.ofInt 64 n).toNat = (n % 18446744073709551616).toNat := by
 rw [BitVec.toNat_ofInt]; rfl
theorem and_mask (n w : Int) (h0 : 0 ≤ w) (h : w ≤ 16) : andI .i64 n (p2 w - 1) = n % p2 w := by
 have h1 := p2_pos w
 have h2 := p2_16 h
 have hp : p2 w = ((2 ^ w.toNat : Nat) : Int) := by
  have := p2_nat w.toNat
  rwa [show ((w.toNat : Nat) : Int) = w by omega] at this
 unfold andI
 have hbits : IntKind.bits .i64 = 64 := rfl
 have e : (BitVec.ofInt 64 n &&& BitVec.ofInt 64 (p2 w - 1)).toNat = (n % p2 w).toNat := by
  rw [BitVec.toNat_and, toNat_mod64, toNat_mod64]
  have e1 : ((p2 w - 1) % 18446744073709551616).toNat = 2 ^ w.toNat - 1 := by
   rw [Int.emod_eq_of_lt (by omega) (by omega)]; omega
  rw [e1, Nat.and_two_pow_sub_one_eq_mod]
  have hq : (n % 18446744073709551616) % p2 w = n % p2 w := by
   refine Int.emod_emod_of_dvd n ?_
   rw [hp]
   have : (2 : Nat) ^ w.toNat ∣ 2 ^ 64 := Nat.pow_dvd_pow 2 (by omega)
   have e64 : (18446744073709551616 : Int) = ((2 ^ 64 : Nat) : Int) := by decide +kernel
   rw [e64]
   exact Int.natCast_dvd_natCast.2 this
  rw [← hq]
  have h5 : 0 ≤ n % 18446744073709551616 := Int.emod_nonneg n (by omega)
  rw [hp]
  generalize n % 18446744073709551616 = x at h5
  obtain ⟨y, rfl⟩ : ∃ y : Nat, x = y := ⟨x.toNat, by omega⟩
  rfl
 show IntKind.wrap .i64 (((BitVec.ofInt (IntKind.bits .i64) n &&& BitVec.ofInt (IntKind.bits .i64) (p2 w - 1)).toNat : Nat) : Int) = _
 rw [show (BitVec.ofInt (IntKind.bits .i64) n &&& BitVec.ofInt (IntKind.bits .i64) (p2 w - 1)).toNat = _ from e]
 have h6 := Int.emod_nonneg n (show p2 w ≠ 0 by omega)
 have h7 := Int.emod_lt_of_pos n h1
 rw [Int.toNat_of_nonneg h6]
 exact w64_id (x := n % p2 w) (by omega) (by omega)
theorem shr_p2 {n : Int} (v : Int) (h0 : 0 ≤ n) (h : n ≤ 40) : shr' .i64 v n = v / p2 n := by
 unfold shr' p2
 have e : min n.toNat (IntKind.bits .i64) = n.toNat := by
  have : IntKind.bits .i64 = 64 := rfl
  omega
 rw [e, Int.fdiv_eq_ediv_of_nonneg _ (Int.le_of_lt (Int.pow_pos (by omega)))]
theorem vok_mod {w : Int} (n : Int) : vok w (n % p2 w) = true := by
 have h := p2_pos w
 have h1 := Int.emod_nonneg n (show p2 w ≠ 0 by omega)
 have h2 := Int.emod_lt_of_pos n h
 exact decide_eq_true ⟨h1, by omega⟩
def sg (w n : Int) : Int := if p2 (w - 1) ≤ n then n - p2 w else n

def f1 (a b : Int) : Int := if a = 0 then b else a
theorem f1_z (b : Int) : f1 0 b = b := rfl
theorem f1_n {a : Int} (h : a ≠ 0) (b : Int) : f1 a b = a := if_neg h
theorem f1_0 {a b : Int} : f1 a b = 0 ↔ a = 0 ∧ b = 0 := by
 unfold f1; split <;> simp_all
theorem drop_step {α : Type} {l : List α} {x : α} {r : List α} {i : Nat} (h : l.drop i = x :: r) : i < l.length ∧ at? l (i : Int) = some x ∧ l.drop (i + 1) = r := by
 have hl : i < l.length := by
  rcases Nat.lt_or_ge i l.length with q | q
  ·exact q
  ·rw [List.drop_eq_nil_of_le q] at h; cases h
 rw [drop_cons hl] at h
 injection h with h1 h2
 exact ⟨hl, by rw [at?_lt hl, h1], h2⟩
theorem drop_end {α : Type} {l : List α} {i : Nat} (h : l.drop i = []) : ¬ ((i : Int) < (l.length : Int)) := by
 have := List.drop_eq_nil_iff.1 h
 omega
theorem w64_suc {i : Nat} (h : i ≤ 9223372036854775800) : w64 ((i : Int) + 1) = ((i + 1 : Nat) : Int) := by
 rw [w64_id (by omega) (by omega)]; omega
theorem dwithin (N : Nat) (a lo hi : Int) (k : Bool → Option R) : design_within N a lo hi k = k (decide (lo ≤ a ∧ a ≤ hi)) := by
 unfold design_within
 by_cases h : lo ≤ a <;> simp [h]
theorem gwithin (N : Nat) (a lo hi : Int) (k : Bool → Option R) : graph_within N a lo hi k = k (decide (lo ≤ a ∧ a ≤ hi)) := by
 unfold graph_within
 by_cases h : lo ≤ a <;> simp [h]
theorem dunless (N : Nat) (b : Bool) (e : Int) (k : Int → Option R) : design_unless N b e k = k (if b = true then 0 else e) := by cases b <;> rfl
theorem gunless (N : Nat) (b : Bool) (e : Int) (k : Int → Option R) : graph_unless N b e k = k (if b = true then 0 else e) := by cases b <;> rfl
theorem dfirst_loop (N : Nat) (k0 : Int → Option R) (k1 : Option R) (l : List Int) (hl : l.length ≤ 1000000) : ∀ (r : List Int) (n i : Nat), l.drop i = r → r.length < n → design_first_l0 N k0 k1 n l l.length i = match r.find? (fun x => decide (x ≠ 0)) with | some x => k0 x | none => k1
 | [], n, i, h, hn => by
  obtain ⟨n, rfl⟩ := sc hn
  rw [design_first_l0, cond_neg (drop_end h)]; rfl
 | x :: r, n, i, h, hn => by
  obtain ⟨n, rfl⟩ := sc hn
  obtain ⟨h1, h2, h3⟩ := drop_step h
  rw [design_first_l0, cond_pos (by omega), h2, some_bind', List.find?_cons]
  by_cases hx : x = 0
  ·rw [cond_neg (by simp [hx]), w64_suc (by omega)]
   simp only [hx, ne_eq, not_true, decide_false]
   exact dfirst_loop N k0 k1 l hl r n (i + 1) h3 (by simp at hn; omega)
  ·rw [cond_pos hx]; simp [hx]
theorem gfirst_loop (N : Nat) (k0 : Int → Option R) (k1 : Option R) (l : List Int) (hl : l.length ≤ 1000000) : ∀ (r : List Int) (n i : Nat), l.drop i = r → r.length < n → graph_first_l0 N k0 k1 n l l.length i = match r.find? (fun x => decide (x ≠ 0)) with | some x => k0 x | none => k1
 | [], n, i, h, hn => by
  obtain ⟨n, rfl⟩ := sc hn
  rw [graph_first_l0, cond_neg (drop_end h)]; rfl
 | x :: r, n, i, h, hn => by
  obtain ⟨n, rfl⟩ := sc hn
  obtain ⟨h1, h2, h3⟩ := drop_step h
  rw [graph_first_l0, cond_pos (by omega), h2, some_bind', List.find?_cons]
  by_cases hx : x = 0
  ·rw [cond_neg (by simp [hx]), w64_suc (by omega)]
   simp only [hx, ne_eq, not_true, decide_false]
   exact gfirst_loop N k0 k1 l hl r n (i + 1) h3 (by simp at hn; omega)
  ·rw [cond_pos hx]; simp [hx]
theorem dfirst2 (N : Nat) (hN : 10 ≤ N) (a b : Int) (k : Int → Option R) : design_first N [a, b] k = k (f1 a b) := by
 unfold design_first f1
 have := dfirst_loop N k (k 0) [a, b] (by simp) [a, b] N 0 rfl (by simp; omega)
 rw [Int.natCast_zero] at this
 rw [this]
 by_cases ha : a = 0 <;> by_cases hb : b = 0 <;> simp [ha, hb]
theorem dfirst3 (N : Nat) (hN : 10 ≤ N) (a b c : Int) (k : Int → Option R) : design_first N [a, b, c] k = k (f1 a (f1 b c)) := by
 unfold design_first f1
 have := dfirst_loop N k (k 0) [a, b, c] (by simp) [a, b, c] N 0 rfl (by simp; omega)
 rw [Int.natCast_zero] at this
 rw [this]
 by_cases ha : a = 0 <;> by_cases hb : b = 0 <;> by_cases hc : c = 0 <;> simp [ha, hb, hc]
theorem gfirst2 (N : Nat) (hN : 10 ≤ N) (a b : Int) (k : Int → Option R) : graph_first N [a, b] k = k (f1 a b) := by
 unfold graph_first f1
 have := gfirst_loop N k (k 0) [a, b] (by simp) [a, b] N 0 rfl (by simp; omega)
 rw [Int.natCast_zero] at this
 rw [this]
 by_cases ha : a = 0 <;> by_cases hb : b = 0 <;> simp [ha, hb]
theorem gfirst3 (N : Nat) (hN : 10 ≤ N) (a b c : Int) (k : Int → Option R) : graph_first N [a, b, c] k = k (f1 a (f1 b c)) := by
 unfold graph_first f1
 have := gfirst_loop N k (k 0) [a, b, c] (by simp) [a, b, c] N 0 rfl (by simp; omega)
 rw [Int.natCast_zero] at this
 rw [this]
 by_cases ha : a = 0 <;> by_cases hb : b = 0 <;> by_cases hc : c = 0 <;> simp [ha, hb, hc]
def Tx (l : List UInt8) : ByteArray := ⟨l.toArray⟩
theorem Tx_of (s : ByteArray) : s = Tx s.data.toList := by unfold Tx; rw [Array.toArray_toList]
theorem Tx_size (l : List UInt8) : (Tx l).size = l.length := by simp [Tx, ByteArray.size]
theorem Tx_byte {l : List UInt8} {i : Nat} (h : i < l.length) : byte? (Tx l) (i : Int) = some (l[i].toNat : Int) := by
 unfold byte?
 rw [dif_pos ⟨by omega, by rw [Tx_size]; simpa using h⟩]
 rfl
def letN (c : Nat) : Bool := decide ((97 ≤ c ∧ c ≤ 122) ∨ (65 ≤ c ∧ c ≤ 90))
def nmL : Bool → List UInt8 → Bool
 | _, [] => true
 | f, c :: r => (letN c.toNat || (!f && decide (c.toNat = 95 ∨ (48 ≤ c.toNat ∧ c.toNat ≤ 57)))) && nmL false r
theorem nmL_cons (f : Bool) (c : UInt8) (r : List UInt8) : nmL f (c :: r) = ((letN c.toNat || (!f && decide (c.toNat = 95 ∨ (48 ≤ c.toNat ∧ c.toNat ≤ 57)))) && nmL false r) := rfl
def nmB (s : ByteArray) : Bool := nmL true s.data.toList && decide (1 ≤ s.size ∧ s.size ≤ 16)
theorem dname_loop (N : Nat) (k0 : Bool → Option R) (k1 : ByteArray → Option R) (l : List UInt8) (hl : l.length ≤ 9223372036854775800) : ∀ (r : List UInt8) (n i : Nat), l.drop i = r → r.length < n → design_isName_l0 N k0 k1 n (Tx l) l.length i = if nmL (decide (i = 0)) r = true then k1 (Tx l) else k0 false
 | [], n, i, h, hn => by
  obtain ⟨n, rfl⟩ := sc hn
  rw [design_isName_l0, cond_neg (drop_end h)]; rfl
 | c :: r, n, i, h, hn => by
  obtain ⟨n, rfl⟩ := sc hn
  obtain ⟨h1, h2, h3⟩ := drop_step h
  have hc : l[i] = c := by
   rw [drop_cons h1] at h
   injection h
  have ih := dname_loop N k0 k1 l hl r n (i + 1) h3 (by simp at hn; omega)
  rw [show (decide (i + 1 = 0)) = false from rfl] at ih
  have hb := c.toNat_lt
  rw [design_isName_l0, cond_pos (by omega), Tx_byte h1, some_bind', hc, w64_id (x := (c.toNat : Int)) (by omega) (by omega), w64_suc (by omega)]
  simp only [dwithin, ih]
  rw [nmL_cons]
  unfold letN
  generalize nmL false r = z
  generalize c.toNat = m at hb
  by_cases q1 : 97 ≤ m ∧ m ≤ 122
  ·have e1 : (97 : Int) ≤ (m : Int) ∧ (m : Int) ≤ 122 := by omega
   simp [q1, e1]
  ·have e1 : ¬ ((97 : Int) ≤ (m : Int) ∧ (m : Int) ≤ 122) := by omega
   by_cases q2 : 65 ≤ m ∧ m ≤ 90
   ·have e2 : (65 : Int) ≤ (m : Int) ∧ (m : Int) ≤ 90 := by omega
    rw [decide_eq_false e1, decide_eq_true e2]
    simp [q1, q2]
   ·have e2 : ¬ ((65 : Int) ≤ (m : Int) ∧ (m : Int) ≤ 90) := by omega
    rw [decide_eq_false e1, decide_eq_false e2]
    by_cases q3 : i = 0
    ·subst q3; simp [q1, q2]
    ·have e3 : ¬ ((i : Int) = 0) := by omega
     by_cases q4 : m = 95
     ·subst q4; simp [e3, q3]
     ·have e4 : (m : Int) ≠ 95 := by omega
      by_cases q5 : 48 ≤ m ∧ m ≤ 57
      ·have e5 : (48 : Int) ≤ (m : Int) ∧ (m : Int) ≤ 57 := by omega
       simp [q1, q2, q3, q4, q5, e3, e4, e5]
      ·have e5 : ¬ ((48 : Int) ≤ (m : Int) ∧ (m : Int) ≤ 57) := by omega
       rw [decide_eq_false e5]
       simp [q1, q2, q3, q4, q5, e3, e4]
theorem dname (N : Nat) (s : ByteArray) (hN : s.size < N) (hs : s.size ≤ 9223372036854775800) (k : Bool → Option R) : design_isName N s k = k (nmB s) := by
 have hz : s.size = s.data.toList.length := by
  have := Tx_size s.data.toList
  rw [← Tx_of s] at this; exact this
 have := dname_loop N k (fun z6 => design_within N ((z6.size : Nat) : Int) 1 16 k) s.data.toList (by omega) s.data.toList N 0 rfl (by omega)
 rw [← Tx_of s, ← hz, Int.natCast_zero] at this
 unfold design_isName nmB
 rw [this, decide_eq_true rfl]
 cases nmL true s.data.toList
 ·rfl
 ·rw [if_pos rfl, dwithin, Bool.true_and]
  congr 1
  exact decide_eq_decide.2 (by omega)
def inS (a : ByteArray) : List ByteArray → Bool
 | [] => false
 | x :: r => decide (a = x) || inS a r
abbrev NM := List (ByteArray × Nat × Bool)
def mxS (a : ByteArray) : NM → Option Nat
 | [] => none
 | e :: r => bif decide (a = e.1) then some 0 else (mxS a r).map (· + 1)
theorem mxS_cons (a : ByteArray) (e : ByteArray × Nat × Bool) (r : NM) : mxS a (e :: r) = bif decide (a = e.1) then some 0 else (mxS a r).map (· + 1) := rfl
theorem inS_cons (a x : ByteArray) (r : List ByteArray) : inS a (x :: r) = (decide (a = x) || inS a r) := rfl
theorem mxS_eq (a : ByteArray) : ∀ xs : NM, mixD .s a xs = mxS a xs
 | [] => rfl
 | e :: r => by
  have ih := mxS_eq a r
  rw [mxS_cons, ← ih]; rfl
def mgS (a : ByteArray) (xs : NM) : Bool := match mxS a xs with
 | none => false
 | some i => ((xs[i]?).map (·.2.2)).getD false
def mpS (a : ByteArray) (c : Nat) (xs : NM) : NM := match mxS a xs with
 | none => xs ++ [(a, c, true)]
 | some i => xs.modify i fun e => (a, e.2.1, true)
theorem mgS_eq (a : ByteArray) (xs : NM) : mgetD .s a xs false = mgS a xs := by
 unfold mgetD mgS
 rw [mxS_eq]; rfl
theorem mpS_eq (a : ByteArray) (c : Nat) (xs : NM) : mputD .s a true c xs = mpS a c xs := by
 unfold mputD mpS
 rw [mxS_eq]; rfl
theorem mget_s (t : ByteArray) (e : ByteArray × Nat × Bool) (r : NM) : mgS t (e :: r) = if t = e.1 then e.2.2 else mgS t r := by
 unfold mgS
 rw [mxS_cons]
 by_cases h : t = e.1
 ·rw [cond_pos h, if_pos h]; rfl
 ·rw [cond_neg h, if_neg h]
  cases mxS t r <;> rfl
theorem mput_s (a b : ByteArray) (c : Nat) : ∀ xs : NM, mgS b (mpS a c xs) = if b = a then true else mgS b xs
 | [] => by
  show mgS b [(a, c, true)] = _
  rw [mget_s]
 | e :: r => by
  have ih := mput_s a b c r
  unfold mpS
  rw [mxS_cons]
  by_cases h : a = e.1
  ·rw [cond_pos h]
   show mgS b ((a, e.2.1, true) :: r) = _
   rw [mget_s, mget_s]
   by_cases q : b = a
   ·simp [q]
   ·simp [q, ← h]
  ·rw [cond_neg h]
   unfold mpS at ih
   cases hm : mxS a r with
   | none =>
    rw [hm] at ih
    show mgS b (e :: (r ++ [(a, c, true)])) = _
    rw [mget_s, mget_s, ih]
    by_cases q : b = e.1
    ·simp [q, Ne.symm h]
    ·simp [q]
   | some i =>
    rw [hm] at ih
    show mgS b (e :: r.modify i _) = _
    rw [mget_s, mget_s, ih]
    by_cases q : b = e.1
    ·simp [q, Ne.symm h]
    ·simp [q]
def KN (m : NM) (S : List ByteArray) : Prop := ∀ a, mgS a m = inS a S
theorem KN_nil : KN [] [] := fun a => rfl
theorem KN_put {m : NM} {S : List ByteArray} (h : KN m S) (a : ByteArray) (c : Nat) : KN (mpS a c m) (a :: S) := fun b => by
 rw [mput_s, h b]
 rw [inS_cons]
 by_cases q : b = a <;> simp [q]
def nerr (S : List ByteArray) (s : ByteArray) : Int := if nmB s = true then (if inS s S = true then 5 else 0) else 4
theorem dnames (N : Nat) (hN : 10 ≤ N) (s : ByteArray) (c : Nat) {m : NM} {S : List ByteArray} (hs : s.size < N) (hs2 : s.size ≤ 9223372036854775800) (hm : KN m S) (k : Int → Nat → NM → Option R) :
  design_names_err N s c m k = k (nerr S s) (mclkD .s s c m) (mpS s c m) := by
 unfold design_names_err nerr
 rw [dname N s hs hs2, dunless, dunless, dfirst2 N hN, mgS_eq, mpS_eq, hm s]
 congr 1
 cases nmB s <;> cases inS s S <;> rfl

abbrev Nd := Int × Int × List Int × Int
def wdOf (nodes : List Nd) (a : Int) : Int := ((nodes[a.toNat]?).map (·.2.1)).getD 0
def wOK (n : Int) : Bool := decide (1 ≤ n ∧ n ≤ 16)
def argN (op : Int) : Int := if op ≤ 1 then 0 else if op = 2 ∨ op = 14 ∨ op = 15 ∨ op = 16 then 1 else if op = 12 then 3 else 2
def valueC (leaves : List Int) (op wd v : Int) : Int := if op = 0 then (if vok wd v = true then 0 else 2) else if op = 1 then (if 0 ≤ v ∧ v ≤ (leaves.length : Int) - 1 then (if leaves[v.toNat]? = some wd then 0 else 25) else 6) else if op = 14 then (if 0 ≤ v ∧ v ≤ 15 then 0 else 2) else if v = 0 then 0 else 3
def w0 (w : List Int) (i : Nat) : Int := (w[i]?).getD 0
def fitB (op wd v : Int) (w : List Int) : Bool := if op ≤ 1 then true else if op ≤ 8 then w.all (fun x => decide (x = wd)) else if op ≤ 11 then decide (wd = 1 ∧ w0 w 0 = w0 w 1) else if op = 12 then decide (w0 w 0 = 1 ∧ w0 w 1 = wd ∧ w0 w 2 = wd) else if op = 13 then decide (w0 w 0 + w0 w 1 = wd) else if op = 14 then decide (v + wd ≤ w0 w 0) else if op ≤ 16 then decide (w0 w 0 ≤ wd) else decide (w0 w 0 = wd)
def oddA (i : Int) (args : List Int) : Bool := args.any fun a => !decide (0 ≤ a ∧ a ≤ i - 1)
def nodeC (leaves : List Int) (nodes : List Nd) (i : Int) (x : Nd) : Int :=
 f1 (if 0 ≤ x.1 ∧ x.1 ≤ 18 then 0 else 15) (f1 (if wOK x.2.1 = true then 0 else 2) (f1 (if (x.2.2.1.length : Int) = argN x.1 then 0 else 10) (f1 (if oddA i x.2.2.1 = true then 9 else 0) (f1 (valueC leaves x.1 x.2.1 x.2.2.2)
  (if fitB x.1 x.2.1 x.2.2.2 (x.2.2.1.map (wdOf nodes)) = true then 0 else 25)))))
theorem gwidth (N : Nat) (n : Int) (k : Bool → Option R) : graph_isWidth N n k = k (wOK n) := by unfold graph_isWidth wOK; rw [gwithin]
theorem leaves_loop (N : Nat) (k0 : Int → Int → Option R) (k1 : Option R) (l : List Int) (hl : l.length ≤ 1000000) : ∀ (r : List Int) (n i : Nat), l.drop i = r → r.length < n →
  ∃ j : Int, graph_each_int_CheckNodes_c1_l0 N k0 k1 n l l.length i = if r.all wOK = true then k1 else k0 j 2
 | [], n, i, h, hn => by
  obtain ⟨n, rfl⟩ := sc hn
  exact ⟨0, by rw [graph_each_int_CheckNodes_c1_l0, cond_neg (drop_end h)]; rfl⟩
 | x :: r, n, i, h, hn => by
  obtain ⟨n, rfl⟩ := sc hn
  obtain ⟨h1, h2, h3⟩ := drop_step h
  obtain ⟨j, ih⟩ := leaves_loop N k0 k1 l hl r n (i + 1) h3 (by simp at hn; omega)
  rw [graph_each_int_CheckNodes_c1_l0, cond_pos (by omega), h2, some_bind']
  unfold graph_CheckNodes_c1
  rw [gwidth, gunless, List.all_cons]
  cases hx : wOK x
  ·exact ⟨i, rfl⟩
  ·refine ⟨j, ?_⟩
   rw [if_pos rfl, cond_neg (by simp), w64_suc (by omega), ih, Bool.true_and]
theorem leaves_each (N : Nat) (l : List Int) (hl : l.length ≤ 1000000) (hN : l.length < N) (k : Int → Int → Option R) : ∃ j : Int, graph_each_int_CheckNodes_c1 N l k = if l.all wOK = true then k 0 0 else k j 2 := by
 have := leaves_loop N k (k 0 0) l hl l N 0 rfl hN
 rwa [Int.natCast_zero] at this
theorem odd_loop (N : Nat) (k0 : Int → Int → Option R) (k1 : Int → Option R) (l : List Int) (hl : l.length ≤ 1000000) (m : Int) (hm : 0 ≤ m ∧ m ≤ 1000000) : ∀ (r : List Int) (n i : Nat), l.drop i = r → r.length < n →
  ∃ j : Nat, slices_IndexFunc_Lint_int_CheckNodes_c2_c1_l0 N k0 k1 n l l.length i m = if oddA m r = true then k0 j m else k1 m
 | [], n, i, h, hn => by
  obtain ⟨n, rfl⟩ := sc hn
  exact ⟨0, by rw [slices_IndexFunc_Lint_int_CheckNodes_c2_c1_l0, cond_neg (drop_end h)]; rfl⟩
 | x :: r, n, i, h, hn => by
  obtain ⟨n, rfl⟩ := sc hn
  obtain ⟨h1, h2, h3⟩ := drop_step h
  obtain ⟨j, ih⟩ := odd_loop N k0 k1 l hl m hm r n (i + 1) h3 (by simp at hn; omega)
  rw [slices_IndexFunc_Lint_int_CheckNodes_c2_c1_l0, cond_pos (by omega), h2, some_bind']
  unfold graph_CheckNodes_c2_c1
  rw [gwithin, w64_id (x := m - 1) (by omega) (by omega)]
  unfold oddA at ih ⊢
  rw [List.any_cons]
  cases decide (0 ≤ x ∧ x ≤ m - 1)
  ·exact ⟨i, rfl⟩
  ·refine ⟨j, ?_⟩
   dsimp only
   rw [Bool.not_true, cond_false, w64_suc (by omega), ih, Bool.false_or]
theorem odd_eq (N : Nat) (l : List Int) (hl : l.length ≤ 1000000) (hN : l.length < N) (m : Int) (hm : 0 ≤ m ∧ m ≤ 1000000) (k : Bool → Int → Option R) : slices_ContainsFunc_Lint_int_CheckNodes_c2_c1 N l m k = k (oddA m l) m := by
 unfold slices_ContainsFunc_Lint_int_CheckNodes_c2_c1 slices_IndexFunc_Lint_int_CheckNodes_c2_c1
 obtain ⟨j, this⟩ := odd_loop N (fun y1 y2 => k (decide (0 ≤ y1)) y2) (fun z => k (decide ((0 : Int) ≤ -1)) z) l hl m hm l N 0 rfl hN
 rw [Int.natCast_zero] at this
 rw [this]
 cases oddA m l
 ·rfl
 ·rw [if_pos rfl, decide_eq_true (by omega)]
theorem same_loop (N : Nat) (k0 : Int → Int → Option R) (k1 : Int → Option R) (l : List Int) (hl : l.length ≤ 1000000) (m : Int) : ∀ (r : List Int) (n i : Nat), l.drop i = r → r.length < n →
  ∃ j : Nat, slices_IndexFunc_Lint_int_same_c1_l0 N k0 k1 n l l.length i m = if r.all (fun x => decide (x = m)) = true then k1 m else k0 j m
 | [], n, i, h, hn => by
  obtain ⟨n, rfl⟩ := sc hn
  exact ⟨0, by rw [slices_IndexFunc_Lint_int_same_c1_l0, cond_neg (drop_end h)]; rfl⟩
 | x :: r, n, i, h, hn => by
  obtain ⟨n, rfl⟩ := sc hn
  obtain ⟨h1, h2, h3⟩ := drop_step h
  obtain ⟨j, ih⟩ := same_loop N k0 k1 l hl m r n (i + 1) h3 (by simp at hn; omega)
  rw [slices_IndexFunc_Lint_int_same_c1_l0, cond_pos (by omega), h2, some_bind']
  unfold graph_same_c1
  dsimp only
  rw [List.all_cons]
  by_cases hx : x = m
  ·refine ⟨j, ?_⟩
   rw [cond_neg (by simp [hx]), w64_suc (by omega), ih, decide_eq_true hx, Bool.true_and]
  ·exact ⟨i, by rw [cond_pos hx, decide_eq_false hx]; rfl⟩
theorem same_eq (N : Nat) (l : List Int) (hl : l.length ≤ 1000000) (hN : l.length < N) (m v : Int) (k : Bool → Option R) : graph_same N m l v k = k (l.all fun x => decide (x = m)) := by
 unfold graph_same slices_ContainsFunc_Lint_int_same_c1 slices_IndexFunc_Lint_int_same_c1
 obtain ⟨j, this⟩ := same_loop N (fun y1 y2 => k (!decide (0 ≤ y1))) (fun z => k (!decide ((0 : Int) ≤ -1))) l hl m l N 0 rfl hN
 rw [Int.natCast_zero] at this
 rw [this]
 cases l.all fun x => decide (x = m)
 ·rw [if_neg (by simp), decide_eq_true (by omega)]; rfl
 ·rfl
theorem gfits (N : Nat) (v w : Int) (h0 : 1 ≤ w) (h : w ≤ 16) (k : Bool → Option R) : graph_fits N v w k = k (vok w v) := by
 have := p2_pos w; have := p2_16 h
 unfold graph_fits
 rw [cond_pos (by omega), cond_neg (by omega), shl_p2 (by omega) (by omega), w64_id (by omega) (by omega), gwithin]; rfl
theorem valueErr_eq7 (N : Nat) (leaves : List Int) (hl : leaves.length ≤ 1000000) (op wd : Int) (args : List Int) (v : Int) (nm : ByteArray) (na : Int) (b : Bool) (f g : Nat) (cs : List S) (hw : wOK wd = true) (hb : b = decide (op = 0 ∨ op = 1 ∨ op = 14)) (k : Int → Option R) :
  graph_valueErr_v7 N leaves op wd args v nm na b f g cs k = k (valueC leaves op wd v) := by
 have hw := of_decide_eq_true hw
 unfold graph_valueErr_v7 valueC
 by_cases c0 : op = 0
 ·rw [cond_pos c0, if_pos c0, gfits N v wd hw.1 hw.2, gunless]
 ·rw [cond_neg c0, if_neg c0]
  by_cases c1 : op = 1
  ·rw [cond_pos c1, if_pos c1, gwithin, w64_id (by omega) (by omega)]
   by_cases c : 0 ≤ v ∧ v ≤ (leaves.length : Int) - 1
   ·rw [decide_eq_true c, if_pos c, Bool.not_true, cond_false]
    obtain ⟨n, rfl⟩ : ∃ n : Nat, v = n := ⟨v.toNat, by omega⟩
    rw [at?_lt (show n < leaves.length by omega), some_bind', gunless, Int.toNat_natCast, List.getElem?_eq_getElem (show n < leaves.length by omega)]
    by_cases e : leaves[n]'(by omega) = wd <;> simp [e]
   ·rw [decide_eq_false c, if_neg c]; rfl
  ·rw [cond_neg c1, if_neg c1]
   by_cases c2 : op = 14
   ·rw [cond_pos c2, if_pos c2, gwithin, gunless]
    congr 1; by_cases c : 0 ≤ v ∧ v ≤ 15 <;> simp [c]
   ·rw [cond_neg c2, if_neg c2, hb, decide_eq_false (by omega), cond_false, gunless]
    congr 1; by_cases c : v = 0 <;> simp [c]
theorem widths_loop (N : Nat) (k0 : Int → Int → List Int → Int → ByteArray → Int → Bool → Nat → Nat → List S → List Int → List Int → List Nd → Option R) (l : List Int) (hl : l.length ≤ 3) (nodes : List Nd) (m : Int) (hm : m ≤ nodes.length)
  (op wd : Int) (args : List Int) (v : Int) (nm : ByteArray) (na : Int) (b : Bool) (f g : Nat) (cs : List S) (lv : List Int) : ∀ (r : List Int) (n i : Nat) (acc : List Int), l.drop i = r → r.length < n → acc.length ≤ i → oddA m r = false →
  graph_CheckNodes_c2_l0 N k0 n l l.length i nodes op wd args v nm na b f g cs acc lv = k0 op wd args v nm na b f g cs (acc ++ r.map (wdOf nodes)) lv nodes
 | [], n, i, acc, h, hn, ha, ho => by
  obtain ⟨n, rfl⟩ := sc hn
  rw [graph_CheckNodes_c2_l0, cond_neg (drop_end h), List.map_nil, List.append_nil]
 | x :: r, n, i, acc, h, hn, ha, ho => by
  obtain ⟨n, rfl⟩ := sc hn
  obtain ⟨h1, h2, h3⟩ := drop_step h
  unfold oddA at ho
  rw [List.any_cons, Bool.or_eq_false_iff] at ho
  have hx : 0 ≤ x ∧ x ≤ m - 1 := by simpa using ho.1
  obtain ⟨a, rfl⟩ : ∃ a : Nat, x = a := ⟨x.toNat, by omega⟩
  have ih := widths_loop N k0 l hl nodes m hm op wd args v nm na b f g cs lv r n (i + 1) (acc ++ [nodes[a]'(by omega) |>.2.1]) h3 (by simp at hn; omega) (by simp; omega) ho.2
  rw [graph_CheckNodes_c2_l0, cond_pos (by omega), h2, some_bind', at?_lt (show a < nodes.length by omega), some_bind', roomB_of (by omega), cond_true, w64_suc (by omega), ih, List.map_cons, List.append_assoc]
  unfold wdOf
  rw [Int.toNat_natCast, List.getElem?_eq_getElem (show a < nodes.length by omega)]
  rfl
def WOK (nodes : List Nd) (i : Int) : Prop := ∀ a : Int, 0 ≤ a → a ≤ i - 1 → wOK (wdOf nodes a) = true
theorem j0_gen (N : Nat) (hN : 10 ≤ N) (leaves : List Int) (hl : leaves.length ≤ 1000000) (nodes : List Nd) (m : Int) (hm : m ≤ nodes.length) (hW : WOK nodes m) (op wd : Int) (args : List Int) (v : Int) (nm : ByteArray) (na : Int) (b : Bool) (f g : Nat) (cs : List S)
  (hw : wOK wd = true) (hb : b = decide (op = 0 ∨ op = 1 ∨ op = 14)) (hna : na = argN op) (k : Int → List Int → List Nd → Option R) (K : Int → Int → List Int → Int → ByteArray → Int → Bool → Nat → Nat → List S → List Int → List Int → List Nd → Option R)
  (hj : ∀ w : List Int, (w.length : Int) = argN op → (∀ x, x ∈ w → wOK x = true) → valueC leaves op wd v = 0 → K op wd args v nm na b f g cs w leaves nodes = k (if fitB op wd v w = true then 0 else 25) leaves nodes) :
  (graph_unless N (decide (((args.length : Nat) : Int) = na)) 10 (fun y1 => (graph_unless N (!(oddA m args)) 9 (fun y2 => (graph_valueErr_v7 N leaves op wd args v nm na b f g cs (fun y3 => (graph_first N [y1, y2, y3] (fun y4 => (bif decide (y4 ≠ 0) then (k y4 leaves nodes) else (graph_CheckNodes_c2_l0 N K N args ((args.length : Nat) : Int) 0 nodes op wd args v nm na b f g cs [] leaves)))))))))) =
  k (f1 (if (args.length : Int) = argN op then 0 else 10) (f1 (if oddA m args = true then 9 else 0) (f1 (valueC leaves op wd v) (if fitB op wd v (args.map (wdOf nodes)) = true then 0 else 25)))) leaves nodes := by
 rw [gunless, gunless, valueErr_eq7 N leaves hl op wd args v nm na b f g cs hw hb, gfirst3 N hN, hna]
 by_cases c1 : (args.length : Int) = argN op
 ·rw [decide_eq_true c1, if_pos rfl, f1_z, if_pos c1, f1_z]
  have h3 : args.length ≤ 3 := by
   unfold argN at c1
   split at c1
   ·omega
   ·split at c1
    ·omega
    ·split at c1 <;> omega
  cases c2 : oddA m args
  ·rw [Bool.not_false, if_pos rfl, f1_z, if_neg (by simp), f1_z]
   by_cases c3 : valueC leaves op wd v = 0
   ·rw [c3, cond_neg (by simp), f1_z]
    have := widths_loop N K args h3 nodes m hm op wd args v nm (argN op) b f g cs leaves args N 0 [] rfl (by omega) (by simp) c2
    rw [Int.natCast_zero, List.nil_append] at this
    rw [this, ← hna]
    refine hj _ (by rw [List.length_map]; exact c1) (fun x hx => ?_) c3
    obtain ⟨a, ha, rfl⟩ := List.mem_map.1 hx
    have := List.any_eq_false.1 c2 a ha
    have : 0 ≤ a ∧ a ≤ m - 1 := by simpa using this
    exact hW a this.1 this.2
   ·rw [cond_pos c3, f1_n c3]
  ·rw [if_pos rfl]; rfl
 ·rw [decide_eq_false c1, if_neg c1]; rfl
theorem at_w0 {w : List Int} {i : Nat} (h : i < w.length) : at? w (i : Int) = some (w0 w i) := by rw [at?_lt h]; unfold w0; rw [List.getElem?_eq_getElem h]; rfl
theorem shifted_eq (N : Nat) (wd v : Int) {w : List Int} (h : 0 < w.length) (k : Bool → Option R) : graph_shifted N wd w v k = k (decide (w0 w 0 = wd)) := by unfold graph_shifted; rw [show (0 : Int) = ((0 : Nat) : Int) from rfl, at_w0 h]; rfl
theorem extended_eq (N : Nat) (wd v : Int) {w : List Int} (h : 0 < w.length) (k : Bool → Option R) : graph_extended N wd w v k = k (decide (w0 w 0 ≤ wd)) := by unfold graph_extended; rw [show (0 : Int) = ((0 : Nat) : Int) from rfl, at_w0 h]; rfl
theorem compared_eq (N : Nat) (wd v : Int) {w : List Int} (h : 1 < w.length) (k : Bool → Option R) : graph_compared N wd w v k = k (decide (wd = 1 ∧ w0 w 0 = w0 w 1)) := by
 unfold graph_compared
 by_cases c : wd = 1
 ·rw [cond_pos c, show (0 : Int) = ((0 : Nat) : Int) from rfl, at_w0 (by omega), some_bind', show (1 : Int) = ((1 : Nat) : Int) from rfl, at_w0 h, some_bind']
  congr 1; exact decide_eq_decide.2 ⟨fun h => ⟨c, h⟩, fun h => h.2⟩
 ·rw [cond_neg c, decide_eq_false (fun h => c h.1)]
theorem mux_eq (N : Nat) (wd v : Int) {w : List Int} (h : 2 < w.length) (k : Bool → Option R) : graph_operations_c12 N wd w v k = k (decide (w0 w 0 = 1 ∧ w0 w 1 = wd ∧ w0 w 2 = wd)) := by
 unfold graph_operations_c12
 rw [show at? w 0 = _ from at_w0 (i := 0) (by omega), show at? w 1 = _ from at_w0 (i := 1) (by omega), show at? w 2 = _ from at_w0 (i := 2) h]
 simp only [some_bind']
 by_cases c : w0 w 0 = 1
 ·rw [cond_pos c]
  by_cases c2 : w0 w 1 = wd
  ·rw [cond_pos c2]; congr 1; exact decide_eq_decide.2 ⟨fun h => ⟨c, c2, h⟩, fun h => h.2.2⟩
  ·rw [cond_neg c2, decide_eq_false (fun h => c2 h.2.1)]
 ·rw [cond_neg c, decide_eq_false (fun h => c h.1)]
theorem wOK_mem {w : List Int} (hw : ∀ x, x ∈ w → wOK x = true) {i : Nat} (h : i < w.length) : 1 ≤ w0 w i ∧ w0 w i ≤ 16 := by
 unfold w0; rw [List.getElem?_eq_getElem h]
 exact of_decide_eq_true (hw _ (List.getElem_mem h))
theorem join_eq (N : Nat) (wd v : Int) {w : List Int} (h : 1 < w.length) (hw : ∀ x, x ∈ w → wOK x = true) (k : Bool → Option R) : graph_operations_c14 N wd w v k = k (decide (w0 w 0 + w0 w 1 = wd)) := by
 have := wOK_mem hw h; have := wOK_mem hw (show 0 < w.length by omega)
 unfold graph_operations_c14
 rw [show at? w 0 = _ from at_w0 (i := 0) (by omega), some_bind', show at? w 1 = _ from at_w0 (i := 1) (by omega), some_bind', w64_id (by omega) (by omega)]
theorem slice_eq (N : Nat) (wd v : Int) {w : List Int} (h : 0 < w.length) (h1 : 0 ≤ wd ∧ wd ≤ 16) (h2 : 0 ≤ v ∧ v ≤ 15) (k : Bool → Option R) : graph_operations_c16 N wd w v k = k (decide (v + wd ≤ w0 w 0)) := by
 unfold graph_operations_c16
 rw [show at? w 0 = _ from at_w0 (i := 0) (by omega), some_bind', w64_id (by omega) (by omega)]
theorem node_eq (N : Nat) (hN : 10 ≤ N) (leaves : List Int) (hl : leaves.length ≤ 1000000) (nodes : List Nd) (hn : nodes.length ≤ 1000000) (m : Nat) (hm : m ≤ nodes.length) (hW : WOK nodes m) (op wd : Int) (args : List Int) (ha : args.length ≤ 1000000) (haN : args.length < N) (v : Int) (k : Int → List Int → List Nd → Option R) :
  graph_CheckNodes_c2 N m op wd args v leaves nodes k = k (nodeC leaves nodes m (op, wd, args, v)) leaves nodes := by
 unfold graph_CheckNodes_c2 nodeC
 simp only [gwithin, gunless, gwidth, gfirst2 N hN, odd_eq N args ha haN (m : Int) ⟨by omega, by omega⟩]
 by_cases c0 : 0 ≤ op ∧ op ≤ 18
 ·rw [decide_eq_true c0, if_pos rfl, if_pos c0, f1_z, f1_z]
  by_cases c1 : wOK wd = true
  ·have hwd := of_decide_eq_true c1
   rw [if_pos c1, cond_neg (by simp), f1_z]
   have hop : op = 18 ∨ op = 17 ∨ op = 16 ∨ op = 15 ∨ op = 14 ∨ op = 13 ∨ op = 12 ∨ op = 11 ∨ op = 10 ∨ op = 9 ∨ op = 8 ∨ op = 7 ∨ op = 6 ∨ op = 5 ∨ op = 4 ∨ op = 3 ∨ op = 2 ∨ op = 1 ∨ op = 0 := by omega
   rcases hop with rfl | rfl | rfl | rfl | rfl | rfl | rfl | rfl | rfl | rfl | rfl | rfl | rfl | rfl | rfl | rfl | rfl | rfl | rfl
   all_goals
    simp only [Int.reduceEq, decide_true, decide_false, cond_true, cond_false]
    unfold graph_CheckNodes_c2_j0
    refine j0_gen N hN leaves hl nodes m (by omega) hW _ wd args v _ _ _ _ _ _ c1 (by rfl) (by rfl) k _ fun w hw1 hw2 hw3 => ?_
    try dsimp only
    simp only [Nat.reduceEqDiff, decide_true, decide_false, cond_true, cond_false]
   ·rw [shifted_eq N wd v (by have : (w.length : Int) = 2 := hw1; omega), gunless]; rfl
   ·rw [shifted_eq N wd v (by have : (w.length : Int) = 2 := hw1; omega), gunless]; rfl
   ·rw [extended_eq N wd v (by have : (w.length : Int) = 1 := hw1; omega), gunless]; rfl
   ·rw [extended_eq N wd v (by have : (w.length : Int) = 1 := hw1; omega), gunless]; rfl
   ·have hv : (if 0 ≤ v ∧ v ≤ 15 then (0 : Int) else 2) = 0 := hw3
    rw [slice_eq N wd v (by have : (w.length : Int) = 1 := hw1; omega) ⟨by omega, by omega⟩ (by split at hv <;> omega), gunless]; rfl
   ·rw [join_eq N wd v (by have : (w.length : Int) = 2 := hw1; omega) hw2, gunless]; rfl
   ·rw [mux_eq N wd v (by have : (w.length : Int) = 3 := hw1; omega), gunless]; rfl
   ·rw [compared_eq N wd v (by have : (w.length : Int) = 2 := hw1; omega), gunless]; rfl
   ·rw [compared_eq N wd v (by have : (w.length : Int) = 2 := hw1; omega), gunless]; rfl
   ·rw [compared_eq N wd v (by have : (w.length : Int) = 2 := hw1; omega), gunless]; rfl
   ·have : (w.length : Int) = 2 := hw1
    rw [same_eq N w (by omega) (by omega), gunless]; rfl
   ·have : (w.length : Int) = 2 := hw1
    rw [same_eq N w (by omega) (by omega), gunless]; rfl
   ·have : (w.length : Int) = 2 := hw1
    rw [same_eq N w (by omega) (by omega), gunless]; rfl
   ·have : (w.length : Int) = 2 := hw1
    rw [same_eq N w (by omega) (by omega), gunless]; rfl
   ·have : (w.length : Int) = 2 := hw1
    rw [same_eq N w (by omega) (by omega), gunless]; rfl
   ·have : (w.length : Int) = 2 := hw1
    rw [same_eq N w (by omega) (by omega), gunless]; rfl
   ·have : (w.length : Int) = 1 := hw1
    rw [same_eq N w (by omega) (by omega), gunless]; rfl
   ·unfold graph_anyWidth; dsimp only; rw [gunless]; rfl
   ·unfold graph_anyWidth; dsimp only; rw [gunless]; rfl
  ·rw [if_neg c1, cond_pos (by omega)]; rfl
 ·rw [decide_eq_false c0, if_neg c0]; rfl
def nodesC (leaves : List Int) (nodes : List Nd) : Nat → List Nd → Int
 | _, [] => 0
 | i, x :: r => f1 (nodeC leaves nodes i x) (nodesC leaves nodes (i + 1) r)
theorem nodesC_cons (leaves : List Int) (nodes : List Nd) (i : Nat) (x : Nd) (r : List Nd) : nodesC leaves nodes i (x :: r) = f1 (nodeC leaves nodes i x) (nodesC leaves nodes (i + 1) r) := rfl
theorem nodeC_w {leaves : List Int} {nodes : List Nd} {i : Int} {x : Nd} (h : nodeC leaves nodes i x = 0) : (0 ≤ x.1 ∧ x.1 ≤ 18) ∧ wOK x.2.1 = true ∧ (x.2.2.1.length : Int) = argN x.1 ∧ oddA i x.2.2.1 = false ∧ valueC leaves x.1 x.2.1 x.2.2.2 = 0 ∧ fitB x.1 x.2.1 x.2.2.2 (x.2.2.1.map (wdOf nodes)) = true := by
 unfold nodeC at h
 simp only [f1_0] at h
 obtain ⟨h1, h2, h3, h4, h5, h6⟩ := h
 refine ⟨?_, ?_, ?_, ?_, h5, ?_⟩
 ·split at h1
  ·assumption
  ·cases h1
 ·split at h2
  ·assumption
  ·cases h2
 ·split at h3
  ·assumption
  ·cases h3
 ·split at h4
  ·cases h4
  ·rename_i q; exact Bool.eq_false_iff.2 q
 ·split at h6
  ·assumption
  ·cases h6
theorem WOK_step {nodes : List Nd} {i : Nat} {x : Nd} {r : List Nd} (h : nodes.drop i = x :: r) (hw : wOK x.2.1 = true) (hW : WOK nodes i) : WOK nodes ((i + 1 : Nat) : Int) := by
 intro a h0 h1
 by_cases e : a = (i : Int)
 ·subst e
  have hl := (drop_step h).1
  rw [drop_cons hl] at h
  injection h with h2 h3
  unfold wdOf
  rw [Int.toNat_natCast, List.getElem?_eq_getElem hl, h2]
  exact hw
 ·exact hW a h0 (by omega)
theorem nodes_loop (N : Nat) (hN : 10 ≤ N) (k0 : Int → Int → List Int → List Nd → Option R) (k1 : List Int → List Nd → Option R) (leaves : List Int) (hl : leaves.length ≤ 1000000) (nodes : List Nd) (hn : nodes.length ≤ 1000000) (hA : ∀ x, x ∈ nodes → x.2.2.1.length ≤ 1000000 ∧ x.2.2.1.length < N) : ∀ (r : List Nd) (n i : Nat), nodes.drop i = r → r.length < n → WOK nodes i →
  ∃ j : Int, graph_each_Node_l0 N k0 k1 n nodes nodes.length i leaves nodes = if nodesC leaves nodes i r = 0 then k1 leaves nodes else k0 j (nodesC leaves nodes i r) leaves nodes
 | [], n, i, h, hn, hW => by
  obtain ⟨n, rfl⟩ := sc hn
  exact ⟨0, by rw [graph_each_Node_l0, cond_neg (drop_end h)]; rfl⟩
 | x :: r, n, i, h, hn, hW => by
  obtain ⟨n, rfl⟩ := sc hn
  obtain ⟨h1, h2, h3⟩ := drop_step h
  have hx : x ∈ nodes := List.mem_of_mem_drop (h ▸ List.mem_cons_self : x ∈ nodes.drop i)
  rw [graph_each_Node_l0, cond_pos (by omega), h2, some_bind', node_eq N hN leaves hl nodes ‹_› i (by omega) hW x.1 x.2.1 x.2.2.1 (hA x hx).1 (hA x hx).2, nodesC_cons]
  by_cases c : nodeC leaves nodes i x = 0
  ·obtain ⟨j, ih⟩ := nodes_loop N hN k0 k1 leaves hl nodes ‹_› hA r n (i + 1) h3 (by simp at hn; omega) (WOK_step h (nodeC_w c).2.1 hW)
   refine ⟨j, ?_⟩
   have c' : nodeC leaves nodes i (x.1, x.2.1, x.2.2.1, x.2.2.2) = 0 := c
   rw [cond_neg (by simp [c']), w64_suc (by omega), ih, c, f1_z]
  ·refine ⟨i, ?_⟩
   have c' : nodeC leaves nodes i (x.1, x.2.1, x.2.2.1, x.2.2.2) ≠ 0 := c
   rw [cond_pos c', f1_n c, if_neg c]
def chkC (leaves : List Int) (nodes : List Nd) : Int := if 40 < (leaves.length : Int) then 8 else if leaves.all wOK = true then (if 400 < (nodes.length : Int) then 8 else nodesC leaves nodes 0 nodes) else 2
theorem checkNodes (N : Nat) (hN : 1000 ≤ N) (leaves : List Int) (nodes : List Nd) (hA : ∀ x, x ∈ nodes → x.2.2.1.length ≤ 1000000 ∧ x.2.2.1.length < N) (k : Int → Int → Option R) : ∃ j : Int, graph_CheckNodes N leaves nodes k = k j (chkC leaves nodes) := by
 unfold graph_CheckNodes chkC
 by_cases c0 : 40 < (leaves.length : Int)
 ·exact ⟨0, by rw [cond_pos c0, if_pos c0]⟩
 ·rw [cond_neg c0, if_neg c0]
  obtain ⟨j, e⟩ := leaves_each N leaves (by omega) (by omega) (fun y1 y2 => bif decide (y2 ≠ 0) then k y1 y2 else bif decide (400 < ((nodes.length : Nat) : Int)) then k 0 8 else graph_operations N (graph_each_Node N nodes leaves nodes fun y3 y4 y5 y6 => k y3 y4))
  rw [e]
  by_cases c1 : leaves.all wOK = true
  ·rw [if_pos c1, if_pos c1]
   try dsimp only
   rw [cond_neg (by simp)]
   by_cases c2 : 400 < (nodes.length : Int)
   ·exact ⟨0, by rw [cond_pos c2, if_pos c2]⟩
   ·rw [cond_neg c2, if_neg c2]
    obtain ⟨j, e⟩ := nodes_loop N (by omega) (fun y3 y4 y5 y6 => k y3 y4) (fun z9 z10 => k 0 0) leaves (by omega) nodes (by omega) hA nodes N 0 rfl (by omega) (fun a h0 h1 => by omega)
    rw [Int.natCast_zero] at e
    refine ⟨if nodesC leaves nodes 0 nodes = 0 then 0 else j, ?_⟩
    show graph_each_Node_l0 N (fun y3 y4 y5 y6 => k y3 y4) (fun z9 z10 => k 0 0) N nodes nodes.length 0 leaves nodes = _
    rw [e]
    by_cases c : nodesC leaves nodes 0 nodes = 0
    ·rw [if_pos c, if_pos c, c]
    ·rw [if_neg c, if_neg c]
  ·refine ⟨j, ?_⟩
   rw [if_neg c1, if_neg c1]; rfl

def b2i (b : Bool) : Int := if b = true then 1 else 0
def apS (op wd v : Int) (w a : List Int) : Int :=
 if op = 0 then v else if op = 2 then p2 wd - 1 - w0 a 0 else if op = 3 then andI .i64 (w0 a 0) (w0 a 1) else if op = 4 then orI .i64 (w0 a 0) (w0 a 1) else if op = 5 then xorI .i64 (w0 a 0) (w0 a 1)
 else if op = 6 then (w0 a 0 + w0 a 1) % p2 wd else if op = 7 then (w0 a 0 - w0 a 1) % p2 wd else if op = 8 then (w0 a 0 * w0 a 1) % p2 wd else if op = 9 then b2i (decide (w0 a 0 = w0 a 1)) else if op = 10 then b2i (decide (w0 a 0 < w0 a 1))
 else if op = 11 then b2i (decide (sg (w0 w 0) (w0 a 0) < sg (w0 w 0) (w0 a 1))) else if op = 12 then (if w0 a 0 = 1 then w0 a 1 else w0 a 2) else if op = 13 then w0 a 0 * p2 (w0 w 1) + w0 a 1 else if op = 14 then w0 a 0 / p2 v % p2 wd
 else if op = 15 then w0 a 0 else if op = 16 then sg (w0 w 0) (w0 a 0) % p2 wd else if op = 17 then (if wd ≤ w0 a 1 then 0 else w0 a 0 * p2 (w0 a 1) % p2 wd) else (if wd ≤ w0 a 1 then 0 else w0 a 0 / p2 (w0 a 1))
theorem bv_nat {n : Nat} (h : n < 18446744073709551616) : (BitVec.ofInt 64 (n : Int)).toNat = n := by
 rw [toNat_mod64, Int.emod_eq_of_lt (by omega) (by omega)]; omega
theorem andI_nat {a b : Nat} (ha : a < 65536) (hb : b < 65536) : andI .i64 a b = ((a &&& b : Nat) : Int) := by
 have h : a &&& b < 2 ^ 16 := Nat.and_lt_two_pow a hb
 have e : (BitVec.ofInt 64 (a : Int) &&& BitVec.ofInt 64 (b : Int)).toNat = a &&& b := by rw [BitVec.toNat_and, bv_nat (by omega), bv_nat (by omega)]
 show IntKind.wrap .i64 (((BitVec.ofInt 64 (a : Int) &&& BitVec.ofInt 64 (b : Int)).toNat : Nat) : Int) = _
 rw [e]; exact w64_id (by omega) (by omega)
theorem orI_nat {a b : Nat} (ha : a < 65536) (hb : b < 65536) : orI .i64 a b = ((a ||| b : Nat) : Int) := by
 have h : a ||| b < 2 ^ 16 := Nat.or_lt_two_pow (n := 16) ha hb
 have e : (BitVec.ofInt 64 (a : Int) ||| BitVec.ofInt 64 (b : Int)).toNat = a ||| b := by rw [BitVec.toNat_or, bv_nat (by omega), bv_nat (by omega)]
 show IntKind.wrap .i64 (((BitVec.ofInt 64 (a : Int) ||| BitVec.ofInt 64 (b : Int)).toNat : Nat) : Int) = _
 rw [e]; exact w64_id (by omega) (by omega)
theorem xorI_nat {a b : Nat} (ha : a < 65536) (hb : b < 65536) : xorI .i64 a b = ((a ^^^ b : Nat) : Int) := by
 have h : a ^^^ b < 2 ^ 16 := Nat.xor_lt_two_pow (n := 16) ha hb
 have e : (BitVec.ofInt 64 (a : Int) ^^^ BitVec.ofInt 64 (b : Int)).toNat = a ^^^ b := by rw [BitVec.toNat_xor, bv_nat (by omega), bv_nat (by omega)]
 show IntKind.wrap .i64 (((BitVec.ofInt 64 (a : Int) ^^^ BitVec.ofInt 64 (b : Int)).toNat : Nat) : Int) = _
 rw [e]; exact w64_id (by omega) (by omega)
theorem notI_eq {a : Int} (h0 : 0 ≤ a) (h : a ≤ 65536) : notI .i64 a = -1 - a := by
 have e : (BitVec.ofInt 64 (-1) ^^^ BitVec.ofInt 64 a).toNat = 18446744073709551615 - a.toNat := by
  have : BitVec.ofInt 64 (-1) ^^^ BitVec.ofInt 64 a = ~~~ (BitVec.ofInt 64 a) := by
   rw [show BitVec.ofInt 64 (-1) = BitVec.allOnes 64 from rfl, BitVec.allOnes_xor]
  rw [this, BitVec.toNat_not, toNat_mod64, Int.emod_eq_of_lt (by omega) (by omega)]
 show IntKind.wrap .i64 (((BitVec.ofInt 64 (-1) ^^^ BitVec.ofInt 64 a).toNat : Nat) : Int) = _
 rw [e]
 show w64 _ = _
 have e2 : ((18446744073709551615 - a.toNat : Nat) : Int) = 18446744073709551616 + (-1 - a) := by omega
 rw [e2]
 have := w64_id (x := -1 - a) (by omega) (by omega)
 unfold w64 IntKind.wrap at this ⊢
 rw [show ((18446744073709551616 : Int) + (-1 - a)) % 2 ^ IntKind.bits .i64 = (-1 - a) % 2 ^ IntKind.bits .i64 from Int.add_emod_left _ _]
 exact this
theorem gmask (N : Nat) (n w : Int) (h0 : 0 ≤ w) (h : w ≤ 16) (k : Int → Option R) : graph_mask N n w k = k (n % p2 w) := by
 have := p2_pos w; have := p2_16 h
 unfold graph_mask
 rw [cond_neg (by omega), shl_p2 h0 (by omega), w64_id (by omega) (by omega), and_mask n w h0 h]
theorem vokI {w n : Int} (h : vok w n = true) : 0 ≤ n ∧ n ≤ p2 w - 1 := of_decide_eq_true h
theorem vokOf {w n : Int} (h : 0 ≤ n ∧ n ≤ p2 w - 1) : vok w n = true := decide_eq_true h
theorem vok16 {w n : Int} (hw : w ≤ 16) (h : vok w n = true) : 0 ≤ n ∧ n ≤ 65535 := by
 have := vokI h; have := p2_16 hw; omega
theorem vok_le {w w' n : Int} (h : vok w n = true) (hw : w ≤ w') : vok w' n = true := by
 have := vokI h; have := p2_le hw; exact vokOf (by omega)
theorem top_bit {w v : Int} (h1 : 1 ≤ w) (hv : vok w v = true) : v / p2 (w - 1) = if p2 (w - 1) ≤ v then 1 else 0 := by
 have := p2_half h1; have := p2_pos (w - 1)
 have hv := vokI hv
 split
 ·exact ((Int.ediv_emod_unique (r := v - p2 (w - 1)) (by omega)).2 ⟨by omega, by omega, by omega⟩).1
 ·exact Int.ediv_eq_zero_of_lt (by omega) (by omega)
theorem gsigned (N : Nat) {w v : Int} (h1 : 1 ≤ w) (h2 : w ≤ 16) (hv : vok w v = true) (k : Int → Option R) : graph_signed N v w k = k (sg w v) := by
 have := p2_pos w; have := p2_16 h2; have hr := vok16 h2 hv
 unfold graph_signed sg
 rw [w64_id (x := w - 1) (by omega) (by omega), cond_neg (by omega), shr_p2 v (by omega) (by omega), top_bit h1 hv]
 by_cases c : p2 (w - 1) ≤ v
 ·rw [if_pos c, if_pos c, cond_pos (show andI .i64 1 1 = 1 by decide +kernel), cond_neg (by omega), shl_p2 (by omega) (by omega), w64_id (by omega) (by omega)]
 ·rw [if_neg c, if_neg c, cond_neg (show ¬ andI .i64 0 1 = 1 by decide +kernel)]
theorem ats {a : List Int} {i : Nat} (h : i < a.length) : at? a (i : Int) = some (w0 a i) := at_w0 h
theorem b2i_ok (b : Bool) : vok 1 (b2i b) = true := by cases b <;> rfl
theorem gtruth (N : Nat) (b : Bool) (k : Int → Option R) : graph_truth N b k = k (b2i b) := by cases b <;> rfl
def VS (w a : List Int) : Prop := w.length = a.length ∧ ∀ i, i < w.length → (1 ≤ w0 w i ∧ w0 w i ≤ 16) ∧ vok (w0 w i) (w0 a i) = true
theorem vok_nat {w n : Int} (h : w ≤ 16) (hv : vok w n = true) : ∃ m : Nat, n = m ∧ m < 65536 ∧ m < 2 ^ w.toNat := by
 have h1 := vok16 h hv
 have h2 := vokI hv
 refine ⟨n.toNat, by omega, by omega, ?_⟩
 have : p2 w = ((2 ^ w.toNat : Nat) : Int) := by unfold p2; simp
 omega
theorem nat_vok {w : Int} {m : Nat} (h : m < 2 ^ w.toNat) : vok w (m : Int) = true := by
 have : p2 w = ((2 ^ w.toNat : Nat) : Int) := by unfold p2; simp
 exact vokOf (by omega)
theorem fit_all {wd : Int} {w : List Int} (h : (w.all fun x => decide (x = wd)) = true) {i : Nat} (hi : i < w.length) : w0 w i = wd := by
 have := List.all_eq_true.1 h _ (List.getElem_mem hi)
 unfold w0; rw [List.getElem?_eq_getElem hi]; simpa using this
theorem mul_bits {x y X Y : Int} (h1 : 0 ≤ x) (h2 : x ≤ X) (h3 : 0 ≤ y) (h4 : y ≤ Y) : 0 ≤ x * y ∧ x * y ≤ X * Y := ⟨Int.mul_nonneg h1 h3, Int.mul_le_mul h2 h4 h3 (by omega)⟩
theorem shl_gen {n : Int} (x : Int) (h0 : 0 ≤ n) (h : n ≤ 16) (hx : 0 ≤ x ∧ x ≤ 65536) : shl' .i64 x n = x * p2 n := by
 have := p2_16 h; have := p2_pos n
 have q := mul_bits hx.1 hx.2 (show 0 ≤ p2 n by omega) (show p2 n ≤ 65536 by omega)
 unfold shl'
 have e : min n.toNat (IntKind.bits .i64) = n.toNat := by
  have : IntKind.bits .i64 = 64 := rfl
  omega
 rw [e]
 exact w64_id (x := x * p2 n) (by omega) (by omega)
theorem join_or {x y w : Int} (h0 : 0 ≤ w) (hw : w ≤ 16) (hx : 0 ≤ x) (hxy : x * p2 w ≤ 65535) (hy : vok w y = true) : orI .i64 (x * p2 w) y = x * p2 w + y := by
 obtain ⟨m, rfl, hm, hm2⟩ := vok_nat hw hy
 obtain ⟨z, rfl⟩ : ∃ z : Nat, x = z := ⟨x.toNat, by omega⟩
 have e : p2 w = ((2 ^ w.toNat : Nat) : Int) := by unfold p2; simp
 rw [e, ← Int.natCast_mul] at hxy ⊢
 rw [orI_nat (by omega) hm, Nat.mul_comm, ← Nat.two_pow_add_eq_or_of_lt hm2, Int.natCast_add]
theorem ap_eq (N : Nat) {op wd v : Int} {w a : List Int} (h0 : 0 ≤ op ∧ op ≤ 18) (h1 : op ≠ 1) (hw : wOK wd = true) (hl : (w.length : Int) = argN op) (hv : valueC [] op wd v = 0) (hf : fitB op wd v w = true) (hs : VS w a) : vok wd (apS op wd v w a) = true := by
 have hwd := of_decide_eq_true hw
 have hP := p2_pos wd
 have hop : op = 18 ∨ op = 17 ∨ op = 16 ∨ op = 15 ∨ op = 14 ∨ op = 13 ∨ op = 12 ∨ op = 11 ∨ op = 10 ∨ op = 9 ∨ op = 8 ∨ op = 7 ∨ op = 6 ∨ op = 5 ∨ op = 4 ∨ op = 3 ∨ op = 2 ∨ op = 0 := by omega
 rcases hop with rfl | rfl | rfl | rfl | rfl | rfl | rfl | rfl | rfl | rfl | rfl | rfl | rfl | rfl | rfl | rfl | rfl | rfl
 ·have hl : (w.length : Int) = 2 := hl
  have hf : w0 w 0 = wd := of_decide_eq_true hf
  have h := (hs.2 0 (by omega)).2
  have h' := vokI (hs.2 1 (by omega)).2
  rw [hf] at h
  have hr := vokI h
  show vok wd (if wd ≤ w0 a 1 then 0 else w0 a 0 / p2 (w0 a 1)) = true
  split
  ·exact vokOf (by omega)
  ·have := p2_pos (w0 a 1)
   have e1 := Int.ediv_nonneg hr.1 (show 0 ≤ p2 (w0 a 1) by omega)
   have e2 := Int.ediv_le_self (p2 (w0 a 1)) hr.1
   exact vokOf (by omega)
 ·show vok wd (if wd ≤ w0 a 1 then 0 else w0 a 0 * p2 (w0 a 1) % p2 wd) = true
  split
  ·exact vokOf (by omega)
  ·exact vok_mod _
 ·exact vok_mod _
 ·have hl : (w.length : Int) = 1 := hl
  have hf : w0 w 0 ≤ wd := of_decide_eq_true hf
  exact vok_le (hs.2 0 (by omega)).2 hf
 ·exact vok_mod _
 ·have hl : (w.length : Int) = 2 := hl
  have hf : w0 w 0 + w0 w 1 = wd := of_decide_eq_true hf
  have a0 := vokI (hs.2 0 (by omega)).2; have a1 := vokI (hs.2 1 (by omega)).2
  have b0 := (hs.2 0 (by omega)).1; have b1 := (hs.2 1 (by omega)).1
  have hp := p2_add (a := w0 w 0) (b := w0 w 1) (by omega) (by omega)
  have q1 := p2_pos (w0 w 1)
  show vok wd (w0 a 0 * p2 (w0 w 1) + w0 a 1) = true
  have e := Int.mul_le_mul_of_nonneg_right a0.2 (show 0 ≤ p2 (w0 w 1) by omega)
  rw [Int.sub_mul, Int.one_mul] at e
  have e2 := Int.mul_nonneg a0.1 (show 0 ≤ p2 (w0 w 1) by omega)
  rw [hf] at hp
  exact vokOf (by omega)
 ·have hl : (w.length : Int) = 3 := hl
  have hf : w0 w 0 = 1 ∧ w0 w 1 = wd ∧ w0 w 2 = wd := of_decide_eq_true hf
  have h1 := (hs.2 1 (by omega)).2; have h2 := (hs.2 2 (by omega)).2
  rw [hf.2.1] at h1
  rw [hf.2.2] at h2
  show vok wd (if w0 a 0 = 1 then w0 a 1 else w0 a 2) = true
  split <;> assumption
 ·have hf : wd = 1 ∧ _ := of_decide_eq_true hf
  rw [hf.1]; exact b2i_ok _
 ·have hf : wd = 1 ∧ _ := of_decide_eq_true hf
  rw [hf.1]; exact b2i_ok _
 ·have hf : wd = 1 ∧ _ := of_decide_eq_true hf
  rw [hf.1]; exact b2i_ok _
 ·exact vok_mod _
 ·exact vok_mod _
 ·exact vok_mod _
 ·have hl : (w.length : Int) = 2 := hl
  have e0 := fit_all hf (i := 0) (by omega); have e1 := fit_all hf (i := 1) (by omega)
  obtain ⟨x, hx, x1, x2⟩ := vok_nat (by omega) (e0 ▸ (hs.2 0 (by omega)).2)
  obtain ⟨y, hy, y1, y2⟩ := vok_nat (by omega) (e1 ▸ (hs.2 1 (by omega)).2)
  show vok wd (xorI .i64 (w0 a 0) (w0 a 1)) = true
  rw [hx, hy, xorI_nat x1 y1]; exact nat_vok (Nat.xor_lt_two_pow x2 y2)
 ·have hl : (w.length : Int) = 2 := hl
  have e0 := fit_all hf (i := 0) (by omega); have e1 := fit_all hf (i := 1) (by omega)
  obtain ⟨x, hx, x1, x2⟩ := vok_nat (by omega) (e0 ▸ (hs.2 0 (by omega)).2)
  obtain ⟨y, hy, y1, y2⟩ := vok_nat (by omega) (e1 ▸ (hs.2 1 (by omega)).2)
  show vok wd (orI .i64 (w0 a 0) (w0 a 1)) = true
  rw [hx, hy, orI_nat x1 y1]; exact nat_vok (Nat.or_lt_two_pow x2 y2)
 ·have hl : (w.length : Int) = 2 := hl
  have e0 := fit_all hf (i := 0) (by omega); have e1 := fit_all hf (i := 1) (by omega)
  obtain ⟨x, hx, x1, x2⟩ := vok_nat (by omega) (e0 ▸ (hs.2 0 (by omega)).2)
  obtain ⟨y, hy, y1, y2⟩ := vok_nat (by omega) (e1 ▸ (hs.2 1 (by omega)).2)
  show vok wd (andI .i64 (w0 a 0) (w0 a 1)) = true
  rw [hx, hy, andI_nat x1 y1]; exact nat_vok (Nat.and_lt_two_pow _ y2)
 ·have hl : (w.length : Int) = 1 := hl
  have e0 := fit_all hf (i := 0) (by omega)
  have h := vokI (e0 ▸ (hs.2 0 (by omega)).2)
  show vok wd (p2 wd - 1 - w0 a 0) = true
  exact vokOf (by omega)
 ·have hv : (if vok wd v = true then (0 : Int) else 2) = 0 := hv
  show vok wd v = true
  split at hv
  ·assumption
  ·cases hv

theorem applied_loop (N : Nat) (k0 : Int → Int → List Int → Int → List Int → List Int → Option R) (nodes : List Nd) (vals args : List Int) (ha : args.length ≤ 3) (m : Int) (hm : m ≤ nodes.length) (hv : m ≤ vals.length) (op wd : Int) (ys : List Int) (v : Int) : ∀ (r : List Int) (n i : Nat) (w a : List Int), args.drop i = r → r.length < n → w.length ≤ i → a.length ≤ i → oddA m r = false →
  graph_applied_l0 N k0 n nodes vals args args.length i op wd ys v w a = k0 op wd ys v (w ++ r.map (wdOf nodes)) (a ++ r.map fun x => w0 vals x.toNat)
 | [], n, i, w, a, h, hn, hw, ha', ho => by
  obtain ⟨n, rfl⟩ := sc hn
  rw [graph_applied_l0, cond_neg (drop_end h), List.map_nil, List.append_nil, List.map_nil, List.append_nil]
 | x :: r, n, i, w, a, h, hn, hw, ha', ho => by
  obtain ⟨n, rfl⟩ := sc hn
  obtain ⟨h1, h2, h3⟩ := drop_step h
  unfold oddA at ho
  rw [List.any_cons, Bool.or_eq_false_iff] at ho
  have hx : 0 ≤ x ∧ x ≤ m - 1 := by simpa using ho.1
  obtain ⟨b, rfl⟩ : ∃ b : Nat, x = b := ⟨x.toNat, by omega⟩
  have hb1 : b < nodes.length := by omega
  have hb2 : b < vals.length := by omega
  have ih := applied_loop N k0 nodes vals args ha m hm hv op wd ys v r n (i + 1) (w ++ [nodes[b].2.1]) (a ++ [w0 vals b]) h3 (by simp at hn; omega) (by simp; omega) (by simp; omega) ho.2
  rw [graph_applied_l0, cond_pos (by omega), h2, some_bind', at?_lt hb1, some_bind', roomB_of (by omega), cond_true, at_w0 hb2, some_bind', roomB_of (by omega), cond_true, w64_suc (by omega), ih, List.map_cons, List.map_cons, List.append_assoc, List.append_assoc]
  unfold wdOf
  rw [Int.toNat_natCast, List.getElem?_eq_getElem hb1]
  rfl
theorem argN_3 (op : Int) : argN op ≤ 3 := by
 unfold argN
 split
 ·omega
 ·split
  ·omega
  ·split <;> omega
theorem applied_eq (N : Nat) (hN : 10 ≤ N) (nodes : List Nd) (vals : List Int) (m : Int) (hm : m ≤ nodes.length) (hvl : m ≤ vals.length) {op wd v : Int} {args : List Int} (h0 : 0 ≤ op ∧ op ≤ 18) (h1 : op ≠ 1) (hw : wOK wd = true) (hl : (args.length : Int) = argN op) (ho : oddA m args = false) (hv : valueC [] op wd v = 0)
  (hf : fitB op wd v (args.map (wdOf nodes)) = true) (hs : VS (args.map (wdOf nodes)) (args.map fun x => w0 vals x.toNat)) (k : Int → Option R) :
  graph_applied N nodes op wd args v vals k = k (apS op wd v (args.map (wdOf nodes)) (args.map fun x => w0 vals x.toNat)) := by
 have hwd := of_decide_eq_true hw
 have hP := p2_pos wd; have hP2 := p2_16 hwd.2
 have h3 := argN_3 op
 unfold graph_applied
 refine (applied_loop N _ nodes vals args (by omega) m hm hvl op wd args v args N 0 [] [] rfl (by omega) (by simp) (by simp) ho).trans ?_
 rw [List.nil_append, List.nil_append]
 have hlw : ((args.map (wdOf nodes)).length : Int) = argN op := by rw [List.length_map]; exact hl
 generalize args.map (wdOf nodes) = w at *
 generalize (args.map fun x => w0 vals x.toNat) = a at *
 have hla : a.length = w.length := hs.1.symm
 have hop : op = 18 ∨ op = 17 ∨ op = 16 ∨ op = 15 ∨ op = 14 ∨ op = 13 ∨ op = 12 ∨ op = 11 ∨ op = 10 ∨ op = 9 ∨ op = 8 ∨ op = 7 ∨ op = 6 ∨ op = 5 ∨ op = 4 ∨ op = 3 ∨ op = 2 ∨ op = 0 := by omega
 rcases hop with rfl | rfl | rfl | rfl | rfl | rfl | rfl | rfl | rfl | rfl | rfl | rfl | rfl | rfl | rfl | rfl | rfl | rfl
 all_goals simp only [Int.reduceEq, decide_true, decide_false, cond_true, cond_false]
 ·have hlw : (w.length : Int) = 2 := hlw
  have hf : w0 w 0 = wd := of_decide_eq_true hf
  have r0 := vokI (hf ▸ (hs.2 0 (by omega)).2); have r1 := vok16 ((hs.2 1 (by omega)).1).2 (hs.2 1 (by omega)).2
  unfold graph_operations_c21
  rw [show at? a 0 = _ from ats (i := 0) (by omega), show at? a 1 = _ from ats (i := 1) (by omega), some_bind', some_bind', cond_neg (by omega), shr_p2 _ (by omega) (by omega)]
  show _ = k (if wd ≤ w0 a 1 then 0 else w0 a 0 / p2 (w0 a 1))
  by_cases c : wd ≤ w0 a 1
  ·rw [if_pos c, Int.min_eq_right c, Int.ediv_eq_zero_of_lt (by omega) (by omega)]
  ·rw [if_neg c, Int.min_eq_left (by omega)]
 ·have hlw : (w.length : Int) = 2 := hlw
  have hf : w0 w 0 = wd := of_decide_eq_true hf
  have r0 := vok16 hwd.2 (hf ▸ (hs.2 0 (by omega)).2); have r1 := vok16 ((hs.2 1 (by omega)).1).2 (hs.2 1 (by omega)).2
  unfold graph_operations_c20
  rw [show at? a 0 = _ from ats (i := 0) (by omega), show at? a 1 = _ from ats (i := 1) (by omega), some_bind', some_bind', cond_neg (by omega), shl_gen _ (by omega) (by omega) (by omega), gmask N _ wd (by omega) (by omega)]
  show _ = k (if wd ≤ w0 a 1 then 0 else w0 a 0 * p2 (w0 a 1) % p2 wd)
  by_cases c : wd ≤ w0 a 1
  ·rw [if_pos c, Int.min_eq_right c, Int.mul_emod_left]
  ·rw [if_neg c, Int.min_eq_left (by omega)]
 ·have hlw : (w.length : Int) = 1 := hlw
  have r0 := hs.2 0 (by omega)
  unfold graph_operations_c19
  rw [show at? a 0 = _ from ats (i := 0) (by omega), some_bind', show at? w 0 = _ from ats (i := 0) (by omega), some_bind', gsigned N r0.1.1 r0.1.2 r0.2, gmask N _ wd (by omega) (by omega)]
  rfl
 ·have hlw : (w.length : Int) = 1 := hlw
  unfold graph_operations_c18
  rw [show at? a 0 = _ from ats (i := 0) (by omega), some_bind']
  rfl
 ·have hlw : (w.length : Int) = 1 := hlw
  have hv : (if 0 ≤ v ∧ v ≤ 15 then (0 : Int) else 2) = 0 := hv
  have hv : 0 ≤ v ∧ v ≤ 15 := by
   split at hv
   ·assumption
   ·cases hv
  unfold graph_operations_c17
  rw [show at? a 0 = _ from ats (i := 0) (by omega), some_bind', cond_neg (by omega), shr_p2 _ (by omega) (by omega), gmask N _ wd (by omega) (by omega)]
  rfl
 ·have hlw : (w.length : Int) = 2 := hlw
  have hf : w0 w 0 + w0 w 1 = wd := of_decide_eq_true hf
  have r0 := hs.2 0 (by omega); have r1 := hs.2 1 (by omega)
  have s0 := vok16 r0.1.2 r0.2
  have hp := p2_add (a := w0 w 0) (b := w0 w 1) (by omega) (by omega)
  rw [hf] at hp
  have q1 := p2_pos (w0 w 1)
  have e := Int.mul_le_mul_of_nonneg_right (vokI r0.2).2 (show 0 ≤ p2 (w0 w 1) by omega)
  rw [Int.sub_mul, Int.one_mul] at e
  unfold graph_operations_c15
  rw [show at? a 0 = _ from ats (i := 0) (by omega), show at? a 1 = _ from ats (i := 1) (by omega), some_bind', show at? w 1 = _ from ats (i := 1) (by omega), some_bind', cond_neg (by omega), some_bind', shl_gen _ (by omega) (by omega) (by omega), join_or (by omega) (by omega) s0.1 (by omega) r1.2]
  rfl
 ·have hlw : (w.length : Int) = 3 := hlw
  unfold graph_operations_c13
  rw [show at? a 0 = _ from ats (i := 0) (by omega), show at? a 1 = _ from ats (i := 1) (by omega), show at? a 2 = _ from ats (i := 2) (by omega), some_bind', some_bind', some_bind']
  show _ = k (if w0 a 0 = 1 then w0 a 1 else w0 a 2)
  by_cases c : w0 a 0 = 1
  ·rw [cond_pos c, if_pos c]
  ·rw [cond_neg c, if_neg c]
 ·have hlw : (w.length : Int) = 2 := hlw
  have hf : wd = 1 ∧ w0 w 0 = w0 w 1 := of_decide_eq_true hf
  have r0 := hs.2 0 (by omega); have r1 := hs.2 1 (by omega)
  unfold graph_relation_c1_operations_c11 graph_operations_c11
  rw [show at? a 0 = _ from ats (i := 0) (by omega), show at? a 1 = _ from ats (i := 1) (by omega), some_bind', some_bind', show at? w 0 = _ from ats (i := 0) (by omega), some_bind', gsigned N r0.1.1 r0.1.2 r0.2, gsigned N r0.1.1 r0.1.2 (hf.2 ▸ r1.2)]
  exact gtruth N _ k
 ·have hlw : (w.length : Int) = 2 := hlw
  unfold graph_relation_c1_operations_c10 graph_operations_c10
  rw [show at? a 0 = _ from ats (i := 0) (by omega), show at? a 1 = _ from ats (i := 1) (by omega), some_bind', some_bind', show at? w 0 = _ from ats (i := 0) (by omega), some_bind']
  exact gtruth N _ k
 ·have hlw : (w.length : Int) = 2 := hlw
  unfold graph_relation_c1_operations_c9 graph_operations_c9
  rw [show at? a 0 = _ from ats (i := 0) (by omega), show at? a 1 = _ from ats (i := 1) (by omega), some_bind', some_bind', show at? w 0 = _ from ats (i := 0) (by omega), some_bind']
  exact gtruth N _ k
 all_goals
  first
   | have hlw : (w.length : Int) = 2 := hlw
   | have hlw : (w.length : Int) = 1 := hlw
   | have hlw : (w.length : Int) = 0 := hlw
 ·have e0 := fit_all hf (i := 0) (by omega); have e1 := fit_all hf (i := 1) (by omega)
  have r0 := vok16 hwd.2 (e0 ▸ (hs.2 0 (by omega)).2); have r1 := vok16 hwd.2 (e1 ▸ (hs.2 1 (by omega)).2)
  have q := mul_bits r0.1 r0.2 r1.1 r1.2
  unfold graph_binary_c1_operations_c8 graph_operations_c8
  rw [show at? a 0 = _ from ats (i := 0) (by omega), show at? a 1 = _ from ats (i := 1) (by omega), some_bind', some_bind', w64_id (by omega) (by omega)]
  exact gmask N _ wd (by omega) (by omega) k
 ·have e0 := fit_all hf (i := 0) (by omega); have e1 := fit_all hf (i := 1) (by omega)
  have r0 := vok16 hwd.2 (e0 ▸ (hs.2 0 (by omega)).2); have r1 := vok16 hwd.2 (e1 ▸ (hs.2 1 (by omega)).2)
  unfold graph_binary_c1_operations_c7 graph_operations_c7
  rw [show at? a 0 = _ from ats (i := 0) (by omega), show at? a 1 = _ from ats (i := 1) (by omega), some_bind', some_bind', w64_id (by omega) (by omega)]
  exact gmask N _ wd (by omega) (by omega) k
 ·have e0 := fit_all hf (i := 0) (by omega); have e1 := fit_all hf (i := 1) (by omega)
  have r0 := vok16 hwd.2 (e0 ▸ (hs.2 0 (by omega)).2); have r1 := vok16 hwd.2 (e1 ▸ (hs.2 1 (by omega)).2)
  unfold graph_binary_c1_operations_c6 graph_operations_c6
  rw [show at? a 0 = _ from ats (i := 0) (by omega), show at? a 1 = _ from ats (i := 1) (by omega), some_bind', some_bind', w64_id (by omega) (by omega)]
  exact gmask N _ wd (by omega) (by omega) k
 ·have e0 := fit_all hf (i := 0) (by omega); have e1 := fit_all hf (i := 1) (by omega)
  obtain ⟨x, hx, x1, x2⟩ := vok_nat (by omega) (e0 ▸ (hs.2 0 (by omega)).2)
  obtain ⟨y, hy, y1, y2⟩ := vok_nat (by omega) (e1 ▸ (hs.2 1 (by omega)).2)
  unfold graph_binary_c1_operations_c5 graph_operations_c5
  rw [show at? a 0 = _ from ats (i := 0) (by omega), show at? a 1 = _ from ats (i := 1) (by omega), some_bind', some_bind']
  show graph_mask N _ wd k = k (xorI .i64 (w0 a 0) (w0 a 1))
  have q := vokI (w := wd) (nat_vok (Nat.xor_lt_two_pow x2 y2))
  rw [gmask N _ wd (by omega) (by omega), hx, hy, xorI_nat x1 y1, Int.emod_eq_of_lt q.1 (by omega)]
 ·have e0 := fit_all hf (i := 0) (by omega); have e1 := fit_all hf (i := 1) (by omega)
  obtain ⟨x, hx, x1, x2⟩ := vok_nat (by omega) (e0 ▸ (hs.2 0 (by omega)).2)
  obtain ⟨y, hy, y1, y2⟩ := vok_nat (by omega) (e1 ▸ (hs.2 1 (by omega)).2)
  unfold graph_binary_c1_operations_c4 graph_operations_c4
  rw [show at? a 0 = _ from ats (i := 0) (by omega), show at? a 1 = _ from ats (i := 1) (by omega), some_bind', some_bind']
  show graph_mask N _ wd k = k (orI .i64 (w0 a 0) (w0 a 1))
  have q := vokI (w := wd) (nat_vok (Nat.or_lt_two_pow x2 y2))
  rw [gmask N _ wd (by omega) (by omega), hx, hy, orI_nat x1 y1, Int.emod_eq_of_lt q.1 (by omega)]
 ·have e0 := fit_all hf (i := 0) (by omega); have e1 := fit_all hf (i := 1) (by omega)
  obtain ⟨x, hx, x1, x2⟩ := vok_nat (by omega) (e0 ▸ (hs.2 0 (by omega)).2)
  obtain ⟨y, hy, y1, y2⟩ := vok_nat (by omega) (e1 ▸ (hs.2 1 (by omega)).2)
  unfold graph_binary_c1_operations_c3 graph_operations_c3
  rw [show at? a 0 = _ from ats (i := 0) (by omega), show at? a 1 = _ from ats (i := 1) (by omega), some_bind', some_bind']
  show graph_mask N _ wd k = k (andI .i64 (w0 a 0) (w0 a 1))
  have q := vokI (w := wd) (nat_vok (Nat.and_lt_two_pow x y2))
  rw [gmask N _ wd (by omega) (by omega), hx, hy, andI_nat x1 y1, Int.emod_eq_of_lt q.1 (by omega)]
 ·have e0 := fit_all hf (i := 0) (by omega)
  have r0 := vokI (e0 ▸ (hs.2 0 (by omega)).2)
  unfold graph_operations_c2
  rw [show at? a 0 = _ from ats (i := 0) (by omega), some_bind', gmask N _ wd (by omega) (by omega), notI_eq r0.1 (by omega)]
  show k _ = k (p2 wd - 1 - w0 a 0)
  congr 1
  exact ((Int.ediv_emod_unique (q := -1) (r := p2 wd - 1 - w0 a 0) (by omega)).2 ⟨by omega, by omega, by omega⟩).2
 ·rfl

def nv1 (lv : List Int) (nodes : List Nd) (acc : List Int) (x : Nd) : Int := if x.1 = 1 then w0 lv x.2.2.2.toNat else apS x.1 x.2.1 x.2.2.2 (x.2.2.1.map (wdOf nodes)) (x.2.2.1.map fun a => w0 acc a.toNat)
def nvG (lv : List Int) (nodes : List Nd) : List Nd → List Int → List Int
 | [], acc => acc
 | x :: r, acc => nvG lv nodes r (acc ++ [nv1 lv nodes acc x])
theorem nvG_cons (lv : List Int) (nodes : List Nd) (x : Nd) (r : List Nd) (acc : List Int) : nvG lv nodes (x :: r) acc = nvG lv nodes r (acc ++ [nv1 lv nodes acc x]) := rfl
def LV (lw lv : List Int) : Prop := lv.length = lw.length ∧ ∀ i, i < lw.length → vok (w0 lw i) (w0 lv i) = true
theorem w0_at {l : List Int} {i : Nat} (h : i < l.length) : w0 l i = l[i] := by unfold w0; rw [List.getElem?_eq_getElem h]; rfl
theorem w0_map {α : Type} {l : List α} {f : α → Int} {i : Nat} (h : i < l.length) : w0 (l.map f) i = f l[i] := by rw [w0_at (by simpa using h), List.getElem_map]
theorem w0_app {l : List Int} {x : Int} {i : Nat} (h : i < l.length) : w0 (l ++ [x]) i = w0 l i := by unfold w0; rw [List.getElem?_append_left h]
theorem w0_last (l : List Int) (x : Int) : w0 (l ++ [x]) l.length = x := by unfold w0; rw [List.getElem?_append_right (by omega)]; simp
theorem valueC_ne {lw : List Int} {op wd v : Int} (h : op ≠ 1) : valueC [] op wd v = valueC lw op wd v := by
 unfold valueC; rw [if_neg h, if_neg h]
structure VI (lw : List Int) (nodes : List Nd) (i : Nat) (acc : List Int) : Prop where
 len : acc.length = i
 wok : WOK nodes i
 fit : ∀ j, j < i → vok (wdOf nodes j) (w0 acc j) = true
theorem VI_args {lw : List Int} {nodes : List Nd} {i : Nat} {acc args : List Int} (h : VI lw nodes i acc) (ho : oddA i args = false) : VS (args.map (wdOf nodes)) (args.map fun x => w0 acc x.toNat) := by
 refine ⟨by simp, fun j hj => ?_⟩
 have hj : j < args.length := by simpa using hj
 rw [w0_map hj, w0_map hj]
 have := List.any_eq_false.1 ho _ (List.getElem_mem hj)
 have hx : 0 ≤ args[j] ∧ args[j] ≤ (i : Int) - 1 := by simpa using this
 refine ⟨of_decide_eq_true (h.wok _ hx.1 hx.2), ?_⟩
 have := h.fit args[j].toNat (by omega)
 rwa [show ((args[j].toNat : Nat) : Int) = args[j] by omega] at this
theorem wdOf_at {nodes : List Nd} {x : Nd} {r : List Nd} {i : Nat} (h : nodes.drop i = x :: r) : wdOf nodes i = x.2.1 := by
 have hl := (drop_step h).1
 rw [drop_cons hl] at h
 injection h with h2 _
 unfold wdOf
 rw [Int.toNat_natCast, List.getElem?_eq_getElem hl, h2]
 rfl
theorem nv1_fit {lw lv : List Int} {nodes : List Nd} {i : Nat} {acc : List Int} (hL : LV lw lv) (h : VI lw nodes i acc) {x : Nd} (hc : nodeC lw nodes i x = 0) : vok x.2.1 (nv1 lv nodes acc x) = true := by
 obtain ⟨h1, h2, h3, h4, h5, h6⟩ := nodeC_w hc
 unfold nv1
 by_cases c : x.1 = 1
 ·rw [if_pos c]
  rw [c] at h5
  have h5 : (if 0 ≤ x.2.2.2 ∧ x.2.2.2 ≤ (lw.length : Int) - 1 then (if lw[x.2.2.2.toNat]? = some x.2.1 then (0 : Int) else 25) else 6) = 0 := h5
  split at h5
  ·rename_i hb
   split at h5
   ·rename_i he
    have := hL.2 x.2.2.2.toNat (by omega)
    unfold w0 at this ⊢
    rw [he] at this
    exact this
   ·cases h5
  ·cases h5
 ·rw [if_neg c]
  exact ap_eq 10 h1 c h2 (by rw [List.length_map]; exact h3) ((valueC_ne c).trans h5) h6 (VI_args h h4)
theorem VI_step {lw lv : List Int} {nodes : List Nd} {i : Nat} {acc : List Int} (hL : LV lw lv) (h : VI lw nodes i acc) {x : Nd} {r : List Nd} (hd : nodes.drop i = x :: r) (hc : nodeC lw nodes i x = 0) : VI lw nodes (i + 1) (acc ++ [nv1 lv nodes acc x]) := by
 refine ⟨by simp [h.len], WOK_step hd (nodeC_w hc).2.1 h.wok, fun j hj => ?_⟩
 by_cases e : j = i
 ·subst e
  rw [wdOf_at hd, ← h.len, w0_last]
  exact nv1_fit hL h hc
 ·rw [w0_app (by rw [h.len]; omega)]
  exact h.fit j (by omega)
theorem nvG_VI {lw lv : List Int} {nodes : List Nd} (hL : LV lw lv) : ∀ (r : List Nd) (i : Nat) (acc : List Int), i ≤ nodes.length → nodes.drop i = r → VI lw nodes i acc → nodesC lw nodes i r = 0 → VI lw nodes nodes.length (nvG lv nodes r acc)
 | [], i, acc, hi, hd, h, hc => by
  have h1 := List.drop_eq_nil_iff.1 hd
  have e : i = nodes.length := by omega
  unfold nvG
  rw [← e]; exact h
 | x :: r, i, acc, hi, hd, h, hc => by
  rw [nodesC_cons, f1_0] at hc
  rw [nvG_cons]
  exact nvG_VI hL r (i + 1) _ (drop_step hd).1 (drop_step hd).2.2 (VI_step hL h hd hc.1) hc.2
theorem VI_0 (lw : List Int) (nodes : List Nd) : VI lw nodes 0 [] := ⟨rfl, fun a h0 h1 => by omega, fun j hj => by omega⟩
theorem valued_loop (N : Nat) (hN : 10 ≤ N) (k : List Int → Option R) (lw lv : List Int) (hL : LV lw lv) (nodes : List Nd) (hn : nodes.length ≤ 1000000) : ∀ (r : List Nd) (n i : Nat) (acc : List Int), nodes.drop i = r → r.length < n → VI lw nodes i acc → nodesC lw nodes i r = 0 →
  graph_valued_l0 N k n nodes lv nodes nodes.length i acc = k (nvG lv nodes r acc)
 | [], n, i, acc, h, hn, hv, hc => by
  obtain ⟨n, rfl⟩ := sc hn
  rw [graph_valued_l0, cond_neg (drop_end h)]; rfl
 | x :: r, n, i, acc, h, hn, hv, hc => by
  obtain ⟨n, rfl⟩ := sc hn
  obtain ⟨h1, h2, h3⟩ := drop_step h
  rw [nodesC_cons, f1_0] at hc
  obtain ⟨q1, q2, q3, q4, q5, q6⟩ := nodeC_w hc.1
  have hl := hv.len
  have ih := valued_loop N hN k lw lv hL nodes ‹_› r n (i + 1) (acc ++ [nv1 lv nodes acc x]) h3 (by simp at hn; omega) (VI_step hL hv h hc.1) hc.2
  rw [graph_valued_l0, cond_pos (by omega), h2, some_bind', nvG_cons, w64_suc (by omega)]
  by_cases c : x.1 = 1
  ·rw [c] at q5
   have q5 : (if 0 ≤ x.2.2.2 ∧ x.2.2.2 ≤ (lw.length : Int) - 1 then (if lw[x.2.2.2.toNat]? = some x.2.1 then (0 : Int) else 25) else 6) = 0 := q5
   have hb : 0 ≤ x.2.2.2 ∧ x.2.2.2 ≤ (lw.length : Int) - 1 := by
    split at q5
    ·assumption
    ·cases q5
   have hlv := hL.1
   rw [cond_pos c, show x.2.2.2 = ((x.2.2.2.toNat : Nat) : Int) by omega, at_w0 (by omega), some_bind', roomB_of (by omega), cond_true, ← ih]
   unfold nv1
   rw [if_pos c]
  ·rw [cond_neg c, applied_eq N hN nodes acc i (by omega) (by omega) q1 c q2 q3 q4 ((valueC_ne c).trans q5) q6 (VI_args hv q4), roomB_of (by omega), cond_true, ← ih]
   unfold nv1
   rw [if_neg c]
theorem valued_eq (N : Nat) (hN : 10 ≤ N) (k : List Int → Option R) {lw lv : List Int} (hL : LV lw lv) {nodes : List Nd} (hn : nodes.length ≤ 1000000) (hnN : nodes.length < N) (hc : nodesC lw nodes 0 nodes = 0) : graph_valued N nodes lv k = k (nvG lv nodes nodes []) :=
 valued_loop N hN k lw lv hL nodes hn nodes N 0 [] rfl hnN (VI_0 lw nodes) hc
theorem nvG_ok {lw lv : List Int} (hL : LV lw lv) {nodes : List Nd} (hc : nodesC lw nodes 0 nodes = 0) : (nvG lv nodes nodes []).length = nodes.length ∧ ∀ j, j < nodes.length → vok (wdOf nodes j) (w0 (nvG lv nodes nodes []) j) = true :=
 have h := nvG_VI hL nodes 0 [] (Nat.zero_le _) rfl (VI_0 lw nodes) hc
 ⟨h.len, h.fit⟩
theorem vals_loop (N : Nat) (k0 : Int → Int → List Int → Option R) (k1 : List Int → Option R) (lw lv : List Int) (hw : lw.all wOK = true) (hL : LV lw lv) (hl : lw.length ≤ 1000000) : ∀ (r : List Int) (n i : Nat), lv.drop i = r → r.length < n → graph_each_int_ValuesOf_c1_l0 N k0 k1 n lv lv.length i lw = k1 lw
 | [], n, i, h, hn => by
  obtain ⟨n, rfl⟩ := sc hn
  rw [graph_each_int_ValuesOf_c1_l0, cond_neg (drop_end h)]
 | x :: r, n, i, h, hn => by
  obtain ⟨n, rfl⟩ := sc hn
  obtain ⟨h1, h2, h3⟩ := drop_step h
  have hlv := hL.1
  have hi : i < lw.length := by omega
  have hwi := of_decide_eq_true (List.all_eq_true.1 hw _ (List.getElem_mem hi))
  have hx : w0 lv i = x := by
   rw [drop_cons h1] at h
   injection h with h _
   rw [w0_at h1, h]
  have hv := hL.2 i hi
  rw [hx, w0_at hi] at hv
  rw [graph_each_int_ValuesOf_c1_l0, cond_pos (by omega), h2, some_bind']
  unfold graph_ValuesOf_c1
  rw [at?_lt hi, some_bind', gfits N x _ hwi.1 hwi.2, hv, gunless, if_pos rfl]
  try dsimp only
  rw [cond_neg (by simp), w64_suc (by omega)]
  exact vals_loop N k0 k1 lw lv hw hL hl r n (i + 1) h3 (by simp at hn; omega)
theorem chkC_0 {lw : List Int} {nodes : List Nd} (h : chkC lw nodes = 0) : lw.length ≤ 40 ∧ lw.all wOK = true ∧ nodes.length ≤ 400 ∧ nodesC lw nodes 0 nodes = 0 := by
 unfold chkC at h
 split at h
 ·cases h
 ·split at h
  ·split at h
   ·cases h
   ·exact ⟨by omega, by assumption, by omega, h⟩
  ·cases h
theorem valuesOf_ok (N : Nat) (hN : 1000 ≤ N) {lw lv : List Int} {nodes : List Nd} (hA : ∀ x, x ∈ nodes → x.2.2.1.length ≤ 1000000 ∧ x.2.2.1.length < N) (hc : chkC lw nodes = 0) (hL : LV lw lv) (k : List Int → Int → Option R) :
  graph_ValuesOf N lw nodes lv k = k (nvG lv nodes nodes []) 0 := by
 obtain ⟨c1, c2, c3, c4⟩ := chkC_0 hc
 have hlv := hL.1
 unfold graph_ValuesOf graph_graphErr
 obtain ⟨j, e⟩ := checkNodes N hN lw nodes hA (fun y1 y2 => (fun y1 => (graph_unless N (decide (((lv.length : Nat) : Int) = ((lw.length : Nat) : Int))) 10 (fun y2 => (graph_first N [y1, y2] (fun y3 => (bif decide (y3 ≠ 0) then (k [] y3) else (graph_each_int_ValuesOf_c1 N lv lw (fun y4 y5 y6 => (bif decide (y5 ≠ 0) then (k [] y5) else (graph_valued N nodes lv (fun y7 => (k y7 0)))))))))))) y2)
 rw [e, hc]
 try dsimp only
 rw [gunless, decide_eq_true (by omega), if_pos rfl, gfirst2 N (by omega), f1_z, cond_neg (by simp)]
 unfold graph_each_int_ValuesOf_c1
 have := vals_loop N (fun y4 y5 y6 => (bif decide (y5 ≠ 0) then (k [] y5) else (graph_valued N nodes lv (fun y7 => (k y7 0))))) (fun z7 => graph_valued N nodes lv (fun y7 => k y7 0)) lw lv c2 hL (by omega) lv N 0 rfl (by omega)
 rw [Int.natCast_zero] at this
 refine Eq.trans ?_ (this.trans (valued_eq N (by omega) _ hL (by omega) (by omega) c4))
 rfl

abbrev PortT := ByteArray × Int
abbrev ElemT := ByteArray × Int × Int × Int × Int
abbrev WrT := Int × Int × Int
abbrev RuleT := ByteArray × Int × List (Int × Int × Int)
abbrev AttrT := Int × List Int
abbrev KD (X : Type) := ByteArray → List PortT → List ElemT → List Nd → List RuleT → List PortT → List AttrT → X
def SZ (N : Nat) (s : ByteArray) : Prop := s.size < N ∧ s.size ≤ 9223372036854775800
def isNd (nodes : List Nd) (n : Int) : Bool := decide (0 ≤ n ∧ n ≤ (nodes.length : Int) - 1)
def isCond (nodes : List Nd) (n : Int) : Bool := isNd nodes n && decide (wdOf nodes n = 1)
def ewd (els : List ElemT) (e : Int) : Int := ((els[e.toNat]?).map (·.2.2.1)).getD 0
def writeC (els : List ElemT) (nodes : List Nd) (x : WrT) : Int := f1 (if 0 ≤ x.1 ∧ x.1 ≤ (els.length : Int) - 1 then 0 else 6) (f1 (if (isCond nodes x.2.1 && isNd nodes x.2.2) = true then 0 else 9) (if wdOf nodes x.2.2 = ewd els x.1 then 0 else 25))
def writesC (els : List ElemT) (nodes : List Nd) : List WrT → Int
 | [] => 0
 | x :: r => f1 (writeC els nodes x) (writesC els nodes r)
def ruleC (S : List ByteArray) (els : List ElemT) (nodes : List Nd) (x : RuleT) : Int := f1 (f1 (nerr S x.1) (f1 (if isCond nodes x.2.1 = true then 0 else 9) (if x.2.2.length ≤ 16 then 0 else 8))) (writesC els nodes x.2.2)
def rulesC (els : List ElemT) (nodes : List Nd) : List ByteArray → List RuleT → Int
 | _, [] => 0
 | S, x :: r => f1 (ruleC S els nodes x) (rulesC els nodes (x.1 :: S) r)
def outC (nodes : List Nd) (S : List ByteArray) (x : PortT) : Int := f1 (nerr S x.1) (if isNd nodes x.2 = true then 0 else 9)
def outsC (nodes : List Nd) : List ByteArray → List PortT → Int
 | _, [] => 0
 | S, x :: r => f1 (outC nodes S x) (outsC nodes (x.1 :: S) r)
def portC (S : List ByteArray) (x : PortT) : Int := f1 (nerr S x.1) (if wOK x.2 = true then 0 else 2)
def portsC : List ByteArray → List PortT → Int
 | _, [] => 0
 | S, x :: r => f1 (portC S x) (portsC (x.1 :: S) r)
def seenP : List ByteArray → List PortT → List ByteArray
 | S, [] => S
 | S, x :: r => seenP (x.1 :: S) r
def elemC (S : List ByteArray) (x : ElemT) : Int := f1 (f1 (nerr S x.1) (f1 (if 0 ≤ x.2.1 ∧ x.2.1 ≤ 1 then 0 else 15) (if wOK x.2.2.1 = true then 0 else 2))) (if vok x.2.2.1 x.2.2.2.1 = true ∧ (0 ≤ x.2.2.2.2 ∧ x.2.2.2.2 ≤ 3) then 0 else 2)
def elemsC : List ByteArray → List ElemT → Int
 | _, [] => 0
 | S, x :: r => f1 (elemC S x) (elemsC (x.1 :: S) r)
def attrIC (nr : Int) (l : List Int) : Nat → List Int → Int
 | _, [] => 0
 | i, x :: r => f1 (f1 (if 0 ≤ x ∧ x ≤ nr - 1 then 0 else 6) (if (l.take i).contains x = true then 23 else 0)) (attrIC nr l (i + 1) r)
def attrC (nr : Int) (x : AttrT) : Int := f1 (if 0 ≤ x.1 ∧ x.1 ≤ 3 then 0 else 15) (f1 (if 1 ≤ x.2.length ∧ x.2.length ≤ 16 then 0 else 10) (attrIC nr x.2 0 x.2))
def attrsC (nr : Int) : List AttrT → Int
 | [] => 0
 | x :: r => f1 (attrC nr x) (attrsC nr r)
def lwOf (ins : List PortT) (els : List ElemT) : List Int := ins.map (·.2) ++ els.map (·.2.2.1)
def le8 (n m : Nat) : Int := if n ≤ m then 0 else 8
def dcode (nm : ByteArray) (ins : List PortT) (els : List ElemT) (nodes : List Nd) (rules : List RuleT) (outs : List PortT) (attrs : List AttrT) : Int :=
 f1 (f1 (if nmB nm = true then 0 else 4) (le8 ins.length 12)) (f1 (portsC [] ins) (f1 (le8 (ins.length + els.length) 40) (f1 (elemsC (seenP [] ins) els) (f1 (chkC (lwOf ins els) nodes) (f1 (le8 rules.length 16) (f1 (rulesC els nodes [] rules) (f1 (le8 outs.length 12) (f1 (outsC nodes [] outs) (f1 (le8 attrs.length 16) (attrsC rules.length attrs))))))))))
theorem dwidth (N : Nat) (n : Int) (k : Bool → Option R) : design_isWidth N n k = k (wOK n) := by unfold design_isWidth wOK; rw [dwithin]
theorem disNode (N : Nat) (nm : ByteArray) (ins : List PortT) (els : List ElemT) (nodes : List Nd) (rules : List RuleT) (outs : List PortT) (attrs : List AttrT) (hn : nodes.length ≤ 1000000) (n : Int) (k : Bool → Option R) : design_isNode N nm ins els nodes rules outs attrs n k = k (isNd nodes n) := by
 unfold design_isNode isNd; rw [w64_id (by omega) (by omega), dwithin]
theorem isNd_at {nodes : List Nd} {n : Int} (h : isNd nodes n = true) : ∃ x, at? nodes n = some x ∧ x.2.1 = wdOf nodes n := by
 have h := of_decide_eq_true h
 obtain ⟨a, rfl⟩ : ∃ a : Nat, n = a := ⟨n.toNat, by omega⟩
 have ha : a < nodes.length := by omega
 refine ⟨_, at?_lt ha, ?_⟩
 unfold wdOf
 rw [Int.toNat_natCast, List.getElem?_eq_getElem ha]; rfl
theorem disCond (N : Nat) (nm : ByteArray) (ins : List PortT) (els : List ElemT) (nodes : List Nd) (rules : List RuleT) (outs : List PortT) (attrs : List AttrT) (hn : nodes.length ≤ 1000000) (n : Int) (k : Bool → Option R) : design_isCondition N nm ins els nodes rules outs attrs n k = k (isCond nodes n) := by
 unfold design_isCondition isCond
 rw [disNode N nm ins els nodes rules outs attrs hn]
 cases h : isNd nodes n
 ·rfl
 ·obtain ⟨x, h1, h2⟩ := isNd_at h
  rw [cond_true, h1, some_bind', h2]; rfl
theorem dwrite (N : Nat) (hN : 10 ≤ N) (nm : ByteArray) (ins : List PortT) (els : List ElemT) (nodes : List Nd) (rules : List RuleT) (outs : List PortT) (attrs : List AttrT) (hn : nodes.length ≤ 1000000) (he : els.length ≤ 1000000) (e w v : Int) (k : Int → Option R) :
  design_writeErr N nm ins els nodes rules outs attrs e w v k = k (writeC els nodes (e, w, v)) := by
 unfold design_writeErr writeC
 rw [w64_id (by omega) (by omega), dwithin, dunless, disCond N nm ins els nodes rules outs attrs hn]
 by_cases c0 : 0 ≤ e ∧ e ≤ (els.length : Int) - 1
 ·rw [decide_eq_true c0, if_pos rfl, if_pos c0]
  cases c1 : isCond nodes w
  ·rw [cond_false, dunless, dfirst2 N hN]; rfl
  ·rw [cond_true, disNode N nm ins els nodes rules outs attrs hn, dunless]
   cases c2 : isNd nodes v
   ·rw [dfirst2 N hN]; rfl
   ·rw [dfirst2 N hN]
    obtain ⟨x, h1, h2⟩ := isNd_at c2
    obtain ⟨a, rfl⟩ : ∃ a : Nat, e = a := ⟨e.toNat, by omega⟩
    have ha : a < els.length := by omega
    have : ewd els (a : Int) = els[a].2.2.1 := by
     unfold ewd
     rw [Int.toNat_natCast, List.getElem?_eq_getElem ha]; rfl
    rw [if_pos rfl, f1_z, cond_neg (by simp), h1, some_bind', at?_lt ha, some_bind', dunless, h2, this]
    show _ = k (if wdOf nodes v = els[a].2.2.1 then 0 else 25)
    by_cases c3 : wdOf nodes v = els[a].2.2.1 <;> simp [c3]
 ·rw [decide_eq_false c0, if_neg c0]
  cases c1 : isCond nodes w
  ·rw [cond_false, dunless, dfirst2 N hN]; rfl
  ·rw [cond_true, disNode N nm ins els nodes rules outs attrs hn, dunless, dfirst2 N hN]; rfl
theorem writes_loop (N : Nat) (hN : 10 ≤ N) (k0 : Int → Int → KD (Option R)) (k1 : KD (Option R)) (nm : ByteArray) (ins : List PortT) (els : List ElemT) (nodes : List Nd) (rules : List RuleT) (outs : List PortT) (attrs : List AttrT) (hn : nodes.length ≤ 1000000) (he : els.length ≤ 1000000) (l : List WrT) (hl : l.length ≤ 1000000) : ∀ (r : List WrT) (n i : Nat), l.drop i = r → r.length < n →
  ∃ j : Int, design_each_Write_CheckDesign_c7_c1_c1_l0 N k0 k1 n l l.length i nm ins els nodes rules outs attrs = if writesC els nodes r = 0 then k1 nm ins els nodes rules outs attrs else k0 j (writesC els nodes r) nm ins els nodes rules outs attrs
 | [], n, i, h, hn => by
  obtain ⟨n, rfl⟩ := sc hn
  exact ⟨0, by rw [design_each_Write_CheckDesign_c7_c1_c1_l0, cond_neg (drop_end h)]; rfl⟩
 | x :: r, n, i, h, hr => by
  obtain ⟨n, rfl⟩ := sc hr
  obtain ⟨h1, h2, h3⟩ := drop_step h
  obtain ⟨j, ih⟩ := writes_loop N hN k0 k1 nm ins els nodes rules outs attrs hn he l hl r n (i + 1) h3 (by simp at hr; omega)
  rw [design_each_Write_CheckDesign_c7_c1_c1_l0, cond_pos (by omega), h2, some_bind']
  unfold design_CheckDesign_c7_c1_c1
  rw [dwrite N hN nm ins els nodes rules outs attrs hn he, show writesC els nodes (x :: r) = f1 (writeC els nodes x) (writesC els nodes r) from rfl]
  dsimp only
  by_cases c : writeC els nodes x = 0
  ·refine ⟨j, ?_⟩
   have c' : writeC els nodes (x.1, x.2.1, x.2.2) = 0 := c
   rw [cond_neg (by simp [c']), w64_suc (by omega), ih, c, f1_z]
  ·refine ⟨i, ?_⟩
   have c' : writeC els nodes (x.1, x.2.1, x.2.2) ≠ 0 := c
   rw [cond_pos c', f1_n c, if_neg c]
theorem drule (N : Nat) (hN : 1000 ≤ N) (nm : ByteArray) (ins : List PortT) (els : List ElemT) (nodes : List Nd) (rules : List RuleT) (outs : List PortT) (attrs : List AttrT) (hn : nodes.length ≤ 1000000) (he : els.length ≤ 1000000) (i : Int) (x : RuleT) (hx : SZ N x.1) (hw : x.2.2.length ≤ 1000000) (hwN : x.2.2.length < N) (c : Nat) {m : NM} {S : List ByteArray} (hm : KN m S) (k : Int → Nat → NM → KD (Option R)) :
  design_CheckDesign_c7_c1 N i x.1 x.2.1 x.2.2 c m nm ins els nodes rules outs attrs k = k (ruleC S els nodes x) (mclkD .s x.1 c m) (mpS x.1 c m) nm ins els nodes rules outs attrs := by
 unfold design_CheckDesign_c7_c1 ruleC
 rw [dnames N (by omega) x.1 c hx.1 hx.2 hm, disCond N nm ins els nodes rules outs attrs hn, dunless, dunless, dfirst3 N (by omega)]
 unfold design_each_Write_CheckDesign_c7_c1_c1
 obtain ⟨j, e⟩ := writes_loop N (by omega) (fun y8 y9 y10 y11 y12 y13 y14 y15 y16 => design_first N [f1 (nerr S x.1) (f1 (if isCond nodes x.2.1 = true then 0 else 9) (if decide (((x.2.2.length : Nat) : Int) ≤ 16) = true then 0 else 8)), y9] fun y17 => k y17 (mclkD .s x.1 c m) (mpS x.1 c m) y10 y11 y12 y13 y14 y15 y16)
  (fun z19 z20 z21 z22 z23 z24 z25 => design_first N [f1 (nerr S x.1) (f1 (if isCond nodes x.2.1 = true then 0 else 9) (if decide (((x.2.2.length : Nat) : Int) ≤ 16) = true then 0 else 8)), 0] fun y17 => k y17 (mclkD .s x.1 c m) (mpS x.1 c m) z19 z20 z21 z22 z23 z24 z25)
  nm ins els nodes rules outs attrs hn he x.2.2 hw x.2.2 N 0 rfl hwN
 rw [Int.natCast_zero] at e
 refine e.trans ?_
 have q : (if decide (((x.2.2.length : Nat) : Int) ≤ 16) = true then (0 : Int) else 8) = if x.2.2.length ≤ 16 then 0 else 8 := by
  by_cases c : x.2.2.length ≤ 16
  ·rw [if_pos c, decide_eq_true (by omega)]; rfl
  ·rw [if_neg c, decide_eq_false (by omega)]; rfl
 rw [q]
 by_cases c : writesC els nodes x.2.2 = 0
 ·rw [if_pos c, dfirst2 N (by omega), c]
 ·rw [if_neg c, dfirst2 N (by omega)]
theorem rules_loop (N : Nat) (hN : 1000 ≤ N) (k0 : Int → Int → Nat → NM → KD (Option R)) (k1 : Nat → NM → KD (Option R)) (nm : ByteArray) (ins : List PortT) (els : List ElemT) (nodes : List Nd) (rules : List RuleT) (outs : List PortT) (attrs : List AttrT) (hn : nodes.length ≤ 1000000) (he : els.length ≤ 1000000) (l : List RuleT) (hl : l.length ≤ 1000000)
  (hs : ∀ x, x ∈ l → SZ N x.1 ∧ x.2.2.length ≤ 1000000 ∧ x.2.2.length < N) : ∀ (r : List RuleT) (n i c : Nat) (m : NM) (S : List ByteArray), l.drop i = r → r.length < n → KN m S →
  ∃ (j : Int) (c' : Nat) (m' : NM), design_each_Rule_CheckDesign_c7_c1_l0 N k0 k1 n l l.length i c m nm ins els nodes rules outs attrs = if rulesC els nodes S r = 0 then k1 c' m' nm ins els nodes rules outs attrs else k0 j (rulesC els nodes S r) c' m' nm ins els nodes rules outs attrs
 | [], n, i, c, m, S, h, hn, hm => by
  obtain ⟨n, rfl⟩ := sc hn
  exact ⟨0, c, m, by rw [design_each_Rule_CheckDesign_c7_c1_l0, cond_neg (drop_end h)]; rfl⟩
 | x :: r, n, i, c, m, S, h, hr, hm => by
  obtain ⟨n, rfl⟩ := sc hr
  obtain ⟨h1, h2, h3⟩ := drop_step h
  have hx := hs x (List.mem_of_mem_drop (h ▸ List.mem_cons_self : x ∈ l.drop i))
  obtain ⟨j, c', m', ih⟩ := rules_loop N hN k0 k1 nm ins els nodes rules outs attrs hn he l hl hs r n (i + 1) (mclkD .s x.1 c m) (mpS x.1 c m) (x.1 :: S) h3 (by simp at hr; omega) (KN_put hm x.1 c)
  rw [design_each_Rule_CheckDesign_c7_c1_l0, cond_pos (by omega), h2, some_bind', drule N hN nm ins els nodes rules outs attrs hn he i x hx.1 hx.2.1 hx.2.2 c hm, show rulesC els nodes S (x :: r) = f1 (ruleC S els nodes x) (rulesC els nodes (x.1 :: S) r) from rfl]
  by_cases q : ruleC S els nodes x = 0
  ·refine ⟨j, c', m', ?_⟩
   rw [cond_neg (by simp [q]), w64_suc (by omega), ih, q, f1_z]
  ·refine ⟨i, mclkD .s x.1 c m, mpS x.1 c m, ?_⟩
   rw [cond_pos q, f1_n q, if_neg q]
theorem outs_loop (N : Nat) (hN : 1000 ≤ N) (k0 : Int → Int → Nat → NM → KD (Option R)) (k1 : Nat → NM → KD (Option R)) (nm : ByteArray) (ins : List PortT) (els : List ElemT) (nodes : List Nd) (rules : List RuleT) (outs : List PortT) (attrs : List AttrT) (hn : nodes.length ≤ 1000000) (l : List PortT) (hl : l.length ≤ 1000000)
  (hs : ∀ x, x ∈ l → SZ N x.1) : ∀ (r : List PortT) (n i c : Nat) (m : NM) (S : List ByteArray), l.drop i = r → r.length < n → KN m S →
  ∃ (j : Int) (c' : Nat) (m' : NM), design_each_Output_CheckDesign_c9_c1_l0 N k0 k1 n l l.length i c m nm ins els nodes rules outs attrs = if outsC nodes S r = 0 then k1 c' m' nm ins els nodes rules outs attrs else k0 j (outsC nodes S r) c' m' nm ins els nodes rules outs attrs
 | [], n, i, c, m, S, h, hn, hm => by
  obtain ⟨n, rfl⟩ := sc hn
  exact ⟨0, c, m, by rw [design_each_Output_CheckDesign_c9_c1_l0, cond_neg (drop_end h)]; rfl⟩
 | x :: r, n, i, c, m, S, h, hr, hm => by
  obtain ⟨n, rfl⟩ := sc hr
  obtain ⟨h1, h2, h3⟩ := drop_step h
  have hx := hs x (List.mem_of_mem_drop (h ▸ List.mem_cons_self : x ∈ l.drop i))
  obtain ⟨j, c', m', ih⟩ := outs_loop N hN k0 k1 nm ins els nodes rules outs attrs hn l hl hs r n (i + 1) (mclkD .s x.1 c m) (mpS x.1 c m) (x.1 :: S) h3 (by simp at hr; omega) (KN_put hm x.1 c)
  rw [design_each_Output_CheckDesign_c9_c1_l0, cond_pos (by omega), h2, some_bind']
  unfold design_CheckDesign_c9_c1
  rw [dnames N (by omega) x.1 c hx.1 hx.2 hm, disNode N nm ins els nodes rules outs attrs hn, dunless, dfirst2 N (by omega), show outsC nodes S (x :: r) = f1 (outC nodes S x) (outsC nodes (x.1 :: S) r) from rfl]
  show ∃ j c' m', (bif decide (outC nodes S x ≠ 0) then _ else _) = _
  by_cases q : outC nodes S x = 0
  ·refine ⟨j, c', m', ?_⟩
   rw [cond_neg (by simp [q]), w64_suc (by omega), ih, q, f1_z]
  ·refine ⟨i, mclkD .s x.1 c m, mpS x.1 c m, ?_⟩
   rw [cond_pos q, f1_n q, if_neg q]; rfl
theorem ports_loop (N : Nat) (hN : 1000 ≤ N) (k0 : Int → Int → Nat → NM → Nat → NM → Option R) (k1 : Nat → NM → Nat → NM → Option R) (l : List PortT) (hl : l.length ≤ 1000000) (hs : ∀ x, x ∈ l → SZ N x.1) : ∀ (r : List PortT) (n i c c2 : Nat) (m m2 : NM) (S : List ByteArray), l.drop i = r → r.length < n → KN m S → KN m2 S →
  ∃ (j : Int) (c' c2' : Nat) (m' m2' : NM), (portsC S r = 0 → KN m' (seenP S r)) ∧ design_each_Port_CheckDesign_c2_c1_l0 N k0 k1 n l l.length i c m c2 m2 = if portsC S r = 0 then k1 c' m' c2' m2' else k0 j (portsC S r) c' m' c2' m2'
 | [], n, i, c, c2, m, m2, S, h, hn, hm, hm2 => by
  obtain ⟨n, rfl⟩ := sc hn
  exact ⟨0, c, c2, m, m2, fun _ => hm, by rw [design_each_Port_CheckDesign_c2_c1_l0, cond_neg (drop_end h)]; rfl⟩
 | x :: r, n, i, c, c2, m, m2, S, h, hr, hm, hm2 => by
  obtain ⟨n, rfl⟩ := sc hr
  obtain ⟨h1, h2, h3⟩ := drop_step h
  have hx := hs x (List.mem_of_mem_drop (h ▸ List.mem_cons_self : x ∈ l.drop i))
  obtain ⟨j, c', c2', m', m2', hk, ih⟩ := ports_loop N hN k0 k1 l hl hs r n (i + 1) (mclkD .s x.1 c m) (mclkD .s x.1 c2 m2) (mpS x.1 c m) (mpS x.1 c2 m2) (x.1 :: S) h3 (by simp at hr; omega) (KN_put hm x.1 c) (KN_put hm2 x.1 c2)
  rw [design_each_Port_CheckDesign_c2_c1_l0, cond_pos (by omega), h2, some_bind']
  unfold design_CheckDesign_c2_c1
  rw [dnames N (by omega) x.1 c hx.1 hx.2 hm, dnames N (by omega) x.1 c2 hx.1 hx.2 hm2, dwidth, dunless, dfirst3 N (by omega), show portsC S (x :: r) = f1 (portC S x) (portsC (x.1 :: S) r) from rfl]
  have e : f1 (nerr S x.1) (f1 (nerr S x.1) (if wOK x.2 = true then 0 else 2)) = portC S x := by
   unfold portC f1; split <;> simp_all
  rw [e]
  try dsimp only
  by_cases q : portC S x = 0
  ·refine ⟨j, c', c2', m', m2', fun hq => hk (by rwa [q, f1_z] at hq), ?_⟩
   rw [cond_neg (by simp [q]), w64_suc (by omega), ih, q, f1_z]
  ·refine ⟨i, mclkD .s x.1 c m, mclkD .s x.1 c2 m2, mpS x.1 c m, mpS x.1 c2 m2, fun hq => absurd (f1_0.1 hq).1 q, ?_⟩
   rw [cond_pos q, f1_n q, if_neg q]
theorem dfits (N : Nat) (v w : Int) (h0 : 1 ≤ w) (h : w ≤ 16) (k : Bool → Option R) : design_fits N v w k = k (vok w v) := by
 have := p2_pos w; have := p2_16 h
 unfold design_fits
 rw [cond_pos (by omega), cond_neg (by omega), shl_p2 (by omega) (by omega), w64_id (by omega) (by omega), dwithin]; rfl
theorem delem (N : Nat) (hN : 1000 ≤ N) (i : Int) (x : ElemT) (hx : SZ N x.1) (c : Nat) {m : NM} {S : List ByteArray} (hm : KN m S) (k : Int → Nat → NM → Option R) : design_CheckDesign_c4_c1 N i x.1 x.2.1 x.2.2.1 x.2.2.2.1 x.2.2.2.2 c m k = k (elemC S x) (mclkD .s x.1 c m) (mpS x.1 c m) := by
 unfold design_CheckDesign_c4_c1 elemC
 rw [dnames N (by omega) x.1 c hx.1 hx.2 hm, dwithin, dunless, dwidth, dunless, dfirst3 N (by omega)]
 have e : (if decide (0 ≤ x.2.1 ∧ x.2.1 ≤ 1) = true then (0 : Int) else 15) = if 0 ≤ x.2.1 ∧ x.2.1 ≤ 1 then 0 else 15 := by
  by_cases q : 0 ≤ x.2.1 ∧ x.2.1 ≤ 1
  ·rw [decide_eq_true q, if_pos rfl, if_pos q]
  ·rw [decide_eq_false q, if_neg q]; rfl
 rw [e]
 by_cases q : f1 (nerr S x.1) (f1 (if 0 ≤ x.2.1 ∧ x.2.1 ≤ 1 then 0 else 15) (if wOK x.2.2.1 = true then 0 else 2)) = 0
 ·rw [q, cond_neg (by simp), f1_z]
  have hw : wOK x.2.2.1 = true := by
   simp only [f1_0] at q
   have := q.2.2
   split at this
   ·assumption
   ·cases this
  have hb := of_decide_eq_true hw
  rw [dfits N _ _ hb.1 hb.2]
  cases hv : vok x.2.2.1 x.2.2.2.1
  ·rw [cond_false, dunless, if_neg (by simp), if_neg (by simp)]
  ·rw [cond_true, dwithin, dunless]
   by_cases q2 : 0 ≤ x.2.2.2.2 ∧ x.2.2.2.2 ≤ 3
   ·rw [decide_eq_true q2, if_pos rfl, if_pos ⟨rfl, q2⟩]
   ·rw [decide_eq_false q2, if_neg (by simp), if_neg (fun h => q2 h.2)]
 ·rw [cond_pos q, f1_n q]
theorem elems_loop (N : Nat) (hN : 1000 ≤ N) (k0 : Int → Int → Nat → NM → Option R) (k1 : Nat → NM → Option R) (l : List ElemT) (hl : l.length ≤ 1000000) (hs : ∀ x, x ∈ l → SZ N x.1) : ∀ (r : List ElemT) (n i c : Nat) (m : NM) (S : List ByteArray), l.drop i = r → r.length < n → KN m S →
  ∃ (j : Int) (c' : Nat) (m' : NM), design_each_Element_CheckDesign_c4_c1_l0 N k0 k1 n l l.length i c m = if elemsC S r = 0 then k1 c' m' else k0 j (elemsC S r) c' m'
 | [], n, i, c, m, S, h, hn, hm => by
  obtain ⟨n, rfl⟩ := sc hn
  exact ⟨0, c, m, by rw [design_each_Element_CheckDesign_c4_c1_l0, cond_neg (drop_end h)]; rfl⟩
 | x :: r, n, i, c, m, S, h, hr, hm => by
  obtain ⟨n, rfl⟩ := sc hr
  obtain ⟨h1, h2, h3⟩ := drop_step h
  have hx := hs x (List.mem_of_mem_drop (h ▸ List.mem_cons_self : x ∈ l.drop i))
  obtain ⟨j, c', m', ih⟩ := elems_loop N hN k0 k1 l hl hs r n (i + 1) (mclkD .s x.1 c m) (mpS x.1 c m) (x.1 :: S) h3 (by simp at hr; omega) (KN_put hm x.1 c)
  rw [design_each_Element_CheckDesign_c4_c1_l0, cond_pos (by omega), h2, some_bind', delem N hN i x hx c hm, show elemsC S (x :: r) = f1 (elemC S x) (elemsC (x.1 :: S) r) from rfl]
  by_cases q : elemC S x = 0
  ·refine ⟨j, c', m', ?_⟩
   rw [cond_neg (by simp [q]), w64_suc (by omega), ih, q, f1_z]
  ·refine ⟨i, mclkD .s x.1 c m, mpS x.1 c m, ?_⟩
   rw [cond_pos q, f1_n q, if_neg q]
structure DH (N : Nat) (nm : ByteArray) (ins : List PortT) (els : List ElemT) (nodes : List Nd) (rules : List RuleT) (outs : List PortT) (attrs : List AttrT) : Prop where
 nm : SZ N nm
 ins : ins.length ≤ 1000000 ∧ ins.length < N ∧ ∀ x, x ∈ ins → SZ N x.1
 els : els.length ≤ 1000000 ∧ els.length < N ∧ ∀ x, x ∈ els → SZ N x.1
 nodes : nodes.length ≤ 1000000 ∧ ∀ x, x ∈ nodes → x.2.2.1.length ≤ 1000000 ∧ x.2.2.1.length < N
 rules : rules.length ≤ 1000000 ∧ rules.length < N ∧ ∀ x, x ∈ rules → SZ N x.1 ∧ x.2.2.length ≤ 1000000 ∧ x.2.2.length < N
 outs : outs.length ≤ 1000000 ∧ outs.length < N ∧ ∀ x, x ∈ outs → SZ N x.1
 attrs : attrs = []
theorem leavesA (N : Nat) (k0 : KD (List Int → Option R)) (nm : ByteArray) (ins : List PortT) (els : List ElemT) (nodes : List Nd) (rules : List RuleT) (outs : List PortT) (attrs : List AttrT) (l : List PortT) (hl : l.length ≤ 1000000) : ∀ (r : List PortT) (n i : Nat) (acc : List Int), l.drop i = r → r.length < n → acc.length ≤ i →
  design_leaves_l0 N k0 n l l.length i nm ins els nodes rules outs attrs acc = k0 nm ins els nodes rules outs attrs (acc ++ r.map (·.2))
 | [], n, i, acc, h, hn, ha => by
  obtain ⟨n, rfl⟩ := sc hn
  rw [design_leaves_l0, cond_neg (drop_end h), List.map_nil, List.append_nil]
 | x :: r, n, i, acc, h, hn, ha => by
  obtain ⟨n, rfl⟩ := sc hn
  obtain ⟨h1, h2, h3⟩ := drop_step h
  rw [design_leaves_l0, cond_pos (by omega), h2, some_bind', roomB_of (by omega), cond_true, w64_suc (by omega), leavesA N k0 nm ins els nodes rules outs attrs l hl r n (i + 1) (acc ++ [x.2]) h3 (by simp at hn; omega) (by simp; omega), List.map_cons, List.append_assoc]
  rfl
theorem leavesB (N : Nat) (k0 : List Int → Option R) (l : List ElemT) (hl : l.length ≤ 1000000) : ∀ (r : List ElemT) (n i : Nat) (acc : List Int), l.drop i = r → r.length < n → acc.length + r.length ≤ 3000000 →
  design_leaves_l1 N k0 n l l.length i acc = k0 (acc ++ r.map (·.2.2.1))
 | [], n, i, acc, h, hn, ha => by
  obtain ⟨n, rfl⟩ := sc hn
  rw [design_leaves_l1, cond_neg (drop_end h), List.map_nil, List.append_nil]
 | x :: r, n, i, acc, h, hn, ha => by
  obtain ⟨n, rfl⟩ := sc hn
  obtain ⟨h1, h2, h3⟩ := drop_step h
  rw [List.length_cons] at ha hn
  rw [design_leaves_l1, cond_pos (by omega), h2, some_bind', roomB_of (by omega), cond_true, w64_suc (by omega), leavesB N k0 l hl r n (i + 1) (acc ++ [x.2.2.1]) h3 (by omega) (by rw [List.length_append, List.length_singleton]; omega), List.map_cons, List.append_assoc]
  rfl
section
variable {N : Nat} {nm : ByteArray} {ins : List PortT} {els : List ElemT} {nodes : List Nd} {rules : List RuleT} {outs : List PortT} {attrs : List AttrT}
theorem leaves_eq (h : DH N nm ins els nodes rules outs attrs) (k : List Int → Option R) : design_leaves N nm ins els nodes rules outs attrs k = k (lwOf ins els) := by
 unfold design_leaves lwOf
 have hi := h.ins; have he := h.els
 refine (leavesA N _ nm ins els nodes rules outs attrs ins hi.1 ins N 0 [] rfl hi.2.1 (by simp)).trans ?_
 exact leavesB N k els he.1 els N 0 _ rfl he.2.1 (by rw [List.nil_append, List.length_map]; omega)
theorem step_if {K : Option R} {k0 : Int → Int → Option R} {c : Int} {j : Int} : (bif decide (c ≠ 0) then k0 j c else K) = if c = 0 then K else k0 j c := by
 by_cases h : c = 0
 ·rw [cond_neg (by simp [h]), if_pos h]
 ·rw [cond_pos h, if_neg h]
theorem le8_eq (n m : Nat) (a b : Int) (ha : a = n) (hb : b = m) : (if decide (a ≤ b) = true then (0 : Int) else 8) = le8 n m := by
 unfold le8
 by_cases h : n ≤ m
 ·rw [if_pos h, decide_eq_true (by omega)]; rfl
 ·rw [if_neg h, decide_eq_false (by omega)]; rfl
variable (k0 : Int → Int → Option R) (k1 : Option R) (M c1 c2 c3 c4 : Nat) (m1 m2 m3 m4 : NM)
theorem st0 (hN : 1000 ≤ N) (h : DH N nm ins els nodes rules outs attrs) : design_CheckDesign_l0 N k0 k1 (M + 1) 0 nm ins els nodes rules outs attrs c1 m1 c2 m2 c3 m3 c4 m4 = if f1 (if nmB nm = true then 0 else 4) (le8 ins.length 12) = 0 then design_CheckDesign_l0 N k0 k1 M 1 nm ins els nodes rules outs attrs c1 m1 c2 m2 c3 m3 c4 m4 else k0 0 (f1 (if nmB nm = true then 0 else 4) (le8 ins.length 12)) := by
 rw [design_CheckDesign_l0]
 simp only [Int.reduceLT, Int.reduceEq, decide_true, decide_false, cond_true, cond_false]
 unfold design_CheckDesign_c1
 rw [dname N nm h.nm.1 h.nm.2, dunless, dunless, le8_eq ins.length 12 _ 12 rfl rfl, dfirst2 N (by omega)]
 exact step_if
theorem st1 (hN : 1000 ≤ N) (h : DH N nm ins els nodes rules outs attrs) (hm1 : KN m1 []) (hm2 : KN m2 []) : ∃ (j : Int) (c1' c2' : Nat) (m1' m2' : NM), (portsC [] ins = 0 → KN m1' (seenP [] ins)) ∧ design_CheckDesign_l0 N k0 k1 (M + 1) 1 nm ins els nodes rules outs attrs c1 m1 c2 m2 c3 m3 c4 m4 = if portsC [] ins = 0 then design_CheckDesign_l0 N k0 k1 M 2 nm ins els nodes rules outs attrs c1' m1' c2' m2' c3 m3 c4 m4 else k0 j (portsC [] ins) := by
 rw [design_CheckDesign_l0]
 simp only [Int.reduceLT, Int.reduceEq, decide_true, decide_false, cond_true, cond_false]
 unfold design_CheckDesign_c2 design_each_Port_CheckDesign_c2_c1
 obtain ⟨j, c1', c2', m1', m2', hk, e⟩ := ports_loop N hN (fun y1 y2 y3 y4 y5 y6 => bif decide (y2 ≠ 0) then k0 y1 y2 else design_CheckDesign_l0 N k0 k1 M (w64 (1 + 1)) nm ins els nodes rules outs attrs y3 y4 y5 y6 c3 m3 c4 m4)
  (fun y3 y4 y5 y6 => design_CheckDesign_l0 N k0 k1 M (w64 (1 + 1)) nm ins els nodes rules outs attrs y3 y4 y5 y6 c3 m3 c4 m4) ins h.ins.1 h.ins.2.2 ins N 0 c1 c2 m1 m2 [] rfl h.ins.2.1 hm1 hm2
 refine ⟨j, c1', c2', m1', m2', hk, e.trans ?_⟩
 by_cases q : portsC [] ins = 0
 ·rw [if_pos q, if_pos q]; rfl
 ·rw [if_neg q, if_neg q, cond_pos q]
theorem st2 (hN : 1000 ≤ N) (h : DH N nm ins els nodes rules outs attrs) : design_CheckDesign_l0 N k0 k1 (M + 1) 2 nm ins els nodes rules outs attrs c1 m1 c2 m2 c3 m3 c4 m4 = if le8 (ins.length + els.length) 40 = 0 then design_CheckDesign_l0 N k0 k1 M 3 nm ins els nodes rules outs attrs c1 m1 c2 m2 c3 m3 c4 m4 else k0 0 (le8 (ins.length + els.length) 40) := by
 have hi := h.ins; have he := h.els
 rw [design_CheckDesign_l0]
 simp only [Int.reduceLT, Int.reduceEq, decide_true, decide_false, cond_true, cond_false]
 unfold design_CheckDesign_c3
 rw [dunless, le8_eq (ins.length + els.length) 40 _ 40 (by rw [w64_id (by omega) (by omega)]; omega) rfl]
 exact step_if
theorem st3 (hN : 1000 ≤ N) (h : DH N nm ins els nodes rules outs attrs) {S : List ByteArray} (hm1 : KN m1 S) : ∃ (j : Int) (c1' : Nat) (m1' : NM), design_CheckDesign_l0 N k0 k1 (M + 1) 3 nm ins els nodes rules outs attrs c1 m1 c2 m2 c3 m3 c4 m4 = if elemsC S els = 0 then design_CheckDesign_l0 N k0 k1 M 4 nm ins els nodes rules outs attrs c1' m1' c2 m2 c3 m3 c4 m4 else k0 j (elemsC S els) := by
 rw [design_CheckDesign_l0]
 simp only [Int.reduceLT, Int.reduceEq, decide_true, decide_false, cond_true, cond_false]
 unfold design_CheckDesign_c4 design_each_Element_CheckDesign_c4_c1
 obtain ⟨j, c1', m1', e⟩ := elems_loop N hN (fun y1 y2 y3 y4 => bif decide (y2 ≠ 0) then k0 y1 y2 else design_CheckDesign_l0 N k0 k1 M (w64 (3 + 1)) nm ins els nodes rules outs attrs y3 y4 c2 m2 c3 m3 c4 m4)
  (fun y3 y4 => design_CheckDesign_l0 N k0 k1 M (w64 (3 + 1)) nm ins els nodes rules outs attrs y3 y4 c2 m2 c3 m3 c4 m4) els h.els.1 h.els.2.2 els N 0 c1 m1 S rfl h.els.2.1 hm1
 refine ⟨j, c1', m1', e.trans ?_⟩
 by_cases q : elemsC S els = 0
 ·rw [if_pos q, if_pos q]; rfl
 ·rw [if_neg q, if_neg q, cond_pos q]
theorem st4 (hN : 1000 ≤ N) (h : DH N nm ins els nodes rules outs attrs) : ∃ (j : Int), design_CheckDesign_l0 N k0 k1 (M + 1) 4 nm ins els nodes rules outs attrs c1 m1 c2 m2 c3 m3 c4 m4 = if chkC (lwOf ins els) nodes = 0 then design_CheckDesign_l0 N k0 k1 M 5 nm ins els nodes rules outs attrs c1 m1 c2 m2 c3 m3 c4 m4 else k0 j (chkC (lwOf ins els) nodes) := by
 rw [design_CheckDesign_l0]
 simp only [Int.reduceLT, Int.reduceEq, decide_true, decide_false, cond_true, cond_false]
 unfold design_CheckDesign_c5
 rw [leaves_eq h]
 obtain ⟨j, e⟩ := checkNodes N hN (lwOf ins els) nodes h.nodes.2 (fun y2 y3 => bif decide (y3 ≠ 0) then k0 y2 y3 else design_CheckDesign_l0 N k0 k1 M (w64 (4 + 1)) nm ins els nodes rules outs attrs c1 m1 c2 m2 c3 m3 c4 m4)
 exact ⟨j, e.trans step_if⟩
theorem st5 (hN : 1000 ≤ N) (h : DH N nm ins els nodes rules outs attrs) : design_CheckDesign_l0 N k0 k1 (M + 1) 5 nm ins els nodes rules outs attrs c1 m1 c2 m2 c3 m3 c4 m4 = if le8 rules.length 16 = 0 then design_CheckDesign_l0 N k0 k1 M 6 nm ins els nodes rules outs attrs c1 m1 c2 m2 c3 m3 c4 m4 else k0 0 (le8 rules.length 16) := by
 rw [design_CheckDesign_l0]
 simp only [Int.reduceLT, Int.reduceEq, decide_true, decide_false, cond_true, cond_false]
 unfold design_CheckDesign_c6
 rw [dunless, le8_eq rules.length 16 _ 16 rfl rfl]
 exact step_if
theorem st6 (hN : 1000 ≤ N) (h : DH N nm ins els nodes rules outs attrs) (hm3 : KN m3 []) : ∃ (j : Int) (c3' : Nat) (m3' : NM), design_CheckDesign_l0 N k0 k1 (M + 1) 6 nm ins els nodes rules outs attrs c1 m1 c2 m2 c3 m3 c4 m4 = if rulesC els nodes [] rules = 0 then design_CheckDesign_l0 N k0 k1 M 7 nm ins els nodes rules outs attrs c1 m1 c2 m2 c3' m3' c4 m4 else k0 j (rulesC els nodes [] rules) := by
 rw [design_CheckDesign_l0]
 simp only [Int.reduceLT, Int.reduceEq, decide_true, decide_false, cond_true, cond_false]
 unfold design_CheckDesign_c7 design_each_Rule_CheckDesign_c7_c1
 obtain ⟨j, c3', m3', e⟩ := rules_loop N hN (fun y1 y2 y3 y4 y5 y6 y7 y8 y9 y10 y11 => bif decide (y2 ≠ 0) then k0 y1 y2 else design_CheckDesign_l0 N k0 k1 M (w64 (6 + 1)) y5 y6 y7 y8 y9 y10 y11 c1 m1 c2 m2 y3 y4 c4 m4)
  (fun y3 y4 y5 y6 y7 y8 y9 y10 y11 => design_CheckDesign_l0 N k0 k1 M (w64 (6 + 1)) y5 y6 y7 y8 y9 y10 y11 c1 m1 c2 m2 y3 y4 c4 m4) nm ins els nodes rules outs attrs h.nodes.1 h.els.1 rules h.rules.1 h.rules.2.2 rules N 0 c3 m3 [] rfl h.rules.2.1 hm3
 refine ⟨j, c3', m3', e.trans ?_⟩
 by_cases q : rulesC els nodes [] rules = 0
 ·rw [if_pos q, if_pos q]; rfl
 ·rw [if_neg q, if_neg q, cond_pos q]
theorem st7 (hN : 1000 ≤ N) (h : DH N nm ins els nodes rules outs attrs) : design_CheckDesign_l0 N k0 k1 (M + 1) 7 nm ins els nodes rules outs attrs c1 m1 c2 m2 c3 m3 c4 m4 = if le8 outs.length 12 = 0 then design_CheckDesign_l0 N k0 k1 M 8 nm ins els nodes rules outs attrs c1 m1 c2 m2 c3 m3 c4 m4 else k0 0 (le8 outs.length 12) := by
 rw [design_CheckDesign_l0]
 simp only [Int.reduceLT, Int.reduceEq, decide_true, decide_false, cond_true, cond_false]
 unfold design_CheckDesign_c8
 rw [dunless, le8_eq outs.length 12 _ 12 rfl rfl]
 exact step_if
theorem st8 (hN : 1000 ≤ N) (h : DH N nm ins els nodes rules outs attrs) (hm4 : KN m4 []) : ∃ (j : Int) (c4' : Nat) (m4' : NM), design_CheckDesign_l0 N k0 k1 (M + 1) 8 nm ins els nodes rules outs attrs c1 m1 c2 m2 c3 m3 c4 m4 = if outsC nodes [] outs = 0 then design_CheckDesign_l0 N k0 k1 M 9 nm ins els nodes rules outs attrs c1 m1 c2 m2 c3 m3 c4' m4' else k0 j (outsC nodes [] outs) := by
 rw [design_CheckDesign_l0]
 simp only [Int.reduceLT, Int.reduceEq, decide_true, decide_false, cond_true, cond_false]
 unfold design_CheckDesign_c9 design_each_Output_CheckDesign_c9_c1
 obtain ⟨j, c4', m4', e⟩ := outs_loop N hN (fun y1 y2 y3 y4 y5 y6 y7 y8 y9 y10 y11 => bif decide (y2 ≠ 0) then k0 y1 y2 else design_CheckDesign_l0 N k0 k1 M (w64 (8 + 1)) y5 y6 y7 y8 y9 y10 y11 c1 m1 c2 m2 c3 m3 y3 y4)
  (fun y3 y4 y5 y6 y7 y8 y9 y10 y11 => design_CheckDesign_l0 N k0 k1 M (w64 (8 + 1)) y5 y6 y7 y8 y9 y10 y11 c1 m1 c2 m2 c3 m3 y3 y4) nm ins els nodes rules outs attrs h.nodes.1 outs h.outs.1 h.outs.2.2 outs N 0 c4 m4 [] rfl h.outs.2.1 hm4
 refine ⟨j, c4', m4', e.trans ?_⟩
 by_cases q : outsC nodes [] outs = 0
 ·rw [if_pos q, if_pos q]; rfl
 ·rw [if_neg q, if_neg q, cond_pos q]
theorem st9 (hN : 1000 ≤ N) (h : DH N nm ins els nodes rules outs attrs) : design_CheckDesign_l0 N k0 k1 (M + 1) 9 nm ins els nodes rules outs attrs c1 m1 c2 m2 c3 m3 c4 m4 = if le8 attrs.length 16 = 0 then design_CheckDesign_l0 N k0 k1 M 10 nm ins els nodes rules outs attrs c1 m1 c2 m2 c3 m3 c4 m4 else k0 0 (le8 attrs.length 16) := by
 rw [design_CheckDesign_l0]
 simp only [Int.reduceLT, Int.reduceEq, decide_true, decide_false, cond_true, cond_false]
 unfold design_CheckDesign_c10
 rw [dunless, le8_eq attrs.length 16 _ 16 rfl rfl]
 exact step_if
theorem st10 (hN : 1000 ≤ N) (h : DH N nm ins els nodes rules outs attrs) : ∃ (j : Int), design_CheckDesign_l0 N k0 k1 (M + 2) 10 nm ins els nodes rules outs attrs c1 m1 c2 m2 c3 m3 c4 m4 = if attrsC rules.length attrs = 0 then k1 else k0 j (attrsC rules.length attrs) := by
 obtain rfl := h.attrs
 obtain ⟨K, rfl⟩ : ∃ K, N = K + 1 := ⟨N - 1, by omega⟩
 refine ⟨0, ?_⟩
 rw [design_CheckDesign_l0]
 simp only [Int.reduceLT, Int.reduceEq, decide_true, decide_false, cond_true, cond_false]
 unfold design_CheckDesign_c11 design_each_Attribute_CheckDesign_c11_c1
 rw [design_each_Attribute_CheckDesign_c11_c1_l0, cond_neg (by simp)]
 show design_CheckDesign_l0 (K + 1) k0 k1 (M + 1) 11 nm ins els nodes rules outs [] c1 m1 c2 m2 c3 m3 c4 m4 = _
 rw [design_CheckDesign_l0]; rfl
theorem checkDesign (hN : 1000 ≤ N) (h : DH N nm ins els nodes rules outs attrs) (k : Int → Int → Option R) : ∃ j : Int, design_CheckDesign N nm ins els nodes rules outs attrs k = k j (dcode nm ins els nodes rules outs attrs) := by
 obtain ⟨M, rfl⟩ : ∃ M, N = M + 12 := ⟨N - 12, by omega⟩
 unfold design_CheckDesign dcode
 rw [st0 _ _ _ _ _ _ _ _ _ _ _ hN h]
 by_cases q0 : f1 (if nmB nm = true then 0 else 4) (le8 ins.length 12) = 0
 ·rw [if_pos q0, q0, f1_z]
  obtain ⟨j, c1', c2', m1', m2', hk, e⟩ := st1 k (k 0 0) (M + 10) 0 0 0 0 [] [] [] [] hN h KN_nil KN_nil
  rw [e]
  by_cases q1 : portsC [] ins = 0
  ·rw [if_pos q1, q1, f1_z, st2 _ _ _ _ _ _ _ _ _ _ _ hN h]
   by_cases q2 : le8 (ins.length + els.length) 40 = 0
   ·rw [if_pos q2, q2, f1_z]
    obtain ⟨j, c1'', m1'', e⟩ := st3 k (k 0 0) (M + 8) c1' c2' 0 0 m1' m2' [] [] hN h (hk q1)
    rw [e]
    by_cases q3 : elemsC (seenP [] ins) els = 0
    ·rw [if_pos q3, q3, f1_z]
     obtain ⟨j, e⟩ := st4 k (k 0 0) (M + 7) c1'' c2' 0 0 m1'' m2' [] [] hN h
     rw [e]
     by_cases q4 : chkC (lwOf ins els) nodes = 0
     ·rw [if_pos q4, q4, f1_z, st5 _ _ _ _ _ _ _ _ _ _ _ hN h]
      by_cases q5 : le8 rules.length 16 = 0
      ·rw [if_pos q5, q5, f1_z]
       obtain ⟨j, c3', m3', e⟩ := st6 k (k 0 0) (M + 5) c1'' c2' 0 0 m1'' m2' [] [] hN h KN_nil
       rw [e]
       by_cases q6 : rulesC els nodes [] rules = 0
       ·rw [if_pos q6, q6, f1_z, st7 _ _ _ _ _ _ _ _ _ _ _ hN h]
        by_cases q7 : le8 outs.length 12 = 0
        ·rw [if_pos q7, q7, f1_z]
         obtain ⟨j, c4', m4', e⟩ := st8 k (k 0 0) (M + 3) c1'' c2' c3' 0 m1'' m2' m3' [] hN h KN_nil
         rw [e]
         by_cases q8 : outsC nodes [] outs = 0
         ·rw [if_pos q8, q8, f1_z, st9 _ _ _ _ _ _ _ _ _ _ _ hN h]
          by_cases q9 : le8 attrs.length 16 = 0
          ·rw [if_pos q9, q9, f1_z]
           obtain ⟨j, e⟩ := st10 k (k 0 0) M c1'' c2' c3' c4' m1'' m2' m3' m4' hN h
           rw [e]
           by_cases q10 : attrsC rules.length attrs = 0
           ·rw [if_pos q10, q10]; exact ⟨0, rfl⟩
           ·rw [if_neg q10]; exact ⟨j, rfl⟩
          ·rw [if_neg q9, f1_n q9]; exact ⟨0, rfl⟩
         ·rw [if_neg q8, f1_n q8]; exact ⟨j, rfl⟩
        ·rw [if_neg q7, f1_n q7]; exact ⟨0, rfl⟩
       ·rw [if_neg q6, f1_n q6]; exact ⟨j, rfl⟩
      ·rw [if_neg q5, f1_n q5]; exact ⟨0, rfl⟩
     ·rw [if_neg q4, f1_n q4]; exact ⟨j, rfl⟩
    ·rw [if_neg q3, f1_n q3]; exact ⟨j, rfl⟩
   ·rw [if_neg q2, f1_n q2]; exact ⟨0, rfl⟩
  ·rw [if_neg q1, f1_n q1]; exact ⟨j, rfl⟩
 ·rw [if_neg q0, f1_n q0]; exact ⟨0, rfl⟩
end

theorem if0 {c : Prop} [Decidable c] {e : Int} (he : e ≠ 0) (h : (if c then 0 else e) = 0) : c := by
 split at h
 ·assumption
 ·exact absurd h he
theorem portsC_0 : ∀ (l : List PortT) (S : List ByteArray), portsC S l = 0 → ∀ x, x ∈ l → wOK x.2 = true
 | [], _, _, x, hx => by cases hx
 | y :: r, S, h, x, hx => by
  obtain ⟨h1, h2⟩ := f1_0.1 (show f1 (portC S y) (portsC (y.1 :: S) r) = 0 from h)
  rcases List.mem_cons.1 hx with rfl | hx
  ·exact if0 (by decide) (f1_0.1 h1).2
  ·exact portsC_0 r _ h2 x hx
theorem elemsC_0 : ∀ (l : List ElemT) (S : List ByteArray), elemsC S l = 0 → ∀ x, x ∈ l → (0 ≤ x.2.1 ∧ x.2.1 ≤ 1) ∧ wOK x.2.2.1 = true ∧ vok x.2.2.1 x.2.2.2.1 = true ∧ 0 ≤ x.2.2.2.2 ∧ x.2.2.2.2 ≤ 3
 | [], _, _, x, hx => by cases hx
 | y :: r, S, h, x, hx => by
  obtain ⟨h1, h2⟩ := f1_0.1 (show f1 (elemC S y) (elemsC (y.1 :: S) r) = 0 from h)
  rcases List.mem_cons.1 hx with rfl | hx
  ·obtain ⟨h3, h4⟩ := f1_0.1 h1
   have h5 := (f1_0.1 (f1_0.1 h3).2)
   exact ⟨if0 (by decide) h5.1, if0 (by decide) h5.2, (if0 (by decide) h4).1, (if0 (by decide) h4).2⟩
  ·exact elemsC_0 r _ h2 x hx
theorem outsC_0 {nodes : List Nd} : ∀ (l : List PortT) (S : List ByteArray), outsC nodes S l = 0 → ∀ x, x ∈ l → isNd nodes x.2 = true
 | [], _, _, x, hx => by cases hx
 | y :: r, S, h, x, hx => by
  obtain ⟨h1, h2⟩ := f1_0.1 (show f1 (outC nodes S y) (outsC nodes (y.1 :: S) r) = 0 from h)
  rcases List.mem_cons.1 hx with rfl | hx
  ·exact if0 (by decide) (f1_0.1 h1).2
  ·exact outsC_0 r _ h2 x hx
def WrOK (els : List ElemT) (nodes : List Nd) (x : WrT) : Prop := (0 ≤ x.1 ∧ x.1 ≤ (els.length : Int) - 1) ∧ isCond nodes x.2.1 = true ∧ isNd nodes x.2.2 = true ∧ wdOf nodes x.2.2 = ewd els x.1
theorem writesC_0 {els : List ElemT} {nodes : List Nd} : ∀ (l : List WrT), writesC els nodes l = 0 → ∀ x, x ∈ l → WrOK els nodes x
 | [], _, x, hx => by cases hx
 | y :: r, h, x, hx => by
  obtain ⟨h1, h2⟩ := f1_0.1 (show f1 (writeC els nodes y) (writesC els nodes r) = 0 from h)
  rcases List.mem_cons.1 hx with rfl | hx
  ·obtain ⟨h3, h4⟩ := f1_0.1 h1
   obtain ⟨h5, h6⟩ := f1_0.1 h4
   have h5 := if0 (by decide) h5
   rw [Bool.and_eq_true] at h5
   exact ⟨if0 (by decide) h3, h5.1, h5.2, if0 (by decide) h6⟩
  ·exact writesC_0 r h2 x hx
theorem rulesC_0 {els : List ElemT} {nodes : List Nd} : ∀ (l : List RuleT) (S : List ByteArray), rulesC els nodes S l = 0 → ∀ x, x ∈ l → isCond nodes x.2.1 = true ∧ x.2.2.length ≤ 16 ∧ ∀ y, y ∈ x.2.2 → WrOK els nodes y
 | [], _, _, x, hx => by cases hx
 | y :: r, S, h, x, hx => by
  obtain ⟨h1, h2⟩ := f1_0.1 (show f1 (ruleC S els nodes y) (rulesC els nodes (y.1 :: S) r) = 0 from h)
  rcases List.mem_cons.1 hx with rfl | hx
  ·obtain ⟨h3, h4⟩ := f1_0.1 h1
   have h5 := f1_0.1 (f1_0.1 h3).2
   exact ⟨if0 (by decide) h5.1, if0 (by decide) h5.2, writesC_0 _ h4⟩
  ·exact rulesC_0 r _ h2 x hx
structure DV (ins : List PortT) (els : List ElemT) (nodes : List Nd) (rules : List RuleT) (outs : List PortT) : Prop where
 insW : ∀ x, x ∈ ins → wOK x.2 = true
 elsW : ∀ x, x ∈ els → (0 ≤ x.2.1 ∧ x.2.1 ≤ 1) ∧ wOK x.2.2.1 = true ∧ vok x.2.2.1 x.2.2.2.1 = true ∧ 0 ≤ x.2.2.2.2 ∧ x.2.2.2.2 ≤ 3
 chk : chkC (lwOf ins els) nodes = 0
 rulesW : ∀ x, x ∈ rules → isCond nodes x.2.1 = true ∧ x.2.2.length ≤ 16 ∧ ∀ y, y ∈ x.2.2 → WrOK els nodes y
 outsW : ∀ x, x ∈ outs → isNd nodes x.2 = true
 nr : rules.length ≤ 16
 no : outs.length ≤ 12
theorem le8_0 {n m : Nat} (h : le8 n m = 0) : n ≤ m := if0 (by decide) h
theorem dv_of {nm : ByteArray} {ins : List PortT} {els : List ElemT} {nodes : List Nd} {rules : List RuleT} {outs : List PortT} {attrs : List AttrT} (h : dcode nm ins els nodes rules outs attrs = 0) : DV ins els nodes rules outs := by
 unfold dcode at h
 simp only [f1_0] at h
 obtain ⟨_, h1, _, h2, h3, h4, h5, h6, h7, _⟩ := h
 exact ⟨portsC_0 _ _ h1, elemsC_0 _ _ h2, h3, rulesC_0 _ _ h5, outsC_0 _ _ h7, le8_0 h4, le8_0 h6⟩
def fitL : List Int → List Int → Bool
 | w :: ws, x :: xs => vok w x && fitL ws xs
 | _, _ => true
def valE (ws l : List Int) : Int := if l.length = ws.length then (if fitL ws l = true then 0 else 2) else 10
theorem fitL_iff : ∀ (ws l : List Int), l.length = ws.length → (fitL ws l = true ↔ ∀ i, i < ws.length → vok (w0 ws i) (w0 l i) = true)
 | [], l, _ => by simp [fitL]
 | w :: ws, [], h => by simp at h
 | w :: ws, x :: xs, h => by
  rw [show fitL (w :: ws) (x :: xs) = (vok w x && fitL ws xs) from rfl, Bool.and_eq_true, fitL_iff ws xs (by simpa using h)]
  constructor
  ·rintro ⟨h1, h2⟩ i hi
   cases i with
   | zero => exact h1
   | succ i => exact h2 i (by simpa using hi)
  ·intro h2
   exact ⟨h2 0 (by simp), fun i hi => h2 (i + 1) (by simpa using hi)⟩
theorem valE_0 {ws l : List Int} : valE ws l = 0 ↔ LV ws l := by
 unfold valE LV
 by_cases h : l.length = ws.length
 ·rw [if_pos h, ← fitL_iff ws l h]
  cases fitL ws l <;> simp [h]
 ·rw [if_neg h]
  exact ⟨fun h => (by cases h), fun h' => absurd h'.1 h⟩
theorem LV_app {a b x y : List Int} (h1 : LV a x) (h2 : LV b y) : LV (a ++ b) (x ++ y) := by
 refine ⟨by simp [h1.1, h2.1], fun i hi => ?_⟩
 have hl := h1.1
 by_cases c : i < a.length
 ·have := h1.2 i c
  unfold w0 at this ⊢
  rwa [List.getElem?_append_left c, List.getElem?_append_left (by omega)]
 ·have := h2.2 (i - a.length) (by simp at hi; omega)
  unfold w0 at this ⊢
  rwa [List.getElem?_append_right (by omega), List.getElem?_append_right (by omega), hl]
theorem inE_loop (N : Nat) (k0 : Int → Int → KD (Option R)) (k1 : KD (Option R)) (nm : ByteArray) (ins : List PortT) (els : List ElemT) (nodes : List Nd) (rules : List RuleT) (outs : List PortT) (attrs : List AttrT) (hi : ins.length ≤ 1000000) (hw : ∀ x, x ∈ ins → wOK x.2 = true) (l : List Int) (hl : l.length = ins.length) : ∀ (r : List Int) (q : List PortT) (n i : Nat), l.drop i = r → ins.drop i = q → r.length < n →
  ∃ j : Int, design_each_int_network_inputsErr_c1_l0 N k0 k1 n l l.length i nm ins els nodes rules outs attrs = if fitL (q.map (·.2)) r = true then k1 nm ins els nodes rules outs attrs else k0 j 2 nm ins els nodes rules outs attrs
 | [], q, n, i, h, hq, hn => by
  obtain ⟨n, rfl⟩ := sc hn
  have : fitL (q.map (·.2)) [] = true := by cases q <;> rfl
  exact ⟨0, by rw [design_each_int_network_inputsErr_c1_l0, cond_neg (drop_end h), if_pos this]⟩
 | x :: r, [], n, i, h, hq, hn => by
  have h1 := (drop_step h).1
  have := List.drop_eq_nil_iff.1 hq
  omega
 | x :: r, p :: q, n, i, h, hq, hn => by
  obtain ⟨n, rfl⟩ := sc hn
  obtain ⟨h1, h2, h3⟩ := drop_step h
  obtain ⟨p1, p2, p3⟩ := drop_step hq
  have hb := of_decide_eq_true (hw p (List.mem_of_mem_drop (hq ▸ List.mem_cons_self : p ∈ ins.drop i)))
  obtain ⟨j, ih⟩ := inE_loop N k0 k1 nm ins els nodes rules outs attrs hi hw l hl r q n (i + 1) h3 p3 (by simp at hn; omega)
  rw [design_each_int_network_inputsErr_c1_l0, cond_pos (by omega), h2, some_bind']
  unfold design_network_inputsErr_c1
  rw [p2, some_bind', dfits N x _ hb.1 hb.2, dunless, show fitL ((p :: q).map (·.2)) (x :: r) = (vok p.2 x && fitL (q.map (·.2)) r) from rfl]
  cases vok p.2 x
  ·exact ⟨i, rfl⟩
  ·refine ⟨j, ?_⟩
   rw [if_pos rfl]
   try dsimp only
   rw [cond_neg (by simp), w64_suc (by omega), ih, Bool.true_and]
theorem stE_loop (N : Nat) (k0 : Int → Int → KD (Option R)) (k1 : KD (Option R)) (nm : ByteArray) (ins : List PortT) (els : List ElemT) (nodes : List Nd) (rules : List RuleT) (outs : List PortT) (attrs : List AttrT) (hi : els.length ≤ 1000000) (hw : ∀ x, x ∈ els → wOK x.2.2.1 = true) (l : List Int) (hl : l.length = els.length) : ∀ (r : List Int) (q : List ElemT) (n i : Nat), l.drop i = r → els.drop i = q → r.length < n →
  ∃ j : Int, design_each_int_network_stateErr_c1_l0 N k0 k1 n l l.length i nm ins els nodes rules outs attrs = if fitL (q.map (·.2.2.1)) r = true then k1 nm ins els nodes rules outs attrs else k0 j 2 nm ins els nodes rules outs attrs
 | [], q, n, i, h, hq, hn => by
  obtain ⟨n, rfl⟩ := sc hn
  have : fitL (q.map (·.2.2.1)) [] = true := by cases q <;> rfl
  exact ⟨0, by rw [design_each_int_network_stateErr_c1_l0, cond_neg (drop_end h), if_pos this]⟩
 | x :: r, [], n, i, h, hq, hn => by
  have h1 := (drop_step h).1
  have := List.drop_eq_nil_iff.1 hq
  omega
 | x :: r, p :: q, n, i, h, hq, hn => by
  obtain ⟨n, rfl⟩ := sc hn
  obtain ⟨h1, h2, h3⟩ := drop_step h
  obtain ⟨p1, p2, p3⟩ := drop_step hq
  have hb := of_decide_eq_true (hw p (List.mem_of_mem_drop (hq ▸ List.mem_cons_self : p ∈ els.drop i)))
  obtain ⟨j, ih⟩ := stE_loop N k0 k1 nm ins els nodes rules outs attrs hi hw l hl r q n (i + 1) h3 p3 (by simp at hn; omega)
  rw [design_each_int_network_stateErr_c1_l0, cond_pos (by omega), h2, some_bind']
  unfold design_network_stateErr_c1
  rw [p2, some_bind', dfits N x _ hb.1 hb.2, dunless, show fitL ((p :: q).map (·.2.2.1)) (x :: r) = (vok p.2.2.1 x && fitL (q.map (·.2.2.1)) r) from rfl]
  cases vok p.2.2.1 x
  ·exact ⟨i, rfl⟩
  ·refine ⟨j, ?_⟩
   rw [if_pos rfl]
   try dsimp only
   rw [cond_neg (by simp), w64_suc (by omega), ih, Bool.true_and]
def inW (ins : List PortT) : List Int := ins.map (·.2)
def elW (els : List ElemT) : List Int := els.map (·.2.2.1)
section
variable {N : Nat} {nm : ByteArray} {ins : List PortT} {els : List ElemT} {nodes : List Nd} {rules : List RuleT} {outs : List PortT} {attrs : List AttrT}
theorem inE_eq (h : DH N nm ins els nodes rules outs attrs) (hv : DV ins els nodes rules outs) (l : List Int) (k : Int → Option R) : design_network_inputsErr N nm ins els nodes rules outs attrs l k = k (valE (inW ins) l) := by
 unfold design_network_inputsErr valE inW
 rw [List.length_map]
 by_cases c : l.length = ins.length
 ·rw [cond_neg (by omega), if_pos c]
  unfold design_each_int_network_inputsErr_c1
  have hi := h.ins
  obtain ⟨j, e⟩ := inE_loop N (fun y1 y2 y3 y4 y5 y6 y7 y8 y9 => k y2) (fun z19 z20 z21 z22 z23 z24 z25 => k 0) nm ins els nodes rules outs attrs hi.1 hv.insW l c l ins N 0 rfl rfl (by omega)
  refine e.trans ?_
  cases fitL (ins.map (·.2)) l <;> rfl
 ·rw [cond_pos (by omega), if_neg c]
theorem stE_eq (h : DH N nm ins els nodes rules outs attrs) (hv : DV ins els nodes rules outs) (l : List Int) (k : Int → Option R) : design_network_stateErr N nm ins els nodes rules outs attrs l k = k (valE (elW els) l) := by
 unfold design_network_stateErr valE elW
 rw [List.length_map]
 by_cases c : l.length = els.length
 ·rw [cond_neg (by omega), if_pos c]
  unfold design_each_int_network_stateErr_c1
  have hi := h.els
  obtain ⟨j, e⟩ := stE_loop N (fun y1 y2 y3 y4 y5 y6 y7 y8 y9 => k y2) (fun z19 z20 z21 z22 z23 z24 z25 => k 0) nm ins els nodes rules outs attrs hi.1 (fun x hx => (hv.elsW x hx).2.1) l c l els N 0 rfl rfl (by omega)
  refine e.trans ?_
  cases fitL (els.map (·.2.2.1)) l <;> rfl
 ·rw [cond_pos (by omega), if_neg c]
theorem concat2 (hN : 1000 ≤ N) (a b : List Int) (ha : a.length ≤ 1000000) (hb : b.length ≤ 1000000) (k : List Int → Option R) : slices_Concat_state_int N [a, b] k = k (a ++ b) := by
 obtain ⟨M, rfl⟩ : ∃ M, N = M + 3 := ⟨N - 3, by omega⟩
 have e0 : at? [a, b] 0 = some a := rfl
 have e1 : at? [a, b] 1 = some b := rfl
 have w1 : w64 (0 + 1) = 1 := rfl
 have w2 : w64 (1 + 1) = 2 := rfl
 have g : growB 8 ((a.length : Int) + (b.length : Int)) = true := by
  unfold growB
  exact decide_eq_true ⟨by omega, by omega, by omega⟩
 unfold slices_Concat_state_int
 rw [slices_Concat_state_int_l0, cond_pos (by simp), e0, some_bind', w64_id (x := 0 + ((a.length : Nat) : Int)) (by omega) (by omega), cond_neg (by omega), w1,
  slices_Concat_state_int_l0, cond_pos (by simp), e1, some_bind', Int.zero_add, w64_id (x := (a.length : Int) + ((b.length : Nat) : Int)) (by omega) (by omega), cond_neg (by omega), w2,
  slices_Concat_state_int_l0, cond_neg (by simp)]
 try dsimp only
 rw [g, cond_true, slices_Concat_state_int_l1, cond_pos (by simp), e0, some_bind', roomB_of (by simp; omega), cond_true, w1,
  slices_Concat_state_int_l1, cond_pos (by simp), e1, some_bind', roomB_of (by simp; omega), cond_true, w2, slices_Concat_state_int_l1, cond_neg (by simp)]
 rfl
def dV (nodes : List Nd) (inp s : List Int) : List Int := nvG (inp ++ s) nodes nodes []
theorem values_eq (hN : 1000 ≤ N) (h : DH N nm ins els nodes rules outs attrs) (hv : DV ins els nodes rules outs) {inp s : List Int} (hi : LV (inW ins) inp) (hs : LV (elW els) s) (k : List Int → Option R) :
  design_network_values N nm ins els nodes rules outs attrs inp s k = k (dV nodes inp s) := by
 unfold design_network_values
 have h1 := hi.1; have h2 := hs.1; have h3 := h.ins; have h4 := h.els
 unfold inW at h1
 unfold elW at h2
 rw [List.length_map] at h1 h2
 rw [leaves_eq h, concat2 hN inp s (by omega) (by omega), valuesOf_ok N hN h.nodes.2 hv.chk (LV_app hi hs)]
 rfl
theorem dV_ok (hv : DV ins els nodes rules outs) {inp s : List Int} (hi : LV (inW ins) inp) (hs : LV (elW els) s) : (dV nodes inp s).length = nodes.length ∧ ∀ j, j < nodes.length → vok (wdOf nodes j) (w0 (dV nodes inp s) j) = true :=
 nvG_ok (LV_app hi hs) (chkC_0 hv.chk).2.2.2
theorem dV_at (hv : DV ins els nodes rules outs) {inp s : List Int} (hi : LV (inW ins) inp) (hs : LV (elW els) s) {n : Int} (hn : isNd nodes n = true) : at? (dV nodes inp s) n = some (w0 (dV nodes inp s) n.toNat) := by
 have hn := of_decide_eq_true hn
 have := (dV_ok hv hi hs).1
 obtain ⟨a, rfl⟩ : ∃ a : Nat, n = a := ⟨n.toNat, by omega⟩
 rw [Int.toNat_natCast]; exact at_w0 (by omega)
def elI (els : List ElemT) : List Int := els.map (·.2.2.2.1)
theorem reset_loop (N : Nat) (k0 : List Int → Option R) (l : List ElemT) (hl : l.length ≤ 1000000) : ∀ (r : List ElemT) (n i : Nat) (acc : List Int), l.drop i = r → r.length < n → acc.length ≤ i →
  design_network_reset_l0 N k0 n l l.length i acc = k0 (acc ++ elI r)
 | [], n, i, acc, h, hn, ha => by
  obtain ⟨n, rfl⟩ := sc hn
  rw [design_network_reset_l0, cond_neg (drop_end h)]
  unfold elI
  rw [List.map_nil, List.append_nil]
 | x :: r, n, i, acc, h, hn, ha => by
  obtain ⟨n, rfl⟩ := sc hn
  obtain ⟨h1, h2, h3⟩ := drop_step h
  rw [design_network_reset_l0, cond_pos (by omega), h2, some_bind', roomB_of (by omega), cond_true, w64_suc (by omega), reset_loop N k0 l hl r n (i + 1) (acc ++ [x.2.2.2.1]) h3 (by simp at hn; omega) (by simp; omega), List.append_assoc]
  rfl
theorem open_eq (hN : 1000 ≤ N) (h : DH N nm ins els nodes rules outs attrs) (k : KD (Int → Option R)) : design_open N nm ins els nodes rules outs attrs k = k nm ins els nodes rules outs attrs (dcode nm ins els nodes rules outs attrs) := by
 unfold design_open
 obtain ⟨j, e⟩ := checkDesign hN h (fun y1 y2 => k nm ins els nodes rules outs attrs y2)
 exact e
theorem resetOf_eq (hN : 1000 ≤ N) (h : DH N nm ins els nodes rules outs attrs) (k : List Int → Int → Option R) : design_ResetOf N nm ins els nodes rules outs attrs k = if dcode nm ins els nodes rules outs attrs = 0 then k (elI els) 0 else k [] (dcode nm ins els nodes rules outs attrs) := by
 unfold design_ResetOf
 rw [open_eq hN h]
 by_cases c : dcode nm ins els nodes rules outs attrs = 0
 ·rw [cond_neg (by simp [c]), if_pos c]
  unfold design_network_reset
  exact reset_loop N _ els h.els.1 els N 0 [] rfl h.els.2.1 (by simp)
 ·rw [cond_pos c, if_neg c]
theorem reset_LV (hv : DV ins els nodes rules outs) : LV (elW els) (elI els) := by
 unfold elW elI
 refine ⟨by simp, fun i hi => ?_⟩
 have hi : i < els.length := by simpa using hi
 rw [w0_map hi, w0_map hi]
 exact (hv.elsW _ (List.getElem_mem hi)).2.2.1
theorem outsIn_loop (N : Nat) (k : List Int → Option R) (V : List Int) (l : List PortT) (hl : l.length ≤ 1000000) (hV : ∀ x, x ∈ l → at? V x.2 = some (w0 V x.2.toNat)) : ∀ (r : List PortT) (n i : Nat) (acc : List Int), l.drop i = r → r.length < n → acc.length ≤ i →
  design_OutputsIn_l0 N k n V l l.length i acc = k (acc ++ r.map fun o => w0 V o.2.toNat)
 | [], n, i, acc, h, hn, ha => by
  obtain ⟨n, rfl⟩ := sc hn
  rw [design_OutputsIn_l0, cond_neg (drop_end h), List.map_nil, List.append_nil]
 | x :: r, n, i, acc, h, hn, ha => by
  obtain ⟨n, rfl⟩ := sc hn
  obtain ⟨h1, h2, h3⟩ := drop_step h
  have hx := hV x (List.mem_of_mem_drop (h ▸ List.mem_cons_self : x ∈ l.drop i))
  rw [design_OutputsIn_l0, cond_pos (by omega), h2, some_bind', hx, some_bind', roomB_of (by omega), cond_true, w64_suc (by omega), outsIn_loop N k V l hl hV r n (i + 1) (acc ++ [w0 V x.2.toNat]) h3 (by simp at hn; omega) (by simp; omega), List.map_cons, List.append_assoc]
  rfl
theorem outputsIn_ok (hN : 1000 ≤ N) (h : DH N nm ins els nodes rules outs attrs) (hc : dcode nm ins els nodes rules outs attrs = 0) {inp s : List Int} (hi : LV (inW ins) inp) (hs : LV (elW els) s) (k : List Int → Int → Option R) :
  design_OutputsIn N nm ins els nodes rules outs attrs inp s k = k (outs.map fun o => w0 (dV nodes inp s) o.2.toNat) 0 := by
 have hv := dv_of hc
 unfold design_OutputsIn design_openState
 rw [open_eq hN h, hc]
 try dsimp only
 rw [cond_pos rfl, inE_eq h hv, stE_eq h hv, valE_0.2 hi, valE_0.2 hs, dfirst2 N (by omega), f1_z]
 rw [cond_neg (by simp), values_eq hN h hv hi hs]
 have ho := h.outs
 exact outsIn_loop N _ _ outs ho.1 (fun x hx => dV_at hv hi hs (hv.outsW x hx)) outs N 0 [] rfl ho.2.1 (by simp)
def hap (V : List Int) : List WrT → List Int → List Int
 | [], s => s
 | x :: r, s => hap V r (if w0 V x.2.1.toNat = 1 then s.set x.1.toNat (w0 V x.2.2.toNat) else s)
theorem hap_loop (N : Nat) (k : List Int → Option R) (V : List Int) (l : List WrT) (hl : l.length ≤ 1000000) (m : Nat) (hV : ∀ x, x ∈ l → (0 ≤ x.1 ∧ x.1 ≤ (m : Int) - 1) ∧ at? V x.2.1 = some (w0 V x.2.1.toNat) ∧ at? V x.2.2 = some (w0 V x.2.2.toNat)) : ∀ (r : List WrT) (n i : Nat) (s : List Int), l.drop i = r → r.length < n → s.length = m →
  design_network_happened_l0 N k n V l l.length i s = k (hap V r s)
 | [], n, i, s, h, hn, ha => by
  obtain ⟨n, rfl⟩ := sc hn
  rw [design_network_happened_l0, cond_neg (drop_end h)]; rfl
 | x :: r, n, i, s, h, hn, ha => by
  obtain ⟨n, rfl⟩ := sc hn
  obtain ⟨h1, h2, h3⟩ := drop_step h
  have hx := hV x (List.mem_of_mem_drop (h ▸ List.mem_cons_self : x ∈ l.drop i))
  rw [design_network_happened_l0, cond_pos (by omega), h2, some_bind', hx.2.1, some_bind', w64_suc (by omega)]
  by_cases c : w0 V x.2.1.toNat = 1
  ·rw [cond_pos c, hx.2.2, some_bind', inR_of hx.1.1 (by omega), cond_true, List.getElem?_eq_getElem (by omega), some_bind', hap_loop N k V l hl m hV r n (i + 1) _ h3 (by simp at hn; omega) (by simpa using ha)]
   show _ = k (hap V r (if _ then _ else _))
   rw [if_pos c]
  ·rw [cond_neg c, hap_loop N k V l hl m hV r n (i + 1) _ h3 (by simp at hn; omega) ha]
   show _ = k (hap V r (if _ then _ else _))
   rw [if_neg c]
theorem w0_set {s : List Int} {i j : Nat} (v : Int) (h : i < s.length) : w0 (s.set i v) j = if i = j then v else w0 s j := by
 unfold w0
 rw [List.getElem?_set]
 by_cases c : i = j
 ·subst c; rw [if_pos rfl, if_pos h, if_pos rfl]; rfl
 ·rw [if_neg c, if_neg c]
theorem hap_LV {els : List ElemT} {nodes : List Nd} {V : List Int} (hV : ∀ j, j < nodes.length → vok (wdOf nodes j) (w0 V j) = true) : ∀ (l : List WrT) (s : List Int), (∀ x, x ∈ l → WrOK els nodes x) → LV (elW els) s → LV (elW els) (hap V l s)
 | [], s, _, hs => hs
 | x :: r, s, hl, hs => by
  show LV (elW els) (hap V r (if _ then _ else _))
  refine hap_LV hV r _ (fun y hy => hl y (List.mem_cons_of_mem _ hy)) ?_
  split
  ·obtain ⟨h1, h2, h3, h4⟩ := hl x List.mem_cons_self
   have h3 := of_decide_eq_true h3
   have hlen : (elW els).length = els.length := by unfold elW; simp
   have hsl := hs.1
   refine ⟨by rw [List.length_set]; exact hs.1, fun i hi => ?_⟩
   rw [w0_set _ (by omega)]
   split
   ·rename_i e
    subst e
    have := hV x.2.2.toNat (by omega)
    rw [show ((x.2.2.toNat : Nat) : Int) = x.2.2 by omega, h4] at this
    have he : w0 (elW els) x.1.toNat = ewd els x.1 := by
     unfold elW ewd
     rw [w0_map (by omega), List.getElem?_eq_getElem (by omega)]; rfl
    rw [he]; exact this
   ·exact hs.2 i hi
  ·exact hs
theorem happened_ok (hN : 1000 ≤ N) (h : DH N nm ins els nodes rules outs attrs) (hc : dcode nm ins els nodes rules outs attrs = 0) {inp s : List Int} (hi : LV (inW ins) inp) (hs : LV (elW els) s) {a : Nat} (ha : a < rules.length) (k : List Int → Int → Option R) :
  design_Happened N nm ins els nodes rules outs attrs a inp s k = if w0 (dV nodes inp s) rules[a].2.1.toNat = 1 then k (hap (dV nodes inp s) rules[a].2.2 s) 0 else k [] 24 := by
 have hv := dv_of hc
 have hr := hv.nr
 have hx := hv.rulesW _ (List.getElem_mem ha)
 have hg := hx.1
 unfold isCond at hg
 rw [Bool.and_eq_true] at hg
 have hsl := hs.1
 have he := h.els
 unfold elW at hsl
 rw [List.length_map] at hsl
 unfold design_Happened
 rw [open_eq hN h, hc]
 try dsimp only
 rw [cond_pos rfl]
 unfold design_network_ruleErr
 rw [w64_id (by omega) (by omega), dwithin, dunless, decide_eq_true (by omega), if_pos rfl, inE_eq h hv, stE_eq h hv, valE_0.2 hi, valE_0.2 hs, dfirst3 N (by omega), f1_z, f1_z]
 unfold design_Happened_j0
 rw [cond_neg (by simp), values_eq hN h hv hi hs]
 unfold design_network_isEnabled
 rw [at?_lt ha, some_bind', dV_at hv hi hs hg.1, some_bind']
 by_cases c : w0 (dV nodes inp s) rules[a].2.1.toNat = 1
 ·rw [decide_eq_true c, if_pos c]
  try dsimp only
  rw [Bool.not_true, cond_false]
  unfold design_network_happened
  rw [roomB_of (by omega), cond_true, at?_lt ha, some_bind']
  exact hap_loop N _ _ _ (by omega) els.length (fun y hy => by
   obtain ⟨q1, q2, q3, q4⟩ := hx.2.2 y hy
   unfold isCond at q2
   rw [Bool.and_eq_true] at q2
   exact ⟨q1, dV_at hv hi hs q2.1, dV_at hv hi hs q3⟩) _ N 0 s rfl (by omega) hsl
 ·rw [decide_eq_false c, if_neg c]; rfl
theorem happened_LV (hv : DV ins els nodes rules outs) {inp s : List Int} (hi : LV (inW ins) inp) (hs : LV (elW els) s) {a : Nat} (ha : a < rules.length) : LV (elW els) (hap (dV nodes inp s) rules[a].2.2 s) :=
 hap_LV (dV_ok hv hi hs).2 _ s (hv.rulesW _ (List.getElem_mem ha)).2.2 hs
end

theorem awithin (N : Nat) (a lo hi : Int) (k : Bool → Option R) : arith_within N a lo hi k = k (decide (lo ≤ a ∧ a ≤ hi)) := by
 unfold arith_within
 by_cases h : lo ≤ a <;> simp [h]
theorem aunless (N : Nat) (b : Bool) (e : Int) (k : Int → Option R) : arith_unless N b e k = k (if b = true then 0 else e) := by cases b <;> rfl
theorem afirst_loop (N : Nat) (k0 : Int → Option R) (k1 : Option R) (l : List Int) (hl : l.length ≤ 1000000) : ∀ (r : List Int) (n i : Nat), l.drop i = r → r.length < n → arith_first_l0 N k0 k1 n l l.length i = match r.find? (fun x => decide (x ≠ 0)) with | some x => k0 x | none => k1
 | [], n, i, h, hn => by
  obtain ⟨n, rfl⟩ := sc hn
  rw [arith_first_l0, cond_neg (drop_end h)]; rfl
 | x :: r, n, i, h, hn => by
  obtain ⟨n, rfl⟩ := sc hn
  obtain ⟨h1, h2, h3⟩ := drop_step h
  rw [arith_first_l0, cond_pos (by omega), h2, some_bind', List.find?_cons]
  by_cases hx : x = 0
  ·rw [cond_neg (by simp [hx]), w64_suc (by omega)]
   simp only [hx, ne_eq, not_true, decide_false]
   exact afirst_loop N k0 k1 l hl r n (i + 1) h3 (by simp at hn; omega)
  ·rw [cond_pos hx]; simp [hx]
def f1L : List Int → Int
 | [] => 0
 | x :: r => f1 x (f1L r)
theorem f1L_find : ∀ l : List Int, f1L l = (l.find? (fun x => decide (x ≠ 0))).getD 0
 | [] => rfl
 | x :: r => by
  show f1 x (f1L r) = _
  rw [f1L_find r, List.find?_cons]
  unfold f1
  by_cases h : x = 0 <;> simp [h]
theorem afirst (N : Nat) (l : List Int) (hN : l.length < N) (hl : l.length ≤ 1000000) (k : Int → Option R) : arith_first N l k = k (f1L l) := by
 unfold arith_first
 have := afirst_loop N k (k 0) l hl l N 0 rfl hN
 rw [Int.natCast_zero] at this
 rw [this, f1L_find]
 cases l.find? (fun x => decide (x ≠ 0)) <;> rfl
def tapB (n : Int) : Bool := decide (-7 ≤ n ∧ n ≤ 7)
theorem taps_loop (N : Nat) (k0 : Int → Option R) (k1 : Option R) (l : List Int) (hl : l.length ≤ 1000000) : ∀ (r : List Int) (n i : Nat), l.drop i = r → r.length < n → ∃ j : Nat, slices_IndexFunc_Lint_int_filterErr_c1_l0 N k0 k1 n l l.length i = if r.all tapB = true then k1 else k0 j
 | [], n, i, h, hn => by
  obtain ⟨n, rfl⟩ := sc hn
  exact ⟨0, by rw [slices_IndexFunc_Lint_int_filterErr_c1_l0, cond_neg (drop_end h)]; rfl⟩
 | x :: r, n, i, h, hn => by
  obtain ⟨n, rfl⟩ := sc hn
  obtain ⟨h1, h2, h3⟩ := drop_step h
  obtain ⟨j, ih⟩ := taps_loop N k0 k1 l hl r n (i + 1) h3 (by simp at hn; omega)
  rw [slices_IndexFunc_Lint_int_filterErr_c1_l0, cond_pos (by omega), h2, some_bind']
  unfold arith_each_int__c1_filterErr_c1 arith_filterErr_c1
  rw [awithin, List.all_cons]
  show ∃ j : Nat, (bif !tapB x then _ else _) = _
  cases tapB x
  ·exact ⟨i, rfl⟩
  ·refine ⟨j, ?_⟩
   rw [Bool.not_true, cond_false, w64_suc (by omega), ih, Bool.true_and]
theorem taps_each (N : Nat) (l : List Int) (hl : l.length ≤ 1000000) (hN : l.length < N) (k : Bool → Option R) : arith_each_int_filterErr_c1 N l k = k (l.all tapB) := by
 unfold arith_each_int_filterErr_c1 slices_ContainsFunc_Lint_int_filterErr_c1 slices_IndexFunc_Lint_int_filterErr_c1
 obtain ⟨j, e⟩ := taps_loop N (fun y1 => k (!decide (0 ≤ y1))) (k (!decide ((0 : Int) ≤ -1))) l hl l N 0 rfl hN
 rw [Int.natCast_zero] at e
 refine e.trans ?_
 cases l.all tapB
 ·rw [if_neg (by simp), decide_eq_true (by omega)]; rfl
 ·rfl
def ferF (l : List Int) (W Rw : Int) : Int := f1 (if 0 < l.length then 0 else 10) (f1 (if l.length ≤ 4 then 0 else 8) (f1 (if l.all tapB = true then 0 else 2) (if (1 ≤ W ∧ W ≤ 8) ∧ W ≤ Rw ∧ Rw ≤ 16 then 0 else 25)))
theorem dec_if {c : Prop} [Decidable c] {d : Prop} [Decidable d] (h : c ↔ d) (e : Int) : (if decide c = true then (0 : Int) else e) = if d then 0 else e := by
 by_cases q : d
 ·rw [if_pos q, decide_eq_true (h.2 q), if_pos rfl]
 ·rw [if_neg q, decide_eq_false (fun x => q (h.1 x))]; rfl
theorem filterErr_eq (N : Nat) (hN : 10 ≤ N) (l : List Int) (hl : l.length ≤ 1000000) (hlN : l.length < N) (W Rw : Int) (k : Int → Option R) : arith_filterErr N l W Rw k = k (ferF l W Rw) := by
 unfold arith_filterErr ferF
 rw [aunless, aunless, taps_each N l hl hlN, aunless, awithin, dec_if (d := 0 < l.length) (by omega), dec_if (d := l.length ≤ 4) (by omega)]
 by_cases c : 1 ≤ W ∧ W ≤ 8
 ·rw [decide_eq_true c, cond_true, awithin, aunless, afirst N _ (by simp; omega) (by simp), dec_if (c := W ≤ Rw ∧ Rw ≤ 16) (d := (1 ≤ W ∧ W ≤ 8) ∧ W ≤ Rw ∧ Rw ≤ 16) ⟨fun h => And.intro c h, fun h => And.right h⟩]
  show k (f1 _ (f1 _ (f1 _ (f1 _ 0)))) = _
  congr 4
  unfold f1; split <;> simp_all
 ·rw [decide_eq_false c, cond_false, aunless, afirst N _ (by simp; omega) (by simp), if_neg (show ¬ ((1 ≤ W ∧ W ≤ 8) ∧ W ≤ Rw ∧ Rw ≤ 16) from fun h => c h.1)]
  rfl
theorem ferF_0 {l : List Int} {W Rw : Int} (h : ferF l W Rw = 0) : (0 < l.length ∧ l.length ≤ 4) ∧ l.all tapB = true ∧ (1 ≤ W ∧ W ≤ 8) ∧ W ≤ Rw ∧ Rw ≤ 16 := by
 unfold ferF at h
 simp only [f1_0] at h
 obtain ⟨h1, h2, h3, h4⟩ := h
 refine ⟨⟨?_, ?_⟩, ?_, ?_⟩
 ·split at h1
  ·assumption
  ·cases h1
 ·split at h2
  ·assumption
  ·cases h2
 ·split at h3
  ·assumption
  ·cases h3
 ·split at h4
  ·rename_i q; exact q
  ·cases h4
abbrev NdF := Int × Int × List Int × Int
def fl5 (W Rw : Int) (i : Nat) (y t : Int) : List NdF := [(1, W, [], (i : Int)), (16, Rw, [((5 * i + 2 : Nat) : Int)], 0), (0, Rw, [], t % p2 Rw), (8, Rw, [((5 * i + 3 : Nat) : Int), ((5 * i + 4 : Nat) : Int)], 0), (6, Rw, [y, ((5 * i + 5 : Nat) : Int)], 0)]
def flN (W Rw : Int) : Nat → Int → List Int → List NdF
 | _, _, [] => []
 | i, y, t :: r => fl5 W Rw i y t ++ flN W Rw (i + 1) ((5 * i + 6 : Nat) : Int) r
def flY : Nat → Int → List Int → Int
 | _, y, [] => y
 | i, _, _ :: r => flY (i + 1) ((5 * i + 6 : Nat) : Int) r
def dName (i : Nat) : ByteArray := ByteArray.mk #[100] ++ itoaB (i : Int)
def flE (W : Int) : Nat → List Int → List (ByteArray × Int × Int × Int × Int)
 | _, [] => []
 | i, _ :: r => (if i = 0 then [] else [(dName i, 0, W, 0, 0)]) ++ flE W (i + 1) r
def flW : Nat → List (Int × Int × Int) → List Int → List (Int × Int × Int)
 | _, wr, [] => wr
 | i, wr, _ :: r => flW (i + 1) (if i = 0 then wr else (((i - 1 : Nat) : Int), 0, ((5 * (i - 1) + 2 : Nat) : Int)) :: wr) r
theorem fnode (N : Nat) (op wd : Int) (as_ : List Int) (v : Int) (nm : ByteArray) (ins : List (ByteArray × Int)) (els : List (ByteArray × Int × Int × Int × Int)) (nodes : List NdF) (hn : nodes.length ≤ 1000000) (k : Int → ByteArray → List (ByteArray × Int) → List (ByteArray × Int × Int × Int × Int) → List NdF → Option R) :
  arith_FilterOf_c1_v2 N op wd as_ v nm ins els nodes k = k (nodes.length : Nat) nm ins els (nodes ++ [(op, wd, as_, v)]) := by
 unfold arith_FilterOf_c1_v2
 rw [roomB_of (by omega), cond_true, List.length_append, List.length_singleton, w64_id (by omega) (by omega)]
 congr 1; omega
theorem fconst (N : Nat) {wd : Int} (h0 : 0 ≤ wd) (h : wd ≤ 16) (v : Int) (nm : ByteArray) (ins : List (ByteArray × Int)) (els : List (ByteArray × Int × Int × Int × Int)) (nodes : List NdF) (hn : nodes.length ≤ 1000000) (k : Int → ByteArray → List (ByteArray × Int) → List (ByteArray × Int × Int × Int × Int) → List NdF → Option R) :
  arith_FilterOf_c2_v2 N wd v nm ins els nodes k = k (nodes.length : Nat) nm ins els (nodes ++ [(0, wd, [], v % p2 wd)]) := by
 have := p2_pos wd; have := p2_16 h
 unfold arith_FilterOf_c2_v2
 rw [cond_neg (by omega), shl_p2 h0 (by omega), w64_id (by omega) (by omega), and_mask v wd h0 h, fnode N _ _ _ _ nm ins els nodes hn]
theorem itoa_small {i : Nat} (h0 : 0 < i) (h : i ≤ 3) : (itoaB (i : Int)).size = 1 := by
 obtain rfl | rfl | rfl : i = 1 ∨ i = 2 ∨ i = 3 := by omega
 ·kernel_rfl
 ·kernel_rfl
 ·kernel_rfl
theorem filter_j0 (N : Nat) {W Rw : Int} (hR : 0 ≤ Rw ∧ Rw ≤ 16) (i : Nat) (hi : i ≤ 4) (y t : Int) (l : List Int) (len : Int) (B nm : ByteArray) (ins : List (ByteArray × Int)) (els : List (ByteArray × Int × Int × Int × Int)) (nodes : List NdF) (hn : nodes.length = 5 * i + 2) (sh : ByteArray) (g : Int) (wr : List (Int × Int × Int)) (smp : List Int) (hs : smp.length = i)
  (k : Int → Int → List Int → Int → Int → List Int → Int → Int → ByteArray → ByteArray → List (ByteArray × Int) → List (ByteArray × Int × Int × Int × Int) → List NdF → ByteArray → Int → List (Int × Int × Int) → List Int → Option R) :
  arith_FilterOf_j0 N k 0 y i t l len i l W Rw B nm ins els nodes sh g wr smp = k 0 ((5 * i + 6 : Nat) : Int) l len i l W Rw B nm ins els (nodes ++ fl5 W Rw i y t) sh g wr (smp ++ [((5 * i + 2 : Nat) : Int)]) := by
 have e1 : (smp ++ [((nodes.length : Nat) : Int)])[((i : Nat) : Int).toNat]? = some ((nodes.length : Nat) : Int) := by
  rw [Int.toNat_natCast, List.getElem?_append_right (by omega), hs, Nat.sub_self]; rfl
 unfold arith_FilterOf_j0
 rw [fnode N 1 W [] i nm ins els nodes (by omega), roomB_of (by omega), cond_true, List.length_append, List.length_singleton, inR_of (by omega) (by omega), cond_true, e1, some_bind', fnode N _ _ _ _ nm ins els _ (by simp; omega), fconst N hR.1 hR.2 _ nm ins els _ (by simp; omega), fnode N _ _ _ _ nm ins els _ (by simp; omega), fnode N _ _ _ _ nm ins els _ (by simp; omega)]
 simp only [List.append_assoc, List.length_append, List.length_singleton, List.singleton_append, hn]
 rfl
theorem filter_loop (N : Nat) {W Rw : Int} (hR : 0 ≤ Rw ∧ Rw ≤ 16) (l : List Int) (hl : l.length ≤ 4) (B nm : ByteArray) (ins : List (ByteArray × Int)) (sh : ByteArray) (g : Int) (k : Int → ByteArray → ByteArray → List (ByteArray × Int) → List (ByteArray × Int × Int × Int × Int) → List NdF → ByteArray → Int → List (Int × Int × Int) → Option R) : ∀ (r : List Int) (n i : Nat) (y : Int) (els : List (ByteArray × Int × Int × Int × Int)) (nodes : List NdF) (wr : List (Int × Int × Int)) (smp : List Int),
  l.drop i = r → r.length < n → nodes.length = 5 * i + 2 → smp.length = i → (∀ j, j < i → smp[j]? = some ((5 * j + 2 : Nat) : Int)) → els.length ≤ i → wr.length ≤ i →
  arith_FilterOf_l0 N k n 0 y l l.length i l W Rw B nm ins els nodes sh g wr smp = k (flY i y r) B nm ins (els ++ flE W i r) (nodes ++ flN W Rw i y r) sh g (flW i wr r)
 | [], n, i, y, els, nodes, wr, smp, h, hn, h1, h2, h3, h4, h5 => by
  obtain ⟨n, rfl⟩ := sc hn
  rw [arith_FilterOf_l0, cond_neg (drop_end h)]
  unfold flY flE flN flW
  rw [List.append_nil, List.append_nil]
 | t :: r, n, i, y, els, nodes, wr, smp, h, hn, h1, h2, h3, h4, h5 => by
  obtain ⟨n, rfl⟩ := sc hn
  obtain ⟨q1, q2, q3⟩ := drop_step h
  have hsm : ∀ j, j < i + 1 → (smp ++ [((5 * i + 2 : Nat) : Int)])[j]? = some ((5 * j + 2 : Nat) : Int) := by
   intro j hj
   by_cases e : j = i
   ·subst e; rw [List.getElem?_append_right (by omega), h2, Nat.sub_self]; rfl
   ·rw [List.getElem?_append_left (by omega)]; exact h3 j (by omega)
  rw [arith_FilterOf_l0, cond_pos (by omega), q2, some_bind']
  by_cases c : i = 0
  ·subst c
   rw [cond_neg (by omega), filter_j0 N hR 0 (by omega) y t l _ B nm ins els nodes h1 sh g wr smp h2, w64_suc (by omega)]
   refine (filter_loop N hR l hl B nm ins sh g k r n 1 ((5 * 0 + 6 : Nat) : Int) els (nodes ++ fl5 W Rw 0 y t) wr (smp ++ [((5 * 0 + 2 : Nat) : Int)]) q3 (by simp at hn; omega) (by rw [List.length_append, h1]; rfl) (by rw [List.length_append, h2]; rfl) hsm (by omega) (by omega)).trans ?_
   rw [List.append_assoc]; rfl
  ·have hz : (ByteArray.mk #[100]).size = 1 := rfl
   rw [cond_pos (by omega),
    cond_pos (by omega),
    cond_neg (by rw [itoa_small (by omega) (by omega), hz]; omega),
    roomB_of (by omega), cond_true,
    w64_id (by omega) (by omega),
    show ((i : Int) - 1) = ((i - 1 : Nat) : Int) by omega, inR_of (by omega) (by omega), cond_true, Int.toNat_natCast, h3 (i - 1) (by omega), some_bind', roomB_of (by omega), cond_true,
    filter_j0 N hR i (by omega) y t l _ B nm ins _ nodes h1 sh g _ smp h2, w64_suc (by omega)]
   refine (filter_loop N hR l hl B nm ins sh g k r n (i + 1) ((5 * i + 6 : Nat) : Int) (els ++ [(dName i, 0, W, 0, 0)]) (nodes ++ fl5 W Rw i y t) ((((i - 1 : Nat) : Int), 0, ((5 * (i - 1) + 2 : Nat) : Int)) :: wr) (smp ++ [((5 * i + 2 : Nat) : Int)]) q3 (by simp at hn; omega) (by rw [List.length_append, h1]; show 5 * i + 2 + 5 = _; omega) (by rw [List.length_append, h2]; rfl) hsm (by simp; omega) (by simp; omega)).trans ?_
   rw [List.append_assoc, List.append_assoc]
   have e1 : flE W i (t :: r) = [(dName i, 0, W, 0, 0)] ++ flE W (i + 1) r := by
    show (if i = 0 then [] else _) ++ _ = _
    rw [if_neg c]
   have e2 : flW i wr (t :: r) = flW (i + 1) ((((i - 1 : Nat) : Int), 0, ((5 * (i - 1) + 2 : Nat) : Int)) :: wr) r := by
    show flW (i + 1) (if i = 0 then _ else _) r = _
    rw [if_neg c]
   rw [e1, e2]
   rfl
def fNodes (W Rw : Int) (l : List Int) : List NdF := [(0, 1, [], 1), (0, Rw, [], 0)] ++ flN W Rw 0 1 l
def nFilter : ByteArray := ByteArray.mk #[102, 105, 108, 116, 101, 114]
def nX : ByteArray := ByteArray.mk #[120]
def nY : ByteArray := ByteArray.mk #[121]
def nShift : ByteArray := ByteArray.mk #[115, 104, 105, 102, 116]
theorem filterOf_ok (N : Nat) (hN : 10 ≤ N) {l : List Int} {W Rw : Int} (h : ferF l W Rw = 0) (k : ByteArray → List (ByteArray × Int) → List (ByteArray × Int × Int × Int × Int) → List NdF → List (ByteArray × Int × List (Int × Int × Int)) → List (ByteArray × Int) → Int → Option R) :
  arith_FilterOf N l W Rw k = k nFilter [(nX, W)] (flE W 0 l) (fNodes W Rw l) [(nShift, 0, flW 0 [] l)] [(nY, flY 0 1 l)] 0 := by
 obtain ⟨h1, h2, h3, h4⟩ := ferF_0 h
 have e1 : (1 : Int) % p2 1 = 1 := by decide
 unfold arith_FilterOf
 rw [filterErr_eq N hN l (by omega) (by omega), h, cond_neg (by simp), fconst N (wd := 1) (by omega) (by omega) _ _ _ _ [] (by simp), fconst N (by omega) (by omega) _ _ _ _ _ (by simp), e1, Int.zero_emod]
 refine (filter_loop N ⟨by omega, by omega⟩ l h1.2 _ _ _ _ _ _ l N 0 _ [] _ [] [] rfl (by omega) rfl rfl (fun j hj => absurd hj (by omega)) (by simp) (by simp)).trans ?_
 rfl
theorem filterOf_err (N : Nat) (hN : 10 ≤ N) {l : List Int} (hl : l.length ≤ 1000000) (hlN : l.length < N) {W Rw : Int} (h : ferF l W Rw ≠ 0) (k : ByteArray → List (ByteArray × Int) → List (ByteArray × Int × Int × Int × Int) → List NdF → List (ByteArray × Int × List (Int × Int × Int)) → List (ByteArray × Int) → Int → Option R) :
  arith_FilterOf N l W Rw k = k (ByteArray.mk #[]) [] [] [] [] [] (ferF l W Rw) := by
 unfold arith_FilterOf
 rw [filterErr_eq N hN l hl hlN, cond_pos h]

theorem ne1 : nerr [] nX = 0 := by kernel_rfl
theorem ne2 : nerr [] nShift = 0 := by kernel_rfl
theorem ne3 : nerr [] nY = 0 := by kernel_rfl
theorem ne4 : nmB nFilter = true := by kernel_rfl
theorem ne5 : nerr [nX] (dName 1) = 0 := by kernel_rfl
theorem ne6 : nerr [dName 1, nX] (dName 2) = 0 := by kernel_rfl
theorem ne7 : nerr [dName 2, dName 1, nX] (dName 3) = 0 := by kernel_rfl
theorem fdcode {l : List Int} {W Rw : Int} (hq : ferF l W Rw = 0) : dcode nFilter [(nX, W)] (flE W 0 l) (fNodes W Rw l) [(nShift, 0, flW 0 [] l)] [(nY, flY 0 1 l)] [] = 0 := by
 obtain ⟨⟨g1, g2⟩, g3, g4, g5⟩ := ferF_0 hq
 have hW : wOK W = true := decide_eq_true ⟨by omega, by omega⟩
 have hR : wOK Rw = true := decide_eq_true ⟨by omega, by omega⟩
 have h1 : wOK 1 = true := rfl
 have pR := p2_pos Rw; have pW := p2_pos W
 have h0 : vok Rw 0 = true := vokOf ⟨by omega, by omega⟩
 have h0' : vok W 0 = true := vokOf ⟨by omega, by omega⟩
 have h11 : vok 1 1 = true := rfl
 have hm : ∀ t : Int, vok Rw (t % p2 Rw) = true := fun t => vok_mod t
 have hWR := g5.1
 clear g3 g4 g5 pR pW
 clear hq
 match l, g1, g2 with
 | [t0], _, _ => simp [dcode, ne1, ne2, ne3, ne4, ne5, ne6, ne7, le8, portsC, portC, seenP, elemsC, elemC, chkC, lwOf, rulesC, ruleC, writesC, writeC, outsC, outC, attrsC, isCond, isNd, ewd, flE, flW, flY, fNodes, flN, fl5, nodesC, nodeC, f1, hW, hR, h1, h0, h0', h11, hm, argN, oddA, valueC, fitB, wdOf, w0, hWR]
 | [t0, t1], _, _ => simp [dcode, ne1, ne2, ne3, ne4, ne5, ne6, ne7, le8, portsC, portC, seenP, elemsC, elemC, chkC, lwOf, rulesC, ruleC, writesC, writeC, outsC, outC, attrsC, isCond, isNd, ewd, flE, flW, flY, fNodes, flN, fl5, nodesC, nodeC, f1, hW, hR, h1, h0, h0', h11, hm, argN, oddA, valueC, fitB, wdOf, w0, hWR]
 | [t0, t1, t2], _, _ => simp [dcode, ne1, ne2, ne3, ne4, ne5, ne6, ne7, le8, portsC, portC, seenP, elemsC, elemC, chkC, lwOf, rulesC, ruleC, writesC, writeC, outsC, outC, attrsC, isCond, isNd, ewd, flE, flW, flY, fNodes, flN, fl5, nodesC, nodeC, f1, hW, hR, h1, h0, h0', h11, hm, argN, oddA, valueC, fitB, wdOf, w0, hWR]
 | [t0, t1, t2, t3], _, _ => simp [dcode, ne1, ne2, ne3, ne4, ne5, ne6, ne7, le8, portsC, portC, seenP, elemsC, elemC, chkC, lwOf, rulesC, ruleC, writesC, writeC, outsC, outC, attrsC, isCond, isNd, ewd, flE, flW, flY, fNodes, flN, fl5, nodesC, nodeC, f1, hW, hR, h1, h0, h0', h11, hm, argN, oddA, valueC, fitB, wdOf, w0, hWR]
 | [], h, _ => simp at h
 | _ :: _ :: _ :: _ :: _ :: _, _, h => simp at h
theorem fDH {N : Nat} (hN : 1000 ≤ N) {l : List Int} {W Rw : Int} (h : ferF l W Rw = 0) : DH N nFilter [(nX, W)] (flE W 0 l) (fNodes W Rw l) [(nShift, 0, flW 0 [] l)] [(nY, flY 0 1 l)] [] := by
 obtain ⟨⟨g1, g2⟩, g3, g4, g5⟩ := ferF_0 h
 have d1 : (dName 1).size = 2 := by kernel_rfl
 have d2 : (dName 2).size = 2 := by kernel_rfl
 have d3 : (dName 3).size = 2 := by kernel_rfl
 have x1 : nX.size = 1 := rfl
 have x2 : nY.size = 1 := rfl
 have x3 : nShift.size = 5 := rfl
 have x4 : nFilter.size = 6 := rfl
 match l, g1, g2 with
 | [t0], _, _ => constructor <;> simp [flE, flW, fNodes, flN, fl5, SZ, d1, d2, d3, x1, x2, x3, x4] <;> omega
 | [t0, t1], _, _ => constructor <;> simp [flE, flW, fNodes, flN, fl5, SZ, d1, d2, d3, x1, x2, x3, x4] <;> omega
 | [t0, t1, t2], _, _ => constructor <;> simp [flE, flW, fNodes, flN, fl5, SZ, d1, d2, d3, x1, x2, x3, x4] <;> omega
 | [t0, t1, t2, t3], _, _ => constructor <;> simp [flE, flW, fNodes, flN, fl5, SZ, d1, d2, d3, x1, x2, x3, x4] <;> omega
 | [], h, _ => simp at h
 | _ :: _ :: _ :: _ :: _ :: _, _, h => simp at h
def yS (P W : Int) : Int → List Int → List Int → Int
 | y, t :: r, x :: s => yS P W ((y + (sg W x % P) * (t % P) % P) % P) r s
 | y, _, _ => y
theorem fVal {l : List Int} {W Rw : Int} (h : ferF l W Rw = 0) {x : Int} {s : List Int} (hs : s.length + 1 = l.length) : w0 (dV (fNodes W Rw l) [x] s) (flY 0 1 l).toNat = yS (p2 Rw) W 0 l (x :: s) := by
 obtain ⟨⟨g1, g2⟩, g3, g4, g5⟩ := ferF_0 h
 match l, s, g1, g2, hs with
 | [t0], [], _, _, _ => simp [dV, fNodes, flN, fl5, flY, nvG, nv1, apS, wdOf, w0, yS]
 | [t0, t1], [a], _, _, _ => simp [dV, fNodes, flN, fl5, flY, nvG, nv1, apS, wdOf, w0, yS]
 | [t0, t1, t2], [a, b], _, _, _ => simp [dV, fNodes, flN, fl5, flY, nvG, nv1, apS, wdOf, w0, yS]
 | [t0, t1, t2, t3], [a, b, c], _, _, _ => simp [dV, fNodes, flN, fl5, flY, nvG, nv1, apS, wdOf, w0, yS]
theorem fHap {l : List Int} {W Rw : Int} (h : ferF l W Rw = 0) {x : Int} {s : List Int} (hs : s.length + 1 = l.length) : w0 (dV (fNodes W Rw l) [x] s) 0 = 1 ∧ hap (dV (fNodes W Rw l) [x] s) (flW 0 [] l) s = (x :: s).take s.length := by
 obtain ⟨⟨g1, g2⟩, g3, g4, g5⟩ := ferF_0 h
 match l, s, g1, g2, hs with
 | [t0], [], _, _, _ => simp [dV, fNodes, flN, fl5, flW, nvG, nv1, apS, wdOf, w0, hap]
 | [t0, t1], [a], _, _, _ => simp [dV, fNodes, flN, fl5, flW, nvG, nv1, apS, wdOf, w0, hap]
 | [t0, t1, t2], [a, b], _, _, _ => simp [dV, fNodes, flN, fl5, flW, nvG, nv1, apS, wdOf, w0, hap]
 | [t0, t1, t2, t3], [a, b, c], _, _, _ => simp [dV, fNodes, flN, fl5, flW, nvG, nv1, apS, wdOf, w0, hap]

theorem Within_eq (N : Nat) (a lo hi : Int) (k : Bool → Option R) : ratchetbase_Within N a lo hi k = k (decide (lo ≤ a ∧ a ≤ hi)) := by
 unfold ratchetbase_Within
 by_cases h : lo ≤ a <;> simp [h]
theorem power_eq (N : Nat) {n : Int} (h0 : 0 ≤ n) (h : n ≤ 40) (k : Int → Option R) : ratchetbase_Power N n k = k (p2 n) := by
 unfold ratchetbase_Power; rw [cond_neg (by omega), shl_p2 h0 h]
theorem Fits_eq (N : Nat) (n : Int) {w : Int} (h0 : 0 ≤ w) (h : w ≤ 16) (k : Bool → Option R) : ratchetbase_Fits N n w k = k (vok w n) := by
 have := p2_pos w; have := p2_16 h
 unfold ratchetbase_Fits vok; rw [power_eq N h0 (by omega), Within_eq, w64_id (by omega) (by omega)]
theorem sg_range {w n : Int} (hw : 1 ≤ w) (h : vok w n = true) : - p2 (w - 1) ≤ sg w n ∧ sg w n ≤ p2 (w - 1) - 1 := by
 have := of_decide_eq_true h
 have h1 := p2_half hw
 unfold sg; split <;> omega
theorem Signed_eq (N : Nat) {w : Int} (n : Int) (h0 : 1 ≤ w) (h : w ≤ 16) (hn : 0 ≤ n ∧ n ≤ 65536) (k : Int → Option R) : ratchetbase_Signed N n w k = k (sg w n) := by
 have h1 := p2_half h0
 have h2 := p2_16 h
 have h3 := p2_pos (w - 1)
 unfold ratchetbase_Signed sg
 rw [w64_id (x := w - 1) (by omega) (by omega), power_eq N (by omega) (by omega)]
 by_cases c : p2 (w - 1) ≤ n
 ·rw [cond_pos c, power_eq N (by omega) (by omega), if_pos c, w64_id (by omega) (by omega)]
 ·rw [cond_neg c, if_neg c]
theorem copyInts_eq (N : Nat) (l : List Int) (hl : l.length ≤ 1000000) (k : List Int → Option R) : ratchetbase_CopyInts N l k = k l := by
 unfold ratchetbase_CopyInts; rw [roomB_of (by omega)]; rfl
theorem tmod_mod {n d : Int} (hd : 0 < d) : n % d = if Int.tmod n d < 0 then Int.tmod n d + d else Int.tmod n d := by
 have h1 := Int.mul_tdiv_add_tmod n d
 have h2 : Int.tmod n d < d := Int.tmod_lt_of_pos n hd
 have h3 : -d < Int.tmod n d := Int.lt_tmod_of_pos n hd
 split
 ·exact ((Int.ediv_emod_unique (q := Int.tdiv n d - 1) (r := Int.tmod n d + d) hd).2 ⟨by rw [Int.mul_sub, Int.mul_one]; omega, by omega, by omega⟩).2
 ·exact ((Int.ediv_emod_unique (q := Int.tdiv n d) (r := Int.tmod n d) hd).2 ⟨by omega, by omega, by omega⟩).2
theorem Mod_eq (N : Nat) (n d : Int) (hd : 0 < d) (hd2 : d ≤ 4294967296) (k : Int → Option R) : ratchetbase_Mod N n d k = k (n % d) := by
 have hf := tmod_mod (n := n) hd
 have h3 := Int.emod_nonneg n (show d ≠ 0 by omega)
 have h4 := Int.emod_lt_of_pos n hd
 unfold ratchetbase_Mod
 rw [cond_neg (by omega)]
 by_cases c : Int.tmod n d < 0
 ·rw [if_pos c] at hf; rw [cond_pos c, w64_id (by omega) (by omega), hf]
 ·rw [if_neg c] at hf; rw [cond_neg c, hf]

theorem fEl {l : List Int} {W : Int} (h : 0 < l.length ∧ l.length ≤ 4) : elW (flE W 0 l) = List.replicate (l.length - 1) W ∧ elI (flE W 0 l) = List.replicate (l.length - 1) 0 := by
 obtain ⟨g1, g2⟩ := h
 match l, g1, g2 with
 | [t0], _, _ => simp [elW, elI, flE]
 | [t0, t1], _, _ => simp [elW, elI, flE]
 | [t0, t1, t2], _, _ => simp [elW, elI, flE, List.replicate]
 | [t0, t1, t2, t3], _, _ => simp [elW, elI, flE, List.replicate]
 | [], h, _ => simp at h
 | _ :: _ :: _ :: _ :: _ :: _, _, h => simp at h
def FS (W : Int) (l s : List Int) : Prop := LV (elW (flE W 0 l)) s
theorem FS_len {W : Int} {l s : List Int} (h : 0 < l.length ∧ l.length ≤ 4) (hs : FS W l s) : s.length + 1 = l.length := by
 have := hs.1
 rw [(fEl h).1, List.length_replicate] at this; omega
theorem LV1 {W x : Int} (hx : vok W x = true) : LV (inW [(nX, W)]) [x] := by
 refine ⟨rfl, fun i hi => ?_⟩
 have : i = 0 := by simp [inW] at hi; omega
 subst this; exact hx
theorem fOut {N : Nat} (hN : 1000 ≤ N) {l : List Int} {W Rw : Int} (h : ferF l W Rw = 0) {x : Int} (hx : vok W x = true) {s : List Int} (hs : FS W l s) (k : List Int → Int → Option R) :
  design_OutputsIn N nFilter [(nX, W)] (flE W 0 l) (fNodes W Rw l) [(nShift, 0, flW 0 [] l)] [(nY, flY 0 1 l)] [] [x] s k = k [yS (p2 Rw) W 0 l (x :: s)] 0 := by
 rw [outputsIn_ok hN (fDH hN h) (fdcode h) (LV1 hx) hs, ← fVal h (FS_len (ferF_0 h).1 hs)]
 rfl
theorem fNext {N : Nat} (hN : 1000 ≤ N) {l : List Int} {W Rw : Int} (h : ferF l W Rw = 0) {x : Int} (hx : vok W x = true) {s : List Int} (hs : FS W l s) (k : List Int → Int → Option R) :
  design_Happened N nFilter [(nX, W)] (flE W 0 l) (fNodes W Rw l) [(nShift, 0, flW 0 [] l)] [(nY, flY 0 1 l)] [] 0 [x] s k = k ((x :: s).take s.length) 0 ∧ FS W l ((x :: s).take s.length) := by
 obtain ⟨q1, q2⟩ := fHap h (x := x) (FS_len (ferF_0 h).1 hs)
 have e := happened_ok hN (fDH hN h) (fdcode h) (LV1 hx) hs (a := 0) (by simp) k
 have e2 := happened_LV (dv_of (fdcode h)) (LV1 hx) hs (a := 0) (by simp)
 simp only [List.getElem_cons_zero] at e e2
 rw [q2] at e e2
 exact ⟨e.trans (if_pos q1), e2⟩
theorem fReset {N : Nat} (hN : 1000 ≤ N) {l : List Int} {W Rw : Int} (h : ferF l W Rw = 0) (k : List Int → Int → Option R) :
  design_ResetOf N nFilter [(nX, W)] (flE W 0 l) (fNodes W Rw l) [(nShift, 0, flW 0 [] l)] [(nY, flY 0 1 l)] [] k = k (List.replicate (l.length - 1) 0) 0 ∧ FS W l (List.replicate (l.length - 1) 0) := by
 have e := reset_LV (dv_of (fdcode h))
 rw [(fEl (ferF_0 h).1).2] at e
 refine ⟨?_, e⟩
 rw [resetOf_eq hN (fDH hN h), if_pos (fdcode h), (fEl (ferF_0 h).1).2]
def runY (P W : Int) (l : List Int) : List Int → List Int → List Int
 | _, [] => []
 | s, x :: r => yS P W 0 l (x :: s) :: runY P W l ((x :: s).take s.length) r
theorem runY_len (P W : Int) (l : List Int) : ∀ (r s : List Int), (runY P W l s r).length = r.length
 | [], s => rfl
 | x :: r, s => by
  show (runY P W l _ r).length + 1 = _
  rw [runY_len P W l r]; rfl
theorem filtered_loop {N : Nat} (hN : 1000 ≤ N) {t : List Int} {W Rw : Int} (h : ferF t W Rw = 0) (k : List Int → Option R) (l : List Int) (hl : l.length ≤ 1000) (hv : ∀ x, x ∈ l → vok W x = true) : ∀ (r : List Int) (n i : Nat) (s acc : List Int), l.drop i = r → r.length < n → acc.length ≤ i → FS W t s →
  arith_Filtered_l0 N k n s l l.length i nFilter [(nX, W)] (flE W 0 t) (fNodes W Rw t) [(nShift, 0, flW 0 [] t)] [(nY, flY 0 1 t)] acc = k (acc ++ runY (p2 Rw) W t s r)
 | [], n, i, s, acc, hd, hn, ha, hs => by
  obtain ⟨n, rfl⟩ := sc hn
  rw [arith_Filtered_l0, cond_neg (drop_end hd), show runY (p2 Rw) W t s [] = [] from rfl, List.append_nil]
 | x :: r, n, i, s, acc, hd, hn, ha, hs => by
  obtain ⟨n, rfl⟩ := sc hn
  obtain ⟨h1, h2, h3⟩ := drop_step hd
  have hx := hv x (List.mem_of_mem_drop (hd ▸ List.mem_cons_self : x ∈ l.drop i))
  rw [arith_Filtered_l0, cond_pos (by omega), h2, some_bind', fOut hN h hx hs]
  try dsimp only
  rw [roomB_of (by simp; omega), cond_true, (fNext hN h hx hs _).1]
  try dsimp only
  rw [w64_suc (by omega)]
  refine (filtered_loop hN h k l hl hv r n (i + 1) _ (acc ++ [yS (p2 Rw) W 0 t (x :: s)]) h3 (by simp at hn; omega) (by simp; omega) (fNext hN h hx hs (fun _ _ => none (α := R))).2).trans ?_
  rw [List.append_assoc]
  rfl
theorem smp_loop (N : Nat) (k0 : Int → List Int → Int → Int → Option R) (k1 : List Int → Int → Int → Option R) (t : List Int) {W : Int} (Rw : Int) (hW : 0 ≤ W ∧ W ≤ 16) (l : List Int) (hl : l.length ≤ 1000000) : ∀ (r : List Int) (n i : Nat), l.drop i = r → r.length < n →
  ∃ j : Nat, slices_IndexFunc_Lint_int_Filtered_c1_l0 N k0 k1 n l l.length i t W Rw = if r.all (vok W) = true then k1 t W Rw else k0 j t W Rw
 | [], n, i, h, hn => by
  obtain ⟨n, rfl⟩ := sc hn
  exact ⟨0, by rw [slices_IndexFunc_Lint_int_Filtered_c1_l0, cond_neg (drop_end h)]; rfl⟩
 | x :: r, n, i, h, hn => by
  obtain ⟨n, rfl⟩ := sc hn
  obtain ⟨h1, h2, h3⟩ := drop_step h
  obtain ⟨j, ih⟩ := smp_loop N k0 k1 t Rw hW l hl r n (i + 1) h3 (by simp at hn; omega)
  have := p2_pos W; have := p2_16 hW.2
  rw [slices_IndexFunc_Lint_int_Filtered_c1_l0, cond_pos (by omega), h2, some_bind']
  unfold arith_each_int__c1_Filtered_c1 arith_Filtered_c1
  rw [cond_neg (by omega), shl_p2 hW.1 (by omega), w64_id (by omega) (by omega), awithin, List.all_cons]
  show ∃ j : Nat, (bif !vok W x then _ else _) = _
  cases vok W x
  ·exact ⟨i, rfl⟩
  ·refine ⟨j, ?_⟩
   rw [Bool.not_true, cond_false, w64_suc (by omega), ih, Bool.true_and]
theorem smp_each (N : Nat) (t : List Int) {W : Int} (Rw : Int) (hW : 0 ≤ W ∧ W ≤ 16) (l : List Int) (hl : l.length ≤ 1000000) (hN : l.length < N) (k : Bool → List Int → Int → Int → Option R) : arith_each_int_Filtered_c1 N l t W Rw k = k (l.all (vok W)) t W Rw := by
 unfold arith_each_int_Filtered_c1 slices_ContainsFunc_Lint_int_Filtered_c1 slices_IndexFunc_Lint_int_Filtered_c1
 obtain ⟨j, e⟩ := smp_loop N (fun y1 y2 y3 y4 => k (!decide (0 ≤ y1)) y2 y3 y4) (fun z10 z11 z12 => k (!decide ((0 : Int) ≤ -1)) z10 z11 z12) t Rw hW l hl l N 0 rfl hN
 rw [Int.natCast_zero] at e
 refine e.trans ?_
 cases l.all (vok W)
 ·rw [if_neg (by simp), decide_eq_true (by omega)]; rfl
 ·rfl
theorem f1_r (a : Int) : f1 a 0 = a := by
 unfold f1; split <;> simp_all
theorem afirst2 (N : Nat) (hN : 10 ≤ N) (a b : Int) (k : Int → Option R) : arith_first N [a, b] k = k (f1 a b) := by
 rw [afirst N _ (by simp; omega) (by simp)]
 show k (f1 a (f1 b 0)) = _
 rw [f1_r]
theorem afirst3 (N : Nat) (hN : 10 ≤ N) (a b c : Int) (k : Int → Option R) : arith_first N [a, b, c] k = k (f1 a (f1 b c)) := by
 rw [afirst N _ (by simp; omega) (by simp)]
 show k (f1 a (f1 b (f1 c 0))) = _
 rw [f1_r]
theorem filtered_ok {N : Nat} (hN : 1000 ≤ N) {t : List Int} {W Rw : Int} (h : ferF t W Rw = 0) (l : List Int) (hl : l.length ≤ 30) (hv : ∀ x, x ∈ l → vok W x = true) (k : List Int → Int → Option R) :
  arith_Filtered N t W Rw l k = k (runY (p2 Rw) W t (List.replicate (t.length - 1) 0) l) 0 := by
 obtain ⟨h1, h2, h3, h4⟩ := ferF_0 h
 unfold arith_Filtered
 rw [filterOf_ok N (by omega) h, aunless, decide_eq_true (by omega), if_pos rfl, afirst2 N (by omega), f1_z, cond_neg (by omega), smp_each N t Rw (by omega) l (by omega) (by omega), List.all_eq_true.2 hv]
 try dsimp only
 rw [Bool.not_true, cond_false, (fReset hN h _).1]
 exact filtered_loop hN h _ l (by omega) hv l N 0 _ [] rfl (by omega) (by simp) (fReset hN h (fun _ _ => none (α := R))).2

theorem w0_ge {l : List Int} {i : Nat} (h : l.length ≤ i) : w0 l i = 0 := by unfold w0; rw [List.getElem?_eq_none h]; rfl
theorem w0_rep (n i : Nat) : w0 (List.replicate n 0) i = 0 := by
 unfold w0
 rw [List.getElem?_replicate]
 split <;> rfl
def smB (n : Int) : Bool := decide (-1000 ≤ n ∧ n ≤ 1000)
theorem isSmp_loop (N : Nat) (k0 : Int → Option R) (k1 : Option R) (l : List Int) (hl : l.length ≤ 1000000) : ∀ (r : List Int) (n i : Nat), l.drop i = r → r.length < n → r.all smB = true →
  slices_IndexFunc_Lint_int_isSample_l0 N k0 k1 n l l.length i = k1
 | [], n, i, h, hn, ha => by
  obtain ⟨n, rfl⟩ := sc hn
  rw [slices_IndexFunc_Lint_int_isSample_l0, cond_neg (drop_end h)]
 | x :: r, n, i, h, hn, ha => by
  obtain ⟨n, rfl⟩ := sc hn
  obtain ⟨h1, h2, h3⟩ := drop_step h
  rw [List.all_cons, Bool.and_eq_true] at ha
  rw [slices_IndexFunc_Lint_int_isSample_l0, cond_pos (by omega), h2, some_bind']
  unfold arith_each_int__c1_isSample arith_isSample
  rw [awithin]
  show (bif !smB x then _ else _) = _
  rw [ha.1, Bool.not_true, cond_false, w64_suc (by omega)]
  exact isSmp_loop N k0 k1 l hl r n (i + 1) h3 (by simp at hn; omega) ha.2
theorem samplesErr_ok {N : Nat} (hN : 1000 ≤ N) {l : List Int} (h0 : 0 < l.length) (hl : l.length ≤ 30) (ha : l.all smB = true) (k : Int → Option R) : arith_samplesErr N l k = k 0 := by
 unfold arith_samplesErr arith_each_int_isSample slices_ContainsFunc_Lint_int_isSample slices_IndexFunc_Lint_int_isSample
 rw [aunless, aunless, decide_eq_true (show (0 : Int) < (l.length : Int) by omega), decide_eq_true (show (l.length : Int) ≤ 30 by omega), if_pos rfl, if_pos rfl]
 refine (isSmp_loop N _ _ l (by omega) l N 0 rfl (by omega) ha).trans ?_
 try dsimp only
 rw [decide_eq_false (show ¬ ((0 : Int) ≤ -1) by omega), Bool.not_false, aunless, if_pos rfl, afirst3 N (by omega)]
 rfl
def inn (x : Int) : List Int → Nat → List Int → List Int
 | [], _, o => o
 | y :: r, p, o => inn x r (p + 1) (o.set p (w0 o p + x * y))
theorem inn_len (x : Int) : ∀ (b : List Int) (p : Nat) (o : List Int), (inn x b p o).length = o.length
 | [], p, o => rfl
 | y :: r, p, o => by
  show (inn x r _ _).length = _
  rw [inn_len x r, List.length_set]
theorem inn_w0 (x : Int) : ∀ (b : List Int) (p : Nat) (o : List Int), p + b.length ≤ o.length → ∀ t, w0 (inn x b p o) t = w0 o t + if p ≤ t then x * w0 b (t - p) else 0
 | [], p, o, h, t => by
  show w0 o t = _
  rw [w0_ge (l := []) (by simp)]; simp
 | y :: r, p, o, h, t => by
  show w0 (inn x r _ _) t = _
  simp only [List.length_cons] at h
  rw [inn_w0 x r (p + 1) _ (by rw [List.length_set]; omega), w0_set _ (by omega)]
  by_cases c : p = t
  ·subst c
   rw [if_pos rfl, if_neg (by omega), if_pos (by omega), Nat.sub_self, Int.add_zero]; rfl
  ·rw [if_neg c]
   by_cases c2 : p ≤ t
   ·rw [if_pos (by omega), if_pos c2, show t - p = (t - (p + 1)) + 1 by omega]; rfl
   ·rw [if_neg (by omega), if_neg c2]
theorem small_mul {x y : Int} (hx : smB x = true) (hy : smB y = true) : -1000000 ≤ x * y ∧ x * y ≤ 1000000 := by
 have hx := of_decide_eq_true hx; have hy := of_decide_eq_true hy
 rcases Int.le_total 0 x with a | a <;> rcases Int.le_total 0 y with b | b
 ·have := Int.mul_le_mul hx.2 hy.2 b (by omega)
  have := Int.mul_nonneg a b
  omega
 ·have := Int.mul_le_mul hx.2 (show -y ≤ 1000 by omega) (by omega) (by omega)
  have := Int.mul_nonneg a (show 0 ≤ -y by omega)
  rw [Int.mul_neg] at *
  omega
 ·have := Int.mul_le_mul (show -x ≤ 1000 by omega) hy.2 b (by omega)
  have := Int.mul_nonneg (show 0 ≤ -x by omega) b
  rw [Int.neg_mul] at *
  omega
 ·have := Int.mul_le_mul (show -x ≤ 1000 by omega) (show -y ≤ 1000 by omega) (by omega) (by omega)
  have := Int.mul_nonneg (show 0 ≤ -x by omega) (show 0 ≤ -y by omega)
  rw [Int.neg_mul_neg] at *
  omega
theorem inn_loop (N : Nat) (k0 : List Int → List Int → Int → Int → List Int → Option R) (a : List Int) (A I : Int) {p : Nat} (hp : p ≤ 1000) {x : Int} (hx : smB x = true) (b : List Int) (hb : b.length ≤ 1000) (hv : b.all smB = true) (B : Int) (hB : 0 ≤ B ∧ B ≤ 100000000) (I0 : (p : Int) = I) : ∀ (r : List Int) (n i : Nat) (o : List Int), b.drop i = r → r.length < n → p + b.length ≤ o.length → (∀ t, p + i ≤ t → -B ≤ w0 o t ∧ w0 o t ≤ B) →
  arith_ConvolvedBy_l1 N k0 n b p x a A I b b.length i o = k0 b a A I (inn x r (p + i) o)
 | [], n, i, o, h, hn, ho, hw => by
  obtain ⟨n, rfl⟩ := sc hn
  rw [arith_ConvolvedBy_l1, cond_neg (drop_end h)]; rfl
 | y :: r, n, i, o, h, hn, ho, hw => by
  obtain ⟨n, rfl⟩ := sc hn
  obtain ⟨h1, h2, h3⟩ := drop_step h
  have hy := List.all_eq_true.1 hv y (List.mem_of_mem_drop (h ▸ List.mem_cons_self : y ∈ b.drop i))
  have q := small_mul hx hy
  have qw := hw (p + i) (by omega)
  rw [arith_ConvolvedBy_l1, cond_pos (by omega), h2, some_bind', w64_id (x := (p : Int) + (i : Int)) (by omega) (by omega), show (p : Int) + (i : Int) = ((p + i : Nat) : Int) by omega, inR_of (by omega) (by omega), cond_true, Int.toNat_natCast,
   show o[p + i]? = some (w0 o (p + i)) by rw [List.getElem?_eq_getElem (by omega), w0_at (by omega)], some_bind', cond_true, some_bind', w64_id (x := x * y) (by omega) (by omega), w64_id (x := w0 o (p + i) + x * y) (by omega) (by omega), w64_suc (by omega)]
  refine (inn_loop N k0 a A I hp hx b hb hv B hB I0 r n (i + 1) _ h3 (by simp at hn; omega) (by rw [List.length_set]; omega) (fun t ht => ?_)).trans ?_
  ·rw [w0_set _ (by omega), if_neg (by omega)]
   exact hw t (by omega)
  ·rfl
def ou (b : List Int) : List Int → Nat → List Int → List Int
 | [], _, o => o
 | x :: r, i, o => ou b r (i + 1) (inn x b i o)
def cvS (b : List Int) (t : Nat) : List Int → Nat → Int
 | [], _ => 0
 | x :: r, i => (if i ≤ t then x * w0 b (t - i) else 0) + cvS b t r (i + 1)
theorem ou_len (b : List Int) : ∀ (a : List Int) (i : Nat) (o : List Int), (ou b a i o).length = o.length
 | [], i, o => rfl
 | x :: r, i, o => by
  show (ou b r _ _).length = _
  rw [ou_len b r, inn_len]
theorem w0_small {b : List Int} (hv : b.all smB = true) (t : Nat) : smB (w0 b t) = true := by
 by_cases h : t < b.length
 ·rw [w0_at h]; exact List.all_eq_true.1 hv _ (List.getElem_mem h)
 ·rw [w0_ge (by omega)]; rfl
theorem ou_loop (N : Nat) (k0 : List Int → Option R) (a b : List Int) (ha : a.length ≤ 30) (hb : b.length ≤ 30) (hN : 1000 ≤ N) (hva : a.all smB = true) (hvb : b.all smB = true) : ∀ (r : List Int) (n i : Nat) (o : List Int), a.drop i = r → r.length < n → a.length + b.length ≤ o.length + 1 → (∀ t, -(1000000 * (i : Int)) ≤ w0 o t ∧ w0 o t ≤ 1000000 * (i : Int)) →
  arith_ConvolvedBy_l0 N k0 n b a a.length i o = k0 (ou b r i o)
 | [], n, i, o, h, hn, ho, hw => by
  obtain ⟨n, rfl⟩ := sc hn
  rw [arith_ConvolvedBy_l0, cond_neg (drop_end h)]; rfl
 | x :: r, n, i, o, h, hn, ho, hw => by
  obtain ⟨n, rfl⟩ := sc hn
  obtain ⟨h1, h2, h3⟩ := drop_step h
  have hx := List.all_eq_true.1 hva x (List.mem_of_mem_drop (h ▸ List.mem_cons_self : x ∈ a.drop i))
  rw [arith_ConvolvedBy_l0, cond_pos (by omega), h2, some_bind']
  refine (inn_loop N _ a a.length i (by omega) hx b (by omega) hvb (1000000 * (i : Int)) (by omega) rfl b N 0 o rfl (by omega) (by omega) (fun t _ => hw t)).trans ?_
  rw [w64_suc (by omega)]
  refine (ou_loop N k0 a b ha hb hN hva hvb r n (i + 1) _ h3 (by simp at hn; omega) (by rw [inn_len]; exact ho) (fun t => ?_)).trans rfl
  rw [inn_w0 x b (i + 0) o (by omega)]
  have := hw t
  have q := small_mul hx (w0_small hvb (t - (i + 0)))
  split <;> omega
theorem convolved_ok {N : Nat} (hN : 1000 ≤ N) {a b : List Int} (ha0 : 0 < a.length) (ha : a.length ≤ 30) (hb0 : 0 < b.length) (hb : b.length ≤ 30) (hva : a.all smB = true) (hvb : b.all smB = true) (k : List Int → Int → Option R) :
  arith_ConvolvedBy N a b k = k (ou b a 0 (List.replicate (a.length + b.length - 1) 0)) 0 := by
 unfold arith_ConvolvedBy
 rw [samplesErr_ok hN ha0 ha hva, samplesErr_ok hN hb0 hb hvb, afirst2 N (by omega), f1_z, cond_neg (by omega), w64_id (x := (a.length : Int) + (b.length : Int)) (by omega) (by omega), w64_id (by omega) (by omega), cond_pos (by omega), show ((a.length : Int) + (b.length : Int) - 1).toNat = a.length + b.length - 1 by omega, roomB_of (by omega), cond_true]
 refine (ou_loop N _ a b ha hb hN hva hvb a N 0 _ rfl (by omega) (by rw [List.length_replicate]; omega) (fun t => ?_)).trans rfl
 rw [w0_rep]; omega
def dotS (W : Int) : List Int → List Int → Int
 | t :: r, x :: s => sg W x * t + dotS W r s
 | _, _ => 0
theorem yS_mod (P W : Int) : ∀ (l lv : List Int) (y : Int), yS P W y l lv % P = (y + dotS W l lv) % P
 | [], lv, y => by
  show y % P = (y + 0) % P
  rw [Int.add_zero]
 | t :: r, [], y => by
  show y % P = (y + 0) % P
  rw [Int.add_zero]
 | t :: r, x :: s, y => by
  show yS P W _ r s % P = (y + (sg W x * t + dotS W r s)) % P
  rw [yS_mod P W r s, Int.add_emod, Int.emod_emod, ← Int.add_emod, ← Int.add_assoc]
  rw [Int.add_emod, Int.add_emod (y + sg W x * t)]
  congr 2
  rw [Int.add_emod y (sg W x % P * (t % P) % P), Int.emod_emod, ← Int.mul_emod, ← Int.add_emod]
theorem yS_range {P : Int} (hP : 0 < P) (W : Int) : ∀ (l lv : List Int) (y : Int), 0 ≤ y ∧ y < P → 0 ≤ yS P W y l lv ∧ yS P W y l lv < P
 | [], lv, y, h => h
 | t :: r, [], y, h => h
 | t :: r, x :: s, y, h => yS_range hP W r s _ ⟨Int.emod_nonneg _ (by omega), Int.emod_lt_of_pos _ hP⟩
theorem dot_cv (W : Int) (b : List Int) (t : Nat) : ∀ (l lv : List Int) (i : Nat), lv.length = l.length → (∀ j, j < l.length → sg W (w0 lv j) = if i + j ≤ t then w0 b (t - (i + j)) else 0) → dotS W l lv = cvS b t l i
 | [], lv, i, h, hj => rfl
 | c :: r, [], i, h, hj => by simp at h
 | c :: r, x :: s, i, h, hj => by
  show sg W x * c + dotS W r s = _ + cvS b t r (i + 1)
  rw [dot_cv W b t r s (i + 1) (by simpa using h) (fun j hj' => ?_)]
  ·have := hj 0 (by simp)
   rw [Nat.add_zero, show w0 (x :: s) 0 = x from rfl] at this
   rw [this]
   split
   ·rw [Int.mul_comm]
   ·rw [Int.zero_mul]
  ·have := hj (j + 1) (by simp; omega)
   rw [show i + (j + 1) = i + 1 + j by omega] at this
   exact this

theorem bname_j (N : Nat) (k0 : Bool → Option R) (k1 : ByteArray → Int → Option R) (s : ByteArray) (i : Nat) (c : Nat) (l : Bool) (h : (l || (!decide (i = 0) && decide (c = 95 ∨ (48 ≤ c ∧ c ≤ 57)))) = true) : ratchetbase_IsName_j0 N k0 k1 s i c l = k1 s i := by
 unfold ratchetbase_IsName_j0
 cases l
 ·have h : i ≠ 0 ∧ (c = 95 ∨ (48 ≤ c ∧ c ≤ 57)) := by simpa using h
  rw [Bool.not_false, cond_true, cond_neg (by omega)]
  by_cases q : c = 95
  ·rw [cond_neg (by omega)]
  ·rw [cond_pos (by omega), cond_neg (by omega), cond_neg (by omega)]
 ·rfl
theorem bname_loop (N : Nat) (k0 : Bool → Option R) (k1 : Option R) (l : List UInt8) (hl : l.length ≤ 1000) : ∀ (r : List UInt8) (n i : Nat), l.drop i = r → r.length < n → nmL (decide (i = 0)) r = true → ratchetbase_IsName_l0 N k0 k1 n (Tx l) i = k1
 | [], n, i, h, hn, hv => by
  obtain ⟨n, rfl⟩ := sc hn
  rw [ratchetbase_IsName_l0, Tx_size, cond_neg (drop_end h)]
 | c :: r, n, i, h, hn, hv => by
  obtain ⟨n, rfl⟩ := sc hn
  obtain ⟨h1, h2, h3⟩ := drop_step h
  have hc : l[i] = c := by
   have := at?_lt h1
   rw [h2] at this
   exact (Option.some.inj this).symm
  rw [nmL_cons, Bool.and_eq_true] at hv
  have step : ratchetbase_IsName_l0 N k0 k1 n (Tx l) (w64 ((i : Int) + 1)) = k1 := by
   rw [w64_suc (by omega)]
   exact bname_loop N k0 k1 l hl r n (i + 1) h3 (by simp at hn; omega) (by simpa using hv.2)
  have J : ∀ (b : Bool), b = letN c.toNat → ratchetbase_IsName_j0 N k0 (fun z3 z4 => (ratchetbase_IsName_l0 N k0 k1 n z3 (w64 (z4 + 1)))) (Tx l) i (c.toNat : Nat) b = k1 := by
   rintro b rfl
   rw [bname_j N k0 _ (Tx l) i c.toNat _ hv.1]
   exact step
  rw [ratchetbase_IsName_l0, Tx_size, cond_pos (by omega), Tx_byte h1, some_bind', hc]
  unfold letN at J
  by_cases c1 : 97 ≤ c.toNat
  ·rw [cond_pos (by omega)]
   by_cases c2 : c.toNat ≤ 122
   ·rw [cond_pos (by omega)]; exact J true (decide_eq_true (by omega)).symm
   ·rw [cond_neg (by omega), cond_pos (by omega)]; exact J _ (decide_eq_decide.2 (by omega))
  ·rw [cond_neg (by omega)]
   by_cases c3 : 65 ≤ c.toNat
   ·rw [cond_pos (by omega)]; exact J _ (decide_eq_decide.2 (by omega))
   ·rw [cond_neg (by omega)]; exact J false (decide_eq_false (by omega)).symm
theorem bname {N : Nat} (hN : 1000 ≤ N) {s : ByteArray} (h : nmB s = true) (k : Bool → Option R) : ratchetbase_IsName N s k = k true := by
 unfold nmB at h
 rw [Bool.and_eq_true] at h
 have hs := of_decide_eq_true h.2
 have e := Tx_of s
 have hl : s.data.toList.length = s.size := by
  conv => rhs; rw [e]
  exact (Tx_size _).symm
 unfold ratchetbase_IsName
 rw [cond_neg (by omega), cond_neg (by omega)]
 conv => lhs; rw [e]
 exact bname_loop N k (k true) s.data.toList (by omega) s.data.toList N 0 rfl (by omega) h.1
theorem nerr_0 {S : List ByteArray} {s : ByteArray} (h : nerr S s = 0) : nmB s = true ∧ inS s S = false := by
 unfold nerr at h
 split at h
 ·split at h
  ·cases h
  ·rename_i h1 h2; exact ⟨h1, Bool.eq_false_iff.2 h2⟩
 ·cases h
theorem inS_mem {a : ByteArray} : ∀ {S : List ByteArray}, a ∈ S → inS a S = true
 | x :: r, h => by
  rw [inS_cons, Bool.or_eq_true]
  rcases List.mem_cons.1 h with rfl | h
  ·exact .inl (decide_eq_true rfl)
  ·exact .inr (inS_mem h)
theorem inS_ne {a b : ByteArray} {S : List ByteArray} (h : inS a S = false) (hb : b ∈ S) : ¬ b = a := fun e => by
 subst e; rw [inS_mem hb] at h; cases h
theorem seenP_mem {a : ByteArray} : ∀ {l : List PortT} {S : List ByteArray}, (a ∈ S ∨ ∃ x, x ∈ l ∧ x.1 = a) → a ∈ seenP S l
 | [], S, h => by
  rcases h with h | ⟨x, hx, _⟩
  ·exact h
  ·cases hx
 | x :: r, S, h => by
  refine seenP_mem (l := r) (S := x.1 :: S) ?_
  rcases h with h | ⟨y, hy, rfl⟩
  ·exact .inl (List.mem_cons_of_mem _ h)
  ·rcases List.mem_cons.1 hy with rfl | hy
   ·exact .inl List.mem_cons_self
   ·exact .inr ⟨y, hy, rfl⟩
theorem bwidth (N : Nat) (n : Int) (k : Bool → Option R) : ratchetbase_IsWidth N n k = k (wOK n) := by unfold ratchetbase_IsWidth wOK; rw [Within_eq]
def BN {α : Type} (f : α → ByteArray) (l : List α) (i : Nat) (S : List ByteArray) : Prop := ∀ j x, j < i → l[j]? = some x → f x ∈ S
theorem BN_step {α : Type} {f : α → ByteArray} {l : List α} {i : Nat} {S : List ByteArray} {x : α} {r : List α} (h : BN f l i S) (hd : l.drop i = x :: r) : BN f l (i + 1) (f x :: S) := by
 intro j y hj hy
 by_cases e : j = i
 ·subst e
  have hl := (drop_step hd).1
  rw [drop_cons hl] at hd
  injection hd with h1 _
  rw [List.getElem?_eq_getElem hl, h1] at hy
  injection hy with hy
  subst hy
  exact List.mem_cons_self
 ·exact List.mem_cons_of_mem _ (h j y (by omega) hy)
theorem BN_at {α : Type} {f : α → ByteArray} {l : List α} {i j : Nat} {S : List ByteArray} (h : BN f l i S) (hj : j < i) (hl : j < l.length) : at? l (j : Int) = some l[j] ∧ f l[j] ∈ S :=
 ⟨at?_lt hl, h j _ hj (List.getElem?_eq_getElem hl)⟩
theorem bports_in (N : Nat) (k0 : Int → Int → Option R) (k1 : List PortT → Int → Option R) (l : List PortT) (hl : l.length ≤ 1000000) (i : Nat) {S : List ByteArray} (hB : BN (·.1) l i S) {x : PortT} (hx : at? l (i : Int) = some x) (hi : i < l.length) (hS : inS x.1 S = false) : ∀ (m j n : Nat), j + m = i → m < n →
  ratchetbase_PortsErr_l1 N k0 k1 n l i j = k1 l i
 | 0, j, n, h, hn => by
  obtain ⟨n, rfl⟩ : ∃ m, n = m + 1 := ⟨n - 1, by omega⟩
  rw [ratchetbase_PortsErr_l1, cond_neg (by omega)]
 | m + 1, j, n, h, hn => by
  obtain ⟨n, rfl⟩ : ∃ m, n = m + 1 := ⟨n - 1, by omega⟩
  obtain ⟨q1, q2⟩ := BN_at (j := j) hB (by omega) (by omega)
  rw [ratchetbase_PortsErr_l1, cond_pos (by omega), q1, some_bind', hx, some_bind', cond_neg (inS_ne hS q2), w64_suc (by omega)]
  exact bports_in N k0 k1 l hl i hB hx hi hS m (j + 1) n (by omega) (by omega)
theorem bports_loop {N : Nat} (hN : 1000 ≤ N) (k0 : Int → Int → Option R) (k1 : Option R) (l : List PortT) (hl : l.length ≤ 100) : ∀ (r : List PortT) (n i : Nat) (S : List ByteArray), l.drop i = r → r.length < n → BN (·.1) l i S → portsC S r = 0 → ratchetbase_PortsErr_l0 N k0 k1 n l i = k1
 | [], n, i, S, h, hn, hB, hc => by
  obtain ⟨n, rfl⟩ := sc hn
  rw [ratchetbase_PortsErr_l0, cond_neg (drop_end h)]
 | x :: r, n, i, S, h, hn, hB, hc => by
  obtain ⟨n, rfl⟩ := sc hn
  obtain ⟨h1, h2, h3⟩ := drop_step h
  obtain ⟨c1, c2⟩ := f1_0.1 (show f1 (portC S x) (portsC (x.1 :: S) r) = 0 from hc)
  obtain ⟨c3, c4⟩ := f1_0.1 c1
  obtain ⟨c5, c6⟩ := nerr_0 c3
  rw [ratchetbase_PortsErr_l0, cond_pos (by omega), h2, some_bind', bname hN c5]
  try dsimp only
  rw [Bool.not_true, cond_false, show (0 : Int) = ((0 : Nat) : Int) from rfl, bports_in N k0 _ l (by omega) i hB h2 h1 c6 i 0 N (by omega) (by omega)]
  try dsimp only
  rw [h2, some_bind', bwidth, if0 (by decide) c4]
  try dsimp only
  rw [Bool.not_true, cond_false, w64_suc (by omega)]
  exact bports_loop hN k0 k1 l hl r n (i + 1) _ h3 (by simp at hn; omega) (BN_step hB h) c2
theorem bports {N : Nat} (hN : 1000 ≤ N) {l : List PortT} (hl : l.length ≤ 12) (hc : portsC [] l = 0) (k : Int → Int → Option R) : ratchetbase_PortsErr N l k = k 0 0 := by
 unfold ratchetbase_PortsErr
 rw [cond_neg (by omega)]
 exact bports_loop hN k (k 0 0) l (by omega) l N 0 [] rfl (by omega) (fun j x hj => absurd hj (by omega)) hc
theorem belems_in (N : Nat) (k0 : Int → Int → Option R) (k1 : List PortT → List ElemT → Int → Option R) (ins : List PortT) (l : List ElemT) (hl : l.length ≤ 1000000) (i : Nat) {S : List ByteArray} (hB : BN (·.1) l i S) {x : ElemT} (hx : at? l (i : Int) = some x) (hi : i < l.length) (hS : inS x.1 S = false) : ∀ (m j n : Nat), j + m = i → m < n →
  ratchetbase_ElementsErr_l1 N k0 k1 n ins l i j = k1 ins l i
 | 0, j, n, h, hn => by
  obtain ⟨n, rfl⟩ : ∃ m, n = m + 1 := ⟨n - 1, by omega⟩
  rw [ratchetbase_ElementsErr_l1, cond_neg (by omega)]
 | m + 1, j, n, h, hn => by
  obtain ⟨n, rfl⟩ : ∃ m, n = m + 1 := ⟨n - 1, by omega⟩
  obtain ⟨q1, q2⟩ := BN_at (j := j) hB (by omega) (by omega)
  rw [ratchetbase_ElementsErr_l1, cond_pos (by omega), q1, some_bind', hx, some_bind', cond_neg (inS_ne hS q2), w64_suc (by omega)]
  exact belems_in N k0 k1 ins l hl i hB hx hi hS m (j + 1) n (by omega) (by omega)
theorem belems_ins (N : Nat) (k0 : Int → Int → Option R) (k1 : List PortT → List ElemT → Int → Option R) (ins : List PortT) (hi : ins.length ≤ 1000000) (l : List ElemT) (i : Nat) {S : List ByteArray} (hB : ∀ y, y ∈ ins → y.1 ∈ S) {x : ElemT} (hx : at? l (i : Int) = some x) (hS : inS x.1 S = false) : ∀ (r : List PortT) (n j : Nat), ins.drop j = r → r.length < n →
  ratchetbase_ElementsErr_l2 N k0 k1 n ins l i j = k1 ins l i
 | [], n, j, h, hn => by
  obtain ⟨n, rfl⟩ := sc hn
  rw [ratchetbase_ElementsErr_l2, cond_neg (drop_end h)]
 | y :: r, n, j, h, hn => by
  obtain ⟨n, rfl⟩ := sc hn
  obtain ⟨h1, h2, h3⟩ := drop_step h
  have hy : y.1 ∈ S := hB y (List.mem_of_mem_drop (h ▸ List.mem_cons_self : y ∈ ins.drop j))
  rw [ratchetbase_ElementsErr_l2, cond_pos (by omega), h2, some_bind', hx, some_bind', cond_neg (inS_ne hS hy), w64_suc (by omega)]
  exact belems_ins N k0 k1 ins hi l i hB hx hS r n (j + 1) h3 (by simp at hn; omega)
theorem belems_loop {N : Nat} (hN : 1000 ≤ N) (k0 : Int → Int → Option R) (k1 : Option R) (ins : List PortT) (hi : ins.length ≤ 100) (l : List ElemT) (hl : l.length ≤ 100) : ∀ (r : List ElemT) (n i : Nat) (S : List ByteArray), l.drop i = r → r.length < n → BN (·.1) l i S → (∀ y, y ∈ ins → y.1 ∈ S) → elemsC S r = 0 → ratchetbase_ElementsErr_l0 N k0 k1 n ins l i = k1
 | [], n, i, S, h, hn, hB, hI, hc => by
  obtain ⟨n, rfl⟩ := sc hn
  rw [ratchetbase_ElementsErr_l0, cond_neg (drop_end h)]
 | x :: r, n, i, S, h, hn, hB, hI, hc => by
  obtain ⟨n, rfl⟩ := sc hn
  obtain ⟨h1, h2, h3⟩ := drop_step h
  obtain ⟨c1, c2⟩ := f1_0.1 (show f1 (elemC S x) (elemsC (x.1 :: S) r) = 0 from hc)
  obtain ⟨c3, c4⟩ := f1_0.1 c1
  obtain ⟨c5, c6⟩ := f1_0.1 c3
  obtain ⟨c7, c8⟩ := nerr_0 c5
  obtain ⟨c9, c10⟩ := f1_0.1 c6
  have g1 := if0 (by decide) c9
  have g2 := if0 (by decide) c10
  have g3 := if0 (by decide) c4
  have hw := of_decide_eq_true g2
  rw [ratchetbase_ElementsErr_l0, cond_pos (by omega), h2, some_bind', bname hN c7]
  try dsimp only
  rw [Bool.not_true, cond_false, show (0 : Int) = ((0 : Nat) : Int) from rfl, belems_in N k0 _ ins l (by omega) i hB h2 h1 c8 i 0 N (by omega) (by omega)]
  try dsimp only
  rw [belems_ins N k0 _ ins (by omega) l i hI h2 c8 ins N 0 rfl (by omega)]
  try dsimp only
  simp only [h2, some_bind']
  rw [Within_eq, decide_eq_true (show ((0 : Nat) : Int) ≤ x.2.1 ∧ x.2.1 ≤ 1 from g1)]
  try dsimp only
  rw [Bool.not_true, cond_false, bwidth, g2]
  try dsimp only
  rw [Bool.not_true, cond_false, Fits_eq N _ (by omega) (by omega), g3.1]
  try dsimp only
  rw [Bool.not_true, cond_false, Within_eq, decide_eq_true (show ((0 : Nat) : Int) ≤ x.2.2.2.2 ∧ x.2.2.2.2 ≤ 3 from g3.2)]
  try dsimp only
  rw [Bool.not_true, cond_false, w64_suc (by omega)]
  exact belems_loop hN k0 k1 ins hi l hl r n (i + 1) _ h3 (by simp at hn; omega) (BN_step hB h) (fun y hy => List.mem_cons_of_mem _ (hI y hy)) c2

theorem belems {N : Nat} (hN : 1000 ≤ N) {ins : List PortT} {l : List ElemT} (hi : ins.length + l.length ≤ 40) (hc : elemsC (seenP [] ins) l = 0) (k : Int → Int → Option R) : ratchetbase_ElementsErr N ins l k = k 0 0 := by
 unfold ratchetbase_ElementsErr
 rw [w64_id (by omega) (by omega), cond_neg (by omega)]
 exact belems_loop hN k (k 0 0) ins (by omega) l (by omega) l N 0 (seenP [] ins) rfl (by omega) (fun j x hj => absurd hj (by omega)) (fun y hy => seenP_mem (.inr ⟨y, hy, rfl⟩)) hc
theorem bleavesA (N : Nat) (k0 : KD (List Int → Option R)) (nm : ByteArray) (ins : List PortT) (els : List ElemT) (nodes : List Nd) (rules : List RuleT) (outs : List PortT) (attrs : List AttrT) (hl : ins.length ≤ 100) : ∀ (r : List PortT) (n i : Nat) (acc : List Int), ins.drop i = r → r.length < n → acc.length ≤ i →
  ratchetbase_Leaves_l0 N k0 n i nm ins els nodes rules outs attrs acc = k0 nm ins els nodes rules outs attrs (acc ++ r.map (·.2))
 | [], n, i, acc, h, hn, ha => by
  obtain ⟨n, rfl⟩ := sc hn
  rw [ratchetbase_Leaves_l0, cond_neg (drop_end h), List.map_nil, List.append_nil]
 | x :: r, n, i, acc, h, hn, ha => by
  obtain ⟨n, rfl⟩ := sc hn
  obtain ⟨h1, h2, h3⟩ := drop_step h
  rw [ratchetbase_Leaves_l0, cond_pos (by omega), h2, some_bind', roomB_of (by omega), cond_true, w64_suc (by omega), bleavesA N k0 nm ins els nodes rules outs attrs hl r n (i + 1) (acc ++ [x.2]) h3 (by simp at hn; omega) (by simp; omega), List.map_cons, List.append_assoc]
  rfl
theorem bleavesB (N : Nat) (k0 : List Int → Option R) (nm : ByteArray) (ins : List PortT) (els : List ElemT) (nodes : List Nd) (rules : List RuleT) (outs : List PortT) (attrs : List AttrT) (hl : els.length ≤ 100) : ∀ (r : List ElemT) (n i : Nat) (acc : List Int), els.drop i = r → r.length < n → acc.length ≤ i + 100 →
  ratchetbase_Leaves_l1 N k0 n i nm ins els nodes rules outs attrs acc = k0 (acc ++ r.map (·.2.2.1))
 | [], n, i, acc, h, hn, ha => by
  obtain ⟨n, rfl⟩ := sc hn
  rw [ratchetbase_Leaves_l1, cond_neg (drop_end h), List.map_nil, List.append_nil]
 | x :: r, n, i, acc, h, hn, ha => by
  obtain ⟨n, rfl⟩ := sc hn
  obtain ⟨h1, h2, h3⟩ := drop_step h
  rw [ratchetbase_Leaves_l1, cond_pos (by omega), h2, some_bind', roomB_of (by omega), cond_true, w64_suc (by omega), bleavesB N k0 nm ins els nodes rules outs attrs hl r n (i + 1) (acc ++ [x.2.2.1]) h3 (by simp at hn; omega) (by simp; omega), List.map_cons, List.append_assoc]
  rfl
theorem bleaves {N : Nat} (hN : 1000 ≤ N) (nm : ByteArray) {ins : List PortT} {els : List ElemT} (nodes : List Nd) (rules : List RuleT) (outs : List PortT) (attrs : List AttrT) (hi : ins.length ≤ 100) (he : els.length ≤ 100) (k : List Int → Option R) : ratchetbase_Leaves N nm ins els nodes rules outs attrs k = k (lwOf ins els) := by
 unfold ratchetbase_Leaves
 refine (bleavesA N _ nm ins els nodes rules outs attrs hi ins N 0 [] rfl (by omega) (by simp)).trans ?_
 exact bleavesB N k nm ins els nodes rules outs attrs he els N 0 _ rfl (by omega) (by simp; omega)
theorem bargs (N : Nat) {op : Int} (h : 0 ≤ op) (k : Int → Option R) : ratchetbase_ArgCount N op k = k (argN op) := by
 unfold ratchetbase_ArgCount
 by_cases c0 : op = 0
 ·subst c0; rfl
 by_cases c1 : op = 1
 ·subst c1; rfl
 by_cases c2 : op = 2
 ·subst c2; rfl
 by_cases c3 : op = 14
 ·subst c3; rfl
 by_cases c4 : op = 15
 ·subst c4; rfl
 by_cases c5 : op = 16
 ·subst c5; rfl
 by_cases c6 : op = 12
 ·subst c6; rfl
 rw [cond_neg c0, cond_neg c1, cond_neg c2, cond_neg c3, cond_neg c4, cond_neg c5, cond_neg c6]
 unfold argN
 rw [if_neg (by omega), if_neg (by omega), if_neg c6]
theorem bwid_loop (N : Nat) (k0 : Int → Int → List Int → Int → List Int → Option R) (nodes : List Nd) (m : Int) (hm : m ≤ nodes.length) (op wd : Int) (args : List Int) (v : Int) (ha : args.length ≤ 3) : ∀ (r : List Int) (n i : Nat) (acc : List Int), args.drop i = r → r.length < n → acc.length ≤ i → oddA m r = false →
  ratchetbase_widthsFit_l0 N k0 n nodes i op wd args v acc = k0 op wd args v (acc ++ r.map (wdOf nodes))
 | [], n, i, acc, h, hn, hc, ho => by
  obtain ⟨n, rfl⟩ := sc hn
  rw [ratchetbase_widthsFit_l0, cond_neg (drop_end h), List.map_nil, List.append_nil]
 | x :: r, n, i, acc, h, hn, hc, ho => by
  obtain ⟨n, rfl⟩ := sc hn
  obtain ⟨h1, h2, h3⟩ := drop_step h
  unfold oddA at ho
  rw [List.any_cons, Bool.or_eq_false_iff] at ho
  have hx : 0 ≤ x ∧ x ≤ m - 1 := by simpa using ho.1
  obtain ⟨a, rfl⟩ : ∃ a : Nat, x = a := ⟨x.toNat, by omega⟩
  rw [ratchetbase_widthsFit_l0, cond_pos (by omega), h2, some_bind', at?_lt (show a < nodes.length by omega), some_bind', roomB_of (by omega), cond_true, w64_suc (by omega), bwid_loop N k0 nodes m hm op wd args v ha r n (i + 1) _ h3 (by simp at hn; omega) (by simp; omega) ho.2, List.map_cons, List.append_assoc]
  unfold wdOf
  rw [Int.toNat_natCast, List.getElem?_eq_getElem (show a < nodes.length by omega)]
  rfl
theorem len1 {w : List Int} (h : (w.length : Int) = 1) : ∃ a, w = [a] := by
 match w, h with
 | [a], _ => exact ⟨a, rfl⟩
 | [], h => cases h
 | _ :: _ :: _, h => simp at h; omega
theorem len2 {w : List Int} (h : (w.length : Int) = 2) : ∃ a b, w = [a, b] := by
 match w, h with
 | [a, b], _ => exact ⟨a, b, rfl⟩
 | [], h => cases h
 | [_], h => cases h
 | _ :: _ :: _ :: _, h => simp at h; omega
theorem len3 {w : List Int} (h : (w.length : Int) = 3) : ∃ a b c, w = [a, b, c] := by
 match w, h with
 | [a, b, c], _ => exact ⟨a, b, c, rfl⟩
 | [], h => cases h
 | [_], h => cases h
 | [_, _], h => cases h
 | _ :: _ :: _ :: _ :: _, h => simp at h; omega
theorem bwidths {N : Nat} (hN : 1000 ≤ N) {nodes : List Nd} {m : Nat} (hm : m ≤ nodes.length) (hW : WOK nodes m) {op wd v : Int} {args : List Int} (h0 : 2 ≤ op ∧ op ≤ 18) (hl : (args.length : Int) = argN op) (ho : oddA m args = false) (hv : op = 14 → 0 ≤ v ∧ v ≤ 15) (hwd : wOK wd = true) (k : Bool → Option R) :
  ratchetbase_widthsFit N nodes op wd args v k = k (fitB op wd v (args.map (wdOf nodes))) := by
 have h3 := argN_3 op
 have hw : ∀ x, x ∈ args.map (wdOf nodes) → wOK x = true := by
  intro x hx
  obtain ⟨a, ha, rfl⟩ := List.mem_map.1 hx
  have := List.any_eq_false.1 ho a ha
  have : 0 ≤ a ∧ a ≤ (m : Int) - 1 := by simpa using this
  exact hW a this.1 this.2
 have hwd := of_decide_eq_true hwd
 unfold ratchetbase_widthsFit
 refine (bwid_loop N _ nodes m (by omega) op wd args v (by omega) args N 0 [] rfl (by omega) (by simp) ho).trans ?_
 rw [List.nil_append]
 try dsimp only
 have hlen : ((args.map (wdOf nodes)).length : Int) = argN op := by rw [List.length_map]; exact hl
 generalize args.map (wdOf nodes) = w at hw hlen
 have i1 : ∀ n : Nat, inR 0 (n + 1) = true := fun n => inR_of (by omega) (by omega)
 have i2 : ∀ n : Nat, inR 1 (n + 1 + 1) = true := fun n => inR_of (by omega) (by omega)
 have i3 : ∀ n : Nat, inR 2 (n + 1 + 1 + 1) = true := fun n => inR_of (by omega) (by omega)
 have hop : op = 18 ∨ op = 17 ∨ op = 16 ∨ op = 15 ∨ op = 14 ∨ op = 13 ∨ op = 12 ∨ op = 11 ∨ op = 10 ∨ op = 9 ∨ op = 8 ∨ op = 7 ∨ op = 6 ∨ op = 5 ∨ op = 4 ∨ op = 3 ∨ op = 2 := by omega
 rcases hop with rfl | rfl | rfl | rfl | rfl | rfl | rfl | rfl | rfl | rfl | rfl | rfl | rfl | rfl | rfl | rfl | rfl
 ·obtain ⟨a, b, rfl⟩ := len2 hlen
  simp [fitB, w0, i1]
 ·obtain ⟨a, b, rfl⟩ := len2 hlen
  simp [fitB, w0, i1]
 ·obtain ⟨a, rfl⟩ := len1 hlen
  simp [fitB, w0, i1]
 ·obtain ⟨a, rfl⟩ := len1 hlen
  simp [fitB, w0, i1]
 ·obtain ⟨a, rfl⟩ := len1 hlen
  have := hv rfl
  simp [fitB, w0, i1, w64_id (x := v + wd) (by omega) (by omega)]
 ·obtain ⟨a, b, rfl⟩ := len2 hlen
  have h1 := of_decide_eq_true (hw a (by simp)); have h2 := of_decide_eq_true (hw b (by simp))
  simp [fitB, w0, i1, i2, w64_id (x := a + b) (by omega) (by omega)]
 ·obtain ⟨a, b, c, rfl⟩ := len3 hlen
  by_cases q1 : a = 1 <;> by_cases q2 : b = wd <;> simp [fitB, w0, i1, i2, i3, q1, q2]
 ·obtain ⟨a, b, rfl⟩ := len2 hlen
  by_cases q1 : wd = 1 <;> by_cases q2 : a = b <;> simp [fitB, w0, i1, i2, q1, q2]
 ·obtain ⟨a, b, rfl⟩ := len2 hlen
  by_cases q1 : wd = 1 <;> by_cases q2 : a = b <;> simp [fitB, w0, i1, i2, q1, q2]
 ·obtain ⟨a, b, rfl⟩ := len2 hlen
  by_cases q1 : wd = 1 <;> by_cases q2 : a = b <;> simp [fitB, w0, i1, i2, q1, q2]
 ·obtain ⟨a, b, rfl⟩ := len2 hlen
  by_cases q2 : a = wd <;> simp [fitB, w0, i1, i2, q2]
 ·obtain ⟨a, b, rfl⟩ := len2 hlen
  by_cases q2 : a = wd <;> simp [fitB, w0, i1, i2, q2]
 ·obtain ⟨a, b, rfl⟩ := len2 hlen
  by_cases q2 : a = wd <;> simp [fitB, w0, i1, i2, q2]
 ·obtain ⟨a, b, rfl⟩ := len2 hlen
  by_cases q2 : a = wd <;> simp [fitB, w0, i1, i2, q2]
 ·obtain ⟨a, b, rfl⟩ := len2 hlen
  by_cases q2 : a = wd <;> simp [fitB, w0, i1, i2, q2]
 ·obtain ⟨a, b, rfl⟩ := len2 hlen
  by_cases q2 : a = wd <;> simp [fitB, w0, i1, i2, q2]
 ·obtain ⟨a, rfl⟩ := len1 hlen
  simp [fitB, w0, i1]
theorem bnode_loop (N : Nat) (k0 : Int → Option R) (k1 : List Int → List Nd → Int → Int → List Int → Int → Option R) (lw : List Int) (nodes : List Nd) (m : Nat) (hm : m ≤ 1000000) (op wd : Int) (args : List Int) (v : Int) (ha : args.length ≤ 3) : ∀ (r : List Int) (n i : Nat), args.drop i = r → r.length < n → oddA m r = false →
  ratchetbase_nodeErr_l0 N k0 k1 n lw nodes m i op wd args v = k1 lw nodes op wd args v
 | [], n, i, h, hn, ho => by
  obtain ⟨n, rfl⟩ := sc hn
  rw [ratchetbase_nodeErr_l0, cond_neg (drop_end h)]
 | x :: r, n, i, h, hn, ho => by
  obtain ⟨n, rfl⟩ := sc hn
  obtain ⟨h1, h2, h3⟩ := drop_step h
  unfold oddA at ho
  rw [List.any_cons, Bool.or_eq_false_iff] at ho
  have hx : 0 ≤ x ∧ x ≤ (m : Int) - 1 := by simpa using ho.1
  rw [ratchetbase_nodeErr_l0, cond_pos (by omega), h2, some_bind', Within_eq, w64_id (by omega) (by omega), decide_eq_true hx]
  try dsimp only
  rw [Bool.not_true, cond_false, w64_suc (by omega)]
  exact bnode_loop N k0 k1 lw nodes m hm op wd args v ha r n (i + 1) h3 (by simp at hn; omega) ho.2
theorem bnode {N : Nat} (hN : 1000 ≤ N) {lw : List Int} (hlw : lw.length ≤ 1000000) {nodes : List Nd} (hn : nodes.length ≤ 1000000) {i : Nat} {x : Nd} (hx : at? nodes (i : Int) = some x) (hi : i < nodes.length) (hW : WOK nodes i) (hc : nodeC lw nodes i x = 0) (k : Int → Option R) : ratchetbase_nodeErr N lw nodes i k = k 0 := by
 obtain ⟨h1, h2, h3, h4, h5, h6⟩ := nodeC_w hc
 have hw := of_decide_eq_true h2
 have ha := argN_3 x.1
 unfold ratchetbase_nodeErr
 rw [hx, some_bind', Within_eq, decide_eq_true h1]
 try dsimp only
 rw [Bool.not_true, cond_false, bwidth, h2]
 try dsimp only
 rw [Bool.not_true, cond_false, bargs N h1.1, cond_neg (by simp [h3])]
 refine (bnode_loop N k _ lw nodes i (by omega) x.1 x.2.1 x.2.2.1 x.2.2.2 (by omega) x.2.2.1 N 0 rfl (by omega) h4).trans ?_
 try dsimp only
 unfold valueC at h5
 by_cases c0 : x.1 = 0
 ·rw [if_pos c0] at h5
  rw [cond_pos c0, Fits_eq N _ (by omega) (by omega), if0 (by decide) h5]; rfl
 rw [if_neg c0] at h5
 rw [cond_neg c0]
 by_cases c1 : x.1 = 1
 ·rw [if_pos c1] at h5
  rw [cond_pos c1, Within_eq, w64_id (by omega) (by omega)]
  by_cases c : 0 ≤ x.2.2.2 ∧ x.2.2.2 ≤ (lw.length : Int) - 1
  ·rw [if_pos c] at h5
   have e := if0 (by decide) h5
   rw [decide_eq_true c]
   try dsimp only
   obtain ⟨a, e2⟩ : ∃ a : Nat, x.2.2.2 = a := ⟨x.2.2.2.toNat, by omega⟩
   rw [e2, Int.toNat_natCast] at e
   have hl : a < lw.length := by omega
   rw [List.getElem?_eq_getElem hl] at e
   rw [Bool.not_true, cond_false, e2, at?_lt hl, some_bind', cond_neg (by rw [Option.some.inj e]; simp)]
  ·rw [if_neg c] at h5; cases h5
 rw [if_neg c1] at h5
 rw [cond_neg c1]
 by_cases c2 : x.1 = 14
 ·rw [if_pos c2] at h5
  rw [cond_pos c2, Within_eq, decide_eq_true (if0 (by decide) h5)]
  try dsimp only
  rw [Bool.not_true, cond_false, bwidths hN (m := i) (by omega) hW (by omega) h3 h4 (fun _ => if0 (by decide) h5) h2, h6]
  rfl
 ·rw [if_neg c2] at h5
  rw [cond_neg c2, cond_neg (by simp [if0 (by decide) h5]), bwidths hN (m := i) (by omega) hW (by omega) h3 h4 (fun q => absurd q c2) h2, h6]
  rfl
theorem bnodes_loop {N : Nat} (hN : 1000 ≤ N) (k0 : Int → Int → Option R) (k1 : Option R) {lw : List Int} (hlw : lw.length ≤ 1000000) {nodes : List Nd} (hn : nodes.length ≤ 1000000) : ∀ (r : List Nd) (n i : Nat), nodes.drop i = r → r.length < n → WOK nodes i → nodesC lw nodes i r = 0 → ratchetbase_NodesErr_l0 N k0 k1 n lw nodes i = k1
 | [], n, i, h, hr, hW, hc => by
  obtain ⟨n, rfl⟩ := sc hr
  rw [ratchetbase_NodesErr_l0, cond_neg (drop_end h)]
 | x :: r, n, i, h, hr, hW, hc => by
  obtain ⟨n, rfl⟩ := sc hr
  obtain ⟨h1, h2, h3⟩ := drop_step h
  rw [nodesC_cons, f1_0] at hc
  rw [ratchetbase_NodesErr_l0, cond_pos (by omega), bnode hN hlw hn h2 h1 hW hc.1, cond_neg (by simp), w64_suc (by omega)]
  exact bnodes_loop hN k0 k1 hlw hn r n (i + 1) h3 (by simp at hr; omega) (WOK_step h (nodeC_w hc.1).2.1 hW) hc.2
theorem bnodes {N : Nat} (hN : 1000 ≤ N) {lw : List Int} {nodes : List Nd} (hc : chkC lw nodes = 0) (k : Int → Int → Option R) : ratchetbase_NodesErr N lw nodes k = k 0 0 := by
 obtain ⟨h1, h2, h3, h4⟩ := chkC_0 hc
 unfold ratchetbase_NodesErr
 rw [cond_neg (by omega)]
 exact bnodes_loop hN k (k 0 0) (by omega) (by omega) nodes N 0 rfl (by omega) (fun a h0 h1 => by omega) h4

theorem bisNode (N : Nat) {nodes : List Nd} (hn : nodes.length ≤ 1000000) (n : Int) (k : Bool → Option R) : ratchetbase_IsNode N nodes n k = k (isNd nodes n) := by
 unfold ratchetbase_IsNode isNd; rw [Within_eq, w64_id (by omega) (by omega)]
theorem bisCond (N : Nat) {nodes : List Nd} (hn : nodes.length ≤ 1000000) {n : Int} (h : isCond nodes n = true) (k : Bool → Option R) : ratchetbase_IsCondition N nodes n k = k true := by
 unfold isCond at h
 rw [Bool.and_eq_true] at h
 obtain ⟨x, h1, h2⟩ := isNd_at h.1
 unfold ratchetbase_IsCondition
 rw [bisNode N hn, h.1, cond_true, h1, some_bind', h2, h.2]
theorem bwrites_loop (N : Nat) (k0 : Int → Option R) (k1 : Option R) {els : List ElemT} (he : els.length ≤ 1000000) {nodes : List Nd} (hn : nodes.length ≤ 1000000) (l : List WrT) (hl : l.length ≤ 1000000) (hw : ∀ x, x ∈ l → WrOK els nodes x) : ∀ (r : List WrT) (n i : Nat), l.drop i = r → r.length < n →
  ratchetbase_WritesErr_l0 N k0 k1 n els nodes l i = k1
 | [], n, i, h, hr => by
  obtain ⟨n, rfl⟩ := sc hr
  rw [ratchetbase_WritesErr_l0, cond_neg (drop_end h)]
 | x :: r, n, i, h, hr => by
  obtain ⟨n, rfl⟩ := sc hr
  obtain ⟨h1, h2, h3⟩ := drop_step h
  obtain ⟨q1, q2, q3, q4⟩ := hw x (List.mem_of_mem_drop (h ▸ List.mem_cons_self : x ∈ l.drop i))
  obtain ⟨y, e1, e2⟩ := isNd_at q3
  obtain ⟨a, e3⟩ : ∃ a : Nat, x.1 = a := ⟨x.1.toNat, by omega⟩
  have ha : a < els.length := by omega
  have e4 : ewd els x.1 = els[a].2.2.1 := by
   unfold ewd
   rw [e3, Int.toNat_natCast, List.getElem?_eq_getElem ha]; rfl
  rw [ratchetbase_WritesErr_l0, cond_pos (by omega)]
  simp only [h2, some_bind']
  rw [Within_eq, w64_id (by omega) (by omega), decide_eq_true q1]
  try dsimp only
  rw [Bool.not_true, cond_false, bisCond N hn q2]
  try dsimp only
  rw [Bool.not_true, cond_false, bisNode N hn, q3]
  try dsimp only
  rw [Bool.not_true, cond_false, e1, some_bind', e3, at?_lt ha, some_bind', cond_neg (by rw [e2, q4, e4]; simp), w64_suc (by omega)]
  exact bwrites_loop N k0 k1 he hn l hl hw r n (i + 1) h3 (by simp at hr; omega)
theorem bwrites {N : Nat} (hN : 1000 ≤ N) {els : List ElemT} (he : els.length ≤ 1000000) {nodes : List Nd} (hn : nodes.length ≤ 1000000) {l : List WrT} (hl : l.length ≤ 16) (hw : ∀ x, x ∈ l → WrOK els nodes x) (k : Int → Option R) : ratchetbase_WritesErr N els nodes l k = k 0 := by
 unfold ratchetbase_WritesErr
 rw [cond_neg (by omega)]
 exact bwrites_loop N k (k 0) he hn l (by omega) hw l N 0 rfl (by omega)
theorem bouts_in (N : Nat) (k0 : Int → Int → Option R) (k1 : List Nd → List PortT → Int → Option R) (nodes : List Nd) (l : List PortT) (hl : l.length ≤ 1000000) (i : Nat) {S : List ByteArray} (hB : BN (·.1) l i S) {x : PortT} (hx : at? l (i : Int) = some x) (hi : i < l.length) (hS : inS x.1 S = false) : ∀ (m j n : Nat), j + m = i → m < n →
  ratchetbase_OutputsErr_l1 N k0 k1 n nodes l i j = k1 nodes l i
 | 0, j, n, h, hn => by
  obtain ⟨n, rfl⟩ : ∃ m, n = m + 1 := ⟨n - 1, by omega⟩
  rw [ratchetbase_OutputsErr_l1, cond_neg (by omega)]
 | m + 1, j, n, h, hn => by
  obtain ⟨n, rfl⟩ : ∃ m, n = m + 1 := ⟨n - 1, by omega⟩
  obtain ⟨q1, q2⟩ := BN_at (j := j) hB (by omega) (by omega)
  rw [ratchetbase_OutputsErr_l1, cond_pos (by omega), q1, some_bind', hx, some_bind', cond_neg (inS_ne hS q2), w64_suc (by omega)]
  exact bouts_in N k0 k1 nodes l hl i hB hx hi hS m (j + 1) n (by omega) (by omega)
theorem bouts_loop {N : Nat} (hN : 1000 ≤ N) (k0 : Int → Int → Option R) (k1 : Option R) {nodes : List Nd} (hn : nodes.length ≤ 1000000) (l : List PortT) (hl : l.length ≤ 100) : ∀ (r : List PortT) (n i : Nat) (S : List ByteArray), l.drop i = r → r.length < n → BN (·.1) l i S → outsC nodes S r = 0 → ratchetbase_OutputsErr_l0 N k0 k1 n nodes l i = k1
 | [], n, i, S, h, hr, hB, hc => by
  obtain ⟨n, rfl⟩ := sc hr
  rw [ratchetbase_OutputsErr_l0, cond_neg (drop_end h)]
 | x :: r, n, i, S, h, hr, hB, hc => by
  obtain ⟨n, rfl⟩ := sc hr
  obtain ⟨h1, h2, h3⟩ := drop_step h
  obtain ⟨c1, c2⟩ := f1_0.1 (show f1 (outC nodes S x) (outsC nodes (x.1 :: S) r) = 0 from hc)
  obtain ⟨c3, c4⟩ := f1_0.1 c1
  obtain ⟨c5, c6⟩ := nerr_0 c3
  rw [ratchetbase_OutputsErr_l0, cond_pos (by omega), h2, some_bind', bname hN c5]
  try dsimp only
  rw [Bool.not_true, cond_false, show (0 : Int) = ((0 : Nat) : Int) from rfl, bouts_in N k0 _ nodes l (by omega) i hB h2 h1 c6 i 0 N (by omega) (by omega)]
  try dsimp only
  rw [h2, some_bind', bisNode N hn, if0 (by decide) c4]
  try dsimp only
  rw [Bool.not_true, cond_false, w64_suc (by omega)]
  exact bouts_loop hN k0 k1 hn l hl r n (i + 1) _ h3 (by simp at hr; omega) (BN_step hB h) c2
theorem bouts {N : Nat} (hN : 1000 ≤ N) {nodes : List Nd} (hn : nodes.length ≤ 1000000) {l : List PortT} (hl : l.length ≤ 12) (hc : outsC nodes [] l = 0) (k : Int → Int → Option R) : ratchetbase_OutputsErr N nodes l k = k 0 0 := by
 unfold ratchetbase_OutputsErr
 rw [cond_neg (by omega)]
 exact bouts_loop hN k (k 0 0) hn l (by omega) l N 0 [] rfl (by omega) (fun j x hj => absurd hj (by omega)) hc
section
variable {N : Nat} (nm : ByteArray) (ins : List PortT) {els : List ElemT} {nodes : List Nd} (l : List RuleT) (outs : List PortT) (attrs : List AttrT)
theorem brules_in (k0 : Int → Int → Option R) (k1 : Int → KD (ByteArray → Int → List WrT → Option R)) (hl : l.length ≤ 1000000) (i : Nat) {S : List ByteArray} (hB : BN (·.1) l i S) {s : ByteArray} (g : Int) (wr : List WrT) (hi : i < l.length) (hS : inS s S = false) : ∀ (m j n : Nat), j + m = i → m < n →
  ratchetbase_DesignErr_l1 N k0 k1 n i j nm ins els nodes l outs attrs s g wr = k1 i nm ins els nodes l outs attrs s g wr
 | 0, j, n, h, hn => by
  obtain ⟨n, rfl⟩ : ∃ m, n = m + 1 := ⟨n - 1, by omega⟩
  rw [ratchetbase_DesignErr_l1, cond_neg (by omega)]
 | m + 1, j, n, h, hn => by
  obtain ⟨n, rfl⟩ : ∃ m, n = m + 1 := ⟨n - 1, by omega⟩
  obtain ⟨q1, q2⟩ := BN_at (j := j) hB (by omega) (by omega)
  rw [ratchetbase_DesignErr_l1, cond_pos (by omega), q1, some_bind', cond_neg (inS_ne hS q2), w64_suc (by omega)]
  exact brules_in k0 k1 hl i hB g wr hi hS m (j + 1) n (by omega) (by omega)
theorem brules_loop (hN : 1000 ≤ N) (k0 : Int → Int → Option R) (k1 : KD (Option R)) (he : els.length ≤ 1000000) (hn : nodes.length ≤ 1000000) (hl : l.length ≤ 100) : ∀ (r : List RuleT) (n i : Nat) (S : List ByteArray), l.drop i = r → r.length < n → BN (·.1) l i S → rulesC els nodes S r = 0 →
  ratchetbase_DesignErr_l0 N k0 k1 n i nm ins els nodes l outs attrs = k1 nm ins els nodes l outs attrs
 | [], n, i, S, h, hr, hB, hc => by
  obtain ⟨n, rfl⟩ := sc hr
  rw [ratchetbase_DesignErr_l0, cond_neg (drop_end h)]
 | x :: r, n, i, S, h, hr, hB, hc => by
  obtain ⟨n, rfl⟩ := sc hr
  obtain ⟨h1, h2, h3⟩ := drop_step h
  obtain ⟨c1, c2⟩ := f1_0.1 (show f1 (ruleC S els nodes x) (rulesC els nodes (x.1 :: S) r) = 0 from hc)
  obtain ⟨c3, c4⟩ := f1_0.1 c1
  obtain ⟨c5, c6⟩ := f1_0.1 c3
  obtain ⟨c7, c8⟩ := f1_0.1 c6
  obtain ⟨c9, c10⟩ := nerr_0 c5
  rw [ratchetbase_DesignErr_l0, cond_pos (by omega), h2, some_bind', bname hN c9]
  try dsimp only
  rw [Bool.not_true, cond_false, show (0 : Int) = ((0 : Nat) : Int) from rfl, brules_in nm ins l outs attrs k0 _ (by omega) i hB _ _ h1 c10 i 0 N (by omega) (by omega)]
  try dsimp only
  rw [bisCond N hn (if0 (by decide) c7)]
  try dsimp only
  rw [Bool.not_true, cond_false, bwrites hN he hn (if0 (by decide) c8) (writesC_0 _ c4), cond_neg (by simp), w64_suc (by omega)]
  exact brules_loop hN k0 k1 he hn hl r n (i + 1) _ h3 (by simp at hr; omega) (BN_step hB h) c2
end
theorem bdesign {N : Nat} (hN : 1000 ≤ N) {nm : ByteArray} {ins : List PortT} {els : List ElemT} {nodes : List Nd} {rules : List RuleT} {outs : List PortT} (h : dcode nm ins els nodes rules outs [] = 0) (k : Bool → Option R) : ratchetbase_IsDesign N nm ins els nodes rules outs [] k = k true := by
 unfold dcode at h
 simp only [f1_0] at h
 obtain ⟨⟨h1, h2⟩, h3, h4, h5, h6, h7, h8, h9, h10, _⟩ := h
 have h2 := le8_0 h2; have h4 := le8_0 h4; have h7 := le8_0 h7; have h9 := le8_0 h9
 have hn := (chkC_0 h6).2.2.1
 unfold ratchetbase_IsDesign ratchetbase_DesignErr
 rw [bname hN (if0 (by decide) h1)]
 try dsimp only
 rw [Bool.not_true, cond_false, bports hN h2 h3, cond_neg (by simp), belems hN h4 h5, cond_neg (by simp), bleaves hN nm nodes rules outs [] (by omega) (by omega), bnodes hN h6, cond_neg (by simp), cond_neg (by omega)]
 refine (brules_loop nm ins rules outs [] hN _ _ (by omega) (by omega) (by omega) rules N 0 [] rfl (by omega) (fun j x hj => absurd hj (by omega)) h8).trans ?_
 try dsimp only
 rw [bouts hN (by omega) h9 h10, cond_neg (by simp), cond_neg (by simp)]
 obtain ⟨n, rfl⟩ : ∃ m, N = m + 1 := ⟨N - 1, by omega⟩
 rw [ratchetbase_DesignErr_l2, cond_neg (by simp)]
 rfl

theorem bbit (N : Nat) (b : Bool) (k : Int → Option R) : ratchetbase_Bit N b k = k (b2i b) := by cases b <;> rfl
theorem tm_eq {n : Int} (P : Int) (h : 0 ≤ n) : Int.tmod n P = n % P := Int.tmod_eq_emod_of_nonneg h
theorem td_eq {n : Int} (P : Int) (h : 0 ≤ n) : Int.tdiv n P = n / P := Int.tdiv_eq_ediv_of_nonneg h
theorem VS1 {a b : Int} (h : VS [a] [b]) : (1 ≤ a ∧ a ≤ 16) ∧ vok a b = true := h.2 0 (by simp)
theorem VS2 {a b x y : Int} (h : VS [a, b] [x, y]) : ((1 ≤ a ∧ a ≤ 16) ∧ vok a x = true) ∧ (1 ≤ b ∧ b ≤ 16) ∧ vok b y = true := ⟨h.2 0 (by simp), h.2 1 (by simp)⟩
theorem VS_l1 {w a : List Int} (hl : (w.length : Int) = 1) (h : VS w a) : ∃ p x, w = [p] ∧ a = [x] := by
 obtain ⟨p, rfl⟩ := len1 hl
 obtain ⟨x, rfl⟩ := len1 (w := a) (by rw [← h.1]; rfl)
 exact ⟨p, x, rfl, rfl⟩
theorem VS_l2 {w a : List Int} (hl : (w.length : Int) = 2) (h : VS w a) : ∃ p q x y, w = [p, q] ∧ a = [x, y] := by
 obtain ⟨p, q, rfl⟩ := len2 hl
 obtain ⟨x, y, rfl⟩ := len2 (w := a) (by rw [← h.1]; rfl)
 exact ⟨p, q, x, y, rfl, rfl⟩
theorem VS_l3 {w a : List Int} (hl : (w.length : Int) = 3) (h : VS w a) : ∃ p q r x y z, w = [p, q, r] ∧ a = [x, y, z] := by
 obtain ⟨p, q, r, rfl⟩ := len3 hl
 obtain ⟨x, y, z, rfl⟩ := len3 (w := a) (by rw [← h.1]; rfl)
 exact ⟨p, q, r, x, y, z, rfl, rfl⟩
theorem a0 (x : Int) (l : List Int) : at? (x :: l) 0 = some x := rfl
theorem a1 (x y : Int) (l : List Int) : at? (x :: y :: l) 1 = some y := rfl
theorem a2 (x y z : Int) (l : List Int) : at? (x :: y :: z :: l) 2 = some z := rfl
theorem bapply (N : Nat) (args lv : List Int) {op wd v : Int} {w a : List Int} (h0 : 0 ≤ op ∧ op ≤ 18) (h1 : op ≠ 1) (hw : wOK wd = true) (hl : (w.length : Int) = argN op) (hv : valueC [] op wd v = 0) (hf : fitB op wd v w = true) (hs : VS w a) (k : Int → Option R) :
  ratchetbase_Apply N op wd args v a w lv k = k (apS op wd v w a) := by
 have hwd := of_decide_eq_true hw
 have hP := p2_pos wd; have hP2 := p2_16 hwd.2
 unfold ratchetbase_Apply
 rw [power_eq N (by omega) (by omega)]
 have hop : op = 18 ∨ op = 17 ∨ op = 16 ∨ op = 15 ∨ op = 14 ∨ op = 13 ∨ op = 12 ∨ op = 11 ∨ op = 10 ∨ op = 9 ∨ op = 8 ∨ op = 7 ∨ op = 6 ∨ op = 5 ∨ op = 4 ∨ op = 3 ∨ op = 2 ∨ op = 0 := by omega
 rcases hop with rfl | rfl | rfl | rfl | rfl | rfl | rfl | rfl | rfl | rfl | rfl | rfl | rfl | rfl | rfl | rfl | rfl | rfl
 all_goals simp only [Int.reduceEq, decide_true, decide_false, cond_true, cond_false]
 ·obtain ⟨p, q, x, y, rfl, rfl⟩ := VS_l2 hl hs
  obtain ⟨s1, s2⟩ := VS2 hs
  have r1 := vok16 s1.1.2 s1.2; have r2 := vok16 s2.1.2 s2.2
  have hy := p2_pos y
  rw [a1, some_bind', a0, some_bind', some_bind']
  show _ = k (if wd ≤ y then 0 else x / p2 y)
  by_cases c : wd ≤ y
  ·rw [cond_pos c, if_pos c]
  ·have e1 := Int.ediv_nonneg r1.1 (show 0 ≤ p2 y by omega)
   have e2 := Int.ediv_le_self (p2 y) r1.1
   rw [cond_neg c, if_neg c, power_eq N (by omega) (by omega), cond_neg (by omega), td_eq _ r1.1, w64_id (by omega) (by omega)]
 ·obtain ⟨p, q, x, y, rfl, rfl⟩ := VS_l2 hl hs
  obtain ⟨s1, s2⟩ := VS2 hs
  have r1 := vok16 s1.1.2 s1.2; have r2 := vok16 s2.1.2 s2.2
  have hy := p2_pos y
  rw [a1, some_bind', a0, some_bind', some_bind']
  show _ = k (if wd ≤ y then 0 else x * p2 y % p2 wd)
  by_cases c : wd ≤ y
  ·rw [cond_pos c, if_pos c]
  ·have hy2 := p2_16 (n := y) (by omega)
   have e := mul_bits r1.1 r1.2 (show 0 ≤ p2 y by omega) hy2
   rw [cond_neg c, if_neg c, power_eq N (by omega) (by omega), cond_neg (by omega), w64_id (by omega) (by omega), tm_eq _ e.1]
 ·obtain ⟨p, x, rfl, rfl⟩ := VS_l1 hl hs
  have s1 := VS1 hs
  have r1 := vok16 s1.1.2 s1.2
  have hf : p ≤ wd := of_decide_eq_true hf
  have g := sg_range s1.1.1 s1.2
  have g2 := p2_le (show p - 1 ≤ wd by omega)
  rw [a0, some_bind', a0, some_bind', Signed_eq N x s1.1.1 s1.1.2 (by omega), cond_neg (by omega), w64_id (by omega) (by omega), tm_eq _ (by omega), Int.add_emod_right]
  rfl
 ·obtain ⟨p, x, rfl, rfl⟩ := VS_l1 hl hs
  rfl
 ·obtain ⟨p, x, rfl, rfl⟩ := VS_l1 hl hs
  have s1 := VS1 hs
  have r1 := vok16 s1.1.2 s1.2
  have hv : 0 ≤ v ∧ v ≤ 15 := if0 (by decide) (show (if 0 ≤ v ∧ v ≤ 15 then (0 : Int) else 2) = 0 from hv)
  have hy := p2_pos v
  have e1 := Int.ediv_nonneg r1.1 (show 0 ≤ p2 v by omega)
  have e2 := Int.ediv_le_self (p2 v) r1.1
  rw [a0, some_bind', power_eq N (by omega) (by omega), cond_neg (by omega), cond_neg (by omega), td_eq _ r1.1, w64_id (by omega) (by omega), tm_eq _ e1]
  rfl
 ·obtain ⟨p, q, x, y, rfl, rfl⟩ := VS_l2 hl hs
  obtain ⟨s1, s2⟩ := VS2 hs
  have r1 := vok16 s1.1.2 s1.2; have r2 := vok16 s2.1.2 s2.2
  have hq := p2_pos q; have hq2 := p2_16 s2.1.2
  have e := mul_bits r1.1 r1.2 (show 0 ≤ p2 q by omega) hq2
  rw [a0, some_bind', a1, some_bind', power_eq N (by omega) (by omega), a1, some_bind', w64_id (x := x * p2 q) (by omega) (by omega), w64_id (by omega) (by omega)]
  rfl
 ·obtain ⟨p, q, r, x, y, z, rfl, rfl⟩ := VS_l3 hl hs
  rw [a0, some_bind', a1, some_bind', a2, some_bind']
  show _ = k (if x = 1 then y else z)
  by_cases c : x = 1
  ·rw [cond_pos c, if_pos c]
  ·rw [cond_neg c, if_neg c]
 ·obtain ⟨p, q, x, y, rfl, rfl⟩ := VS_l2 hl hs
  obtain ⟨s1, s2⟩ := VS2 hs
  have r1 := vok16 s1.1.2 s1.2; have r2 := vok16 s2.1.2 s2.2
  have hf : wd = 1 ∧ p = q := of_decide_eq_true hf
  rw [a0, some_bind', a0, some_bind', Signed_eq N x s1.1.1 s1.1.2 (by omega), a1, some_bind', a1, some_bind', Signed_eq N y s2.1.1 s2.1.2 (by omega), bbit, ← hf.2]
  rfl
 ·obtain ⟨p, q, x, y, rfl, rfl⟩ := VS_l2 hl hs
  rw [a0, some_bind', a1, some_bind', bbit]; rfl
 ·obtain ⟨p, q, x, y, rfl, rfl⟩ := VS_l2 hl hs
  rw [a0, some_bind', a1, some_bind', bbit]; rfl
 ·obtain ⟨p, q, x, y, rfl, rfl⟩ := VS_l2 hl hs
  obtain ⟨s1, s2⟩ := VS2 hs
  have r1 := vok16 s1.1.2 s1.2; have r2 := vok16 s2.1.2 s2.2
  have e := mul_bits r1.1 r1.2 r2.1 r2.2
  rw [a0, some_bind', a1, some_bind', cond_neg (by omega), w64_id (by omega) (by omega), tm_eq _ e.1]; rfl
 ·obtain ⟨p, q, x, y, rfl, rfl⟩ := VS_l2 hl hs
  obtain ⟨s1, s2⟩ := VS2 hs
  have r1 := vok16 s1.1.2 s1.2
  have e1 : q = wd := fit_all hf (i := 1) (by simp)
  rw [e1] at s2
  have r2 := vokI s2.2
  rw [a0, some_bind', a1, some_bind', cond_neg (by omega), w64_id (x := x - y) (by omega) (by omega), w64_id (by omega) (by omega), tm_eq _ (by omega), Int.add_emod_right]; rfl
 ·obtain ⟨p, q, x, y, rfl, rfl⟩ := VS_l2 hl hs
  obtain ⟨s1, s2⟩ := VS2 hs
  have r1 := vok16 s1.1.2 s1.2; have r2 := vok16 s2.1.2 s2.2
  rw [a0, some_bind', a1, some_bind', cond_neg (by omega), w64_id (by omega) (by omega), tm_eq _ (by omega)]; rfl
 ·obtain ⟨p, q, x, y, rfl, rfl⟩ := VS_l2 hl hs
  rfl
 ·obtain ⟨p, q, x, y, rfl, rfl⟩ := VS_l2 hl hs
  rfl
 ·obtain ⟨p, q, x, y, rfl, rfl⟩ := VS_l2 hl hs
  rfl
 ·obtain ⟨p, x, rfl, rfl⟩ := VS_l1 hl hs
  have s1 := VS1 hs
  have e1 : p = wd := fit_all hf (i := 0) (by simp)
  rw [e1] at s1
  have r1 := vokI s1.2
  rw [a0, some_bind', w64_id (x := p2 wd - 1) (by omega) (by omega), w64_id (by omega) (by omega)]; rfl
 ·rfl

theorem binner (N : Nat) (k0 : List Nd → List Int → Int → List Int → List Int → List Int → Option R) (nodes : List Nd) (lv out : List Int) {i : Nat} {x : Nd} (hx : at? nodes (i : Int) = some x) (hi : i < nodes.length) (ho : i ≤ out.length) (ha : x.2.2.1.length ≤ 3) : ∀ (r : List Int) (n j : Nat) (a w : List Int), x.2.2.1.drop j = r → r.length < n → a.length ≤ j → w.length ≤ j → oddA i r = false →
  ratchetbase_NodeValues_l1 N k0 n nodes lv i j out a w = k0 nodes lv i out (a ++ r.map fun y => w0 out y.toNat) (w ++ r.map (wdOf nodes))
 | [], n, j, a, w, h, hn, h1, h2, hod => by
  obtain ⟨n, rfl⟩ := sc hn
  rw [ratchetbase_NodeValues_l1, hx, some_bind', cond_neg (drop_end h), List.map_nil, List.append_nil, List.map_nil, List.append_nil]
 | y :: r, n, j, a, w, h, hn, h1, h2, hod => by
  obtain ⟨n, rfl⟩ := sc hn
  obtain ⟨q1, q2, q3⟩ := drop_step h
  unfold oddA at hod
  rw [List.any_cons, Bool.or_eq_false_iff] at hod
  have hy : 0 ≤ y ∧ y ≤ (i : Int) - 1 := by simpa using hod.1
  obtain ⟨b, rfl⟩ : ∃ b : Nat, y = b := ⟨y.toNat, by omega⟩
  have hb1 : b < nodes.length := by omega
  have hb2 : b < out.length := by omega
  rw [ratchetbase_NodeValues_l1]
  simp only [hx, some_bind', q2]
  rw [cond_pos (by omega), inR_of (by omega) (by omega), cond_true, Int.toNat_natCast, List.getElem?_eq_getElem hb2, some_bind', roomB_of (by omega), cond_true, at?_lt hb1, some_bind', roomB_of (by omega), cond_true, w64_suc (by omega)]
  refine (binner N k0 nodes lv out hx hi ho ha r n (j + 1) _ _ q3 (by simp at hn; omega) (by simp; omega) (by simp; omega) hod.2).trans ?_
  rw [List.map_cons, List.map_cons, List.append_assoc, List.append_assoc, Int.toNat_natCast, w0_at hb2]
  unfold wdOf
  rw [Int.toNat_natCast, List.getElem?_eq_getElem hb1]
  rfl
theorem w0_appl {l m : List Int} {i : Nat} (h : i < l.length) : w0 (l ++ m) i = w0 l i := by unfold w0; rw [List.getElem?_append_left h]
theorem bnv_loop (N : Nat) (hN : 1000 ≤ N) (k : List Int → Option R) {lw lv : List Int} (hL : LV lw lv) {nodes : List Nd} (hn : nodes.length ≤ 1000000) : ∀ (r : List Nd) (n i : Nat) (acc : List Int), nodes.drop i = r → r.length < n → VI lw nodes i acc → nodesC lw nodes i r = 0 →
  ratchetbase_NodeValues_l0 N k n nodes lv i (acc ++ List.replicate r.length 0) = k (nvG lv nodes r acc)
 | [], n, i, acc, h, hr, hv, hc => by
  obtain ⟨n, rfl⟩ := sc hr
  rw [ratchetbase_NodeValues_l0, cond_neg (drop_end h)]
  show k (acc ++ []) = k acc
  rw [List.append_nil]
 | x :: r, n, i, acc, h, hr, hv, hc => by
  obtain ⟨n, rfl⟩ := sc hr
  obtain ⟨h1, h2, h3⟩ := drop_step h
  rw [nodesC_cons, f1_0] at hc
  obtain ⟨g1, g2, g3, g4, g5, g6⟩ := nodeC_w hc.1
  have hlen := hv.len
  have ha := argN_3 x.1
  rw [ratchetbase_NodeValues_l0, cond_pos (by omega)]
  refine (binner N _ nodes lv _ h2 h1 (by simp; omega) (by omega) x.2.2.1 N 0 [] [] rfl (by omega) (by simp) (by simp) g4).trans ?_
  try dsimp only
  rw [List.nil_append, List.nil_append, h2, some_bind']
  have em : (x.2.2.1.map fun y => w0 (acc ++ List.replicate (x :: r).length 0) y.toNat) = x.2.2.1.map fun y => w0 acc y.toNat := by
   refine List.map_congr_left fun y hy => ?_
   have := List.any_eq_false.1 g4 y hy
   have : 0 ≤ y ∧ y ≤ (i : Int) - 1 := by simpa using this
   exact w0_appl (by omega)
  have fin : ∀ z, z = nv1 lv nodes acc x → (bif inR (i : Int) (acc ++ List.replicate (x :: r).length 0).length then (((acc ++ List.replicate (x :: r).length 0)[((i : Int)).toNat]?).bind fun x16 => (ratchetbase_NodeValues_l0 N k n nodes lv (w64 ((i : Int) + 1)) (List.set (acc ++ List.replicate (x :: r).length 0) ((i : Int)).toNat z))) else none) = k (nvG lv nodes (x :: r) acc) := by
   rintro z rfl
   have hl : i < (acc ++ List.replicate (x :: r).length 0).length := by simp; omega
   rw [inR_of (by omega) (by omega), cond_true, Int.toNat_natCast, List.getElem?_eq_getElem hl, some_bind', w64_suc (by omega), nvG_cons, ← bnv_loop N hN k hL hn r n (i + 1) _ h3 (by simp at hr; omega) (VI_step hL hv h hc.1) hc.2]
   congr 1
   rw [List.set_append_right _ _ (by omega), hlen, Nat.sub_self, List.append_assoc]
   rfl
  by_cases c : x.1 = 1
  ·have hw := of_decide_eq_true g2
   unfold ratchetbase_Apply
   rw [power_eq N (by omega) (by omega), c]
   simp only [Int.reduceEq, decide_true, decide_false, cond_true, cond_false]
   rw [c] at g5
   have h5 : (if 0 ≤ x.2.2.2 ∧ x.2.2.2 ≤ (lw.length : Int) - 1 then (if lw[x.2.2.2.toNat]? = some x.2.1 then (0 : Int) else 25) else 6) = 0 := g5
   have hb : 0 ≤ x.2.2.2 ∧ x.2.2.2 ≤ (lw.length : Int) - 1 := by
    split at h5
    ·assumption
    ·cases h5
   have hll := hL.1
   obtain ⟨b, hb2⟩ : ∃ b : Nat, x.2.2.2 = b := ⟨x.2.2.2.toNat, by omega⟩
   rw [hb2, at_w0 (w := lv) (by omega), some_bind']
   refine fin _ ?_
   unfold nv1
   rw [if_pos c, hb2, Int.toNat_natCast]
  ·rw [em, bapply N _ lv g1 c g2 (by rw [List.length_map]; exact g3) ((valueC_ne c).trans g5) g6 (VI_args hv g4)]
   refine fin _ ?_
   unfold nv1
   rw [if_neg c]
theorem bvalues {N : Nat} (hN : 1000 ≤ N) {lw lv : List Int} (hL : LV lw lv) {nodes : List Nd} (hc : chkC lw nodes = 0) (k : List Int → Option R) : ratchetbase_NodeValues N nodes lv k = k (nvG lv nodes nodes []) := by
 obtain ⟨h1, h2, h3, h4⟩ := chkC_0 hc
 unfold ratchetbase_NodeValues
 rw [cond_pos (by omega), roomB_of (by omega), cond_true]
 exact bnv_loop N hN k hL (by omega) nodes N 0 [] rfl (by omega) (VI_0 lw nodes) h4
section
variable {N : Nat} {nm : ByteArray} {ins : List PortT} {els : List ElemT} {nodes : List Nd} {rules : List RuleT} {outs : List PortT} {attrs : List AttrT}
theorem bresets_loop (k : List Int → Option R) (hl : els.length ≤ 1000000) : ∀ (r : List ElemT) (n i : Nat) (acc : List Int), els.drop i = r → r.length < n → acc.length = i →
  ratchetbase_Resets_l0 N k n i nm ins els nodes rules outs attrs (acc ++ List.replicate r.length 0) = k (acc ++ elI r)
 | [], n, i, acc, h, hr, ha => by
  obtain ⟨n, rfl⟩ := sc hr
  rw [ratchetbase_Resets_l0, cond_neg (drop_end h)]; rfl
 | x :: r, n, i, acc, h, hr, ha => by
  obtain ⟨n, rfl⟩ := sc hr
  obtain ⟨h1, h2, h3⟩ := drop_step h
  have hl' : i < (acc ++ List.replicate (x :: r).length 0).length := by simp; omega
  rw [ratchetbase_Resets_l0, cond_pos (by omega), h2, some_bind', inR_of (by omega) (by omega), cond_true, Int.toNat_natCast, List.getElem?_eq_getElem hl', some_bind', w64_suc (by omega), List.set_append_right _ _ (by omega), ha, Nat.sub_self]
  have := bresets_loop k hl r n (i + 1) (acc ++ [x.2.2.2.1]) h3 (by simp at hr; omega) (by simp [ha])
  rw [List.append_assoc, List.append_assoc] at this
  exact this
theorem bresets (hN : els.length < N) (hl : els.length ≤ 1000000) (k : List Int → Option R) : ratchetbase_Resets N nm ins els nodes rules outs attrs k = k (elI els) := by
 unfold ratchetbase_Resets
 rw [cond_pos (by omega), roomB_of (by omega), cond_true]
 exact bresets_loop k hl els N 0 [] rfl (by omega) rfl
theorem bleafv {a b : List Int} (ha : a.length ≤ 1000) (hb : b.length ≤ 1000) (k : List Int → Option R) : ratchetbase_LeafValues N a b k = k (a ++ b) := by
 unfold ratchetbase_LeafValues
 rw [copyInts_eq N a (by omega), roomB_of (by omega), cond_true]
theorem lv_lens (hv : DV ins els nodes rules outs) {inp s : List Int} (hi : LV (inW ins) inp) (hs : LV (elW els) s) : inp.length ≤ 1000 ∧ s.length ≤ 1000 := by
 have h1 := hi.1; have h2 := hs.1; have h3 := (chkC_0 hv.chk).1
 unfold lwOf at h3
 unfold inW at h1
 unfold elW at h2
 rw [List.length_append, ← h1, ← h2] at h3
 omega
theorem benabled (hN : 1000 ≤ N) (hv : DV ins els nodes rules outs) {inp s : List Int} (hi : LV (inW ins) inp) (hs : LV (elW els) s) {a : Nat} (ha : a < rules.length) (k : Bool → Option R) :
  ratchetbase_Enabled N nm ins els nodes rules outs attrs a inp s k = k (decide (w0 (dV nodes inp s) rules[a].2.1.toNat = 1)) := by
 obtain ⟨l1, l2⟩ := lv_lens hv hi hs
 have hg := (hv.rulesW _ (List.getElem_mem ha)).1
 unfold isCond at hg
 rw [Bool.and_eq_true] at hg
 unfold ratchetbase_Enabled
 rw [bleafv l1 l2, bvalues hN (LV_app hi hs) hv.chk, at?_lt ha, some_bind', show nvG (inp ++ s) nodes nodes [] = dV nodes inp s from rfl, dV_at hv hi hs hg.1, some_bind']
theorem bhap_loop (k : List Int → Option R) (V : List Int) (l : List WrT) (hl : l.length ≤ 1000000) (m : Nat) (hV : ∀ x, x ∈ l → (0 ≤ x.1 ∧ x.1 ≤ (m : Int) - 1) ∧ at? V x.2.1 = some (w0 V x.2.1.toNat) ∧ at? V x.2.2 = some (w0 V x.2.2.toNat)) : ∀ (r : List WrT) (n i : Nat) (s : List Int), l.drop i = r → r.length < n → s.length = m →
  ratchetbase_Happened_l0 N k n V l i s = k (hap V r s)
 | [], n, i, s, h, hn, ha => by
  obtain ⟨n, rfl⟩ := sc hn
  rw [ratchetbase_Happened_l0, cond_neg (drop_end h)]; rfl
 | x :: r, n, i, s, h, hn, ha => by
  obtain ⟨n, rfl⟩ := sc hn
  obtain ⟨h1, h2, h3⟩ := drop_step h
  have hx := hV x (List.mem_of_mem_drop (h ▸ List.mem_cons_self : x ∈ l.drop i))
  rw [ratchetbase_Happened_l0, cond_pos (by omega)]
  simp only [h2, some_bind', hx.2.1, hx.2.2]
  rw [w64_suc (by omega)]
  by_cases c : w0 V x.2.1.toNat = 1
  ·rw [cond_pos c, inR_of hx.1.1 (by omega), cond_true, List.getElem?_eq_getElem (by omega), some_bind', bhap_loop k V l hl m hV r n (i + 1) _ h3 (by simp at hn; omega) (by simpa using ha)]
   show _ = k (hap V r (if _ then _ else _))
   rw [if_pos c]
  ·rw [cond_neg c, bhap_loop k V l hl m hV r n (i + 1) _ h3 (by simp at hn; omega) ha]
   show _ = k (hap V r (if _ then _ else _))
   rw [if_neg c]
theorem bhappened (hN : 1000 ≤ N) (hv : DV ins els nodes rules outs) {inp s : List Int} (hi : LV (inW ins) inp) (hs : LV (elW els) s) {a : Nat} (ha : a < rules.length) (k : List Int → Option R) :
  ratchetbase_Happened N nm ins els nodes rules outs attrs a inp s k = k (hap (dV nodes inp s) rules[a].2.2 s) := by
 obtain ⟨l1, l2⟩ := lv_lens hv hi hs
 have hx := hv.rulesW _ (List.getElem_mem ha)
 have hsl := hs.1
 unfold elW at hsl
 rw [List.length_map] at hsl
 unfold ratchetbase_Happened
 rw [bleafv l1 l2, bvalues hN (LV_app hi hs) hv.chk, copyInts_eq N s (by omega), at?_lt ha, some_bind', show nvG (inp ++ s) nodes nodes [] = dV nodes inp s from rfl]
 refine bhap_loop k _ _ (by omega) els.length (fun y hy => ?_) _ N 0 s rfl (by omega) hsl
 obtain ⟨q1, q2, q3, q4⟩ := hx.2.2 y hy
 unfold isCond at q2
 rw [Bool.and_eq_true] at q2
 exact ⟨q1, dV_at hv hi hs q2.1, dV_at hv hi hs q3⟩
end

theorem rferr_loop (N : Nat) (k0 : Int → Option R) (k1 : List Int → Int → Int → Option R) (l : List Int) (W Rw : Int) (hl : l.length ≤ 1000000) : ∀ (r : List Int) (n i : Nat), l.drop i = r → r.length < n →
  ratchetref30_FilterErr_l0 N k0 k1 n i l W Rw = if r.all tapB = true then k1 l W Rw else k0 2
 | [], n, i, h, hn => by
  obtain ⟨n, rfl⟩ := sc hn
  rw [ratchetref30_FilterErr_l0, cond_neg (drop_end h)]; rfl
 | x :: r, n, i, h, hn => by
  obtain ⟨n, rfl⟩ := sc hn
  obtain ⟨h1, h2, h3⟩ := drop_step h
  rw [ratchetref30_FilterErr_l0, cond_pos (by omega), h2, some_bind', Within_eq]
  show (bif !tapB x then _ else _) = _
  rw [List.all_cons]
  cases tapB x
  ·rfl
  ·rw [Bool.not_true, cond_false, w64_suc (by omega), rferr_loop N k0 k1 l W Rw hl r n (i + 1) h3 (by simp at hn; omega), Bool.true_and]
theorem rfd_loop (N : Nat) (k0 : Int → Option R) (k1 : Option R) (t : List Int) {W : Int} (Rw : Int) (hW : 0 ≤ W ∧ W ≤ 16) (l : List Int) (hl : l.length ≤ 1000000) : ∀ (r : List Int) (n i : Nat), l.drop i = r → r.length < n →
  ratchetref30_FilteredErr_l0 N k0 k1 n l i t W Rw = if r.all (vok W) = true then k1 else k0 2
 | [], n, i, h, hn => by
  obtain ⟨n, rfl⟩ := sc hn
  rw [ratchetref30_FilteredErr_l0, cond_neg (drop_end h)]; rfl
 | x :: r, n, i, h, hn => by
  obtain ⟨n, rfl⟩ := sc hn
  obtain ⟨h1, h2, h3⟩ := drop_step h
  rw [ratchetref30_FilteredErr_l0, cond_pos (by omega), h2, some_bind', Fits_eq N x hW.1 hW.2, List.all_cons]
  cases vok W x
  ·rfl
  ·try dsimp only
   rw [Bool.not_true, cond_false, w64_suc (by omega), rfd_loop N k0 k1 t Rw hW l hl r n (i + 1) h3 (by simp at hn; omega), Bool.true_and]
theorem taps_small {t : List Int} (h : t.all tapB = true) : t.all smB = true := by
 rw [List.all_eq_true] at h ⊢
 intro x hx
 have := of_decide_eq_true (h x hx)
 exact decide_eq_true (by omega)
theorem sg_all {W : Int} (hW : 1 ≤ W ∧ W ≤ 8) {l : List Int} (h : l.all (vok W) = true) : (l.map (sg W)).all smB = true := by
 rw [List.all_eq_true] at h ⊢
 intro y hy
 obtain ⟨x, hx, rfl⟩ := List.mem_map.1 hy
 have := sg_range hW.1 (h x hx)
 have h128 : p2 (W - 1) ≤ p2 7 := p2_le (by omega)
 have : p2 7 = 128 := rfl
 exact decide_eq_true (by omega)
theorem awake_ok (k : Bool → Option R) : ratchetlaw30_awake 2000 k = k true := by kernel_rfl
theorem ints_loop (N : Nat) (k0 : Bool → Option R) (k1 : Option R) (l : List Int) (hl : l.length ≤ 1000000) : ∀ (r : List Int) (n i : Nat), l.drop i = r → r.length < n → ratchetbase_Ints_l0 N k0 k1 n l l i = k1
 | [], n, i, h, hn => by
  obtain ⟨n, rfl⟩ := sc hn
  rw [ratchetbase_Ints_l0, cond_neg (drop_end h)]
 | x :: r, n, i, h, hn => by
  obtain ⟨n, rfl⟩ := sc hn
  obtain ⟨h1, h2, h3⟩ := drop_step h
  rw [ratchetbase_Ints_l0, cond_pos (by omega), h2, some_bind', some_bind', cond_neg (by simp), w64_suc (by omega)]
  exact ints_loop N k0 k1 l hl r n (i + 1) h3 (by simp at hn; omega)
theorem ints_same (N : Nat) (l : List Int) (hl : l.length ≤ 1000000) (hN : l.length < N) (k : Bool → Option R) : ratchetbase_Ints N l l k = k true := by
 unfold ratchetbase_Ints
 rw [cond_neg (by simp)]
 exact ints_loop N k (k true) l hl l N 0 rfl hN
def serF (l : List Int) : Int := if l.length = 0 then 10 else if 30 < l.length then 8 else if l.all smB = true then 0 else 2
theorem rser_loop (N : Nat) (k0 : Int → Option R) (k1 : Option R) (l : List Int) (hl : l.length ≤ 1000000) : ∀ (r : List Int) (n i : Nat), l.drop i = r → r.length < n → ratchetref30_SamplesErr_l0 N k0 k1 n l i = if r.all smB = true then k1 else k0 2
 | [], n, i, h, hn => by
  obtain ⟨n, rfl⟩ := sc hn
  rw [ratchetref30_SamplesErr_l0, cond_neg (drop_end h)]; rfl
 | x :: r, n, i, h, hn => by
  obtain ⟨n, rfl⟩ := sc hn
  obtain ⟨h1, h2, h3⟩ := drop_step h
  rw [ratchetref30_SamplesErr_l0, cond_pos (by omega), h2, some_bind', Within_eq, List.all_cons]
  show (bif !smB x then _ else _) = _
  cases smB x
  ·rfl
  ·rw [Bool.not_true, cond_false, w64_suc (by omega), rser_loop N k0 k1 l hl r n (i + 1) h3 (by simp at hn; omega), Bool.true_and]
theorem rser_eq {N : Nat} (hN : 1000 ≤ N) (l : List Int) (hl : l.length ≤ 32) (k : Int → Option R) : ratchetref30_SamplesErr N l k = k (serF l) := by
 unfold ratchetref30_SamplesErr serF
 by_cases h0 : l.length = 0
 ·rw [cond_pos (by omega), if_pos h0]
 rw [cond_neg (by omega), if_neg h0]
 by_cases h1 : 30 < l.length
 ·rw [cond_pos (by omega), if_pos h1]
 have := rser_loop N k (k 0) l (by omega) l N 0 rfl (by omega)
 rw [Int.natCast_zero] at this
 rw [cond_neg (by omega), if_neg h1, this]
 split <;> rfl
theorem smpE_loop (N : Nat) (k0 : Int → Option R) (k1 : Option R) (l : List Int) (hl : l.length ≤ 1000000) : ∀ (r : List Int) (n i : Nat), l.drop i = r → r.length < n →
  ∃ j : Nat, slices_IndexFunc_Lint_int_isSample_l0 N k0 k1 n l l.length i = if r.all smB = true then k1 else k0 j
 | [], n, i, h, hn => by
  obtain ⟨n, rfl⟩ := sc hn
  exact ⟨0, by rw [slices_IndexFunc_Lint_int_isSample_l0, cond_neg (drop_end h)]; rfl⟩
 | x :: r, n, i, h, hn => by
  obtain ⟨n, rfl⟩ := sc hn
  obtain ⟨h1, h2, h3⟩ := drop_step h
  obtain ⟨j, ih⟩ := smpE_loop N k0 k1 l hl r n (i + 1) h3 (by simp at hn; omega)
  rw [slices_IndexFunc_Lint_int_isSample_l0, cond_pos (by omega), h2, some_bind']
  unfold arith_each_int__c1_isSample arith_isSample
  rw [awithin, List.all_cons]
  show ∃ j : Nat, (bif !smB x then _ else _) = _
  cases smB x
  ·exact ⟨i, rfl⟩
  ·refine ⟨j, ?_⟩
   rw [Bool.not_true, cond_false, w64_suc (by omega), ih, Bool.true_and]
theorem aser_eq {N : Nat} (hN : 1000 ≤ N) (l : List Int) (hl : l.length ≤ 32) (k : Int → Option R) : arith_samplesErr N l k = k (serF l) := by
 unfold arith_samplesErr arith_each_int_isSample slices_ContainsFunc_Lint_int_isSample slices_IndexFunc_Lint_int_isSample
 rw [aunless, aunless, dec_if (d := 0 < l.length) (by omega), dec_if (d := l.length ≤ 30) (by omega)]
 obtain ⟨j, e⟩ := smpE_loop N (fun y1 => (fun y1 => (fun y3 => arith_unless N y3 2 fun y4 => arith_first N [if 0 < l.length then 0 else 10, if l.length ≤ 30 then 0 else 8, y4] k) (!y1)) (decide (0 ≤ y1))) ((fun y1 => (fun y1 => (fun y3 => arith_unless N y3 2 fun y4 => arith_first N [if 0 < l.length then 0 else 10, if l.length ≤ 30 then 0 else 8, y4] k) (!y1)) (decide (0 ≤ y1))) (-1)) l (by omega) l N 0 rfl (by omega)
 refine e.trans ?_
 try dsimp only
 have e1 : (decide ((0 : Int) ≤ (j : Int))) = true := decide_eq_true (by omega)
 have e2 : (decide ((0 : Int) ≤ -1)) = false := decide_eq_false (by omega)
 rw [e1, e2, Bool.not_true, Bool.not_false, aunless, aunless, afirst3 N (by omega), afirst3 N (by omega)]
 unfold serF f1
 by_cases h0 : l.length = 0
 ·simp [h0]
 ·by_cases h1 : 30 < l.length
  ·simp [h0, h1, show 0 < l.length by omega, show ¬ l.length ≤ 30 by omega]
  ·simp only [h0, h1, show 0 < l.length by omega, show l.length ≤ 30 by omega, if_true, if_false]
   by_cases h2 : l.all smB = true
   ·rw [if_pos h2, if_pos h2]
   ·rw [if_neg h2, if_neg h2]; rfl
theorem serF_0 {l : List Int} (h : serF l = 0) : 0 < l.length ∧ l.length ≤ 30 ∧ l.all smB = true := by
 unfold serF at h
 split at h
 ·cases h
 ·split at h
  ·cases h
  ·split at h
   ·rename_i h1 h2 h3; exact ⟨by omega, by omega, h3⟩
   ·cases h
theorem rinn_loop (N : Nat) (k0 : List Int → List Int → Int → List Int → Option R) (a : List Int) {p : Nat} (hp : p ≤ 1000) {x : Int} (hap : at? a (p : Int) = some x) (hx : smB x = true) (b : List Int) (hb : b.length ≤ 1000) (hv : b.all smB = true) (B : Int) (hB : 0 ≤ B ∧ B ≤ 100000000) : ∀ (r : List Int) (n i : Nat) (o : List Int), b.drop i = r → r.length < n → p + b.length ≤ o.length → (∀ t, p + i ≤ t → -B ≤ w0 o t ∧ w0 o t ≤ B) →
  ratchetref30_Convolve_l1 N k0 n a b p i o = k0 a b p (inn x r (p + i) o)
 | [], n, i, o, h, hn, ho, hw => by
  obtain ⟨n, rfl⟩ := sc hn
  rw [ratchetref30_Convolve_l1, cond_neg (drop_end h)]; rfl
 | y :: r, n, i, o, h, hn, ho, hw => by
  obtain ⟨n, rfl⟩ := sc hn
  obtain ⟨h1, h2, h3⟩ := drop_step h
  have hy := List.all_eq_true.1 hv y (List.mem_of_mem_drop (h ▸ List.mem_cons_self : y ∈ b.drop i))
  have q := small_mul hx hy
  have qw := hw (p + i) (by omega)
  rw [ratchetref30_Convolve_l1, cond_pos (by omega), w64_id (x := (p : Int) + (i : Int)) (by omega) (by omega), show (p : Int) + (i : Int) = ((p + i : Nat) : Int) by omega, inR_of (by omega) (by omega), cond_true, Int.toNat_natCast,
   show o[p + i]? = some (w0 o (p + i)) by rw [List.getElem?_eq_getElem (by omega), w0_at (by omega)], some_bind', hap, some_bind', h2, some_bind', cond_true, some_bind', w64_id (x := x * y) (by omega) (by omega), w64_id (x := w0 o (p + i) + x * y) (by omega) (by omega), w64_suc (by omega)]
  refine (rinn_loop N k0 a hp hap hx b hb hv B hB r n (i + 1) _ h3 (by simp at hn; omega) (by rw [List.length_set]; omega) (fun t ht => ?_)).trans ?_
  ·rw [w0_set _ (by omega), if_neg (by omega)]
   exact hw t (by omega)
  ·rfl
theorem rou_loop (N : Nat) (k0 : List Int → Option R) (a b : List Int) (ha : a.length ≤ 30) (hb : b.length ≤ 30) (hN : 1000 ≤ N) (hva : a.all smB = true) (hvb : b.all smB = true) : ∀ (r : List Int) (n i : Nat) (o : List Int), a.drop i = r → r.length < n → a.length + b.length ≤ o.length + 1 → (∀ t, -(1000000 * (i : Int)) ≤ w0 o t ∧ w0 o t ≤ 1000000 * (i : Int)) →
  ratchetref30_Convolve_l0 N k0 n a b i o = k0 (ou b r i o)
 | [], n, i, o, h, hn, ho, hw => by
  obtain ⟨n, rfl⟩ := sc hn
  rw [ratchetref30_Convolve_l0, cond_neg (drop_end h)]; rfl
 | x :: r, n, i, o, h, hn, ho, hw => by
  obtain ⟨n, rfl⟩ := sc hn
  obtain ⟨h1, h2, h3⟩ := drop_step h
  have hx := List.all_eq_true.1 hva x (List.mem_of_mem_drop (h ▸ List.mem_cons_self : x ∈ a.drop i))
  rw [ratchetref30_Convolve_l0, cond_pos (by omega)]
  refine (rinn_loop N _ a (p := i) (by omega) h2 hx b (by omega) hvb (1000000 * (i : Int)) (by omega) b N 0 o rfl (by omega) (by omega) (fun t _ => hw t)).trans ?_
  rw [w64_suc (by omega)]
  refine (rou_loop N k0 a b ha hb hN hva hvb r n (i + 1) _ h3 (by simp at hn; omega) (by rw [inn_len]; exact ho) (fun t => ?_)).trans rfl
  rw [inn_w0 x b (i + 0) o (by omega)]
  have := hw t
  have q := small_mul hx (w0_small hvb (t - (i + 0)))
  split <;> omega
theorem rconv {N : Nat} (hN : 1000 ≤ N) {a b : List Int} (ha : serF a = 0) (hb : serF b = 0) (k : List Int → Option R) :
  ratchetref30_Convolve N a b k = k (ou b a 0 (List.replicate (a.length + b.length - 1) 0)) := by
 obtain ⟨a1, a2, a3⟩ := serF_0 ha; obtain ⟨b1, b2, b3⟩ := serF_0 hb
 unfold ratchetref30_Convolve
 rw [w64_id (x := (a.length : Int) + (b.length : Int)) (by omega) (by omega), w64_id (by omega) (by omega), cond_pos (by omega), show ((a.length : Int) + (b.length : Int) - 1).toNat = a.length + b.length - 1 by omega, roomB_of (by omega), cond_true]
 refine (rou_loop N _ a b a2 b2 hN a3 b3 a N 0 _ rfl (by omega) (by rw [List.length_replicate]; omega) (fun t => ?_)).trans rfl
 rw [w0_rep]; omega
theorem aconv {N : Nat} (hN : 1000 ≤ N) {a b : List Int} (ha : a.length ≤ 32) (hb : b.length ≤ 32) (k : List Int → Int → Option R) :
  arith_ConvolvedBy N a b k = if f1 (serF a) (serF b) = 0 then k (ou b a 0 (List.replicate (a.length + b.length - 1) 0)) 0 else k [] (f1 (serF a) (serF b)) := by
 by_cases h : f1 (serF a) (serF b) = 0
 ·obtain ⟨h1, h2⟩ := f1_0.1 h
  obtain ⟨a1, a2, a3⟩ := serF_0 h1; obtain ⟨b1, b2, b3⟩ := serF_0 h2
  rw [if_pos h, convolved_ok hN a1 a2 b1 b2 a3 b3]
 ·unfold arith_ConvolvedBy
  rw [if_neg h, aser_eq hN a ha, aser_eq hN b hb, afirst2 N (by omega), cond_pos h]
theorem rferr_all {N : Nat} (hN : 1000 ≤ N) (l : List Int) (W Rw : Int) (k : Int → Option R) : ratchetref30_FilterErr N l W Rw k = k (ferF l W Rw) := by
 unfold ratchetref30_FilterErr ferF
 by_cases h0 : l.length = 0
 ·rw [cond_pos (by omega), if_neg (by omega)]; rfl
 by_cases h4 : l.length ≤ 4
 ·have e := rferr_loop N k (fun z4 z5 z6 => (ratchetbase_Within N z5 1 8 (fun y7 => (bif (!y7) then (k 25) else (ratchetbase_Within N z6 z5 16 (fun y8 => (bif (!y8) then (k 25) else (k 0)))))))) l W Rw (by omega) l N 0 rfl (by omega)
  rw [Int.natCast_zero] at e
  rw [cond_neg (by omega), cond_neg (by omega), e, if_pos (show 0 < l.length by omega), if_pos h4, f1_z, f1_z]
  by_cases ht : l.all tapB = true
  ·rw [if_pos ht, if_pos ht, Within_eq, f1_z]
   by_cases h1 : 1 ≤ W ∧ W ≤ 8
   ·rw [decide_eq_true h1]
    try dsimp only
    rw [Bool.not_true, cond_false, Within_eq]
    by_cases h2 : W ≤ Rw ∧ Rw ≤ 16
    ·rw [decide_eq_true h2, if_pos ⟨h1, h2⟩]; rfl
    ·rw [decide_eq_false h2, if_neg (fun h => h2 h.2)]; rfl
   ·rw [decide_eq_false h1, if_neg (fun h => h1 h.1)]; rfl
  ·rw [if_neg ht, if_neg ht]; rfl
 ·rw [cond_neg (by omega), cond_pos (by omega), if_pos (show 0 < l.length by omega), if_neg h4]; rfl
def fdF (t : List Int) (W Rw : Int) (l : List Int) : Int := f1 (ferF t W Rw) (if 30 < l.length then 8 else if l.all (vok W) = true then 0 else 2)
theorem rfd_all {N : Nat} (hN : 1000 ≤ N) (t : List Int) (W Rw : Int) (l : List Int) (hl : l.length ≤ 32) (k : Int → Option R) : ratchetref30_FilteredErr N t W Rw l k = k (fdF t W Rw l) := by
 unfold ratchetref30_FilteredErr fdF
 rw [rferr_all hN]
 by_cases he : ferF t W Rw = 0
 ·have hW := (ferF_0 he).2.2.1
  rw [he, cond_neg (by simp), f1_z]
  by_cases h : 30 < l.length
  ·rw [cond_pos (by omega), if_pos h]
  ·have q := rfd_loop N k (k 0) t Rw (show 0 ≤ W ∧ W ≤ 16 by omega) l (by omega) l N 0 rfl (by omega)
   rw [Int.natCast_zero] at q
   rw [cond_neg (by omega), q, if_neg h]
   split <;> rfl
 ·rw [cond_pos he, f1_n he]
theorem filtered_all {N : Nat} (hN : 1000 ≤ N) (t : List Int) (ht : t.length ≤ 32) (W Rw : Int) (l : List Int) (hl : l.length ≤ 32) (k : List Int → Int → Option R) :
  arith_Filtered N t W Rw l k = if fdF t W Rw l = 0 then k (runY (p2 Rw) W t (List.replicate (t.length - 1) 0) l) 0 else k [] (fdF t W Rw l) := by
 unfold fdF
 by_cases he : ferF t W Rw = 0
 ·have hW := (ferF_0 he).2.2.1
  rw [he, f1_z]
  by_cases h : 30 < l.length
  ·rw [if_pos h, if_neg (by omega)]
   unfold arith_Filtered
   rw [filterOf_ok N (by omega) he, aunless, decide_eq_false (by omega), if_neg (by simp), afirst2 N (by omega), f1_z, cond_pos (by omega)]
  ·rw [if_neg h]
   by_cases hv : l.all (vok W) = true
   ·rw [if_pos hv, if_pos rfl, filtered_ok hN he l (by omega) (List.all_eq_true.1 hv)]
   ·rw [if_neg hv, if_neg (by omega)]
    unfold arith_Filtered
    rw [filterOf_ok N (by omega) he, aunless, decide_eq_true (by omega), if_pos rfl, afirst2 N (by omega), f1_z, cond_neg (by omega), smp_each N t Rw (by omega) l (by omega) (by omega), Bool.eq_false_iff.2 hv]
    rfl
 ·rw [f1_n he, if_neg he]
  unfold arith_Filtered
  rw [filterOf_err N (by omega) (by omega) (by omega) he, aunless, afirst2 N (by omega), f1_n he, cond_pos he]

theorem yS_key {t : List Int} {W Rw : Int} (h : ferF t W Rw = 0) {l : List Int} {x : Int} {s : List Int} {i : Nat} (hx0 : w0 l i = x) (hi : i < l.length) (hsl : s.length + 1 = t.length) (hj : ∀ j, j < s.length → w0 s j = if j + 1 ≤ i then w0 l (i - (j + 1)) else 0) :
  yS (p2 Rw) W 0 t (x :: s) = cvS (l.map (sg W)) i t 0 % p2 Rw := by
 obtain ⟨g1, g2, g3, g4⟩ := ferF_0 h
 have hpos := p2_pos Rw
 have hr := yS_range hpos W t (x :: s) 0 ⟨by omega, hpos⟩
 rw [← Int.emod_eq_of_lt hr.1 hr.2, yS_mod, Int.zero_add, dot_cv W (l.map (sg W)) i t (x :: s) 0 (by simp; omega)]
 intro j hj'
 have sg0 : sg W 0 = 0 := by
  have := p2_pos (W - 1)
  unfold sg; rw [if_neg (by omega)]
 have hm : ∀ m, m < l.length → w0 (l.map (sg W)) m = sg W (w0 l m) := fun m hm => by rw [w0_map hm, w0_at hm]
 cases j with
 | zero =>
  rw [if_pos (by omega), hm _ (by omega), Nat.sub_zero, hx0]; rfl
 | succ j =>
  rw [show w0 (x :: s) (j + 1) = w0 s j from rfl, hj j (by omega)]
  by_cases c : j + 1 ≤ i
  ·rw [if_pos c, if_pos (by omega), hm _ (by omega), Nat.zero_add]
  ·rw [if_neg c, if_neg (by omega), sg0]
theorem st_key {l : List Int} {x : Int} {s : List Int} {i : Nat} (hx0 : w0 l i = x) (hj : ∀ j, j < s.length → w0 s j = if j + 1 ≤ i then w0 l (i - (j + 1)) else 0) :
  ∀ j, j < ((x :: s).take s.length).length → w0 ((x :: s).take s.length) j = if j + 1 ≤ i + 1 then w0 l (i + 1 - (j + 1)) else 0 := by
 intro j hj'
 have hj2 : j < s.length := by
  rw [List.length_take] at hj'; omega
 have e : w0 ((x :: s).take s.length) j = w0 (x :: s) j := by
  unfold w0; rw [List.getElem?_take_of_lt hj2]
 rw [e]
 cases j with
 | zero => rw [if_pos (by omega), show i + 1 - (0 + 1) = i by omega, hx0]; rfl
 | succ j =>
  rw [show w0 (x :: s) (j + 1) = w0 s j from rfl, hj j (by omega)]
  by_cases c : j + 1 ≤ i
  ·rw [if_pos c, if_pos (by omega), show i + 1 - (j + 1 + 1) = i - (j + 1) by omega]
  ·rw [if_neg c, if_neg (by omega)]
theorem cvS_gt (b : List Int) (t : Nat) : ∀ (r : List Int) (j : Nat), t < j → cvS b t r j = 0
 | [], j, h => rfl
 | x :: r, j, h => by
  show (if j ≤ t then _ else 0) + cvS b t r (j + 1) = 0
  rw [if_neg (by omega), cvS_gt b t r (j + 1) (by omega)]; rfl
section
variable {t l : List Int} {W Rw : Int}
theorem rfi_loop {N : Nat} (k : List Int → Int → Int → List Int → Int → Int → List Int → Option R) (h : ferF t W Rw = 0) (hl : l.length ≤ 1000) (hv : l.all (vok W) = true) {i : Nat} (hi : i < l.length) (out : List Int) : ∀ (r : List Int) (n j : Nat) (acc : Int), t.drop j = r → r.length < n → (-(1000000 * (j : Int)) ≤ acc ∧ acc ≤ 1000000 * (j : Int)) →
  ratchetref30_Filter_l1 N k n l i acc j t W Rw out = k l i (acc + cvS (l.map (sg W)) i r j) t W Rw out
 | [], n, j, acc, hd, hn, hb => by
  obtain ⟨n, rfl⟩ := sc hn
  rw [ratchetref30_Filter_l1, cond_neg (drop_end hd)]
  show _ = k l i (acc + 0) t W Rw out
  rw [Int.add_zero]
 | c :: r, n, j, acc, hd, hn, hb => by
  obtain ⟨n, rfl⟩ := sc hn
  obtain ⟨h1, h2, h3⟩ := drop_step hd
  obtain ⟨g1, g2, g3, g4⟩ := ferF_0 h
  have hc := List.all_eq_true.1 (taps_small g2) c (List.mem_of_mem_drop (hd ▸ List.mem_cons_self : c ∈ t.drop j))
  rw [ratchetref30_Filter_l1, cond_pos (by omega)]
  by_cases q : j ≤ i
  ·have hm : i - j < l.length := by omega
   have hy := List.all_eq_true.1 hv l[i - j] (List.getElem_mem hm)
   have hs := w0_small (sg_all g3 hv) (i - j)
   have hw : w0 (l.map (sg W)) (i - j) = sg W l[i - j] := w0_map hm
   rw [hw] at hs
   have qm := small_mul hc hs
   have h16 := vok16 (show W ≤ 16 by omega) hy
   rw [cond_pos (by omega), h2, some_bind', w64_id (x := (i : Int) - (j : Int)) (by omega) (by omega), show (i : Int) - (j : Int) = ((i - j : Nat) : Int) by omega, at?_lt hm, some_bind', Signed_eq N _ g3.1 (by omega) (by omega), w64_id (x := c * sg W l[i - j]) (by omega) (by omega), w64_id (by omega) (by omega), w64_suc (by omega),
    rfi_loop k h hl hv hi out r n (j + 1) _ h3 (by simp at hn; omega) ⟨by omega, by omega⟩]
   show _ = k l i (acc + ((if j ≤ i then c * w0 (l.map (sg W)) (i - j) else 0) + cvS (l.map (sg W)) i r (j + 1))) t W Rw out
   rw [if_pos q, hw, Int.add_assoc]
  ·rw [cond_neg (by omega), cvS_gt _ i (c :: r) j (by omega), Int.add_zero]
theorem rfilter_loop {N : Nat} (hN : 1000 ≤ N) (k : List Int → Option R) (h : ferF t W Rw = 0) (hl : l.length ≤ 1000) (hv : l.all (vok W) = true) : ∀ (r : List Int) (n i : Nat) (s acc : List Int), l.drop i = r → r.length < n → acc.length ≤ i → s.length + 1 = t.length → (∀ j, j < s.length → w0 s j = if j + 1 ≤ i then w0 l (i - (j + 1)) else 0) →
  ratchetref30_Filter_l0 N k n l i t W Rw acc = k (acc ++ runY (p2 Rw) W t s r)
 | [], n, i, s, acc, hd, hn, ha, hs, hj => by
  obtain ⟨n, rfl⟩ := sc hn
  rw [ratchetref30_Filter_l0, cond_neg (drop_end hd), show runY (p2 Rw) W t s [] = [] from rfl, List.append_nil]
 | x :: r, n, i, s, acc, hd, hn, ha, hs, hj => by
  obtain ⟨n, rfl⟩ := sc hn
  obtain ⟨h1, h2, h3⟩ := drop_step hd
  obtain ⟨g1, g2, g3, g4⟩ := ferF_0 h
  have hpos := p2_pos Rw
  have h16 := p2_16 g4.2
  have hx0 : w0 l i = x := by
   have := at_w0 (w := l) h1
   rw [h2] at this
   exact (Option.some.inj this).symm
  rw [ratchetref30_Filter_l0, cond_pos (by omega)]
  refine (rfi_loop _ h hl hv h1 acc t N 0 0 rfl (by omega) ⟨by omega, by omega⟩).trans ?_
  try dsimp only
  rw [Int.zero_add, power_eq N (by omega) (by omega), Mod_eq N _ _ (by omega) (by omega), ← yS_key h hx0 h1 hs hj, roomB_of (by omega), cond_true, w64_suc (by omega),
   rfilter_loop hN k h hl hv r n (i + 1) ((x :: s).take s.length) _ h3 (by simp at hn; omega) (by simp; omega) (by rw [List.length_take]; simp; omega) (st_key hx0 hj), List.append_assoc]
  rfl
theorem rfilter {N : Nat} (hN : 1000 ≤ N) (h : ferF t W Rw = 0) (hl : l.length ≤ 30) (hv : l.all (vok W) = true) (k : List Int → Option R) : ratchetref30_Filter N t W Rw l k = k (runY (p2 Rw) W t (List.replicate (t.length - 1) 0) l) := by
 have g1 := (ferF_0 h).1
 unfold ratchetref30_Filter
 exact rfilter_loop hN k h (by omega) hv l N 0 _ [] rfl (by omega) (by simp) (by rw [List.length_replicate]; omega) (fun j _ => by rw [w0_rep, if_neg (by omega)])
theorem fWd (h : ferF t W Rw = 0) : wdOf (fNodes W Rw t) (flY 0 1 t) = Rw := by
 obtain ⟨⟨g1, g2⟩, _⟩ := ferF_0 h
 match t, g1, g2 with
 | [t0], _, _ => rfl
 | [t0, t1], _, _ => rfl
 | [t0, t1, t2], _, _ => rfl
 | [t0, t1, t2, t3], _, _ => rfl
 | [], h, _ => simp at h
 | _ :: _ :: _ :: _ :: _ :: _, _, h => simp at h
theorem fE_at (h : ferF t W Rw = 0) {i : Nat} (hi : i < (flE W 0 t).length) : at? (flE W 0 t) (i : Int) = some (dName (i + 1), 0, W, 0, 0) ∧ i < 3 := by
 obtain ⟨⟨g1, g2⟩, _⟩ := ferF_0 h
 match t, g1, g2, i, hi with
 | [t0, t1], _, _, 0, _ => exact ⟨rfl, by omega⟩
 | [t0, t1, t2], _, _, 0, _ => exact ⟨rfl, by omega⟩
 | [t0, t1, t2], _, _, 1, _ => exact ⟨rfl, by omega⟩
 | [t0, t1, t2, t3], _, _, 0, _ => exact ⟨rfl, by omega⟩
 | [t0, t1, t2, t3], _, _, 1, _ => exact ⟨rfl, by omega⟩
 | [t0, t1, t2, t3], _, _, 2, _ => exact ⟨rfl, by omega⟩
 | [t0], _, _, i, hi => simp [flE] at hi
 | [t0, t1], _, _, i + 1, hi => simp [flE] at hi
 | [t0, t1, t2], _, _, i + 2, hi => simp [flE] at hi; omega
 | [t0, t1, t2, t3], _, _, i + 3, hi => simp [flE] at hi; omega
 | [], h, _, _, _ => simp at h
 | _ :: _ :: _ :: _ :: _ :: _, _, h, _, _ => simp at h
theorem dec1 (k : ByteArray → Option R) : ratchetbase_Decimal 2000 1 k = k (itoaB 1) := by kernel_rfl
theorem dec2 (k : ByteArray → Option R) : ratchetbase_Decimal 2000 2 k = k (itoaB 2) := by kernel_rfl
theorem dec3 (k : ByteArray → Option R) : ratchetbase_Decimal 2000 3 k = k (itoaB 3) := by kernel_rfl
theorem isF_loop (k0 : Bool → Option R) (k1 : Option R) (h : ferF t W Rw = 0) (nm : ByteArray) (ins : List PortT) (nodes : List Nd) (rules : List RuleT) (outs : List PortT) (attrs : List AttrT) : ∀ (m i n : Nat), i + m = (flE W 0 t).length → m < n →
  ratchetlaw30_isFilter_l0 2000 k0 k1 n i t W Rw nm ins (flE W 0 t) nodes rules outs attrs = k1
 | 0, i, n, hi, hn => by
  obtain ⟨n, rfl⟩ : ∃ m, n = m + 1 := ⟨n - 1, by omega⟩
  rw [ratchetlaw30_isFilter_l0, cond_neg (by omega)]
 | m + 1, i, n, hi, hn => by
  obtain ⟨n, rfl⟩ : ∃ m, n = m + 1 := ⟨n - 1, by omega⟩
  obtain ⟨q1, q2⟩ := fE_at h (i := i) (by omega)
  have hz : (ByteArray.mk #[100]).size = 1 := rfl
  have hs := itoa_small (i := i + 1) (by omega) (by omega)
  have hd : ∀ k : ByteArray → Option R, ratchetbase_Decimal 2000 ((i + 1 : Nat) : Int) k = k (itoaB ((i + 1 : Nat) : Int)) := by
   intro k
   obtain rfl | rfl | rfl : i = 0 ∨ i = 1 ∨ i = 2 := by omega
   ·exact dec1 k
   ·exact dec2 k
   ·exact dec3 k
  rw [ratchetlaw30_isFilter_l0, cond_pos (by omega), q1, some_bind', w64_suc (by omega), hd, cond_neg (by omega)]
  have e : dName (i + 1) = ByteArray.mk #[100] ++ itoaB ((i + 1 : Nat) : Int) := rfl
  rw [decide_eq_true e]
  simp only [decide_true, Bool.and_self, bne_self_eq_false, cond_false]
  exact isF_loop k0 k1 h nm ins nodes rules outs attrs m (i + 1) n (by omega) (by omega)
theorem sameX (k : Bool → Option R) : ratchetbase_SamePorts 2000 [(nX, W)] [(ByteArray.mk #[120], W)] k = k true := by
 show ratchetbase_SamePorts 2000 [(nX, W)] [(nX, W)] k = k true
 unfold ratchetbase_SamePorts
 rw [cond_neg (by simp), ratchetbase_SamePorts_l0, cond_pos (by simp), show at? [(nX, W)] 0 = some (nX, W) from rfl, some_bind', some_bind']
 simp only [decide_true, Bool.and_self, bne_self_eq_false, cond_false]
 rw [show w64 (0 + 1) = 1 from rfl, ratchetbase_SamePorts_l0, cond_neg (by simp)]
theorem isFilter_ok (h : ferF t W Rw = 0) (k : Bool → Option R) : ratchetlaw30_isFilter 2000 t W Rw nFilter [(nX, W)] (flE W 0 t) (fNodes W Rw t) [(nShift, 0, flW 0 [] t)] [(nY, flY 0 1 t)] [] k = k true := by
 have g1 := (ferF_0 h).1
 have hl : (flE W 0 t).length = t.length - 1 := by
  have := congrArg List.length (fEl (W := W) g1).1
  unfold elW at this
  rwa [List.length_map, List.length_replicate] at this
 have ho := (dv_of (fdcode h)).outsW _ (List.mem_singleton.2 rfl)
 obtain ⟨y, e1, e2⟩ := isNd_at ho
 unfold ratchetlaw30_isFilter
 rw [bdesign (by omega) (fdcode h)]
 try dsimp only
 rw [Bool.not_true, cond_false, cond_neg (fun q => q rfl), sameX]
 try dsimp only
 rw [Bool.not_true, cond_false, w64_id (by omega) (by omega), cond_neg (by omega), cond_neg (by simp), show at? [(nShift, (0 : Int), flW 0 [] t)] 0 = some (nShift, 0, flW 0 [] t) from rfl, some_bind', cond_neg (fun q => q rfl), cond_neg (by simp),
  show at? [(nY, flY 0 1 t)] 0 = some (nY, flY 0 1 t) from rfl, some_bind', cond_neg (fun q => q rfl), some_bind']
 try dsimp only
 rw [e1, some_bind', cond_neg (by rw [e2, fWd h]; simp), cond_neg (by simp)]
 exact isF_loop k _ h _ _ _ _ _ _ (flE W 0 t).length 0 2000 (by omega) (by omega)
theorem arun_loop (h : ferF t W Rw = 0) (k0 : Bool → Option R) (k1 : Option R) (Y : List Int) (hl : l.length ≤ 1000) (hv : l.all (vok W) = true) : ∀ (r : List Int) (n i : Nat) (s : List Int), l.drop i = r → Y.drop i = runY (p2 Rw) W t s r → r.length < n → FS W t s →
  ratchetlaw30_ArithFilters_l0 2000 k0 k1 n l Y s i nFilter [(nX, W)] (flE W 0 t) (fNodes W Rw t) [(nShift, 0, flW 0 [] t)] [(nY, flY 0 1 t)] = k1
 | [], n, i, s, hd, hy, hn, hs => by
  obtain ⟨n, rfl⟩ := sc hn
  rw [ratchetlaw30_ArithFilters_l0, cond_neg (drop_end hd)]
 | x :: r, n, i, s, hd, hy, hn, hs => by
  obtain ⟨n, rfl⟩ := sc hn
  obtain ⟨h1, h2, h3⟩ := drop_step hd
  obtain ⟨y1, y2, y3⟩ := drop_step (show Y.drop i = yS (p2 Rw) W 0 t (x :: s) :: runY (p2 Rw) W t ((x :: s).take s.length) r from hy)
  have hdv := dv_of (fdcode h)
  have hx := List.all_eq_true.1 hv x (List.mem_of_mem_drop (hd ▸ List.mem_cons_self : x ∈ l.drop i))
  have hX := LV1 hx
  have hsl := FS_len (ferF_0 h).1 hs
  obtain ⟨l1, l2⟩ := lv_lens hdv hX hs
  obtain ⟨q1, q2⟩ := fHap h (x := x) hsl
  have sp : slP (i : Int) ((i + 1 : Nat) : Int) l.length = true := by
   unfold slP
   exact decide_eq_true ⟨by omega, by omega, by omega⟩
  have st : List.take (((i + 1 : Nat) : Int).toNat - ((i : Int)).toNat) (List.drop ((i : Int)).toNat l) = [x] := by
   rw [Int.toNat_natCast, Int.toNat_natCast, hd, show i + 1 - i = 1 by omega]; rfl
  have ho := dV_at hdv hX hs (hdv.outsW _ (List.mem_singleton.2 rfl))
  try dsimp only at ho
  rw [ratchetlaw30_ArithFilters_l0, cond_pos (by omega), w64_suc (by omega), sp, cond_true, st, bleafv l1 l2, bvalues (by omega) (LV_app hX hs) hdv.chk, show at? [(nY, flY 0 1 t)] 0 = some (nY, flY 0 1 t) from rfl, some_bind', show nvG ([x] ++ s) (fNodes W Rw t) (fNodes W Rw t) [] = dV (fNodes W Rw t) [x] s from rfl, ho, some_bind', y2, some_bind', fVal h hsl, cond_neg (by simp), cond_true]
  refine (benabled (N := 2000) (by omega) hdv hX hs (a := 0) (by simp) _).trans ?_
  simp only [List.getElem_cons_zero, Int.toNat_zero]
  rw [decide_eq_true q1, Bool.not_true, cond_false, cond_true]
  refine (bhappened (N := 2000) (by omega) hdv hX hs (a := 0) (by simp) _).trans ?_
  simp only [List.getElem_cons_zero]
  rw [q2]
  exact arun_loop h k0 k1 Y hl hv r n (i + 1) _ h3 y3 (by simp at hn; omega) (fNext (N := 2000) (by omega) h hx hs (fun _ _ => none (α := R))).2
end
theorem sameNil (k : Bool → Option R) : ratchetbase_SameDesign 2000 (ByteArray.mk #[]) [] [] [] [] [] [] (ByteArray.mk #[]) [] [] [] [] [] [] k = k true := by kernel_rfl
theorem fil_j1 {t l : List Int} (ht : t.length ≤ 32) (hl : l.length ≤ 32) (W Rw : Int) (k : Bool → Option R) : arith_Filtered 2000 t W Rw l (fun y8 y9 => arith_FilterOf 2000 t W Rw (fun y10 y11 y12 y13 y14 y15 y16 => ratchetlaw30_ArithFilters_j1 2000 k l y8 y9 y16 t W Rw y10 y11 y12 y13 y14 y15)) = k true := by
 rw [filtered_all (by omega) t ht W Rw l hl]
 by_cases he : ferF t W Rw = 0
 ·rw [filterOf_ok 2000 (by omega) he, filterOf_ok 2000 (by omega) he]
  by_cases hd : fdF t W Rw l = 0
  ·rw [if_pos hd]
   unfold ratchetlaw30_ArithFilters_j1
   have hq := hd
   unfold fdF at hq
   rw [he, f1_z] at hq
   have h30 : l.length ≤ 30 := by
    split at hq
    ·cases hq
    ·omega
   rw [if_neg (by omega)] at hq
   have hv := if0 (by decide) hq
   rw [rferr_all (by omega), he, cond_neg (by simp), isFilter_ok he]
   try dsimp only
   rw [Bool.not_true, cond_false, cond_neg (by simp), rfd_all (by omega) t W Rw l hl, hd, cond_neg (by simp), rfilter (by omega) he h30 hv, cond_neg (by simp), ints_same 2000 _ (by rw [runY_len]; omega) (by rw [runY_len]; omega)]
   try dsimp only
   have hel : (flE W 0 t).length ≤ 4 := by
    have := congrArg List.length (fEl (W := W) (ferF_0 he).1).1
    unfold elW at this
    rw [List.length_map, List.length_replicate] at this
    have := (ferF_0 he).1
    omega
   rw [Bool.not_true, cond_false, bresets (by omega) (by omega), (fEl (ferF_0 he).1).2]
   exact arun_loop he k (k true) _ (by omega) hv l 2000 0 _ rfl rfl (by omega) (fReset (N := 2000) (by omega) he (fun _ _ => none (α := R))).2
  ·rw [if_neg hd]
   unfold ratchetlaw30_ArithFilters_j1
   rw [rferr_all (by omega), he, cond_neg (by simp), isFilter_ok he]
   try dsimp only
   rw [Bool.not_true, cond_false, cond_neg (by simp), rfd_all (by omega) t W Rw l hl, cond_pos hd, cond_pos rfl]
   rfl
 ·have hd : fdF t W Rw l = ferF t W Rw := by unfold fdF; rw [f1_n he]
  rw [hd, if_neg he, filterOf_err 2000 (by omega) (by omega) (by omega) he]
  unfold ratchetlaw30_ArithFilters_j1
  rw [rferr_all (by omega), cond_pos he, cond_pos rfl, cond_pos rfl, cond_pos (show ((([] : List Int).length : Nat) : Int) = 0 from rfl)]
  exact sameNil k
theorem pureArithFilters : PureArithFilters := by
 intro x0 x1 x2 _ _ _
 refine ⟨2000, fun {R} k => ?_⟩
 obtain ⟨t, W, Rw⟩ := x0
 show ratchetlaw30_ArithFilters 2000 t W Rw x1 x2 k = k true
 unfold ratchetlaw30_ArithFilters
 rw [awake_ok]
 try dsimp only
 rw [Bool.not_true, cond_false]
 by_cases h0 : 32 < t.length
 ·rw [cond_pos (by omega)]
 by_cases h1 : 32 < x1.length
 ·rw [cond_neg (by omega), cond_pos (by omega)]
 by_cases h2 : 32 < x2.length
 ·rw [cond_neg (by omega), cond_neg (by omega), cond_pos (by omega)]
 rw [cond_neg (by omega), cond_neg (by omega), cond_neg (by omega), copyInts_eq 2000 t (by omega), copyInts_eq 2000 t (by omega), copyInts_eq 2000 x2 (by omega), aconv (by omega) (by omega) (by omega)]
 have key : ∀ (y5 : List Int) (y6 : Int), (y5, y6) = (if f1 (serF t) (serF x2) = 0 then (ou x2 t 0 (List.replicate (t.length + x2.length - 1) 0), 0) else ([], f1 (serF t) (serF x2))) → (ratchetbase_CopyInts 2000 x1 (fun y7 => (arith_Filtered 2000 t W Rw y7 (fun y8 y9 => (arith_FilterOf 2000 t W Rw (fun y10 y11 y12 y13 y14 y15 y16 => (ratchetref30_SamplesErr 2000 t (fun y17 => (bif decide (y17 = 0) then (ratchetref30_SamplesErr 2000 x2 (fun y18 => (ratchetlaw30_ArithFilters_j0 2000 k x1 x2 y5 y6 y8 y9 y16 y18 t W Rw y10 y11 y12 y13 y14 y15))) else (ratchetlaw30_ArithFilters_j0 2000 k x1 x2 y5 y6 y8 y9 y16 y17 t W Rw y10 y11 y12 y13 y14 y15)))))))))) = k true := by
  intro y5 y6 hy
  rw [copyInts_eq 2000 x1 (by omega)]
  refine Eq.trans (congrArg (arith_Filtered 2000 t W Rw x1) ?_) (fil_j1 (t := t) (l := x1) (by omega) (by omega) W Rw k)
  funext y8 y9
  refine congrArg (arith_FilterOf 2000 t W Rw) ?_
  funext y10 y11 y12 y13 y14 y15 y16
  rw [rser_eq (N := 2000) (by omega) t (by omega)]
  have hj : ∀ n, n = f1 (serF t) (serF x2) → ratchetlaw30_ArithFilters_j0 2000 k x1 x2 y5 y6 y8 y9 y16 n t W Rw y10 y11 y12 y13 y14 y15 = ratchetlaw30_ArithFilters_j1 2000 k x1 y8 y9 y16 t W Rw y10 y11 y12 y13 y14 y15 := by
   rintro n rfl
   unfold ratchetlaw30_ArithFilters_j0
   by_cases c : f1 (serF t) (serF x2) = 0
   ·rw [if_pos c] at hy
    injection hy with hy5 hy6
    subst hy5; subst hy6
    obtain ⟨c1, c2⟩ := f1_0.1 c
    obtain ⟨a1, a2, a3⟩ := serF_0 c1; obtain ⟨b1, b2, b3⟩ := serF_0 c2
    rw [cond_neg (by simp [c]), cond_pos c, cond_neg (by simp), rconv (by omega) c1 c2, ints_same 2000 _ (by rw [ou_len, List.length_replicate]; omega) (by rw [ou_len, List.length_replicate]; omega)]
    rfl
   ·rw [if_neg c] at hy
    injection hy with hy5 hy6
    subst hy5; subst hy6
    rw [cond_pos c, cond_neg (by simp), cond_neg (by simp), cond_neg c]
  by_cases c : serF t = 0
  ·rw [cond_pos c, rser_eq (by omega) x2 (by omega)]
   exact hj _ (by rw [c, f1_z])
  ·rw [cond_neg c]
   exact hj _ (by rw [f1_n c])
 by_cases c : f1 (serF t) (serF x2) = 0
 ·rw [if_pos c]
  exact key _ _ (by rw [if_pos c])
 ·rw [if_neg c]
  exact key _ _ (by rw [if_neg c])

end
end Am
end Go.Proofs.YtfdmmnfjdifccaaGreatDoor
