/- The sum and the products of values on bits are as the statement says, on plain data. -/
import Derived.Test.YtfdmmnfjdifccaaGreatDoorTBF
import Derived.Test.YtfdmmnfjdifccaaGreatDoorPu
set_option linter.unusedVariables false
set_option linter.unusedSimpArgs false
set_option maxRecDepth 100000
namespace Go.Proofs.YtfdmmnfjdifccaaGreatDoor
namespace Am
section
variable {R : Type}
theorem within_eq (N : Nat) (a lo hi : Int) (k : Bool → Option R) : arith_within N a lo hi k = k (decide (lo ≤ a ∧ a ≤ hi)) := by
  unfold arith_within
  by_cases h : lo ≤ a <;> simp [h]
theorem Within_eq (N : Nat) (a lo hi : Int) (k : Bool → Option R) : ratchetbase_Within N a lo hi k = k (decide (lo ≤ a ∧ a ≤ hi)) := by
  unfold ratchetbase_Within
  by_cases h : lo ≤ a <;> simp [h]
theorem unless_eq (N : Nat) (b : Bool) (e : Int) (k : Int → Option R) : arith_unless N b e k = k (if b = true then 0 else e) := by
  unfold arith_unless; cases b <;> rfl
theorem first_loop (N : Nat) (k0 : Int → Option R) (k1 : Option R) (l : List Int) (hl : l.length ≤ 1000000) : ∀ (n i : Nat), l.length < n + i → i ≤ l.length →
    arith_first_l0 N k0 k1 n l l.length i = match (l.drop i).find? (fun x => decide (x ≠ 0)) with | some x => k0 x | none => k1 := by
  intro n
  induction n with
  | zero => intro i h1 h2; omega
  | succ n ih =>
    intro i h1 h2
    rw [arith_first_l0]
    by_cases h : i < l.length
    · rw [cond_pos (by omega), at?_lt h, some_bind', drop_cons h, List.find?_cons]
      by_cases hx : l[i] = 0
      · rw [cond_neg (by simp [hx]), w64_id (by omega) (by omega)]
        simp only [hx, ne_eq, not_true, decide_false]
        exact ih (i + 1) (by omega) (by omega)
      · rw [cond_pos hx]; simp [hx]
    · rw [cond_neg (by omega)]
      have : i = l.length := by omega
      subst this
      simp
theorem first_eq (N : Nat) (l : List Int) (hN : l.length < N) (hl : l.length ≤ 1000000) (k : Int → Option R) : arith_first N l k = k ((l.find? (fun x => decide (x ≠ 0))).getD 0) := by
  unfold arith_first
  have := first_loop N (fun z => k z) (k 0) l hl N 0 (by omega) (by omega)
  rw [Int.natCast_zero] at this
  rw [this, List.drop_zero]
  cases l.find? (fun x => decide (x ≠ 0)) <;> rfl
theorem first2 (N : Nat) (hN : 4 ≤ N) (a b : Int) (k : Int → Option R) : arith_first N [a, b] k = k (if a = 0 then b else a) := by
  rw [first_eq N _ (by simp; omega) (by simp)]
  by_cases ha : a = 0 <;> by_cases hb : b = 0 <;> simp [ha, hb]
theorem first3 (N : Nat) (hN : 4 ≤ N) (a b c : Int) (k : Int → Option R) : arith_first N [a, b, c] k = k (if a = 0 then (if b = 0 then c else b) else a) := by
  rw [first_eq N _ (by simp; omega) (by simp)]
  by_cases ha : a = 0 <;> by_cases hb : b = 0 <;> by_cases hc : c = 0 <;> simp [ha, hb, hc]

/-! ### Powers, forms -/
/-- 2 to a power. -/
def p2 (n : Int) : Int := 2 ^ n.toNat
theorem p2_pos (n : Int) : 0 < p2 n := by unfold p2; exact Int.pow_pos (by omega)
theorem p2_nat (n : Nat) : p2 (n : Int) = ((2 ^ n : Nat) : Int) := by unfold p2; simp
theorem p2_le {a b : Int} (h : a ≤ b) : p2 a ≤ p2 b := by
  unfold p2
  have : (2 : Nat) ^ a.toNat ≤ 2 ^ b.toNat := Nat.pow_le_pow_right (by omega) (by omega)
  exact_mod_cast this
theorem p2_16 {n : Int} (h : n ≤ 16) : p2 n ≤ 65536 := p2_le h
theorem p2_15 {n : Int} (h : n ≤ 15) : p2 n ≤ 32768 := p2_le h
theorem p2_add {a b : Int} (ha : 0 ≤ a) (hb : 0 ≤ b) : p2 (a + b) = p2 a * p2 b := by
  unfold p2
  rw [show (a + b).toNat = a.toNat + b.toNat by omega, Int.pow_add]
theorem p2_half {w : Int} (h : 1 ≤ w) : p2 w = 2 * p2 (w - 1) := by
  have := p2_add (a := w - 1) (b := 1) (by omega) (by omega)
  rw [show w - 1 + 1 = w by omega] at this
  rw [this, Int.mul_comm]; rfl
theorem shl_p2 {n : Int} (h0 : 0 ≤ n) (h : n ≤ 40) : shl' .i64 1 n = p2 n := by
  have h1 : p2 n ≤ p2 40 := p2_le h
  have h2 : p2 40 = 1099511627776 := by decide
  have h3 := p2_pos n
  unfold shl'
  have e : min n.toNat (IntKind.bits .i64) = n.toNat := by
    have : IntKind.bits .i64 = 64 := rfl
    omega
  rw [e, Int.one_mul]
  exact w64_id (x := p2 n) (by omega) (by omega)
theorem power_eq (N : Nat) {n : Int} (h0 : 0 ≤ n) (h : n ≤ 40) (k : Int → Option R) : ratchetbase_Power N n k = k (p2 n) := by
  unfold ratchetbase_Power; rw [cond_neg (by omega), shl_p2 h0 h]
structure VF (w p r b : Int) : Prop where
  w2 : 2 ≤ w
  w16 : w ≤ 16
  p0 : 0 ≤ p
  pw : p ≤ w - 1
  r0 : 0 ≤ r
  r2 : r ≤ 2
  b0 : 0 ≤ b
  b1 : b ≤ 1
def ferr (w p r b : Int) : Int := if 2 ≤ w ∧ w ≤ 16 then (if 0 ≤ p ∧ p ≤ w - 1 then (if (0 ≤ r ∧ r ≤ 2) ∧ (0 ≤ b ∧ b ≤ 1) then 0 else 15) else 2) else 25
theorem ferr_ok {w p r b : Int} (h : ferr w p r b = 0) : VF w p r b := by
  unfold ferr at h
  split at h
  · split at h
    · split at h
      · rename_i c d e; exact ⟨c.1, c.2, d.1, d.2, e.1.1, e.1.2, e.2.1, e.2.2⟩
      · cases h
    · cases h
  · cases h
theorem checkForm_eq (N : Nat) (hN : 4 ≤ N) (w p r b : Int) (k : Int → Option R) : arith_CheckForm N w p r b k = k (ferr w p r b) := by
  unfold arith_CheckForm ferr
  simp only [within_eq, unless_eq, first3 N hN]
  by_cases c : 2 ≤ w ∧ w ≤ 16
  · rw [w64_id (x := w - 1) (by omega) (by omega)]
    by_cases d : 0 ≤ p ∧ p ≤ w - 1 <;> by_cases e : 0 ≤ r ∧ r ≤ 2 <;> by_cases f : 0 ≤ b ∧ b ≤ 1 <;> simp [c, d, e, f]
  · generalize decide (0 ≤ p ∧ p ≤ w64 (w - 1)) = z
    by_cases e : 0 ≤ r ∧ r ≤ 2 <;> simp [c, e]
theorem size_eq (N : Nat) {w : Int} (p r b : Int) (h0 : 0 ≤ w) (h : w ≤ 16) (k : Int → Option R) : arith_form_size N w p r b k = k (p2 w) := by
  unfold arith_form_size; rw [cond_neg (by omega), shl_p2 h0 (by omega)]
theorem one_eq (N : Nat) (w : Int) {p : Int} (r b : Int) (h0 : 0 ≤ p) (h : p ≤ 16) (k : Int → Option R) : arith_form_one N w p r b k = k (p2 p) := by
  unfold arith_form_one; rw [cond_neg (by omega), shl_p2 h0 (by omega)]
/-- Whether a number is a value. -/
def vok (w n : Int) : Bool := decide (0 ≤ n ∧ n ≤ p2 w - 1)
theorem Fits_eq (N : Nat) (n : Int) {w : Int} (h0 : 0 ≤ w) (h : w ≤ 16) (k : Bool → Option R) : ratchetbase_Fits N n w k = k (vok w n) := by
  have := p2_pos w; have := p2_16 h
  unfold ratchetbase_Fits vok; rw [power_eq N h0 (by omega), Within_eq, w64_id (by omega) (by omega)]
/-- The number of a value, without the point. -/
def sg (w n : Int) : Int := if p2 (w - 1) ≤ n then n - p2 w else n
theorem sg_range {w n : Int} (hw : 1 ≤ w) (h : vok w n = true) : - p2 (w - 1) ≤ sg w n ∧ sg w n ≤ p2 (w - 1) - 1 := by
  have := of_decide_eq_true h
  have h1 := p2_half hw
  unfold sg; split <;> omega
theorem signed_eq (N : Nat) {w : Int} (p r b : Int) (n : Int) (h0 : 1 ≤ w) (h : w ≤ 16) (hn : 0 ≤ n ∧ n ≤ 65536) (k : Int → Option R) : arith_form_signed N w p r b n k = k (sg w n) := by
  have h1 := p2_half h0
  have h2 := p2_16 h
  have h3 := p2_pos (w - 1)
  unfold arith_form_signed sg
  rw [size_eq N p r b (by omega) h]
  have e : w64 (Int.tdiv (p2 w) 2) = p2 (w - 1) := by
    rw [Int.tdiv_eq_ediv_of_nonneg (by omega), w64_id (by omega) (by omega)]; omega
  rw [e]
  by_cases c : p2 (w - 1) ≤ n
  · rw [cond_pos c, size_eq N p r b (by omega) h, if_pos c, w64_id (by omega) (by omega)]
  · rw [cond_neg c, if_neg c]
/-! ### Rounding -/
theorem floor_eq {n d : Int} (hd : 0 < d) : (if Int.tmod n d < 0 then Int.tdiv n d - 1 else Int.tdiv n d) = n / d := by
  have h1 := Int.mul_tdiv_add_tmod n d
  have h2 := Int.mul_ediv_add_emod n d
  have h3 := Int.emod_nonneg n (show d ≠ 0 by omega)
  have h4 := Int.emod_lt_of_pos n hd
  by_cases hn : 0 ≤ n
  · have e := Int.tdiv_eq_ediv_of_nonneg (b := d) hn
    have e2 := Int.tmod_eq_emod_of_nonneg (b := d) hn
    rw [if_neg (by omega), e]
  · have h5 : -d < Int.tmod n d := Int.lt_tmod_of_pos n hd
    have h6 : Int.tmod n d ≤ 0 := by
      have := Int.tmod_nonneg d (show 0 ≤ -n by omega)
      rw [Int.neg_tmod] at this; omega
    split
    · rename_i hlt
      have : d * (Int.tdiv n d - 1) + (Int.tmod n d + d) = n := by rw [Int.mul_sub, Int.mul_one]; omega
      exact ((Int.ediv_emod_unique (r := Int.tmod n d + d) hd).2 ⟨by omega, by omega, by omega⟩).1.symm
    · have h7 : Int.tmod n d = 0 := by omega
      exact ((Int.ediv_emod_unique (r := 0) hd).2 ⟨by omega, by omega, by omega⟩).1.symm
theorem mod_eq {n d : Int} (hd : 0 < d) : (if Int.tmod n d < 0 then Int.tmod n d + d else Int.tmod n d) = n % d := by
  have h1 := Int.mul_tdiv_add_tmod n d
  have h2 := floor_eq (n := n) hd
  have h3 := Int.mul_ediv_add_emod n d
  rw [← h2] at h3
  split
  · rename_i hlt
    rw [if_pos hlt, Int.mul_sub, Int.mul_one] at h3; omega
  · rename_i hge
    rw [if_neg hge] at h3; omega
/-- A quotient, rounded. -/
def rnd (r n d : Int) : Int := if (r = 1 ∧ (d < 2 * (n % d) ∨ 2 * (n % d) = d ∧ (n / d) % 2 ≠ 0)) ∨ (r = 2 ∧ n < 0 ∧ 0 < n % d) then n / d + 1 else n / d
theorem rnd_one (r n : Int) : rnd r n 1 = n := by
  unfold rnd; rw [Int.emod_one, Int.ediv_one, if_neg (by omega)]
theorem rnd_scale (r n d c : Int) (hc : 0 < c) : rnd r (n * c) (d * c) = rnd r n d := by
  unfold rnd
  rw [Int.mul_comm n c, Int.mul_comm d c, Int.mul_emod_mul_of_pos _ _ hc, Int.mul_ediv_mul_of_pos _ _ hc]
  have e1 : (c * d < 2 * (c * (n % d))) ↔ d < 2 * (n % d) := by
    rw [show 2 * (c * (n % d)) = c * (2 * (n % d)) by rw [Int.mul_left_comm], Int.mul_lt_mul_left hc]
  have e2 : (2 * (c * (n % d)) = c * d) ↔ 2 * (n % d) = d := by
    rw [show 2 * (c * (n % d)) = c * (2 * (n % d)) by rw [Int.mul_left_comm]]
    exact ⟨fun h => Int.eq_of_mul_eq_mul_left (by omega) h, fun h => by rw [h]⟩
  have e3 : (c * n < 0) ↔ n < 0 := by
    have := Int.mul_lt_mul_left (b := n) (c := 0) hc
    rw [Int.mul_zero] at this; exact this
  have e4 : (0 < c * (n % d)) ↔ 0 < n % d := by
    have := Int.mul_lt_mul_left (b := 0) (c := n % d) hc
    rw [Int.mul_zero] at this; exact this
  simp only [e1, e2, e3, e4]
theorem div_bounds {n d : Int} (hd : 0 < d) : n - d < d * (n / d) ∧ d * (n / d) ≤ n := by
  have h2 := Int.mul_ediv_add_emod n d
  have h3 := Int.emod_nonneg n (show d ≠ 0 by omega)
  have h4 := Int.emod_lt_of_pos n hd
  omega
theorem div_small {n d B : Int} (hd : 0 < d) (h1 : -B ≤ n) (h2 : n ≤ B) (hB : 0 ≤ B) : -B ≤ n / d ∧ n / d ≤ B := by
  constructor
  · rw [Int.le_ediv_iff_mul_le hd]
    have : -B * d ≤ -B * 1 := Int.mul_le_mul_of_nonpos_left (by omega) (by omega)
    omega
  · have h3 := Int.ediv_lt_of_lt_mul (a := n) (b := B + 1) hd (by
      have : (B + 1) * 1 ≤ (B + 1) * d := Int.mul_le_mul_of_nonneg_left (by omega) (by omega)
      omega)
    omega
theorem tdiv_small {n d B : Int} (hd : 0 < d) (h1 : -B ≤ n) (h2 : n ≤ B) (hB : 0 ≤ B) : -B ≤ Int.tdiv n d ∧ Int.tdiv n d ≤ B + 1 := by
  have := floor_eq (n := n) hd
  have h3 := div_small hd h1 h2 hB
  split at this <;> omega
theorem rnd_small {r n d B : Int} (hd : 0 < d) (h1 : -B ≤ n) (h2 : n ≤ B) (hB : 0 ≤ B) : -B ≤ rnd r n d ∧ rnd r n d ≤ B + 1 := by
  have := div_small hd h1 h2 hB
  unfold rnd; split <;> omega
theorem tmod2 (x : Int) : (Int.tmod x 2 ≠ 0) ↔ (x % 2 ≠ 0) := by
  have := mod_eq (n := x) (d := 2) (by omega)
  have h1 : -2 < Int.tmod x 2 := Int.lt_tmod_of_pos x (by omega)
  split at this <;> omega
theorem rounded_j (N : Nat) (w p r b n d : Int) (hr : 0 ≤ r ∧ r ≤ 2) (hd : 0 < d) (hd2 : d ≤ 4294967296) (h1 : -1125899906842624 ≤ n) (h2 : n ≤ 1125899906842624) (k : Int → Option R) :
    arith_form_rounded_j0 N k n d (n / d) w p r b = k (rnd r n d) := by
  have hb := div_bounds (n := n) hd
  have hs := div_small hd h1 h2 (by omega)
  have h3 := Int.emod_nonneg n (show d ≠ 0 by omega)
  have h4 := Int.emod_lt_of_pos n hd
  have h5 := Int.mul_ediv_add_emod n d
  have e1 : w64 (n / d * d) = n / d * d := w64_id (by rw [Int.mul_comm]; omega) (by rw [Int.mul_comm]; omega)
  have e2 : w64 (n - n / d * d) = n % d := by
    rw [w64_id (by rw [Int.mul_comm]; omega) (by rw [Int.mul_comm]; omega), Int.mul_comm]; omega
  have e3 : w64 (2 * (n % d)) = 2 * (n % d) := w64_id (by omega) (by omega)
  have e4 : w64 (n / d + 1) = n / d + 1 := w64_id (by omega) (by omega)
  unfold arith_form_rounded_j0 rnd
  simp only [e1, e2, e3, e4]
  have t2 := tmod2 (n / d)
  by_cases c1 : r = 1
  · by_cases c2 : d < 2 * (n % d)
    · rw [cond_pos c1, cond_pos c2, if_pos (.inl ⟨c1, .inl c2⟩)]
    · rw [cond_pos c1, cond_neg c2]
      by_cases c3 : 2 * (n % d) = d
      · rw [cond_pos c3]
        by_cases c4 : Int.tmod (n / d) 2 ≠ 0
        · rw [cond_pos c4, if_pos (.inl ⟨c1, .inr ⟨c3, t2.1 c4⟩⟩)]
        · rw [cond_neg c4, cond_neg (by omega), if_neg]
          rintro (⟨_, h | ⟨_, h⟩⟩ | ⟨h, _⟩)
          · exact c2 h
          · exact c4 (t2.2 h)
          · omega
      · rw [cond_neg c3, cond_neg (by omega), if_neg]
        rintro (⟨_, h | ⟨h, _⟩⟩ | ⟨h, _⟩)
        · exact c2 h
        · exact c3 h
        · omega
  · rw [cond_neg c1]
    by_cases c5 : r = 2
    · rw [cond_pos c5]
      by_cases c6 : n < 0
      · rw [cond_pos c6]
        by_cases c7 : 0 < n % d
        · rw [cond_pos c7, if_pos (.inr ⟨c5, c6, c7⟩)]
        · rw [cond_neg c7, if_neg]
          rintro (⟨h, _⟩ | ⟨_, _, h⟩)
          · exact c1 h
          · exact c7 h
      · rw [cond_neg c6, if_neg]
        rintro (⟨h, _⟩ | ⟨_, h, _⟩)
        · exact c1 h
        · exact c6 h
    · rw [cond_neg c5, if_neg]
      rintro (⟨h, _⟩ | ⟨h, _, _⟩)
      · exact c1 h
      · exact c5 h
theorem rounded_eq (N : Nat) (w p r b n d : Int) (hr : 0 ≤ r ∧ r ≤ 2) (hd : 0 < d) (hd2 : d ≤ 4294967296) (h1 : -1125899906842624 ≤ n) (h2 : n ≤ 1125899906842624) (k : Int → Option R) :
    arith_form_rounded N w p r b n d k = k (rnd r n d) := by
  have hf := floor_eq (n := n) hd
  have hs := tdiv_small hd h1 h2 (by omega)
  unfold arith_form_rounded
  rw [cond_neg (by omega), cond_neg (by omega), w64_id (x := Int.tdiv n d) (by omega) (by omega), w64_id (x := Int.tdiv n d - 1) (by omega) (by omega)]
  by_cases c : Int.tmod n d < 0
  · rw [if_pos c] at hf
    rw [cond_pos c, hf, rounded_j N w p r b n d hr hd hd2 h1 h2]
  · rw [if_neg c] at hf
    rw [cond_neg c, hf, rounded_j N w p r b n d hr hd hd2 h1 h2]
theorem Mod_eq (N : Nat) (n d : Int) (hd : 0 < d) (hd2 : d ≤ 4294967296) (k : Int → Option R) : ratchetbase_Mod N n d k = k (n % d) := by
  have hf := mod_eq (n := n) hd
  have h3 := Int.emod_nonneg n (show d ≠ 0 by omega)
  have h4 := Int.emod_lt_of_pos n hd
  unfold ratchetbase_Mod
  rw [cond_neg (by omega)]
  by_cases c : Int.tmod n d < 0
  · rw [if_pos c] at hf; rw [cond_pos c, w64_id (by omega) (by omega), hf]
  · rw [if_neg c] at hf; rw [cond_neg c, hf]
/-! ### Fixed -/
def sat (w b n : Int) : Int := if b = 1 then max (- p2 (w - 1)) (min (p2 (w - 1) - 1) n) else n
/-- A quotient, fixed. -/
def fx (w r b n d : Int) : Int := sat w b (rnd r n d) % p2 w
theorem toNat_mod64 (n : Int) : (BitVec.ofInt 64 n).toNat = (n % 18446744073709551616).toNat := by
  rw [BitVec.toNat_ofInt]; rfl
theorem and_mask (n w : Int) (h0 : 0 ≤ w) (h : w ≤ 16) : andI .i64 n (p2 w - 1) = n % p2 w := by
  have h1 := p2_pos w
  have h2 := p2_16 h
  have hp : p2 w = ((2 ^ w.toNat : Nat) : Int) := by
    have := p2_nat w.toNat
    rwa [show ((w.toNat : Nat) : Int) = w by omega] at this
  unfold andI
  have hbits : IntKind.bits .i64 = 64 := rfl
  have e : (BitVec.ofInt 64 n &&& BitVec.ofInt 64 (p2 w - 1)).toNat = (n % p2 w).toNat := by
    rw [BitVec.toNat_and, toNat_mod64, toNat_mod64]
    have e1 : ((p2 w - 1) % 18446744073709551616).toNat = 2 ^ w.toNat - 1 := by
      rw [Int.emod_eq_of_lt (by omega) (by omega)]; omega
    rw [e1, Nat.and_two_pow_sub_one_eq_mod]
    have hq : (n % 18446744073709551616) % p2 w = n % p2 w := by
      refine Int.emod_emod_of_dvd n ?_
      rw [hp]
      have : (2 : Nat) ^ w.toNat ∣ 2 ^ 64 := Nat.pow_dvd_pow 2 (by omega)
      have e64 : (18446744073709551616 : Int) = ((2 ^ 64 : Nat) : Int) := by decide +kernel
      rw [e64]
      exact Int.natCast_dvd_natCast.2 this
    rw [← hq]
    have h5 : 0 ≤ n % 18446744073709551616 := Int.emod_nonneg n (by omega)
    rw [hp]
    generalize n % 18446744073709551616 = x at h5
    obtain ⟨y, rfl⟩ : ∃ y : Nat, x = y := ⟨x.toNat, by omega⟩
    rfl
  show IntKind.wrap .i64 (((BitVec.ofInt (IntKind.bits .i64) n &&& BitVec.ofInt (IntKind.bits .i64) (p2 w - 1)).toNat : Nat) : Int) = _
  rw [show (BitVec.ofInt (IntKind.bits .i64) n &&& BitVec.ofInt (IntKind.bits .i64) (p2 w - 1)).toNat = _ from e]
  have h6 := Int.emod_nonneg n (show p2 w ≠ 0 by omega)
  have h7 := Int.emod_lt_of_pos n h1
  rw [Int.toNat_of_nonneg h6]
  exact w64_id (x := n % p2 w) (by omega) (by omega)
theorem sat_small {w b n : Int} (hw : 1 ≤ w) (h16 : w ≤ 16) (h1 : -1125899906842624 ≤ n) (h2 : n ≤ 1125899906842625) : -1125899906842624 ≤ sat w b n ∧ sat w b n ≤ 1125899906842625 := by
  have := p2_15 (n := w - 1) (by omega)
  have := p2_pos (w - 1)
  unfold sat; split <;> omega
theorem fixed_eq (N : Nat) {w p r b : Int} (hf : VF w p r b) (n d : Int) (hd : 0 < d) (hd2 : d ≤ 4294967296) (h1 : -1125899906842624 ≤ n) (h2 : n ≤ 1125899906842624) (k : Int → Option R) :
    arith_form_fixed N w p r b n d k = k (fx w r b n d) := by
  obtain ⟨w2, w16, p0, pw, r0, r2, b0, b1⟩ := hf
  have q1 := p2_half (w := w) (by omega)
  have q2 := p2_16 w16
  have q3 := p2_pos (w - 1)
  unfold arith_form_fixed
  rw [rounded_eq N w p r b n d ⟨r0, r2⟩ hd hd2 h1 h2]
  have e : w64 (Int.tdiv (p2 w) 2) = p2 (w - 1) := by
    rw [Int.tdiv_eq_ediv_of_nonneg (by omega), w64_id (by omega) (by omega)]; omega
  simp only [size_eq N p r b (show 0 ≤ w by omega) w16, e, w64_id (x := p2 w - 1) (by omega) (by omega), w64_id (x := -p2 (w - 1)) (by omega) (by omega), w64_id (x := p2 (w - 1) - 1) (by omega) (by omega), and_mask _ w (by omega) w16, Int.zero_sub]
  unfold fx sat
  by_cases c : b = 1
  · rw [cond_pos c, if_pos c]
  · rw [cond_neg c, if_neg c]

/-! ### Values of a form -/
theorem c1_eq (N : Nat) (x w p r b : Int) (h0 : 0 ≤ w) (h : w ≤ 16) (k : Bool → Int → Int → Int → Int → Option R) : arith_each_int__c1 N x w p r b k = k (!vok w x) w p r b := by
  have := p2_pos w; have := p2_16 h
  unfold arith_each_int__c1 arith_form_valuesErr_c1 vok
  rw [size_eq N p r b h0 h, w64_id (by omega) (by omega), within_eq]
theorem any_loop (N : Nat) (k0 : Int → Int → Int → Int → Int → Option R) (k1 : Int → Int → Int → Int → Option R) (g : Option R) (w p r b : Int) (h0 : 0 ≤ w) (h16 : w ≤ 16) (hk : ∀ i : Nat, k0 i w p r b = g) (l : List Int) (hl : l.length ≤ 1000000) : ∀ (n i : Nat), l.length < n + i → i ≤ l.length →
    slices_IndexFunc_Lint_int_l0 N k0 k1 n l l.length i w p r b = if (l.drop i).all (vok w) then k1 w p r b else g := by
  intro n
  induction n with
  | zero => intro i h1 h2; omega
  | succ n ih =>
    intro i h1 h2
    rw [slices_IndexFunc_Lint_int_l0]
    by_cases h : i < l.length
    · rw [cond_pos (by omega), at?_lt h, some_bind', c1_eq N _ w p r b h0 h16, drop_cons h, List.all_cons]
      cases e : vok w l[i]
      · rw [Bool.not_false, cond_true, hk]; simp
      · rw [Bool.not_true, cond_false, w64_succ (by omega), Bool.true_and]
        exact ih (i + 1) (by omega) (by omega)
    · rw [cond_neg (by omega)]
      have : i = l.length := by omega
      subst this
      simp
theorem valuesErr_eq (N : Nat) (w p r b : Int) (h0 : 0 ≤ w) (h16 : w ≤ 16) (l : List Int) (hl : l.length ≤ 1000000) (hN : l.length < N) (k : Int → Option R) :
    arith_form_valuesErr N w p r b l k = k (if l.all (vok w) then 0 else 2) := by
  unfold arith_form_valuesErr arith_each_int slices_ContainsFunc_Lint_int slices_IndexFunc_Lint_int
  have := any_loop N (fun z7 z8 z9 z10 z11 => arith_unless N (!decide (0 ≤ z7)) 2 fun y2 => k y2) (fun z12 z13 z14 z15 => arith_unless N (!decide (0 ≤ (-1 : Int))) 2 fun y2 => k y2) (k 2) w p r b h0 h16 (fun i => by rw [unless_eq]; simp) l hl N 0 (by omega) (by omega)
  rw [Int.natCast_zero] at this
  rw [this, List.drop_zero, unless_eq]
  cases l.all (vok w) <;> simp
theorem opened_eq (N : Nat) (hN : 10 ≤ N) (w p r b : Int) (l : List Int) (hl : l.length ≤ 5) (k : Int → Int → Int → Int → Int → Option R) :
    arith_opened N w p r b l k = k w p r b (if ferr w p r b = 0 then (if l.all (vok w) then 0 else 2) else ferr w p r b) := by
  unfold arith_opened
  rw [checkForm_eq N (by omega)]
  by_cases c : ferr w p r b = 0
  · have hf := ferr_ok c
    rw [cond_neg (by simp [c]), if_pos c, valuesErr_eq N w p r b (by have := hf.w2; omega) hf.w16 l (by omega) (by omega)]
  · rw [cond_pos c, if_neg c]

theorem vok_range {w n : Int} (h : w ≤ 16) (hv : vok w n = true) : 0 ≤ n ∧ n ≤ 65536 := by
  have := of_decide_eq_true hv
  have := p2_16 h
  omega
theorem sg_small {w n : Int} (hw : 1 ≤ w) (h : w ≤ 16) (hv : vok w n = true) : -32768 ≤ sg w n ∧ sg w n ≤ 32767 := by
  have := sg_range hw hv
  have := p2_15 (n := w - 1) (by omega)
  omega
theorem mul_small {a b A B : Int} (h1 : -A ≤ a) (h2 : a ≤ A) (h3 : -B ≤ b) (h4 : b ≤ B) (hA : 0 ≤ A) (hB : 0 ≤ B) : -(A * B) ≤ a * b ∧ a * b ≤ A * B := by
  rcases Int.le_total 0 a with ha | ha <;> rcases Int.le_total 0 b with hb | hb
  · have := Int.mul_le_mul h2 h4 hb hA
    have := Int.mul_nonneg ha hb
    have := Int.mul_nonneg hA hB
    omega
  · have e := Int.mul_le_mul h2 (show -b ≤ B by omega) (by omega) hA
    rw [Int.mul_neg] at e
    have f := Int.mul_nonneg ha (show 0 ≤ -b by omega)
    rw [Int.mul_neg] at f
    have := Int.mul_nonneg hA hB
    omega
  · have e := Int.mul_le_mul (show -a ≤ A by omega) h4 hb hA
    rw [Int.neg_mul] at e
    have f := Int.mul_nonneg (show 0 ≤ -a by omega) hb
    rw [Int.neg_mul] at f
    have := Int.mul_nonneg hA hB
    omega
  · have e := Int.mul_le_mul (show -a ≤ A by omega) (show -b ≤ B by omega) (by omega) hA
    rw [Int.neg_mul_neg] at e
    have f := Int.mul_nonneg (show 0 ≤ -a by omega) (show 0 ≤ -b by omega)
    rw [Int.neg_mul_neg] at f
    have := Int.mul_nonneg hA hB
    omega
theorem p2_sq {p : Int} (h : 0 ≤ p) : p2 (2 * p) = p2 p * p2 p := by
  rw [← p2_add h h]; congr 1; omega
theorem zz (a b c d : Int) : (false != (decide (a = b) && (decide (c = d) && true))) = decide (a = b ∧ c = d) := by
  by_cases h : a = b <;> by_cases h' : c = d <;> simp [h, h']

/-! ### Bits -/
theorem shown_ok (k : Bool → Option R) : ratchettop_arithShown 2000 k = k true := by kernel_rfl
theorem bwithin_eq (N : Nat) (a lo hi : Int) (k : Bool → Option R) : bits_within N a lo hi k = k (decide (lo ≤ a ∧ a ≤ hi)) := by
  unfold bits_within
  by_cases h : lo ≤ a <;> simp [h]
theorem bwithin_ok (N : Nat) {a lo hi : Int} (h : lo ≤ a ∧ a ≤ hi) (k : Bool → Option R) : bits_within N a lo hi k = k true := by rw [bwithin_eq, decide_eq_true h]
theorem bfirst2 (k : Int → Option R) : bits_first 2000 [0, 0] k = k 0 := by rfl
theorem bfirst3 (k : Int → Option R) : bits_first 2000 [0, 0, 0] k = k 0 := by rfl
theorem bone (b : Bool) (k : Int → Option R) : bits_one 2000 b k = k (if b = true then 1 else 0) := by cases b <;> rfl
theorem bunless (b : Bool) (e : Int) (k : Int → Option R) : bits_unless 2000 b e k = k (if b = true then 0 else e) := by cases b <;> rfl
theorem shr_p2 {n : Int} (v : Int) (h0 : 0 ≤ n) (h : n ≤ 40) : shr' .i64 v n = v / p2 n := by
  unfold shr' p2
  have e : min n.toNat (IntKind.bits .i64) = n.toNat := by
    have : IntKind.bits .i64 = 64 := rfl
    omega
  rw [e, Int.fdiv_eq_ediv_of_nonneg _ (Int.le_of_lt (Int.pow_pos (by omega)))]
theorem bcheck {w v : Int} (h1 : 1 ≤ w) (h2 : w ≤ 16) (hv : vok w v = true) (k : Int → Option R) : bits_CheckBits 2000 w v k = k 0 := by
  have := p2_pos w; have := p2_16 h2
  have hv := of_decide_eq_true hv
  unfold bits_CheckBits bits_isWidth
  rw [bwithin_ok 2000 (by omega)]
  try dsimp only
  rw [show (!true) = false from rfl, cond_false, cond_neg (by omega), shl_p2 (by omega) (by omega), w64_id (by omega) (by omega), bwithin_ok 2000 (by omega)]
  rfl
/-- The highest bit. -/
theorem top_val {w v : Int} (h1 : 1 ≤ w) (hv : vok w v = true) : v / p2 (w - 1) = if p2 (w - 1) ≤ v then 1 else 0 := by
  have := p2_half h1; have := p2_pos (w - 1)
  have hv := of_decide_eq_true hv
  split
  · exact ((Int.ediv_emod_unique (r := v - p2 (w - 1)) (by omega)).2 ⟨by omega, by omega, by omega⟩).1
  · exact Int.ediv_eq_zero_of_lt (by omega) (by omega)
theorem btop {w v : Int} (h1 : 1 ≤ w) (h2 : w ≤ 16) (hv : vok w v = true) (k : Int → Option R) : bits_word_top 2000 w v k = k (if p2 (w - 1) ≤ v then 1 else 0) := by
  unfold bits_word_top
  rw [w64_id (by omega) (by omega), cond_neg (by omega), shr_p2 v (by omega) (by omega), top_val h1 hv]
theorem bsigned {w v : Int} (h1 : 1 ≤ w) (h2 : w ≤ 16) (hv : vok w v = true) (k : Int → Option R) : bits_word_signed 2000 w v k = k (sg w v) := by
  have := p2_pos w; have := p2_16 h2
  unfold bits_word_signed sg
  rw [btop h1 h2 hv, cond_neg (by omega)]
  have hv := of_decide_eq_true hv
  by_cases c : p2 (w - 1) ≤ v
  · rw [if_pos c, if_pos c, shl_p2 (by omega) (by omega), w64_id (by omega) (by omega)]
  · rw [if_neg c, if_neg c]
    have : shl' .i64 0 w = 0 := by unfold shl'; rw [Int.zero_mul]; rfl
    rw [this, w64_id (by omega) (by omega), Int.sub_zero]
theorem bof {w : Int} (n : Int) (h1 : 0 ≤ w) (h2 : w ≤ 16) (k : Int → Int → Option R) : bits_of 2000 n w k = k w (n % p2 w) := by
  have := p2_pos w; have := p2_16 h2
  unfold bits_of
  rw [cond_neg (by omega), shl_p2 (by omega) (by omega), w64_id (by omega) (by omega), and_mask n w h1 h2]
theorem vok_mod {w : Int} (n : Int) : vok w (n % p2 w) = true := by
  have h := p2_pos w
  have h1 := Int.emod_nonneg n (show p2 w ≠ 0 by omega)
  have h2 := Int.emod_lt_of_pos n h
  exact decide_eq_true ⟨h1, by omega⟩
theorem bflags {w : Int} (e s : Int) (h1 : 1 ≤ w) (h2 : w ≤ 16) (k : Int → Int → Int → Int → Int → Int → Option R) :
    ∃ c z n, bits_flags 2000 w e s k = k w (e % p2 w) c (if sg w (e % p2 w) = s then 0 else 1) z n := by
  have := p2_pos w; have := p2_16 h2
  unfold bits_flags
  rw [bof e (by omega) h2, cond_neg (by omega), bwithin_eq]
  simp only [bone]
  rw [bsigned h1 h2 (vok_mod e), btop h1 h2 (vok_mod e)]
  have key : ∀ (m c z n A B : Int), A = B → ∃ c' z' n', k w m c A z n = k w m c' B z' n' := fun m c z n A B h => ⟨c, z, n, by rw [h]⟩
  refine key _ _ _ _ _ _ ?_
  by_cases hs : sg w (e % p2 w) = s
  · rw [if_pos hs, decide_eq_false (show ¬ sg w (e % p2 w) ≠ s from fun h => h hs)]; rfl
  · rw [if_neg hs, decide_eq_true hs]; rfl
theorem badd {w a b : Int} (h1 : 1 ≤ w) (h2 : w ≤ 16) (ha : vok w a = true) (hb : vok w b = true) (k : Int → Int → Int → Int → Int → Int → Int → Option R) :
    ∃ c z n, bits_AddWith 2000 w a w b 0 k = k w ((a + b) % p2 w) c (if sg w ((a + b) % p2 w) = sg w a + sg w b then 0 else 1) z n 0 := by
  have q1 := vok_range h2 ha; have q2 := vok_range h2 hb
  have q3 := sg_small h1 h2 ha; have q4 := sg_small h1 h2 hb
  unfold bits_AddWith bits_pair
  unfold bits_isBit
  rw [bcheck h1 h2 ha, bcheck h1 h2 hb, bunless, decide_eq_true rfl, if_pos rfl, bfirst3, bwithin_ok 2000 (by omega), bunless, if_pos rfl, bfirst2, cond_neg (by omega)]
  rw [bsigned h1 h2 ha, bsigned h1 h2 hb, w64_id (x := a + b) (by omega) (by omega), w64_id (x := sg w a + sg w b) (by omega) (by omega), Int.add_zero, Int.add_zero, w64_id (x := a + b) (by omega) (by omega), w64_id (x := sg w a + sg w b) (by omega) (by omega)]
  exact bflags (a + b) (sg w a + sg w b) h1 h2 _
theorem bmul {w a b : Int} (h1 : 1 ≤ w) (h2 : w ≤ 8) (ha : vok w a = true) (hb : vok w b = true) (k : Int → Int → Int → Option R) :
    bits_MulWide 2000 w a w b k = k (w + w) ((a * b) % p2 (w + w)) 0 := by
  have q1 := vok_range (by omega) ha; have q2 := vok_range (by omega) hb
  have q3 : a * b ≤ 65536 * 65536 := Int.mul_le_mul q1.2 q2.2 q2.1 (by omega)
  have q4 := Int.mul_nonneg q1.1 q2.1
  unfold bits_MulWide
  rw [bcheck h1 (by omega) ha, bcheck h1 (by omega) hb, w64_id (x := w + w) (by omega) (by omega)]
  rw [bunless, decide_eq_true (show w + w ≤ 16 by omega), if_pos rfl, bfirst3, cond_neg (by omega), w64_id (x := a * b) (by omega) (by omega), bof _ (by omega) (by omega)]
theorem bfield {w v n : Int} (h0 : 1 ≤ n) (h1 : n ≤ w) (h2 : w ≤ 16) (hv : vok w v = true) (k : Int → Int → Int → Option R) :
    bits_FieldOf 2000 w v 0 n k = k n (v % p2 n) 0 := by
  unfold bits_FieldOf bits_isWidth
  rw [bcheck (by omega) h2 hv, bwithin_ok 2000 (by omega), cond_true, bwithin_ok 2000 (by omega), bunless, if_pos rfl, bfirst2]
  unfold bits_FieldOf_j0
  rw [bunless, w64_id (x := 0 + n) (by omega) (by omega), decide_eq_true (show 0 + n ≤ w by omega), if_pos rfl, bfirst2, cond_neg (by omega), cond_neg (by omega), shr_p2 v (by omega) (by omega), bof _ (by omega) (by omega)]
  rw [show p2 0 = 1 from rfl, Int.ediv_one]
theorem sg_mod {w : Int} (v : Int) : sg w v % p2 w = v % p2 w := by
  unfold sg; split
  · exact Int.sub_emod_right v (p2 w)
  · rfl
theorem addF {w p b a c : Int} (h2 : 2 ≤ w) (h16 : w ≤ 16) (hp : 0 ≤ p ∧ p ≤ w - 1) (hb : 0 ≤ b ∧ b ≤ 1) (ha : vok w a = true) (hc : vok w c = true) (k : Int → Int → Option R) :
    arith_AddFixed 2000 a c w p 0 b k = k (sat w b (sg w a + sg w c) % p2 w) 0 := by
  have hf : VF w p 0 b := ⟨h2, h16, hp.1, hp.2, by omega, by omega, hb.1, hb.2⟩
  have fe : ferr w p 0 b = 0 := by unfold ferr; rw [if_pos ⟨h2, h16⟩, if_pos hp, if_pos ⟨⟨by omega, by omega⟩, hb⟩]
  have q1 := vok_range h16 ha; have q2 := vok_range h16 hc
  have q3 := sg_small (by omega) h16 ha; have q4 := sg_small (by omega) h16 hc
  unfold arith_AddFixed
  rw [opened_eq 2000 (by omega) w p 0 b [a, c] (by simp), if_pos fe]
  simp only [List.all_cons, List.all_nil, ha, hc, Bool.and_self, if_true]
  rw [cond_neg (by omega), signed_eq 2000 p 0 b a (by omega) h16 q1, signed_eq 2000 p 0 b c (by omega) h16 q2, w64_id (by omega) (by omega), fixed_eq 2000 hf _ 1 (by omega) (by omega) (by omega) (by omega)]
  unfold fx; rw [rnd_one]
theorem mulF {w a c : Int} (h2 : 2 ≤ w) (h16 : w ≤ 16) (ha : vok w a = true) (hc : vok w c = true) (k : Int → Int → Option R) :
    arith_MulFixed 2000 a c w 0 0 0 k = k ((sg w a * sg w c) % p2 w) 0 := by
  have hf : VF w 0 0 0 := ⟨h2, h16, by omega, by omega, by omega, by omega, by omega, by omega⟩
  have fe : ferr w 0 0 0 = 0 := by unfold ferr; rw [if_pos ⟨h2, h16⟩, if_pos ⟨by omega, by omega⟩, if_pos ⟨⟨by omega, by omega⟩, by omega, by omega⟩]
  have q1 := vok_range h16 ha; have q2 := vok_range h16 hc
  have q3 := sg_small (by omega) h16 ha; have q4 := sg_small (by omega) h16 hc
  have q5 := mul_small (A := 32768) (B := 32768) (a := sg w a) (b := sg w c) (by omega) (by omega) (by omega) (by omega) (by omega) (by omega)
  unfold arith_MulFixed
  rw [opened_eq 2000 (by omega) w 0 0 0 [a, c] (by simp), if_pos fe]
  simp only [List.all_cons, List.all_nil, ha, hc, Bool.and_self, if_true]
  rw [cond_neg (by omega), signed_eq 2000 0 0 0 a (by omega) h16 q1, signed_eq 2000 0 0 0 c (by omega) h16 q2, one_eq 2000 w 0 0 (by omega) (by omega), show p2 0 = 1 from rfl, w64_id (by omega) (by omega), fixed_eq 2000 hf _ 1 (by omega) (by omega) (by omega) (by omega)]
  unfold fx; rw [rnd_one]; rfl
theorem sg_fits {w n : Int} (hw : 1 ≤ w) (h : - p2 (w - 1) ≤ n ∧ n ≤ p2 (w - 1) - 1) : sg w (n % p2 w) = n := by
  have h1 := p2_half hw; have h2 := p2_pos (w - 1)
  unfold sg
  by_cases hn : 0 ≤ n
  · rw [Int.emod_eq_of_lt hn (by omega), if_neg (by omega)]
  · have e : n % p2 w = n + p2 w := ((Int.ediv_emod_unique (q := -1) (r := n + p2 w) (by omega)).2 ⟨by omega, by omega, by omega⟩).2
    rw [e, if_pos (by omega)]; omega
theorem bits_law {w a b p : Int} (h2 : 2 ≤ w) (h8 : w ≤ 8) (ha : vok w a = true) (hb : vok w b = true) (k : Bool → Option R) : ratchettop_TopArithBits 2000 w a w b p k = k true := by
  have q := p2_half (w := w) (by omega); have q0 := p2_pos (w - 1); have q16 := p2_16 (n := w) (by omega)
  have va := of_decide_eq_true ha; have vb := of_decide_eq_true hb
  unfold ratchettop_TopArithBits
  rw [shown_ok]
  try dsimp only
  rw [show (!true) = false from rfl, cond_false, Within_eq, decide_eq_true (show 2 ≤ w ∧ w ≤ 8 from ⟨h2, h8⟩)]
  try dsimp only
  rw [show (!true) = false from rfl, cond_false, cond_neg (by omega), Fits_eq 2000 a (by omega) (by omega), ha]
  try dsimp only
  rw [show (!true) = false from rfl, cond_false, Fits_eq 2000 b (by omega) (by omega), hb]
  try dsimp only
  rw [show (!true) = false from rfl, cond_false]
  have pm := Int.emod_nonneg p (show w ≠ 0 by omega)
  have pl := Int.emod_lt_of_pos p (show 0 < w by omega)
  have hp : 0 ≤ p % w ∧ p % w ≤ w - 1 := ⟨pm, by omega⟩
  obtain ⟨c, z, n, e⟩ := badd (w := w) (a := a) (b := b) (by omega) (by omega) ha hb (fun y5 y6 y7 y8 y9 y10 y11 => (bits_MulWide 2000 w a w b (fun y12 y13 y14 => (bif decide (y11 ≠ 0) then (k false) else (bif decide (y14 ≠ 0) then (k false) else (bits_FieldOf 2000 y12 y13 0 w (fun y15 y16 y17 => (ratchetbase_Mod 2000 p w (fun y18 => (ratchetbase_Mod 2000 p w (fun y19 => (arith_AddFixed 2000 a b w y18 0 0 (fun y20 y21 => (arith_AddFixed 2000 a b w y19 0 1 (fun y22 y23 => (arith_MulFixed 2000 a b w 0 0 0 (fun y24 y25 => (bif decide (y17 ≠ 0) then (k false) else (bif decide (y21 ≠ 0) then (k false) else (bif decide (y23 ≠ 0) then (k false) else (bif decide (y25 ≠ 0) then (k false) else (bif decide (y20 ≠ y6) then (k false) else (bif decide (y24 ≠ y16) then (k false) else (bif decide (y8 = 0) then (k (decide (y22 = y20))) else (ratchetbase_Power 2000 (w64 (w - 1)) (fun y26 => (bif decide (y26 ≤ a) then (ratchetbase_Power 2000 (w64 (w - 1)) (fun y27 => (k (decide (y22 = y27))))) else (ratchetbase_Power 2000 (w64 (w - 1)) (fun y28 => (k (decide (y22 = (w64 (y28 - 1))))))))))))))))))))))))))))))))))
  refine e.trans ?_
  rw [bmul (by omega) h8 ha hb]
  rw [cond_neg (by omega), cond_neg (by omega), bfield (by omega) (by omega) (by omega) (vok_mod _)]
  simp only [Mod_eq 2000 p w (by omega) (by omega)]
  rw [addF h2 (by omega) hp ⟨by omega, by omega⟩ ha hb, addF h2 (by omega) hp ⟨by omega, by omega⟩ ha hb, mulF h2 (by omega) ha hb]
  rw [cond_neg (by omega), cond_neg (by omega), cond_neg (by omega), cond_neg (by omega)]
  have e0 : sat w 0 (sg w a + sg w b) % p2 w = (a + b) % p2 w := by
    unfold sat; rw [if_neg (by omega), Int.add_emod, sg_mod, sg_mod, ← Int.add_emod]
  have em : (sg w a * sg w b) % p2 w = a * b % p2 (w + w) % p2 w := by
    rw [p2_add (by omega) (by omega), Int.emod_emod_of_dvd _ (Int.dvd_mul_right _ _), Int.mul_emod, sg_mod, sg_mod, ← Int.mul_emod]
  rw [e0, em, cond_neg (by simp), cond_neg (by simp)]
  have ra := sg_range (w := w) (by omega) ha; have rb := sg_range (w := w) (by omega) hb
  rw [w64_id (x := w - 1) (by omega) (by omega)]
  simp only [power_eq 2000 (show 0 ≤ w - 1 by omega) (show w - 1 ≤ 40 by omega)]
  by_cases c1 : - p2 (w - 1) ≤ sg w a + sg w b ∧ sg w a + sg w b ≤ p2 (w - 1) - 1
  · have : sg w ((a + b) % p2 w) = sg w a + sg w b := by
      rw [← e0]; unfold sat; rw [if_neg (by omega)]; exact sg_fits (by omega) c1
    rw [if_pos this, cond_pos rfl]
    have : sat w 1 (sg w a + sg w b) = sat w 0 (sg w a + sg w b) := by unfold sat; rw [if_pos rfl, if_neg (by omega)]; omega
    rw [this, e0, decide_eq_true rfl]
  · have hne : ¬ sg w ((a + b) % p2 w) = sg w a + sg w b := fun he => c1 (he ▸ sg_range (by omega) (vok_mod _))
    rw [if_neg hne, cond_neg (by omega)]
    have hs : sat w 1 (sg w a + sg w b) = max (- p2 (w - 1)) (min (p2 (w - 1) - 1) (sg w a + sg w b)) := by unfold sat; rw [if_pos rfl]
    by_cases c2 : p2 (w - 1) ≤ a
    · rw [cond_pos c2, hs]
      have : sg w a = a - p2 w := by unfold sg; rw [if_pos c2]
      have : max (- p2 (w - 1)) (min (p2 (w - 1) - 1) (sg w a + sg w b)) = - p2 (w - 1) := by omega
      rw [this]
      have e2 : (- p2 (w - 1)) % p2 w = p2 (w - 1) := ((Int.ediv_emod_unique (q := -1) (r := p2 (w - 1)) (by omega)).2 ⟨by omega, by omega, by omega⟩).2
      rw [e2, decide_eq_true rfl]
    · rw [cond_neg c2, hs]
      have : sg w a = a := by unfold sg; rw [if_neg c2]
      have : max (- p2 (w - 1)) (min (p2 (w - 1) - 1) (sg w a + sg w b)) = p2 (w - 1) - 1 := by omega
      rw [this, w64_id (by omega) (by omega), Int.emod_eq_of_lt (by omega) (by omega), decide_eq_true rfl]
theorem pureTopArithBits : PureTopArithBits := by
  intro x0 x1 x2 _ _ _
  refine ⟨2000, fun {R} k => ?_⟩
  obtain ⟨w, a⟩ := x0
  obtain ⟨v, b⟩ := x1
  by_cases h : (2 ≤ w ∧ w ≤ 8) ∧ v = w ∧ vok w a = true ∧ vok w b = true
  · obtain ⟨⟨h2, h8⟩, rfl, ha, hb⟩ := h
    exact bits_law h2 h8 ha hb k
  · show ratchettop_TopArithBits 2000 w a v b x2 k = k true
    unfold ratchettop_TopArithBits
    rw [shown_ok]
    try dsimp only
    rw [show (!true) = false from rfl, cond_false, Within_eq]
    by_cases h1 : 2 ≤ w ∧ w ≤ 8
    · rw [decide_eq_true h1]
      try dsimp only
      rw [show (!true) = false from rfl, cond_false]
      by_cases h3 : v = w
      · rw [cond_neg (by simp [h3]), Fits_eq 2000 a (by omega) (by omega)]
        cases ha : vok w a
        · rfl
        · try dsimp only
          rw [show (!true) = false from rfl, cond_false, Fits_eq 2000 b (by omega) (by omega)]
          cases hb : vok w b
          · rfl
          · exact absurd ⟨h1, h3, ha, hb⟩ h
      · rw [cond_pos h3]
    · rw [decide_eq_false h1]; rfl

end
end Am
end Go.Proofs.YtfdmmnfjdifccaaGreatDoor
