/- Strings: a value written and read again. -/
import Derived.Test.YteamkapbkccdeaaGreatDoorAZF
import Derived.Test.YteamkapbkccdeaaGreatDoorPu
import Derived.Lib.Mul64
set_option linter.unusedVariables false
set_option linter.unusedSimpArgs false
set_option maxRecDepth 100000
namespace Go.Proofs.YteamkapbkccdeaaGreatDoor
namespace Am
section
variable {R : Type}
theorem awake_ok (k : Bool → Option R) : ratchetlaw30_awake 2000 k = k true := by kernel_rfl

theorem within_eq (N : Nat) (a lo hi : Int) (k : Bool → Option R) : arith_within N a lo hi k = k (decide (lo ≤ a ∧ a ≤ hi)) := by
  unfold arith_within
  by_cases h : lo ≤ a <;> simp [h]
theorem Within_eq (N : Nat) (a lo hi : Int) (k : Bool → Option R) : ratchetbase_Within N a lo hi k = k (decide (lo ≤ a ∧ a ≤ hi)) := by
  unfold ratchetbase_Within
  by_cases h : lo ≤ a <;> simp [h]
theorem unless_eq (N : Nat) (b : Bool) (e : Int) (k : Int → Option R) : arith_unless N b e k = k (if b = true then 0 else e) := by
  unfold arith_unless; cases b <;> rfl
theorem first_loop (N : Nat) (k0 : Int → Option R) (k1 : Option R) (l : List Int) (hl : l.length ≤ 1000000) : ∀ (n i : Nat), l.length < n + i → i ≤ l.length →
    arith_first_l0 N k0 k1 n l l.length i = match (l.drop i).find? (fun x => decide (x ≠ 0)) with | some x => k0 x | none => k1 := by
  intro n
  induction n with
  | zero => intro i h1 h2; omega
  | succ n ih =>
    intro i h1 h2
    rw [arith_first_l0]
    by_cases h : i < l.length
    · rw [cond_pos (by omega), at?_lt h, some_bind', drop_cons h, List.find?_cons]
      by_cases hx : l[i] = 0
      · rw [cond_neg (by simp [hx]), w64_id (by omega) (by omega)]
        simp only [hx, ne_eq, not_true, decide_false]
        exact ih (i + 1) (by omega) (by omega)
      · rw [cond_pos hx]; simp [hx]
    · rw [cond_neg (by omega)]
      have : i = l.length := by omega
      subst this
      simp
theorem first_eq (N : Nat) (l : List Int) (hN : l.length < N) (hl : l.length ≤ 1000000) (k : Int → Option R) : arith_first N l k = k ((l.find? (fun x => decide (x ≠ 0))).getD 0) := by
  unfold arith_first
  have := first_loop N (fun z => k z) (k 0) l hl N 0 (by omega) (by omega)
  rw [Int.natCast_zero] at this
  rw [this, List.drop_zero]
  cases l.find? (fun x => decide (x ≠ 0)) <;> rfl
theorem first2 (N : Nat) (hN : 4 ≤ N) (a b : Int) (k : Int → Option R) : arith_first N [a, b] k = k (if a = 0 then b else a) := by
  rw [first_eq N _ (by simp; omega) (by simp)]
  by_cases ha : a = 0 <;> by_cases hb : b = 0 <;> simp [ha, hb]
theorem first3 (N : Nat) (hN : 4 ≤ N) (a b c : Int) (k : Int → Option R) : arith_first N [a, b, c] k = k (if a = 0 then (if b = 0 then c else b) else a) := by
  rw [first_eq N _ (by simp; omega) (by simp)]
  by_cases ha : a = 0 <;> by_cases hb : b = 0 <;> by_cases hc : c = 0 <;> simp [ha, hb, hc]

/-! ### Powers, forms -/
/-- 2 to a power. -/
def p2 (n : Int) : Int := 2 ^ n.toNat
theorem p2_pos (n : Int) : 0 < p2 n := by unfold p2; exact Int.pow_pos (by omega)
theorem p2_nat (n : Nat) : p2 (n : Int) = ((2 ^ n : Nat) : Int) := by unfold p2; simp
theorem p2_le {a b : Int} (h : a ≤ b) : p2 a ≤ p2 b := by
  unfold p2
  have : (2 : Nat) ^ a.toNat ≤ 2 ^ b.toNat := Nat.pow_le_pow_right (by omega) (by omega)
  exact_mod_cast this
theorem p2_16 {n : Int} (h : n ≤ 16) : p2 n ≤ 65536 := p2_le h
theorem p2_15 {n : Int} (h : n ≤ 15) : p2 n ≤ 32768 := p2_le h
theorem p2_add {a b : Int} (ha : 0 ≤ a) (hb : 0 ≤ b) : p2 (a + b) = p2 a * p2 b := by
  unfold p2
  rw [show (a + b).toNat = a.toNat + b.toNat by omega, Int.pow_add]
theorem p2_half {w : Int} (h : 1 ≤ w) : p2 w = 2 * p2 (w - 1) := by
  have := p2_add (a := w - 1) (b := 1) (by omega) (by omega)
  rw [show w - 1 + 1 = w by omega] at this
  rw [this, Int.mul_comm]; rfl
theorem shl_p2 {n : Int} (h0 : 0 ≤ n) (h : n ≤ 40) : shl' .i64 1 n = p2 n := by
  have h1 : p2 n ≤ p2 40 := p2_le h
  have h2 : p2 40 = 1099511627776 := by decide
  have h3 := p2_pos n
  unfold shl'
  have e : min n.toNat (IntKind.bits .i64) = n.toNat := by
    have : IntKind.bits .i64 = 64 := rfl
    omega
  rw [e, Int.one_mul]
  exact w64_id (x := p2 n) (by omega) (by omega)
theorem power_eq (N : Nat) {n : Int} (h0 : 0 ≤ n) (h : n ≤ 40) (k : Int → Option R) : ratchetbase_Power N n k = k (p2 n) := by
  unfold ratchetbase_Power; rw [cond_neg (by omega), shl_p2 h0 h]
structure VF (w p r b : Int) : Prop where
  w2 : 2 ≤ w
  w16 : w ≤ 16
  p0 : 0 ≤ p
  pw : p ≤ w - 1
  r0 : 0 ≤ r
  r2 : r ≤ 2
  b0 : 0 ≤ b
  b1 : b ≤ 1
def ferr (w p r b : Int) : Int := if 2 ≤ w ∧ w ≤ 16 then (if 0 ≤ p ∧ p ≤ w - 1 then (if (0 ≤ r ∧ r ≤ 2) ∧ (0 ≤ b ∧ b ≤ 1) then 0 else 15) else 2) else 25
theorem ferr_ok {w p r b : Int} (h : ferr w p r b = 0) : VF w p r b := by
  unfold ferr at h
  split at h
  · split at h
    · split at h
      · rename_i c d e; exact ⟨c.1, c.2, d.1, d.2, e.1.1, e.1.2, e.2.1, e.2.2⟩
      · cases h
    · cases h
  · cases h
theorem checkForm_eq (N : Nat) (hN : 4 ≤ N) (w p r b : Int) (k : Int → Option R) : arith_CheckForm N w p r b k = k (ferr w p r b) := by
  unfold arith_CheckForm ferr
  simp only [within_eq, unless_eq, first3 N hN]
  by_cases c : 2 ≤ w ∧ w ≤ 16
  · rw [w64_id (x := w - 1) (by omega) (by omega)]
    by_cases d : 0 ≤ p ∧ p ≤ w - 1 <;> by_cases e : 0 ≤ r ∧ r ≤ 2 <;> by_cases f : 0 ≤ b ∧ b ≤ 1 <;> simp [c, d, e, f]
  · generalize decide (0 ≤ p ∧ p ≤ w64 (w - 1)) = z
    by_cases e : 0 ≤ r ∧ r ≤ 2 <;> simp [c, e]
theorem FormErr_eq (N : Nat) (w p r b : Int) (k : Int → Option R) : ratchetref30_FormErr N w p r b k = k (ferr w p r b) := by
  unfold ratchetref30_FormErr ferr
  simp only [Within_eq]
  by_cases c : 2 ≤ w ∧ w ≤ 16
  · rw [w64_id (x := w - 1) (by omega) (by omega)]
    by_cases d : 0 ≤ p ∧ p ≤ w - 1 <;> by_cases e : 0 ≤ r ∧ r ≤ 2 <;> by_cases f : 0 ≤ b ∧ b ≤ 1 <;> simp [c, d, e, f]
  · simp [c]
theorem size_eq (N : Nat) {w : Int} (p r b : Int) (h0 : 0 ≤ w) (h : w ≤ 16) (k : Int → Option R) : arith_form_size N w p r b k = k (p2 w) := by
  unfold arith_form_size; rw [cond_neg (by omega), shl_p2 h0 (by omega)]
theorem one_eq (N : Nat) (w : Int) {p : Int} (r b : Int) (h0 : 0 ≤ p) (h : p ≤ 16) (k : Int → Option R) : arith_form_one N w p r b k = k (p2 p) := by
  unfold arith_form_one; rw [cond_neg (by omega), shl_p2 h0 (by omega)]
/-- Whether a number is a value. -/
def vok (w n : Int) : Bool := decide (0 ≤ n ∧ n ≤ p2 w - 1)
theorem Fits_eq (N : Nat) (n : Int) {w : Int} (h0 : 0 ≤ w) (h : w ≤ 16) (k : Bool → Option R) : ratchetbase_Fits N n w k = k (vok w n) := by
  have := p2_pos w; have := p2_16 h
  unfold ratchetbase_Fits vok; rw [power_eq N h0 (by omega), Within_eq, w64_id (by omega) (by omega)]
/-- The number of a value, without the point. -/
def sg (w n : Int) : Int := if p2 (w - 1) ≤ n then n - p2 w else n
theorem sg_range {w n : Int} (hw : 1 ≤ w) (h : vok w n = true) : - p2 (w - 1) ≤ sg w n ∧ sg w n ≤ p2 (w - 1) - 1 := by
  have := of_decide_eq_true h
  have h1 := p2_half hw
  unfold sg; split <;> omega
theorem signed_eq (N : Nat) {w : Int} (p r b : Int) (n : Int) (h0 : 1 ≤ w) (h : w ≤ 16) (hn : 0 ≤ n ∧ n ≤ 65536) (k : Int → Option R) : arith_form_signed N w p r b n k = k (sg w n) := by
  have h1 := p2_half h0
  have h2 := p2_16 h
  have h3 := p2_pos (w - 1)
  unfold arith_form_signed sg
  rw [size_eq N p r b (by omega) h]
  have e : w64 (Int.tdiv (p2 w) 2) = p2 (w - 1) := by
    rw [Int.tdiv_eq_ediv_of_nonneg (by omega), w64_id (by omega) (by omega)]; omega
  rw [e]
  by_cases c : p2 (w - 1) ≤ n
  · rw [cond_pos c, size_eq N p r b (by omega) h, if_pos c, w64_id (by omega) (by omega)]
  · rw [cond_neg c, if_neg c]
theorem Signed_eq (N : Nat) {w : Int} (n : Int) (h0 : 1 ≤ w) (h : w ≤ 16) (hn : 0 ≤ n ∧ n ≤ 65536) (k : Int → Option R) : ratchetbase_Signed N n w k = k (sg w n) := by
  have h1 := p2_half h0
  have h2 := p2_16 h
  have h3 := p2_pos (w - 1)
  unfold ratchetbase_Signed sg
  rw [w64_id (x := w - 1) (by omega) (by omega), power_eq N (by omega) (by omega)]
  by_cases c : p2 (w - 1) ≤ n
  · rw [cond_pos c, power_eq N (by omega) (by omega), if_pos c, w64_id (by omega) (by omega)]
  · rw [cond_neg c, if_neg c]
theorem Of_eq (N : Nat) {w : Int} (p r b : Int) (n : Int) (h0 : 1 ≤ w) (h : w ≤ 16) (hn : 0 ≤ n ∧ n ≤ 65536) (k : Int → Option R) : ratchetref30_Of N n w p r b k = k (sg w n) := by
  unfold ratchetref30_Of; rw [Signed_eq N n h0 h hn]

/-! ### Rounding -/
theorem floor_eq {n d : Int} (hd : 0 < d) : (if Int.tmod n d < 0 then Int.tdiv n d - 1 else Int.tdiv n d) = n / d := by
  have h1 := Int.mul_tdiv_add_tmod n d
  have h2 := Int.mul_ediv_add_emod n d
  have h3 := Int.emod_nonneg n (show d ≠ 0 by omega)
  have h4 := Int.emod_lt_of_pos n hd
  by_cases hn : 0 ≤ n
  · have e := Int.tdiv_eq_ediv_of_nonneg (b := d) hn
    have e2 := Int.tmod_eq_emod_of_nonneg (b := d) hn
    rw [if_neg (by omega), e]
  · have h5 : -d < Int.tmod n d := Int.lt_tmod_of_pos n hd
    have h6 : Int.tmod n d ≤ 0 := by
      have := Int.tmod_nonneg d (show 0 ≤ -n by omega)
      rw [Int.neg_tmod] at this; omega
    split
    · rename_i hlt
      have : d * (Int.tdiv n d - 1) + (Int.tmod n d + d) = n := by rw [Int.mul_sub, Int.mul_one]; omega
      exact ((Int.ediv_emod_unique (r := Int.tmod n d + d) hd).2 ⟨by omega, by omega, by omega⟩).1.symm
    · have h7 : Int.tmod n d = 0 := by omega
      exact ((Int.ediv_emod_unique (r := 0) hd).2 ⟨by omega, by omega, by omega⟩).1.symm
theorem mod_eq {n d : Int} (hd : 0 < d) : (if Int.tmod n d < 0 then Int.tmod n d + d else Int.tmod n d) = n % d := by
  have h1 := Int.mul_tdiv_add_tmod n d
  have h2 := floor_eq (n := n) hd
  have h3 := Int.mul_ediv_add_emod n d
  rw [← h2] at h3
  split
  · rename_i hlt
    rw [if_pos hlt, Int.mul_sub, Int.mul_one] at h3; omega
  · rename_i hge
    rw [if_neg hge] at h3; omega
/-- A quotient, rounded. -/
def rnd (r n d : Int) : Int := if (r = 1 ∧ (d < 2 * (n % d) ∨ 2 * (n % d) = d ∧ (n / d) % 2 ≠ 0)) ∨ (r = 2 ∧ n < 0 ∧ 0 < n % d) then n / d + 1 else n / d
theorem rnd_one (r n : Int) : rnd r n 1 = n := by
  unfold rnd; rw [Int.emod_one, Int.ediv_one, if_neg (by omega)]
theorem rnd_scale (r n d c : Int) (hc : 0 < c) : rnd r (n * c) (d * c) = rnd r n d := by
  unfold rnd
  rw [Int.mul_comm n c, Int.mul_comm d c, Int.mul_emod_mul_of_pos _ _ hc, Int.mul_ediv_mul_of_pos _ _ hc]
  have e1 : (c * d < 2 * (c * (n % d))) ↔ d < 2 * (n % d) := by
    rw [show 2 * (c * (n % d)) = c * (2 * (n % d)) by rw [Int.mul_left_comm], Int.mul_lt_mul_left hc]
  have e2 : (2 * (c * (n % d)) = c * d) ↔ 2 * (n % d) = d := by
    rw [show 2 * (c * (n % d)) = c * (2 * (n % d)) by rw [Int.mul_left_comm]]
    exact ⟨fun h => Int.eq_of_mul_eq_mul_left (by omega) h, fun h => by rw [h]⟩
  have e3 : (c * n < 0) ↔ n < 0 := by
    have := Int.mul_lt_mul_left (b := n) (c := 0) hc
    rw [Int.mul_zero] at this; exact this
  have e4 : (0 < c * (n % d)) ↔ 0 < n % d := by
    have := Int.mul_lt_mul_left (b := 0) (c := n % d) hc
    rw [Int.mul_zero] at this; exact this
  simp only [e1, e2, e3, e4]
theorem div_bounds {n d : Int} (hd : 0 < d) : n - d < d * (n / d) ∧ d * (n / d) ≤ n := by
  have h2 := Int.mul_ediv_add_emod n d
  have h3 := Int.emod_nonneg n (show d ≠ 0 by omega)
  have h4 := Int.emod_lt_of_pos n hd
  omega
theorem div_small {n d B : Int} (hd : 0 < d) (h1 : -B ≤ n) (h2 : n ≤ B) (hB : 0 ≤ B) : -B ≤ n / d ∧ n / d ≤ B := by
  constructor
  · rw [Int.le_ediv_iff_mul_le hd]
    have : -B * d ≤ -B * 1 := Int.mul_le_mul_of_nonpos_left (by omega) (by omega)
    omega
  · have h3 := Int.ediv_lt_of_lt_mul (a := n) (b := B + 1) hd (by
      have : (B + 1) * 1 ≤ (B + 1) * d := Int.mul_le_mul_of_nonneg_left (by omega) (by omega)
      omega)
    omega
theorem tdiv_small {n d B : Int} (hd : 0 < d) (h1 : -B ≤ n) (h2 : n ≤ B) (hB : 0 ≤ B) : -B ≤ Int.tdiv n d ∧ Int.tdiv n d ≤ B + 1 := by
  have := floor_eq (n := n) hd
  have h3 := div_small hd h1 h2 hB
  split at this <;> omega
theorem rnd_small {r n d B : Int} (hd : 0 < d) (h1 : -B ≤ n) (h2 : n ≤ B) (hB : 0 ≤ B) : -B ≤ rnd r n d ∧ rnd r n d ≤ B + 1 := by
  have := div_small hd h1 h2 hB
  unfold rnd; split <;> omega
theorem tmod2 (x : Int) : (Int.tmod x 2 ≠ 0) ↔ (x % 2 ≠ 0) := by
  have := mod_eq (n := x) (d := 2) (by omega)
  have h1 : -2 < Int.tmod x 2 := Int.lt_tmod_of_pos x (by omega)
  split at this <;> omega
theorem rounded_j (N : Nat) (w p r b n d : Int) (hr : 0 ≤ r ∧ r ≤ 2) (hd : 0 < d) (hd2 : d ≤ 4294967296) (h1 : -1125899906842624 ≤ n) (h2 : n ≤ 1125899906842624) (k : Int → Option R) :
    arith_form_rounded_j0 N k n d (n / d) w p r b = k (rnd r n d) := by
  have hb := div_bounds (n := n) hd
  have hs := div_small hd h1 h2 (by omega)
  have h3 := Int.emod_nonneg n (show d ≠ 0 by omega)
  have h4 := Int.emod_lt_of_pos n hd
  have h5 := Int.mul_ediv_add_emod n d
  have e1 : w64 (n / d * d) = n / d * d := w64_id (by rw [Int.mul_comm]; omega) (by rw [Int.mul_comm]; omega)
  have e2 : w64 (n - n / d * d) = n % d := by
    rw [w64_id (by rw [Int.mul_comm]; omega) (by rw [Int.mul_comm]; omega), Int.mul_comm]; omega
  have e3 : w64 (2 * (n % d)) = 2 * (n % d) := w64_id (by omega) (by omega)
  have e4 : w64 (n / d + 1) = n / d + 1 := w64_id (by omega) (by omega)
  unfold arith_form_rounded_j0 rnd
  simp only [e1, e2, e3, e4]
  have t2 := tmod2 (n / d)
  by_cases c1 : r = 1
  · by_cases c2 : d < 2 * (n % d)
    · rw [cond_pos c1, cond_pos c2, if_pos (.inl ⟨c1, .inl c2⟩)]
    · rw [cond_pos c1, cond_neg c2]
      by_cases c3 : 2 * (n % d) = d
      · rw [cond_pos c3]
        by_cases c4 : Int.tmod (n / d) 2 ≠ 0
        · rw [cond_pos c4, if_pos (.inl ⟨c1, .inr ⟨c3, t2.1 c4⟩⟩)]
        · rw [cond_neg c4, cond_neg (by omega), if_neg]
          rintro (⟨_, h | ⟨_, h⟩⟩ | ⟨h, _⟩)
          · exact c2 h
          · exact c4 (t2.2 h)
          · omega
      · rw [cond_neg c3, cond_neg (by omega), if_neg]
        rintro (⟨_, h | ⟨h, _⟩⟩ | ⟨h, _⟩)
        · exact c2 h
        · exact c3 h
        · omega
  · rw [cond_neg c1]
    by_cases c5 : r = 2
    · rw [cond_pos c5]
      by_cases c6 : n < 0
      · rw [cond_pos c6]
        by_cases c7 : 0 < n % d
        · rw [cond_pos c7, if_pos (.inr ⟨c5, c6, c7⟩)]
        · rw [cond_neg c7, if_neg]
          rintro (⟨h, _⟩ | ⟨_, _, h⟩)
          · exact c1 h
          · exact c7 h
      · rw [cond_neg c6, if_neg]
        rintro (⟨h, _⟩ | ⟨_, h, _⟩)
        · exact c1 h
        · exact c6 h
    · rw [cond_neg c5, if_neg]
      rintro (⟨h, _⟩ | ⟨h, _, _⟩)
      · exact c1 h
      · exact c5 h
theorem rounded_eq (N : Nat) (w p r b n d : Int) (hr : 0 ≤ r ∧ r ≤ 2) (hd : 0 < d) (hd2 : d ≤ 4294967296) (h1 : -1125899906842624 ≤ n) (h2 : n ≤ 1125899906842624) (k : Int → Option R) :
    arith_form_rounded N w p r b n d k = k (rnd r n d) := by
  have hf := floor_eq (n := n) hd
  have hs := tdiv_small hd h1 h2 (by omega)
  unfold arith_form_rounded
  rw [cond_neg (by omega), cond_neg (by omega), w64_id (x := Int.tdiv n d) (by omega) (by omega), w64_id (x := Int.tdiv n d - 1) (by omega) (by omega)]
  by_cases c : Int.tmod n d < 0
  · rw [if_pos c] at hf
    rw [cond_pos c, hf, rounded_j N w p r b n d hr hd hd2 h1 h2]
  · rw [if_neg c] at hf
    rw [cond_neg c, hf, rounded_j N w p r b n d hr hd hd2 h1 h2]
theorem Mod_eq (N : Nat) (n d : Int) (hd : 0 < d) (hd2 : d ≤ 4294967296) (k : Int → Option R) : ratchetbase_Mod N n d k = k (n % d) := by
  have hf := mod_eq (n := n) hd
  have h3 := Int.emod_nonneg n (show d ≠ 0 by omega)
  have h4 := Int.emod_lt_of_pos n hd
  unfold ratchetbase_Mod
  rw [cond_neg (by omega)]
  by_cases c : Int.tmod n d < 0
  · rw [if_pos c] at hf; rw [cond_pos c, w64_id (by omega) (by omega), hf]
  · rw [if_neg c] at hf; rw [cond_neg c, hf]
/-! ### Fixed -/
def sat (w b n : Int) : Int := if b = 1 then max (- p2 (w - 1)) (min (p2 (w - 1) - 1) n) else n
/-- A quotient, fixed. -/
def fx (w r b n d : Int) : Int := sat w b (rnd r n d) % p2 w
theorem toNat_mod64 (n : Int) : (BitVec.ofInt 64 n).toNat = (n % 18446744073709551616).toNat := by
  rw [BitVec.toNat_ofInt]; rfl
theorem and_mask (n w : Int) (h0 : 0 ≤ w) (h : w ≤ 16) : andI .i64 n (p2 w - 1) = n % p2 w := by
  have h1 := p2_pos w
  have h2 := p2_16 h
  have hp : p2 w = ((2 ^ w.toNat : Nat) : Int) := by
    have := p2_nat w.toNat
    rwa [show ((w.toNat : Nat) : Int) = w by omega] at this
  unfold andI
  have hbits : IntKind.bits .i64 = 64 := rfl
  have e : (BitVec.ofInt 64 n &&& BitVec.ofInt 64 (p2 w - 1)).toNat = (n % p2 w).toNat := by
    rw [BitVec.toNat_and, toNat_mod64, toNat_mod64]
    have e1 : ((p2 w - 1) % 18446744073709551616).toNat = 2 ^ w.toNat - 1 := by
      rw [Int.emod_eq_of_lt (by omega) (by omega)]; omega
    rw [e1, Nat.and_two_pow_sub_one_eq_mod]
    have hq : (n % 18446744073709551616) % p2 w = n % p2 w := by
      refine Int.emod_emod_of_dvd n ?_
      rw [hp]
      have : (2 : Nat) ^ w.toNat ∣ 2 ^ 64 := Nat.pow_dvd_pow 2 (by omega)
      have e64 : (18446744073709551616 : Int) = ((2 ^ 64 : Nat) : Int) := by decide +kernel
      rw [e64]
      exact Int.natCast_dvd_natCast.2 this
    rw [← hq]
    have h5 : 0 ≤ n % 18446744073709551616 := Int.emod_nonneg n (by omega)
    rw [hp]
    generalize n % 18446744073709551616 = x at h5
    obtain ⟨y, rfl⟩ : ∃ y : Nat, x = y := ⟨x.toNat, by omega⟩
    rfl
  show IntKind.wrap .i64 (((BitVec.ofInt (IntKind.bits .i64) n &&& BitVec.ofInt (IntKind.bits .i64) (p2 w - 1)).toNat : Nat) : Int) = _
  rw [show (BitVec.ofInt (IntKind.bits .i64) n &&& BitVec.ofInt (IntKind.bits .i64) (p2 w - 1)).toNat = _ from e]
  have h6 := Int.emod_nonneg n (show p2 w ≠ 0 by omega)
  have h7 := Int.emod_lt_of_pos n h1
  rw [Int.toNat_of_nonneg h6]
  exact w64_id (x := n % p2 w) (by omega) (by omega)
theorem sat_small {w b n : Int} (hw : 1 ≤ w) (h16 : w ≤ 16) (h1 : -1125899906842624 ≤ n) (h2 : n ≤ 1125899906842625) : -1125899906842624 ≤ sat w b n ∧ sat w b n ≤ 1125899906842625 := by
  have := p2_15 (n := w - 1) (by omega)
  have := p2_pos (w - 1)
  unfold sat; split <;> omega
theorem fixed_eq (N : Nat) {w p r b : Int} (hf : VF w p r b) (n d : Int) (hd : 0 < d) (hd2 : d ≤ 4294967296) (h1 : -1125899906842624 ≤ n) (h2 : n ≤ 1125899906842624) (k : Int → Option R) :
    arith_form_fixed N w p r b n d k = k (fx w r b n d) := by
  obtain ⟨w2, w16, p0, pw, r0, r2, b0, b1⟩ := hf
  have q1 := p2_half (w := w) (by omega)
  have q2 := p2_16 w16
  have q3 := p2_pos (w - 1)
  unfold arith_form_fixed
  rw [rounded_eq N w p r b n d ⟨r0, r2⟩ hd hd2 h1 h2]
  have e : w64 (Int.tdiv (p2 w) 2) = p2 (w - 1) := by
    rw [Int.tdiv_eq_ediv_of_nonneg (by omega), w64_id (by omega) (by omega)]; omega
  simp only [size_eq N p r b (show 0 ≤ w by omega) w16, e, w64_id (x := p2 w - 1) (by omega) (by omega), w64_id (x := -p2 (w - 1)) (by omega) (by omega), w64_id (x := p2 (w - 1) - 1) (by omega) (by omega), and_mask _ w (by omega) w16, Int.zero_sub]
  unfold fx sat
  by_cases c : b = 1
  · rw [cond_pos c, if_pos c]
  · rw [cond_neg c, if_neg c]

/-! ### Values of a form -/
theorem c1_eq (N : Nat) (x w p r b : Int) (h0 : 0 ≤ w) (h : w ≤ 16) (k : Bool → Int → Int → Int → Int → Option R) : arith_each_int__c1 N x w p r b k = k (!vok w x) w p r b := by
  have := p2_pos w; have := p2_16 h
  unfold arith_each_int__c1 arith_form_valuesErr_c1 vok
  rw [size_eq N p r b h0 h, w64_id (by omega) (by omega), within_eq]
theorem any_loop (N : Nat) (k0 : Int → Int → Int → Int → Int → Option R) (k1 : Int → Int → Int → Int → Option R) (g : Option R) (w p r b : Int) (h0 : 0 ≤ w) (h16 : w ≤ 16) (hk : ∀ i : Nat, k0 i w p r b = g) (l : List Int) (hl : l.length ≤ 1000000) : ∀ (n i : Nat), l.length < n + i → i ≤ l.length →
    slices_IndexFunc_Lint_int_l0 N k0 k1 n l l.length i w p r b = if (l.drop i).all (vok w) then k1 w p r b else g := by
  intro n
  induction n with
  | zero => intro i h1 h2; omega
  | succ n ih =>
    intro i h1 h2
    rw [slices_IndexFunc_Lint_int_l0]
    by_cases h : i < l.length
    · rw [cond_pos (by omega), at?_lt h, some_bind', c1_eq N _ w p r b h0 h16, drop_cons h, List.all_cons]
      cases e : vok w l[i]
      · rw [Bool.not_false, cond_true, hk]; simp
      · rw [Bool.not_true, cond_false, w64_succ (by omega), Bool.true_and]
        exact ih (i + 1) (by omega) (by omega)
    · rw [cond_neg (by omega)]
      have : i = l.length := by omega
      subst this
      simp
theorem valuesErr_eq (N : Nat) (w p r b : Int) (h0 : 0 ≤ w) (h16 : w ≤ 16) (l : List Int) (hl : l.length ≤ 1000000) (hN : l.length < N) (k : Int → Option R) :
    arith_form_valuesErr N w p r b l k = k (if l.all (vok w) then 0 else 2) := by
  unfold arith_form_valuesErr arith_each_int slices_ContainsFunc_Lint_int slices_IndexFunc_Lint_int
  have := any_loop N (fun z7 z8 z9 z10 z11 => arith_unless N (!decide (0 ≤ z7)) 2 fun y2 => k y2) (fun z12 z13 z14 z15 => arith_unless N (!decide (0 ≤ (-1 : Int))) 2 fun y2 => k y2) (k 2) w p r b h0 h16 (fun i => by rw [unless_eq]; simp) l hl N 0 (by omega) (by omega)
  rw [Int.natCast_zero] at this
  rw [this, List.drop_zero, unless_eq]
  cases l.all (vok w) <;> simp
theorem opened_eq (N : Nat) (hN : 10 ≤ N) (w p r b : Int) (l : List Int) (hl : l.length ≤ 5) (k : Int → Int → Int → Int → Int → Option R) :
    arith_opened N w p r b l k = k w p r b (if ferr w p r b = 0 then (if l.all (vok w) then 0 else 2) else ferr w p r b) := by
  unfold arith_opened
  rw [checkForm_eq N (by omega)]
  by_cases c : ferr w p r b = 0
  · have hf := ferr_ok c
    rw [cond_neg (by simp [c]), if_pos c, valuesErr_eq N w p r b (by have := hf.w2; omega) hf.w16 l (by omega) (by omega)]
  · rw [cond_pos c, if_neg c]

theorem vok_range {w n : Int} (h : w ≤ 16) (hv : vok w n = true) : 0 ≤ n ∧ n ≤ 65536 := by
  have := of_decide_eq_true hv
  have := p2_16 h
  omega
theorem sg_small {w n : Int} (hw : 1 ≤ w) (h : w ≤ 16) (hv : vok w n = true) : -32768 ≤ sg w n ∧ sg w n ≤ 32767 := by
  have := sg_range hw hv
  have := p2_15 (n := w - 1) (by omega)
  omega
theorem mul_small {a b A B : Int} (h1 : -A ≤ a) (h2 : a ≤ A) (h3 : -B ≤ b) (h4 : b ≤ B) (hA : 0 ≤ A) (hB : 0 ≤ B) : -(A * B) ≤ a * b ∧ a * b ≤ A * B := by
  rcases Int.le_total 0 a with ha | ha <;> rcases Int.le_total 0 b with hb | hb
  · have := Int.mul_le_mul h2 h4 hb hA
    have := Int.mul_nonneg ha hb
    have := Int.mul_nonneg hA hB
    omega
  · have e := Int.mul_le_mul h2 (show -b ≤ B by omega) (by omega) hA
    rw [Int.mul_neg] at e
    have f := Int.mul_nonneg ha (show 0 ≤ -b by omega)
    rw [Int.mul_neg] at f
    have := Int.mul_nonneg hA hB
    omega
  · have e := Int.mul_le_mul (show -a ≤ A by omega) h4 hb hA
    rw [Int.neg_mul] at e
    have f := Int.mul_nonneg (show 0 ≤ -a by omega) hb
    rw [Int.neg_mul] at f
    have := Int.mul_nonneg hA hB
    omega
  · have e := Int.mul_le_mul (show -a ≤ A by omega) (show -b ≤ B by omega) (by omega) hA
    rw [Int.neg_mul_neg] at e
    have f := Int.mul_nonneg (show 0 ≤ -a by omega) (show 0 ≤ -b by omega)
    rw [Int.neg_mul_neg] at f
    have := Int.mul_nonneg hA hB
    omega
theorem p2_sq {p : Int} (h : 0 ≤ p) : p2 (2 * p) = p2 p * p2 p := by
  rw [← p2_add h h]; congr 1; omega
theorem zz (a b c d : Int) : (false != (decide (a = b) && (decide (c = d) && true))) = decide (a = b ∧ c = d) := by
  by_cases h : a = b <;> by_cases h' : c = d <;> simp [h, h']

/-! ### Numbers of 64 bits without a sign -/
theorem wu (x : Int) : IntKind.wrap .u64 x = x % 18446744073709551616 := by
  show (if (false && decide (x % 2 ^ 64 ≥ 2 ^ (64 - 1))) = true then x % 2 ^ 64 - 2 ^ 64 else x % 2 ^ 64) = _
  simp
theorem wuN (n : Nat) : IntKind.wrap .u64 (n : Int) = ((n % 18446744073709551616 : Nat) : Int) := by rw [wu]; omega
theorem wu_id {x : Int} (h0 : 0 ≤ x) (h : x < 18446744073709551616) : IntKind.wrap .u64 x = x := by rw [wu]; exact Int.emod_eq_of_lt h0 h
theorem shrN (a n : Nat) (h : n ≤ 64) : shr' .u64 (a : Int) (n : Int) = ((a / 2 ^ n : Nat) : Int) := by
  unfold shr'
  have e : min (n : Int).toNat (IntKind.bits .u64) = n := by
    have : IntKind.bits .u64 = 64 := rfl
    omega
  rw [e, Int.fdiv_eq_ediv_of_nonneg _ (by exact_mod_cast Nat.zero_le _)]
  norm_cast
theorem shlN (a n : Nat) (h : n ≤ 64) : shl' .u64 (a : Int) (n : Int) = ((a * 2 ^ n % 18446744073709551616 : Nat) : Int) := by
  unfold shl'
  have e : min (n : Int).toNat (IntKind.bits .u64) = n := by
    have : IntKind.bits .u64 = 64 := rfl
    omega
  rw [e, ← wuN]
  congr 1
theorem ofInt_nat (a : Nat) : BitVec.ofInt (IntKind.bits .u64) (a : Int) = BitVec.ofNat 64 a := by
  show BitVec.ofInt 64 (a : Int) = _
  exact BitVec.ofInt_natCast 64 a
theorem andN {a b : Nat} (ha : a < 18446744073709551616) (hb : b < 18446744073709551616) : andI .u64 (a : Int) (b : Int) = ((a &&& b : Nat) : Int) := by
  unfold andI
  rw [ofInt_nat, ofInt_nat]
  have : (BitVec.ofNat 64 a &&& BitVec.ofNat 64 b).toNat = a &&& b := by
    rw [BitVec.toNat_and, BitVec.toNat_ofNat, BitVec.toNat_ofNat, Nat.mod_eq_of_lt ha, Nat.mod_eq_of_lt hb]
  show IntKind.wrap .u64 ((BitVec.ofNat 64 a &&& BitVec.ofNat 64 b).toNat : Int) = _
  rw [this, wuN, Nat.mod_eq_of_lt (Nat.lt_of_le_of_lt Nat.and_le_left ha)]
theorem and32 {a : Nat} (ha : a < 18446744073709551616) : andI .u64 (a : Int) 4294967295 = ((a % 4294967296 : Nat) : Int) := by
  have := andN ha (b := 4294967295) (by omega)
  rw [show ((4294967295 : Nat) : Int) = 4294967295 from rfl] at this
  rw [this, show (4294967295 : Nat) = 2 ^ 32 - 1 from rfl, Nat.and_two_pow_sub_one_eq_mod]
theorem orN {a b s : Nat} (hs : b < 2 ^ s) (hab : a * 2 ^ s + b < 18446744073709551616) : orI .u64 ((a * 2 ^ s : Nat) : Int) (b : Int) = ((a * 2 ^ s + b : Nat) : Int) := by
  unfold orI
  rw [ofInt_nat, ofInt_nat]
  have h1 : a * 2 ^ s < 18446744073709551616 := by omega
  have h2 : b < 18446744073709551616 := by omega
  have e : (BitVec.ofNat 64 (a * 2 ^ s) ||| BitVec.ofNat 64 b).toNat = a * 2 ^ s + b := by
    rw [BitVec.toNat_or, BitVec.toNat_ofNat, BitVec.toNat_ofNat, Nat.mod_eq_of_lt h1, Nat.mod_eq_of_lt h2]
    have := Nat.shiftLeft_add_eq_or_of_lt hs a
    rw [Nat.shiftLeft_eq] at this
    exact this.symm
  show IntKind.wrap .u64 ((BitVec.ofNat 64 (a * 2 ^ s) ||| BitVec.ofNat 64 b).toNat : Int) = _
  rw [e, wuN, Nat.mod_eq_of_lt hab]
theorem notN {a : Nat} (ha : a < 18446744073709551616) : notI .u64 (a : Int) = ((18446744073709551615 - a : Nat) : Int) := by
  unfold notI
  rw [ofInt_nat]
  have e0 : BitVec.ofInt (IntKind.bits .u64) (if (IntKind.u64).signed = true then -1 else (IntKind.u64).max) = BitVec.allOnes 64 := by
    show BitVec.ofInt 64 18446744073709551615 = BitVec.allOnes 64
    decide
  rw [e0]
  have : (BitVec.allOnes 64 ^^^ BitVec.ofNat 64 a).toNat = 18446744073709551615 - a := by
    rw [BitVec.allOnes_xor, BitVec.toNat_not, BitVec.toNat_ofNat, Nat.mod_eq_of_lt ha]
  show IntKind.wrap .u64 ((BitVec.allOnes 64 ^^^ BitVec.ofNat 64 a).toNat : Int) = _
  rw [this, wuN, Nat.mod_eq_of_lt (by omega)]

/-! ### math/bits.Div64 -/
/-- One digit of a quotient: its first guess is not too small; each round makes it one less. -/
theorem digit_loop0 (N : Nat) (k0 : Int → Int → Int → Int → Int → Int → Int → Int → Option R) {v y1 y0 u w Q : Nat} (z1 z6 : Int) (hv : v = y1 * 4294967296 + y0) (hy0 : y0 < 4294967296) (hy1 : y1 < 4294967296) (hy1' : 2147483648 ≤ y1) (hu : u < v) (hw : w < 4294967296) (hQ : Q = (u * 4294967296 + w) / v) :
    ∀ (n q r : Nat), q * y1 + r = u → Q ≤ q → r < 4294967296 → q - Q < n → q ≤ 4294967297 →
    bits_Div64_l0 N k0 n (v : Int) z1 (y1 : Int) (y0 : Int) (u : Int) (w : Int) z6 (q : Int) (r : Int) = k0 (v : Int) z1 (y1 : Int) (y0 : Int) (u : Int) (w : Int) z6 (Q : Int) := by
  have hvp : 0 < v := by omega
  have hQlt : Q < 4294967296 := by
    rw [hQ]; refine (Nat.div_lt_iff_lt_mul hvp).2 ?_
    have : (u + 1) * 4294967296 ≤ v * 4294967296 := Nat.mul_le_mul_right _ hu
    rw [Nat.mul_comm 4294967296]; omega
  have hdiv := Nat.div_add_mod (u * 4294967296 + w) v
  have hmod := Nat.mod_lt (u * 4294967296 + w) hvp
  rw [← hQ] at hdiv
  generalize (u * 4294967296 + w) % v = rem at hdiv hmod
  -- q * v against the dividend
  have cross : ∀ q r : Nat, q * y1 + r = u → q * v + r * 4294967296 = u * 4294967296 + q * y0 := by
    intro q r h
    rw [hv, ← h, Nat.mul_add, Nat.add_mul, ← Nat.mul_assoc]; omega
  have small : ∀ q : Nat, q * v ≤ u * 4294967296 + w → q ≤ Q := by
    intro q h; rw [hQ]; exact (Nat.le_div_iff_mul_le hvp).2 h
  have big : ∀ q : Nat, u * 4294967296 + w < q * v → Q < q := by
    intro q h; rw [hQ]; exact (Nat.div_lt_iff_lt_mul hvp).2 (by omega)
  intro n
  induction n with
  | zero => intro q r h1 h2 h3 h4; omega
  | succ n ih =>
    intro q r h1 h2 h3 h4 h5
    rw [bits_Div64_l0]
    have hqy : q * y0 ≤ 4294967297 * 4294967295 := Nat.mul_le_mul h5 (by omega)
    have c := cross q r h1
    -- a round
    have round : Q < q → (bif decide ((4294967296 : Int) ≤ IntKind.wrap .u64 ((r : Int) + (y1 : Int))) then k0 (v : Int) z1 (y1 : Int) (y0 : Int) (u : Int) (w : Int) z6 (IntKind.wrap .u64 ((q : Int) - 1)) else bits_Div64_l0 N k0 n (v : Int) z1 (y1 : Int) (y0 : Int) (u : Int) (w : Int) z6 (IntKind.wrap .u64 ((q : Int) - 1)) (IntKind.wrap .u64 ((r : Int) + (y1 : Int)))) = k0 (v : Int) z1 (y1 : Int) (y0 : Int) (u : Int) (w : Int) z6 (Q : Int) := by
      intro hlt
      have e1 : IntKind.wrap .u64 ((q : Int) - 1) = ((q - 1 : Nat) : Int) := by rw [wu_id (by omega) (by omega)]; omega
      have e2 : IntKind.wrap .u64 ((r : Int) + (y1 : Int)) = ((r + y1 : Nat) : Int) := by rw [wu_id (by omega) (by omega)]; omega
      rw [e1, e2]
      have h1' : (q - 1) * y1 + (r + y1) = u := by
        have : (q - 1) * y1 + y1 = q * y1 := by
          rw [← Nat.succ_mul]; congr 1; omega
        omega
      by_cases hb : 4294967296 ≤ r + y1
      · rw [cond_pos (by omega)]
        have c' := cross (q - 1) (r + y1) h1'
        have hq1 : q - 1 < 4294967296 := by
          refine Nat.lt_of_not_le fun hge => ?_
          have : 4294967296 * y1 ≤ (q - 1) * y1 := Nat.mul_le_mul_right _ hge
          omega
        have : (q - 1) * y0 ≤ 4294967295 * 4294967295 := Nat.mul_le_mul (by omega) (by omega)
        have : q - 1 ≤ Q := small _ (by omega)
        rw [show q - 1 = Q by omega]
      · rw [cond_neg (by omega)]
        exact ih (q - 1) (r + y1) h1' (by omega) (by omega) (by omega) (by omega)
    by_cases hq : 4294967296 ≤ q
    · rw [cond_pos (by omega)]
      exact round (by omega)
    · rw [cond_neg (by omega)]
      have hqy' : q * y0 ≤ 4294967295 * 4294967295 := Nat.mul_le_mul (by omega) (by omega)
      have e3 : IntKind.wrap .u64 (IntKind.wrap .u64 (4294967296 * (r : Int)) + (w : Int)) = ((4294967296 * r + w : Nat) : Int) := by
        rw [wu_id (x := 4294967296 * (r : Int)) (by omega) (by omega), wu_id (by omega) (by omega)]; omega
      have e4 : IntKind.wrap .u64 ((q : Int) * (y0 : Int)) = ((q * y0 : Nat) : Int) := by
        rw [show (q : Int) * (y0 : Int) = ((q * y0 : Nat) : Int) by simp, wu_id (by omega) (by omega)]
      rw [e3, e4]
      by_cases ht : 4294967296 * r + w < q * y0
      · rw [cond_pos (by omega)]
        exact round (big q (by omega))
      · rw [cond_neg (by omega)]
        have : q ≤ Q := small q (by omega)
        rw [show q = Q by omega]
/-- One digit of a quotient: its first guess is not too small; each round makes it one less. -/
theorem digit_loop1 (N : Nat) (k0 : Int → Int → Int → Int → Int → Int → Option R) {v y1 y0 u w Q : Nat} (z1 z5 z6 : Int) (hv : v = y1 * 4294967296 + y0) (hy0 : y0 < 4294967296) (hy1 : y1 < 4294967296) (hy1' : 2147483648 ≤ y1) (hu : u < v) (hw : w < 4294967296) (hQ : Q = (u * 4294967296 + w) / v) :
    ∀ (n q r : Nat), q * y1 + r = u → Q ≤ q → r < 4294967296 → q - Q < n → q ≤ 4294967297 →
    bits_Div64_l1 N k0 n (v : Int) z1 (y1 : Int) (y0 : Int) (w : Int) z5 (r : Int) z6 (q : Int) = k0 (v : Int) z1 (w : Int) z5 z6 (Q : Int) := by
  have hvp : 0 < v := by omega
  have hQlt : Q < 4294967296 := by
    rw [hQ]; refine (Nat.div_lt_iff_lt_mul hvp).2 ?_
    have : (u + 1) * 4294967296 ≤ v * 4294967296 := Nat.mul_le_mul_right _ hu
    rw [Nat.mul_comm 4294967296]; omega
  have hdiv := Nat.div_add_mod (u * 4294967296 + w) v
  have hmod := Nat.mod_lt (u * 4294967296 + w) hvp
  rw [← hQ] at hdiv
  generalize (u * 4294967296 + w) % v = rem at hdiv hmod
  -- q * v against the dividend
  have cross : ∀ q r : Nat, q * y1 + r = u → q * v + r * 4294967296 = u * 4294967296 + q * y0 := by
    intro q r h
    rw [hv, ← h, Nat.mul_add, Nat.add_mul, ← Nat.mul_assoc]; omega
  have small : ∀ q : Nat, q * v ≤ u * 4294967296 + w → q ≤ Q := by
    intro q h; rw [hQ]; exact (Nat.le_div_iff_mul_le hvp).2 h
  have big : ∀ q : Nat, u * 4294967296 + w < q * v → Q < q := by
    intro q h; rw [hQ]; exact (Nat.div_lt_iff_lt_mul hvp).2 (by omega)
  intro n
  induction n with
  | zero => intro q r h1 h2 h3 h4; omega
  | succ n ih =>
    intro q r h1 h2 h3 h4 h5
    rw [bits_Div64_l1]
    have hqy : q * y0 ≤ 4294967297 * 4294967295 := Nat.mul_le_mul h5 (by omega)
    have c := cross q r h1
    -- a round
    have round : Q < q → (bif decide ((4294967296 : Int) ≤ IntKind.wrap .u64 ((r : Int) + (y1 : Int))) then k0 (v : Int) z1 (w : Int) z5 z6 (IntKind.wrap .u64 ((q : Int) - 1)) else bits_Div64_l1 N k0 n (v : Int) z1 (y1 : Int) (y0 : Int) (w : Int) z5 (IntKind.wrap .u64 ((r : Int) + (y1 : Int))) z6 (IntKind.wrap .u64 ((q : Int) - 1))) = k0 (v : Int) z1 (w : Int) z5 z6 (Q : Int) := by
      intro hlt
      have e1 : IntKind.wrap .u64 ((q : Int) - 1) = ((q - 1 : Nat) : Int) := by rw [wu_id (by omega) (by omega)]; omega
      have e2 : IntKind.wrap .u64 ((r : Int) + (y1 : Int)) = ((r + y1 : Nat) : Int) := by rw [wu_id (by omega) (by omega)]; omega
      rw [e1, e2]
      have h1' : (q - 1) * y1 + (r + y1) = u := by
        have : (q - 1) * y1 + y1 = q * y1 := by
          rw [← Nat.succ_mul]; congr 1; omega
        omega
      by_cases hb : 4294967296 ≤ r + y1
      · rw [cond_pos (by omega)]
        have c' := cross (q - 1) (r + y1) h1'
        have hq1 : q - 1 < 4294967296 := by
          refine Nat.lt_of_not_le fun hge => ?_
          have : 4294967296 * y1 ≤ (q - 1) * y1 := Nat.mul_le_mul_right _ hge
          omega
        have : (q - 1) * y0 ≤ 4294967295 * 4294967295 := Nat.mul_le_mul (by omega) (by omega)
        have : q - 1 ≤ Q := small _ (by omega)
        rw [show q - 1 = Q by omega]
      · rw [cond_neg (by omega)]
        exact ih (q - 1) (r + y1) h1' (by omega) (by omega) (by omega) (by omega)
    by_cases hq : 4294967296 ≤ q
    · rw [cond_pos (by omega)]
      exact round (by omega)
    · rw [cond_neg (by omega)]
      have hqy' : q * y0 ≤ 4294967295 * 4294967295 := Nat.mul_le_mul (by omega) (by omega)
      have e3 : IntKind.wrap .u64 (IntKind.wrap .u64 (4294967296 * (r : Int)) + (w : Int)) = ((4294967296 * r + w : Nat) : Int) := by
        rw [wu_id (x := 4294967296 * (r : Int)) (by omega) (by omega), wu_id (by omega) (by omega)]; omega
      have e4 : IntKind.wrap .u64 ((q : Int) * (y0 : Int)) = ((q * y0 : Nat) : Int) := by
        rw [show (q : Int) * (y0 : Int) = ((q * y0 : Nat) : Int) by simp, wu_id (by omega) (by omega)]
      rw [e3, e4]
      by_cases ht : 4294967296 * r + w < q * y0
      · rw [cond_pos (by omega)]
        exact round (big q (by omega))
      · rw [cond_neg (by omega)]
        have : q ≤ Q := small q (by omega)
        rw [show q = Q by omega]

def L8 (n : Nat) : Nat := if n = 0 then 0 else Nat.log2 n + 1
theorem len8F : ∀ n : Fin 256, byte? (ByteArray.mk #[0, 1, 2, 2, 3, 3, 3, 3, 4, 4, 4, 4, 4, 4, 4, 4, 5, 5, 5, 5, 5, 5, 5, 5, 5, 5, 5, 5, 5, 5, 5, 5, 6, 6, 6, 6, 6, 6, 6, 6, 6, 6, 6, 6, 6, 6, 6, 6, 6, 6, 6, 6, 6, 6, 6, 6, 6, 6, 6, 6, 6, 6, 6, 6, 7, 7, 7, 7, 7, 7, 7, 7, 7, 7, 7, 7, 7, 7, 7, 7, 7, 7, 7, 7, 7, 7, 7, 7, 7, 7, 7, 7, 7, 7, 7, 7, 7, 7, 7, 7, 7, 7, 7, 7, 7, 7, 7, 7, 7, 7, 7, 7, 7, 7, 7, 7, 7, 7, 7, 7, 7, 7, 7, 7, 7, 7, 7, 7, 8, 8, 8, 8, 8, 8, 8, 8, 8, 8, 8, 8, 8, 8, 8, 8, 8, 8, 8, 8, 8, 8, 8, 8, 8, 8, 8, 8, 8, 8, 8, 8, 8, 8, 8, 8, 8, 8, 8, 8, 8, 8, 8, 8, 8, 8, 8, 8, 8, 8, 8, 8, 8, 8, 8, 8, 8, 8, 8, 8, 8, 8, 8, 8, 8, 8, 8, 8, 8, 8, 8, 8, 8, 8, 8, 8, 8, 8, 8, 8, 8, 8, 8, 8, 8, 8, 8, 8, 8, 8, 8, 8, 8, 8, 8, 8, 8, 8, 8, 8, 8, 8, 8, 8, 8, 8, 8, 8, 8, 8, 8, 8, 8, 8, 8, 8, 8, 8, 8, 8, 8, 8, 8, 8, 8, 8, 8, 8]) (n.val : Int) = some ((L8 n.val : Nat) : Int) := by decide +kernel
theorem len8 {n : Nat} (h : n < 256) : byte? (ByteArray.mk #[0, 1, 2, 2, 3, 3, 3, 3, 4, 4, 4, 4, 4, 4, 4, 4, 5, 5, 5, 5, 5, 5, 5, 5, 5, 5, 5, 5, 5, 5, 5, 5, 6, 6, 6, 6, 6, 6, 6, 6, 6, 6, 6, 6, 6, 6, 6, 6, 6, 6, 6, 6, 6, 6, 6, 6, 6, 6, 6, 6, 6, 6, 6, 6, 7, 7, 7, 7, 7, 7, 7, 7, 7, 7, 7, 7, 7, 7, 7, 7, 7, 7, 7, 7, 7, 7, 7, 7, 7, 7, 7, 7, 7, 7, 7, 7, 7, 7, 7, 7, 7, 7, 7, 7, 7, 7, 7, 7, 7, 7, 7, 7, 7, 7, 7, 7, 7, 7, 7, 7, 7, 7, 7, 7, 7, 7, 7, 7, 8, 8, 8, 8, 8, 8, 8, 8, 8, 8, 8, 8, 8, 8, 8, 8, 8, 8, 8, 8, 8, 8, 8, 8, 8, 8, 8, 8, 8, 8, 8, 8, 8, 8, 8, 8, 8, 8, 8, 8, 8, 8, 8, 8, 8, 8, 8, 8, 8, 8, 8, 8, 8, 8, 8, 8, 8, 8, 8, 8, 8, 8, 8, 8, 8, 8, 8, 8, 8, 8, 8, 8, 8, 8, 8, 8, 8, 8, 8, 8, 8, 8, 8, 8, 8, 8, 8, 8, 8, 8, 8, 8, 8, 8, 8, 8, 8, 8, 8, 8, 8, 8, 8, 8, 8, 8, 8, 8, 8, 8, 8, 8, 8, 8, 8, 8, 8, 8, 8, 8, 8, 8, 8, 8, 8, 8, 8, 8]) (n : Int) = some ((L8 n : Nat) : Int) := len8F ⟨n, h⟩
theorem wu8 {n : Nat} (h : n < 256) : IntKind.wrap .u8 (n : Int) = (n : Int) := by
  have : IntKind.wrap .u8 (n : Int) = (n : Int) % 256 := by
    show (if (false && decide ((n : Int) % 2 ^ 8 ≥ 2 ^ (8 - 1))) = true then (n : Int) % 2 ^ 8 - 2 ^ 8 else (n : Int) % 2 ^ 8) = _
    simp
  rw [this]; omega
theorem L8_spec {m : Nat} (h : 0 < m) : 1 ≤ L8 m ∧ 2 ^ (L8 m - 1) ≤ m ∧ m < 2 ^ L8 m := by
  unfold L8
  rw [if_neg (by omega)]
  exact ⟨by omega, by simpa using Nat.log2_self_le (by omega), Nat.lt_log2_self⟩
theorem L8_le {m : Nat} (h : m < 256) : L8 m ≤ 8 := by
  by_cases h0 : m = 0
  · subst h0; decide
  · have := L8_spec (m := m) (by omega)
    refine Nat.le_of_not_lt fun hgt => ?_
    have : 2 ^ 8 ≤ 2 ^ (L8 m - 1) := Nat.pow_le_pow_right (by omega) (by omega)
    omega
theorem len_at {a j m : Nat} (hm : m = a / 2 ^ j) (h0 : 0 < m) : 2 ^ (j + L8 m - 1) ≤ a ∧ a < 2 ^ (j + L8 m) := by
  obtain ⟨h1, h2, h3⟩ := L8_spec h0
  have hp : 0 < 2 ^ j := Nat.pow_pos (by omega)
  constructor
  · rw [show j + L8 m - 1 = j + (L8 m - 1) by omega, Nat.pow_add]
    calc 2 ^ j * 2 ^ (L8 m - 1) ≤ 2 ^ j * m := Nat.mul_le_mul_left _ h2
      _ ≤ a := by rw [hm]; exact Nat.mul_div_le a _
  · rw [Nat.pow_add]
    have : a / 2 ^ j < 2 ^ L8 m := by rw [← hm]; exact h3
    rw [Nat.mul_comm]
    exact (Nat.div_lt_iff_lt_mul hp).1 this
theorem len_eq (N : Nat) {a : Nat} (h0 : 0 < a) (h : a < 18446744073709551616) : ∃ l : Nat, 1 ≤ l ∧ l ≤ 64 ∧ 2 ^ (l - 1) ≤ a ∧ a < 2 ^ l ∧ ∀ k : Int → Option R, bits_Len64 N (a : Int) k = k (l : Int) := by
  have fin : ∀ j m : Nat, m = a / 2 ^ j → 0 < m → m < 256 → j ≤ 56 → (∀ k : Int → Option R, bits_Len64 N (a : Int) k = k ((j + L8 m : Nat) : Int)) → ∃ l : Nat, 1 ≤ l ∧ l ≤ 64 ∧ 2 ^ (l - 1) ≤ a ∧ a < 2 ^ l ∧ ∀ k : Int → Option R, bits_Len64 N (a : Int) k = k (l : Int) := by
    intro j m hm hp hlt hj hk
    have := len_at hm hp
    have h1 := L8_spec hp
    have h2 := L8_le hlt
    exact ⟨j + L8 m, by omega, by omega, this.1, this.2, hk⟩
  have w1 : ∀ j m : Nat, m < 256 → j ≤ 56 → w64 ((j : Int) + w64 ((L8 m : Nat) : Int)) = ((j + L8 m : Nat) : Int) := by
    intro j m hm hj
    have := L8_le hm
    rw [w64_id (x := ((L8 m : Nat) : Int)) (by omega) (by omega), w64_id (by omega) (by omega)]; omega
  have s32 : shr' .u64 (a : Int) 32 = ((a / 2 ^ 32 : Nat) : Int) := shrN a 32 (by omega)
  have s16 : ∀ b : Nat, shr' .u64 (b : Int) 16 = ((b / 2 ^ 16 : Nat) : Int) := fun b => shrN b 16 (by omega)
  have s8 : ∀ b : Nat, shr' .u64 (b : Int) 8 = ((b / 2 ^ 8 : Nat) : Int) := fun b => shrN b 8 (by omega)
  have dd : ∀ i j : Nat, a / 2 ^ i / 2 ^ j = a / 2 ^ (i + j) := fun i j => by rw [Nat.div_div_eq_div_mul, ← Nat.pow_add]
  by_cases c1 : 4294967296 ≤ a
  · have b1 : 1 ≤ a / 2 ^ 32 := by omega
    by_cases c2 : 65536 ≤ a / 2 ^ 32
    · by_cases c3 : 256 ≤ a / 2 ^ 48
      · refine fin 56 (a / 2 ^ 56) rfl (by omega) (by omega) (by omega) fun k => ?_
        unfold bits_Len64
        rw [cond_pos (by omega), s32, s16, s8, dd, dd, cond_pos (by omega), cond_pos (by omega), wu8 (by omega), len8 (by omega), some_bind']
        exact congrArg k (w1 56 (a / 2 ^ 56) (by omega) (by omega))
      · refine fin 48 (a / 2 ^ 48) rfl (by omega) (by omega) (by omega) fun k => ?_
        unfold bits_Len64
        rw [cond_pos (by omega), s32, s16, dd, cond_pos (by omega), cond_neg (by omega), wu8 (by omega), len8 (by omega), some_bind']
        exact congrArg k (w1 48 (a / 2 ^ 48) (by omega) (by omega))
    · by_cases c3 : 256 ≤ a / 2 ^ 32
      · refine fin 40 (a / 2 ^ 40) rfl (by omega) (by omega) (by omega) fun k => ?_
        unfold bits_Len64
        rw [cond_pos (by omega), s32, s8, dd, cond_neg (by omega), cond_pos (by omega), wu8 (by omega), len8 (by omega), some_bind']
        exact congrArg k (w1 40 (a / 2 ^ 40) (by omega) (by omega))
      · refine fin 32 (a / 2 ^ 32) rfl (by omega) (by omega) (by omega) fun k => ?_
        unfold bits_Len64
        rw [cond_pos (by omega), s32, cond_neg (by omega), cond_neg (by omega), wu8 (by omega), len8 (by omega), some_bind']
        exact congrArg k (w1 32 (a / 2 ^ 32) (by omega) (by omega))
  · by_cases c2 : 65536 ≤ a
    · by_cases c3 : 256 ≤ a / 2 ^ 16
      · refine fin 24 (a / 2 ^ 24) rfl (by omega) (by omega) (by omega) fun k => ?_
        unfold bits_Len64
        rw [cond_neg (by omega), cond_pos (by omega), s16, s8, dd, cond_pos (by omega), wu8 (by omega), len8 (by omega), some_bind']
        exact congrArg k (w1 24 (a / 2 ^ 24) (by omega) (by omega))
      · refine fin 16 (a / 2 ^ 16) rfl (by omega) (by omega) (by omega) fun k => ?_
        unfold bits_Len64
        rw [cond_neg (by omega), cond_pos (by omega), s16, cond_neg (by omega), wu8 (by omega), len8 (by omega), some_bind']
        exact congrArg k (w1 16 (a / 2 ^ 16) (by omega) (by omega))
    · by_cases c3 : 256 ≤ a
      · refine fin 8 (a / 2 ^ 8) rfl (by omega) (by omega) (by omega) fun k => ?_
        unfold bits_Len64
        rw [cond_neg (by omega), cond_neg (by omega), cond_pos (by omega), s8, wu8 (by omega), len8 (by omega), some_bind']
        exact congrArg k (w1 8 (a / 2 ^ 8) (by omega) (by omega))
      · refine fin 0 a (by simp) (by omega) (by omega) (by omega) fun k => ?_
        unfold bits_Len64
        have := w1 0 a (by omega) (by omega)
        rw [cond_neg (by omega), cond_neg (by omega), cond_neg (by omega), wu8 (by omega), len8 (by omega), some_bind']
        rw [show ((0 : Nat) : Int) = 0 from rfl] at this
        rw [this]

theorem guess {u w V : Nat} (hV : 9223372036854775808 ≤ V) (hV2 : V < 18446744073709551616) (hu : u < V) (hw : w < 4294967296) :
    (u * 4294967296 + w) / V ≤ u / (V / 4294967296) ∧ u / (V / 4294967296) ≤ (u * 4294967296 + w) / V + 2 ∧ u / (V / 4294967296) ≤ 4294967297 ∧ u % (V / 4294967296) < 4294967296 := by
  have hy1 : 2147483648 ≤ V / 4294967296 := by omega
  have hy1' : V / 4294967296 < 4294967296 := by omega
  have hV3 : V = V / 4294967296 * 4294967296 + V % 4294967296 := by omega
  have hy0 : V % 4294967296 < 4294967296 := by omega
  generalize V / 4294967296 = y1 at *
  generalize V % 4294967296 = y0 at *
  have hd := Nat.div_add_mod u y1
  have hm := Nat.mod_lt u (show 0 < y1 by omega)
  generalize hq : u / y1 = q at *
  generalize u % y1 = r at *
  have hq1 : q ≤ 4294967297 := by
    refine Nat.le_of_not_lt fun hgt => ?_
    have : y1 * 4294967298 ≤ y1 * q := Nat.mul_le_mul_left _ hgt
    omega
  have hVp : 0 < V := by omega
  have hqy : q * y0 ≤ 4294967297 * 4294967295 := Nat.mul_le_mul hq1 (by omega)
  refine ⟨?_, ?_, hq1, by omega⟩
  · have : (u * 4294967296 + w) / V < q + 1 := by
      refine (Nat.div_lt_iff_lt_mul hVp).2 ?_
      have e1 : (q + 1) * V = (y1 * q + y1) * 4294967296 + (q + 1) * y0 := by
        rw [hV3, Nat.mul_add, ← Nat.mul_assoc, Nat.add_mul q 1 y1, Nat.one_mul, Nat.mul_comm q y1]
      rw [e1]; omega
    omega
  · by_cases h2 : q < 2
    · exact Nat.le_trans (show q ≤ 2 by omega) (Nat.le_add_left 2 _)
    · have : q - 2 ≤ (u * 4294967296 + w) / V := by
        refine (Nat.le_div_iff_mul_le hVp).2 ?_
        have e0 : (q - 2) * V + 2 * V = q * V := by rw [← Nat.add_mul]; congr 1; omega
        have e1 : q * V = y1 * q * 4294967296 + q * y0 := by
          rw [hV3, Nat.mul_add, ← Nat.mul_assoc, Nat.mul_comm q y1]
        omega
      omega
theorem Div64_eq (N : Nat) (hN : 5 ≤ N) {hi lo v : Nat} (hv : v < 18446744073709551616) (hlo : lo < 18446744073709551616) (hlt : hi < v) (k : Int → Int → Option R) :
    bits_Div64 N (hi : Int) (lo : Int) (v : Int) k = k (((hi * 18446744073709551616 + lo) / v : Nat) : Int) (((hi * 18446744073709551616 + lo) % v : Nat) : Int) := by
  unfold bits_Div64
  rw [cond_neg (by omega), cond_neg (by omega)]
  by_cases h0 : hi = 0
  · subst h0
    rw [cond_pos (by omega), cond_neg (by omega), cond_neg (by omega), tdiv_nat, tmod_nat, wuN, Nat.zero_mul, Nat.zero_add, Nat.mod_eq_of_lt (Nat.lt_of_le_of_lt (Nat.div_le_self lo v) hlo)]
  · rw [cond_neg (by omega)]
    obtain ⟨l, l1, l2, l3, l4, l5⟩ := len_eq (R := R) N (a := v) (by omega) hv
    unfold bits_LeadingZeros64
    rw [l5]
    obtain ⟨s, hs⟩ : ∃ s : Nat, s = 64 - l := ⟨_, rfl⟩
    have hls : l = 64 - s := by omega
    have e0 : w64 (64 - (l : Int)) = (s : Int) := by rw [w64_id (by omega) (by omega)]; omega
    have e1 : IntKind.wrap .u64 (s : Int) = (s : Int) := wu_id (by omega) (by omega)
    have e2 : IntKind.wrap .u64 (64 - (s : Int)) = ((64 - s : Nat) : Int) := by rw [wu_id (by omega) (by omega)]; omega
    simp only [e0, e1, e2]
    have p64 : 2 ^ s * 2 ^ (64 - s) = 18446744073709551616 := by rw [← Nat.pow_add, show s + (64 - s) = 64 by omega]
    have ps : 0 < 2 ^ s := Nat.pow_pos (by omega)
    have ps' : 0 < 2 ^ (64 - s) := Nat.pow_pos (by omega)
    have hV2 : v * 2 ^ s < 18446744073709551616 := by
      rw [← p64, Nat.mul_comm]; refine Nat.mul_lt_mul_of_pos_left ?_ ps; rwa [← hls]
    have hV1 : 9223372036854775808 ≤ v * 2 ^ s := by
      have : 2 ^ (l - 1) * 2 ^ s = 9223372036854775808 := by rw [← Nat.pow_add, show l - 1 + s = 63 by omega]
      rw [← this]; exact Nat.mul_le_mul_right _ l3
    have hhi : hi * 2 ^ s < 18446744073709551616 := Nat.lt_of_le_of_lt (Nat.mul_le_mul_right _ (Nat.le_of_lt hlt)) hV2
    have sh1 : shl' .u64 (v : Int) (s : Int) = ((v * 2 ^ s : Nat) : Int) := by rw [shlN v s (by omega), Nat.mod_eq_of_lt hV2]
    have sh2 : shl' .u64 (hi : Int) (s : Int) = ((hi * 2 ^ s : Nat) : Int) := by rw [shlN hi s (by omega), Nat.mod_eq_of_lt hhi]
    have sh3 := shlN lo s (by omega)
    have sh4 := shrN lo (64 - s) (by omega)
    have hlo2 : lo / 2 ^ (64 - s) < 2 ^ s := (Nat.div_lt_iff_lt_mul ps').2 (by rw [p64]; exact hlo)
    have hU : hi * 2 ^ s + lo / 2 ^ (64 - s) < v * 2 ^ s := by
      have : (hi + 1) * 2 ^ s ≤ v * 2 ^ s := Nat.mul_le_mul_right _ hlt
      rw [Nat.add_mul, Nat.one_mul] at this; omega
    have hor := orN hlo2 (Nat.lt_trans hU hV2)
    rw [sh1, sh2, sh3, sh4, hor]
    have hlow : lo * 2 ^ s = lo / 2 ^ (64 - s) * 18446744073709551616 + lo * 2 ^ s % 18446744073709551616 := by
      have h1 := Nat.div_add_mod (lo * 2 ^ s) 18446744073709551616
      have h2 : lo * 2 ^ s / 18446744073709551616 = lo / 2 ^ (64 - s) := by
        rw [← p64, Nat.mul_comm (2 ^ s) (2 ^ (64 - s)), Nat.mul_div_mul_right _ _ ps]
      rw [h2] at h1; omega
    have hUV : (hi * 18446744073709551616 + lo) * 2 ^ s = (hi * 2 ^ s + lo / 2 ^ (64 - s)) * 18446744073709551616 + lo * 2 ^ s % 18446744073709551616 := by
      rw [Nat.add_mul, Nat.add_mul, Nat.mul_right_comm hi]; omega
    have hx := Nat.mod_lt (lo * 2 ^ s) (show 0 < 18446744073709551616 by omega)
    -- the quotient by what is shifted
    have hq1 : (hi * 18446744073709551616 + lo) / v = (hi * 18446744073709551616 + lo) * 2 ^ s / (v * 2 ^ s) := (Nat.mul_div_mul_right _ _ ps).symm
    have hr1 : (hi * 18446744073709551616 + lo) * 2 ^ s % (v * 2 ^ s) = (hi * 18446744073709551616 + lo) % v * 2 ^ s := Nat.mul_mod_mul_right _ _ _
    rw [hUV] at hq1 hr1
    have hrem : (hi * 18446744073709551616 + lo) % v = ((hi * 2 ^ s + lo / 2 ^ (64 - s)) * 18446744073709551616 + lo * 2 ^ s % 18446744073709551616) % (v * 2 ^ s) / 2 ^ s := by
      rw [hr1, Nat.mul_div_cancel _ ps]
    rw [hq1, hrem]
    clear hq1 hr1 hrem hUV hlow hor sh1 sh2 sh3 sh4 hlo2 hhi l5 l3 l4
    generalize v * 2 ^ s = V at *
    generalize hi * 2 ^ s + lo / 2 ^ (64 - s) = u at *
    generalize lo * 2 ^ s % 18446744073709551616 = x at *
    obtain ⟨Z, hZ⟩ : ∃ Z, Z = u * 18446744073709551616 + x := ⟨_, rfl⟩
    rw [← hZ]
    have a1 : shr' .u64 (V : Int) 32 = ((V / 4294967296 : Nat) : Int) := shrN V 32 (by omega)
    have a2 := and32 hV2
    have a3 : shr' .u64 (x : Int) 32 = ((x / 4294967296 : Nat) : Int) := shrN x 32 (by omega)
    have a4 := and32 hx
    rw [a1, a2, a3, a4, cond_neg (by omega), cond_neg (by omega), cond_neg (by omega), cond_neg (by omega), cond_neg (by omega), tdiv_nat]
    have hVy : V = V / 4294967296 * 4294967296 + V % 4294967296 := by omega
    have hy1 : 2147483648 ≤ V / 4294967296 := by omega
    have hy1' : V / 4294967296 < 4294967296 := by omega
    have hwx : x / 4294967296 < 4294967296 := by omega
    have hwx' : x % 4294967296 < 4294967296 := by omega
    -- a guess and what is left
    have first : ∀ u' : Nat, u' < V → IntKind.wrap .u64 ((u' / (V / 4294967296) : Nat) : Int) = ((u' / (V / 4294967296) : Nat) : Int) ∧ IntKind.wrap .u64 ((u' : Int) - IntKind.wrap .u64 (((u' / (V / 4294967296) : Nat) : Int) * ((V / 4294967296 : Nat) : Int))) = ((u' % (V / 4294967296) : Nat) : Int) := by
      intro u' hu'
      have g := (guess (w := 0) hV1 hV2 hu' (by omega)).2.2.1
      have d := Nat.div_add_mod u' (V / 4294967296)
      have c : ((u' / (V / 4294967296) : Nat) : Int) * ((V / 4294967296 : Nat) : Int) = (((V / 4294967296) * (u' / (V / 4294967296)) : Nat) : Int) := by rw [Int.natCast_mul, Int.mul_comm]
      refine ⟨wu_id (Int.natCast_nonneg _) (by generalize u' / (V / 4294967296) = qq at g; omega), ?_⟩
      rw [c]
      generalize (V / 4294967296) * (u' / (V / 4294967296)) = m at d ⊢
      generalize u' % (V / 4294967296) = rr at d ⊢
      rw [wu_id (x := (m : Int)) (by omega) (by omega), wu_id (by omega) (by omega)]
      omega
    obtain ⟨f1, f2⟩ := first u hU
    rw [f1, f2]
    obtain ⟨g1, g2, g3, g4⟩ := guess hV1 hV2 hU hwx
    rw [digit_loop0 N _ (s : Int) ((x % 4294967296 : Nat) : Int) hVy (by omega) hy1' hy1 hU hwx rfl N _ _ (by rw [Nat.mul_comm]; exact Nat.div_add_mod u _) g1 g4 (by omega) g3]
    -- what is left of the first digit
    have t1 : ∀ (u' w' : Nat), u' < V → w' < 4294967296 → IntKind.wrap .u64 (IntKind.wrap .u64 (IntKind.wrap .u64 ((u' : Int) * 4294967296) + (w' : Int)) - IntKind.wrap .u64 ((((u' * 4294967296 + w') / V : Nat) : Int) * (V : Int))) = (((u' * 4294967296 + w') % V : Nat) : Int) := by
      intro u' w' h1 h2
      have d := Nat.div_add_mod (u' * 4294967296 + w') V
      have m := Nat.mod_lt (u' * 4294967296 + w') (show 0 < V by omega)
      rw [show (((u' * 4294967296 + w') / V : Nat) : Int) * (V : Int) = ((V * ((u' * 4294967296 + w') / V) : Nat) : Int) by rw [Int.natCast_mul, Int.mul_comm]]
      generalize V * ((u' * 4294967296 + w') / V) = p at d ⊢
      generalize (u' * 4294967296 + w') % V = rr at d m ⊢
      rw [wu, wu, wu, wu]; omega
    rw [cond_neg (by omega), t1 u _ hU hwx, tdiv_nat]
    have hu2 := Nat.mod_lt (u * 4294967296 + x / 4294967296) (show 0 < V by omega)
    have hd1 := Nat.div_add_mod (u * 4294967296 + x / 4294967296) V
    have hQ1 : (u * 4294967296 + x / 4294967296) / V < 4294967296 := by
      refine (Nat.div_lt_iff_lt_mul (by omega)).2 ?_
      have : (u + 1) * 4294967296 ≤ V * 4294967296 := Nat.mul_le_mul_right _ hU
      rw [Nat.mul_comm 4294967296]; omega
    generalize (u * 4294967296 + x / 4294967296) / V = q1 at *
    generalize (u * 4294967296 + x / 4294967296) % V = u2 at *
    obtain ⟨f3, f4⟩ := first u2 hu2
    rw [f3, f4]
    obtain ⟨g5, g6, g7, g8⟩ := guess hV1 hV2 hu2 hwx'
    rw [digit_loop1 N _ (s : Int) (q1 : Int) (u2 : Int) hVy (by omega) hy1' hy1 hu2 hwx' rfl N _ _ (by rw [Nat.mul_comm]; exact Nat.div_add_mod u2 _) g5 g8 (by omega) g7]
    rw [cond_neg (by omega), t1 u2 _ hu2 hwx', shrN _ s (by omega)]
    have hd2 := Nat.div_add_mod (u2 * 4294967296 + x % 4294967296) V
    have hm2 := Nat.mod_lt (u2 * 4294967296 + x % 4294967296) (show 0 < V by omega)
    have hQ0 : (u2 * 4294967296 + x % 4294967296) / V < 4294967296 := by
      refine (Nat.div_lt_iff_lt_mul (by omega)).2 ?_
      have : (u2 + 1) * 4294967296 ≤ V * 4294967296 := Nat.mul_le_mul_right _ hu2
      rw [Nat.mul_comm 4294967296]; omega
    generalize (u2 * 4294967296 + x % 4294967296) / V = q0 at *
    generalize (u2 * 4294967296 + x % 4294967296) % V = r2 at *
    have e3 : IntKind.wrap .u64 (IntKind.wrap .u64 ((q1 : Int) * 4294967296) + (q0 : Int)) = ((q1 * 4294967296 + q0 : Nat) : Int) := by
      rw [wu_id (x := (q1 : Int) * 4294967296) (by omega) (by omega), wu_id (by omega) (by omega)]; omega
    have hall : Z = V * (q1 * 4294967296 + q0) + r2 := by
      rw [hZ, Nat.mul_add, ← Nat.mul_assoc]; omega
    have hdiv : Z / V = q1 * 4294967296 + q0 := by
      rw [hall, Nat.mul_add_div (by omega), Nat.div_eq_of_lt hm2]; omega
    have hmod : Z % V = r2 := by
      rw [hall, Nat.mul_add_mod, Nat.mod_eq_of_lt hm2]
    rw [e3, hdiv, hmod]

/-! ### Whole numbers of 128 bits -/
def wHi (x : Int) : Int := x / 18446744073709551616 % 18446744073709551616
def wLo (x : Int) : Int := x % 18446744073709551616
theorem plus_eq (N : Nat) (x y : Int) (k : Int → Int → Option R) : arith_wide_plus N (wHi x) (wLo x) (wHi y) (wLo y) k = k (wHi (x + y)) (wLo (x + y)) := by
  unfold arith_wide_plus addB
  have e1 : addLo (wLo x) (wLo y) 0 = wLo (x + y) := by unfold addLo wLo; omega
  have e2 : addLo (wHi x) (wHi y) (addHi (wLo x) (wLo y) 0) = wHi (x + y) := by unfold addLo addHi wLo wHi; omega
  rw [cond_pos (by unfold wLo; omega), cond_pos (by unfold wHi wLo addHi; omega), e1, e2]
theorem notW {a : Int} (h0 : 0 ≤ a) (h : a < 18446744073709551616) : notI .u64 a = 18446744073709551615 - a := by
  obtain ⟨n, rfl⟩ : ∃ n : Nat, a = n := ⟨a.toNat, by omega⟩
  rw [notN (by omega)]; omega
theorem minus_eq (N : Nat) (x : Int) (k : Int → Int → Option R) : arith_wide_minus N (wHi x) (wLo x) k = k (wHi (-x)) (wLo (-x)) := by
  unfold arith_wide_minus
  have e1 : notI .u64 (wHi x) = wHi (-x - 1) := by rw [notW (by unfold wHi; omega) (by unfold wHi; omega)]; unfold wHi; omega
  have e2 : notI .u64 (wLo x) = wLo (-x - 1) := by rw [notW (by unfold wLo; omega) (by unfold wLo; omega)]; unfold wLo; omega
  have := plus_eq N (-x - 1) 1 (fun a b => k a b)
  rw [show wHi 1 = 0 from rfl, show wLo 1 = 1 from rfl, show -x - 1 + 1 = -x by omega] at this
  rw [e1, e2]; exact this
theorem Mul64_eq (N : Nat) {x y : Nat} (hx : x < 18446744073709551616) (hy : y < 18446744073709551616) (k : Int → Int → Option R) : bits_Mul64 N (x : Int) (y : Int) k = k ((x * y / 18446744073709551616 : Nat) : Int) ((x * y % 18446744073709551616 : Nat) : Int) := by
  obtain ⟨h1, h2, h3, h4⟩ := Go.Lib.mul64_hi x y hx hy
  unfold bits_Mul64
  have s : ∀ a : Nat, shr' .u64 (a : Int) 32 = ((a / 4294967296 : Nat) : Int) := fun a => shrN a 32 (by omega)
  have p : ∀ a b : Nat, a * b < 18446744073709551616 → IntKind.wrap .u64 ((a : Int) * (b : Int)) = ((a * b : Nat) : Int) := fun a b h => by
    rw [show (a : Int) * (b : Int) = ((a * b : Nat) : Int) by simp, wuN, Nat.mod_eq_of_lt h]
  have q : ∀ a b : Nat, a + b < 18446744073709551616 → IntKind.wrap .u64 ((a : Int) + (b : Int)) = ((a + b : Nat) : Int) := fun a b h => by
    rw [show (a : Int) + (b : Int) = ((a + b : Nat) : Int) by simp, wuN, Nat.mod_eq_of_lt h]
  have b0 := Go.Lib.half_mul_le (a := x / 4294967296) (b := y / 4294967296) (by omega) (by omega)
  have b1 := Go.Lib.half_mul_le (a := x / 4294967296) (b := y % 4294967296) (by omega) (by omega)
  have b2 := Go.Lib.half_mul_le (a := x % 4294967296) (b := y / 4294967296) (by omega) (by omega)
  rw [s x, s y, and32 hx, and32 hy, p _ _ (by omega), p _ _ h1, s, p (x / 4294967296) (y % 4294967296) (by omega), q _ _ h2, s, and32 h2, p (x % 4294967296) (y / 4294967296) (by omega), q _ _ h3, s]
  have hhi : x * y / 18446744073709551616 < 18446744073709551616 := by
    refine (Nat.div_lt_iff_lt_mul (by omega)).2 ?_
    exact Nat.mul_lt_mul'' hx hy
  rw [← h4] at hhi ⊢
  have e0 : IntKind.wrap .u64 ((x : Int) * (y : Int)) = ((x * y % 18446744073709551616 : Nat) : Int) := by
    rw [show (x : Int) * (y : Int) = ((x * y : Nat) : Int) by simp, wuN]
  rw [e0]
  congr 1
  generalize x / 4294967296 * (y / 4294967296) = a at *
  generalize (x / 4294967296 * (y % 4294967296) + x % 4294967296 * (y % 4294967296) / 4294967296) = b at *
  generalize (b % 4294967296 + x % 4294967296 * (y / 4294967296)) = c at *
  rw [q _ _ (by omega), q _ _ (by omega)]
theorem times_pos (x : Int) {n : Int} (h0 : 0 ≤ n) (h : n < 18446744073709551616) : IntKind.wrap .u64 (((wLo x).toNat * n.toNat / 18446744073709551616 : Nat) + IntKind.wrap .u64 (wHi x * n)) = wHi (x * n) ∧ (((wLo x).toNat * n.toNat % 18446744073709551616 : Nat) : Int) = wLo (x * n) := by
  have hl : 0 ≤ wLo x := by unfold wLo; omega
  have e1 : (((wLo x).toNat * n.toNat : Nat) : Int) = wLo x * n := by rw [Int.natCast_mul, Int.toNat_of_nonneg hl, Int.toNat_of_nonneg h0]
  have e2 : (((wLo x).toNat * n.toNat / 18446744073709551616 : Nat) : Int) = wLo x * n / 18446744073709551616 := by rw [← e1]; omega
  have e3 : (((wLo x).toNat * n.toNat % 18446744073709551616 : Nat) : Int) = wLo x * n % 18446744073709551616 := by rw [← e1]; omega
  have ex : x = x / 18446744073709551616 * 18446744073709551616 + wLo x := by unfold wLo; omega
  have exn : x * n = x / 18446744073709551616 * n * 18446744073709551616 + wLo x * n := by
    conv => lhs; rw [ex]
    rw [Int.add_mul, Int.mul_right_comm]
  have em : wHi x * n % 18446744073709551616 = x / 18446744073709551616 * n % 18446744073709551616 := by
    unfold wHi; rw [Int.mul_emod, Int.emod_emod_of_dvd _ (Int.dvd_refl _), ← Int.mul_emod]
  rw [e2, e3, wu, wu, em]
  have f1 : wHi (x * n) = x * n / 18446744073709551616 % 18446744073709551616 := rfl
  have f2 : wLo (x * n) = x * n % 18446744073709551616 := rfl
  rw [f1, f2, exn]
  generalize wLo x * n = b
  generalize x / 18446744073709551616 * n = a
  constructor <;> omega
theorem times0_eq (N : Nat) (x : Int) {n : Int} (h0 : 0 ≤ n) (h : n ≤ 9223372036854775807) (k : Int → Int → Option R) : arith_wide_times N (wHi x) (wLo x) n k = k (wHi (x * n)) (wLo (x * n)) := by
  unfold arith_wide_times
  obtain ⟨t1, t2⟩ := times_pos x h0 (by omega)
  have hl : 0 ≤ wLo x := by unfold wLo; omega
  have hl2 : wLo x < 18446744073709551616 := by unfold wLo; omega
  have e := Mul64_eq (R := R) N (x := (wLo x).toNat) (y := n.toNat) (by omega) (by omega)
  rw [Int.toNat_of_nonneg hl, Int.toNat_of_nonneg h0] at e
  rw [cond_neg (by omega), wu_id h0 (by omega), e, t1, t2]
theorem times_eq (N : Nat) (x : Int) {n : Int} (h0 : -9223372036854775807 ≤ n) (h : n ≤ 9223372036854775807) (k : Int → Int → Option R) : arith_wide_times_v1 N (wHi x) (wLo x) n k = k (wHi (x * n)) (wLo (x * n)) := by
  by_cases hn : n < 0
  · unfold arith_wide_times_v1
    rw [cond_pos hn, minus_eq, w64_id (by omega) (by omega), times0_eq N _ (by omega) (by omega), show (0 - n) = -n by omega, Int.neg_mul_neg]
  · have e : arith_wide_times_v1 N (wHi x) (wLo x) n k = arith_wide_times N (wHi x) (wLo x) n k := by
      unfold arith_wide_times_v1 arith_wide_times
      rw [cond_neg hn, cond_neg hn]
    rw [e, times0_eq N x (by omega) h]
theorem divided_eq (N : Nat) (hN : 5 ≤ N) {x n : Nat} (hx : x < 340282366920938463463374607431768211456) (hn : 0 < n) (hn2 : n < 18446744073709551616) (k : Int → Int → Int → Option R) :
    arith_wide_divided N (wHi (x : Int)) (wLo (x : Int)) (n : Int) k = k (wHi ((x / n : Nat) : Int)) (wLo ((x / n : Nat) : Int)) ((x % n : Nat) : Int) := by
  unfold arith_wide_divided
  have e1 : wHi (x : Int) = ((x / 18446744073709551616 : Nat) : Int) := by unfold wHi; omega
  have e2 : wLo (x : Int) = ((x % 18446744073709551616 : Nat) : Int) := by unfold wLo; omega
  have hr := Nat.mod_lt (x / 18446744073709551616) hn
  rw [e1, e2, cond_neg (by omega), tmod_nat, Div64_eq N hN hn2 (by omega) hr, cond_neg (by omega), tdiv_nat, wuN]
  have hx1 := Nat.div_add_mod x 18446744073709551616
  have hd := Nat.div_add_mod (x / 18446744073709551616) n
  have hlo := Nat.mod_lt x (show 0 < 18446744073709551616 by omega)
  have hhi : x / 18446744073709551616 < 18446744073709551616 := by omega
  have hqlt : x / 18446744073709551616 / n < 18446744073709551616 := Nat.lt_of_le_of_lt (Nat.div_le_self _ _) hhi
  generalize x / 18446744073709551616 = h at *
  generalize x % 18446744073709551616 = l at *
  generalize hqe : h / n = a at *
  generalize h % n = b at *
  have hx2 : x = n * (a * 18446744073709551616) + (b * 18446744073709551616 + l) := by
    rw [← hx1, ← hd, Nat.mul_add, Nat.mul_comm 18446744073709551616 (n * a), Nat.mul_assoc]; omega
  have hdiv : x / n = a * 18446744073709551616 + (b * 18446744073709551616 + l) / n := by rw [hx2, Nat.mul_add_div hn]
  have hmod : x % n = (b * 18446744073709551616 + l) % n := by rw [hx2, Nat.mul_add_mod]
  have hlt : (b * 18446744073709551616 + l) / n < 18446744073709551616 := by
    refine (Nat.div_lt_iff_lt_mul hn).2 ?_
    have : (b + 1) * 18446744073709551616 ≤ n * 18446744073709551616 := Nat.mul_le_mul_right _ hr
    rw [Nat.mul_comm 18446744073709551616 n]; omega
  rw [hdiv, hmod]
  generalize (b * 18446744073709551616 + l) / n = q at *
  have f1 : wHi ((a * 18446744073709551616 + q : Nat) : Int) = ((a % 18446744073709551616 : Nat) : Int) := by unfold wHi; omega
  have f2 : wLo ((a * 18446744073709551616 + q : Nat) : Int) = (q : Int) := by unfold wLo; omega
  rw [f1, f2]

/-! ### Strings as lists of bytes -/
def Tx (l : List UInt8) : ByteArray := ⟨l.toArray⟩
theorem Tx_of (s : ByteArray) : s = Tx s.data.toList := by unfold Tx; rw [Array.toArray_toList]
theorem Tx_size (l : List UInt8) : (Tx l).size = l.length := by simp [Tx, ByteArray.size]
theorem Tx_inj {a b : List UInt8} : Tx a = Tx b ↔ a = b := by
  constructor
  · intro h
    have : (Tx a).data.toList = (Tx b).data.toList := by rw [h]
    exact this
  · intro h; rw [h]
theorem Tx_app (a b : List UInt8) : Tx a ++ Tx b = Tx (a ++ b) := by
  apply ByteArray.ext
  rw [ByteArray.data_append]
  unfold Tx
  simp
theorem Tx_ext (l : List UInt8) (i j : Nat) : ByteArray.extract (Tx l) i j = Tx ((l.drop i).take (j - i)) := by
  apply ByteArray.ext
  unfold Tx
  rw [ByteArray.extract_mk]
theorem Tx_to (l : List UInt8) (i : Nat) : ByteArray.extract (Tx l) i (Tx l).size = Tx (l.drop i) := by
  rw [Tx_ext, Tx_size, List.take_of_length_le (by simp)]
theorem Tx_byte {l : List UInt8} {i : Nat} (h : i < l.length) : byte? (Tx l) (i : Int) = some (l[i].toNat : Int) := by
  unfold byte?
  rw [dif_pos ⟨by omega, by rw [Tx_size]; simpa using h⟩]
  rfl
theorem Tx_bytes (l : List UInt8) : bytesI (Tx l) = l.map (fun b => (b.toNat : Int)) := rfl
theorem Tx_nil : ByteArray.mk #[] = Tx [] := rfl
theorem byte_lt (c : UInt8) : c.toNat < 256 := c.toNat_lt
theorem byte_eq {c : UInt8} {n : Nat} (hn : n < 256) : (c.toNat : Int) = (n : Int) ↔ c = UInt8.ofNat n := by
  constructor
  · intro h
    apply UInt8.toNat_inj.1
    rw [UInt8.toNat_ofNat']
    omega
  · intro h
    rw [h, UInt8.toNat_ofNat']
    omega
/-! digits -/
def dgt (c : UInt8) : Bool := decide (48 ≤ c.toNat ∧ c.toNat ≤ 57)
def dval (c : UInt8) : Nat := c.toNat - 48
def numF (n : Nat) (l : List UInt8) : Nat := l.foldl (fun n c => n * 10 + dval c) n
theorem numF_cons (n : Nat) (c : UInt8) (l : List UInt8) : numF n (c :: l) = numF (n * 10 + dval c) l := by unfold numF; rw [List.foldl_cons]
theorem numF_app (n : Nat) (a b : List UInt8) : numF n (a ++ b) = numF (numF n a) b := by unfold numF; rw [List.foldl_append]
theorem numF_add (l : List UInt8) : ∀ n : Nat, numF n l = n * 10 ^ l.length + numF 0 l := by
  induction l with
  | nil => intro n; simp [numF]
  | cons c l ih =>
    intro n
    rw [numF_cons, numF_cons, List.length_cons]
    have h1 := ih (n * 10 + dval c)
    have h2 := ih (0 * 10 + dval c)
    rw [h1, h2]
    have h3 : 10 ^ (l.length + 1) = 10 * 10 ^ l.length := by rw [Nat.pow_succ, Nat.mul_comm]
    rw [h3]
    generalize 10 ^ l.length = T
    generalize numF 0 l = X
    generalize dval c = d
    rw [Nat.add_mul, Nat.mul_assoc, Nat.add_assoc, Nat.zero_mul, Nat.zero_add]
theorem numF_lt {l : List UInt8} (h : l.all dgt = true) : numF 0 l < 10 ^ l.length := by
  induction l with
  | nil => simp [numF]
  | cons c l ih =>
    rw [List.all_cons, Bool.and_eq_true] at h
    have h1 := of_decide_eq_true h.1
    have h2 := ih h.2
    have hd : dval c ≤ 9 := by unfold dval; omega
    rw [numF_cons, numF_add, List.length_cons, Nat.pow_succ, Nat.zero_mul, Nat.zero_add]
    have := Nat.mul_le_mul_right (10 ^ l.length) hd
    omega
theorem dgt_of {n : Nat} (h : n < 10) : dgt (UInt8.ofNat (48 + n)) = true ∧ dval (UInt8.ofNat (48 + n)) = n := by
  have e : (UInt8.ofNat (48 + n)).toNat = 48 + n := by rw [UInt8.toNat_ofNat']; omega
  unfold dgt dval
  rw [e]
  exact ⟨decide_eq_true (by omega), by omega⟩
/-- The last k digits of a number. -/
def pd : Nat → Nat → List UInt8
  | 0, _ => []
  | k + 1, u => UInt8.ofNat (48 + u / 10 ^ k % 10) :: pd k u
theorem pd_len : ∀ k u, (pd k u).length = k
  | 0, _ => rfl
  | k + 1, u => by rw [pd, List.length_cons, pd_len k u]
theorem pd_all : ∀ k u, (pd k u).all dgt = true
  | 0, _ => rfl
  | k + 1, u => by rw [pd, List.all_cons, (dgt_of (Nat.mod_lt _ (by omega))).1, pd_all k u]; rfl
theorem pd_num : ∀ k u, numF 0 (pd k u) = u % 10 ^ k
  | 0, u => by rw [Nat.pow_zero, Nat.mod_one]; rfl
  | k + 1, u => by
    rw [pd, numF_cons, numF_add, pd_num k u, pd_len, (dgt_of (Nat.mod_lt _ (by omega))).2, Nat.zero_mul, Nat.zero_add, Nat.pow_succ, Nat.mod_mul, Nat.mul_comm, Nat.add_comm]
theorem pd_mod : ∀ k u v, u % 10 ^ k = v % 10 ^ k → pd k u = pd k v
  | 0, _, _, _ => rfl
  | k + 1, u, v, h => by
    have e : ∀ x : Nat, x / 10 ^ k % 10 = x % 10 ^ (k + 1) / 10 ^ k := by
      intro x
      rw [Nat.pow_succ, Nat.mod_mul_right_div_self]
    have e2 : ∀ x : Nat, x % 10 ^ k = x % 10 ^ (k + 1) % 10 ^ k := by
      intro x
      rw [Nat.pow_succ, Nat.mod_mul_right_mod]
    rw [pd, pd, e u, e v, h, pd_mod k u v (by rw [e2 u, e2 v, h])]
theorem pd_app : ∀ i j u, pd (i + j) u = pd i (u / 10 ^ j) ++ pd j u
  | 0, j, u => by rw [Nat.zero_add]; rfl
  | i + 1, j, u => by
    rw [show i + 1 + j = (i + j) + 1 by omega, pd, pd, pd_app i j u, List.cons_append, Nat.div_div_eq_div_mul, ← Nat.pow_add, Nat.add_comm j i]
theorem pd_snoc (k u : Nat) : pd (k + 1) u = pd k (u / 10) ++ [UInt8.ofNat (48 + u % 10)] := by
  rw [pd_app k 1 u]
  show pd k (u / 10 ^ 1) ++ [UInt8.ofNat (48 + u / 10 ^ 0 % 10)] = _
  rw [Nat.pow_one, Nat.pow_zero, Nat.div_one]
theorem dec_pd (u : Nat) : Lib.decDigits u = pd (Lib.nDigits u) u := by
  induction u using Nat.strongRecOn with
  | _ u ih =>
    by_cases h : u < 10
    · rw [Lib.decDigits, dif_pos h, Lib.nDigits_small h]
      show _ = [UInt8.ofNat (48 + u / 10 ^ 0 % 10)]
      rw [Nat.pow_zero, Nat.div_one, Nat.mod_eq_of_lt h]
    · rw [Lib.decDigits, dif_neg h, Lib.nDigits_big h, ih (u / 10) (by omega), pd_snoc]
theorem pd_zero_head : ∀ (k m u : Nat), u < 10 ^ m → pd (k + m) u = List.replicate k 48 ++ pd m u
  | 0, m, u, _ => by rw [Nat.zero_add]; rfl
  | k + 1, m, u, h => by
    have hp : 10 ^ m ≤ 10 ^ (k + m) := Nat.pow_le_pow_right (by omega) (by omega)
    rw [show k + 1 + m = (k + m) + 1 by omega, pd, Nat.div_eq_of_lt (by omega), pd_zero_head k m u h, List.replicate_succ, List.cons_append]; rfl
theorem nDigits_le : ∀ (k u : Nat), 1 ≤ k → u < 10 ^ k → Lib.nDigits u ≤ k
  | 0, _, h, _ => by omega
  | 1, u, _, h => by rw [Lib.nDigits_small (by simpa using h)]; omega
  | k + 2, u, _, h => by
    by_cases c : u < 10
    · rw [Lib.nDigits_small c]; omega
    · rw [Lib.nDigits_big c]
      have := nDigits_le (k + 1) (u / 10) (by omega) (by rw [Nat.pow_succ] at h; omega)
      omega
theorem nDigits_ge : ∀ (k u : Nat), 10 ^ k ≤ u → k + 1 ≤ Lib.nDigits u
  | 0, u, _ => Lib.nDigits_pos u
  | k + 1, u, h => by
    have hp : 1 ≤ 10 ^ k := Nat.one_le_pow _ _ (by decide)
    rw [Nat.pow_succ] at h
    rw [Lib.nDigits_big (by omega)]
    have := nDigits_ge k (u / 10) (by omega)
    omega
theorem dec_head {u : Nat} (h : 0 < u) : ∃ c r, Lib.decDigits u = c :: r ∧ c ≠ 48 ∧ dgt c = true := by
  have hl := Lib.lt_pow_nDigits u
  have hp := Lib.nDigits_pos u
  obtain ⟨k, hk⟩ : ∃ k, Lib.nDigits u = k + 1 := ⟨Lib.nDigits u - 1, by omega⟩
  have hge : 10 ^ k ≤ u := by
    rcases Nat.lt_or_ge u (10 ^ k) with c | c
    · rcases Nat.eq_zero_or_pos k with k0 | k0
      · rw [k0, Nat.pow_zero] at c; omega
      · have := nDigits_le k u k0 c
        rw [hk] at this; omega
    · exact c
  refine ⟨UInt8.ofNat (48 + u / 10 ^ k % 10), pd k u, by rw [dec_pd, hk]; rfl, ?_, (dgt_of (Nat.mod_lt _ (by omega))).1⟩
  have h1 : 1 ≤ u / 10 ^ k := (Nat.one_le_div_iff (Nat.pow_pos (by omega))).2 hge
  have h2 : u / 10 ^ k < 10 := by
    rw [hk, Nat.pow_succ] at hl
    exact Nat.div_lt_of_lt_mul hl
  intro e
  have e2 : (UInt8.ofNat (48 + u / 10 ^ k % 10)).toNat = (48 : UInt8).toNat := by rw [e]
  rw [UInt8.toNat_ofNat', show (48 : UInt8).toNat = 48 from rfl, Nat.mod_eq_of_lt h2] at e2
  omega

/-! ### Reading a number: the program -/
def bef (l : List UInt8) : List UInt8 := l.takeWhile (fun c => c != 46)
def aft (l : List UInt8) : List UInt8 := (l.dropWhile (fun c => c != 46)).drop 1
def isNeg (l : List UInt8) : Bool := decide (l.head? = some 45)
def rst (l : List UInt8) : List UInt8 := if isNeg l = true then l.drop 1 else l
def wt (w : Int) (neg : Bool) (m : Nat) : Int × Int := if (if neg = true then p2 (w - 1) < m else p2 (w - 1) ≤ m) then (0, 2) else ((if neg = true then -(m : Int) else m) % p2 w, 0)
def synA (l a : List UInt8) : Bool := decide (l.length ≤ 20) && (decide (a ≠ []) && a.all dgt) && (decide (a.length = 1) || decide (a.head? ≠ some 48))
def synB (p : Nat) (r b : List UInt8) : Bool := (decide (46 ∈ r) == decide (0 < p)) && decide (b.length = p) && b.all dgt
def prs2 (w : Int) (p : Nat) (neg : Bool) (m : Nat) : Int × Int := if m % 5 ^ p ≠ 0 ∨ (neg = true ∧ m = 0) then (0, 7) else wt w neg (m / 5 ^ p)
def prs (w : Int) (p : Nat) (l : List UInt8) : Int × Int :=
  if synA l (bef (rst l)) = true ∧ synB p (rst l) (aft (rst l)) = true then prs2 w p (isNeg l) (numF 0 (bef (rst l) ++ aft (rst l))) else (0, 7)
theorem anyB_loop (N : Nat) (k0 : Int → Option R) (k1 : Option R) (g : Option R) (p : Int → Bool) (hp : ∀ x (k : Bool → Option R), arith_each_byte__c1 N x k = k (p x)) (hk : ∀ i : Nat, k0 i = g) (l : List Int) (hl : l.length ≤ 1000000) : ∀ (n i : Nat), l.length < n + i → i ≤ l.length →
    slices_IndexFunc_Lbyte_byte_l0 N k0 k1 n l l.length i = if (l.drop i).any p then g else k1 := by
  intro n
  induction n with
  | zero => intro i h1 h2; omega
  | succ n ih =>
    intro i h1 h2
    rw [slices_IndexFunc_Lbyte_byte_l0]
    by_cases h : i < l.length
    · rw [cond_pos (by omega), at?_lt h, some_bind', hp, drop_cons h, List.any_cons]
      cases e : p l[i]
      · rw [cond_false, w64_succ (by omega), Bool.false_or]
        exact ih (i + 1) (by omega) (by omega)
      · rw [cond_true, hk]; simp
    · rw [cond_neg (by omega)]
      have : i = l.length := by omega
      subst this
      simp
theorem anyB_eq (N : Nat) (p : Int → Bool) (hp : ∀ x (k : Bool → Option R), arith_each_byte__c1 N x k = k (p x)) (l : List Int) (hl : l.length ≤ 1000000) (hN : l.length < N) (k : Bool → Option R) :
    slices_ContainsFunc_Lbyte_byte N l k = k (l.any p) := by
  unfold slices_ContainsFunc_Lbyte_byte slices_IndexFunc_Lbyte_byte
  have := anyB_loop N (fun z4 => k (decide (0 ≤ z4))) (k (decide (0 ≤ (-1 : Int)))) (k true) p hp (fun i => by simp) l hl N 0 (by omega) (by omega)
  rw [Int.natCast_zero] at this
  rw [this, List.drop_zero]
  cases l.any p <;> simp
theorem digC (N : Nat) (x : Int) (k : Bool → Option R) : arith_each_byte__c1 N x k = k (!decide (48 ≤ x ∧ x ≤ 57)) := by
  unfold arith_each_byte__c1 arith_digits_c1
  by_cases h : 48 ≤ x <;> simp [h]
theorem any_not (l : List UInt8) : (!(l.map fun b => (b.toNat : Int)).any (fun x => !decide (48 ≤ x ∧ x ≤ 57))) = l.all dgt := by
  induction l with
  | nil => rfl
  | cons c l ih =>
    rw [List.map_cons, List.any_cons, List.all_cons, ← ih, Bool.not_or, Bool.not_not]
    congr 1
    unfold dgt
    rw [decide_eq_decide]
    omega
theorem digits_eq (l : List UInt8) (hl : l.length ≤ 1000) (k : Bool → Option R) : arith_digits 2000 (Tx l) k = k (decide (l ≠ []) && l.all dgt) := by
  unfold arith_digits
  rw [Tx_nil]
  by_cases h : l = []
  · rw [cond_neg (show ¬ (Tx l ≠ Tx []) from fun e => e (by rw [h])), h]; rfl
  · rw [cond_pos (show Tx l ≠ Tx [] from fun e => h (Tx_inj.1 e)), Tx_bytes]
    unfold arith_each_byte
    rw [anyB_eq 2000 _ (digC 2000) _ (by simp; omega) (by simp; omega), any_not, decide_eq_true h, Bool.true_and]
theorem cutPrefix_eq (N : Nat) (l : List UInt8) (hl : l.length ≤ 1000) (k : ByteArray → Bool → Option R) : strings_CutPrefix N (Tx l) (ByteArray.mk #[45]) k = k (Tx (rst l)) (isNeg l) := by
  unfold strings_CutPrefix stringslite_CutPrefix stringslite_HasPrefix
  rw [show ByteArray.mk #[45] = Tx [45] from rfl]
  cases l with
  | nil => rw [Tx_size, Tx_size]; rfl
  | cons c r =>
    rw [Tx_size, Tx_size]
    have e0 : ByteArray.extract (Tx (c :: r)) 0 ([45] : List UInt8).length = Tx [c] := Tx_ext _ _ _
    rw [cond_pos (by simp; omega), slP_of (by simp; omega), cond_true, e0]
    by_cases h : c = 45
    · have e : isNeg (c :: r) = true := decide_eq_true (by rw [h]; rfl)
      rw [decide_eq_true (by rw [h])]
      unfold rst
      rw [e, if_pos rfl]
      have e1 : ByteArray.extract (Tx (c :: r)) ([45] : List UInt8).length (c :: r).length = Tx r := (Tx_ext _ _ _).trans (by rw [List.take_of_length_le (by simp)]; rfl)
      show (bif slP _ _ _ then k _ true else none) = _
      rw [slP_of (by simp; omega), cond_true, e1]; rfl
    · have e : isNeg (c :: r) = false := decide_eq_false (fun q => h (Option.some.inj q))
      rw [decide_eq_false (fun q => h (List.cons.inj (Tx_inj.1 q)).1)]
      unfold rst
      rw [e]; rfl
theorem cut_in : ∀ {l : List UInt8}, (46 : UInt8) ∈ l → Lib.indexByte l 46 = ((bef l).length : Int) ∧ l = bef l ++ 46 :: aft l
  | c :: r, h => by
    unfold bef aft
    by_cases e : c = 46
    · subst e; simp [Lib.indexByte]
    · have hr : (46 : UInt8) ∈ r := by
        rcases List.mem_cons.1 h with q | q
        · exact absurd q.symm e
        · exact q
      obtain ⟨i1, i2⟩ := cut_in hr
      have hc : (c != 46) = true := by simpa using e
      rw [List.takeWhile_cons, hc, if_pos rfl, List.dropWhile_cons, if_pos hc]
      constructor
      · rw [Lib.indexByte, if_neg (by simpa using e), i1, if_neg (by simp), List.length_cons]
        unfold bef; omega
      · rw [List.cons_append]
        congr 1
theorem cut_out : ∀ {l : List UInt8}, (46 : UInt8) ∉ l → Lib.indexByte l 46 = -1 ∧ bef l = l ∧ aft l = []
  | [], _ => ⟨rfl, rfl, rfl⟩
  | c :: r, h => by
    have e : c ≠ 46 := fun q => h (by rw [q]; simp)
    obtain ⟨i1, i2, i3⟩ := cut_out (l := r) (fun q => h (List.mem_cons_of_mem _ q))
    have hc : (c != 46) = true := by simpa using e
    refine ⟨?_, ?_, ?_⟩
    · rw [Lib.indexByte, if_neg (by simpa using e), i1, if_pos (by simp)]
    · show List.takeWhile (fun c => c != 46) (c :: r) = c :: r
      rw [List.takeWhile_cons, hc, if_pos rfl]; exact congrArg _ i2
    · show (List.dropWhile (fun c => c != 46) (c :: r)).drop 1 = []
      rw [List.dropWhile_cons, if_pos hc]; exact i3
theorem cut_eq (N : Nat) (l : List UInt8) (hl : l.length ≤ 1000) (k : ByteArray → ByteArray → Bool → Option R) : strings_Cut N (Tx l) (ByteArray.mk #[46]) k = k (Tx (bef l)) (Tx (aft l)) (decide (46 ∈ l)) := by
  unfold strings_Cut stringslite_Cut
  rw [show ByteArray.mk #[46] = Tx [46] from rfl]
  have hix : ∀ g : Int → Option R, stringslite_Index N (Tx l) (Tx [46]) g = g (Lib.indexByte l 46) := by
    intro g
    unfold stringslite_Index
    rw [Tx_size, cond_neg (by simp)]
    by_cases h : l = [46]
    · rw [cond_pos (by rw [h]), h]; rfl
    · rw [cond_neg (fun e => h (Tx_inj.1 e).symm), cond_pos (by simp), show byte? (Tx [46]) 0 = some 46 from rfl, some_bind']
      rfl
  rw [hix]
  by_cases h : (46 : UInt8) ∈ l
  · obtain ⟨i1, i2⟩ := cut_in h
    have hlen : l.length = (bef l).length + (aft l).length + 1 := by
      conv => lhs; rw [i2]
      simp; omega
    rw [i1, decide_eq_true h, cond_pos (by omega), Tx_size, Tx_size, slP_of (by omega), cond_true]
    have e1 : w64 (((bef l).length : Int) + (([46] : List UInt8).length : Nat)) = (((bef l).length + 1 : Nat) : Int) := by
      rw [w64_id (by simp; omega) (by simp; omega)]; rfl
    rw [e1, slP_of (by omega), cond_true, Int.toNat_natCast, Int.toNat_natCast, Tx_ext, Tx_ext]
    have t1 : List.take ((bef l).length - 0) (List.drop 0 l) = bef l := (congrArg (List.take (bef l).length) i2).trans (by simp)
    have t2 : List.take (l.length - ((bef l).length + 1)) (List.drop ((bef l).length + 1) l) = aft l := by
      rw [List.take_of_length_le (by simp)]
      refine (congrArg (List.drop ((bef l).length + 1)) i2).trans ?_
      rw [show bef l ++ 46 :: aft l = (bef l ++ [46]) ++ aft l by simp, List.drop_left' (by simp)]
    rw [t1, t2]
  · obtain ⟨i1, i2, i3⟩ := cut_out h
    rw [i1, i2, i3, decide_eq_false h, cond_neg (by omega)]
    rfl

theorem wSmall {d : Nat} (h : d < 1000) : wHi (d : Int) = 0 ∧ wLo (d : Int) = (d : Int) := by unfold wHi wLo; omega
theorem wu64s {x : Int} (h0 : 0 ≤ x) (h : x < 18446744073709551616) : IntKind.wrap .u64 x = x := wu_id h0 h
theorem digW {c : UInt8} (h : dgt c = true) : IntKind.wrap .u64 (IntKind.wrap .u8 ((c.toNat : Int) - 48)) = (dval c : Int) := by
  have h1 := of_decide_eq_true h
  have e : (c.toNat : Int) - 48 = ((dval c : Nat) : Int) := by unfold dval; omega
  have hd : dval c ≤ 9 := by unfold dval; omega
  rw [e, wu8 (by omega), wu64s (by omega) (by omega)]
theorem dval_le {c : UInt8} (h : dgt c = true) : dval c ≤ 9 := by
  have h1 := of_decide_eq_true h
  unfold dval; omega
theorem parse_l0 (N : Nat) (k0 : Bool → Int → Int → Int → Int → Int → Int → Option R) (b0 : Bool) (b4 b5 b6 b7 : Int) {xs : List UInt8} (hx : xs.all dgt = true) (hl : xs.length ≤ 1000) : ∀ (n i m : Nat), xs.length < n + i → i ≤ xs.length →
    arith_ParseFixed_l0 N k0 n b0 (xs.map fun b => (b.toNat : Int)) ((xs.length : Nat) : Int) i b4 b5 b6 b7 (wHi (m : Int)) (wLo (m : Int)) = k0 b0 b4 b5 b6 b7 (wHi ((numF m (xs.drop i) : Nat) : Int)) (wLo ((numF m (xs.drop i) : Nat) : Int)) := by
  intro n
  induction n with
  | zero => intro i m h1 h2; omega
  | succ n ih =>
    intro i m h1 h2
    rw [arith_ParseFixed_l0]
    by_cases h : i < xs.length
    · have hc := List.all_eq_true.1 hx xs[i] (List.getElem_mem h)
      have hat : at? (xs.map fun b => (b.toNat : Int)) (i : Int) = some (xs[i].toNat : Int) := by
        rw [at?_lt (by rw [List.length_map]; exact h)]; simp
      have hs := wSmall (show dval xs[i] < 1000 by have := dval_le hc; omega)
      have hp := fun kk : Int → Int → Option R => plus_eq N ((m : Int) * 10) ((dval xs[i] : Nat) : Int) kk
      rw [hs.1, hs.2] at hp
      rw [cond_pos (by omega), hat, some_bind', times_eq N (m : Int) (by omega) (by omega), digW hc, hp, w64_succ (by omega), drop_cons h, numF_cons]
      have e : (m : Int) * 10 + ((dval xs[i] : Nat) : Int) = ((m * 10 + dval xs[i] : Nat) : Int) := by omega
      rw [e]
      exact ih (i + 1) _ (by omega) (by omega)
    · rw [cond_neg (by omega)]
      have : i = xs.length := by omega
      subst this
      simp [numF]
def rs : Nat → Nat → Nat
  | _, 0 => 0
  | m, j + 1 => m % 5 + rs (m / 5) j
theorem rs_le : ∀ j m, rs m j ≤ 4 * j
  | 0, _ => by simp [rs]
  | j + 1, m => by rw [rs]; have := rs_le j (m / 5); omega
theorem rs_zero : ∀ j m, rs m j = 0 ↔ m % 5 ^ j = 0
  | 0, m => by simp [rs, Nat.mod_one]
  | j + 1, m => by
    have ih := rs_zero j (m / 5)
    rw [rs, Nat.pow_succ, Nat.mul_comm, Nat.mod_mul]
    generalize m / 5 % 5 ^ j = X at *
    omega
theorem parse_l1 (N : Nat) (hN : 5 ≤ N) (k0 : Bool → Int → Int → Int → Int → Int → Int → Int → Option R) (b0 : Bool) (b4 b5 b6 b7 : Int) {p : Nat} (hp : p ≤ 16) : ∀ (n i m left : Nat), p < n + i → i ≤ p → left + 4 * (p - i) ≤ 1000 → m < 340282366920938463463374607431768211456 →
    arith_ParseFixed_l1 N k0 n b0 (left : Int) (p : Int) i b4 b5 b6 b7 (wHi (m : Int)) (wLo (m : Int)) = k0 b0 ((left + rs m (p - i) : Nat) : Int) b4 b5 b6 b7 (wHi ((m / 5 ^ (p - i) : Nat) : Int)) (wLo ((m / 5 ^ (p - i) : Nat) : Int)) := by
  intro n
  induction n with
  | zero => intro i m left h1 h2; omega
  | succ n ih =>
    intro i m left h1 h2 h3 h4
    rw [arith_ParseFixed_l1]
    by_cases h : i < p
    · obtain ⟨j, hj⟩ : ∃ j, p - i = j + 1 := ⟨p - i - 1, by omega⟩
      have hj' : p - (i + 1) = j := by omega
      rw [cond_pos (by omega), show (5 : Int) = ((5 : Nat) : Int) from rfl, divided_eq N hN h4 (by omega) (by omega), w64_succ (by omega), wu64s (by omega) (by omega), show (left : Int) + ((m % 5 : Nat) : Int) = ((left + m % 5 : Nat) : Int) by omega, ih (i + 1) (m / 5) (left + m % 5) (by omega) (by omega) (by omega) (by omega), hj', hj, rs, Nat.div_div_eq_div_mul, Nat.pow_succ, Nat.mul_comm 5, Nat.add_assoc]
    · rw [cond_neg (by omega)]
      have : i = p := by omega
      subst this
      simp [rs]
theorem w128 {m : Nat} (h : m < 340282366920938463463374607431768211456) : (wHi (m : Int) = 0 ↔ m < 18446744073709551616) ∧ (m < 18446744073709551616 → wLo (m : Int) = (m : Int)) := by
  unfold wHi wLo
  constructor
  · constructor
    · intro h; omega
    · intro h; omega
  · intro h; omega
theorem parse_j3a (N : Nat) {w : Int} (p r b : Int) (hw : 2 ≤ w) (hw2 : w ≤ 16) (neg : Bool) (m : Nat) (H : Int) (h1 : H ≤ 32769) (k0 : Int → Int → Option R) : arith_ParseFixed_j3 N k0 neg H w p r b 0 (m : Int) = if H ≤ m then k0 0 2 else k0 ((if neg = true then -(m : Int) else m) % p2 w) 0 := by
  have h16 : p2 w ≤ 65536 := p2_16 (by omega)
  have hpos := p2_pos w
  unfold arith_ParseFixed_j3
  rw [size_eq N p r b (by omega) (by omega), size_eq N p r b (by omega) (by omega), cond_neg (by simp)]
  have e4 : w64 (p2 w - 1) = p2 w - 1 := w64_id (by omega) (by omega)
  by_cases d : H ≤ m
  · rw [cond_pos d, if_pos d]
  · rw [cond_neg d, if_neg d, e4]
    have e5 : w64 (m : Int) = (m : Int) := w64_id (by omega) (by omega)
    have e6 : w64 (0 - (m : Int)) = -(m : Int) := by rw [w64_id (by omega) (by omega), Int.zero_sub]
    rw [e5, e6, and_mask _ _ (by omega) (by omega), and_mask _ _ (by omega) (by omega)]
    cases neg <;> rfl
theorem parse_j3b (N : Nat) (w p r b : Int) (neg : Bool) (H hi lo : Int) (h : hi ≠ 0) (k0 : Int → Int → Option R) : arith_ParseFixed_j3 N k0 neg H w p r b hi lo = k0 0 2 := by
  unfold arith_ParseFixed_j3
  rw [cond_pos h]
theorem parse_j2a (N : Nat) {w : Int} (p r b : Int) (hw : 2 ≤ w) (hw2 : w ≤ 16) (neg : Bool) (hi lo : Int) (k0 : Int → Int → Option R) : arith_ParseFixed_j2 N k0 neg w p r b hi lo = arith_ParseFixed_j3 N k0 neg (if neg = true then p2 (w - 1) + 1 else p2 (w - 1)) w p r b hi lo := by
  have h15 : p2 (w - 1) ≤ 32768 := p2_15 (by omega)
  have hpos := p2_pos (w - 1)
  have hhalf := p2_half (w := w) (by omega)
  unfold arith_ParseFixed_j2
  rw [size_eq N p r b (by omega) (by omega)]
  have e1 : w64 (Int.tdiv (p2 w) 2) = p2 (w - 1) := by
    rw [hhalf, Int.mul_tdiv_cancel_left _ (by omega)]; exact w64_id (by omega) (by omega)
  have e2 : IntKind.wrap .u64 (p2 (w - 1)) = p2 (w - 1) := wu64s (by omega) (by omega)
  have e3 : IntKind.wrap .u64 (p2 (w - 1) + 1) = p2 (w - 1) + 1 := wu64s (by omega) (by omega)
  rw [e1, e2, e3]
  cases neg
  · rw [cond_false, if_neg (by simp)]
  · rw [cond_true, if_pos rfl]
theorem wt_big {w : Int} (hw2 : w ≤ 16) (neg : Bool) {m : Nat} (h : 65536 < m) : wt w neg m = (0, 2) := by
  have h15 : p2 (w - 1) ≤ 32768 := p2_15 (by omega)
  unfold wt
  cases neg
  · rw [if_pos (by simp only [Bool.false_eq_true, if_false]; omega)]
  · rw [if_pos (by simp only [if_true]; omega)]
theorem parse_j2 (N : Nat) {w : Int} (p r b : Int) (hw : 2 ≤ w) (hw2 : w ≤ 16) (neg : Bool) {m : Nat} (hm : m < 340282366920938463463374607431768211456) (k0 : Int → Int → Option R) : arith_ParseFixed_j2 N k0 neg w p r b (wHi (m : Int)) (wLo (m : Int)) = k0 (wt w neg m).1 (wt w neg m).2 := by
  obtain ⟨q1, q2⟩ := w128 hm
  rw [parse_j2a N p r b hw hw2]
  have h15 : p2 (w - 1) ≤ 32768 := p2_15 (by omega)
  by_cases c : m < 18446744073709551616
  · have hq := q1.2 c
    have hl := q2 c
    rw [hq, hl]
    clear hq hl q1 q2 hm c
    rw [parse_j3a N p r b hw hw2 neg m _ (by cases neg <;> simp <;> omega)]
    unfold wt
    cases neg
    · simp only [Bool.false_eq_true, if_false]
      split <;> rfl
    · simp only [if_true]
      by_cases d : p2 (w - 1) < m
      · rw [if_pos (by omega), if_pos d]
      · rw [if_neg (by omega), if_neg d]
  · have hb : 65536 < m := by omega
    rw [wt_big hw2 neg hb, parse_j3b N w p r b neg _ _ _ (fun e => c (q1.1 e))]
theorem numF_small {l : List UInt8} (h : l.all dgt = true) (hl : l.length ≤ 36) : numF 0 l < 340282366920938463463374607431768211456 := by
  have h1 := numF_lt h
  have h2 : 10 ^ l.length ≤ 10 ^ 36 := Nat.pow_le_pow_right (by omega) hl
  have h3 : (10 : Nat) ^ 36 = 1000000000000000000000000000000000000 := by decide
  omega
theorem parse_j1 {w : Int} {p : Nat} (r b : Int) (hw : 2 ≤ w) (hw2 : w ≤ 16) (hp : p ≤ 16) (neg : Bool) (x y : List UInt8) (ok : Bool) (hok : ok = true → (x ++ y).all dgt = true ∧ (x ++ y).length ≤ 36) (k0 : Int → Int → Option R) :
    arith_ParseFixed_j1 2000 k0 neg (Tx x) (Tx y) ok w p r b = if ok = true then k0 (prs2 w p neg (numF 0 (x ++ y))).1 (prs2 w p neg (numF 0 (x ++ y))).2 else k0 0 7 := by
  unfold arith_ParseFixed_j1
  cases ok
  · rfl
  · obtain ⟨h1, h2⟩ := hok rfl
    have hl : (x ++ y).length = x.length + y.length := List.length_append
    have hn := numF_small h1 h2
    rw [show (!true) = false from rfl, cond_false, Tx_size, Tx_size, cond_neg (by omega), Tx_app, Tx_bytes, List.length_map]
    have a0 := wSmall (d := 0) (by omega)
    have := parse_l0 2000 (fun z6 z7 z8 z9 z10 z11 z12 => (arith_ParseFixed_l1 2000 (fun z13 z14 z15 z16 z17 z18 z19 z20 => (bif decide (z14 ≠ 0) then (k0 0 7) else (bif z13 then (bif (false != (decide (z19 = 0) && (decide (z20 = 0) && true))) then (k0 0 7) else (arith_ParseFixed_j2 2000 (fun z21 z22 => (k0 z21 z22)) z13 z15 z16 z17 z18 z19 z20)) else (arith_ParseFixed_j2 2000 (fun z23 z24 => (k0 z23 z24)) z13 z15 z16 z17 z18 z19 z20)))) 2000 z6 0 z8 0 z7 z8 z9 z10 z11 z12)) neg w p r b h1 (by omega) 2000 0 0 (by omega) (by omega)
    refine Eq.trans this ?_
    rw [List.drop_zero]
    have l1 := parse_l1 2000 (by omega) (fun z13 z14 z15 z16 z17 z18 z19 z20 => (bif decide (z14 ≠ 0) then (k0 0 7) else (bif z13 then (bif (false != (decide (z19 = 0) && (decide (z20 = 0) && true))) then (k0 0 7) else (arith_ParseFixed_j2 2000 (fun z21 z22 => (k0 z21 z22)) z13 z15 z16 z17 z18 z19 z20)) else (arith_ParseFixed_j2 2000 (fun z23 z24 => (k0 z23 z24)) z13 z15 z16 z17 z18 z19 z20)))) neg w p r b hp 2000 0 (numF 0 (x ++ y)) 0 (by omega) (by omega) (by omega) hn
    refine Eq.trans l1 ?_
    rw [Nat.sub_zero, Nat.zero_add, if_pos rfl]
    generalize hM : numF 0 (x ++ y) = M at *
    have hq : M / 5 ^ p ≤ M := Nat.div_le_self _ _
    unfold prs2
    by_cases c : M % 5 ^ p = 0
    · have c' := (rs_zero p M).2 c
      rw [cond_neg (by rw [c']; simp)]
      obtain ⟨q1, q2⟩ := w128 (m := M / 5 ^ p) (by omega)
      have hz : (wHi ((M / 5 ^ p : Nat) : Int) = 0 ∧ wLo ((M / 5 ^ p : Nat) : Int) = 0) ↔ M = 0 := by
        have hd := Nat.div_add_mod M (5 ^ p)
        rw [c] at hd
        constructor
        · rintro ⟨a, e⟩
          have a' := q1.1 a
          rw [q2 a'] at e
          have e' : M / 5 ^ p = 0 := by omega
          rw [e'] at hd; omega
        · intro e
          rw [e, Nat.zero_div]
          exact ⟨a0.1, a0.2⟩
      cases neg
      · rw [cond_false, if_neg (by simp [c]), parse_j2 2000 p r b hw hw2 false (by omega)]
      · rw [cond_true]
        by_cases d : M = 0
        · rw [if_pos (Or.inr ⟨rfl, d⟩), (show (false != (decide (wHi ((M / 5 ^ p : Nat) : Int) = 0) && (decide (wLo ((M / 5 ^ p : Nat) : Int) = 0) && true))) = true by rw [zz]; exact decide_eq_true (hz.2 d)), cond_true]
        · rw [if_neg (by simp [c, d]), (show (false != (decide (wHi ((M / 5 ^ p : Nat) : Int) = 0) && (decide (wLo ((M / 5 ^ p : Nat) : Int) = 0) && true))) = false by rw [zz]; exact decide_eq_false (fun q => d (hz.1 q))), cond_false, parse_j2 2000 p r b hw hw2 true (by omega)]
    · have c' : rs M p ≠ 0 := fun e => c ((rs_zero p M).1 e)
      rw [cond_pos (by omega), if_pos (Or.inl c)]

theorem parse_j0 {w : Int} {p : Nat} (r b : Int) (hw : 2 ≤ w) (hw2 : w ≤ 16) (hp : p ≤ 16) (neg : Bool) (x y rr : List UInt8) (okA : Bool) (hx : okA = true → x.all dgt = true) (hl : okA = true → x.length ≤ 20) (hy : y.length ≤ 100) (k0 : Int → Int → Option R) :
    arith_ParseFixed_j0 2000 k0 neg (Tx x) (Tx y) (decide (46 ∈ rr)) okA w p r b = if okA = true ∧ synB p rr y = true then k0 (prs2 w p neg (numF 0 (x ++ y))).1 (prs2 w p neg (numF 0 (x ++ y))).2 else k0 0 7 := by
  have no : arith_ParseFixed_j1 2000 k0 neg (Tx x) (Tx y) false w p r b = k0 0 7 := by unfold arith_ParseFixed_j1; rfl
  unfold arith_ParseFixed_j0
  cases okA
  · rw [cond_false, if_neg (by simp)]; exact no
  · rw [cond_true]
    unfold synB
    have hx' := hx rfl
    have hl' := hl rfl
    have ed : decide ((0 : Int) < (p : Int)) = decide (0 < p) := by rw [decide_eq_decide]; omega
    rw [ed]
    by_cases h1 : (decide (46 ∈ rr) == decide (0 < p)) = true
    · rw [h1, cond_true, Tx_size]
      by_cases h2 : y.length = p
      · rw [cond_pos (by omega), decide_eq_true h2]
        by_cases h3 : p = 0
        · have hy0 : y = [] := List.eq_nil_of_length_eq_zero (by omega)
          rw [cond_pos (by omega), hy0]
          rw [parse_j1 r b hw hw2 hp neg x [] true (fun _ => by rw [List.append_nil]; exact ⟨hx', by omega⟩)]
          simp
        · have hne : y ≠ [] := fun e => by rw [e] at h2; simp at h2; omega
          rw [cond_neg (by omega), digits_eq y (by omega), decide_eq_true hne, Bool.true_and]
          rw [parse_j1 r b hw hw2 hp neg x y (y.all dgt) (fun q => by rw [List.all_append, List.length_append, hx', q]; exact ⟨rfl, by omega⟩)]
          simp
      · rw [cond_neg (by omega), decide_eq_false h2]
        simp [no]
    · rw [Bool.eq_false_iff.2 h1, cond_false]
      simp [no]
theorem bef_len (l : List UInt8) : (bef l).length ≤ l.length ∧ (aft l).length ≤ l.length := by
  by_cases h : (46 : UInt8) ∈ l
  · have hlen : l.length = (bef l).length + (aft l).length + 1 := by
      conv => lhs; rw [(cut_in h).2]
      simp; omega
    omega
  · rw [(cut_out h).2.1, (cut_out h).2.2]; simp
theorem rst_len (l : List UInt8) : (rst l).length ≤ l.length := by
  unfold rst; split
  · simp
  · omega
theorem parseFixed_eq {w r b : Int} {p : Nat} (l : List UInt8) (hl : l.length ≤ 100) (k : Int → Int → Option R) : arith_ParseFixed 2000 (Tx l) w p r b k = if ferr w p r b = 0 then k (prs w p l).1 (prs w p l).2 else k 0 (ferr w p r b) := by
  unfold arith_ParseFixed
  rw [checkForm_eq 2000 (by omega)]
  by_cases hf : ferr w p r b = 0
  · have hv := ferr_ok hf
    have hw : 2 ≤ w ∧ w ≤ 16 := by
      unfold ferr at hf
      split at hf
      · assumption
      · cases hf
    have hp : (p : Int) ≤ w - 1 := by
      unfold ferr at hf
      rw [if_pos hw] at hf
      split at hf
      · rename_i q; exact q.2
      · cases hf
    have hr := rst_len l
    have hb := bef_len (rst l)
    rw [if_pos hf, cond_neg (by simp [hf]), cutPrefix_eq 2000 l (by omega), cut_eq 2000 (rst l) (by omega), Tx_size]
    unfold prs synA
    generalize hA : bef (rst l) = x at *
    generalize hB : aft (rst l) = y at *
    generalize rst l = rr at *
    generalize isNeg l = neg at *
    by_cases h1 : l.length ≤ 20
    · rw [cond_pos (by omega), digits_eq x (by omega), decide_eq_true h1]
      by_cases h2 : (decide (x ≠ []) && x.all dgt) = true
      · obtain ⟨h2a, h2b⟩ := Bool.and_eq_true_iff.1 h2
        rw [h2, cond_true, Tx_size]
        by_cases h3 : x.length = 1
        · rw [cond_pos (by omega), parse_j0 r b hw.1 hw.2 (by omega) neg x y rr true (fun _ => h2b) (fun _ => by omega) (by omega)]
          simp only [h3, decide_true, Bool.true_and, Bool.true_or, true_and]
          split <;> rfl
        · have hx0 : 0 < x.length := List.length_pos_iff.2 (of_decide_eq_true h2a)
          have e0 : byte? (Tx x) 0 = some (x[0].toNat : Int) := Tx_byte (i := 0) hx0
          have eh : decide ((x[0].toNat : Int) ≠ 48) = decide (x.head? ≠ some 48) := by
            rw [decide_eq_decide, List.head?_eq_getElem?, List.getElem?_eq_getElem hx0, Ne, Ne, Option.some_inj, show (48 : Int) = ((48 : Nat) : Int) from rfl, byte_eq (by omega)]; rfl
          rw [cond_neg (by omega), e0, some_bind', eh, parse_j0 r b hw.1 hw.2 (by omega) neg x y rr _ (fun _ => h2b) (fun _ => by omega) (by omega)]
          simp only [h3, decide_false, Bool.true_and, Bool.false_or]
          split <;> rfl
      · rw [Bool.eq_false_iff.2 h2, cond_false, parse_j0 r b hw.1 hw.2 (by omega) neg x y rr false (fun q => by cases q) (fun q => by cases q) (by omega)]
        simp
    · rw [cond_neg (by omega), decide_eq_false h1, parse_j0 r b hw.1 hw.2 (by omega) neg x y rr false (fun q => by cases q) (fun q => by cases q) (by omega)]
      simp
  · rw [if_neg hf, cond_pos hf]

/-! ### Reading a number: the reference -/
def spl : List UInt8 → List (List UInt8)
  | [] => [[]]
  | c :: r => if c = 46 then [] :: spl r else match spl r with
    | [] => [[c]]
    | h :: t => (c :: h) :: t
theorem spl_step : ∀ (x y : List UInt8), (46 : UInt8) ∉ x → spl (x ++ 46 :: y) = x :: spl y
  | [], y, _ => by rw [List.nil_append, spl, if_pos rfl]
  | c :: x, y, h => by
    have e : c ≠ 46 := fun q => h (by rw [q]; simp)
    rw [List.cons_append, spl, if_neg e, spl_step x y (fun q => h (List.mem_cons_of_mem _ q))]
theorem spl_none : ∀ (x : List UInt8), (46 : UInt8) ∉ x → spl x = [x]
  | [], _ => rfl
  | c :: x, h => by
    have e : c ≠ 46 := fun q => h (by rw [q]; simp)
    rw [spl, if_neg e, spl_none x (fun q => h (List.mem_cons_of_mem _ q))]
theorem Cut_loop (N : Nat) (k0 : ByteArray → Int → Option R) (k : List ByteArray → Option R) {l : List UInt8} (hl : l.length ≤ 1000) : ∀ (n i st : Nat) (x : List UInt8) (acc : List ByteArray), l.length < n + i → i ≤ l.length → st ≤ i → l.drop st = x ++ l.drop i → (46 : UInt8) ∉ x → acc.length ≤ st →
    ratchetbase_Cut_l0 N k0 (fun z4 z5 z6 => (bif slP z5 ((z4.size : Nat) : Int) z4.size then (bif roomB (z6.length + 1) 16 then (k (z6 ++ [(ByteArray.extract z4 z5.toNat z4.size)])) else none) else none)) n (Tx l) 46 st i acc = k (acc ++ (spl (l.drop st)).map Tx) := by
  intro n
  induction n with
  | zero => intro i st x acc h1 h2; omega
  | succ n ih =>
    intro i st x acc h1 h2 h3 hx hn ha
    rw [ratchetbase_Cut_l0, Tx_size]
    have hxl : x.length = i - st := by
      have := congrArg List.length hx
      rw [List.length_append, List.length_drop, List.length_drop] at this
      omega
    by_cases h : i < l.length
    · rw [cond_pos (by omega), Tx_byte h, some_bind']
      by_cases c : l[i] = 46
      · have hx2 : l.drop st = x ++ 46 :: l.drop (i + 1) := by rw [hx, drop_cons h, c]
        rw [cond_pos (by rw [c]; rfl), slP_of (by omega), cond_true, roomB_of (by omega), cond_true, w64_succ (by omega), Int.toNat_natCast, Int.toNat_natCast, ih (i + 1) (i + 1) [] _ (by omega) (by omega) (by omega) rfl (by simp) (by simp; omega), hx2, spl_step x _ hn, Tx_ext, hx]
        rw [List.take_left' hxl, List.map_cons, List.append_assoc]; rfl
      · rw [cond_neg (by intro q; exact c ((byte_eq (n := 46) (by omega)).1 q)), w64_succ (by omega)]
        refine ih (i + 1) st (x ++ [l[i]]) acc (by omega) (by omega) (by omega) ?_ ?_ ha
        · rw [hx, drop_cons h]; simp
        · intro q
          rcases List.mem_append.1 q with q | q
          · exact hn q
          · exact c (List.mem_singleton.1 q).symm
    · have hi : i = l.length := by omega
      have hx2 : l.drop st = x := by rw [hx, hi]; simp
      rw [cond_neg (by omega)]
      show (bif slP (st : Int) (((Tx l).size : Nat) : Int) (Tx l).size then (bif roomB (acc.length + 1) 16 then k (acc ++ [ByteArray.extract (Tx l) (st : Int).toNat (Tx l).size]) else none) else none) = _
      rw [Tx_size, slP_of (by omega), cond_true, roomB_of (by omega), cond_true, Int.toNat_natCast, hx2, spl_none x hn, Tx_ext, List.take_of_length_le (by simp), hx2]
      rfl
theorem Cut_eq (l : List UInt8) (hl : l.length ≤ 1000) (k : List ByteArray → Option R) : ratchetbase_Cut 2000 (Tx l) 46 k = k ((spl l).map Tx) := by
  unfold ratchetbase_Cut
  have := Cut_loop 2000 (fun z2 z3 => (bif slP z3 ((z2.size : Nat) : Int) z2.size then (k [(ByteArray.extract z2 z3.toNat z2.size)]) else none)) k hl 2000 0 0 [] [] (by omega) (by omega) (by omega) rfl (by simp) (by simp)
  rw [List.drop_zero, List.nil_append] at this
  exact this
theorem digV {c : UInt8} (h : dgt c = true) : w64 (IntKind.wrap .u8 ((c.toNat : Int) - 48)) = (dval c : Int) := by
  have h1 := of_decide_eq_true h
  have e : (c.toNat : Int) - 48 = ((dval c : Nat) : Int) := by unfold dval; omega
  have hd := dval_le h
  rw [e, wu8 (by omega), w64_id (by omega) (by omega)]
theorem digB (c : UInt8) : decide ((48 : Int) ≤ w64 (c.toNat : Int) ∧ w64 (c.toNat : Int) ≤ 57) = dgt c := by
  have := byte_lt c
  rw [w64_id (by omega) (by omega)]
  unfold dgt
  rw [decide_eq_decide]; omega
theorem natural_loop (N : Nat) (k0 : Int → Bool → Option R) (k1 : Int → Option R) {l : List UInt8} (hl : l.length ≤ 1000) : ∀ (n i m : Nat), l.length < n + i → i ≤ l.length →
    ratchetref30_natural_l0 N k0 k1 n (Tx l) ((min m 1073741824 : Nat) : Int) i = if (l.drop i).all dgt = true then k1 ((min (numF m (l.drop i)) 1073741824 : Nat) : Int) else k0 0 false := by
  intro n
  induction n with
  | zero => intro i m h1 h2; omega
  | succ n ih =>
    intro i m h1 h2
    rw [ratchetref30_natural_l0, Tx_size]
    by_cases h : i < l.length
    · rw [cond_pos (by omega), Tx_byte h, some_bind', some_bind', Within_eq, digB, drop_cons h, List.all_cons]
      cases e : dgt l[i]
      · rfl
      · have hd := dval_le e
        rw [show (!true) = false from rfl, cond_false, digV e, w64_succ (by omega), Bool.true_and, w64_id (x := ((min m 1073741824 : Nat) : Int) * 10) (by omega) (by omega), w64_id (by omega) (by omega), numF_cons]
        have e2 : min (((min m 1073741824 : Nat) : Int) * 10 + (dval l[i] : Int)) 1073741824 = ((min (m * 10 + dval l[i]) 1073741824 : Nat) : Int) := by omega
        rw [e2]
        exact ih (i + 1) _ (by omega) (by omega)
    · have : i = l.length := by omega
      subst this
      rw [cond_neg (by omega)]
      simp [numF]
def natOK (a : List UInt8) : Bool := (decide (a ≠ []) && a.all dgt) && (decide (a.length = 1) || decide (a.head? ≠ some 48))
theorem natural_eq (a : List UInt8) (hl : a.length ≤ 1000) (k : Int → Bool → Option R) : ratchetref30_natural 2000 (Tx a) k = if natOK a = true then k ((min (numF 0 a) 1073741824 : Nat) : Int) true else k 0 false := by
  unfold ratchetref30_natural
  rw [Tx_nil, Tx_size]
  have hj : ratchetref30_natural_j0 2000 (fun z7 z8 => k z7 z8) (Tx a) = if a.all dgt = true then k ((min (numF 0 a) 1073741824 : Nat) : Int) true else k 0 false := by
    unfold ratchetref30_natural_j0
    have := natural_loop 2000 (fun z4 z5 => (k z4 z5)) (fun z6 => (k z6 true)) hl 2000 0 0 (by omega) (by omega)
    rw [List.drop_zero] at this
    exact this
  unfold natOK
  by_cases h : a = []
  · rw [cond_pos (by rw [h]), h]; rfl
  · have h0 : 0 < a.length := List.length_pos_iff.2 h
    have e0 : byte? (Tx a) 0 = some (a[0].toNat : Int) := Tx_byte (i := 0) h0
    have eh : decide ((a[0].toNat : Int) = 48) = decide (a.head? = some 48) := by
      rw [decide_eq_decide, List.head?_eq_getElem?, List.getElem?_eq_getElem h0, Option.some_inj, show (48 : Int) = ((48 : Nat) : Int) from rfl, byte_eq (by omega)]; rfl
    rw [cond_neg (fun q => h (Tx_inj.1 q)), e0, some_bind', eh, hj, decide_eq_true h, Bool.true_and]
    by_cases c : a.head? = some 48
    · rw [cond_pos c]
      by_cases d : a.length = 1
      · rw [cond_neg (by omega), decide_eq_true d]; simp
      · rw [cond_pos (by omega), decide_eq_false d, if_neg]
        simp [c]
    · rw [cond_neg c, decide_eq_true c]; simp
theorem pow10_le {i j : Nat} (h : i ≤ j) : 10 ^ i ≤ 10 ^ j := Nat.pow_le_pow_right (by omega) h
theorem mag_l0 (N : Nat) (k0 : Int → Bool → Option R) (k1 : Int → Bool → Int → Int → Option R) (neg : Bool) (parts : List ByteArray) (wh : Int) {y : List UInt8} (hy : y.length ≤ 15) (h1 : 0 < y.length → at? parts 1 = some (Tx y)) : ∀ (n i d : Nat) (ten : Int), y.length < n + i → i ≤ y.length → d < 10 ^ i →
    ratchetref30_magnitude_l0 N k0 k1 n (y.length : Int) neg parts wh (d : Int) ten i = if (y.drop i).all dgt = true then k1 (y.length : Int) neg wh ((numF d (y.drop i) : Nat) : Int) else k0 0 false := by
  intro n
  induction n with
  | zero => intro i d ten h1 h2; omega
  | succ n ih =>
    intro i d ten g1 g2 hd
    rw [ratchetref30_magnitude_l0]
    by_cases h : i < y.length
    · have h10 : 10 ^ i ≤ 10 ^ 14 := pow10_le (by omega)
      have hc : (10 : Nat) ^ 14 = 100000000000000 := by decide
      have hlt := byte_lt y[i]
      rw [cond_pos (by omega), h1 (by omega), some_bind', Tx_byte h, some_bind', Within_eq, digB, drop_cons h, List.all_cons]
      cases e : dgt y[i]
      · rfl
      · have hv := dval_le e
        have hd2 : ((y[i].toNat : Nat) : Int) = (dval y[i] : Int) + 48 := by
          have := of_decide_eq_true e
          unfold dval; omega
        have e2 : w64 (w64 (w64 ((d : Int) * 10) + w64 (y[i].toNat : Int)) - 48) = ((d * 10 + dval y[i] : Nat) : Int) := by
          rw [w64_id (x := (d : Int) * 10) (by omega) (by omega), w64_id (x := (y[i].toNat : Int)) (by omega) (by omega), w64_id (x := (d : Int) * 10 + _) (by omega) (by omega), w64_id (by omega) (by omega)]
          omega
        rw [show (!true) = false from rfl, cond_false, e2, w64_succ (by omega), Bool.true_and, numF_cons]
        exact ih (i + 1) _ _ (by omega) (by omega) (by rw [Nat.pow_succ]; omega)
    · have : i = y.length := by omega
      subst this
      rw [cond_neg (by omega)]
      simp [numF]
theorem mag_l1 (N : Nat) (k0 : Int → Bool → Int → Int → Int → Option R) (neg : Bool) (wh dg : Int) {p : Nat} (hp : p ≤ 15) : ∀ (n i : Nat), p < n + i → i ≤ p →
    ratchetref30_magnitude_l1 N k0 n (p : Int) neg wh dg ((5 ^ i : Nat) : Int) i = k0 p neg wh dg ((5 ^ p : Nat) : Int) := by
  intro n
  induction n with
  | zero => intro i g1 g2; omega
  | succ n ih =>
    intro i g1 g2
    rw [ratchetref30_magnitude_l1]
    by_cases h : i < p
    · have h5 : 5 ^ i ≤ 5 ^ 14 := Nat.pow_le_pow_right (by omega) (by omega)
      have hc : (5 : Nat) ^ 14 = 6103515625 := by decide
      have e : w64 (((5 ^ i : Nat) : Int) * 5) = ((5 ^ (i + 1) : Nat) : Int) := by
        rw [Nat.pow_succ]
        generalize 5 ^ i = F at *
        rw [w64_id (by omega) (by omega)]; omega
      rw [cond_pos (by omega), e, w64_succ (by omega)]
      exact ih (i + 1) (by omega) (by omega)
    · have : i = p := by omega
      subst this
      rw [cond_neg (by omega)]

def nn (p : Nat) (x y : List UInt8) : Nat := min (numF 0 x) 1073741824 * 2 ^ p + numF 0 y / 5 ^ p
def magOK (p : Nat) (neg : Bool) (x y : List UInt8) : Prop := natOK x = true ∧ y.all dgt = true ∧ numF 0 y % 5 ^ p = 0 ∧ ¬ (neg = true ∧ nn p x y = 0)
theorem nn_le {p : Nat} (hp : p ≤ 15) {x y : List UInt8} (hy : y.length ≤ 15) (hd : y.all dgt = true) : nn p x y ≤ 2000000000000000 := by
  unfold nn
  have h1 := numF_lt hd
  have h2 : 10 ^ y.length ≤ 10 ^ 15 := pow10_le hy
  have h3 : (10 : Nat) ^ 15 = 1000000000000000 := by decide
  have h4 : 2 ^ p ≤ 2 ^ 15 := Nat.pow_le_pow_right (by omega) hp
  have h5 : (2 : Nat) ^ 15 = 32768 := by decide
  have h6 : min (numF 0 x) 1073741824 * 2 ^ p ≤ 1073741824 * 32768 := Nat.mul_le_mul (by omega) (by omega)
  have h7 : numF 0 y / 5 ^ p ≤ numF 0 y := Nat.div_le_self _ _
  omega
theorem mag_j2 (k0 : Int → Bool → Option R) {p : Nat} (hp : p ≤ 15) (neg : Bool) {x y : List UInt8} (parts : List ByteArray) (hx0 : at? parts 0 = some (Tx x)) (hy : y.length = p) (h1 : 0 < y.length → at? parts 1 = some (Tx y)) (hxl : x.length ≤ 1000) [Decidable (magOK p neg x y)] :
    ratchetref30_magnitude_j2 2000 k0 p neg parts = if magOK p neg x y then k0 (if neg = true then -((nn p x y : Nat) : Int) else ((nn p x y : Nat) : Int)) true else k0 0 false := by
  unfold ratchetref30_magnitude_j2
  rw [hx0, some_bind', natural_eq x hxl]
  by_cases a : natOK x = true
  · rw [if_pos a, show (!true) = false from rfl, cond_false]
    have l0 := mag_l0 2000 (fun z4 z5 => (k0 z4 z5)) (fun z6 z7 z8 z9 => (ratchetref30_magnitude_l1 2000 (fun z10 z11 z12 z13 z14 => (bif decide (z14 = 0) then none else (bif decide ((Int.tmod z13 z14) ≠ 0) then (k0 0 false) else (ratchetbase_Power 2000 z10 (fun y15 => (bif decide (z14 = 0) then none else (bif z11 then (bif decide ((w64 ((w64 (z12 * y15)) + (w64 (Int.tdiv z13 z14)))) = 0) then (k0 0 false) else (bif z11 then (k0 (w64 (0 - (w64 ((w64 (z12 * y15)) + (w64 (Int.tdiv z13 z14)))))) true) else (k0 (w64 ((w64 (z12 * y15)) + (w64 (Int.tdiv z13 z14)))) true))) else (bif z11 then (k0 (w64 (0 - (w64 ((w64 (z12 * y15)) + (w64 (Int.tdiv z13 z14)))))) true) else (k0 (w64 ((w64 (z12 * y15)) + (w64 (Int.tdiv z13 z14)))) true))))))))) 2000 z6 z7 z8 z9 1 0)) neg parts ((min (numF 0 x) 1073741824 : Nat) : Int) (by omega) h1 2000 0 0 1 (by omega) (by omega) (by simp)
    rw [hy] at l0
    refine Eq.trans l0 ?_
    rw [List.drop_zero]
    by_cases c : y.all dgt = true
    · rw [if_pos c]
      have l1 := mag_l1 2000 (fun z10 z11 z12 z13 z14 => (bif decide (z14 = 0) then none else (bif decide ((Int.tmod z13 z14) ≠ 0) then (k0 0 false) else (ratchetbase_Power 2000 z10 (fun y15 => (bif decide (z14 = 0) then none else (bif z11 then (bif decide ((w64 ((w64 (z12 * y15)) + (w64 (Int.tdiv z13 z14)))) = 0) then (k0 0 false) else (bif z11 then (k0 (w64 (0 - (w64 ((w64 (z12 * y15)) + (w64 (Int.tdiv z13 z14)))))) true) else (k0 (w64 ((w64 (z12 * y15)) + (w64 (Int.tdiv z13 z14)))) true))) else (bif z11 then (k0 (w64 (0 - (w64 ((w64 (z12 * y15)) + (w64 (Int.tdiv z13 z14)))))) true) else (k0 (w64 ((w64 (z12 * y15)) + (w64 (Int.tdiv z13 z14)))) true))))))))) neg ((min (numF 0 x) 1073741824 : Nat) : Int) ((numF 0 y : Nat) : Int) hp 2000 0 (by omega) (by omega)
      refine Eq.trans l1 ?_
      have hF : 0 < 5 ^ p := Nat.pow_pos (by omega)
      have hle := nn_le hp (x := x) (y := y) (by omega) c
      have hv : w64 (w64 (((min (numF 0 x) 1073741824 : Nat) : Int) * p2 (p : Int)) + w64 (Int.tdiv ((numF 0 y : Nat) : Int) ((5 ^ p : Nat) : Int))) = ((nn p x y : Nat) : Int) := by
        unfold nn at hle ⊢
        have e1 : Int.tdiv ((numF 0 y : Nat) : Int) ((5 ^ p : Nat) : Int) = ((numF 0 y / 5 ^ p : Nat) : Int) := by
          rw [Int.tdiv_eq_ediv_of_nonneg (by omega)]; rfl
        have e2 : ((min (numF 0 x) 1073741824 : Nat) : Int) * p2 (p : Int) = ((min (numF 0 x) 1073741824 * 2 ^ p : Nat) : Int) := by
          rw [p2_nat, Int.natCast_mul]
        rw [e1, e2]
        generalize min (numF 0 x) 1073741824 * 2 ^ p = A at *
        generalize numF 0 y / 5 ^ p = B at *
        rw [w64_id (x := (A : Int)) (by omega) (by omega), w64_id (x := (B : Int)) (by omega) (by omega), w64_id (by omega) (by omega)]
        rfl
      have hz : ((5 ^ p : Nat) : Int) ≠ 0 := by
        generalize 5 ^ p = F at *
        omega
      have hm : Int.tmod ((numF 0 y : Nat) : Int) ((5 ^ p : Nat) : Int) = ((numF 0 y % 5 ^ p : Nat) : Int) := by
        rw [Int.tmod_eq_emod_of_nonneg (by omega)]; rfl
      rw [cond_neg hz, hm]
      by_cases d : numF 0 y % 5 ^ p = 0
      · rw [cond_neg (by rw [d]; simp), power_eq 2000 (by omega) (by omega), cond_neg hz, hv]
        have hN : w64 (0 - ((nn p x y : Nat) : Int)) = -((nn p x y : Nat) : Int) := by rw [w64_id (by omega) (by omega), Int.zero_sub]
        cases neg
        · rw [cond_false, cond_false, if_pos ⟨a, c, d, by simp⟩, if_neg (by simp)]
        · rw [cond_true]
          by_cases e : nn p x y = 0
          · rw [cond_pos (by omega), if_neg (fun q => q.2.2.2 ⟨rfl, e⟩)]
          · rw [cond_neg (by omega), cond_true, hN, if_pos ⟨a, c, d, fun q => e q.2⟩, if_pos rfl]
      · rw [cond_pos (by generalize numF 0 y % 5 ^ p = F at *; omega), if_neg (fun q => d q.2.2.1)]
    · rw [if_neg c, if_neg (fun q => c q.2.1)]
  · rw [if_neg a, if_neg (fun q => a q.1)]; rfl
theorem spl_pos (l : List UInt8) : 1 ≤ (spl l).length := by
  induction l with
  | nil => simp [spl]
  | cons c r ih =>
    rw [spl]
    split
    · simp
    · split <;> simp
theorem bef_no : ∀ (l : List UInt8), (46 : UInt8) ∉ bef l
  | [] => by simp [bef]
  | c :: r => by
    have ih := bef_no r
    unfold bef at ih ⊢
    rw [List.takeWhile_cons]
    split
    · rename_i h
      intro q
      rcases List.mem_cons.1 q with q | q
      · rw [← q] at h; simp at h
      · exact ih q
    · simp
theorem mag_j1 (k0 : Int → Bool → Option R) {p : Nat} (hp : p ≤ 15) (neg : Bool) (l : List UInt8) (hl : l.length ≤ 1000) [Decidable (magOK p neg (bef l) (aft l))] :
    ratchetref30_magnitude_j1 2000 k0 (Tx l) p neg = if synB p l (aft l) = true ∧ magOK p neg (bef l) (aft l) then k0 (if neg = true then -((nn p (bef l) (aft l) : Nat) : Int) else ((nn p (bef l) (aft l) : Nat) : Int)) true else k0 0 false := by
  unfold ratchetref30_magnitude_j1
  rw [Cut_eq l hl]
  have hbl := bef_len l
  unfold synB
  by_cases h : (46 : UInt8) ∈ l
  · have hs : spl l = bef l :: spl (aft l) := by
      conv => lhs; rw [(cut_in h).2]
      exact spl_step _ _ (bef_no l)
    have hsp := spl_pos (aft l)
    rw [decide_eq_true h, hs, List.length_map, List.length_cons]
    by_cases h0 : p = 0
    · rw [cond_pos (by omega), cond_pos (by omega), if_neg]
      rw [h0]; simp
    · rw [cond_neg (by omega), cond_pos (by omega)]
      by_cases h2 : (46 : UInt8) ∈ aft l
      · have hs2 : spl (aft l) = bef (aft l) :: spl (aft (aft l)) := by
          conv => lhs; rw [(cut_in h2).2]
          exact spl_step _ _ (bef_no _)
        have hsp2 := spl_pos (aft (aft l))
        rw [cond_pos (by rw [hs2, List.length_cons]; omega), if_neg]
        rintro ⟨q, -⟩
        rw [Bool.and_eq_true] at q
        have := List.all_eq_true.1 q.2 _ h2
        exact absurd this (by decide)
      · have hs2 := spl_none (aft l) h2
        have e1 : at? (List.map Tx (bef l :: spl (aft l))) 1 = some (Tx (aft l)) := by rw [hs2]; rfl
        rw [cond_neg (by rw [hs2]; simp), e1, some_bind', Tx_size]
        by_cases h3 : (aft l).length = p
        · rw [cond_neg (by omega), mag_j2 (x := bef l) (y := aft l) _ hp neg _ rfl h3 (fun _ => e1) (by omega)]
          have hpp : decide (0 < p) = true := decide_eq_true (by omega)
          simp only [hpp, h3, decide_true, Bool.true_and, beq_self_eq_true]
          by_cases c : (aft l).all dgt = true
          · simp only [c, true_and]
          · rw [if_neg (fun q => c q.2.1), if_neg (fun q => c q.1)]
        · rw [cond_pos (by omega), if_neg]
          rintro ⟨q, -⟩
          simp [h3] at q
  · obtain ⟨-, i2, i3⟩ := cut_out h
    have hs := spl_none l h
    rw [decide_eq_false h, hs]
    by_cases h0 : p = 0
    · rw [cond_pos (by omega), cond_neg (by simp), cond_neg (by omega), mag_j2 (x := bef l) (y := aft l) _ hp neg _ (by rw [i2]; rfl) (by rw [i3, h0]; rfl) (fun q => by rw [i3] at q; simp at q) (by omega)]
      have : (((false == decide (0 < p)) && decide ((aft l).length = p)) && (aft l).all dgt) = true := by rw [i3, h0]; rfl
      simp only [this, true_and]
    · rw [cond_neg (by omega), cond_pos (by omega), cond_pos (by simp), if_neg]
      rintro ⟨q, -⟩
      have hpp : decide (0 < p) = true := decide_eq_true (by omega)
      rw [hpp] at q
      simp at q
theorem mag_eq (k0 : Int → Bool → Option R) {p : Nat} (hp : p ≤ 15) (l : List UInt8) (hl : l.length ≤ 1000) [Decidable (magOK p (isNeg l) (bef (rst l)) (aft (rst l)))] :
    ratchetref30_magnitude 2000 (Tx l) p k0 = if synB p (rst l) (aft (rst l)) = true ∧ magOK p (isNeg l) (bef (rst l)) (aft (rst l)) then k0 (if isNeg l = true then -((nn p (bef (rst l)) (aft (rst l)) : Nat) : Int) else ((nn p (bef (rst l)) (aft (rst l)) : Nat) : Int)) true else k0 0 false := by
  unfold ratchetref30_magnitude
  rw [Tx_size]
  have hr := rst_len l
  have hj0 : ∀ k0 : Int → Bool → Option R, ratchetref30_magnitude_j0 2000 k0 (Tx l) p (isNeg l) = ratchetref30_magnitude_j1 2000 k0 (Tx (rst l)) p (isNeg l) := by
    intro k0
    unfold ratchetref30_magnitude_j0
    unfold rst
    cases e : isNeg l
    · rw [cond_false, if_neg (by simp)]
    · have h0 : 0 < l.length := by
        cases l with
        | nil => cases e
        | cons c r => simp
      rw [cond_true, if_pos rfl, Tx_size, slP_of (by omega), cond_true, Tx_ext, List.take_of_length_le (by simp)]
  cases l with
  | nil =>
    rw [cond_neg (by simp)]
    exact (hj0 _).trans (mag_j1 _ hp _ _ (by omega))
  | cons c r =>
    have e0 : byte? (Tx (c :: r)) 0 = some (c.toNat : Int) := Tx_byte (l := c :: r) (i := 0) (by simp)
    have e1 : decide ((c.toNat : Int) = 45) = isNeg (c :: r) := by
      unfold isNeg
      rw [decide_eq_decide, show (45 : Int) = ((45 : Nat) : Int) from rfl, byte_eq (by omega)]
      exact (Option.some_inj (a := c) (b := 45)).symm
    rw [cond_pos (by simp), e0, some_bind', e1]
    exact (hj0 _).trans (mag_j1 _ hp _ _ (by omega))

theorem pow5_10 (p : Nat) : 10 ^ p = 2 ^ p * 5 ^ p := by rw [← Nat.mul_pow]
theorem num_split {p : Nat} (x y : List UInt8) (hy : y.length = p) : numF 0 (x ++ y) % 5 ^ p = numF 0 y % 5 ^ p ∧ numF 0 (x ++ y) / 5 ^ p = numF 0 x * 2 ^ p + numF 0 y / 5 ^ p := by
  have e : numF 0 (x ++ y) = numF 0 y + 5 ^ p * (numF 0 x * 2 ^ p) := by
    rw [numF_app, numF_add, hy, pow5_10, Nat.add_comm, ← Nat.mul_assoc, Nat.mul_comm (5 ^ p)]
  rw [e, Nat.add_mul_mod_self_left, Nat.add_mul_div_left _ _ (Nat.pow_pos (by omega)), Nat.add_comm]
  exact ⟨rfl, rfl⟩
theorem Parse_eq {w r b : Int} {p : Nat} (l : List UInt8) (hl : l.length ≤ 100) (k : Int → Int → Option R) : ratchetref30_Parse 2000 (Tx l) w p r b k = if ferr w p r b = 0 then k (prs w p l).1 (prs w p l).2 else k 0 (ferr w p r b) := by
  unfold ratchetref30_Parse
  rw [FormErr_eq]
  by_cases hf : ferr w p r b = 0
  · have hw : 2 ≤ w ∧ w ≤ 16 := by
      unfold ferr at hf
      split at hf
      · assumption
      · cases hf
    have hp : (p : Int) ≤ w - 1 := by
      unfold ferr at hf
      rw [if_pos hw] at hf
      split at hf
      · rename_i q; exact q.2
      · cases hf
    have hp15 : p ≤ 15 := by omega
    haveI := Classical.propDecidable (magOK p (isNeg l) (bef (rst l)) (aft (rst l)))
    rw [if_pos hf, cond_neg (by simp [hf]), mag_eq _ hp15 l (by omega)]
    unfold prs
    have hA : synA l (bef (rst l)) = (decide (l.length ≤ 20) && natOK (bef (rst l))) := by unfold synA natOK; rw [Bool.and_assoc]
    rw [hA]
    have hlens := bef_len (rst l)
    have hr := rst_len l
    generalize bef (rst l) = x at *
    generalize aft (rst l) = y at *
    generalize rst l = rr at *
    generalize isNeg l = neg at *
    by_cases s1 : synB p rr y = true
    · have hyl : y.length = p := by
        unfold synB at s1
        rw [Bool.and_eq_true, Bool.and_eq_true] at s1
        exact of_decide_eq_true s1.1.2
      have hyd : y.all dgt = true := by
        unfold synB at s1
        rw [Bool.and_eq_true] at s1
        exact s1.2
      obtain ⟨n1, n2⟩ := num_split x y hyl
      have hnl := nn_le hp15 (x := x) (y := y) (by omega) hyd
      have h2p : 0 < 2 ^ p := Nat.pow_pos (by omega)
      have h5p : 0 < 5 ^ p := Nat.pow_pos (by omega)
      -- the number that is read, and that which the reference reckons with
      have hbig : numF 0 x ≤ 1073741824 ∧ nn p x y = numF 0 (x ++ y) / 5 ^ p ∨ 65536 < nn p x y ∧ 65536 < numF 0 (x ++ y) / 5 ^ p := by
        rw [n2]
        unfold nn
        rcases Nat.lt_or_ge 1073741824 (numF 0 x) with c | c
        · right
          have a1 : 1073741824 * 1 ≤ 1073741824 * 2 ^ p := Nat.mul_le_mul_left _ h2p
          have a2 : 1073741824 * 2 ^ p ≤ numF 0 x * 2 ^ p := Nat.mul_le_mul_right _ (by omega)
          have a3 : min (numF 0 x) 1073741824 = 1073741824 := by omega
          rw [a3]
          clear n1 n2
          generalize numF 0 y / 5 ^ p = Q at *
          generalize numF 0 x * 2 ^ p = Z at *
          omega
        · left
          have a3 : min (numF 0 x) 1073741824 = numF 0 x := by omega
          rw [a3]
          exact ⟨c, rfl⟩
      by_cases s2 : natOK x = true
      · by_cases s3 : numF 0 y % 5 ^ p = 0
        · have hz : nn p x y = 0 ↔ numF 0 (x ++ y) = 0 := by
            have hd := Nat.div_add_mod (numF 0 (x ++ y)) (5 ^ p)
            rw [n1, s3] at hd
            have hq : numF 0 (x ++ y) / 5 ^ p = 0 ↔ numF 0 (x ++ y) = 0 := by
              constructor
              · intro e; rw [e] at hd; omega
              · intro e; rw [e, Nat.zero_div]
            rw [← hq]
            rcases hbig with ⟨-, e⟩ | ⟨e1, e2⟩
            · rw [e]
            · omega
          by_cases s4 : neg = true ∧ nn p x y = 0
          · rw [if_neg (fun q => q.2.2.2.2 s4)]
            rw [show (!false) = true from rfl, cond_true]
            by_cases c : l.length ≤ 20
            · rw [if_pos (show (decide (l.length ≤ 20) && natOK x) = true ∧ synB p rr y = true from ⟨by rw [decide_eq_true c, s2]; rfl, s1⟩)]
              unfold prs2
              rw [if_pos (Or.inr ⟨s4.1, hz.1 s4.2⟩)]
            · rw [if_neg (show ¬ ((decide (l.length ≤ 20) && natOK x) = true ∧ synB p rr y = true) from by rw [decide_eq_false c]; simp)]
          · rw [if_pos ⟨s1, s2, hyd, s3, s4⟩, show (!true) = false from rfl, cond_false]
            by_cases c : l.length ≤ 20
            · rw [cond_neg (by rw [Tx_size]; omega), if_pos (show (decide (l.length ≤ 20) && natOK x) = true ∧ synB p rr y = true from ⟨by rw [decide_eq_true c, s2]; rfl, s1⟩)]
              unfold prs2
              have hno : ¬ (numF 0 (x ++ y) % 5 ^ p ≠ 0 ∨ (neg = true ∧ numF 0 (x ++ y) = 0)) := by
                rintro (q | q)
                · exact q (n1.trans s3)
                · exact s4 ⟨q.1, hz.2 q.2⟩
              rw [if_neg hno]
              have h15 : p2 (w - 1) ≤ 32768 := p2_15 (by omega)
              have hpos := p2_pos (w - 1)
              have h16 : p2 w ≤ 65536 := p2_16 (by omega)
              have hpos2 := p2_pos w
              have hw1 : w64 (w - 1) = w - 1 := w64_id (by omega) (by omega)
              rw [hw1, power_eq 2000 (by omega) (by omega), Within_eq, w64_id (x := 0 - p2 (w - 1)) (by omega) (by omega), w64_id (x := p2 (w - 1) - 1) (by omega) (by omega)]
              have hm : (if neg = true then p2 (w - 1) < ((numF 0 (x ++ y) / 5 ^ p : Nat) : Int) else p2 (w - 1) ≤ ((numF 0 (x ++ y) / 5 ^ p : Nat) : Int)) ↔ ¬ (0 - p2 (w - 1) ≤ (if neg = true then -((nn p x y : Nat) : Int) else ((nn p x y : Nat) : Int)) ∧ (if neg = true then -((nn p x y : Nat) : Int) else ((nn p x y : Nat) : Int)) ≤ p2 (w - 1) - 1) := by
                clear hz n1 n2 s3 s4
                generalize numF 0 (x ++ y) / 5 ^ p = M at *
                cases neg
                · simp only [Bool.false_eq_true, if_false]
                  omega
                · simp only [if_true]
                  omega
              unfold wt
              by_cases d : (0 - p2 (w - 1) ≤ (if neg = true then -((nn p x y : Nat) : Int) else ((nn p x y : Nat) : Int)) ∧ (if neg = true then -((nn p x y : Nat) : Int) else ((nn p x y : Nat) : Int)) ≤ p2 (w - 1) - 1)
              · have hnm : nn p x y = numF 0 (x ++ y) / 5 ^ p := by
                  rcases hbig with ⟨-, e⟩ | ⟨e1, e2⟩
                  · exact e
                  · exfalso
                    clear hm hz n1 n2 s3 s4
                    cases neg
                    · simp only [Bool.false_eq_true, if_false] at d; omega
                    · simp only [if_true] at d; omega
                rw [decide_eq_true d, show (!true) = false from rfl, cond_false, power_eq 2000 (by omega) (by omega), Mod_eq 2000 _ _ hpos2 (by omega)]
                rw [if_neg (fun q => hm.1 q d), hnm]
              · rw [decide_eq_false d, if_pos (hm.2 d)]; rfl
            · rw [cond_pos (by rw [Tx_size]; omega), if_neg (show ¬ ((decide (l.length ≤ 20) && natOK x) = true ∧ synB p rr y = true) from by rw [decide_eq_false c]; simp)]
        · rw [if_neg (fun q => s3 q.2.2.2.1), show (!false) = true from rfl, cond_true]
          by_cases c : l.length ≤ 20
          · rw [if_pos (show (decide (l.length ≤ 20) && natOK x) = true ∧ synB p rr y = true from ⟨by rw [decide_eq_true c, s2]; rfl, s1⟩)]
            unfold prs2
            rw [if_pos (Or.inl (by rw [n1]; exact s3))]
          · rw [if_neg (show ¬ ((decide (l.length ≤ 20) && natOK x) = true ∧ synB p rr y = true) from by rw [decide_eq_false c]; simp)]
      · rw [if_neg (fun q => s2 q.2.1), if_neg (by rintro ⟨q, -⟩; rw [Bool.and_eq_true] at q; exact s2 q.2)]; rfl
    · rw [if_neg (fun q => s1 q.1), if_neg (fun q => s1 q.2)]; rfl
  · rw [if_neg hf, cond_pos hf]

/-! ### Writing a number -/
def fstr (p U : Nat) : List UInt8 := Lib.decDigits (U / 10 ^ p) ++ (if p = 0 then [] else 46 :: pd p U)
theorem itoaB_nat (U : Nat) : itoaB (U : Int) = Tx (Lib.decDigits U) := by
  unfold itoaB Lib.itoa
  rw [if_neg (by omega)]; rfl
theorem repeat_one (c : Nat) : Lib.repeatL [48] c = List.replicate c 48 := by
  induction c with
  | zero => rfl
  | succ c ih => rw [Lib.repeatL, ih, List.replicate_succ]; rfl
theorem repB_eq (c : Nat) : repB (Tx [48]) c = Tx (List.replicate c 48) := by
  unfold repB
  show Tx (Lib.repeatL [48] c) = _
  rw [repeat_one]
theorem nD_le {U : Nat} (h : U < 1000000000000000000) : Lib.nDigits U ≤ 18 := nDigits_le 18 U (by omega) (by omega)
theorem fmt_pad (p U : Nat) : ∃ K, p + 1 ≤ K ∧ (K = Lib.nDigits U ∨ K = p + 1) ∧ List.replicate (p + 1 - Lib.nDigits U) 48 ++ Lib.decDigits U = pd K U ∧ pd (K - p) (U / 10 ^ p) = Lib.decDigits (U / 10 ^ p) := by
  have hlt := Lib.lt_pow_nDigits U
  rcases Nat.lt_or_ge (Lib.nDigits U) (p + 1) with c | c
  · refine ⟨p + 1, by omega, Or.inr rfl, ?_, ?_⟩
    · rw [dec_pd, ← pd_zero_head _ _ _ hlt]
      congr 1
      omega
    · have hU : U < 10 ^ p := Nat.lt_of_lt_of_le hlt (pow10_le (by omega))
      rw [Nat.div_eq_of_lt hU, show p + 1 - p = 1 by omega, dec_pd, Lib.nDigits_small (by omega)]
  · refine ⟨Lib.nDigits U, c, Or.inl rfl, ?_, ?_⟩
    · rw [show p + 1 - Lib.nDigits U = 0 by omega, List.replicate_zero, List.nil_append, dec_pd]
    · have hd : Lib.nDigits (U / 10 ^ p) = Lib.nDigits U - p := by
        clear hlt
        induction p generalizing U with
        | zero => rw [Nat.pow_zero, Nat.div_one, Nat.sub_zero]
        | succ p ih =>
          have hb : ¬ U < 10 := by
            intro q
            rw [Lib.nDigits_small q] at c
            omega
          have e := Lib.nDigits_big hb
          have e2 : U / 10 ^ (p + 1) = U / 10 / 10 ^ p := by rw [Nat.div_div_eq_div_mul, Nat.pow_succ, Nat.mul_comm]
          rw [e2, ih (U / 10) (by omega)]
          omega
      rw [dec_pd, hd]
theorem fmt_j0 (N : Nat) (k0 : ByteArray → Int → Option R) {U p : Nat} (hU : U < 1000000000000000000) (hp : p ≤ 15) (s : List UInt8) (hs : s.length ≤ 1) (w r b : Int) :
    arith_FormatFixed_j0 N k0 (U : Int) (Tx s) w p r b = k0 (Tx (s ++ fstr p U)) 0 := by
  have hn := nD_le hU
  have hn1 := Lib.nDigits_pos U
  have hdl : (Lib.decDigits U).length = Lib.nDigits U := Lib.decDigits_length U
  obtain ⟨K, hK, hK2, hL, hq⟩ := fmt_pad p U
  have hpl := pd_len K U
  have h48 : ByteArray.mk #[48] = Tx [48] := rfl
  have h46 : ByteArray.mk #[46] = Tx [46] := rfl
  have e1 : max 0 (w64 (w64 ((p : Int) + 1) - ((Lib.nDigits U : Nat) : Int))) = ((p + 1 - Lib.nDigits U : Nat) : Int) := by
    rw [w64_id (x := (p : Int) + 1) (by omega) (by omega), w64_id (by omega) (by omega)]; omega
  have e2 : w64 ((K : Int) - (p : Int)) = ((K - p : Nat) : Int) := by rw [w64_id (by omega) (by omega)]; omega
  have e3 : repOk (Tx [48]) ((p + 1 - Lib.nDigits U : Nat) : Int) = true := by
    unfold repOk
    rw [Tx_size]
    refine decide_eq_true ⟨by omega, by omega, ?_⟩
    rw [Int.toNat_natCast, List.length_singleton]; omega
  have hsplit : pd K U = Lib.decDigits (U / 10 ^ p) ++ pd p U := by
    have := pd_app (K - p) p U
    rw [show K - p + p = K by omega, hq] at this
    exact this
  have hdq : (Lib.decDigits (U / 10 ^ p)).length = K - p := by rw [← hq, pd_len]
  have t1 : List.take (K - p - 0) (List.drop 0 (pd K U)) = Lib.decDigits (U / 10 ^ p) := by
    rw [hsplit, List.drop_zero, Nat.sub_zero, List.take_left' hdq]
  have t2 : List.take (K - (K - p)) (List.drop (K - p) (pd K U)) = pd p U := by
    rw [hsplit, List.drop_left' hdq, List.take_of_length_le (by rw [pd_len]; omega)]
  unfold arith_FormatFixed_j0
  simp only [itoaB_nat, h48, h46, Tx_size, hdl, e1, e3, Int.toNat_natCast, repB_eq, Tx_app, hL, hpl, e2, Tx_ext, t1, t2, List.length_replicate, List.length_append, List.length_cons, List.length_nil, cond_true, hdq, pd_len]
  rw [cond_pos (by omega), cond_neg (by omega)]
  unfold fstr
  by_cases h0 : p = 0
  · subst h0
    rw [cond_neg (by omega), cond_neg (by omega), if_pos rfl]
    congr 3
  · rw [cond_pos (by omega), slP_of (by omega), cond_true, cond_neg (by omega), slP_of (by omega), cond_true, cond_neg (by omega), cond_neg (by omega), if_neg h0]
    congr 3
    simp
theorem apow_loop (N : Nat) (k0 : Int → Option R) {p : Nat} (hp : p ≤ 15) : ∀ (n i : Nat), p < n + i → i ≤ p → arith_power_l0 N k0 n 5 ((5 ^ i : Nat) : Int) p i = k0 ((5 ^ p : Nat) : Int) := by
  intro n
  induction n with
  | zero => intro i g1 g2; omega
  | succ n ih =>
    intro i g1 g2
    rw [arith_power_l0]
    by_cases h : i < p
    · have h5 : 5 ^ i ≤ 5 ^ 14 := Nat.pow_le_pow_right (by omega) (by omega)
      have hc : (5 : Nat) ^ 14 = 6103515625 := by decide
      have e : w64 (((5 ^ i : Nat) : Int) * 5) = ((5 ^ (i + 1) : Nat) : Int) := by
        rw [Nat.pow_succ]
        generalize 5 ^ i = F at *
        rw [w64_id (by omega) (by omega)]; omega
      rw [cond_pos (by omega), e, w64_succ (by omega)]
      exact ih (i + 1) (by omega) (by omega)
    · have : i = p := by omega
      subst this
      rw [cond_neg (by omega)]
theorem apow_eq {p : Nat} (hp : p ≤ 15) (k : Int → Option R) : arith_power 2000 5 p k = k ((5 ^ p : Nat) : Int) := apow_loop 2000 (fun z => k z) hp 2000 0 (by omega) (by omega)
def ftxt (x : Int) (p : Nat) : List UInt8 := (if x < 0 then [45] else []) ++ fstr p (x.natAbs * 5 ^ p)
theorem u5 {x p : Nat} (hx : x ≤ 32768) (hp : p ≤ 15) : x * 5 ^ p < 1000000000000000000 := by
  have h5 : 5 ^ p ≤ 5 ^ 15 := Nat.pow_le_pow_right (by omega) hp
  have hc : (5 : Nat) ^ 15 = 30517578125 := by decide
  have : x * 5 ^ p ≤ 32768 * 30517578125 := Nat.mul_le_mul hx (by omega)
  omega
theorem formatFixed_eq {w r b n : Int} {p : Nat} (k : ByteArray → Int → Option R) : arith_FormatFixed 2000 n w p r b k =
    if ferr w p r b = 0 then (if vok w n = true then k (Tx (ftxt (sg w n) p)) 0 else k (Tx []) 2) else k (Tx []) (ferr w p r b) := by
  unfold arith_FormatFixed
  rw [opened_eq 2000 (by omega) w p r b [n] (by simp)]
  by_cases hf : ferr w p r b = 0
  · have hw : 2 ≤ w ∧ w ≤ 16 := by
      unfold ferr at hf
      split at hf
      · assumption
      · cases hf
    have hp : (p : Int) ≤ w - 1 := by
      unfold ferr at hf
      rw [if_pos hw] at hf
      split at hf
      · rename_i q; exact q.2
      · cases hf
    have hall : [n].all (vok w) = vok w n := by simp
    rw [if_pos hf, if_pos hf, hall]
    by_cases hv : vok w n = true
    · have hs := sg_small (by omega) hw.2 hv
      have hU := u5 (x := (sg w n).natAbs) (p := p) (by omega) (by omega)
      rw [if_pos hv, if_pos hv, cond_neg (by simp), signed_eq 2000 p r b n (by omega) hw.2 (vok_range hw.2 hv), apow_eq (by omega)]
      unfold ftxt
      generalize sg w n = x at *
      have e0 : x * ((5 ^ p : Nat) : Int) = if x < 0 then -((x.natAbs * 5 ^ p : Nat) : Int) else ((x.natAbs * 5 ^ p : Nat) : Int) := by
        rw [Int.natCast_mul]
        split
        · rw [← Int.neg_mul]; congr 1; omega
        · congr 1; omega
      have h5 : 0 < 5 ^ p := Nat.pow_pos (by omega)
      have e1 : w64 (x * ((5 ^ p : Nat) : Int)) = x * ((5 ^ p : Nat) : Int) := by
        rw [e0]
        generalize x.natAbs * 5 ^ p = U at *
        split <;> exact w64_id (by omega) (by omega)
      rw [e1]
      by_cases hx : x < 0
      · have hpos : 0 < x.natAbs * 5 ^ p := Nat.mul_pos (by omega) h5
        rw [e0, if_pos hx, if_pos hx]
        have e2 : w64 (0 - -((x.natAbs * 5 ^ p : Nat) : Int)) = ((x.natAbs * 5 ^ p : Nat) : Int) := by
          generalize x.natAbs * 5 ^ p = U at *
          rw [w64_id (by omega) (by omega)]; omega
        rw [cond_pos (by generalize x.natAbs * 5 ^ p = U at *; omega), e2, show ByteArray.mk #[45] = Tx [45] from rfl, fmt_j0 2000 _ hU (by omega) [45] (by simp)]
      · rw [e0, if_neg hx, if_neg hx, cond_neg (by generalize x.natAbs * 5 ^ p = U at *; omega), Tx_nil, fmt_j0 2000 _ hU (by omega) [] (by simp)]
    · rw [if_neg hv, if_neg hv, cond_pos (by simp)]; rfl
  · rw [if_neg hf, if_neg hf, cond_pos hf]; rfl

theorem dec_loop (N : Nat) (k0 : ByteArray → ByteArray → Option R) (sg : ByteArray) : ∀ (m n u : Nat) (s : List UInt8), u < 10 ^ m → m < n → m ≤ 18 → s.length + m ≤ 1000 →
    ratchetbase_Decimal_l0 N k0 n (u : Int) (Tx s) sg = k0 (Tx ((if u = 0 then [] else Lib.decDigits u) ++ s)) sg := by
  intro m
  induction m with
  | zero =>
    intro n u s h1 h2 h3 h4
    obtain ⟨n, rfl⟩ : ∃ n', n = n' + 1 := ⟨n - 1, by omega⟩
    have h : u = 0 := by rw [Nat.pow_zero] at h1; omega
    subst h
    rw [ratchetbase_Decimal_l0, cond_neg (by simp), if_pos rfl, List.nil_append]
  | succ m ih =>
    intro n u s h1 h2 h3 h4
    obtain ⟨n, rfl⟩ : ∃ n', n = n' + 1 := ⟨n - 1, by omega⟩
    rw [ratchetbase_Decimal_l0]
    by_cases h : u = 0
    · subst h
      rw [cond_neg (by simp), if_pos rfl, List.nil_append]
    · have hu : u < 10 ^ 18 := Nat.lt_of_lt_of_le h1 (pow10_le h3)
      have hc : (10 : Nat) ^ 18 = 1000000000000000000 := by decide
      rw [cond_pos (by omega), if_neg h]
      have e1 : Int.tmod (u : Int) 10 = ((u % 10 : Nat) : Int) := by rw [Int.tmod_eq_emod_of_nonneg (by omega)]; rfl
      have e2 : max ((u % 10 : Nat) : Int) (w64 (0 - ((u % 10 : Nat) : Int))) = ((u % 10 : Nat) : Int) := by rw [w64_id (by omega) (by omega)]; omega
      have hsz : ∀ kk : Int → Option R, ratchetbase_Size N ((u % 10 : Nat) : Int) kk = kk ((u % 10 : Nat) : Int) := by
        intro kk; unfold ratchetbase_Size; rw [e2]
      have e3 : w64 (Int.tdiv (u : Int) 10) = ((u / 10 : Nat) : Int) := by
        rw [Int.tdiv_eq_ediv_of_nonneg (by omega), w64_id (by omega) (by omega)]; rfl
      have e4 : IntKind.wrap .u8 (w64 (48 + ((u % 10 : Nat) : Int))) = ((48 + u % 10 : Nat) : Int) := by
        rw [w64_id (by omega) (by omega), show (48 : Int) + ((u % 10 : Nat) : Int) = ((48 + u % 10 : Nat) : Int) by omega, wu8 (by omega)]
      have e5 : strI [((48 + u % 10 : Nat) : Int)] = Tx [UInt8.ofNat (48 + u % 10)] := rfl
      have e6 : bytesOK [((48 + u % 10 : Nat) : Int)] = true := by
        unfold bytesOK
        rw [List.all_cons, List.all_nil, Bool.and_true]
        exact decide_eq_true (by omega)
      have hn : u / 10 < 10 ^ m := by
        rw [Nat.pow_succ] at h1
        omega
      rw [e1, hsz, e4, e6, cond_true, e5, Tx_size, Tx_size, cond_neg (by simp; omega), e3, Tx_app, ih n (u / 10) _ hn (by omega) (by omega) (by simp; omega)]
      congr 2
      by_cases c : u < 10
      · rw [if_pos (by omega), Lib.decDigits, dif_pos c, Nat.mod_eq_of_lt c]; rfl
      · rw [if_neg (by omega)]
        conv => rhs; rw [Lib.decDigits, dif_neg c]
        simp
theorem decimal_eq {u : Nat} (h : u < 1000000000000000000) (k : ByteArray → Option R) : ratchetbase_Decimal 2000 (u : Int) k = k (Tx (Lib.decDigits u)) := by
  unfold ratchetbase_Decimal
  by_cases h0 : u = 0
  · subst h0
    rw [cond_pos (by simp), Lib.decDigits, dif_pos (by omega)]; rfl
  · rw [cond_neg (by omega), cond_neg (by omega)]
    unfold ratchetbase_Decimal_j0
    have hl : (Lib.decDigits u).length ≤ 18 := by rw [Lib.decDigits_length]; exact nD_le h
    have hc : (10 : Nat) ^ 18 = 1000000000000000000 := by decide
    rw [Tx_nil]
    have := dec_loop 2000 (fun z2 z3 => (bif decide ((((z3.size + z2.size : Nat)) : Int) > 9223372036854775807) then none else (k (z3 ++ z2)))) (Tx []) 18 2000 u [] (by omega) (by omega) (by omega) (by simp)
    refine Eq.trans this ?_
    rw [if_neg h0, List.append_nil, Tx_size, Tx_size, cond_neg (by rw [List.length_nil]; omega), Tx_app, List.nil_append]
/-- The digits after the point, one by one. -/
theorem pd_frac {j p q : Nat} (hq : q < 2 ^ p) : pd (j + 1) (q * 10 ^ (j + 1) / 2 ^ p) = Lib.decDigits (q * 10 / 2 ^ p) ++ pd j (q * 10 % 2 ^ p * 10 ^ j / 2 ^ p) := by
  have h2 : 0 < 2 ^ p := Nat.pow_pos (by omega)
  have hd : q * 10 / 2 ^ p < 10 := Nat.div_lt_of_lt_mul (by rw [Nat.mul_comm (2 ^ p)]; omega)
  have hr : q * 10 % 2 ^ p < 2 ^ p := Nat.mod_lt _ h2
  have e : q * 10 ^ (j + 1) / 2 ^ p = (q * 10 / 2 ^ p) * 10 ^ j + q * 10 % 2 ^ p * 10 ^ j / 2 ^ p := by
    have hdm := Nat.div_add_mod (q * 10) (2 ^ p)
    have : q * 10 ^ (j + 1) = (q * 10 % 2 ^ p) * 10 ^ j + 2 ^ p * ((q * 10 / 2 ^ p) * 10 ^ j) := by
      rw [Nat.pow_succ, Nat.mul_comm (10 ^ j) 10, ← Nat.mul_assoc]
      conv => lhs; rw [← hdm]
      rw [Nat.add_mul, Nat.mul_assoc, Nat.add_comm]
    rw [this, Nat.add_mul_div_left _ _ h2, Nat.add_comm]
  have hlt : q * 10 % 2 ^ p * 10 ^ j / 2 ^ p < 10 ^ j := by
    apply Nat.div_lt_of_lt_mul
    exact Nat.mul_lt_mul_of_pos_right hr (Nat.pow_pos (by omega))
  have hp : 0 < 10 ^ j := Nat.pow_pos (by omega)
  rw [pd, e]
  have e1 : ((q * 10 / 2 ^ p) * 10 ^ j + q * 10 % 2 ^ p * 10 ^ j / 2 ^ p) / 10 ^ j = q * 10 / 2 ^ p := by
    rw [Nat.add_comm, Nat.add_mul_div_right _ _ hp, Nat.div_eq_of_lt hlt, Nat.zero_add]
  rw [e1, Lib.decDigits, dif_pos hd, Nat.mod_eq_of_lt hd]
  rw [pd_mod j _ (q * 10 % 2 ^ p * 10 ^ j / 2 ^ p) (by rw [Nat.add_comm, Nat.add_mul_mod_self_right])]
  rfl
theorem Fmt_loop (N : Nat) (hN : N = 2000) (k0 : ByteArray → Option R) {p : Nat} (hp : p ≤ 15) (w r b : Int) : ∀ (n i q : Nat) (s : List UInt8), p < n + i → i ≤ p → q < 2 ^ p → s.length + (p - i) ≤ 1000 →
    ratchetref30_Format_l0 N k0 n (Tx s) (q : Int) i w p r b = k0 (Tx (s ++ pd (p - i) (q * 10 ^ (p - i) / 2 ^ p))) := by
  subst hN
  intro n
  induction n with
  | zero => intro i q s h1 h2; omega
  | succ n ih =>
    intro i q s h1 h2 hq hs
    rw [ratchetref30_Format_l0]
    by_cases h : i < p
    · obtain ⟨j, hj⟩ : ∃ j, p - i = j + 1 := ⟨p - i - 1, by omega⟩
      have hj' : p - (i + 1) = j := by omega
      have h15 : 2 ^ p ≤ 2 ^ 15 := Nat.pow_le_pow_right (by omega) hp
      have hc : (2 : Nat) ^ 15 = 32768 := by decide
      have h2p : 0 < 2 ^ p := Nat.pow_pos (by omega)
      have hd : q * 10 / 2 ^ p < 10 := Nat.div_lt_of_lt_mul (by rw [Nat.mul_comm (2 ^ p)]; omega)
      have hr : q * 10 % 2 ^ p < 2 ^ p := Nat.mod_lt _ h2p
      have e1 : w64 ((q : Int) * 10) = ((q * 10 : Nat) : Int) := by rw [w64_id (by omega) (by omega)]; omega
      have e2 : w64 (Int.tdiv ((q * 10 : Nat) : Int) ((2 ^ p : Nat) : Int)) = ((q * 10 / 2 ^ p : Nat) : Int) := by
        rw [Int.tdiv_eq_ediv_of_nonneg (by omega), ← Int.natCast_ediv]
        generalize q * 10 / 2 ^ p = D at *
        exact w64_id (by omega) (by omega)
      have e3 : Int.tmod ((q * 10 : Nat) : Int) ((2 ^ p : Nat) : Int) = ((q * 10 % 2 ^ p : Nat) : Int) := by
        rw [Int.tmod_eq_emod_of_nonneg (by omega)]; rfl
      have hz : ((2 ^ p : Nat) : Int) ≠ 0 := by
        generalize 2 ^ p = F at *
        omega
      have hdl : (Lib.decDigits (q * 10 / 2 ^ p)).length = 1 := by rw [Lib.decDigits_length, Lib.nDigits_small hd]
      rw [cond_pos (by omega), power_eq 2000 (by omega) (by omega), p2_nat, cond_neg hz, e1, e2, decimal_eq (by omega), Tx_size, Tx_size, hdl, cond_neg (by omega), power_eq 2000 (by omega) (by omega), p2_nat, cond_neg hz, e3, Tx_app, w64_succ (by omega), ih (i + 1) _ _ (by omega) (by omega) hr (by rw [List.length_append, hdl]; omega), hj, hj', pd_frac hq, List.append_assoc]
    · rw [cond_neg (by omega)]
      have : i = p := by omega
      subst this
      simp [pd]
theorem Fmt_j0 (k0 : ByteArray → Option R) {p : Nat} (hp : p ≤ 15) (w r b : Int) {x : Nat} (hx : x ≤ 32768) (s : List UInt8) (hs : s.length ≤ 1) : ratchetref30_Format_j0 2000 k0 (x : Int) (Tx s) w p r b = k0 (Tx (s ++ fstr p (x * 5 ^ p))) := by
  have h2p : 0 < 2 ^ p := Nat.pow_pos (by omega)
  have hz : ((2 ^ p : Nat) : Int) ≠ 0 := by
    generalize 2 ^ p = F at *
    omega
  have hq : x / 2 ^ p ≤ x := Nat.div_le_self _ _
  have e2 : w64 (Int.tdiv (x : Int) ((2 ^ p : Nat) : Int)) = ((x / 2 ^ p : Nat) : Int) := by
    rw [Int.tdiv_eq_ediv_of_nonneg (by omega), ← Int.natCast_ediv]
    generalize x / 2 ^ p = D at *
    exact w64_id (by omega) (by omega)
  have e3 : Int.tmod (x : Int) ((2 ^ p : Nat) : Int) = ((x % 2 ^ p : Nat) : Int) := by
    rw [Int.tmod_eq_emod_of_nonneg (by omega)]; rfl
  have hr : x % 2 ^ p < 2 ^ p := Nat.mod_lt _ h2p
  have hdl : (Lib.decDigits (x / 2 ^ p)).length ≤ 18 := by rw [Lib.decDigits_length]; exact nD_le (by omega)
  have h46 : ByteArray.mk #[46] = Tx [46] := rfl
  have h10 : 10 ^ p = 2 ^ p * 5 ^ p := pow5_10 p
  have hU : x * 5 ^ p / 10 ^ p = x / 2 ^ p := by
    rw [h10, Nat.mul_comm (2 ^ p)]
    conv => lhs; arg 1; rw [Nat.mul_comm]
    exact Nat.mul_div_mul_left _ _ (Nat.pow_pos (by omega))
  unfold ratchetref30_Format_j0 fstr
  rw [hU, power_eq 2000 (by omega) (by omega), p2_nat, cond_neg hz, power_eq 2000 (by omega) (by omega), p2_nat, cond_neg hz, e2, decimal_eq (by omega), e3]
  simp only [Tx_size, Tx_app, h46]
  rw [cond_neg (by omega)]
  unfold ratchetref30_Format_j1
  have hl := fun (t : List UInt8) (ht : t.length + p ≤ 1000) => Fmt_loop 2000 rfl (fun z => k0 z) hp w r b 2000 0 (x % 2 ^ p) t (by omega) (by omega) hr (by omega)
  by_cases h0 : p = 0
  · have := hl (s ++ Lib.decDigits (x / 2 ^ p)) (by rw [List.length_append]; omega)
    rw [cond_neg (by omega)]
    refine Eq.trans this ?_
    rw [if_pos h0, h0]; simp [pd]
  · have := hl (s ++ Lib.decDigits (x / 2 ^ p) ++ [46]) (by rw [List.length_append, List.length_append, List.length_singleton]; omega)
    rw [cond_pos (by omega), cond_neg (by rw [List.length_append, List.length_singleton]; omega)]
    refine Eq.trans this ?_
    rw [if_neg h0, Nat.sub_zero]
    have e5 : x % 2 ^ p * 10 ^ p / 2 ^ p = x % 2 ^ p * 5 ^ p := by
      rw [h10, Nat.mul_comm (2 ^ p), ← Nat.mul_assoc, Nat.mul_div_cancel _ h2p]
    have e6 : pd p (x % 2 ^ p * 5 ^ p) = pd p (x * 5 ^ p) := by
      apply pd_mod
      have hd := Nat.div_add_mod x (2 ^ p)
      conv => rhs; rw [← hd, Nat.add_mul, Nat.mul_comm (2 ^ p), Nat.mul_assoc, ← h10, Nat.add_comm, Nat.add_mul_mod_self_right]
    rw [e5, e6]
    simp
theorem Format_eq {w r b n : Int} {p : Nat} (hw : 2 ≤ w ∧ w ≤ 16) (hp : (p : Int) ≤ w - 1) (hv : vok w n = true) (k : ByteArray → Option R) : ratchetref30_Format 2000 n w p r b k = k (Tx (ftxt (sg w n) p)) := by
  have hs := sg_small (by omega) hw.2 hv
  unfold ratchetref30_Format
  rw [Of_eq 2000 p r b n (by omega) hw.2 (vok_range hw.2 hv)]
  unfold ftxt
  generalize sg w n = x at *
  by_cases hx : x < 0
  · have e : w64 (0 - x) = ((x.natAbs : Nat) : Int) := by rw [w64_id (by omega) (by omega)]; omega
    rw [cond_pos hx, e, show ByteArray.mk #[45] = Tx [45] from rfl, Fmt_j0 _ (by omega) w r b (by omega) [45] (by simp), if_pos hx]
  · have e : x = ((x.natAbs : Nat) : Int) := by omega
    rw [cond_neg hx, Tx_nil, if_neg hx]
    conv => lhs; rw [e]
    rw [Fmt_j0 _ (by omega) w r b (by omega) [] (by simp)]

/-! ### What is written is read -/
theorem bef_app (a y : List UInt8) (h : (46 : UInt8) ∉ a) : bef (a ++ 46 :: y) = a ∧ aft (a ++ 46 :: y) = y := by
  induction a with
  | nil => exact ⟨rfl, rfl⟩
  | cons c a ih =>
    have e : c ≠ 46 := fun q => h (by rw [q]; simp)
    have hc : (c != 46) = true := by simpa using e
    obtain ⟨i1, i2⟩ := ih (fun q => h (List.mem_cons_of_mem _ q))
    constructor
    · show List.takeWhile (fun c => c != 46) (c :: (a ++ 46 :: y)) = c :: a
      rw [List.takeWhile_cons, hc, if_pos rfl]; exact congrArg _ i1
    · show (List.dropWhile (fun c => c != 46) (c :: (a ++ 46 :: y))).drop 1 = y
      rw [List.dropWhile_cons, if_pos hc]; exact i2
theorem no46 {a : List UInt8} (h : a.all dgt = true) : (46 : UInt8) ∉ a := fun q => absurd (List.all_eq_true.1 h _ q) (by decide)
theorem dec_all (u : Nat) : (Lib.decDigits u).all dgt = true := by rw [dec_pd]; exact pd_all _ _
theorem dec_ne (u : Nat) : Lib.decDigits u ≠ [] := by
  intro h
  have := Lib.decDigits_length u
  rw [h] at this
  have h2 := Lib.nDigits_pos u
  simp at this; omega
theorem fstr_parts (p U : Nat) : bef (fstr p U) = Lib.decDigits (U / 10 ^ p) ∧ aft (fstr p U) = pd p U ∧ decide (46 ∈ fstr p U) = decide (0 < p) := by
  have hn := no46 (dec_all (U / 10 ^ p))
  unfold fstr
  by_cases h : p = 0
  · subst h
    rw [if_pos rfl, List.append_nil]
    obtain ⟨-, i2, i3⟩ := cut_out hn
    refine ⟨i2, i3, ?_⟩
    rw [decide_eq_decide]
    exact ⟨fun q => absurd q hn, fun q => absurd q (by omega)⟩
  · rw [if_neg h]
    obtain ⟨i1, i2⟩ := bef_app (Lib.decDigits (U / 10 ^ p)) (pd p U) hn
    refine ⟨i1, i2, ?_⟩
    rw [decide_eq_decide]
    exact ⟨fun _ => by omega, fun _ => by simp⟩
theorem fstr_head (p U : Nat) : ∃ c r, fstr p U = c :: r ∧ dgt c = true := by
  have h1 := dec_ne (U / 10 ^ p)
  have h2 := dec_all (U / 10 ^ p)
  unfold fstr
  cases e : Lib.decDigits (U / 10 ^ p) with
  | nil => exact absurd e h1
  | cons c r =>
    rw [e, List.all_cons, Bool.and_eq_true] at h2
    exact ⟨c, _, rfl, h2.1⟩
theorem neg_ftxt (x : Int) (p : Nat) : isNeg (ftxt x p) = decide (x < 0) ∧ rst (ftxt x p) = fstr p (x.natAbs * 5 ^ p) := by
  obtain ⟨c, r, e, hc⟩ := fstr_head p (x.natAbs * 5 ^ p)
  unfold ftxt
  by_cases h : x < 0
  · have e1 : isNeg ([45] ++ fstr p (x.natAbs * 5 ^ p)) = true := rfl
    rw [if_pos h, decide_eq_true h]
    refine ⟨e1, ?_⟩
    unfold rst
    rw [e1, if_pos rfl]; rfl
  · have e1 : isNeg ([] ++ fstr p (x.natAbs * 5 ^ p)) = false := by
      rw [List.nil_append, e]
      refine decide_eq_false (fun q => ?_)
      have : c = 45 := Option.some.inj q
      rw [this] at hc
      exact absurd hc (by decide)
    rw [if_neg h, decide_eq_false h]
    refine ⟨e1, ?_⟩
    unfold rst
    rw [e1, if_neg (by simp), List.nil_append]
theorem U_div (m p : Nat) : m * 5 ^ p / 10 ^ p = m / 2 ^ p := by
  rw [pow5_10, Nat.mul_comm (2 ^ p), Nat.mul_comm m]
  exact Nat.mul_div_mul_left _ _ (Nat.pow_pos (by omega))
theorem again {w n : Int} {p : Nat} (hw : 2 ≤ w ∧ w ≤ 16) (hp : (p : Int) ≤ w - 1) (hv : vok w n = true) : (ftxt (sg w n) p).length ≤ 60 ∧ prs w p (ftxt (sg w n) p) = (n, 0) := by
  have hs := sg_small (by omega) hw.2 hv
  have hr := sg_range (by omega) hv
  have hmod : sg w n % p2 w = n := by
    have hv' := of_decide_eq_true hv
    unfold sg
    split
    · rw [Int.sub_emod_right]; exact Int.emod_eq_of_lt hv'.1 (by omega)
    · exact Int.emod_eq_of_lt hv'.1 (by omega)
  obtain ⟨e1, e2⟩ := neg_ftxt (sg w n) p
  obtain ⟨f1, f2, f3⟩ := fstr_parts p ((sg w n).natAbs * 5 ^ p)
  have hm15 : (sg w n).natAbs ≤ 32768 := by omega
  have hlen : (ftxt (sg w n) p).length ≤ 20 := by
    unfold ftxt fstr
    rw [U_div]
    generalize (sg w n).natAbs = m at *
    have hq : m / 2 ^ p ≤ 2 ^ (15 - p) := by
      rw [← Nat.pow_div (by omega) (by omega)]
      exact Nat.div_le_div_right hm15
    have h10 : 2 ^ (15 - p) < 10 ^ (16 - p) := by
      have a1 : 2 ^ (15 - p) ≤ 10 ^ (15 - p) := Nat.pow_le_pow_left (by omega) _
      have a2 : 10 ^ (15 - p) < 10 ^ (16 - p) := Nat.pow_lt_pow_right (by omega) (by omega)
      omega
    have hd := nDigits_le (16 - p) (m / 2 ^ p) (by omega) (by omega)
    rw [List.length_append, List.length_append, Lib.decDigits_length]
    have b1 : (if sg w n < 0 then [45] else ([] : List UInt8)).length ≤ 1 := by split <;> simp
    have b2 : (if p = 0 then ([] : List UInt8) else 46 :: pd p (m * 5 ^ p)).length ≤ p + 1 := by
      split
      · simp
      · rw [List.length_cons, pd_len]; omega
    omega
  refine ⟨by omega, ?_⟩
  unfold prs
  rw [e1, e2, f1, f2, U_div]
  have hA : synA (ftxt (sg w n) p) (Lib.decDigits ((sg w n).natAbs / 2 ^ p)) = true := by
    unfold synA
    rw [decide_eq_true hlen, decide_eq_true (dec_ne _), dec_all]
    rcases Nat.eq_zero_or_pos ((sg w n).natAbs / 2 ^ p) with c | c
    · rw [c, Lib.decDigits, dif_pos (by omega)]; rfl
    · obtain ⟨d, r, g1, g2, -⟩ := dec_head c
      rw [g1, decide_eq_true (p := (d :: r).head? ≠ some 48) (fun q => g2 (Option.some.inj q))]
      simp
  have hB : synB p (fstr p ((sg w n).natAbs * 5 ^ p)) (pd p ((sg w n).natAbs * 5 ^ p)) = true := by
    unfold synB
    rw [f3, decide_eq_true (pd_len p _), pd_all]
    simp
  rw [if_pos ⟨hA, hB⟩]
  have hnum : numF 0 (Lib.decDigits ((sg w n).natAbs / 2 ^ p) ++ pd p ((sg w n).natAbs * 5 ^ p)) = (sg w n).natAbs * 5 ^ p := by
    have hq : numF 0 (Lib.decDigits ((sg w n).natAbs / 2 ^ p)) = (sg w n).natAbs / 2 ^ p := by
      rw [dec_pd, pd_num]; exact Nat.mod_eq_of_lt (Lib.lt_pow_nDigits _)
    rw [numF_app, numF_add, pd_len, pd_num, hq, ← U_div]
    have := Nat.div_add_mod ((sg w n).natAbs * 5 ^ p) (10 ^ p)
    rw [Nat.mul_comm] at this
    exact this
  rw [hnum]
  unfold prs2
  have h5 : 0 < 5 ^ p := Nat.pow_pos (by omega)
  rw [if_neg (by
    rintro (q | ⟨q1, q2⟩)
    · exact q (Nat.mul_mod_left _ _)
    · have q1' := of_decide_eq_true q1
      rcases Nat.mul_eq_zero.1 q2 with c | c
      · omega
      · omega), Nat.mul_div_cancel _ h5]
  unfold wt
  by_cases h : sg w n < 0
  · have e : -(((sg w n).natAbs : Nat) : Int) = sg w n := by omega
    simp only [decide_eq_true h, if_true]
    rw [if_neg (by omega), e, hmod]
  · have e : (((sg w n).natAbs : Nat) : Int) = sg w n := by omega
    simp only [decide_eq_false h, Bool.false_eq_true, if_false]
    rw [if_neg (by omega), e, hmod]
theorem bad_parse {w p r b : Int} (hf : ferr w p r b ≠ 0) (s : ByteArray) (k : Int → Int → Option R) : arith_ParseFixed 2000 s w p r b k = k 0 (ferr w p r b) := by
  unfold arith_ParseFixed; rw [checkForm_eq 2000 (by omega), cond_pos hf]
theorem bad_Parse {w p r b : Int} (hf : ferr w p r b ≠ 0) (s : ByteArray) (k : Int → Int → Option R) : ratchetref30_Parse 2000 s w p r b k = k 0 (ferr w p r b) := by
  unfold ratchetref30_Parse; rw [FormErr_eq, cond_pos hf]
theorem bad_format {w p r b : Int} (hf : ferr w p r b ≠ 0) (n : Int) (k : ByteArray → Int → Option R) : arith_FormatFixed 2000 n w p r b k = k (Tx []) (ferr w p r b) := by
  unfold arith_FormatFixed; rw [opened_eq 2000 (by omega) w p r b [n] (by simp), if_neg hf, cond_pos hf]; rfl
theorem pureArithStrings : PureArithStrings := by
  intro n f s ok0 ok1 ok2
  obtain ⟨w, p, r, b⟩ := f
  refine ⟨2000, fun {R} k => ?_⟩
  dsimp only
  rw [Tx_of s]
  generalize s.data.toList = l
  unfold ratchetlaw30_ArithStrings
  rw [awake_ok, show (!true) = false from rfl, cond_false, Tx_size]
  by_cases hl : 60 < l.length
  · rw [cond_pos (by omega)]
  · rw [cond_neg (by omega)]
    by_cases hf : ferr w p r b = 0
    · have hw : 2 ≤ w ∧ w ≤ 16 := by
        unfold ferr at hf
        split at hf
        · assumption
        · cases hf
      have hp : 0 ≤ p ∧ p ≤ w - 1 := by
        unfold ferr at hf
        rw [if_pos hw] at hf
        split at hf
        · assumption
        · cases hf
      obtain ⟨p, rfl⟩ : ∃ m : Nat, p = (m : Int) := ⟨p.toNat, by omega⟩
      have hve : ∀ kk : Int → Option R, ratchetref30_ValueErr 2000 n w p r b kk = kk (if vok w n = true then 0 else 2) := by
        intro kk
        unfold ratchetref30_ValueErr
        rw [Fits_eq 2000 n (by omega) hw.2]
        cases vok w n <;> rfl
      rw [formatFixed_eq, if_pos hf]
      by_cases hv : vok w n = true
      · obtain ⟨a1, a2⟩ := again hw hp.2 hv
        rw [if_pos hv, parseFixed_eq l (by omega), if_pos hf, Parse_eq l (by omega), if_pos hf, cond_neg (by simp), cond_neg (by simp), FormErr_eq, cond_pos hf, hve, if_pos hv]
        unfold ratchetlaw30_ArithStrings_j0
        rw [cond_neg (by simp), cond_neg (by simp), Format_eq hw hp.2 hv, cond_neg (by simp), parseFixed_eq _ (by omega), if_pos hf, a2, cond_pos rfl, decide_eq_true rfl]
      · rw [if_neg hv, parseFixed_eq l (by omega), if_pos hf, Parse_eq l (by omega), if_pos hf, cond_neg (by simp), cond_neg (by simp), FormErr_eq, cond_pos hf, hve, if_neg hv]
        unfold ratchetlaw30_ArithStrings_j0
        rw [cond_pos (by simp), cond_pos rfl, Tx_nil, decide_eq_true rfl]
    · rw [bad_format hf, bad_parse hf, bad_Parse hf, cond_neg (by simp), cond_neg (by simp), FormErr_eq, cond_neg hf]
      unfold ratchetlaw30_ArithStrings_j0
      rw [cond_pos hf, cond_pos rfl, Tx_nil, decide_eq_true rfl]

end
end Am
end Go.Proofs.YteamkapbkccdeaaGreatDoor
