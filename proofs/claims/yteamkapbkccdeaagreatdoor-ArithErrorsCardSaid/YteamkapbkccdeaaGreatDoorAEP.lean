/- The statement about errors, on plain data. -/
import Derived.Test.YteamkapbkccdeaaGreatDoorAEF
import Derived.Test.YteamkapbkccdeaaGreatDoorPu
set_option linter.unusedVariables false
set_option linter.unusedSimpArgs false
set_option maxRecDepth 100000
namespace Go.Proofs.YteamkapbkccdeaaGreatDoor
namespace Am
section
variable {R : Type}
theorem awake_ok (k : Bool → Option R) : ratchetlaw30_awake 2000 k = k true := by kernel_rfl

theorem within_eq (N : Nat) (a lo hi : Int) (k : Bool → Option R) : arith_within N a lo hi k = k (decide (lo ≤ a ∧ a ≤ hi)) := by
  unfold arith_within
  by_cases h : lo ≤ a <;> simp [h]
theorem Within_eq (N : Nat) (a lo hi : Int) (k : Bool → Option R) : ratchetbase_Within N a lo hi k = k (decide (lo ≤ a ∧ a ≤ hi)) := by
  unfold ratchetbase_Within
  by_cases h : lo ≤ a <;> simp [h]
theorem unless_eq (N : Nat) (b : Bool) (e : Int) (k : Int → Option R) : arith_unless N b e k = k (if b = true then 0 else e) := by
  unfold arith_unless; cases b <;> rfl
theorem first_loop (N : Nat) (k0 : Int → Option R) (k1 : Option R) (l : List Int) (hl : l.length ≤ 1000000) : ∀ (n i : Nat), l.length < n + i → i ≤ l.length →
    arith_first_l0 N k0 k1 n l l.length i = match (l.drop i).find? (fun x => decide (x ≠ 0)) with | some x => k0 x | none => k1 := by
  intro n
  induction n with
  | zero => intro i h1 h2; omega
  | succ n ih =>
    intro i h1 h2
    rw [arith_first_l0]
    by_cases h : i < l.length
    · rw [cond_pos (by omega), at?_lt h, some_bind', drop_cons h, List.find?_cons]
      by_cases hx : l[i] = 0
      · rw [cond_neg (by simp [hx]), w64_id (by omega) (by omega)]
        simp only [hx, ne_eq, not_true, decide_false]
        exact ih (i + 1) (by omega) (by omega)
      · rw [cond_pos hx]; simp [hx]
    · rw [cond_neg (by omega)]
      have : i = l.length := by omega
      subst this
      simp
theorem first_eq (N : Nat) (l : List Int) (hN : l.length < N) (hl : l.length ≤ 1000000) (k : Int → Option R) : arith_first N l k = k ((l.find? (fun x => decide (x ≠ 0))).getD 0) := by
  unfold arith_first
  have := first_loop N (fun z => k z) (k 0) l hl N 0 (by omega) (by omega)
  rw [Int.natCast_zero] at this
  rw [this, List.drop_zero]
  cases l.find? (fun x => decide (x ≠ 0)) <;> rfl
theorem first2 (N : Nat) (hN : 4 ≤ N) (a b : Int) (k : Int → Option R) : arith_first N [a, b] k = k (if a = 0 then b else a) := by
  rw [first_eq N _ (by simp; omega) (by simp)]
  by_cases ha : a = 0 <;> by_cases hb : b = 0 <;> simp [ha, hb]
theorem first3 (N : Nat) (hN : 4 ≤ N) (a b c : Int) (k : Int → Option R) : arith_first N [a, b, c] k = k (if a = 0 then (if b = 0 then c else b) else a) := by
  rw [first_eq N _ (by simp; omega) (by simp)]
  by_cases ha : a = 0 <;> by_cases hb : b = 0 <;> by_cases hc : c = 0 <;> simp [ha, hb, hc]

/-! ### Powers, forms -/
/-- 2 to a power. -/
def p2 (n : Int) : Int := 2 ^ n.toNat
theorem p2_pos (n : Int) : 0 < p2 n := by unfold p2; exact Int.pow_pos (by omega)
theorem p2_nat (n : Nat) : p2 (n : Int) = ((2 ^ n : Nat) : Int) := by unfold p2; simp
theorem p2_le {a b : Int} (h : a ≤ b) : p2 a ≤ p2 b := by
  unfold p2
  have : (2 : Nat) ^ a.toNat ≤ 2 ^ b.toNat := Nat.pow_le_pow_right (by omega) (by omega)
  exact_mod_cast this
theorem p2_16 {n : Int} (h : n ≤ 16) : p2 n ≤ 65536 := p2_le h
theorem p2_15 {n : Int} (h : n ≤ 15) : p2 n ≤ 32768 := p2_le h
theorem p2_add {a b : Int} (ha : 0 ≤ a) (hb : 0 ≤ b) : p2 (a + b) = p2 a * p2 b := by
  unfold p2
  rw [show (a + b).toNat = a.toNat + b.toNat by omega, Int.pow_add]
theorem p2_half {w : Int} (h : 1 ≤ w) : p2 w = 2 * p2 (w - 1) := by
  have := p2_add (a := w - 1) (b := 1) (by omega) (by omega)
  rw [show w - 1 + 1 = w by omega] at this
  rw [this, Int.mul_comm]; rfl
theorem shl_p2 {n : Int} (h0 : 0 ≤ n) (h : n ≤ 40) : shl' .i64 1 n = p2 n := by
  have h1 : p2 n ≤ p2 40 := p2_le h
  have h2 : p2 40 = 1099511627776 := by decide
  have h3 := p2_pos n
  unfold shl'
  have e : min n.toNat (IntKind.bits .i64) = n.toNat := by
    have : IntKind.bits .i64 = 64 := rfl
    omega
  rw [e, Int.one_mul]
  exact w64_id (x := p2 n) (by omega) (by omega)
theorem power_eq (N : Nat) {n : Int} (h0 : 0 ≤ n) (h : n ≤ 40) (k : Int → Option R) : ratchetbase_Power N n k = k (p2 n) := by
  unfold ratchetbase_Power; rw [cond_neg (by omega), shl_p2 h0 h]
structure VF (w p r b : Int) : Prop where
  w2 : 2 ≤ w
  w16 : w ≤ 16
  p0 : 0 ≤ p
  pw : p ≤ w - 1
  r0 : 0 ≤ r
  r2 : r ≤ 2
  b0 : 0 ≤ b
  b1 : b ≤ 1
def ferr (w p r b : Int) : Int := if 2 ≤ w ∧ w ≤ 16 then (if 0 ≤ p ∧ p ≤ w - 1 then (if (0 ≤ r ∧ r ≤ 2) ∧ (0 ≤ b ∧ b ≤ 1) then 0 else 15) else 2) else 25
theorem ferr_ok {w p r b : Int} (h : ferr w p r b = 0) : VF w p r b := by
  unfold ferr at h
  split at h
  · split at h
    · split at h
      · rename_i c d e; exact ⟨c.1, c.2, d.1, d.2, e.1.1, e.1.2, e.2.1, e.2.2⟩
      · cases h
    · cases h
  · cases h
theorem checkForm_eq (N : Nat) (hN : 4 ≤ N) (w p r b : Int) (k : Int → Option R) : arith_CheckForm N w p r b k = k (ferr w p r b) := by
  unfold arith_CheckForm ferr
  simp only [within_eq, unless_eq, first3 N hN]
  by_cases c : 2 ≤ w ∧ w ≤ 16
  · rw [w64_id (x := w - 1) (by omega) (by omega)]
    by_cases d : 0 ≤ p ∧ p ≤ w - 1 <;> by_cases e : 0 ≤ r ∧ r ≤ 2 <;> by_cases f : 0 ≤ b ∧ b ≤ 1 <;> simp [c, d, e, f]
  · generalize decide (0 ≤ p ∧ p ≤ w64 (w - 1)) = z
    by_cases e : 0 ≤ r ∧ r ≤ 2 <;> simp [c, e]
theorem FormErr_eq (N : Nat) (w p r b : Int) (k : Int → Option R) : ratchetref30_FormErr N w p r b k = k (ferr w p r b) := by
  unfold ratchetref30_FormErr ferr
  simp only [Within_eq]
  by_cases c : 2 ≤ w ∧ w ≤ 16
  · rw [w64_id (x := w - 1) (by omega) (by omega)]
    by_cases d : 0 ≤ p ∧ p ≤ w - 1 <;> by_cases e : 0 ≤ r ∧ r ≤ 2 <;> by_cases f : 0 ≤ b ∧ b ≤ 1 <;> simp [c, d, e, f]
  · simp [c]
theorem size_eq (N : Nat) {w : Int} (p r b : Int) (h0 : 0 ≤ w) (h : w ≤ 16) (k : Int → Option R) : arith_form_size N w p r b k = k (p2 w) := by
  unfold arith_form_size; rw [cond_neg (by omega), shl_p2 h0 (by omega)]
theorem one_eq (N : Nat) (w : Int) {p : Int} (r b : Int) (h0 : 0 ≤ p) (h : p ≤ 16) (k : Int → Option R) : arith_form_one N w p r b k = k (p2 p) := by
  unfold arith_form_one; rw [cond_neg (by omega), shl_p2 h0 (by omega)]
/-- Whether a number is a value. -/
def vok (w n : Int) : Bool := decide (0 ≤ n ∧ n ≤ p2 w - 1)
theorem Fits_eq (N : Nat) (n : Int) {w : Int} (h0 : 0 ≤ w) (h : w ≤ 16) (k : Bool → Option R) : ratchetbase_Fits N n w k = k (vok w n) := by
  have := p2_pos w; have := p2_16 h
  unfold ratchetbase_Fits vok; rw [power_eq N h0 (by omega), Within_eq, w64_id (by omega) (by omega)]
/-- The number of a value, without the point. -/
def sg (w n : Int) : Int := if p2 (w - 1) ≤ n then n - p2 w else n
theorem sg_range {w n : Int} (hw : 1 ≤ w) (h : vok w n = true) : - p2 (w - 1) ≤ sg w n ∧ sg w n ≤ p2 (w - 1) - 1 := by
  have := of_decide_eq_true h
  have h1 := p2_half hw
  unfold sg; split <;> omega
theorem signed_eq (N : Nat) {w : Int} (p r b : Int) (n : Int) (h0 : 1 ≤ w) (h : w ≤ 16) (hn : 0 ≤ n ∧ n ≤ 65536) (k : Int → Option R) : arith_form_signed N w p r b n k = k (sg w n) := by
  have h1 := p2_half h0
  have h2 := p2_16 h
  have h3 := p2_pos (w - 1)
  unfold arith_form_signed sg
  rw [size_eq N p r b (by omega) h]
  have e : w64 (Int.tdiv (p2 w) 2) = p2 (w - 1) := by
    rw [Int.tdiv_eq_ediv_of_nonneg (by omega), w64_id (by omega) (by omega)]; omega
  rw [e]
  by_cases c : p2 (w - 1) ≤ n
  · rw [cond_pos c, size_eq N p r b (by omega) h, if_pos c, w64_id (by omega) (by omega)]
  · rw [cond_neg c, if_neg c]
theorem Signed_eq (N : Nat) {w : Int} (n : Int) (h0 : 1 ≤ w) (h : w ≤ 16) (hn : 0 ≤ n ∧ n ≤ 65536) (k : Int → Option R) : ratchetbase_Signed N n w k = k (sg w n) := by
  have h1 := p2_half h0
  have h2 := p2_16 h
  have h3 := p2_pos (w - 1)
  unfold ratchetbase_Signed sg
  rw [w64_id (x := w - 1) (by omega) (by omega), power_eq N (by omega) (by omega)]
  by_cases c : p2 (w - 1) ≤ n
  · rw [cond_pos c, power_eq N (by omega) (by omega), if_pos c, w64_id (by omega) (by omega)]
  · rw [cond_neg c, if_neg c]
/-! ### Rounding -/
theorem floor_eq {n d : Int} (hd : 0 < d) : (if Int.tmod n d < 0 then Int.tdiv n d - 1 else Int.tdiv n d) = n / d := by
  have h1 := Int.mul_tdiv_add_tmod n d
  have h2 := Int.mul_ediv_add_emod n d
  have h3 := Int.emod_nonneg n (show d ≠ 0 by omega)
  have h4 := Int.emod_lt_of_pos n hd
  by_cases hn : 0 ≤ n
  · have e := Int.tdiv_eq_ediv_of_nonneg (b := d) hn
    have e2 := Int.tmod_eq_emod_of_nonneg (b := d) hn
    rw [if_neg (by omega), e]
  · have h5 : -d < Int.tmod n d := Int.lt_tmod_of_pos n hd
    have h6 : Int.tmod n d ≤ 0 := by
      have := Int.tmod_nonneg d (show 0 ≤ -n by omega)
      rw [Int.neg_tmod] at this; omega
    split
    · rename_i hlt
      have : d * (Int.tdiv n d - 1) + (Int.tmod n d + d) = n := by rw [Int.mul_sub, Int.mul_one]; omega
      exact ((Int.ediv_emod_unique (r := Int.tmod n d + d) hd).2 ⟨by omega, by omega, by omega⟩).1.symm
    · have h7 : Int.tmod n d = 0 := by omega
      exact ((Int.ediv_emod_unique (r := 0) hd).2 ⟨by omega, by omega, by omega⟩).1.symm
theorem mod_eq {n d : Int} (hd : 0 < d) : (if Int.tmod n d < 0 then Int.tmod n d + d else Int.tmod n d) = n % d := by
  have h1 := Int.mul_tdiv_add_tmod n d
  have h2 := floor_eq (n := n) hd
  have h3 := Int.mul_ediv_add_emod n d
  rw [← h2] at h3
  split
  · rename_i hlt
    rw [if_pos hlt, Int.mul_sub, Int.mul_one] at h3; omega
  · rename_i hge
    rw [if_neg hge] at h3; omega
/-- A quotient, rounded. -/
def rnd (r n d : Int) : Int := if (r = 1 ∧ (d < 2 * (n % d) ∨ 2 * (n % d) = d ∧ (n / d) % 2 ≠ 0)) ∨ (r = 2 ∧ n < 0 ∧ 0 < n % d) then n / d + 1 else n / d
theorem rnd_one (r n : Int) : rnd r n 1 = n := by
  unfold rnd; rw [Int.emod_one, Int.ediv_one, if_neg (by omega)]
theorem rnd_scale (r n d c : Int) (hc : 0 < c) : rnd r (n * c) (d * c) = rnd r n d := by
  unfold rnd
  rw [Int.mul_comm n c, Int.mul_comm d c, Int.mul_emod_mul_of_pos _ _ hc, Int.mul_ediv_mul_of_pos _ _ hc]
  have e1 : (c * d < 2 * (c * (n % d))) ↔ d < 2 * (n % d) := by
    rw [show 2 * (c * (n % d)) = c * (2 * (n % d)) by rw [Int.mul_left_comm], Int.mul_lt_mul_left hc]
  have e2 : (2 * (c * (n % d)) = c * d) ↔ 2 * (n % d) = d := by
    rw [show 2 * (c * (n % d)) = c * (2 * (n % d)) by rw [Int.mul_left_comm]]
    exact ⟨fun h => Int.eq_of_mul_eq_mul_left (by omega) h, fun h => by rw [h]⟩
  have e3 : (c * n < 0) ↔ n < 0 := by
    have := Int.mul_lt_mul_left (b := n) (c := 0) hc
    rw [Int.mul_zero] at this; exact this
  have e4 : (0 < c * (n % d)) ↔ 0 < n % d := by
    have := Int.mul_lt_mul_left (b := 0) (c := n % d) hc
    rw [Int.mul_zero] at this; exact this
  simp only [e1, e2, e3, e4]
theorem div_bounds {n d : Int} (hd : 0 < d) : n - d < d * (n / d) ∧ d * (n / d) ≤ n := by
  have h2 := Int.mul_ediv_add_emod n d
  have h3 := Int.emod_nonneg n (show d ≠ 0 by omega)
  have h4 := Int.emod_lt_of_pos n hd
  omega
theorem div_small {n d B : Int} (hd : 0 < d) (h1 : -B ≤ n) (h2 : n ≤ B) (hB : 0 ≤ B) : -B ≤ n / d ∧ n / d ≤ B := by
  constructor
  · rw [Int.le_ediv_iff_mul_le hd]
    have : -B * d ≤ -B * 1 := Int.mul_le_mul_of_nonpos_left (by omega) (by omega)
    omega
  · have h3 := Int.ediv_lt_of_lt_mul (a := n) (b := B + 1) hd (by
      have : (B + 1) * 1 ≤ (B + 1) * d := Int.mul_le_mul_of_nonneg_left (by omega) (by omega)
      omega)
    omega
theorem tdiv_small {n d B : Int} (hd : 0 < d) (h1 : -B ≤ n) (h2 : n ≤ B) (hB : 0 ≤ B) : -B ≤ Int.tdiv n d ∧ Int.tdiv n d ≤ B + 1 := by
  have := floor_eq (n := n) hd
  have h3 := div_small hd h1 h2 hB
  split at this <;> omega
theorem rnd_small {r n d B : Int} (hd : 0 < d) (h1 : -B ≤ n) (h2 : n ≤ B) (hB : 0 ≤ B) : -B ≤ rnd r n d ∧ rnd r n d ≤ B + 1 := by
  have := div_small hd h1 h2 hB
  unfold rnd; split <;> omega
theorem tmod2 (x : Int) : (Int.tmod x 2 ≠ 0) ↔ (x % 2 ≠ 0) := by
  have := mod_eq (n := x) (d := 2) (by omega)
  have h1 : -2 < Int.tmod x 2 := Int.lt_tmod_of_pos x (by omega)
  split at this <;> omega
theorem rounded_j (N : Nat) (w p r b n d : Int) (hr : 0 ≤ r ∧ r ≤ 2) (hd : 0 < d) (hd2 : d ≤ 4294967296) (h1 : -1125899906842624 ≤ n) (h2 : n ≤ 1125899906842624) (k : Int → Option R) :
    arith_form_rounded_j0 N k n d (n / d) w p r b = k (rnd r n d) := by
  have hb := div_bounds (n := n) hd
  have hs := div_small hd h1 h2 (by omega)
  have h3 := Int.emod_nonneg n (show d ≠ 0 by omega)
  have h4 := Int.emod_lt_of_pos n hd
  have h5 := Int.mul_ediv_add_emod n d
  have e1 : w64 (n / d * d) = n / d * d := w64_id (by rw [Int.mul_comm]; omega) (by rw [Int.mul_comm]; omega)
  have e2 : w64 (n - n / d * d) = n % d := by
    rw [w64_id (by rw [Int.mul_comm]; omega) (by rw [Int.mul_comm]; omega), Int.mul_comm]; omega
  have e3 : w64 (2 * (n % d)) = 2 * (n % d) := w64_id (by omega) (by omega)
  have e4 : w64 (n / d + 1) = n / d + 1 := w64_id (by omega) (by omega)
  unfold arith_form_rounded_j0 rnd
  simp only [e1, e2, e3, e4]
  have t2 := tmod2 (n / d)
  by_cases c1 : r = 1
  · by_cases c2 : d < 2 * (n % d)
    · rw [cond_pos c1, cond_pos c2, if_pos (.inl ⟨c1, .inl c2⟩)]
    · rw [cond_pos c1, cond_neg c2]
      by_cases c3 : 2 * (n % d) = d
      · rw [cond_pos c3]
        by_cases c4 : Int.tmod (n / d) 2 ≠ 0
        · rw [cond_pos c4, if_pos (.inl ⟨c1, .inr ⟨c3, t2.1 c4⟩⟩)]
        · rw [cond_neg c4, cond_neg (by omega), if_neg]
          rintro (⟨_, h | ⟨_, h⟩⟩ | ⟨h, _⟩)
          · exact c2 h
          · exact c4 (t2.2 h)
          · omega
      · rw [cond_neg c3, cond_neg (by omega), if_neg]
        rintro (⟨_, h | ⟨h, _⟩⟩ | ⟨h, _⟩)
        · exact c2 h
        · exact c3 h
        · omega
  · rw [cond_neg c1]
    by_cases c5 : r = 2
    · rw [cond_pos c5]
      by_cases c6 : n < 0
      · rw [cond_pos c6]
        by_cases c7 : 0 < n % d
        · rw [cond_pos c7, if_pos (.inr ⟨c5, c6, c7⟩)]
        · rw [cond_neg c7, if_neg]
          rintro (⟨h, _⟩ | ⟨_, _, h⟩)
          · exact c1 h
          · exact c7 h
      · rw [cond_neg c6, if_neg]
        rintro (⟨h, _⟩ | ⟨_, h, _⟩)
        · exact c1 h
        · exact c6 h
    · rw [cond_neg c5, if_neg]
      rintro (⟨h, _⟩ | ⟨h, _, _⟩)
      · exact c1 h
      · exact c5 h
theorem rounded_eq (N : Nat) (w p r b n d : Int) (hr : 0 ≤ r ∧ r ≤ 2) (hd : 0 < d) (hd2 : d ≤ 4294967296) (h1 : -1125899906842624 ≤ n) (h2 : n ≤ 1125899906842624) (k : Int → Option R) :
    arith_form_rounded N w p r b n d k = k (rnd r n d) := by
  have hf := floor_eq (n := n) hd
  have hs := tdiv_small hd h1 h2 (by omega)
  unfold arith_form_rounded
  rw [cond_neg (by omega), cond_neg (by omega), w64_id (x := Int.tdiv n d) (by omega) (by omega), w64_id (x := Int.tdiv n d - 1) (by omega) (by omega)]
  by_cases c : Int.tmod n d < 0
  · rw [if_pos c] at hf
    rw [cond_pos c, hf, rounded_j N w p r b n d hr hd hd2 h1 h2]
  · rw [if_neg c] at hf
    rw [cond_neg c, hf, rounded_j N w p r b n d hr hd hd2 h1 h2]
theorem Floor_eq (N : Nat) (n d : Int) (hd : 0 < d) (h1 : -1125899906842624 ≤ n) (h2 : n ≤ 1125899906842624) (k : Int → Option R) : ratchetbase_Floor N n d k = k (n / d) := by
  have hf := floor_eq (n := n) hd
  have hs := tdiv_small hd h1 h2 (by omega)
  unfold ratchetbase_Floor
  rw [cond_neg (by omega), cond_neg (by omega), w64_id (x := Int.tdiv n d) (by omega) (by omega), w64_id (x := Int.tdiv n d - 1) (by omega) (by omega)]
  by_cases c : Int.tmod n d < 0
  · rw [if_pos c] at hf; rw [cond_pos c, hf]
  · rw [if_neg c] at hf; rw [cond_neg c, hf]
theorem Mod_eq (N : Nat) (n d : Int) (hd : 0 < d) (hd2 : d ≤ 4294967296) (k : Int → Option R) : ratchetbase_Mod N n d k = k (n % d) := by
  have hf := mod_eq (n := n) hd
  have h3 := Int.emod_nonneg n (show d ≠ 0 by omega)
  have h4 := Int.emod_lt_of_pos n hd
  unfold ratchetbase_Mod
  rw [cond_neg (by omega)]
  by_cases c : Int.tmod n d < 0
  · rw [if_pos c] at hf; rw [cond_pos c, w64_id (by omega) (by omega), hf]
  · rw [if_neg c] at hf; rw [cond_neg c, hf]
theorem Rj_eq (N : Nat) (a : Int) (t : Bool) (h1 : -1125899906842624 ≤ a) (h2 : a ≤ 1125899906842625) (k : Int → Option R) : ratchetref30_Rounded_j0 N k a t = k (if t = true then a + 1 else a) := by
  unfold ratchetref30_Rounded_j0 ratchetbase_Bit
  cases t
  · rw [cond_false]; dsimp only; rw [w64_id (by omega) (by omega)]; simp
  · rw [cond_true]; dsimp only; rw [w64_id (by omega) (by omega)]; simp
theorem Rounded_eq (N : Nat) (n d r : Int) (hr : 0 ≤ r ∧ r ≤ 2) (hd : 0 < d) (hd2 : d ≤ 4294967296) (h1 : -1125899906842624 ≤ n) (h2 : n ≤ 1125899906842624) (k : Int → Option R) : ratchetref30_Rounded N n d r k = k (rnd r n d) := by
  have hb := div_bounds (n := n) hd
  have hs := div_small hd h1 h2 (by omega)
  have h3 := Int.emod_nonneg n (show d ≠ 0 by omega)
  have h4 := Int.emod_lt_of_pos n hd
  have h5 := Int.mul_ediv_add_emod n d
  have e1 : w64 (n / d * d) = n / d * d := w64_id (by rw [Int.mul_comm]; omega) (by rw [Int.mul_comm]; omega)
  have e2 : w64 (n - n / d * d) = n % d := by
    rw [w64_id (by rw [Int.mul_comm]; omega) (by rw [Int.mul_comm]; omega), Int.mul_comm]; omega
  have e3 : w64 (2 * (n % d)) = 2 * (n % d) := w64_id (by omega) (by omega)
  unfold ratchetref30_Rounded rnd
  rw [Floor_eq N n d hd h1 h2]
  simp only [e1, e2, e3, Mod_eq N (n / d) 2 (by omega) (by omega), Rj_eq N (n / d) _ hs.1 (show n / d ≤ 1125899906842625 by omega)]
  by_cases c1 : r = 1
  · have c5 : ¬ r = 2 := by omega
    by_cases c2 : d < 2 * (n % d)
    · simp [c1, c2]
    · by_cases c3 : 2 * (n % d) = d
      · by_cases c4 : n / d % 2 = 1
        · simp [c1, c3, c4]
        · have c4' : n / d % 2 = 0 := by omega
          simp [c1, c3, c4']
      · simp [c1, c2, c3]
  · by_cases c5 : r = 2
    · by_cases c6 : n < 0 <;> by_cases c7 : 0 < n % d <;> simp [c5, c6, c7]
    · simp [c1, c5]

/-! ### Fixed -/
def sat (w b n : Int) : Int := if b = 1 then max (- p2 (w - 1)) (min (p2 (w - 1) - 1) n) else n
/-- A quotient, fixed. -/
def fx (w r b n d : Int) : Int := sat w b (rnd r n d) % p2 w
theorem toNat_mod64 (n : Int) : (BitVec.ofInt 64 n).toNat = (n % 18446744073709551616).toNat := by
  rw [BitVec.toNat_ofInt]; rfl
theorem and_mask (n w : Int) (h0 : 0 ≤ w) (h : w ≤ 16) : andI .i64 n (p2 w - 1) = n % p2 w := by
  have h1 := p2_pos w
  have h2 := p2_16 h
  have hp : p2 w = ((2 ^ w.toNat : Nat) : Int) := by
    have := p2_nat w.toNat
    rwa [show ((w.toNat : Nat) : Int) = w by omega] at this
  unfold andI
  have hbits : IntKind.bits .i64 = 64 := rfl
  have e : (BitVec.ofInt 64 n &&& BitVec.ofInt 64 (p2 w - 1)).toNat = (n % p2 w).toNat := by
    rw [BitVec.toNat_and, toNat_mod64, toNat_mod64]
    have e1 : ((p2 w - 1) % 18446744073709551616).toNat = 2 ^ w.toNat - 1 := by
      rw [Int.emod_eq_of_lt (by omega) (by omega)]; omega
    rw [e1, Nat.and_two_pow_sub_one_eq_mod]
    have hq : (n % 18446744073709551616) % p2 w = n % p2 w := by
      refine Int.emod_emod_of_dvd n ?_
      rw [hp]
      have : (2 : Nat) ^ w.toNat ∣ 2 ^ 64 := Nat.pow_dvd_pow 2 (by omega)
      have e64 : (18446744073709551616 : Int) = ((2 ^ 64 : Nat) : Int) := by decide +kernel
      rw [e64]
      exact Int.natCast_dvd_natCast.2 this
    rw [← hq]
    have h5 : 0 ≤ n % 18446744073709551616 := Int.emod_nonneg n (by omega)
    rw [hp]
    generalize n % 18446744073709551616 = x at h5
    obtain ⟨y, rfl⟩ : ∃ y : Nat, x = y := ⟨x.toNat, by omega⟩
    rfl
  show IntKind.wrap .i64 (((BitVec.ofInt (IntKind.bits .i64) n &&& BitVec.ofInt (IntKind.bits .i64) (p2 w - 1)).toNat : Nat) : Int) = _
  rw [show (BitVec.ofInt (IntKind.bits .i64) n &&& BitVec.ofInt (IntKind.bits .i64) (p2 w - 1)).toNat = _ from e]
  have h6 := Int.emod_nonneg n (show p2 w ≠ 0 by omega)
  have h7 := Int.emod_lt_of_pos n h1
  rw [Int.toNat_of_nonneg h6]
  exact w64_id (x := n % p2 w) (by omega) (by omega)
theorem sat_small {w b n : Int} (hw : 1 ≤ w) (h16 : w ≤ 16) (h1 : -1125899906842624 ≤ n) (h2 : n ≤ 1125899906842625) : -1125899906842624 ≤ sat w b n ∧ sat w b n ≤ 1125899906842625 := by
  have := p2_15 (n := w - 1) (by omega)
  have := p2_pos (w - 1)
  unfold sat; split <;> omega
theorem fixed_eq (N : Nat) {w p r b : Int} (hf : VF w p r b) (n d : Int) (hd : 0 < d) (hd2 : d ≤ 4294967296) (h1 : -1125899906842624 ≤ n) (h2 : n ≤ 1125899906842624) (k : Int → Option R) :
    arith_form_fixed N w p r b n d k = k (fx w r b n d) := by
  obtain ⟨w2, w16, p0, pw, r0, r2, b0, b1⟩ := hf
  have q1 := p2_half (w := w) (by omega)
  have q2 := p2_16 w16
  have q3 := p2_pos (w - 1)
  unfold arith_form_fixed
  rw [rounded_eq N w p r b n d ⟨r0, r2⟩ hd hd2 h1 h2]
  have e : w64 (Int.tdiv (p2 w) 2) = p2 (w - 1) := by
    rw [Int.tdiv_eq_ediv_of_nonneg (by omega), w64_id (by omega) (by omega)]; omega
  simp only [size_eq N p r b (show 0 ≤ w by omega) w16, e, w64_id (x := p2 w - 1) (by omega) (by omega), w64_id (x := -p2 (w - 1)) (by omega) (by omega), w64_id (x := p2 (w - 1) - 1) (by omega) (by omega), and_mask _ w (by omega) w16, Int.zero_sub]
  unfold fx sat
  by_cases c : b = 1
  · rw [cond_pos c, if_pos c]
  · rw [cond_neg c, if_neg c]

/-! ### Values of a form -/
theorem c1_eq (N : Nat) (x w p r b : Int) (h0 : 0 ≤ w) (h : w ≤ 16) (k : Bool → Int → Int → Int → Int → Option R) : arith_each_int__c1 N x w p r b k = k (!vok w x) w p r b := by
  have := p2_pos w; have := p2_16 h
  unfold arith_each_int__c1 arith_form_valuesErr_c1 vok
  rw [size_eq N p r b h0 h, w64_id (by omega) (by omega), within_eq]
theorem any_loop (N : Nat) (k0 : Int → Int → Int → Int → Int → Option R) (k1 : Int → Int → Int → Int → Option R) (g : Option R) (w p r b : Int) (h0 : 0 ≤ w) (h16 : w ≤ 16) (hk : ∀ i : Nat, k0 i w p r b = g) (l : List Int) (hl : l.length ≤ 1000000) : ∀ (n i : Nat), l.length < n + i → i ≤ l.length →
    slices_IndexFunc_Lint_int_l0 N k0 k1 n l l.length i w p r b = if (l.drop i).all (vok w) then k1 w p r b else g := by
  intro n
  induction n with
  | zero => intro i h1 h2; omega
  | succ n ih =>
    intro i h1 h2
    rw [slices_IndexFunc_Lint_int_l0]
    by_cases h : i < l.length
    · rw [cond_pos (by omega), at?_lt h, some_bind', c1_eq N _ w p r b h0 h16, drop_cons h, List.all_cons]
      cases e : vok w l[i]
      · rw [Bool.not_false, cond_true, hk]; simp
      · rw [Bool.not_true, cond_false, w64_succ (by omega), Bool.true_and]
        exact ih (i + 1) (by omega) (by omega)
    · rw [cond_neg (by omega)]
      have : i = l.length := by omega
      subst this
      simp
theorem valuesErr_eq (N : Nat) (w p r b : Int) (h0 : 0 ≤ w) (h16 : w ≤ 16) (l : List Int) (hl : l.length ≤ 1000000) (hN : l.length < N) (k : Int → Option R) :
    arith_form_valuesErr N w p r b l k = k (if l.all (vok w) then 0 else 2) := by
  unfold arith_form_valuesErr arith_each_int slices_ContainsFunc_Lint_int slices_IndexFunc_Lint_int
  have := any_loop N (fun z7 z8 z9 z10 z11 => arith_unless N (!decide (0 ≤ z7)) 2 fun y2 => k y2) (fun z12 z13 z14 z15 => arith_unless N (!decide (0 ≤ (-1 : Int))) 2 fun y2 => k y2) (k 2) w p r b h0 h16 (fun i => by rw [unless_eq]; simp) l hl N 0 (by omega) (by omega)
  rw [Int.natCast_zero] at this
  rw [this, List.drop_zero, unless_eq]
  cases l.all (vok w) <;> simp
theorem opened_eq (N : Nat) (hN : 10 ≤ N) (w p r b : Int) (l : List Int) (hl : l.length ≤ 5) (k : Int → Int → Int → Int → Int → Option R) :
    arith_opened N w p r b l k = k w p r b (if ferr w p r b = 0 then (if l.all (vok w) then 0 else 2) else ferr w p r b) := by
  unfold arith_opened
  rw [checkForm_eq N (by omega)]
  by_cases c : ferr w p r b = 0
  · have hf := ferr_ok c
    rw [cond_neg (by simp [c]), if_pos c, valuesErr_eq N w p r b (by have := hf.w2; omega) hf.w16 l (by omega) (by omega)]
  · rw [cond_pos c, if_neg c]

theorem vok_range {w n : Int} (h : w ≤ 16) (hv : vok w n = true) : 0 ≤ n ∧ n ≤ 65536 := by
  have := of_decide_eq_true hv
  have := p2_16 h
  omega
theorem sg_small {w n : Int} (hw : 1 ≤ w) (h : w ≤ 16) (hv : vok w n = true) : -32768 ≤ sg w n ∧ sg w n ≤ 32767 := by
  have := sg_range hw hv
  have := p2_15 (n := w - 1) (by omega)
  omega
theorem mul_small {a b A B : Int} (h1 : -A ≤ a) (h2 : a ≤ A) (h3 : -B ≤ b) (h4 : b ≤ B) (hA : 0 ≤ A) (hB : 0 ≤ B) : -(A * B) ≤ a * b ∧ a * b ≤ A * B := by
  rcases Int.le_total 0 a with ha | ha <;> rcases Int.le_total 0 b with hb | hb
  · have := Int.mul_le_mul h2 h4 hb hA
    have := Int.mul_nonneg ha hb
    have := Int.mul_nonneg hA hB
    omega
  · have e := Int.mul_le_mul h2 (show -b ≤ B by omega) (by omega) hA
    rw [Int.mul_neg] at e
    have f := Int.mul_nonneg ha (show 0 ≤ -b by omega)
    rw [Int.mul_neg] at f
    have := Int.mul_nonneg hA hB
    omega
  · have e := Int.mul_le_mul (show -a ≤ A by omega) h4 hb hA
    rw [Int.neg_mul] at e
    have f := Int.mul_nonneg (show 0 ≤ -a by omega) hb
    rw [Int.neg_mul] at f
    have := Int.mul_nonneg hA hB
    omega
  · have e := Int.mul_le_mul (show -a ≤ A by omega) (show -b ≤ B by omega) (by omega) hA
    rw [Int.neg_mul_neg] at e
    have f := Int.mul_nonneg (show 0 ≤ -a by omega) (show 0 ≤ -b by omega)
    rw [Int.neg_mul_neg] at f
    have := Int.mul_nonneg hA hB
    omega
theorem p2_sq {p : Int} (h : 0 ≤ p) : p2 (2 * p) = p2 p * p2 p := by
  rw [← p2_add h h]; congr 1; omega
theorem zz (a b c d : Int) : (false != (decide (a = b) && (decide (c = d) && true))) = decide (a = b ∧ c = d) := by
  by_cases h : a = b <;> by_cases h' : c = d <;> simp [h, h']


/-! ### Common divisors -/
theorem half_mod {x y : Nat} (h0 : 0 < y) (h : y ≤ x) : 2 * (x % y) < x := by
  have h1 := Nat.div_add_mod x y
  have h2 := Nat.mod_lt x h0
  have h3 : 1 ≤ x / y := (Nat.one_le_div_iff h0).2 h
  have h4 : y * 1 ≤ y * (x / y) := Nat.mul_le_mul_left _ h3
  omega
theorem gcd_step (x y : Nat) : Nat.gcd x y = Nat.gcd y (x % y) := by
  rw [Nat.gcd_comm, Nat.gcd_rec, Nat.gcd_comm]
theorem divisor_loop (N : Nat) (k0 : Int → Option R) : ∀ (m n : Nat) (a b : Int), b.natAbs < 2 ^ m → 2 * m + 1 ≤ n →
    ∃ z : Int, z.natAbs = Nat.gcd a.natAbs b.natAbs ∧ (b ≠ 0 → z.natAbs ≤ b.natAbs) ∧ arith_divisor_l0 N k0 n a b = k0 z := by
  intro m
  induction m with
  | zero =>
    intro n a b h1 h2
    obtain ⟨n, rfl⟩ : ∃ q, n = q + 1 := ⟨n - 1, by omega⟩
    have hb : b = 0 := by omega
    subst hb
    exact ⟨a, by simp, fun h => absurd rfl h, by rw [arith_divisor_l0, cond_neg (by simp)]⟩
  | succ m ih =>
    intro n a b h1 h2
    obtain ⟨n, rfl⟩ : ∃ q, n = q + 1 := ⟨n - 1, by omega⟩
    by_cases hb : b = 0
    · subst hb
      exact ⟨a, by simp, fun h => absurd rfl h, by rw [arith_divisor_l0, cond_neg (by simp)]⟩
    · rw [arith_divisor_l0, cond_pos hb, cond_neg hb]
      obtain ⟨n, rfl⟩ : ∃ q, n = q + 1 := ⟨n - 1, by omega⟩
      have e1 : (Int.tmod a b).natAbs = a.natAbs % b.natAbs := Int.natAbs_tmod a b
      by_cases hr : Int.tmod a b = 0
      · refine ⟨b, ?_, fun _ => Nat.le_refl _, by rw [arith_divisor_l0, cond_neg (by simp [hr])]⟩
        rw [gcd_step, ← e1, hr]; simp
      · rw [arith_divisor_l0, cond_pos hr, cond_neg hr]
        have e2 : (Int.tmod b (Int.tmod a b)).natAbs = b.natAbs % (Int.tmod a b).natAbs := Int.natAbs_tmod _ _
        have h3 : (Int.tmod a b).natAbs < b.natAbs := by rw [e1]; exact Nat.mod_lt _ (by omega)
        have h4 := half_mod (x := b.natAbs) (y := (Int.tmod a b).natAbs) (by omega) (by omega)
        rw [Nat.pow_succ] at h1
        obtain ⟨z, z1, z2, z3⟩ := ih n (Int.tmod a b) (Int.tmod b (Int.tmod a b)) (by omega) (by omega)
        refine ⟨z, ?_, fun _ => ?_, z3⟩
        · rw [z1, e2, ← gcd_step b.natAbs, e1, ← gcd_step]
        · rw [z1]
          refine Nat.le_trans (Nat.le_of_dvd (by omega) (Nat.gcd_dvd_left _ _)) (by omega)
def gcI (a b : Int) : Int := ((Nat.gcd a.natAbs b.natAbs : Nat) : Int)
theorem gcI_pos {a b : Int} (hb : 0 < b) : 0 < gcI a b := by
  unfold gcI
  have := Nat.gcd_pos_of_pos_right a.natAbs (n := b.natAbs) (by omega)
  omega
theorem gcI_le {a b : Int} (hb : 0 < b) : gcI a b ≤ b := by
  unfold gcI
  have := Nat.le_of_dvd (show 0 < b.natAbs by omega) (Nat.gcd_dvd_right a.natAbs b.natAbs)
  omega
theorem divisor_eq (N : Nat) (hN : 200 ≤ N) (a b : Int) (hb : 0 < b) (hb2 : b ≤ 9223372036854775807) (k : Int → Option R) : arith_divisor N a b k = k (gcI a b) := by
  unfold arith_divisor gcI
  obtain ⟨z, z1, z2, z3⟩ := divisor_loop N (fun z1 => k (max z1 (w64 (0 - z1)))) 63 N a b (by omega) (by omega)
  have := z2 (by omega)
  rw [z3, w64_id (by omega) (by omega), ← z1]
  congr 1; omega
theorem Gcd_loop (N : Nat) (k0 : Int → Option R) : ∀ (m n : Nat) (a b : Int), b.natAbs < 2 ^ m → 2 * m + 1 ≤ n →
    ∃ z : Int, z.natAbs = Nat.gcd a.natAbs b.natAbs ∧ (b ≠ 0 → z.natAbs ≤ b.natAbs) ∧ ratchetbase_Gcd_l0 N k0 n a b = k0 z := by
  intro m
  induction m with
  | zero =>
    intro n a b h1 h2
    obtain ⟨n, rfl⟩ : ∃ q, n = q + 1 := ⟨n - 1, by omega⟩
    have hb : b = 0 := by omega
    subst hb
    exact ⟨a, by simp, fun h => absurd rfl h, by rw [ratchetbase_Gcd_l0, cond_neg (by simp)]⟩
  | succ m ih =>
    intro n a b h1 h2
    obtain ⟨n, rfl⟩ : ∃ q, n = q + 1 := ⟨n - 1, by omega⟩
    by_cases hb : b = 0
    · subst hb
      exact ⟨a, by simp, fun h => absurd rfl h, by rw [ratchetbase_Gcd_l0, cond_neg (by simp)]⟩
    · rw [ratchetbase_Gcd_l0, cond_pos hb, cond_neg hb]
      obtain ⟨n, rfl⟩ : ∃ q, n = q + 1 := ⟨n - 1, by omega⟩
      have e1 : (Int.tmod a b).natAbs = a.natAbs % b.natAbs := Int.natAbs_tmod a b
      by_cases hr : Int.tmod a b = 0
      · refine ⟨b, ?_, fun _ => Nat.le_refl _, by rw [ratchetbase_Gcd_l0, cond_neg (by simp [hr])]⟩
        rw [gcd_step, ← e1, hr]; simp
      · rw [ratchetbase_Gcd_l0, cond_pos hr, cond_neg hr]
        have e2 : (Int.tmod b (Int.tmod a b)).natAbs = b.natAbs % (Int.tmod a b).natAbs := Int.natAbs_tmod _ _
        have h3 : (Int.tmod a b).natAbs < b.natAbs := by rw [e1]; exact Nat.mod_lt _ (by omega)
        have h4 := half_mod (x := b.natAbs) (y := (Int.tmod a b).natAbs) (by omega) (by omega)
        rw [Nat.pow_succ] at h1
        obtain ⟨z, z1, z2, z3⟩ := ih n (Int.tmod a b) (Int.tmod b (Int.tmod a b)) (by omega) (by omega)
        refine ⟨z, ?_, fun _ => ?_, z3⟩
        · rw [z1, e2, ← gcd_step b.natAbs, e1, ← gcd_step]
        · rw [z1]
          refine Nat.le_trans (Nat.le_of_dvd (by omega) (Nat.gcd_dvd_left _ _)) (by omega)
theorem Gcd_eq (N : Nat) (hN : 200 ≤ N) (a b : Int) (hb : 0 < b) (hb2 : b ≤ 9223372036854775807) (k : Int → Option R) : ratchetbase_Gcd N a b k = k (gcI a b) := by
  unfold ratchetbase_Gcd ratchetbase_Size gcI
  obtain ⟨z, z1, z2, z3⟩ := Gcd_loop N (fun z1 => k (max z1 (w64 (0 - z1)))) 63 N a b (by omega) (by omega)
  have := z2 (by omega)
  rw [z3, w64_id (by omega) (by omega), ← z1]
  congr 1; omega


/-! ### Fractions -/
def frerr (n d : Int) : Int := if 0 < d ∧ gcI n d = 1 then (if (-1000000000 ≤ n ∧ n ≤ 1000000000) ∧ d ≤ 1000000000 then 0 else 2) else 3
theorem fractionErr_eq (N : Nat) (hN : 200 ≤ N) (n d : Int) (hd : d ≤ 9223372036854775807) (k : Int → Option R) : arith_fractionErr N n d k = k (frerr n d) := by
  unfold arith_fractionErr frerr
  by_cases c : 0 < d
  · rw [cond_pos c, divisor_eq N hN n d c hd]
    simp only [unless_eq, within_eq, first2 N (show 4 ≤ N by omega)]
    by_cases e : gcI n d = 1 <;> by_cases f : -1000000000 ≤ n ∧ n ≤ 1000000000 <;> by_cases g : d ≤ 1000000000 <;> simp [c, e, f, g]
  · rw [cond_neg c]
    simp only [unless_eq, within_eq, first2 N (show 4 ≤ N by omega)]
    by_cases f : -1000000000 ≤ n ∧ n ≤ 1000000000 <;> by_cases g : d ≤ 1000000000 <;> simp [c, f, g]
theorem FracErr_eq (N : Nat) (hN : 200 ≤ N) (n d : Int) (hd : d ≤ 9223372036854775807) (k : Int → Option R) : ratchetref30_FracErr N n d k = k (frerr n d) := by
  unfold ratchetref30_FracErr ratchetbase_IsLowest frerr
  by_cases c : 0 < d
  · rw [cond_pos c, Gcd_eq N hN n d c hd]
    simp only [Within_eq]
    by_cases e : gcI n d = 1 <;> by_cases f : -1000000000 ≤ n ∧ n ≤ 1000000000 <;> by_cases g : d ≤ 1000000000
    all_goals (first | (have g' : ¬ (1000000000 < d) := by omega) | (have g' : 1000000000 < d := by omega))
    all_goals simp [c, e, f, g, g']
  · rw [cond_neg c]; simp [c]
/-- A quotient in lowest terms. -/
def lowN (n d : Int) : Int := Int.tdiv n (gcI n d)
def lowD (n d : Int) : Int := Int.tdiv d (gcI n d)
theorem fraction_eq (N : Nat) (hN : 200 ≤ N) (n d : Int) (hd : 0 < d) (hd2 : d ≤ 4294967296) (h1 : -4294967296 ≤ n) (h2 : n ≤ 4294967296) (k : Int → Int → Option R) : arith_fraction N n d k = k (lowN n d) (lowD n d) := by
  have hg := gcI_pos (a := n) hd
  have hs := tdiv_small (n := n) hg h1 h2 (by omega)
  have hs2 := tdiv_small (n := d) hg (show -4294967296 ≤ d by omega) hd2 (by omega)
  unfold arith_fraction lowN lowD
  rw [divisor_eq N hN n d hd (by omega), cond_neg (by omega), cond_neg (by omega), w64_id (by omega) (by omega), w64_id (by omega) (by omega)]
theorem Lowest_eq (N : Nat) (hN : 200 ≤ N) (n d : Int) (hd : 0 < d) (hd2 : d ≤ 4294967296) (h1 : -4294967296 ≤ n) (h2 : n ≤ 4294967296) (k : Int → Int → Option R) : ratchetbase_Lowest N n d k = k (lowN n d) (lowD n d) := by
  have hg := gcI_pos (a := n) hd
  have hs := tdiv_small (n := n) hg h1 h2 (by omega)
  have hs2 := tdiv_small (n := d) hg (show -4294967296 ≤ d by omega) hd2 (by omega)
  unfold ratchetbase_Lowest lowN lowD
  rw [Gcd_eq N hN n d hd (by omega), cond_neg (by omega), cond_neg (by omega), cond_neg (by omega), w64_id (by omega) (by omega), w64_id (by omega) (by omega)]
theorem low_mul {n d : Int} (hd : 0 < d) : lowN n d * gcI n d = n ∧ lowD n d * gcI n d = d := by
  unfold lowN lowD gcI
  constructor
  · exact Int.tdiv_mul_cancel (Int.ofNat_dvd_left.2 (Nat.gcd_dvd_left _ _))
  · exact Int.tdiv_mul_cancel (Int.ofNat_dvd_left.2 (Nat.gcd_dvd_right _ _))
theorem lowD_pos {n d : Int} (hd : 0 < d) : 0 < lowD n d := by
  have h := (low_mul (n := n) hd).2
  have hg := gcI_pos (a := n) hd
  rcases Int.lt_trichotomy (lowD n d) 0 with h1 | h1 | h1
  · have := Int.mul_neg_of_neg_of_pos h1 hg; omega
  · rw [h1] at h; omega
  · exact h1
theorem low_gcd {n d : Int} (hd : 0 < d) : gcI (lowN n d) (lowD n d) = 1 := by
  have h := low_mul (n := n) hd
  have hg := gcI_pos (a := n) hd
  have e1 : n.natAbs = (lowN n d).natAbs * Nat.gcd n.natAbs d.natAbs := by
    have := congrArg Int.natAbs h.1
    rw [Int.natAbs_mul] at this
    simpa [gcI] using this.symm
  have e2 : d.natAbs = (lowD n d).natAbs * Nat.gcd n.natAbs d.natAbs := by
    have := congrArg Int.natAbs h.2
    rw [Int.natAbs_mul] at this
    simpa [gcI] using this.symm
  have hgn : 0 < Nat.gcd n.natAbs d.natAbs := by unfold gcI at hg; omega
  have e3 : Nat.gcd n.natAbs d.natAbs = Nat.gcd (lowN n d).natAbs (lowD n d).natAbs * Nat.gcd n.natAbs d.natAbs := by
    rw [← Nat.gcd_mul_right, ← e1, ← e2]
  have e4 : Nat.gcd (lowN n d).natAbs (lowD n d).natAbs = 1 := by
    have : 1 * Nat.gcd n.natAbs d.natAbs = Nat.gcd (lowN n d).natAbs (lowD n d).natAbs * Nat.gcd n.natAbs d.natAbs := by rw [Nat.one_mul]; exact e3
    exact (Nat.eq_of_mul_eq_mul_right hgn this).symm
  unfold gcI; rw [e4]; rfl
theorem lowN_small {n d B : Int} (hd : 0 < d) (h1 : -B ≤ n) (h2 : n ≤ B) (hB : 0 ≤ B) : -B ≤ lowN n d ∧ lowN n d ≤ B + 1 := tdiv_small (gcI_pos hd) h1 h2 hB
theorem fixedOf_eq (N : Nat) (hN : 200 ≤ N) (n d w p r b : Int) (hd : d ≤ 9223372036854775807) (k : Int → Int → Option R) :
    arith_FixedOf N n d w p r b k = if frerr n d = 0 then (if ferr w p r b = 0 then k (fx w r b (n * p2 p) d) 0 else k 0 (ferr w p r b)) else k 0 (frerr n d) := by
  unfold arith_FixedOf
  rw [fractionErr_eq N hN n d hd, checkForm_eq N (by omega), first2 N (by omega)]
  by_cases c : frerr n d = 0
  · rw [if_pos c, if_pos c]
    by_cases e : ferr w p r b = 0
    · have hf := ferr_ok e
      have := hf.p0; have := hf.pw; have := hf.w16
      have q := p2_15 (n := p) (by omega)
      have q0 := p2_pos p
      have hc := c
      unfold frerr at hc
      split at hc
      · rename_i c1
        split at hc
        · rename_i c2
          have hm := mul_small (A := 1000000000) (B := 32768) c2.1.1 c2.1.2 (show -32768 ≤ p2 p by omega) q (by omega) (by omega)
          rw [cond_neg (by simp [e]), if_pos e, one_eq N w r b (by omega) (by omega), w64_id (by omega) (by omega), fixed_eq N hf _ d c1.1 (by omega) (by omega) (by omega)]
        · cases hc
      · cases hc
    · rw [cond_pos e, if_neg e]
  · rw [if_neg c, if_neg c, cond_pos c]
theorem sg_mod {w v : Int} (hw : 1 ≤ w) (h : vok w v = true) : sg w v % p2 w = v := by
  have hv := of_decide_eq_true h
  have h1 := p2_half hw
  have h3 := p2_pos (w - 1)
  unfold sg
  split
  · rw [Int.sub_emod_right, Int.emod_eq_of_lt hv.1 (by omega)]
  · exact Int.emod_eq_of_lt hv.1 (by omega)
theorem sat_sg {w b v : Int} (hw : 1 ≤ w) (h : vok w v = true) : sat w b (sg w v) = sg w v := by
  have := sg_range hw h
  unfold sat; split <;> omega
/-- A number of a form, fixed in it, is its value. -/
theorem again_eq {w p r b v : Int} (hf : VF w p r b) (h : vok w v = true) : frerr (lowN (sg w v) (p2 p)) (lowD (sg w v) (p2 p)) = 0 ∧ fx w r b (lowN (sg w v) (p2 p) * p2 p) (lowD (sg w v) (p2 p)) = v := by
  have := hf.p0; have := hf.pw; have := hf.w16; have := hf.w2
  have q := p2_15 (n := p) (by omega)
  have q0 := p2_pos p
  have hs := sg_small (by omega) hf.w16 h
  have hn := lowN_small (n := sg w v) (d := p2 p) (B := 32768) q0 (by omega) (by omega) (by omega)
  have hd := lowD_pos (n := sg w v) q0
  have hd2 := lowN_small (n := p2 p) (d := p2 p) (B := 32768) q0 (by omega) (by omega) (by omega)
  have hm := low_mul (n := sg w v) q0
  have hg := gcI_pos (a := sg w v) q0
  have hdl : lowD (sg w v) (p2 p) ≤ 32769 := (tdiv_small (n := p2 p) (B := 32768) hg (by omega) (by omega) (by omega)).2
  refine ⟨?_, ?_⟩
  · unfold frerr
    rw [if_pos ⟨hd, low_gcd q0⟩, if_pos (by omega)]
  · unfold fx
    have e : rnd r (lowN (sg w v) (p2 p) * p2 p) (lowD (sg w v) (p2 p)) = sg w v := by
      have e1 : lowN (sg w v) (p2 p) * p2 p = sg w v * lowD (sg w v) (p2 p) := by
        have e0 : lowN (sg w v) (p2 p) * (lowD (sg w v) (p2 p) * gcI (sg w v) (p2 p)) = lowN (sg w v) (p2 p) * gcI (sg w v) (p2 p) * lowD (sg w v) (p2 p) := by rw [Int.mul_comm (lowD _ _) (gcI _ _), ← Int.mul_assoc]
        rwa [hm.2, hm.1] at e0
      rw [e1]
      have := rnd_scale r (sg w v) 1 (lowD (sg w v) (p2 p)) hd
      rw [Int.one_mul] at this
      rw [this, rnd_one]
    rw [e, sat_sg (by omega) h, sg_mod (by omega) h]

/-! ### Wide numbers -/
def val : List Int → Int
  | [] => 0
  | d :: r => d + 1000000000 * val r
def dOK (l : List Int) : Prop := ∀ d ∈ l, 0 ≤ d ∧ d < 1000000000
def dig (n : Nat) : List Int := if h : n = 0 then [] else ((n % 1000000000 : Nat) : Int) :: dig (n / 1000000000)
termination_by n
decreasing_by omega
theorem dig_zero : dig 0 = [] := by rw [dig]; simp
theorem dig_pos {n : Nat} (h : n ≠ 0) : dig n = ((n % 1000000000 : Nat) : Int) :: dig (n / 1000000000) := by rw [dig]; simp [h]
theorem dOK_nil : dOK [] := fun d h => by cases h
theorem dOK_cons {d : Int} {l : List Int} (h : 0 ≤ d ∧ d < 1000000000) (hl : dOK l) : dOK (d :: l) := by
  intro x hx
  rcases List.mem_cons.1 hx with rfl | hx
  · exact h
  · exact hl x hx
theorem dOK_app {a b : List Int} (ha : dOK a) (hb : dOK b) : dOK (a ++ b) := by
  intro x hx
  rcases List.mem_append.1 hx with h | h
  · exact ha x h
  · exact hb x h
theorem dOK_tail {d : Int} {l : List Int} (h : dOK (d :: l)) : dOK l := fun x hx => h x (List.mem_cons_of_mem _ hx)
theorem dOK_head {d : Int} {l : List Int} (h : dOK (d :: l)) : 0 ≤ d ∧ d < 1000000000 := h d List.mem_cons_self
theorem dOK_drop {l : List Int} (h : dOK l) (n : Nat) : dOK (l.drop n) := fun x hx => h x (List.mem_of_mem_drop hx)
theorem dOK_take {l : List Int} (h : dOK l) (n : Nat) : dOK (l.take n) := fun x hx => h x (List.mem_of_mem_take hx)
theorem dOK_set {l : List Int} (h : dOK l) (n : Nat) {v : Int} (hv : 0 ≤ v ∧ v < 1000000000) : dOK (l.set n v) := fun x hx => by
  rcases List.mem_or_eq_of_mem_set hx with h' | rfl
  · exact h x h'
  · exact hv
theorem dig_ok (n : Nat) : dOK (dig n) := by
  induction n using Nat.strongRecOn with
  | _ n ih =>
    by_cases h : n = 0
    · subst h; rw [dig_zero]; exact dOK_nil
    · rw [dig_pos h]
      exact dOK_cons (by omega) (ih _ (by omega))
theorem val_dig (n : Nat) : val (dig n) = (n : Int) := by
  induction n using Nat.strongRecOn with
  | _ n ih =>
    by_cases h : n = 0
    · subst h; rw [dig_zero]; rfl
    · rw [dig_pos h, val, ih _ (by omega)]
      omega
theorem val_nonneg : ∀ {l : List Int}, dOK l → 0 ≤ val l
  | [], _ => by simp [val]
  | d :: l, h => by
    have := val_nonneg (dOK_tail h)
    have := dOK_head h
    rw [val]; omega
/-- No zero at the end. -/
def Trim : List Int → Prop
  | [] => True
  | [d] => d ≠ 0
  | _ :: d :: l => Trim (d :: l)
theorem Trim_pos : ∀ {l : List Int}, dOK l → Trim l → l ≠ [] → 0 < val l
  | [], _, _, h => absurd rfl h
  | [d], h, t, _ => by
    have := dOK_head h
    have t' : d ≠ 0 := t
    simp only [val]; omega
  | d :: e :: l, h, t, _ => by
    have := Trim_pos (dOK_tail h) t (by simp)
    have := dOK_head h
    rw [val]; omega
theorem dig_uniq : ∀ {l : List Int}, dOK l → Trim l → l = dig (val l).toNat
  | [], _, _ => by simp [val, dig_zero]
  | [d], h, t => by
    have h1 := dOK_head h
    have t' : d ≠ 0 := t
    have e : val [d] = d := by simp [val]
    rw [e, dig_pos (by omega), show d.toNat / 1000000000 = 0 by omega, dig_zero]
    congr 1; omega
  | d :: e :: l, h, t => by
    have h1 := dOK_head h
    have hp := Trim_pos (dOK_tail h) t (by simp)
    have ih := dig_uniq (dOK_tail h) t
    have hv : val (d :: e :: l) = d + 1000000000 * val (e :: l) := rfl
    rw [hv, dig_pos (by omega), show (d + 1000000000 * val (e :: l)).toNat / 1000000000 = (val (e :: l)).toNat by omega, ← ih]
    congr 1; omega
theorem dig_len : ∀ (m : Nat) {n : Nat}, n < 1000000000 ^ m → (dig n).length ≤ m
  | 0, n, h => by
    have : n = 0 := by simpa using h
    subst this; rw [dig_zero]; simp
  | m + 1, n, h => by
    by_cases h0 : n = 0
    · subst h0; rw [dig_zero]; simp
    · rw [dig_pos h0, List.length_cons]
      rw [Nat.pow_succ] at h
      have := dig_len m (n := n / 1000000000) ((Nat.div_lt_iff_lt_mul (by omega)).2 h)
      omega
def bpow (n : Nat) : Int := ((1000000000 ^ n : Nat) : Int)
theorem bpow_zero : bpow 0 = 1 := rfl
theorem bpow_succ (n : Nat) : bpow (n + 1) = 1000000000 * bpow n := by
  unfold bpow; rw [Nat.pow_succ]; omega
theorem bpow_pos (n : Nat) : 0 < bpow n := by
  unfold bpow
  have : 0 < 1000000000 ^ n := Nat.pow_pos (by omega)
  omega
theorem val_app : ∀ (a b : List Int), val (a ++ b) = val a + bpow a.length * val b
  | [], b => by simp [val, bpow_zero]
  | d :: a, b => by
    rw [List.cons_append, val, val_app a b, val, List.length_cons, bpow_succ, Int.mul_add, Int.mul_assoc]
    omega
theorem val_lt : ∀ {l : List Int}, dOK l → val l < bpow l.length
  | [], _ => by simp [val, bpow_zero]
  | d :: l, h => by
    have h1 := val_lt (dOK_tail h)
    have h2 := dOK_head h
    rw [val, List.length_cons, bpow_succ]; omega
theorem val_one (d : Int) : val [d] = d := by simp [val]
theorem val_snoc (l : List Int) (d : Int) : val (l ++ [d]) = val l + bpow l.length * d := by rw [val_app, val_one]
theorem val_take {l : List Int} {j : Nat} (h : j < l.length) : val (l.take (j + 1)) = val (l.take j) + bpow j * l[j] := by
  rw [List.take_succ_eq_append_getElem h, val_snoc, List.length_take, Nat.min_eq_left (by omega)]
theorem val_split (l : List Int) (i : Nat) (h : i ≤ l.length) : val l = val (l.take i) + bpow i * val (l.drop i) := by
  have := val_app (l.take i) (l.drop i)
  rw [List.take_append_drop, List.length_take, Nat.min_eq_left h] at this
  exact this
def dat (l : List Int) (i : Nat) : Int := l[i]?.getD 0
theorem dat_lt {l : List Int} {i : Nat} (h : i < l.length) : dat l i = l[i] := by simp [dat, List.getElem?_eq_getElem h]
theorem dat_ge {l : List Int} {i : Nat} (h : l.length ≤ i) : dat l i = 0 := by simp [dat, List.getElem?_eq_none h]
theorem val_drop (l : List Int) (i : Nat) : val (l.drop i) = dat l i + 1000000000 * val (l.drop (i + 1)) := by
  by_cases h : i < l.length
  · rw [drop_cons h, val, dat_lt h]
  · rw [List.drop_eq_nil_of_le (by omega), List.drop_eq_nil_of_le (by omega), dat_ge (by omega)]
    simp [val]
theorem dat_ok {l : List Int} (h : dOK l) (i : Nat) : 0 ≤ dat l i ∧ dat l i < 1000000000 := by
  by_cases hi : i < l.length
  · rw [dat_lt hi]; exact h _ (List.getElem_mem hi)
  · rw [dat_ge (by omega)]; omega
theorem digit_eq (N : Nat) (l : List Int) (i : Nat) (k : Int → Option R) : ratchetbase_digit N l i k = k (dat l i) := by
  unfold ratchetbase_digit
  by_cases h : i < l.length
  · rw [cond_pos (by omega), at?_lt h, some_bind', dat_lt h]
  · rw [cond_neg (by omega), dat_ge (by omega)]
/-! ### Trimmed -/
theorem Trim_take {l : List Int} : ∀ {z : Nat} (h : z < l.length), l[z] ≠ 0 → Trim (l.take (z + 1)) := by
  induction l with
  | nil => intro z h; simp at h
  | cons d l ih =>
    intro z h h0
    cases z with
    | zero => simpa [Trim] using h0
    | succ z =>
      have h' : z < l.length := by simpa using h
      have := ih h' (by simpa using h0)
      cases l with
      | nil => simp at h'
      | cons e l => rw [List.take_succ_cons, List.take_succ_cons, Trim]; rw [List.take_succ_cons] at this; exact this
theorem trim_loop (N : Nat) (k0 : List Int → Int → Option R) (l : List Int) (hl : l.length ≤ 1000000) : ∀ (n j : Nat), j ≤ l.length → j < n →
    ∃ z : Nat, z ≤ j ∧ ratchetbase_trimmed_l0 N k0 n l j = k0 l z ∧ val (l.take z) = val (l.take j) ∧ Trim (l.take z) := by
  intro n
  induction n with
  | zero => intro j h1 h2; omega
  | succ n ih =>
    intro j h1 h2
    rw [ratchetbase_trimmed_l0]
    cases j with
    | zero => exact ⟨0, Nat.le_refl _, by rw [cond_neg (by omega)], rfl, by simp [Trim]⟩
    | succ j =>
      have e : w64 (((j + 1 : Nat) : Int) - 1) = (j : Int) := by rw [w64_id (by omega) (by omega)]; omega
      rw [cond_pos (by omega), e, at?_lt (show j < l.length by omega), some_bind']
      by_cases h0 : l[j] = 0
      · rw [cond_pos h0]
        obtain ⟨z, z1, z2, z3, z4⟩ := ih j (by omega) (by omega)
        refine ⟨z, by omega, z2, ?_, z4⟩
        rw [z3, val_take (by omega), h0, Int.mul_zero, Int.add_zero]
      · rw [cond_neg h0]
        exact ⟨j + 1, Nat.le_refl _, rfl, rfl, Trim_take (by omega) h0⟩
theorem trimmed_eq (N : Nat) (l : List Int) (hok : dOK l) (hl : l.length ≤ 1000000) (hN : l.length < N) (k : List Int → Option R) : ratchetbase_trimmed N l k = k (dig (val l).toNat) := by
  unfold ratchetbase_trimmed
  obtain ⟨z, z1, z2, z3, z4⟩ := trim_loop N (fun z2 z3 => (bif slP 0 z3 z2.length then (k (List.take z3.toNat (List.drop 0 z2))) else none)) l hl N l.length (Nat.le_refl _) hN
  rw [z2, slP_of (by omega), cond_true, List.drop_zero, Int.toNat_natCast]
  rw [List.take_length] at z3
  have := dig_uniq (dOK_take hok z) z4
  rw [z3] at this
  rw [← this]
theorem wideOf_eq (N : Nat) (s : Int) (l : List Int) (hok : dOK l) (hl : l.length ≤ 1000000) (hN : l.length < N) (k : Int → List Int → Option R) :
    ratchetbase_wideOf N s l k = k (if val l = 0 then 0 else s) (dig (val l).toNat) := by
  unfold ratchetbase_wideOf
  rw [trimmed_eq N l hok hl hN]
  have hv := val_nonneg hok
  by_cases h : val l = 0
  · rw [h, show (0 : Int).toNat = 0 from rfl, dig_zero, cond_pos (by simp), if_pos rfl]
  · rw [if_neg h, cond_neg]
    rw [dig_pos (by omega)]
    simp only [List.length_cons]; omega
/-! ### Sums and differences of digits -/
theorem add_loop (N : Nat) (k0 : Option R) (k1 : List Int → Option R) (a b : List Int) (ha : dOK a) (hb : dOK b) (L : Nat) (hL : L ≤ 100000) (la : a.length ≤ L) (lb : b.length ≤ L) : ∀ (n i : Nat) (c : Int) (acc : List Int),
    L + 2 ≤ n + i → (i ≤ L ∧ 0 ≤ c ∧ c ≤ 1 ∨ i = L + 1 ∧ c = 0) → acc.length = i → dOK acc → val acc + bpow i * (c + val (a.drop i) + val (b.drop i)) = val a + val b →
    ∃ out, ratchetbase_addDigits_l0 N k0 k1 n a b c i acc = k1 out ∧ dOK out ∧ out.length ≤ L + 1 ∧ val out = val a + val b := by
  intro n
  induction n with
  | zero => intro i c acc h1 h2; omega
  | succ n ih =>
    intro i c acc h1 h2 h3 h4 h5
    have da := dat_ok ha i
    have db := dat_ok hb i
    have step : i ≤ L → ∀ z : (List Int → List Int → Int → Int → List Int → Option R), (z = fun z3 z4 z5 z6 z7 => ratchetbase_addDigits_l0 N k0 k1 n z3 z4 z5 z6 z7) → 0 ≤ c ∧ c ≤ 1 →
        ∃ out, ratchetbase_addDigits_j0 N z a b c i acc = k1 out ∧ dOK out ∧ out.length ≤ L + 1 ∧ val out = val a + val b := by
      intro hi z hz hc
      subst hz
      unfold ratchetbase_addDigits_j0
      rw [digit_eq, digit_eq, roomB_of (by omega), cond_true, w64_id (x := dat a i + dat b i) (by omega) (by omega), w64_id (x := dat a i + dat b i + c) (by omega) (by omega)]
      have e1 : Int.tdiv (dat a i + dat b i + c) 1000000000 = (dat a i + dat b i + c) / 1000000000 := Int.tdiv_eq_ediv_of_nonneg (by omega)
      have e2 : Int.tmod (dat a i + dat b i + c) 1000000000 = (dat a i + dat b i + c) % 1000000000 := Int.tmod_eq_emod_of_nonneg (by omega)
      rw [e1, e2, w64_id (by omega) (by omega), w64_succ (by omega)]
      refine ih (i + 1) _ _ (by omega) ?_ (by simp; omega) (dOK_app h4 (dOK_cons (by omega) dOK_nil)) ?_
      · by_cases hiL : i < L
        · left; omega
        · right
          have : dat a i = 0 := dat_ge (by omega)
          have : dat b i = 0 := dat_ge (by omega)
          omega
      · rw [val_snoc, h3, bpow_succ, ← h5, val_drop a i, val_drop b i]
        generalize val (a.drop (i + 1)) = p
        generalize val (b.drop (i + 1)) = q
        have e : dat a i + dat b i + c = 1000000000 * ((dat a i + dat b i + c) / 1000000000) + (dat a i + dat b i + c) % 1000000000 := (Int.mul_ediv_add_emod _ _).symm
        generalize (dat a i + dat b i + c) / 1000000000 = u at e ⊢
        generalize (dat a i + dat b i + c) % 1000000000 = v at e ⊢
        rw [show c + (dat a i + 1000000000 * p) + (dat b i + 1000000000 * q) = 1000000000 * u + v + 1000000000 * p + 1000000000 * q by omega]
        rw [Int.mul_comm 1000000000 (bpow i), Int.mul_assoc, Int.add_assoc, ← Int.mul_add]
        congr 2; omega
    rw [ratchetbase_addDigits_l0]
    by_cases c1 : i < a.length
    · rw [cond_pos (by omega)]; exact step (by omega) _ rfl (by omega)
    · rw [cond_neg (by omega)]
      by_cases c2 : i < b.length
      · rw [cond_pos (by omega)]; exact step (by omega) _ rfl (by omega)
      · rw [cond_neg (by omega)]
        by_cases c3 : 0 < c
        · rw [cond_pos c3]; exact step (by omega) _ rfl (by omega)
        · rw [cond_neg c3]
          refine ⟨acc, rfl, h4, by omega, ?_⟩
          rw [List.drop_eq_nil_of_le (by omega), List.drop_eq_nil_of_le (by omega)] at h5
          have : c = 0 := by omega
          subst this
          simpa [val] using h5
theorem addDigits_eq (N : Nat) (a b : List Int) (ha : dOK a) (hb : dOK b) (L : Nat) (hL : L ≤ 100000) (la : a.length ≤ L) (lb : b.length ≤ L) (hN : L + 2 ≤ N) (k : List Int → Option R) :
    ∃ out, ratchetbase_addDigits N a b k = k out ∧ dOK out ∧ out.length ≤ L + 1 ∧ val out = val a + val b := by
  unfold ratchetbase_addDigits
  have := add_loop N (k []) (fun z18 => k z18) a b ha hb L hL la lb N 0 0 [] (by omega) (by omega) rfl dOK_nil (by simp [val, bpow_zero])
  rw [Int.natCast_zero] at this
  exact this

theorem sub_loop (N : Nat) (k0 : Option R) (k1 : List Int → Option R) (a b : List Int) (ha : dOK a) (hb : dOK b) (L : Nat) (hL : L ≤ 100000) (la : a.length = L) (lb : b.length ≤ 100000) : ∀ (n i : Nat) (w : Int) (acc : List Int),
    L < n + i → i ≤ L → 0 ≤ w ∧ w ≤ 1 → acc.length = i → dOK acc → val acc + bpow i * (val (a.drop i) - val (b.drop i) - w) = val a - val b →
    ∃ out x, ratchetbase_subDigits_l0 N k0 k1 n a b w i acc = k1 out ∧ dOK out ∧ out.length = L ∧ val out + bpow L * (-x) = val a - val b ∧ 0 ≤ x := by
  intro n
  induction n with
  | zero => intro i w acc h1 h2; omega
  | succ n ih =>
    intro i w acc h1 h2 hw h3 h4 h5
    have da := dat_ok ha i
    have db := dat_ok hb i
    rw [ratchetbase_subDigits_l0]
    by_cases c1 : i < a.length
    · have hd : a[i] = dat a i := (dat_lt c1).symm
      rw [cond_pos (by omega), at?_lt c1, some_bind', digit_eq, hd, w64_id (x := dat a i - dat b i) (by omega) (by omega), w64_id (x := dat a i - dat b i - w) (by omega) (by omega)]
      have hstep : ∀ (w' v : Int), 0 ≤ w' ∧ w' ≤ 1 → 0 ≤ v ∧ v < 1000000000 → dat a i - dat b i - w = v - 1000000000 * w' →
          ∃ out x, ratchetbase_subDigits_l0 N k0 k1 n a b w' (w64 ((i : Int) + 1)) (acc ++ [v]) = k1 out ∧ dOK out ∧ out.length = L ∧ val out + bpow L * (-x) = val a - val b ∧ 0 ≤ x := by
        intro w' v hw' hv e
        rw [w64_succ (by omega)]
        refine ih (i + 1) w' _ (by omega) (by omega) hw' (by simp; omega) (dOK_app h4 (dOK_cons hv dOK_nil)) ?_
        rw [val_snoc, h3, bpow_succ, ← h5, val_drop a i, val_drop b i]
        generalize val (a.drop (i + 1)) = p
        generalize val (b.drop (i + 1)) = q
        rw [show dat a i + 1000000000 * p - (dat b i + 1000000000 * q) - w = v - 1000000000 * w' + 1000000000 * p - 1000000000 * q by omega]
        rw [Int.mul_comm 1000000000 (bpow i), Int.mul_assoc, Int.add_assoc, ← Int.mul_add]
        congr 2; omega
      by_cases c2 : dat a i - dat b i - w < 0
      · rw [cond_pos c2, roomB_of (by omega), cond_true, w64_id (x := dat a i - dat b i - w + 1000000000) (by omega) (by omega)]
        exact hstep 1 _ (by omega) (by omega) (by omega)
      · rw [cond_neg c2, roomB_of (by omega), cond_true]
        exact hstep 0 _ (by omega) (by omega) (by omega)
    · rw [cond_neg (by omega)]
      have hi : i = L := by omega
      subst hi
      rw [List.drop_eq_nil_of_le (by omega)] at h5
      refine ⟨acc, val (b.drop i) + w, rfl, h4, h3, ?_, ?_⟩
      · rw [← h5]; simp only [val]; congr 2; omega
      · have := val_nonneg (dOK_drop hb i); omega
theorem sub_none {v p x d : Int} (hp : 0 < p) (hv : v < p) (hx : 0 ≤ x) (hd : 0 ≤ d) (e : v + p * (-x) = d) : v = d := by
  by_cases h : x = 0
  · subst h; simpa using e
  · have h1 : 1 ≤ x := by omega
    have h2 : p * 1 ≤ p * x := Int.mul_le_mul_of_nonneg_left h1 (by omega)
    rw [Int.mul_neg] at e
    omega
theorem subDigits_eq (N : Nat) (a b : List Int) (ha : dOK a) (hb : dOK b) (la : a.length ≤ 100000) (lb : b.length ≤ 100000) (hN : a.length + 2 ≤ N) (hle : val b ≤ val a) (k : List Int → Option R) :
    ratchetbase_subDigits N a b k = k (dig (val a - val b).toNat) := by
  unfold ratchetbase_subDigits
  obtain ⟨out, x, h1, h2, h3, h4, h5⟩ := sub_loop N (ratchetbase_trimmed N [] (fun y3 => (k y3))) (fun z4 => (ratchetbase_trimmed N z4 (fun y5 => (k y5)))) a b ha hb a.length la rfl lb N 0 0 [] (by omega) (by omega) (by omega) rfl dOK_nil (by simp [val, bpow_zero])
  rw [Int.natCast_zero] at h1
  have hv := val_lt h2
  rw [h3] at hv
  have e := sub_none (bpow_pos a.length) hv h5 (by omega) h4
  rw [h1, trimmed_eq N out h2 (by omega) (by omega), e]
/-! ### Comparing -/
def sn (x : Int) : Int := if x < 0 then -1 else if x = 0 then 0 else 1
theorem sn_neg (x : Int) : sn (-x) = -sn x := by unfold sn; split <;> split <;> (try split) <;> omega
theorem sn_range (x : Int) : -1 ≤ sn x ∧ sn x ≤ 1 := by unfold sn; split <;> (try split) <;> omega
theorem cmp_loop (N : Nat) (k0 : Int → Option R) (k1 : Option R) (hk : k1 = k0 0) (a b : List Int) (ha : dOK a) (hb : dOK b) (hab : a.length = b.length) (la : a.length ≤ 100000) : ∀ (n i : Nat), i ≤ a.length → i < n → a.drop i = b.drop i →
    ratchetbase_cmpDigits_l0 N k0 k1 n a b ((i : Int) - 1) = k0 (sn (val a - val b)) := by
  intro n
  induction n with
  | zero => intro i h1 h2; omega
  | succ n ih =>
    intro i h1 h2 h3
    rw [ratchetbase_cmpDigits_l0]
    cases i with
    | zero =>
      rw [cond_neg (by omega), hk]
      rw [List.drop_zero, List.drop_zero] at h3
      rw [h3, Int.sub_self]; rfl
    | succ i =>
      have e : (((i + 1 : Nat) : Int) - 1) = (i : Int) := by omega
      rw [e, cond_pos (by omega), at?_lt (show i < a.length by omega), some_bind', at?_lt (show i < b.length by omega), some_bind']
      have va := val_split a i (by omega)
      have vb := val_split b i (by omega)
      rw [drop_cons (show i < a.length by omega), val] at va
      rw [drop_cons (show i < b.length by omega), val, ← h3] at vb
      have ta := val_lt (dOK_take ha i)
      have tb := val_lt (dOK_take hb i)
      have na := val_nonneg (dOK_take ha i)
      have nb := val_nonneg (dOK_take hb i)
      rw [List.length_take, Nat.min_eq_left (by omega)] at ta tb
      have hp := bpow_pos i
      generalize val (a.drop (i + 1)) = D at va vb
      by_cases c1 : a[i] < b[i]
      · rw [cond_pos c1]
        have h4 : bpow i * (a[i] + 1000000000 * D) + bpow i ≤ bpow i * (b[i] + 1000000000 * D) := by
          have : bpow i * (a[i] + 1000000000 * D + 1) ≤ bpow i * (b[i] + 1000000000 * D) := Int.mul_le_mul_of_nonneg_left (by omega) (by omega)
          rw [Int.mul_add _ _ 1, Int.mul_one] at this
          exact this
        have : sn (val a - val b) = -1 := by unfold sn; rw [if_pos (by omega)]
        rw [this]
      · rw [cond_neg c1, some_bind', some_bind']
        by_cases c2 : b[i] < a[i]
        · rw [cond_pos c2]
          have h4 : bpow i * (b[i] + 1000000000 * D) + bpow i ≤ bpow i * (a[i] + 1000000000 * D) := by
            have : bpow i * (b[i] + 1000000000 * D + 1) ≤ bpow i * (a[i] + 1000000000 * D) := Int.mul_le_mul_of_nonneg_left (by omega) (by omega)
            rw [Int.mul_add _ _ 1, Int.mul_one] at this
            exact this
          have : sn (val a - val b) = 1 := by unfold sn; rw [if_neg (by omega), if_neg (by omega)]
          rw [this]
        · rw [cond_neg c2, w64_id (by omega) (by omega)]
          refine ih i (by omega) (by omega) ?_
          rw [drop_cons (show i < a.length by omega), drop_cons (show i < b.length by omega), h3]
          congr 1; omega
theorem dig_lt_len {m n : Nat} (h : (dig m).length < (dig n).length) : m < n := by
  have h1 := val_lt (dig_ok m)
  rw [val_dig] at h1
  apply Nat.lt_of_not_le
  intro h2
  have h3 := dig_len (dig m).length (n := n) (by unfold bpow at h1; omega)
  omega
theorem cmpDigits_eq (N : Nat) (m n : Nat) (lm : (dig m).length ≤ 100000) (ln : (dig n).length ≤ 100000) (hN : (dig m).length < N) (k : Int → Option R) :
    ratchetbase_cmpDigits N (dig m) (dig n) k = k (sn ((m : Int) - n)) := by
  unfold ratchetbase_cmpDigits
  by_cases h : (dig m).length = (dig n).length
  · rw [cond_neg (by omega), w64_id (by omega) (by omega)]
    have := cmp_loop N (fun z5 => k z5) (k 0) rfl (dig m) (dig n) (dig_ok m) (dig_ok n) h lm N (dig m).length (Nat.le_refl _) hN (by rw [List.drop_eq_nil_of_le (Nat.le_refl _), List.drop_eq_nil_of_le (by omega)])
    rw [val_dig, val_dig] at this
    exact this
  · rw [cond_pos (by omega)]
    by_cases h2 : (dig m).length < (dig n).length
    · have := dig_lt_len h2
      rw [cond_pos (by omega)]; unfold sn; rw [if_pos (by omega)]
    · have := dig_lt_len (show (dig n).length < (dig m).length by omega)
      rw [cond_neg (by omega)]; unfold sn; rw [if_neg (by omega), if_neg (by omega)]
/-! ### Whole numbers -/
/-- The digits of a number's size. -/
def dg (x : Int) : List Int := dig x.natAbs
/-- A number of at most so many digits. -/
def Sm (m : Nat) (x : Int) : Prop := x.natAbs < 1000000000 ^ m
theorem Sm_len {m : Nat} {x : Int} (h : Sm m x) : (dg x).length ≤ m := dig_len m h
theorem Sm_neg {m : Nat} {x : Int} (h : Sm m x) : Sm m (-x) := by unfold Sm at *; omega
theorem Sm_mono {m n : Nat} {x : Int} (h : Sm m x) (hmn : m ≤ n) : Sm n x := Nat.lt_of_lt_of_le h (Nat.pow_le_pow_right (by omega) hmn)
theorem Sm_le {m : Nat} {x y : Int} (h : Sm m y) (hxy : x.natAbs ≤ y.natAbs) : Sm m x := Nat.lt_of_le_of_lt hxy h
theorem Sm_mul {m n : Nat} {x y : Int} (h : Sm m x) (h' : Sm n y) : Sm (m + n) (x * y) := by
  unfold Sm at *
  rw [Int.natAbs_mul, Nat.pow_add]
  exact Nat.mul_lt_mul'' h h'
theorem Sm_add {m : Nat} {x y : Int} (h : Sm m x) (h' : Sm m y) : Sm (m + 1) (x + y) := by
  unfold Sm at *
  have := Int.natAbs_add_le x y
  rw [Nat.pow_succ]
  omega
theorem Sm_lit {m : Nat} {x : Int} (h : x.natAbs < 1000000000 ^ m) : Sm m x := h
theorem dg_ok (x : Int) : dOK (dg x) := dig_ok _
theorem val_dg (x : Int) : val (dg x) = (x.natAbs : Int) := val_dig _
theorem dg_zero : dg 0 = [] := dig_zero
theorem wide_of (N : Nat) (s : Int) (l : List Int) (hok : dOK l) (hl : l.length ≤ 1000000) (hN : l.length < N) (x : Int) (hx : val l = (x.natAbs : Int)) (hs : x ≠ 0 → s = sn x) (k : Int → List Int → Option R) :
    ratchetbase_wideOf N s l k = k (sn x) (dg x) := by
  rw [wideOf_eq N s l hok hl hN, hx, Int.toNat_natCast]
  by_cases h : x = 0
  · subst h; rfl
  · rw [if_neg (by omega), hs h]; rfl
theorem WideNeg_eq (N : Nat) (x : Int) (k : Int → List Int → Option R) : ratchetbase_WideNeg N (sn x) (dg x) k = k (sn (-x)) (dg (-x)) := by
  have := sn_range x
  unfold ratchetbase_WideNeg dg
  rw [w64_id (by omega) (by omega), sn_neg, Int.natAbs_neg, Int.zero_sub]
theorem WideAdd_eq (N m : Nat) (hm : m ≤ 1000) (hN : 2000 ≤ N) {x y : Int} (hx : Sm m x) (hy : Sm m y) (k : Int → List Int → Option R) :
    ratchetbase_WideAdd N (sn x) (dg x) (sn y) (dg y) k = k (sn (x + y)) (dg (x + y)) := by
  have lx := Sm_len hx
  have ly := Sm_len hy
  unfold ratchetbase_WideAdd
  by_cases x0 : x = 0
  · subst x0; rw [show sn 0 = 0 from rfl, cond_pos rfl, Int.zero_add]
  have sx0 : sn x ≠ 0 := by unfold sn; split <;> (try split) <;> omega
  rw [cond_neg sx0]
  by_cases y0 : y = 0
  · subst y0; rw [show sn 0 = 0 from rfl, cond_pos rfl, Int.add_zero]
  have sy0 : sn y ≠ 0 := by unfold sn; split <;> (try split) <;> omega
  rw [cond_neg sy0]
  by_cases c : sn x = sn y
  · rw [cond_pos c]
    obtain ⟨out, h1, h2, h3, h4⟩ := addDigits_eq N (dg x) (dg y) (dg_ok x) (dg_ok y) m (by omega) lx ly (by omega) (fun y1 => (ratchetbase_wideOf N (sn x) y1 (fun y2 y3 => (k y2 y3))))
    rw [h1]
    have hc : (0 < x ∧ 0 < y) ∨ (x < 0 ∧ y < 0) := by
      unfold sn at c
      split at c <;> split at c <;> (try split at c) <;> (try split at c) <;> omega
    refine wide_of N (sn x) out h2 (by omega) (by omega) (x + y) ?_ ?_ k
    · rw [h4, val_dg, val_dg]; omega
    · intro _
      unfold sn
      rcases hc with hc | hc
      · rw [if_neg (by omega), if_neg (by omega), if_neg (by omega), if_neg (by omega)]
      · rw [if_pos (by omega), if_pos (by omega)]
  · rw [cond_neg c]
    have hc : (0 < x ∧ y < 0) ∨ (x < 0 ∧ 0 < y) := by
      unfold sn at c
      split at c <;> split at c <;> (try split at c) <;> (try split at c) <;> omega
    rw [show dg x = dig x.natAbs from rfl, show dg y = dig y.natAbs from rfl, cmpDigits_eq N x.natAbs y.natAbs (by unfold dg at lx; omega) (by unfold dg at ly; omega) (by unfold dg at lx; omega)]
    by_cases e : x.natAbs = y.natAbs
    · have : x + y = 0 := by omega
      rw [this, e, Int.sub_self, show sn 0 = 0 from rfl, cond_pos rfl, dg_zero]
    · have n1 : ¬ (sn ((x.natAbs : Int) - y.natAbs) = 0) := by unfold sn; split <;> (try split) <;> omega
      rw [cond_neg n1]
      unfold dg at lx ly
      by_cases c2 : y.natAbs < x.natAbs
      · rw [cond_pos (by unfold sn; rw [if_neg (by omega), if_neg (by omega)]; omega), subDigits_eq N _ _ (dig_ok _) (dig_ok _) (by omega) (by omega) (by omega) (by rw [val_dig, val_dig]; omega)]
        have e3 : (val (dig x.natAbs) - val (dig y.natAbs)).toNat = (x + y).natAbs := by rw [val_dig, val_dig]; omega
        rw [e3]
        have hl := Sm_len (Sm_le hx (show (x + y).natAbs ≤ x.natAbs by omega))
        unfold dg at hl
        refine wide_of N (sn x) _ (dig_ok _) (by omega) (by omega) (x + y) (by rw [val_dig]) ?_ k
        intro _
        unfold sn
        rcases hc with hc | hc
        · rw [if_neg (by omega), if_neg (by omega), if_neg (by omega), if_neg (by omega)]
        · rw [if_pos (by omega), if_pos (by omega)]
      · rw [cond_neg (by unfold sn; rw [if_pos (by omega)]; omega), subDigits_eq N _ _ (dig_ok _) (dig_ok _) (by omega) (by omega) (by omega) (by rw [val_dig, val_dig]; omega)]
        have e3 : (val (dig y.natAbs) - val (dig x.natAbs)).toNat = (x + y).natAbs := by rw [val_dig, val_dig]; omega
        rw [e3]
        have hl := Sm_len (Sm_le hy (show (x + y).natAbs ≤ y.natAbs by omega))
        unfold dg at hl
        refine wide_of N (sn y) _ (dig_ok _) (by omega) (by omega) (x + y) (by rw [val_dig]) ?_ k
        intro _
        unfold sn
        rcases hc with hc | hc
        · rw [if_pos (by omega), if_pos (by omega)]
        · rw [if_neg (by omega), if_neg (by omega), if_neg (by omega), if_neg (by omega)]
theorem WideSub_eq (N m : Nat) (hm : m ≤ 1000) (hN : 2000 ≤ N) {x y : Int} (hx : Sm m x) (hy : Sm m y) (k : Int → List Int → Option R) :
    ratchetbase_WideSub N (sn x) (dg x) (sn y) (dg y) k = k (sn (x - y)) (dg (x - y)) := by
  unfold ratchetbase_WideSub
  rw [WideNeg_eq, WideAdd_eq N m hm hN hx (Sm_neg hy), ← Int.sub_eq_add_neg]
theorem WideCmp_eq (N m : Nat) (hm : m ≤ 1000) (hN : 2000 ≤ N) {x y : Int} (hx : Sm m x) (hy : Sm m y) (k : Int → Option R) :
    ratchetbase_WideCmp N (sn x) (dg x) (sn y) (dg y) k = k (sn (x - y)) := by
  unfold ratchetbase_WideCmp
  rw [WideSub_eq N m hm hN hx hy]

/-! ### Numbers made wide -/
theorem WideOf_loop (N : Nat) (k0 : Int → Int → Option R) (k1 : Int → Int → List Int → Option R) (s z : Int) : ∀ (m n : Nat) (b : Int) (acc : List Int), b.natAbs < 1000000000 ^ m → b.natAbs ≤ 9223372036854775807 → m < n → dOK acc → acc.length + m ≤ 1000 →
    ∃ out, ratchetbase_WideOf_l0 N k0 k1 n b s z acc = k1 s z out ∧ dOK out ∧ out.length ≤ acc.length + m ∧ val out = val acc + bpow acc.length * (b.natAbs : Int) := by
  intro m
  induction m with
  | zero =>
    intro n b acc h1 h2 h3 h4 h5
    obtain ⟨n, rfl⟩ : ∃ q, n = q + 1 := ⟨n - 1, by omega⟩
    have : b = 0 := by
      have : b.natAbs < 1 := by simpa using h1
      omega
    subst this
    exact ⟨acc, by rw [ratchetbase_WideOf_l0, cond_neg (by simp)], h4, by omega, by simp⟩
  | succ m ih =>
    intro n b acc h1 h2 h3 h4 h5
    obtain ⟨n, rfl⟩ : ∃ q, n = q + 1 := ⟨n - 1, by omega⟩
    rw [ratchetbase_WideOf_l0]
    by_cases hb : b = 0
    · subst hb
      exact ⟨acc, by rw [cond_neg (by simp)], h4, by omega, by simp⟩
    · rw [cond_pos hb]
      unfold ratchetbase_Size
      have t1 : (Int.tmod b 1000000000).natAbs = b.natAbs % 1000000000 := Int.natAbs_tmod b 1000000000
      have t2 : (Int.tdiv b 1000000000).natAbs = b.natAbs / 1000000000 := Int.natAbs_tdiv b 1000000000
      rw [w64_id (x := 0 - Int.tmod b 1000000000) (by omega) (by omega), w64_id (x := Int.tdiv b 1000000000) (by omega) (by omega), roomB_of (by omega)]
      simp only [cond_true]
      have e : max (Int.tmod b 1000000000) (0 - Int.tmod b 1000000000) = ((b.natAbs % 1000000000 : Nat) : Int) := by omega
      rw [e]
      rw [Nat.pow_succ] at h1
      obtain ⟨out, q1, q2, q3, q4⟩ := ih n (Int.tdiv b 1000000000) (acc ++ [((b.natAbs % 1000000000 : Nat) : Int)]) (by rw [t2]; exact (Nat.div_lt_iff_lt_mul (by omega)).2 h1) (by omega) (by omega) (dOK_app h4 (dOK_cons (by omega) dOK_nil)) (by simp; omega)
      refine ⟨out, q1, q2, by simp at q3; omega, ?_⟩
      rw [q4, val_snoc, List.length_append, List.length_singleton, bpow_succ, t2, Int.mul_comm 1000000000 (bpow _), Int.mul_assoc, Int.add_assoc, ← Int.mul_add]
      congr 2; omega
theorem WideOf_eq (N : Nat) (hN : 2000 ≤ N) (x : Int) (h1 : -9223372036854775807 ≤ x) (h2 : x ≤ 9223372036854775807) (k : Int → List Int → Option R) : ratchetbase_WideOf N x k = k (sn x) (dg x) := by
  have hj : ∀ s : Int, (x ≠ 0 → s = sn x) → ratchetbase_WideOf_j0 N (fun z11 z12 => (k z11 z12)) x s 0 = k (sn x) (dg x) := by
    intro s hs
    unfold ratchetbase_WideOf_j0
    obtain ⟨out, q1, q2, q3, q4⟩ := WideOf_loop N (fun z2 z3 => (ratchetbase_wideOf N z2 [] (fun y4 y5 => (k y4 y5)))) (fun z6 z7 z8 => (ratchetbase_wideOf N z6 z8 (fun y9 y10 => (k y9 y10)))) s 0 3 N x [] (by omega) (by omega) (by omega) dOK_nil (by simp)
    rw [q1]
    refine wide_of N s out q2 (by simp at q3; omega) (by simp at q3; omega) x ?_ hs k
    rw [q4]; simp [val, bpow_zero]
  unfold ratchetbase_WideOf
  by_cases h : x < 0
  · rw [cond_pos h]; exact hj (-1) (fun _ => by unfold sn; rw [if_pos h])
  · rw [cond_neg h]; exact hj 1 (fun h0 => by unfold sn; rw [if_neg h, if_neg h0])
/-! ### Products -/
theorem val_set : ∀ {l : List Int} {j : Nat} (v : Int), j < l.length → val (l.set j v) = val l + bpow j * (v - dat l j)
  | [], j, v, h => by simp at h
  | d :: l, 0, v, _ => by rw [List.set_cons_zero, val, val, bpow_zero, dat_lt (by simp)]; simp; omega
  | d :: l, j + 1, v, h => by
    have h' : j < l.length := by simpa using h
    rw [List.set_cons_succ, val, val_set v h', val, bpow_succ, Int.mul_assoc, Int.mul_add]
    have : dat (d :: l) (j + 1) = dat l j := by rw [dat_lt h, dat_lt h']; simp
    rw [this]; omega
theorem dat_set_ne {l : List Int} {i j : Nat} (v : Int) (h : i ≠ j) : dat (l.set i v) j = dat l j := by
  unfold dat; rw [List.getElem?_set_ne h]
theorem dig_mul {a b : Int} (ha : 0 ≤ a ∧ a < 1000000000) (hb : 0 ≤ b ∧ b < 1000000000) : 0 ≤ a * b ∧ a * b ≤ 999999998000000001 := by
  refine ⟨Int.mul_nonneg ha.1 hb.1, ?_⟩
  have := Int.mul_le_mul (show a ≤ 999999999 by omega) (show b ≤ 999999999 by omega) hb.1 (by omega)
  omega
theorem mul_inner (N : Nat) (k0 : Int → Int → Int → List Int → Int → List Int → Int → List Int → Option R) (A B : List Int) (hA : dOK A) (hB : dOK B) (la : A.length ≤ 900) (lb : B.length ≤ 900) (i : Nat) (hi : i < A.length) (s1 s2 z V : Int) :
    ∀ (n k : Nat) (c : Int) (out : List Int), B.length < n + k → k ≤ B.length → 0 ≤ c ∧ c < 1000000000 → dOK out → out.length = A.length + B.length + 1 → (∀ j, i + B.length ≤ j → dat out j = 0) → val out + bpow (i + k) * (c + A[i] * val (B.drop k)) = V →
    ∃ c' out', ratchetbase_WideMul_l1 N k0 n i c k s1 A s2 B z out = k0 i c' s1 A s2 B z out' ∧ (0 ≤ c' ∧ c' < 1000000000) ∧ dOK out' ∧ out'.length = A.length + B.length + 1 ∧ (∀ j, i + B.length ≤ j → dat out' j = 0) ∧ val out' + bpow (i + B.length) * c' = V := by
  intro n
  induction n with
  | zero => intro k c out h1 h2; omega
  | succ n ih =>
    intro k c out h1 h2 hc ho hl hz hV
    rw [ratchetbase_WideMul_l1]
    by_cases hk : k < B.length
    · have e1 : w64 ((i : Int) + (k : Int)) = ((i + k : Nat) : Int) := by rw [w64_id (by omega) (by omega)]; omega
      have hj : i + k < out.length := by omega
      have hx := dat_ok ho (i + k)
      have ha := hA _ (List.getElem_mem hi)
      have hb := hB _ (List.getElem_mem hk)
      have hab := dig_mul ha hb
      rw [cond_pos (by omega), e1, inR_nat, decide_eq_true hj, cond_true, Int.toNat_natCast, List.getElem?_eq_getElem hj, some_bind', at?_lt hi, some_bind', at?_lt hk, some_bind', some_bind', ← dat_lt hj,
        w64_id (x := A[i] * B[k]) (by omega) (by omega), w64_id (x := dat out (i + k) + A[i] * B[k]) (by omega) (by omega), w64_id (x := dat out (i + k) + A[i] * B[k] + c) (by omega) (by omega)]
      have e2 : Int.tdiv (dat out (i + k) + A[i] * B[k] + c) 1000000000 = (dat out (i + k) + A[i] * B[k] + c) / 1000000000 := Int.tdiv_eq_ediv_of_nonneg (by omega)
      have e3 : Int.tmod (dat out (i + k) + A[i] * B[k] + c) 1000000000 = (dat out (i + k) + A[i] * B[k] + c) % 1000000000 := Int.tmod_eq_emod_of_nonneg (by omega)
      rw [e2, e3, w64_id (x := (dat out (i + k) + A[i] * B[k] + c) / 1000000000) (by omega) (by omega), w64_succ (by omega)]
      refine ih (k + 1) _ _ (by omega) (by omega) (by omega) (dOK_set ho _ (by omega)) (by rw [List.length_set]; exact hl) (fun j hj' => by rw [dat_set_ne _ (by omega)]; exact hz j hj') ?_
      rw [val_set _ hj, ← hV, val_drop B k, dat_lt hk, show i + (k + 1) = (i + k) + 1 by omega, bpow_succ]
      have e4 : A[i] * (B[k] + 1000000000 * val (B.drop (k + 1))) = A[i] * B[k] + 1000000000 * (A[i] * val (B.drop (k + 1))) := by
        rw [Int.mul_add]; congr 1
        rw [Int.mul_left_comm]
      rw [e4]
      generalize A[i] * val (B.drop (k + 1)) = q
      generalize A[i] * B[k] = p
      generalize dat out (i + k) = x
      rw [Int.mul_comm 1000000000 (bpow _), Int.mul_assoc, Int.add_assoc, ← Int.mul_add]
      congr 2; omega
    · rw [cond_neg (by omega)]
      have hk' : k = B.length := by omega
      subst hk'
      refine ⟨c, out, rfl, hc, ho, hl, hz, ?_⟩
      rw [← hV, List.drop_eq_nil_of_le (Nat.le_refl _)]
      simp [val]
theorem mul_outer (N : Nat) (hN : 2000 ≤ N) (k0 : Int → List Int → Int → List Int → Int → List Int → Option R) (A B : List Int) (hA : dOK A) (hB : dOK B) (la : A.length ≤ 900) (lb : B.length ≤ 900) (s1 s2 z : Int) :
    ∀ (n i : Nat) (out : List Int), A.length < n + i → i ≤ A.length → dOK out → out.length = A.length + B.length + 1 → (∀ j, i + B.length ≤ j → dat out j = 0) → val out + bpow i * (val (A.drop i) * val B) = val A * val B →
    ∃ out', ratchetbase_WideMul_l0 N k0 n i s1 A s2 B z out = k0 s1 A s2 B z out' ∧ dOK out' ∧ out'.length = A.length + B.length + 1 ∧ val out' = val A * val B := by
  intro n
  induction n with
  | zero => intro i out h1 h2; omega
  | succ n ih =>
    intro i out h1 h2 ho hl hz hV
    rw [ratchetbase_WideMul_l0]
    by_cases hi : i < A.length
    · rw [cond_pos (by omega)]
      obtain ⟨c', out', q1, q2, q3, q4, q5, q6⟩ := mul_inner N (fun z5 z6 z7 z8 z9 z10 z11 z12 => (bif inR (w64 (z5 + ((z10.length : Nat) : Int))) z12.length then ((z12[(w64 (z5 + ((z10.length : Nat) : Int))).toNat]?).bind fun x13 => (bif inR (w64 (z5 + ((z10.length : Nat) : Int))) z12.length then ((z12[(w64 (z5 + ((z10.length : Nat) : Int))).toNat]?).bind fun x14 => (ratchetbase_WideMul_l0 N k0 n (w64 (z5 + 1)) z7 z8 z9 z10 z11 (List.set z12 ((w64 (z5 + ((z10.length : Nat) : Int))).toNat) (w64 (x13 + z6))))) else none)) else none)) A B hA hB la lb i hi s1 s2 z (val out + bpow i * (A[i] * val B)) N 0 0 out (by omega) (by omega) (by omega) ho hl hz (by simp)
      rw [Int.natCast_zero] at q1
      rw [q1]
      have hj : i + B.length < out'.length := by omega
      have e1 : w64 ((i : Int) + ((B.length : Nat) : Int)) = ((i + B.length : Nat) : Int) := by rw [w64_id (by omega) (by omega)]; omega
      have hx := q5 (i + B.length) (Nat.le_refl _)
      rw [e1, inR_nat, decide_eq_true hj, cond_true, Int.toNat_natCast, List.getElem?_eq_getElem hj, some_bind', cond_true, some_bind', ← dat_lt hj, hx, Int.zero_add, w64_id (x := c') (by omega) (by omega), w64_succ (by omega)]
      refine ih (i + 1) _ (by omega) (by omega) (dOK_set q3 _ q2) (by rw [List.length_set]; exact q4) (fun j hj' => by rw [dat_set_ne _ (by omega)]; exact q5 j (by omega)) ?_
      rw [val_set _ hj, hx, Int.sub_zero, q6, ← hV, val_drop A i, dat_lt hi, bpow_succ, Int.add_mul, Int.mul_assoc 1000000000 (val _) (val B), Int.mul_comm 1000000000 (bpow i), Int.mul_assoc, Int.add_assoc, ← Int.mul_add]
    · rw [cond_neg (by omega)]
      have hi' : i = A.length := by omega
      subst hi'
      refine ⟨out, rfl, ho, hl, ?_⟩
      rw [← hV, List.drop_eq_nil_of_le (Nat.le_refl _)]
      simp [val]
theorem dOK_zeros (n : Nat) : dOK (List.replicate n 0) := fun x hx => by
  rw [(List.mem_replicate.1 hx).2]; omega
theorem val_zeros : ∀ n : Nat, val (List.replicate n 0) = 0
  | 0 => rfl
  | n + 1 => by rw [List.replicate_succ, val, val_zeros n]; rfl
theorem dat_zeros (n j : Nat) : dat (List.replicate n 0) j = 0 := by
  unfold dat
  by_cases h : j < n
  · rw [List.getElem?_replicate_of_lt h]; rfl
  · rw [List.getElem?_eq_none (by simpa using h)]; rfl
theorem sn_mul (x y : Int) : sn (x * y) = sn x * sn y := by
  rcases Int.lt_trichotomy x 0 with hx | rfl | hx <;> rcases Int.lt_trichotomy y 0 with hy | rfl | hy
  · have := Int.mul_pos_of_neg_of_neg hx hy
    unfold sn; rw [if_neg (by omega), if_neg (by omega), if_pos hx, if_pos hy]; rfl
  · rw [Int.mul_zero]; unfold sn; simp
  · have := Int.mul_neg_of_neg_of_pos hx hy
    unfold sn; rw [if_pos this, if_pos hx, if_neg (by omega), if_neg (by omega)]; rfl
  · rw [Int.zero_mul]; unfold sn; simp
  · rfl
  · rw [Int.zero_mul]; unfold sn; simp
  · have := Int.mul_neg_of_pos_of_neg hx hy
    unfold sn; rw [if_pos this, if_neg (by omega), if_neg (by omega), if_pos hy]; rfl
  · rw [Int.mul_zero]; unfold sn; simp
  · have := Int.mul_pos hx hy
    unfold sn; rw [if_neg (by omega), if_neg (by omega), if_neg (by omega), if_neg (by omega), if_neg (by omega), if_neg (by omega)]; rfl
theorem WideMul_eq (N m : Nat) (hm : m ≤ 400) (hN : 2000 ≤ N) {x y : Int} (hx : Sm m x) (hy : Sm m y) (k : Int → List Int → Option R) :
    ratchetbase_WideMul N (sn x) (dg x) (sn y) (dg y) k = k (sn (x * y)) (dg (x * y)) := by
  have lx := Sm_len hx
  have ly := Sm_len hy
  unfold ratchetbase_WideMul
  have e : w64 ((w64 ((((dg x).length : Nat) : Int) + (((dg y).length : Nat) : Int))) + 1) = (((dg x).length + (dg y).length + 1 : Nat) : Int) := by
    rw [w64_id (x := (((dg x).length : Nat) : Int) + _) (by omega) (by omega), w64_id (by omega) (by omega)]; omega
  rw [e, cond_pos (by omega), Int.toNat_natCast, roomB_of (by omega), cond_true]
  obtain ⟨out, q1, q2, q3, q4⟩ := mul_outer N hN (fun z15 z16 z17 z18 z19 z20 => (ratchetbase_wideOf N (w64 (z15 * z17)) z20 (fun y21 y22 => (k y21 y22)))) (dg x) (dg y) (dg_ok x) (dg_ok y) (by omega) (by omega) (sn x) (sn y) 0 N 0 (List.replicate ((dg x).length + (dg y).length + 1) 0) (by omega) (by omega) (dOK_zeros _) (by simp) (fun j _ => dat_zeros _ j) (by rw [val_zeros, bpow_zero, List.drop_zero]; omega)
  rw [Int.natCast_zero] at q1
  rw [q1]
  have sx := sn_range x
  have sy := sn_range y
  have hs : -1 ≤ sn x * sn y ∧ sn x * sn y ≤ 1 := by rw [← sn_mul]; exact sn_range _
  refine wide_of N _ out q2 (by omega) (by omega) (x * y) ?_ (fun _ => ?_) k
  · rw [q4, val_dg, val_dg, Int.natAbs_mul]; omega
  · rw [w64_id (by omega) (by omega), sn_mul]

/-! ### Quotients -/
theorem find_loop (N : Nat) (hN : 2000 ≤ N) (m : Nat) (hm : m ≤ 300) (k0 : List Int → Int → Int → Int → List Int → Int → List Int → Int → List Int → Option R) (r y i s1 s2 z : Int) (A q : List Int) (hy : 0 < y) (hys : Sm m y) (hr : 0 ≤ r) (hrs : Sm (m + 1) r) (hQ : r / y ≤ 999999999) :
    ∀ (t n : Nat) (lo hi : Int), (hi - lo).toNat < 2 ^ t → t < n → 0 ≤ lo → lo ≤ r / y → r / y ≤ hi → hi ≤ 999999999 →
    ratchetbase_WideFloor_l1 N k0 n (dg r) i lo hi s1 A s2 (dg y) z q = k0 (dg r) i (r / y) s1 A s2 (dg y) z q := by
  intro t
  induction t with
  | zero =>
    intro n lo hi h1 h2 h3 h4 h5 h6
    obtain ⟨n, rfl⟩ : ∃ q, n = q + 1 := ⟨n - 1, by omega⟩
    have : hi - lo = 0 := by omega
    rw [ratchetbase_WideFloor_l1, cond_neg (by omega), show lo = r / y by omega]
  | succ t ih =>
    intro n lo hi h1 h2 h3 h4 h5 h6
    obtain ⟨n, rfl⟩ : ∃ q, n = q + 1 := ⟨n - 1, by omega⟩
    rw [ratchetbase_WideFloor_l1]
    by_cases c : lo < hi
    · have hly := Sm_len hys
      have e1 : w64 (Int.tdiv (w64 ((w64 (lo + hi)) + 1)) 2) = (lo + hi + 1) / 2 := by
        rw [w64_id (x := lo + hi) (by omega) (by omega), w64_id (x := lo + hi + 1) (by omega) (by omega), Int.tdiv_eq_ediv_of_nonneg (by omega), w64_id (by omega) (by omega)]
      rw [cond_pos c, wide_of N 1 (dg y) (dg_ok y) (by omega) (by omega) y (val_dg y) (fun _ => by unfold sn; rw [if_neg (by omega), if_neg (by omega)]), e1]
      generalize hM : (lo + hi + 1) / 2 = M
      have hM1 : lo < M ∧ M ≤ hi := by omega
      have hMs : Sm 1 M := by unfold Sm; omega
      rw [WideOf_eq N (by omega) M (by omega) (by omega), WideMul_eq N (m + 1) (by omega) hN (Sm_mono hys (by omega)) (Sm_mono hMs (by omega))]
      have hyM : 0 ≤ y * M := Int.mul_nonneg (by omega) (by omega)
      have hl1 := Sm_len (Sm_mul hys hMs)
      have hl2 := Sm_len hrs
      unfold dg at hl1 hl2
      rw [show dg (y * M) = dig (y * M).natAbs from rfl, show dg r = dig r.natAbs from rfl, cmpDigits_eq N _ _ (by omega) (by omega) (by omega)]
      have e2 : (((y * M).natAbs : Int) - (r.natAbs : Int)) = y * M - r := by omega
      rw [e2]
      have e3 : M ≤ r / y ↔ y * M ≤ r := by rw [Int.le_ediv_iff_mul_le hy, Int.mul_comm]
      rw [Nat.pow_succ] at h1
      by_cases d : y * M ≤ r
      · rw [cond_pos (by unfold sn; split <;> (try split) <;> omega)]
        exact ih n M hi (by omega) (by omega) (by omega) (e3.2 d) h5 h6
      · rw [cond_neg (by unfold sn; rw [if_neg (by omega), if_neg (by omega)]; omega), w64_id (by omega) (by omega)]
        have : ¬ (M ≤ r / y) := fun h => d (e3.1 h)
        exact ih n lo (M - 1) (by omega) (by omega) h3 h4 (by omega) (by omega)
    · rw [cond_neg c, show lo = r / y by omega]
theorem round (N : Nat) (hN : 2000 ≤ N) (m : Nat) (hm : m ≤ 300) (G : List Int → Int → Int → List Int → Int → List Int → Int → List Int → Option R) (r y s1 s2 z : Int) (j : Nat) (A q : List Int) (hj : j < q.length) (hjl : j ≤ 100000) (hy : 0 < y) (hys : Sm m y) (hr : 0 ≤ r) (hrs : Sm (m + 1) r) (hQ : r / y ≤ 999999999) :
    ratchetbase_WideFloor_l1 N (fun z8 z9 z10 z11 z12 z13 z14 z15 z16 => (bif inR z9 z16.length then ((z16[z9.toNat]?).bind fun x17 => (ratchetbase_wideOf N 1 z14 (fun y18 y19 => (ratchetbase_WideOf N z10 (fun y20 y21 => (ratchetbase_WideMul N y18 y19 y20 y21 (fun y22 y23 => (ratchetbase_subDigits N z8 y23 (fun y24 => (G y24 (w64 (z9 - 1)) z11 z12 z13 z14 z15 (List.set z16 z9.toNat z10))))))))))) else none)) N (dg r) j 0 999999999 s1 A s2 (dg y) z q =
      G (dg (r % y)) ((j : Int) - 1) s1 A s2 (dg y) z (q.set j (r / y)) := by
  have hq0 : 0 ≤ r / y := Int.ediv_nonneg hr (by omega)
  have hly := Sm_len hys
  rw [find_loop N hN m hm _ r y j s1 s2 z A q hy hys hr hrs hQ 30 N 0 999999999 (by omega) (by omega) (by omega) hq0 hQ (by omega)]
  have hMs : Sm 1 (r / y) := by unfold Sm; omega
  rw [inR_nat, decide_eq_true hj, cond_true, Int.toNat_natCast, List.getElem?_eq_getElem hj, some_bind', wide_of N 1 (dg y) (dg_ok y) (by omega) (by omega) y (val_dg y) (fun _ => by unfold sn; rw [if_neg (by omega), if_neg (by omega)]),
    WideOf_eq N (by omega) (r / y) (by omega) (by omega), WideMul_eq N (m + 1) (by omega) hN (Sm_mono hys (by omega)) (Sm_mono hMs (by omega))]
  have hyM : 0 ≤ y * (r / y) := Int.mul_nonneg (by omega) hq0
  have hsum := Int.mul_ediv_add_emod r y
  have hmod := Int.emod_nonneg r (show y ≠ 0 by omega)
  have hl1 := Sm_len (Sm_mul hys hMs)
  have hl2 := Sm_len hrs
  have hv1 := val_dg r
  have hv2 := val_dg (y * (r / y))
  rw [subDigits_eq N _ _ (dg_ok _) (dg_ok _) (by omega) (by omega) (by omega) (by rw [hv1, hv2]; omega), hv1, hv2, w64_id (by omega) (by omega)]
  have e : (((r.natAbs : Nat) : Int) - (((y * (r / y)).natAbs : Nat) : Int)).toNat = (r % y).natAbs := by omega
  rw [e]
  rfl
theorem drop_set {l : List Int} {j : Nat} (v : Int) (h : j < l.length) : (l.set j v).drop j = v :: l.drop (j + 1) := by
  rw [drop_cons (show j < (l.set j v).length by rw [List.length_set]; exact h), List.getElem_set_self]
  congr 1
  rw [List.drop_set_of_lt (by omega)]
theorem quot {a r y : Int} (ha : 0 ≤ a ∧ a < 1000000000) (hr : 0 ≤ r ∧ r < y) : (a + 1000000000 * r) / y ≤ 999999999 := by
  have : (a + 1000000000 * r) / y < 1000000000 := by
    rw [Int.ediv_lt_iff_lt_mul (by omega)]
    omega
  omega
theorem Sm_step {m : Nat} {a r y : Int} (ha : 0 ≤ a ∧ a < 1000000000) (hr : 0 ≤ r ∧ r < y) (hy : Sm m y) : Sm (m + 1) (a + 1000000000 * r) := by
  unfold Sm at *
  rw [Nat.pow_succ]
  omega
theorem trim_dg (N : Nat) (a r : Int) (ha : 0 ≤ a ∧ a < 1000000000) (hr : 0 ≤ r) (hl : (dg r).length ≤ 100000) (hN : (dg r).length + 1 < N) (k : List Int → Option R) : ratchetbase_trimmed N ([a] ++ dg r) k = k (dg (a + 1000000000 * r)) := by
  have e : val ([a] ++ dg r) = a + 1000000000 * r := by
    rw [List.singleton_append, val, val_dg]; omega
  rw [trimmed_eq N _ (dOK_app (dOK_cons ha dOK_nil) (dg_ok r)) (by simp; omega) (by simp; omega), e]
  unfold dg
  congr 2; omega
theorem trim_one (N : Nat) (a : Int) (ha : 0 ≤ a ∧ a < 1000000000) (hN : 1 < N) (k : List Int → Option R) : ratchetbase_trimmed N [a] k = k (dg a) := by
  have h0 : (dg 0).length = 0 := by rw [dg_zero]; rfl
  have ht := trim_dg N a 0 ha (by omega) (by omega) (by omega) k
  rw [dg_zero, List.append_nil, Int.mul_zero, Int.add_zero] at ht
  exact ht
/-- One step of the long division. -/
theorem div_step {A q : List Int} {i : Nat} {r y : Int} (hi : i < A.length) (hq : i < q.length) (hV : val (A.drop (i + 1)) = y * val (q.drop (i + 1)) + r) :
    val (A.drop i) = y * val ((q.set i ((A[i] + 1000000000 * r) / y)).drop i) + (A[i] + 1000000000 * r) % y := by
  rw [drop_set _ hq, drop_cons hi, val, val, hV]
  have := Int.mul_ediv_add_emod (A[i] + 1000000000 * r) y
  generalize (A[i] + 1000000000 * r) / y = u at this ⊢
  generalize (A[i] + 1000000000 * r) % y = v at this ⊢
  generalize val (q.drop (i + 1)) = p
  have e1 : y * (1000000000 * p) = 1000000000 * (y * p) := Int.mul_left_comm _ _ _
  rw [Int.mul_add y, e1]
  omega
theorem floor_loop (N : Nat) (hN : 2000 ≤ N) (m : Nat) (hm : m ≤ 300) (k0 : List Int → Int → List Int → Int → List Int → Option R) (y s1 s2 z : Int) (A : List Int) (hA : dOK A) (la : A.length ≤ 900) (hy : 0 < y) (hys : Sm m y) :
    ∀ (i n : Nat) (r : Int) (q : List Int), i ≤ A.length → i < n → 0 ≤ r ∧ r < y → dOK q → q.length = A.length → val (A.drop i) = y * val (q.drop i) + r →
    ∃ r' q', ratchetbase_WideFloor_l0 N k0 n (dg r) ((i : Int) - 1) s1 A s2 (dg y) z q = k0 (dg r') s1 A z q' ∧ (0 ≤ r' ∧ r' < y) ∧ dOK q' ∧ q'.length = A.length ∧ val A = y * val q' + r' := by
  intro i
  induction i with
  | zero =>
    intro n r q h1 h2 h3 h4 h5 h6
    obtain ⟨n, rfl⟩ : ∃ q, n = q + 1 := ⟨n - 1, by omega⟩
    exact ⟨r, q, by rw [ratchetbase_WideFloor_l0, cond_neg (by omega)], h3, h4, h5, by simpa using h6⟩
  | succ i ih =>
    intro n r q h1 h2 h3 h4 h5 h6
    obtain ⟨n, rfl⟩ : ∃ q, n = q + 1 := ⟨n - 1, by omega⟩
    have e : (((i + 1 : Nat) : Int) - 1) = (i : Int) := by omega
    have ha := hA _ (List.getElem_mem (show i < A.length by omega))
    have hrl := Sm_len (Sm_le hys (show r.natAbs ≤ y.natAbs by omega))
    rw [ratchetbase_WideFloor_l0, e, cond_pos (by omega), at?_lt (show i < A.length by omega), some_bind', roomB_of (by omega), cond_true, trim_dg N _ r ha h3.1 (by omega) (by omega)]
    rw [round N hN m hm (fun y19 z4 z6 z7 z8 z9 z10 z11 => ratchetbase_WideFloor_l0 N k0 n y19 z4 z6 z7 z8 z9 z10 z11) (A[i] + 1000000000 * r) y s1 s2 z i A q (by omega) (by omega) hy hys (by omega) (Sm_step ha h3 hys) (quot ha h3)]
    exact ih n _ _ (by omega) (by omega) ⟨Int.emod_nonneg _ (by omega), Int.emod_lt_of_pos _ hy⟩ (dOK_set h4 _ ⟨Int.ediv_nonneg (by omega) (by omega), by have := quot ha h3; omega⟩) (by rw [List.length_set]; exact h5) (div_step (by omega) (by omega) h6)
theorem WideFloor_eq (N m : Nat) (hm : m ≤ 300) (hN : 2000 ≤ N) {x y : Int} (hx : Sm m x) (hys : Sm m y) (hy : 0 < y) (k : Int → List Int → Option R) :
    ratchetbase_WideFloor N (sn x) (dg x) (sn y) (dg y) k = k (sn (x / y)) (dg (x / y)) := by
  have lx := Sm_len hx
  unfold ratchetbase_WideFloor
  by_cases x0 : x = 0
  · subst x0; rw [show sn 0 = 0 from rfl, cond_pos rfl, Int.zero_ediv, dg_zero]; rfl
  have sx0 : sn x ≠ 0 := by unfold sn; split <;> (try split) <;> omega
  have hlen : (dg x).length ≠ 0 := by unfold dg; rw [dig_pos (by omega)]; simp
  obtain ⟨i, hi⟩ : ∃ i, (dg x).length = i + 1 := ⟨(dg x).length - 1, by omega⟩
  have hA := dg_ok x
  have e : w64 ((((dg x).length : Nat) : Int) - 1) = (i : Int) := by rw [w64_id (by omega) (by omega)]; omega
  have ha := hA _ (List.getElem_mem (show i < (dg x).length by omega))
  rw [cond_neg sx0, cond_pos (by omega), roomB_of (by omega), cond_true, e, cond_pos (by omega), at?_lt (show i < (dg x).length by omega), some_bind']
  rw [trim_one N _ ha (by omega)]
  have hst := Sm_step (r := 0) ha ⟨Int.le_refl _, hy⟩ hys
  have hqt := quot (r := 0) ha ⟨Int.le_refl _, hy⟩
  rw [Int.mul_zero, Int.add_zero] at hst hqt
  have hds := div_step (A := dg x) (q := List.replicate (dg x).length 0) (i := i) (r := 0) (y := y) (by omega) (by simp; omega) (by rw [List.drop_eq_nil_of_le (by omega), List.drop_eq_nil_of_le (by simp; omega)]; simp [val])
  rw [Int.mul_zero, Int.add_zero] at hds
  obtain ⟨r', q', f1, f2, f3, f4, f5⟩ := floor_loop N hN m hm (fun z25 z26 z27 z28 z29 => (ratchetbase_wideOf N z26 z29 (fun y30 y31 => (bif decide (z26 < 0) then (bif decide (0 < ((z25.length : Nat) : Int)) then (ratchetbase_WideOf N 1 (fun y32 y33 => (ratchetbase_WideSub N y30 y31 y32 y33 (fun y34 y35 => (k y34 y35))))) else (k y30 y31)) else (k y30 y31))))) y (sn x) (sn y) 0 (dg x) hA (by omega) hy hys i N ((dg x)[i] % y) ((List.replicate (dg x).length 0).set i ((dg x)[i] / y)) (by omega) (by omega) ⟨Int.emod_nonneg _ (by omega), Int.emod_lt_of_pos _ hy⟩ (dOK_set (dOK_zeros _) _ ⟨Int.ediv_nonneg ha.1 (by omega), by omega⟩) (by simp) hds
  have hrd := round N hN m hm (fun y24 z9 z11 z12 z13 z14 z15 z16 => ratchetbase_WideFloor_l0 N (fun z25 z26 z27 z28 z29 => (ratchetbase_wideOf N z26 z29 (fun y30 y31 => (bif decide (z26 < 0) then (bif decide (0 < ((z25.length : Nat) : Int)) then (ratchetbase_WideOf N 1 (fun y32 y33 => (ratchetbase_WideSub N y30 y31 y32 y33 (fun y34 y35 => (k y34 y35))))) else (k y30 y31)) else (k y30 y31))))) N y24 z9 z11 z12 z13 z14 z15 z16) (dg x)[i] y (sn x) (sn y) 0 i (dg x) (List.replicate (dg x).length 0) (by simp; omega) (by omega) hy hys ha.1 hst hqt
  refine hrd.trans (f1.trans ?_)
  have hv := val_dg x
  have hq0 := val_nonneg f3
  have hsx : sn x = -1 ∧ x < 0 ∨ sn x = 1 ∧ 0 < x := by unfold sn; split <;> (try split) <;> omega
  have hxy : sn x * val q' = if x < 0 then -(val q') else val q' := by
    rcases hsx with ⟨h, h'⟩ | ⟨h, h'⟩
    · rw [h, if_pos h']; omega
    · rw [h, if_neg (by omega)]; omega
  have hqs : Sm m (val q') := by
    refine Sm_le hx ?_
    have : 1 * val q' ≤ y * val q' := Int.mul_le_mul_of_nonneg_right (by omega) hq0
    omega
  rw [wide_of N (sn x) q' f3 (by omega) (by omega) (sn x * val q') (by rw [hxy]; split <;> omega) (fun _ => by
    rw [hxy]
    rcases hsx with ⟨h, h'⟩ | ⟨h, h'⟩
    · rw [if_pos h', h]; unfold sn; rw [if_pos]; rw [hxy, if_pos h'] at *; omega
    · rw [if_neg (by omega), h]; unfold sn; rw [if_neg (by omega), if_neg]; rw [hxy, if_neg (by omega)] at *; omega)]
  rcases hsx with ⟨h, h'⟩ | ⟨h, h'⟩
  · rw [cond_pos (by omega)]
    by_cases hr0 : r' = 0
    · have : (dg r').length = 0 := by rw [hr0, dg_zero]; rfl
      rw [cond_neg (by omega), hxy, if_pos h']
      have hd : x / y = -(val q') := by
        have : x = -(val q') * y + 0 := by rw [Int.neg_mul, Int.mul_comm]; omega
        rw [this, Int.add_zero, Int.mul_ediv_cancel _ (by omega)]
      rw [hd]
    · have : (dg r').length ≠ 0 := by unfold dg; rw [dig_pos (by omega)]; simp
      rw [cond_pos (by omega), WideOf_eq N (by omega) 1 (by omega) (by omega), WideSub_eq N (m + 1) (by omega) (by omega) (by rw [hxy, if_pos h']; exact Sm_mono (Sm_neg hqs) (by omega)) (by unfold Sm; exact Nat.one_lt_pow (by omega) (by omega)), hxy, if_pos h']
      have hd : x / y = -(val q') - 1 := by
        have : x = (y - r') + (-(val q') - 1) * y := by
          rw [Int.sub_mul, Int.neg_mul, Int.one_mul, Int.mul_comm (val q') y]; omega
        rw [this, Int.add_mul_ediv_right _ _ (by omega), Int.ediv_eq_zero_of_lt (by omega) (by omega), Int.zero_add]
      rw [hd]
  · rw [cond_neg (by omega), hxy, if_neg (by omega)]
    have hd : x / y = val q' := by
      have : x = r' + val q' * y := by rw [Int.mul_comm]; omega
      rw [this, Int.add_mul_ediv_right _ _ (by omega), Int.ediv_eq_zero_of_lt (by omega) (by omega), Int.zero_add]
    rw [hd]

/-! ### Common divisors and quotients -/
theorem wgcd_one (N m : Nat) (hm : m ≤ 300) (hN : 2000 ≤ N) (k0 : Int → List Int → Int → Option R) (z : Int) (n : Nat) {x y : Int} (hx : 0 ≤ x) (hy : 0 < y) (sx : Sm m x) (sy : Sm m y) :
    ratchetbase_wideGcd_l0 N k0 (n + 1) (sn x) (dg x) (sn y) (dg y) z = ratchetbase_wideGcd_l0 N k0 n (sn y) (dg y) (sn (x % y)) (dg (x % y)) z := by
  rw [ratchetbase_wideGcd_l0]
  unfold ratchetbase_WideSign
  dsimp only
  have h0 := Int.ediv_nonneg hx (show 0 ≤ y by omega)
  have h1 := Int.ediv_le_self y hx
  have h2 := Int.mul_ediv_add_emod x y
  have h3 := Int.emod_nonneg x (show y ≠ 0 by omega)
  have h4 : 0 ≤ x / y * y := Int.mul_nonneg h0 (by omega)
  rw [Int.mul_comm] at h2
  rw [cond_pos (by unfold sn; rw [if_neg (by omega), if_neg (by omega)]; omega), WideFloor_eq N m hm hN sx sy hy, WideMul_eq N m (by omega) hN (Sm_le sx (by omega)) sy, WideSub_eq N m (by omega) (by omega) sx (Sm_le sx (by omega)), show x - x / y * y = x % y by omega]
theorem wgcd_zero (N : Nat) (k0 : Int → List Int → Int → Option R) (z : Int) (n : Nat) (x : Int) :
    ratchetbase_wideGcd_l0 N k0 (n + 1) (sn x) (dg x) (sn 0) (dg 0) z = k0 (sn x) (dg x) z := by
  rw [ratchetbase_wideGcd_l0]
  unfold ratchetbase_WideSign
  dsimp only
  rw [cond_neg (by simp [sn])]
theorem wgcd_loop (N m : Nat) (hm : m ≤ 300) (hN : 2000 ≤ N) (k0 : Int → List Int → Int → Option R) (z : Int) : ∀ (t n : Nat) (X Y : Nat), Sm m (X : Int) → Sm m (Y : Int) → Y < 2 ^ t → 2 * t + 1 ≤ n →
    ratchetbase_wideGcd_l0 N k0 n (sn X) (dg X) (sn Y) (dg Y) z = k0 (sn (Nat.gcd X Y : Nat)) (dg (Nat.gcd X Y : Nat)) z := by
  intro t
  induction t with
  | zero =>
    intro n X Y hX hY h1 h2
    obtain ⟨n, rfl⟩ : ∃ q, n = q + 1 := ⟨n - 1, by omega⟩
    have : Y = 0 := by omega
    subst this
    rw [Nat.gcd_zero_right]
    exact wgcd_zero N k0 z n X
  | succ t ih =>
    intro n X Y hX hY h1 h2
    obtain ⟨n, rfl⟩ : ∃ q, n = q + 1 := ⟨n - 1, by omega⟩
    by_cases hb : Y = 0
    · subst hb
      rw [Nat.gcd_zero_right]
      exact wgcd_zero N k0 z n X
    · rw [wgcd_one N m hm hN k0 z n (by omega) (by omega) hX hY, ← Int.natCast_emod]
      obtain ⟨n, rfl⟩ : ∃ q, n = q + 1 := ⟨n - 1, by omega⟩
      have hm1 := Nat.mod_lt X (show 0 < Y by omega)
      have hr1 : Sm m ((X % Y : Nat) : Int) := Sm_le hY (by omega)
      by_cases hr : X % Y = 0
      · rw [hr, gcd_step, hr, Nat.gcd_zero_right]
        exact wgcd_zero N k0 z n Y
      · have hm2 := Nat.mod_lt Y (show 0 < X % Y by omega)
        have h4 := half_mod (x := Y) (y := X % Y) (by omega) (by omega)
        rw [wgcd_one N m hm hN k0 z n (by omega) (by omega) hY hr1, ← Int.natCast_emod]
        rw [Nat.pow_succ] at h1
        rw [ih n (X % Y) (Y % (X % Y)) hr1 (Sm_le hY (by omega)) (by omega) (by omega), ← gcd_step Y, ← gcd_step X]
theorem Sm_pow {m Y : Nat} (h : Sm m (Y : Int)) : Y < 2 ^ (30 * m) := by
  unfold Sm at h
  have : (1000000000 : Nat) ^ m ≤ (2 ^ 30) ^ m := Nat.pow_le_pow_left (by omega) m
  rw [Nat.pow_mul]
  omega
theorem wideSize_eq (N : Nat) (x : Int) (k : Int → List Int → Option R) : ratchetbase_wideSize N (sn x) (dg x) k = k (sn ((x.natAbs : Nat) : Int)) (dg ((x.natAbs : Nat) : Int)) := by
  unfold ratchetbase_wideSize
  by_cases h : x < 0
  · rw [cond_pos (by unfold sn; rw [if_pos h]; omega), WideNeg_eq, show -x = ((x.natAbs : Nat) : Int) by omega]
  · rw [cond_neg (by unfold sn; rw [if_neg h]; split <;> omega), show ((x.natAbs : Nat) : Int) = x by omega]
theorem wideGcd_eq (N m : Nat) (hm : m ≤ 30) (hN : 2000 ≤ N) {x y : Int} (hx : Sm m x) (hy : Sm m y) (k : Int → List Int → Option R) :
    ratchetbase_wideGcd N (sn x) (dg x) (sn y) (dg y) k = k (sn (gcI x y)) (dg (gcI x y)) := by
  unfold ratchetbase_wideGcd gcI
  have h2 : Sm m ((y.natAbs : Nat) : Int) := Sm_le hy (by omega)
  rw [wideSize_eq, wideSize_eq]
  exact wgcd_loop N m (by omega) hN (fun z8 z9 z10 => (k z8 z9)) 0 (30 * m) N _ _ (Sm_le hx (by omega)) h2 (Sm_pow h2) (by omega)
def rn (x y : Int) : Int := (if y < 0 then -x else x) / gcI x y
def rd (x y : Int) : Int := ((y.natAbs : Nat) : Int) / gcI x y
theorem gcI_pos' {x y : Int} (hy : y ≠ 0) : 0 < gcI x y := by
  unfold gcI
  have := Nat.gcd_pos_of_pos_right x.natAbs (n := y.natAbs) (by omega)
  omega
theorem gcI_neg (x y : Int) : gcI (-x) (-y) = gcI x y := by unfold gcI; rw [Int.natAbs_neg, Int.natAbs_neg]
theorem make_j (N m : Nat) (hm : m ≤ 30) (hN : 2000 ≤ N) {x y : Int} (hx : Sm m x) (hy : Sm m y) (h0 : 0 < y) (b4 b5 : Int) (k : Int → List Int → Int → List Int → Option R) :
    ratchetbase_RatioMake_j0 N k (sn x) (dg x) (sn y) (dg y) b4 b5 = k (sn (x / gcI x y)) (dg (x / gcI x y)) (sn (y / gcI x y)) (dg (y / gcI x y)) := by
  have hg := gcI_pos (a := x) h0
  have hgl := gcI_le (a := x) h0
  have hgs : Sm m (gcI x y) := Sm_le hy (by omega)
  have hm1 : 1 ≤ m := by
    rcases Nat.eq_zero_or_pos m with rfl | h
    · unfold Sm at hy; simp at hy; omega
    · exact h
  unfold ratchetbase_RatioMake_j0
  rw [wideGcd_eq N m hm hN hx hy, WideOf_eq N hN 1 (by omega) (by omega), WideCmp_eq N m (by omega) hN hgs (by unfold Sm; exact Nat.one_lt_pow (by omega) (by omega))]
  by_cases h : gcI x y = 1
  · rw [h, Int.sub_self, cond_pos (by simp [sn]), Int.ediv_one, Int.ediv_one]
  · rw [cond_neg (by unfold sn; rw [if_neg (by omega), if_neg (by omega)]; omega), WideFloor_eq N m (by omega) hN hx hgs hg, WideFloor_eq N m (by omega) hN hy hgs hg]
theorem RatioMake_eq (N m : Nat) (hm : m ≤ 30) (hN : 2000 ≤ N) {x y : Int} (hx : Sm m x) (hy : Sm m y) (h0 : y ≠ 0) (k : Int → List Int → Int → List Int → Option R) :
    ratchetbase_RatioMake N (sn x) (dg x) (sn y) (dg y) k = k (sn (rn x y)) (dg (rn x y)) (sn (rd x y)) (dg (rd x y)) := by
  unfold ratchetbase_RatioMake ratchetbase_WideSign rn rd
  dsimp only
  by_cases h : y < 0
  · rw [cond_pos (by unfold sn; rw [if_pos h]; omega), WideNeg_eq, WideNeg_eq, make_j N m hm hN (Sm_neg hx) (Sm_neg hy) (by omega), gcI_neg, if_pos h, show ((y.natAbs : Nat) : Int) = -y by omega]
  · rw [cond_neg (by unfold sn; rw [if_neg h]; split <;> omega), make_j N m hm hN hx hy (by omega), if_neg h, show ((y.natAbs : Nat) : Int) = y by omega]
theorem rat_ok {x y : Int} (h0 : 0 < y) : 0 < rd x y ∧ rn x y * y = x * rd x y := by
  have hg := gcI_pos (a := x) h0
  have d1 : gcI x y ∣ x := by unfold gcI; exact Int.ofNat_dvd_left.2 (Nat.gcd_dvd_left _ _)
  have d2 : gcI x y ∣ y := by unfold gcI; exact Int.ofNat_dvd_left.2 (Nat.gcd_dvd_right _ _)
  unfold rn rd
  rw [if_neg (by omega), show ((y.natAbs : Nat) : Int) = y by omega]
  have e1 := Int.ediv_mul_cancel d1
  have e2 := Int.ediv_mul_cancel d2
  generalize gcI x y = g at *
  constructor
  · rcases Int.lt_trichotomy (y / g) 0 with h | h | h
    · have := Int.mul_neg_of_neg_of_pos h hg; omega
    · rw [h] at e2; omega
    · exact h
  · have : x / g * y = x / g * (y / g * g) := by rw [e2]
    rw [this, Int.mul_comm (y / g) g, ← Int.mul_assoc, e1]
theorem rn_sm {m : Nat} {x y : Int} (h0 : 0 < y) (hx : Sm m x) : Sm m (rn x y) := by
  have hg := gcI_pos (a := x) h0
  unfold rn
  rw [if_neg (by omega)]
  refine Sm_le hx ?_
  have := Int.natAbs_ediv_le_natAbs x (gcI x y)
  exact this
theorem rd_sm {m : Nat} {x y : Int} (h0 : 0 < y) (hy : Sm m y) : Sm m (rd x y) := by
  unfold rd
  refine Sm_le hy ?_
  have := Int.natAbs_ediv_le_natAbs ((y.natAbs : Nat) : Int) (gcI x y)
  omega
theorem RatioOf_eq (N : Nat) (hN : 2000 ≤ N) {x y : Int} (hx : Sm 2 x) (hy : Sm 2 y) (h0 : 0 < y) (k : Int → List Int → Int → List Int → Option R) :
    ratchetbase_RatioOf N x y k = k (sn (rn x y)) (dg (rn x y)) (sn (rd x y)) (dg (rd x y)) := by
  unfold Sm at hx hy
  unfold ratchetbase_RatioOf
  rw [WideOf_eq N hN x (by omega) (by omega), WideOf_eq N hN y (by omega) (by omega), RatioMake_eq N 2 (by omega) hN hx hy (by omega)]
theorem RatioSub_eq (N m : Nat) (hm : m ≤ 10) (hN : 2000 ≤ N) {a b c d : Int} (ha : Sm m a) (hb : Sm m b) (hc : Sm m c) (hd : Sm m d) (b0 : 0 < b) (d0 : 0 < d) (k : Int → List Int → Int → List Int → Option R) :
    ratchetbase_RatioSub N (sn a) (dg a) (sn b) (dg b) (sn c) (dg c) (sn d) (dg d) k = k (sn (rn (a * d - c * b) (b * d))) (dg (rn (a * d - c * b) (b * d))) (sn (rd (a * d - c * b) (b * d))) (dg (rd (a * d - c * b) (b * d))) := by
  have hbd := Int.mul_pos b0 d0
  unfold ratchetbase_RatioSub ratchetbase_RatioNeg ratchetbase_RatioAdd
  rw [WideNeg_eq]
  dsimp only
  rw [WideMul_eq N m (by omega) hN ha hd, WideMul_eq N m (by omega) hN (Sm_neg hc) hb, WideAdd_eq N (m + m) (by omega) hN (Sm_mul ha hd) (Sm_mul (Sm_neg hc) hb), WideMul_eq N m (by omega) hN hb hd,
    RatioMake_eq N (m + m + 1) (by omega) hN (Sm_add (Sm_mul ha hd) (Sm_mul (Sm_neg hc) hb)) (Sm_mono (Sm_mul hb hd) (by omega)) (by omega), Int.neg_mul, ← Int.sub_eq_add_neg]
theorem RatioCmp_eq (N m : Nat) (hm : m ≤ 30) (hN : 2000 ≤ N) {a b c d : Int} (ha : Sm m a) (hb : Sm m b) (hc : Sm m c) (hd : Sm m d) (k : Int → Option R) :
    ratchetbase_RatioCmp N (sn a) (dg a) (sn b) (dg b) (sn c) (dg c) (sn d) (dg d) k = k (sn (a * d - c * b)) := by
  unfold ratchetbase_RatioCmp
  rw [WideMul_eq N m (by omega) hN ha hd, WideMul_eq N m (by omega) hN hc hb, WideCmp_eq N (m + m) (by omega) hN (Sm_mul ha hd) (Sm_mul hc hb)]
theorem cross {a b c d x y z w : Int} (hb : 0 < b) (hd : 0 < d) (hy : 0 < y) (hw : 0 < w) (h1 : a * y = x * b) (h2 : c * w = z * d) (h : x * w ≤ z * y) : a * d ≤ c * b := by
  have e1 : (a * d) * (y * w) = (x * w) * (b * d) := by
    rw [show (a * d) * (y * w) = (a * y) * (d * w) by ac_rfl, h1]; ac_rfl
  have e2 : (c * b) * (y * w) = (z * y) * (b * d) := by
    rw [show (c * b) * (y * w) = (c * w) * (b * y) by ac_rfl, h2]; ac_rfl
  have h3 := Int.mul_le_mul_of_nonneg_right h (show 0 ≤ b * d from Int.le_of_lt (Int.mul_pos hb hd))
  rw [← e1, ← e2] at h3
  exact Int.le_of_mul_le_mul_right h3 (Int.mul_pos hy hw)
theorem sn_le {x : Int} : sn x ≤ 0 ↔ x ≤ 0 := by unfold sn; split <;> (try split) <;> omega

/-! ### Errors of a form -/
theorem frerr_ok {n d : Int} (h : frerr n d = 0) : 0 < d ∧ -1000000000 ≤ n ∧ n ≤ 1000000000 ∧ d ≤ 1000000000 := by
  unfold frerr at h
  split at h
  · rename_i u1
    split at h
    · rename_i u2; exact ⟨u1.1, u2.1.1, u2.1.2, u2.2⟩
    · cases h
  · cases h
def ecode (n1 d1 n2 d2 w p r b : Int) : Int := if frerr n1 d1 = 0 then (if frerr n2 d2 = 0 then (if n1 * d2 ≤ n2 * d1 then ferr w p r b else 9) else frerr n2 d2) else frerr n1 d1
def loE (r n2 : Int) : Int := if r = 1 then -1 else if r = 2 then (if 0 < n2 then -2 else 0) else -2
def hiE (r n1 : Int) : Int := if r = 1 then 1 else if r = 2 then (if n1 < 0 then 2 else 0) else 0
theorem loE_range (r n : Int) : -2 ≤ loE r n ∧ loE r n ≤ 0 := by unfold loE; split <;> (try split) <;> (try split) <;> omega
theorem hiE_range (r n : Int) : 0 ≤ hiE r n ∧ hiE r n ≤ 2 := by unfold hiE; split <;> (try split) <;> (try split) <;> omega
theorem Ej1_eq (N : Nat) (hN : 200 ≤ N) {w p r b : Int} (hf : VF w p r b) (lo hi b6 b7 b8 b9 : Int) (h1 : -2 ≤ lo ∧ lo ≤ 2) (h2 : -2 ≤ hi ∧ hi ≤ 2) (k : Int → Int → Int → Int → Int → Option R) :
    arith_ErrorIn_j1 N k lo hi w p r b b6 b7 b8 b9 = k 0 (lowN lo (2 * p2 p)) (lowD lo (2 * p2 p)) (lowN hi (2 * p2 p)) (lowD hi (2 * p2 p)) := by
  have := hf.p0; have := hf.pw; have := hf.w16
  have q := p2_15 (n := p) (by omega)
  have q0 := p2_pos p
  unfold arith_ErrorIn_j1
  rw [one_eq N w r b (by omega) (by omega), w64_id (by omega) (by omega), fraction_eq N hN lo _ (by omega) (by omega) (by omega) (by omega), fraction_eq N hN hi _ (by omega) (by omega) (by omega) (by omega)]
theorem Ej0_eq (N : Nat) (hN : 200 ≤ N) {w p r b : Int} (e n1 d1 n2 d2 : Int) (hf : e = 0 → VF w p r b) (k : Int → Int → Int → Int → Int → Option R) :
    arith_ErrorIn_j0 N k e n1 d1 n2 d2 w p r b 0 0 0 0 = if e = 0 then k 0 (lowN (loE r n2) (2 * p2 p)) (lowD (loE r n2) (2 * p2 p)) (lowN (hiE r n1) (2 * p2 p)) (lowD (hiE r n1) (2 * p2 p)) else k e 0 0 0 0 := by
  unfold arith_ErrorIn_j0
  by_cases h : e = 0
  · rw [cond_neg (by simp [h]), if_pos h]
    have hj := fun lo hi h1 h2 => Ej1_eq N hN (hf h) lo hi 0 0 0 0 h1 h2 k
    unfold loE hiE
    by_cases r1 : r = 1
    · rw [cond_pos r1, if_pos r1, if_pos r1]; exact hj _ _ (by omega) (by omega)
    · rw [cond_neg r1, if_neg r1, if_neg r1]
      by_cases r2 : r = 2
      · rw [cond_pos r2, if_pos r2, if_pos r2]
        by_cases a : 0 < n2 <;> by_cases c : n1 < 0
        · rw [cond_pos a, cond_pos c, if_pos a, if_pos c]; exact hj _ _ (by omega) (by omega)
        · rw [cond_pos a, cond_neg c, if_pos a, if_neg c]; exact hj _ _ (by omega) (by omega)
        · rw [cond_neg a, cond_pos c, if_neg a, if_pos c]; exact hj _ _ (by omega) (by omega)
        · rw [cond_neg a, cond_neg c, if_neg a, if_neg c]; exact hj _ _ (by omega) (by omega)
      · rw [cond_neg r2, if_neg r2, if_neg r2]; exact hj _ _ (by omega) (by omega)
  · rw [cond_pos h, if_neg h]
theorem prod_sm {n d : Int} (h1 : -1000000000 ≤ n) (h2 : n ≤ 1000000000) (h3 : 0 < d) (h4 : d ≤ 1000000000) : -1000000000000000000 ≤ n * d ∧ n * d ≤ 1000000000000000000 := by
  have := mul_small (A := 1000000000) (B := 1000000000) h1 h2 (show -1000000000 ≤ d by omega) h4 (by omega) (by omega)
  omega
theorem ErrorIn_eq (N : Nat) (hN : 200 ≤ N) (n1 d1 n2 d2 w p r b : Int) (hd1 : d1 ≤ 9223372036854775807) (hd2 : d2 ≤ 9223372036854775807) (k : Int → Int → Int → Int → Int → Option R) :
    arith_ErrorIn N n1 d1 n2 d2 w p r b k = if ecode n1 d1 n2 d2 w p r b = 0 then k (lowN (loE r n2) (2 * p2 p)) (lowD (loE r n2) (2 * p2 p)) (lowN (hiE r n1) (2 * p2 p)) (lowD (hiE r n1) (2 * p2 p)) 0 else k 0 0 0 0 (ecode n1 d1 n2 d2 w p r b) := by
  unfold arith_ErrorIn ecode
  rw [fractionErr_eq N hN n1 d1 hd1, fractionErr_eq N hN n2 d2 hd2, first2 N (by omega)]
  by_cases f1 : frerr n1 d1 = 0
  · rw [if_pos f1, if_pos f1]
    by_cases f2 : frerr n2 d2 = 0
    · have o1 := frerr_ok f1
      have o2 := frerr_ok f2
      have s1 := prod_sm o1.2.1 o1.2.2.1 o2.1 o2.2.2.2
      have s2 := prod_sm o2.2.1 o2.2.2.1 o1.1 o1.2.2.2
      rw [cond_pos f2, if_pos f2, w64_id (by omega) (by omega), w64_id (by omega) (by omega), unless_eq, checkForm_eq N (by omega), first2 N (by omega)]
      by_cases o : n1 * d2 ≤ n2 * d1
      · rw [if_pos (decide_eq_true o), if_pos rfl, if_pos o, Ej0_eq N hN _ n1 d1 n2 d2 (fun h => ferr_ok h)]
      · have h9 : ¬ ((9 : Int) = 0) := by omega
        rw [if_neg (show ¬ (decide (n1 * d2 ≤ n2 * d1) = true) by simpa using o), if_neg o]
        simp only [h9, if_false]
        rw [Ej0_eq N hN _ n1 d1 n2 d2 (fun h => absurd h h9)]
        simp only [h9, if_false]
    · rw [cond_neg f2, if_neg f2, Ej0_eq N hN _ n1 d1 n2 d2 (fun h => absurd h f2), if_neg f2]
  · rw [if_neg f1, if_neg f1, cond_neg f1, Ej0_eq N hN _ n1 d1 n2 d2 (fun h => absurd h f1), if_neg f1]
theorem low_m2 {u : Int} (hu : 0 < u) : lowN (-2) (2 * u) = lowN (-1) u ∧ lowD (-2) (2 * u) = lowD (-1) u := by
  have g1 : gcI (-2) (2 * u) = 2 := by
    unfold gcI
    rw [Int.natAbs_mul, show (-2 : Int).natAbs = 2 * 1 from rfl, show (2 : Int).natAbs = 2 from rfl, Nat.gcd_mul_left, Nat.gcd_one_left]; rfl
  have g2 : gcI (-1) u = 1 := by
    unfold gcI
    rw [show (-1 : Int).natAbs = 1 from rfl, Nat.gcd_one_left]; rfl
  unfold lowN lowD
  rw [g1, g2, Int.mul_tdiv_cancel_left _ (by omega), Int.tdiv_one, Int.tdiv_one]
  exact ⟨rfl, rfl⟩
theorem low_2 {u : Int} (hu : 0 < u) : lowN 2 (2 * u) = lowN 1 u ∧ lowD 2 (2 * u) = lowD 1 u := by
  have g1 : gcI 2 (2 * u) = 2 := by
    unfold gcI
    rw [Int.natAbs_mul, show (2 : Int).natAbs = 2 * 1 from rfl, Nat.gcd_mul_left, Nat.gcd_one_left]; rfl
  have g2 : gcI 1 u = 1 := by
    unfold gcI
    rw [show (1 : Int).natAbs = 1 from rfl, Nat.gcd_one_left]; rfl
  unfold lowN lowD
  rw [g1, g2, Int.mul_tdiv_cancel_left _ (by omega), Int.tdiv_one, Int.tdiv_one]
  exact ⟨rfl, rfl⟩
theorem low_0 {u : Int} (hu : 0 < u) : lowN 0 (2 * u) = 0 ∧ lowD 0 (2 * u) = 1 := by
  have g1 : gcI 0 (2 * u) = 2 * u := by
    unfold gcI
    rw [show (0 : Int).natAbs = 0 from rfl, Nat.gcd_zero_left]; omega
  unfold lowN lowD
  rw [g1, Int.zero_tdiv, Int.tdiv_self (by omega)]
  exact ⟨rfl, rfl⟩
theorem Error_eq (N : Nat) (hN : 200 ≤ N) {w p r b : Int} (hf : VF w p r b) (n1 d1 n2 d2 : Int) (k : Int → Int → Int → Int → Option R) :
    ratchetref30_Error N n1 d1 n2 d2 w p r b k = k (lowN (loE r n2) (2 * p2 p)) (lowD (loE r n2) (2 * p2 p)) (lowN (hiE r n1) (2 * p2 p)) (lowD (hiE r n1) (2 * p2 p)) := by
  have := hf.p0; have := hf.pw; have := hf.w16
  have q := p2_15 (n := p) (by omega)
  have q0 := p2_pos p
  have m2 := low_m2 q0
  have t2 := low_2 q0
  have z2 := low_0 q0
  unfold ratchetref30_Error loE hiE
  rw [power_eq N hf.p0 (by omega), Lowest_eq N hN (-1) _ q0 (by omega) (by omega) (by omega)]
  by_cases r1 : r = 1
  · rw [cond_pos r1, if_pos r1, if_pos r1, w64_id (by omega) (by omega), Lowest_eq N hN (-1) _ (by omega) (by omega) (by omega) (by omega), Lowest_eq N hN 1 _ (by omega) (by omega) (by omega) (by omega)]
  · rw [cond_neg r1, if_neg r1, if_neg r1]
    by_cases r2 : r = 2
    · rw [cond_pos r2, if_pos r2, if_pos r2]
      by_cases a : 0 < n2 <;> by_cases c : n1 < 0
      · rw [cond_pos a, if_pos a, if_pos c, Lowest_eq N hN (-1) _ q0 (by omega) (by omega) (by omega), cond_pos c, Lowest_eq N hN 1 _ q0 (by omega) (by omega) (by omega), m2.1, m2.2, t2.1, t2.2]
      · rw [cond_pos a, if_pos a, if_neg c, Lowest_eq N hN (-1) _ q0 (by omega) (by omega) (by omega), cond_neg c, m2.1, m2.2, z2.1, z2.2]
      · rw [cond_neg a, if_neg a, if_pos c, cond_pos c, Lowest_eq N hN 1 _ q0 (by omega) (by omega) (by omega), t2.1, t2.2, z2.1, z2.2]
      · rw [cond_neg a, if_neg a, if_neg c, cond_neg c, z2.1, z2.2]
    · rw [cond_neg r2, if_neg r2, if_neg r2, m2.1, m2.2, z2.1, z2.2]
/-- How far a rounded number is from the number. -/
theorem rnd_span {r n u D : Int} (hu : 0 < u) (hD : 0 < D) (hr : 0 ≤ r ∧ r ≤ 2) : loE r n * D ≤ 2 * (rnd r (n * u) D * D - n * u) ∧ 2 * (rnd r (n * u) D * D - n * u) ≤ hiE r n * D := by
  have h1 := Int.mul_ediv_add_emod (n * u) D
  have h2 := Int.emod_nonneg (n * u) (show D ≠ 0 by omega)
  have h3 := Int.emod_lt_of_pos (n * u) hD
  have s1 : (0 < n ∧ 0 < n * u) ∨ (n < 0 ∧ n * u < 0) ∨ (n = 0 ∧ n * u = 0 ∧ n * u % D = 0) := by
    rcases Int.lt_trichotomy n 0 with h | h | h
    · exact .inr (.inl ⟨h, Int.mul_neg_of_neg_of_pos h hu⟩)
    · exact .inr (.inr ⟨h, by rw [h, Int.zero_mul], by rw [h, Int.zero_mul, Int.zero_emod]⟩)
    · exact .inl ⟨h, Int.mul_pos h hu⟩
  rw [Int.mul_comm] at h1
  unfold rnd loE hiE
  generalize n * u = M at *
  generalize M / D = q at *
  generalize M % D = f at *
  by_cases c : (r = 1 ∧ (D < 2 * f ∨ 2 * f = D ∧ q % 2 ≠ 0)) ∨ (r = 2 ∧ M < 0 ∧ 0 < f)
  · rw [if_pos c, Int.add_mul, Int.one_mul]
    generalize q * D = Q at *
    rcases c with ⟨r1, c⟩ | ⟨r2, c1, c2⟩
    · rw [if_pos r1, if_pos r1]; omega
    · rw [if_neg (show ¬ r = 1 by omega), if_pos r2, if_neg (show ¬ r = 1 by omega), if_pos r2, if_neg (show ¬ 0 < n by omega), if_pos (show n < 0 by omega)]; omega
  · rw [if_neg c]
    generalize hQ : q * D = Q at *
    by_cases r1 : r = 1
    · rw [if_pos r1, if_pos r1]; omega
    · rw [if_neg r1, if_neg r1]
      by_cases r2 : r = 2
      · have hc : 0 ≤ M ∨ f = 0 := by omega
        rw [if_pos r2, if_pos r2]
        rcases s1 with ⟨a1, a2⟩ | ⟨a1, a2⟩ | ⟨a1, a2⟩
        · rw [if_pos a1, if_neg (show ¬ n < 0 by omega)]; omega
        · rw [if_neg (show ¬ 0 < n by omega), if_pos a1, Int.zero_mul]
          have hf0 : f = 0 := by omega
          clear c hc hQ
          constructor <;> omega
        · rw [if_neg (show ¬ 0 < n by omega), if_neg (show ¬ n < 0 by omega)]; omega
      · rw [if_neg r2, if_neg r2]; omega
theorem low_cross {x y : Int} (hy : 0 < y) : lowN x y * y = x * lowD x y := by
  have h := low_mul (n := x) hy
  generalize lowN x y = a at *
  generalize lowD x y = d at *
  generalize gcI x y = g at *
  have e : a * (d * g) = a * g * d := by rw [Int.mul_comm d g, ← Int.mul_assoc]
  rwa [h.1, h.2] at e
theorem Sm2 {x : Int} (h1 : -1000000000000000 ≤ x) (h2 : x ≤ 1000000000000000) : Sm 2 x := by unfold Sm; omega
theorem ecode_ok {n1 d1 n2 d2 w p r b : Int} (h : ecode n1 d1 n2 d2 w p r b = 0) : frerr n1 d1 = 0 ∧ frerr n2 d2 = 0 ∧ n1 * d2 ≤ n2 * d1 ∧ ferr w p r b = 0 := by
  unfold ecode at h
  split at h
  · split at h
    · split at h
      · exact ⟨‹_›, ‹_›, ‹_›, h⟩
      · cases h
    · exact absurd h ‹_›
  · exact absurd h ‹_›
theorem diff_eq {X Y an ad bn bd u d1 n1 Rv : Int} (c2 : X * (ad * bd) = (an * bd - bn * ad) * Y) (a2 : an * u = Rv * ad) (b2 : bn * d1 = n1 * bd) (a1 : 0 < ad) (b1 : 0 < bd) : X * (u * d1) = (Rv * d1 - n1 * u) * Y := by
  have hbd := Int.mul_pos a1 b1
  have e1 : X * (u * d1) * (ad * bd) = (Rv * d1 - n1 * u) * Y * (ad * bd) := by
    have f1 : X * (u * d1) * (ad * bd) = X * (ad * bd) * (u * d1) := by ac_rfl
    rw [f1, c2]
    have f2 : (an * bd - bn * ad) * Y * (u * d1) = (an * u * (bd * d1) - bn * d1 * (ad * u)) * Y := by
      rw [show (an * bd - bn * ad) * Y * (u * d1) = ((an * bd - bn * ad) * (u * d1)) * Y by ac_rfl, Int.sub_mul (an * bd)]
      congr 2 <;> ac_rfl
    rw [f2, a2, b2, show (Rv * d1 - n1 * u) * Y * (ad * bd) = ((Rv * d1 - n1 * u) * (ad * bd)) * Y by ac_rfl, Int.sub_mul (Rv * d1)]
    congr 2 <;> ac_rfl
  exact Int.eq_of_mul_eq_mul_right (by omega) e1
theorem tr2 {a b x y z v : Int} (hx : 0 < x) (e1 : a * x = z * b) (e2 : z * y = v * x) : a * y = v * b := by
  have : a * y * x = v * b * x := by
    rw [show a * y * x = a * x * y by ac_rfl, e1, show z * b * y = z * y * b by ac_rfl, e2]; ac_rfl
  exact Int.eq_of_mul_eq_mul_right (by omega) this
theorem scale_le {l d1 M u : Int} (hu : 0 < u) (h : l * d1 ≤ 2 * M) : l * (u * d1) ≤ M * (2 * u) := by
  have := Int.mul_le_mul_of_nonneg_right h (show 0 ≤ u by omega)
  rw [show l * (u * d1) = l * d1 * u by ac_rfl, show M * (2 * u) = 2 * M * u by ac_rfl]
  exact this
theorem scale_ge {l d1 M u : Int} (hu : 0 < u) (h : 2 * M ≤ l * d1) : M * (2 * u) ≤ l * (u * d1) := by
  have := Int.mul_le_mul_of_nonneg_right h (show 0 ≤ u by omega)
  rw [show l * (u * d1) = l * d1 * u by ac_rfl, show M * (2 * u) = 2 * M * u by ac_rfl]
  exact this
theorem low_sm {x u : Int} (hu : 0 < u) (hu2 : u ≤ 32768) (hx : -2 ≤ x ∧ x ≤ 2) : Sm 2 (lowN x (2 * u)) ∧ Sm 2 (lowD x (2 * u)) ∧ 0 < lowD x (2 * u) := by
  have u2 : 0 < 2 * u := by omega
  have gl := tdiv_small (n := x) (B := 2) (gcI_pos (a := x) u2) (by omega) (by omega) (by omega)
  have gld := tdiv_small (n := 2 * u) (B := 65536) (gcI_pos (a := x) u2) (by omega) (by omega) (by omega)
  exact ⟨Sm2 (by unfold lowN; omega) (by unfold lowN; omega), Sm2 (by unfold lowD; omega) (by unfold lowD; omega), lowD_pos u2⟩
/-- The last two comparisons. -/
theorem ends_ok (N : Nat) (hN : 2000 ≤ N) (k : Bool → Option R) {u d1 n1 Rv lo hi : Int} (hu : 0 < u) (hu2 : u ≤ 32768) (o1 : 0 < d1 ∧ -1000000000 ≤ n1 ∧ n1 ≤ 1000000000 ∧ d1 ≤ 1000000000) (hR : -32768 ≤ Rv ∧ Rv ≤ 32768) (hlo : -2 ≤ lo ∧ lo ≤ 2) (hhi : -2 ≤ hi ∧ hi ≤ 2)
    (h1 : lo * d1 ≤ 2 * (Rv * d1 - n1 * u)) (h2 : 2 * (Rv * d1 - n1 * u) ≤ hi * d1) :
    ratchetbase_RatioOf N Rv u (fun y19 y20 y21 y22 => (ratchetbase_RatioFrom N n1 d1 (fun y23 y24 y25 y26 => (ratchetbase_RatioSub N y19 y20 y21 y22 y23 y24 y25 y26 (fun y27 y28 y29 y30 => (ratchetbase_RatioFrom N (lowN lo (2 * u)) (lowD lo (2 * u)) (fun y31 y32 y33 y34 => (ratchetbase_RatioCmp N y31 y32 y33 y34 y27 y28 y29 y30 (fun y35 => (bif decide (y35 ≤ 0) then (ratchetbase_RatioFrom N (lowN hi (2 * u)) (lowD hi (2 * u)) (fun y36 y37 y38 y39 => (ratchetbase_RatioCmp N y27 y28 y29 y30 y36 y37 y38 y39 (fun y40 => (k (decide (y40 ≤ 0))))))) else (k false))))))))))) = k true := by
  have sR : Sm 2 Rv := Sm2 (by omega) (by omega)
  have sP : Sm 2 u := Sm2 (by omega) (by omega)
  have sn1 : Sm 2 n1 := Sm2 (by omega) (by omega)
  have sd1 : Sm 2 d1 := Sm2 (by omega) (by omega)
  have A := rat_ok (x := Rv) hu
  have B := rat_ok (x := n1) o1.1
  have sA1 := rn_sm (x := Rv) hu sR
  have sA2 := rd_sm (x := Rv) hu sP
  have sB1 := rn_sm (x := n1) o1.1 sn1
  have sB2 := rd_sm (x := n1) o1.1 sd1
  have u2 : 0 < 2 * u := by omega
  have ud : 0 < u * d1 := Int.mul_pos hu o1.1
  obtain ⟨sl1, sl2, ll⟩ := low_sm hu hu2 hlo
  obtain ⟨sh1, sh2, lh⟩ := low_sm hu hu2 hhi
  have cl := low_cross (x := lo) u2
  have ch := low_cross (x := hi) u2
  unfold ratchetbase_RatioFrom
  rw [RatioOf_eq N hN sR sP hu, RatioOf_eq N hN sn1 sd1 o1.1]
  dsimp only
  rw [RatioSub_eq N 2 (by omega) hN sA1 sA2 sB1 sB2 A.1 B.1, RatioOf_eq N hN sl1 sl2 ll]
  have hbd := Int.mul_pos A.1 B.1
  have C := rat_ok (x := rn Rv u * rd n1 d1 - rn n1 d1 * rd Rv u) hbd
  have sC1 : Sm 5 (rn (rn Rv u * rd n1 d1 - rn n1 d1 * rd Rv u) (rd Rv u * rd n1 d1)) := rn_sm hbd (by
    rw [Int.sub_eq_add_neg]; exact Sm_add (Sm_mul sA1 sB2) (Sm_neg (Sm_mul sB1 sA2)))
  have sC2 : Sm 5 (rd (rn Rv u * rd n1 d1 - rn n1 d1 * rd Rv u) (rd Rv u * rd n1 d1)) := rd_sm hbd (Sm_mono (Sm_mul sA2 sB2) (by omega))
  have hC := diff_eq C.2 A.2 B.2 A.1 B.1
  have hCp := C.1
  generalize rn (rn Rv u * rd n1 d1 - rn n1 d1 * rd Rv u) (rd Rv u * rd n1 d1) = X at *
  generalize rd (rn Rv u * rd n1 d1 - rn n1 d1 * rd Rv u) (rd Rv u * rd n1 d1) = Y at *
  have L := rat_ok (x := lowN lo (2 * u)) ll
  have Hh := rat_ok (x := lowN hi (2 * u)) lh
  have sL1 := rn_sm (x := lowN lo (2 * u)) ll sl1
  have sL2 := rd_sm (x := lowN lo (2 * u)) ll sl2
  have sH1 := rn_sm (x := lowN hi (2 * u)) lh sh1
  have sH2 := rd_sm (x := lowN hi (2 * u)) lh sh2
  have eL := tr2 ll L.2 cl
  have eH := tr2 lh Hh.2 ch
  have c1 := cross L.1 hCp u2 ud eL hC (scale_le hu h1)
  have c2 := cross hCp Hh.1 ud u2 hC eH (scale_ge hu h2)
  rw [RatioCmp_eq N 5 (by omega) hN (Sm_mono sL1 (by omega)) (Sm_mono sL2 (by omega)) sC1 sC2, cond_pos (sn_le.2 (by omega)), RatioOf_eq N hN sh1 sh2 lh]
  rw [RatioCmp_eq N 5 (by omega) hN sC1 sC2 (Sm_mono sH1 (by omega)) (Sm_mono sH2 (by omega)), decide_eq_true (sn_le.2 (by omega))]
theorem last_eq (N : Nat) (hN : 2000 ≤ N) (k : Bool → Option R) {w p r b : Int} (hf : VF w p r b) (hfe : ferr w p r b = 0) (n1 d1 n2 d2 : Int) (o1 : 0 < d1 ∧ -1000000000 ≤ n1 ∧ n1 ≤ 1000000000 ∧ d1 ≤ 1000000000) (hfr : frerr n1 d1 = 0) :
    ratchetlaw30_ArithErrors_j2 N k 0 0 n1 d1 n2 d2 w p r b (lowN (loE r n2) (2 * p2 p)) (lowD (loE r n2) (2 * p2 p)) (lowN (hiE r n1) (2 * p2 p)) (lowD (hiE r n1) (2 * p2 p)) = k true := by
  have := hf.p0; have := hf.pw; have := hf.w16; have := hf.w2; have := hf.r0; have := hf.r2
  have q := p2_15 (n := p) (by omega)
  have q0 := p2_pos p
  have qw := p2_15 (n := w - 1) (by omega)
  have qw0 := p2_pos (w - 1)
  have hw2 := p2_half (w := w) (by omega)
  have hself : ecode n1 d1 n1 d1 w p r b = 0 := by unfold ecode; rw [if_pos hfr, if_pos hfr, if_pos (Int.le_refl _), hfe]
  have hm := mul_small (A := 1000000000) (B := 32768) o1.2.1 o1.2.2.1 (show -32768 ≤ p2 p by omega) q (by omega) (by omega)
  unfold ratchetlaw30_ArithErrors_j2
  rw [cond_neg (by simp), cond_neg (by simp), Error_eq N (by omega) hf]
  simp only [decide_true, Bool.and_self, bne_self_eq_false, cond_false]
  rw [fixedOf_eq N (by omega) n1 d1 w p r b (by omega), if_pos hfr, if_pos hfe, ErrorIn_eq N (by omega) n1 d1 n1 d1 w p r b (by omega) (by omega), if_pos hself, cond_neg (by simp), cond_neg (by simp)]
  have hrs := rnd_small (r := r) (n := n1 * p2 p) (d := d1) (B := 32768000000000) o1.1 (by omega) (by omega) (by omega)
  have hfx : 0 ≤ fx w r b (n1 * p2 p) d1 ∧ fx w r b (n1 * p2 p) d1 < p2 w := ⟨Int.emod_nonneg _ (by omega), Int.emod_lt_of_pos _ (by omega)⟩
  have hvok : vok w (fx w r b (n1 * p2 p) d1) = true := decide_eq_true (by omega)
  rw [Fits_eq N _ (by omega) (by omega), hvok, show (!true) = false from rfl, cond_false, w64_id (x := w - 1) (by omega) (by omega), power_eq N (by omega) (by omega), power_eq N hf.p0 (by omega), w64_id (x := n1 * p2 p) (by omega) (by omega),
    Rounded_eq N _ _ _ ⟨hf.r0, hf.r2⟩ o1.1 (by omega) (by omega) (by omega), w64_id (x := 0 - p2 (w - 1)) (by omega) (by omega), w64_id (x := p2 (w - 1) - 1) (by omega) (by omega), Within_eq]
  by_cases hin : 0 - p2 (w - 1) ≤ rnd r (n1 * p2 p) d1 ∧ rnd r (n1 * p2 p) d1 ≤ p2 (w - 1) - 1
  · rw [decide_eq_true hin, show (!true) = false from rfl, cond_false, Signed_eq N _ (by omega) hf.w16 (by omega), power_eq N hf.p0 (by omega)]
    have hS : sg w (fx w r b (n1 * p2 p) d1) = rnd r (n1 * p2 p) d1 := by
      unfold fx
      have hsat : sat w b (rnd r (n1 * p2 p) d1) = rnd r (n1 * p2 p) d1 := by unfold sat; split <;> omega
      rw [hsat]
      unfold sg
      by_cases hneg : rnd r (n1 * p2 p) d1 < 0
      · have e : rnd r (n1 * p2 p) d1 % p2 w = rnd r (n1 * p2 p) d1 + p2 w := by
          rw [← Int.add_emod_right]; exact Int.emod_eq_of_lt (by omega) (by omega)
        rw [e, if_pos (by omega)]; omega
      · rw [Int.emod_eq_of_lt (by omega) (by omega), if_neg (by omega)]
    rw [hS]
    have hsp := rnd_span (r := r) (n := n1) q0 o1.1 ⟨hf.r0, hf.r2⟩
    have lr := loE_range r n1
    have hr := hiE_range r n1
    exact ends_ok N (by omega) k q0 q o1 ⟨by omega, by omega⟩ ⟨by omega, by omega⟩ ⟨by omega, by omega⟩ hsp.1 hsp.2
  · rw [decide_eq_false hin]; rfl
theorem Cmp_pos (N : Nat) {n1 d1 n2 d2 : Int} (o1 : 0 < d1 ∧ -1000000000 ≤ n1 ∧ n1 ≤ 1000000000 ∧ d1 ≤ 1000000000) (o2 : 0 < d2 ∧ -1000000000 ≤ n2 ∧ n2 ≤ 1000000000 ∧ d2 ≤ 1000000000) (k : Int → Option R) :
    ratchetbase_Cmp N n1 d1 n2 d2 k = k (if n1 * d2 < n2 * d1 then -1 else if n2 * d1 < n1 * d2 then 1 else 0) := by
  have s1 := prod_sm o1.2.1 o1.2.2.1 o2.1 o2.2.2.2
  have s2 := prod_sm o2.2.1 o2.2.2.1 o1.1 o1.2.2.2
  unfold ratchetbase_Cmp
  rw [w64_id (x := n1 * d2) (by omega) (by omega), w64_id (x := n2 * d1) (by omega) (by omega), cond_dec, cond_dec]
  split <;> (try split) <;> rfl
theorem pureArithErrors : PureArithErrors := by
  intro ⟨n1, d1, n2, d2⟩ ⟨w, p, r, b⟩ ok0 ok1
  refine ⟨2000, ?_⟩
  intro R k
  have hd1 : d1 ≤ 9223372036854775807 := (wf_i64.1 ok0.2.1).2
  have hd2 : d2 ≤ 9223372036854775807 := (wf_i64.1 ok0.2.2.2).2
  dsimp only
  unfold ratchetlaw30_ArithErrors
  rw [awake_ok, show (!true) = false from rfl, cond_false, ErrorIn_eq 2000 (by omega) n1 d1 n2 d2 w p r b hd1 hd2]
  simp only [FracErr_eq 2000 (show 200 ≤ 2000 by omega) n1 d1 hd1, FracErr_eq 2000 (show 200 ≤ 2000 by omega) n2 d2 hd2]
  have hbad : ∀ c : Int, c ≠ 0 → ratchetlaw30_ArithErrors_j2 2000 k c c n1 d1 n2 d2 w p r b 0 0 0 0 = k true := by
    intro c hc
    unfold ratchetlaw30_ArithErrors_j2
    rw [cond_pos hc, cond_pos rfl]; rfl
  by_cases he : ecode n1 d1 n2 d2 w p r b = 0
  · obtain ⟨f1, f2, o, fe⟩ := ecode_ok he
    have o1 := frerr_ok f1
    have o2 := frerr_ok f2
    rw [if_pos he, f1, f2, cond_pos rfl]
    unfold ratchetlaw30_ArithErrors_j0
    rw [cond_pos rfl, Cmp_pos 2000 o1 o2, cond_neg (by split <;> (try split) <;> omega)]
    unfold ratchetlaw30_ArithErrors_j1
    rw [cond_pos rfl, FormErr_eq, fe]
    exact last_eq 2000 (by omega) k (ferr_ok fe) fe n1 d1 n2 d2 o1 f1
  · rw [if_neg he]
    unfold ecode at he ⊢
    by_cases f1 : frerr n1 d1 = 0
    · rw [if_pos f1] at he
      rw [if_pos f1, f1, cond_pos rfl]
      unfold ratchetlaw30_ArithErrors_j0
      by_cases f2 : frerr n2 d2 = 0
      · have o1 := frerr_ok f1
        have o2 := frerr_ok f2
        rw [if_pos f2] at he
        rw [if_pos f2, f2, cond_pos rfl, Cmp_pos 2000 o1 o2]
        unfold ratchetlaw30_ArithErrors_j1
        by_cases o : n1 * d2 ≤ n2 * d1
        · rw [if_pos o] at he
          rw [if_pos o, cond_neg (by split <;> (try split) <;> omega), cond_pos rfl, FormErr_eq]
          exact hbad _ he
        · rw [if_neg o, cond_pos (by rw [if_neg (by omega), if_pos (by omega)]; omega), cond_neg (by omega)]
          exact hbad 9 (by omega)
      · rw [if_neg f2, cond_neg f2]
        unfold ratchetlaw30_ArithErrors_j1
        rw [cond_neg f2]
        exact hbad _ f2
    · rw [if_neg f1, cond_neg f1]
      unfold ratchetlaw30_ArithErrors_j0
      rw [cond_neg f1]
      unfold ratchetlaw30_ArithErrors_j1
      rw [cond_neg f1]
      exact hbad _ f1

end
end Am
end Go.Proofs.YteamkapbkccdeaaGreatDoor
