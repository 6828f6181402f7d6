/- The statement about numbers of forms, on plain data. -/
import Derived.Test.YteamkapbkccdeaaDoorANF
import Derived.Test.YteamkapbkccdeaaDoorPu
set_option linter.unusedVariables false
set_option linter.unusedSimpArgs false
set_option maxRecDepth 100000
namespace Go.Proofs.YteamkapbkccdeaaDoor
namespace Am
section
variable {R : Type}
theorem awake_ok (k : Bool → Option R) : ratchetlaw30_awake 2000 k = k true := by kernel_rfl

theorem within_eq (N : Nat) (a lo hi : Int) (k : Bool → Option R) : arith_within N a lo hi k = k (decide (lo ≤ a ∧ a ≤ hi)) := by
  unfold arith_within
  by_cases h : lo ≤ a <;> simp [h]
theorem Within_eq (N : Nat) (a lo hi : Int) (k : Bool → Option R) : ratchetbase_Within N a lo hi k = k (decide (lo ≤ a ∧ a ≤ hi)) := by
  unfold ratchetbase_Within
  by_cases h : lo ≤ a <;> simp [h]
theorem unless_eq (N : Nat) (b : Bool) (e : Int) (k : Int → Option R) : arith_unless N b e k = k (if b = true then 0 else e) := by
  unfold arith_unless; cases b <;> rfl
theorem first_loop (N : Nat) (k0 : Int → Option R) (k1 : Option R) (l : List Int) (hl : l.length ≤ 1000000) : ∀ (n i : Nat), l.length < n + i → i ≤ l.length →
    arith_first_l0 N k0 k1 n l l.length i = match (l.drop i).find? (fun x => decide (x ≠ 0)) with | some x => k0 x | none => k1 := by
  intro n
  induction n with
  | zero => intro i h1 h2; omega
  | succ n ih =>
    intro i h1 h2
    rw [arith_first_l0]
    by_cases h : i < l.length
    · rw [cond_pos (by omega), at?_lt h, some_bind', drop_cons h, List.find?_cons]
      by_cases hx : l[i] = 0
      · rw [cond_neg (by simp [hx]), w64_id (by omega) (by omega)]
        simp only [hx, ne_eq, not_true, decide_false]
        exact ih (i + 1) (by omega) (by omega)
      · rw [cond_pos hx]; simp [hx]
    · rw [cond_neg (by omega)]
      have : i = l.length := by omega
      subst this
      simp
theorem first_eq (N : Nat) (l : List Int) (hN : l.length < N) (hl : l.length ≤ 1000000) (k : Int → Option R) : arith_first N l k = k ((l.find? (fun x => decide (x ≠ 0))).getD 0) := by
  unfold arith_first
  have := first_loop N (fun z => k z) (k 0) l hl N 0 (by omega) (by omega)
  rw [Int.natCast_zero] at this
  rw [this, List.drop_zero]
  cases l.find? (fun x => decide (x ≠ 0)) <;> rfl
theorem first2 (N : Nat) (hN : 4 ≤ N) (a b : Int) (k : Int → Option R) : arith_first N [a, b] k = k (if a = 0 then b else a) := by
  rw [first_eq N _ (by simp; omega) (by simp)]
  by_cases ha : a = 0 <;> by_cases hb : b = 0 <;> simp [ha, hb]
theorem first3 (N : Nat) (hN : 4 ≤ N) (a b c : Int) (k : Int → Option R) : arith_first N [a, b, c] k = k (if a = 0 then (if b = 0 then c else b) else a) := by
  rw [first_eq N _ (by simp; omega) (by simp)]
  by_cases ha : a = 0 <;> by_cases hb : b = 0 <;> by_cases hc : c = 0 <;> simp [ha, hb, hc]

/-! ### Powers, forms -/
/-- 2 to a power. -/
def p2 (n : Int) : Int := 2 ^ n.toNat
theorem p2_pos (n : Int) : 0 < p2 n := by unfold p2; exact Int.pow_pos (by omega)
theorem p2_nat (n : Nat) : p2 (n : Int) = ((2 ^ n : Nat) : Int) := by unfold p2; simp
theorem p2_le {a b : Int} (h : a ≤ b) : p2 a ≤ p2 b := by
  unfold p2
  have : (2 : Nat) ^ a.toNat ≤ 2 ^ b.toNat := Nat.pow_le_pow_right (by omega) (by omega)
  exact_mod_cast this
theorem p2_16 {n : Int} (h : n ≤ 16) : p2 n ≤ 65536 := p2_le h
theorem p2_15 {n : Int} (h : n ≤ 15) : p2 n ≤ 32768 := p2_le h
theorem p2_add {a b : Int} (ha : 0 ≤ a) (hb : 0 ≤ b) : p2 (a + b) = p2 a * p2 b := by
  unfold p2
  rw [show (a + b).toNat = a.toNat + b.toNat by omega, Int.pow_add]
theorem p2_half {w : Int} (h : 1 ≤ w) : p2 w = 2 * p2 (w - 1) := by
  have := p2_add (a := w - 1) (b := 1) (by omega) (by omega)
  rw [show w - 1 + 1 = w by omega] at this
  rw [this, Int.mul_comm]; rfl
theorem shl_p2 {n : Int} (h0 : 0 ≤ n) (h : n ≤ 40) : shl' .i64 1 n = p2 n := by
  have h1 : p2 n ≤ p2 40 := p2_le h
  have h2 : p2 40 = 1099511627776 := by decide
  have h3 := p2_pos n
  unfold shl'
  have e : min n.toNat (IntKind.bits .i64) = n.toNat := by
    have : IntKind.bits .i64 = 64 := rfl
    omega
  rw [e, Int.one_mul]
  exact w64_id (x := p2 n) (by omega) (by omega)
theorem power_eq (N : Nat) {n : Int} (h0 : 0 ≤ n) (h : n ≤ 40) (k : Int → Option R) : ratchetbase_Power N n k = k (p2 n) := by
  unfold ratchetbase_Power; rw [cond_neg (by omega), shl_p2 h0 h]
structure VF (w p r b : Int) : Prop where
  w2 : 2 ≤ w
  w16 : w ≤ 16
  p0 : 0 ≤ p
  pw : p ≤ w - 1
  r0 : 0 ≤ r
  r2 : r ≤ 2
  b0 : 0 ≤ b
  b1 : b ≤ 1
def ferr (w p r b : Int) : Int := if 2 ≤ w ∧ w ≤ 16 then (if 0 ≤ p ∧ p ≤ w - 1 then (if (0 ≤ r ∧ r ≤ 2) ∧ (0 ≤ b ∧ b ≤ 1) then 0 else 15) else 2) else 25
theorem ferr_ok {w p r b : Int} (h : ferr w p r b = 0) : VF w p r b := by
  unfold ferr at h
  split at h
  · split at h
    · split at h
      · rename_i c d e; exact ⟨c.1, c.2, d.1, d.2, e.1.1, e.1.2, e.2.1, e.2.2⟩
      · cases h
    · cases h
  · cases h
theorem checkForm_eq (N : Nat) (hN : 4 ≤ N) (w p r b : Int) (k : Int → Option R) : arith_CheckForm N w p r b k = k (ferr w p r b) := by
  unfold arith_CheckForm ferr
  simp only [within_eq, unless_eq, first3 N hN]
  by_cases c : 2 ≤ w ∧ w ≤ 16
  · rw [w64_id (x := w - 1) (by omega) (by omega)]
    by_cases d : 0 ≤ p ∧ p ≤ w - 1 <;> by_cases e : 0 ≤ r ∧ r ≤ 2 <;> by_cases f : 0 ≤ b ∧ b ≤ 1 <;> simp [c, d, e, f]
  · generalize decide (0 ≤ p ∧ p ≤ w64 (w - 1)) = z
    by_cases e : 0 ≤ r ∧ r ≤ 2 <;> simp [c, e]
theorem FormErr_eq (N : Nat) (w p r b : Int) (k : Int → Option R) : ratchetref30_FormErr N w p r b k = k (ferr w p r b) := by
  unfold ratchetref30_FormErr ferr
  simp only [Within_eq]
  by_cases c : 2 ≤ w ∧ w ≤ 16
  · rw [w64_id (x := w - 1) (by omega) (by omega)]
    by_cases d : 0 ≤ p ∧ p ≤ w - 1 <;> by_cases e : 0 ≤ r ∧ r ≤ 2 <;> by_cases f : 0 ≤ b ∧ b ≤ 1 <;> simp [c, d, e, f]
  · simp [c]
theorem size_eq (N : Nat) {w : Int} (p r b : Int) (h0 : 0 ≤ w) (h : w ≤ 16) (k : Int → Option R) : arith_form_size N w p r b k = k (p2 w) := by
  unfold arith_form_size; rw [cond_neg (by omega), shl_p2 h0 (by omega)]
theorem one_eq (N : Nat) (w : Int) {p : Int} (r b : Int) (h0 : 0 ≤ p) (h : p ≤ 16) (k : Int → Option R) : arith_form_one N w p r b k = k (p2 p) := by
  unfold arith_form_one; rw [cond_neg (by omega), shl_p2 h0 (by omega)]
/-- Whether a number is a value. -/
def vok (w n : Int) : Bool := decide (0 ≤ n ∧ n ≤ p2 w - 1)
theorem Fits_eq (N : Nat) (n : Int) {w : Int} (h0 : 0 ≤ w) (h : w ≤ 16) (k : Bool → Option R) : ratchetbase_Fits N n w k = k (vok w n) := by
  have := p2_pos w; have := p2_16 h
  unfold ratchetbase_Fits vok; rw [power_eq N h0 (by omega), Within_eq, w64_id (by omega) (by omega)]
/-- The number of a value, without the point. -/
def sg (w n : Int) : Int := if p2 (w - 1) ≤ n then n - p2 w else n
theorem sg_range {w n : Int} (hw : 1 ≤ w) (h : vok w n = true) : - p2 (w - 1) ≤ sg w n ∧ sg w n ≤ p2 (w - 1) - 1 := by
  have := of_decide_eq_true h
  have h1 := p2_half hw
  unfold sg; split <;> omega
theorem signed_eq (N : Nat) {w : Int} (p r b : Int) (n : Int) (h0 : 1 ≤ w) (h : w ≤ 16) (hn : 0 ≤ n ∧ n ≤ 65536) (k : Int → Option R) : arith_form_signed N w p r b n k = k (sg w n) := by
  have h1 := p2_half h0
  have h2 := p2_16 h
  have h3 := p2_pos (w - 1)
  unfold arith_form_signed sg
  rw [size_eq N p r b (by omega) h]
  have e : w64 (Int.tdiv (p2 w) 2) = p2 (w - 1) := by
    rw [Int.tdiv_eq_ediv_of_nonneg (by omega), w64_id (by omega) (by omega)]; omega
  rw [e]
  by_cases c : p2 (w - 1) ≤ n
  · rw [cond_pos c, size_eq N p r b (by omega) h, if_pos c, w64_id (by omega) (by omega)]
  · rw [cond_neg c, if_neg c]
theorem Signed_eq (N : Nat) {w : Int} (n : Int) (h0 : 1 ≤ w) (h : w ≤ 16) (hn : 0 ≤ n ∧ n ≤ 65536) (k : Int → Option R) : ratchetbase_Signed N n w k = k (sg w n) := by
  have h1 := p2_half h0
  have h2 := p2_16 h
  have h3 := p2_pos (w - 1)
  unfold ratchetbase_Signed sg
  rw [w64_id (x := w - 1) (by omega) (by omega), power_eq N (by omega) (by omega)]
  by_cases c : p2 (w - 1) ≤ n
  · rw [cond_pos c, power_eq N (by omega) (by omega), if_pos c, w64_id (by omega) (by omega)]
  · rw [cond_neg c, if_neg c]
theorem Of_eq (N : Nat) {w : Int} (p r b : Int) (n : Int) (h0 : 1 ≤ w) (h : w ≤ 16) (hn : 0 ≤ n ∧ n ≤ 65536) (k : Int → Option R) : ratchetref30_Of N n w p r b k = k (sg w n) := by
  unfold ratchetref30_Of; rw [Signed_eq N n h0 h hn]

/-! ### Rounding -/
theorem floor_eq {n d : Int} (hd : 0 < d) : (if Int.tmod n d < 0 then Int.tdiv n d - 1 else Int.tdiv n d) = n / d := by
  have h1 := Int.mul_tdiv_add_tmod n d
  have h2 := Int.mul_ediv_add_emod n d
  have h3 := Int.emod_nonneg n (show d ≠ 0 by omega)
  have h4 := Int.emod_lt_of_pos n hd
  by_cases hn : 0 ≤ n
  · have e := Int.tdiv_eq_ediv_of_nonneg (b := d) hn
    have e2 := Int.tmod_eq_emod_of_nonneg (b := d) hn
    rw [if_neg (by omega), e]
  · have h5 : -d < Int.tmod n d := Int.lt_tmod_of_pos n hd
    have h6 : Int.tmod n d ≤ 0 := by
      have := Int.tmod_nonneg d (show 0 ≤ -n by omega)
      rw [Int.neg_tmod] at this; omega
    split
    · rename_i hlt
      have : d * (Int.tdiv n d - 1) + (Int.tmod n d + d) = n := by rw [Int.mul_sub, Int.mul_one]; omega
      exact ((Int.ediv_emod_unique (r := Int.tmod n d + d) hd).2 ⟨by omega, by omega, by omega⟩).1.symm
    · have h7 : Int.tmod n d = 0 := by omega
      exact ((Int.ediv_emod_unique (r := 0) hd).2 ⟨by omega, by omega, by omega⟩).1.symm
theorem mod_eq {n d : Int} (hd : 0 < d) : (if Int.tmod n d < 0 then Int.tmod n d + d else Int.tmod n d) = n % d := by
  have h1 := Int.mul_tdiv_add_tmod n d
  have h2 := floor_eq (n := n) hd
  have h3 := Int.mul_ediv_add_emod n d
  rw [← h2] at h3
  split
  · rename_i hlt
    rw [if_pos hlt, Int.mul_sub, Int.mul_one] at h3; omega
  · rename_i hge
    rw [if_neg hge] at h3; omega
/-- A quotient, rounded. -/
def rnd (r n d : Int) : Int := if (r = 1 ∧ (d < 2 * (n % d) ∨ 2 * (n % d) = d ∧ (n / d) % 2 ≠ 0)) ∨ (r = 2 ∧ n < 0 ∧ 0 < n % d) then n / d + 1 else n / d
theorem rnd_one (r n : Int) : rnd r n 1 = n := by
  unfold rnd; rw [Int.emod_one, Int.ediv_one, if_neg (by omega)]
theorem rnd_scale (r n d c : Int) (hc : 0 < c) : rnd r (n * c) (d * c) = rnd r n d := by
  unfold rnd
  rw [Int.mul_comm n c, Int.mul_comm d c, Int.mul_emod_mul_of_pos _ _ hc, Int.mul_ediv_mul_of_pos _ _ hc]
  have e1 : (c * d < 2 * (c * (n % d))) ↔ d < 2 * (n % d) := by
    rw [show 2 * (c * (n % d)) = c * (2 * (n % d)) by rw [Int.mul_left_comm], Int.mul_lt_mul_left hc]
  have e2 : (2 * (c * (n % d)) = c * d) ↔ 2 * (n % d) = d := by
    rw [show 2 * (c * (n % d)) = c * (2 * (n % d)) by rw [Int.mul_left_comm]]
    exact ⟨fun h => Int.eq_of_mul_eq_mul_left (by omega) h, fun h => by rw [h]⟩
  have e3 : (c * n < 0) ↔ n < 0 := by
    have := Int.mul_lt_mul_left (b := n) (c := 0) hc
    rw [Int.mul_zero] at this; exact this
  have e4 : (0 < c * (n % d)) ↔ 0 < n % d := by
    have := Int.mul_lt_mul_left (b := 0) (c := n % d) hc
    rw [Int.mul_zero] at this; exact this
  simp only [e1, e2, e3, e4]
theorem div_bounds {n d : Int} (hd : 0 < d) : n - d < d * (n / d) ∧ d * (n / d) ≤ n := by
  have h2 := Int.mul_ediv_add_emod n d
  have h3 := Int.emod_nonneg n (show d ≠ 0 by omega)
  have h4 := Int.emod_lt_of_pos n hd
  omega
theorem div_small {n d B : Int} (hd : 0 < d) (h1 : -B ≤ n) (h2 : n ≤ B) (hB : 0 ≤ B) : -B ≤ n / d ∧ n / d ≤ B := by
  constructor
  · rw [Int.le_ediv_iff_mul_le hd]
    have : -B * d ≤ -B * 1 := Int.mul_le_mul_of_nonpos_left (by omega) (by omega)
    omega
  · have h3 := Int.ediv_lt_of_lt_mul (a := n) (b := B + 1) hd (by
      have : (B + 1) * 1 ≤ (B + 1) * d := Int.mul_le_mul_of_nonneg_left (by omega) (by omega)
      omega)
    omega
theorem tdiv_small {n d B : Int} (hd : 0 < d) (h1 : -B ≤ n) (h2 : n ≤ B) (hB : 0 ≤ B) : -B ≤ Int.tdiv n d ∧ Int.tdiv n d ≤ B + 1 := by
  have := floor_eq (n := n) hd
  have h3 := div_small hd h1 h2 hB
  split at this <;> omega
theorem rnd_small {r n d B : Int} (hd : 0 < d) (h1 : -B ≤ n) (h2 : n ≤ B) (hB : 0 ≤ B) : -B ≤ rnd r n d ∧ rnd r n d ≤ B + 1 := by
  have := div_small hd h1 h2 hB
  unfold rnd; split <;> omega
theorem tmod2 (x : Int) : (Int.tmod x 2 ≠ 0) ↔ (x % 2 ≠ 0) := by
  have := mod_eq (n := x) (d := 2) (by omega)
  have h1 : -2 < Int.tmod x 2 := Int.lt_tmod_of_pos x (by omega)
  split at this <;> omega
theorem rounded_j (N : Nat) (w p r b n d : Int) (hr : 0 ≤ r ∧ r ≤ 2) (hd : 0 < d) (hd2 : d ≤ 4294967296) (h1 : -1125899906842624 ≤ n) (h2 : n ≤ 1125899906842624) (k : Int → Option R) :
    arith_form_rounded_j0 N k n d (n / d) w p r b = k (rnd r n d) := by
  have hb := div_bounds (n := n) hd
  have hs := div_small hd h1 h2 (by omega)
  have h3 := Int.emod_nonneg n (show d ≠ 0 by omega)
  have h4 := Int.emod_lt_of_pos n hd
  have h5 := Int.mul_ediv_add_emod n d
  have e1 : w64 (n / d * d) = n / d * d := w64_id (by rw [Int.mul_comm]; omega) (by rw [Int.mul_comm]; omega)
  have e2 : w64 (n - n / d * d) = n % d := by
    rw [w64_id (by rw [Int.mul_comm]; omega) (by rw [Int.mul_comm]; omega), Int.mul_comm]; omega
  have e3 : w64 (2 * (n % d)) = 2 * (n % d) := w64_id (by omega) (by omega)
  have e4 : w64 (n / d + 1) = n / d + 1 := w64_id (by omega) (by omega)
  unfold arith_form_rounded_j0 rnd
  simp only [e1, e2, e3, e4]
  have t2 := tmod2 (n / d)
  by_cases c1 : r = 1
  · by_cases c2 : d < 2 * (n % d)
    · rw [cond_pos c1, cond_pos c2, if_pos (.inl ⟨c1, .inl c2⟩)]
    · rw [cond_pos c1, cond_neg c2]
      by_cases c3 : 2 * (n % d) = d
      · rw [cond_pos c3]
        by_cases c4 : Int.tmod (n / d) 2 ≠ 0
        · rw [cond_pos c4, if_pos (.inl ⟨c1, .inr ⟨c3, t2.1 c4⟩⟩)]
        · rw [cond_neg c4, cond_neg (by omega), if_neg]
          rintro (⟨_, h | ⟨_, h⟩⟩ | ⟨h, _⟩)
          · exact c2 h
          · exact c4 (t2.2 h)
          · omega
      · rw [cond_neg c3, cond_neg (by omega), if_neg]
        rintro (⟨_, h | ⟨h, _⟩⟩ | ⟨h, _⟩)
        · exact c2 h
        · exact c3 h
        · omega
  · rw [cond_neg c1]
    by_cases c5 : r = 2
    · rw [cond_pos c5]
      by_cases c6 : n < 0
      · rw [cond_pos c6]
        by_cases c7 : 0 < n % d
        · rw [cond_pos c7, if_pos (.inr ⟨c5, c6, c7⟩)]
        · rw [cond_neg c7, if_neg]
          rintro (⟨h, _⟩ | ⟨_, _, h⟩)
          · exact c1 h
          · exact c7 h
      · rw [cond_neg c6, if_neg]
        rintro (⟨h, _⟩ | ⟨_, h, _⟩)
        · exact c1 h
        · exact c6 h
    · rw [cond_neg c5, if_neg]
      rintro (⟨h, _⟩ | ⟨h, _, _⟩)
      · exact c1 h
      · exact c5 h
theorem rounded_eq (N : Nat) (w p r b n d : Int) (hr : 0 ≤ r ∧ r ≤ 2) (hd : 0 < d) (hd2 : d ≤ 4294967296) (h1 : -1125899906842624 ≤ n) (h2 : n ≤ 1125899906842624) (k : Int → Option R) :
    arith_form_rounded N w p r b n d k = k (rnd r n d) := by
  have hf := floor_eq (n := n) hd
  have hs := tdiv_small hd h1 h2 (by omega)
  unfold arith_form_rounded
  rw [cond_neg (by omega), cond_neg (by omega), w64_id (x := Int.tdiv n d) (by omega) (by omega), w64_id (x := Int.tdiv n d - 1) (by omega) (by omega)]
  by_cases c : Int.tmod n d < 0
  · rw [if_pos c] at hf
    rw [cond_pos c, hf, rounded_j N w p r b n d hr hd hd2 h1 h2]
  · rw [if_neg c] at hf
    rw [cond_neg c, hf, rounded_j N w p r b n d hr hd hd2 h1 h2]
theorem Floor_eq (N : Nat) (n d : Int) (hd : 0 < d) (h1 : -1125899906842624 ≤ n) (h2 : n ≤ 1125899906842624) (k : Int → Option R) : ratchetbase_Floor N n d k = k (n / d) := by
  have hf := floor_eq (n := n) hd
  have hs := tdiv_small hd h1 h2 (by omega)
  unfold ratchetbase_Floor
  rw [cond_neg (by omega), cond_neg (by omega), w64_id (x := Int.tdiv n d) (by omega) (by omega), w64_id (x := Int.tdiv n d - 1) (by omega) (by omega)]
  by_cases c : Int.tmod n d < 0
  · rw [if_pos c] at hf; rw [cond_pos c, hf]
  · rw [if_neg c] at hf; rw [cond_neg c, hf]
theorem Mod_eq (N : Nat) (n d : Int) (hd : 0 < d) (hd2 : d ≤ 4294967296) (k : Int → Option R) : ratchetbase_Mod N n d k = k (n % d) := by
  have hf := mod_eq (n := n) hd
  have h3 := Int.emod_nonneg n (show d ≠ 0 by omega)
  have h4 := Int.emod_lt_of_pos n hd
  unfold ratchetbase_Mod
  rw [cond_neg (by omega)]
  by_cases c : Int.tmod n d < 0
  · rw [if_pos c] at hf; rw [cond_pos c, w64_id (by omega) (by omega), hf]
  · rw [if_neg c] at hf; rw [cond_neg c, hf]
theorem Rj_eq (N : Nat) (a : Int) (t : Bool) (h1 : -1125899906842624 ≤ a) (h2 : a ≤ 1125899906842625) (k : Int → Option R) : ratchetref30_Rounded_j0 N k a t = k (if t = true then a + 1 else a) := by
  unfold ratchetref30_Rounded_j0 ratchetbase_Bit
  cases t
  · rw [cond_false]; dsimp only; rw [w64_id (by omega) (by omega)]; simp
  · rw [cond_true]; dsimp only; rw [w64_id (by omega) (by omega)]; simp
theorem Rounded_eq (N : Nat) (n d r : Int) (hr : 0 ≤ r ∧ r ≤ 2) (hd : 0 < d) (hd2 : d ≤ 4294967296) (h1 : -1125899906842624 ≤ n) (h2 : n ≤ 1125899906842624) (k : Int → Option R) : ratchetref30_Rounded N n d r k = k (rnd r n d) := by
  have hb := div_bounds (n := n) hd
  have hs := div_small hd h1 h2 (by omega)
  have h3 := Int.emod_nonneg n (show d ≠ 0 by omega)
  have h4 := Int.emod_lt_of_pos n hd
  have h5 := Int.mul_ediv_add_emod n d
  have e1 : w64 (n / d * d) = n / d * d := w64_id (by rw [Int.mul_comm]; omega) (by rw [Int.mul_comm]; omega)
  have e2 : w64 (n - n / d * d) = n % d := by
    rw [w64_id (by rw [Int.mul_comm]; omega) (by rw [Int.mul_comm]; omega), Int.mul_comm]; omega
  have e3 : w64 (2 * (n % d)) = 2 * (n % d) := w64_id (by omega) (by omega)
  unfold ratchetref30_Rounded rnd
  rw [Floor_eq N n d hd h1 h2]
  simp only [e1, e2, e3, Mod_eq N (n / d) 2 (by omega) (by omega), Rj_eq N (n / d) _ hs.1 (show n / d ≤ 1125899906842625 by omega)]
  by_cases c1 : r = 1
  · have c5 : ¬ r = 2 := by omega
    by_cases c2 : d < 2 * (n % d)
    · simp [c1, c2]
    · by_cases c3 : 2 * (n % d) = d
      · by_cases c4 : n / d % 2 = 1
        · simp [c1, c3, c4]
        · have c4' : n / d % 2 = 0 := by omega
          simp [c1, c3, c4']
      · simp [c1, c2, c3]
  · by_cases c5 : r = 2
    · by_cases c6 : n < 0 <;> by_cases c7 : 0 < n % d <;> simp [c5, c6, c7]
    · simp [c1, c5]

/-! ### Fixed -/
def sat (w b n : Int) : Int := if b = 1 then max (- p2 (w - 1)) (min (p2 (w - 1) - 1) n) else n
/-- A quotient, fixed. -/
def fx (w r b n d : Int) : Int := sat w b (rnd r n d) % p2 w
theorem toNat_mod64 (n : Int) : (BitVec.ofInt 64 n).toNat = (n % 18446744073709551616).toNat := by
  rw [BitVec.toNat_ofInt]; rfl
theorem and_mask (n w : Int) (h0 : 0 ≤ w) (h : w ≤ 16) : andI .i64 n (p2 w - 1) = n % p2 w := by
  have h1 := p2_pos w
  have h2 := p2_16 h
  have hp : p2 w = ((2 ^ w.toNat : Nat) : Int) := by
    have := p2_nat w.toNat
    rwa [show ((w.toNat : Nat) : Int) = w by omega] at this
  unfold andI
  have hbits : IntKind.bits .i64 = 64 := rfl
  have e : (BitVec.ofInt 64 n &&& BitVec.ofInt 64 (p2 w - 1)).toNat = (n % p2 w).toNat := by
    rw [BitVec.toNat_and, toNat_mod64, toNat_mod64]
    have e1 : ((p2 w - 1) % 18446744073709551616).toNat = 2 ^ w.toNat - 1 := by
      rw [Int.emod_eq_of_lt (by omega) (by omega)]; omega
    rw [e1, Nat.and_two_pow_sub_one_eq_mod]
    have hq : (n % 18446744073709551616) % p2 w = n % p2 w := by
      refine Int.emod_emod_of_dvd n ?_
      rw [hp]
      have : (2 : Nat) ^ w.toNat ∣ 2 ^ 64 := Nat.pow_dvd_pow 2 (by omega)
      have e64 : (18446744073709551616 : Int) = ((2 ^ 64 : Nat) : Int) := by decide +kernel
      rw [e64]
      exact Int.natCast_dvd_natCast.2 this
    rw [← hq]
    have h5 : 0 ≤ n % 18446744073709551616 := Int.emod_nonneg n (by omega)
    rw [hp]
    generalize n % 18446744073709551616 = x at h5
    obtain ⟨y, rfl⟩ : ∃ y : Nat, x = y := ⟨x.toNat, by omega⟩
    rfl
  show IntKind.wrap .i64 (((BitVec.ofInt (IntKind.bits .i64) n &&& BitVec.ofInt (IntKind.bits .i64) (p2 w - 1)).toNat : Nat) : Int) = _
  rw [show (BitVec.ofInt (IntKind.bits .i64) n &&& BitVec.ofInt (IntKind.bits .i64) (p2 w - 1)).toNat = _ from e]
  have h6 := Int.emod_nonneg n (show p2 w ≠ 0 by omega)
  have h7 := Int.emod_lt_of_pos n h1
  rw [Int.toNat_of_nonneg h6]
  exact w64_id (x := n % p2 w) (by omega) (by omega)
theorem sat_small {w b n : Int} (hw : 1 ≤ w) (h16 : w ≤ 16) (h1 : -1125899906842624 ≤ n) (h2 : n ≤ 1125899906842625) : -1125899906842624 ≤ sat w b n ∧ sat w b n ≤ 1125899906842625 := by
  have := p2_15 (n := w - 1) (by omega)
  have := p2_pos (w - 1)
  unfold sat; split <;> omega
theorem fixed_eq (N : Nat) {w p r b : Int} (hf : VF w p r b) (n d : Int) (hd : 0 < d) (hd2 : d ≤ 4294967296) (h1 : -1125899906842624 ≤ n) (h2 : n ≤ 1125899906842624) (k : Int → Option R) :
    arith_form_fixed N w p r b n d k = k (fx w r b n d) := by
  obtain ⟨w2, w16, p0, pw, r0, r2, b0, b1⟩ := hf
  have q1 := p2_half (w := w) (by omega)
  have q2 := p2_16 w16
  have q3 := p2_pos (w - 1)
  unfold arith_form_fixed
  rw [rounded_eq N w p r b n d ⟨r0, r2⟩ hd hd2 h1 h2]
  have e : w64 (Int.tdiv (p2 w) 2) = p2 (w - 1) := by
    rw [Int.tdiv_eq_ediv_of_nonneg (by omega), w64_id (by omega) (by omega)]; omega
  simp only [size_eq N p r b (show 0 ≤ w by omega) w16, e, w64_id (x := p2 w - 1) (by omega) (by omega), w64_id (x := -p2 (w - 1)) (by omega) (by omega), w64_id (x := p2 (w - 1) - 1) (by omega) (by omega), and_mask _ w (by omega) w16, Int.zero_sub]
  unfold fx sat
  by_cases c : b = 1
  · rw [cond_pos c, if_pos c]
  · rw [cond_neg c, if_neg c]
theorem RWithin_eq (N : Nat) {w p r b : Int} (hf : VF w p r b) (n : Int) (k : Int → Option R) : ratchetref30_Within N n w p r b k = k (sat w b n % p2 w) := by
  obtain ⟨w2, w16, p0, pw, r0, r2, b0, b1⟩ := hf
  have q1 := p2_half (w := w) (by omega)
  have q2 := p2_16 w16
  have q3 := p2_pos (w - 1)
  unfold ratchetref30_Within sat
  rw [w64_id (x := w - 1) (by omega) (by omega), power_eq N (by omega) (by omega)]
  simp only [power_eq N (show 0 ≤ w by omega) (show w ≤ 40 by omega), Mod_eq N _ (p2 w) (by omega) (by omega), w64_id (x := -p2 (w - 1)) (by omega) (by omega), w64_id (x := p2 (w - 1) - 1) (by omega) (by omega), Int.zero_sub]
  by_cases c : b = 1
  · rw [cond_pos c, if_pos c]
    congr 2; omega
  · rw [cond_neg c, if_neg c]
theorem Fix_eq (N : Nat) {w p r b : Int} (hf : VF w p r b) (n d : Int) (hd : 0 < d) (hd2 : d ≤ 4294967296) (h1 : -34359738368 ≤ n) (h2 : n ≤ 34359738368) (k : Int → Option R) :
    ratchetref30_Fix N n d w p r b k = k (fx w r b (n * p2 p) d) := by
  have hf' := hf
  obtain ⟨w2, w16, p0, pw, r0, r2, b0, b1⟩ := hf
  have q2 := p2_15 (n := p) (by omega)
  have q3 := p2_pos p
  have m1 : n * p2 p ≤ 34359738368 * 32768 := by
    by_cases hn : 0 ≤ n
    · exact Int.mul_le_mul h2 q2 (by omega) (by omega)
    · have : n * p2 p ≤ 0 := Int.mul_nonpos_of_nonpos_of_nonneg (by omega) (by omega)
      omega
  have m2 : -(34359738368 * 32768) ≤ n * p2 p := by
    by_cases hn : 0 ≤ n
    · have : 0 ≤ n * p2 p := Int.mul_nonneg hn (by omega)
      omega
    · have : (-n) * p2 p ≤ 34359738368 * 32768 := Int.mul_le_mul (by omega) q2 (by omega) (by omega)
      rw [Int.neg_mul] at this; omega
  unfold ratchetref30_Fix
  rw [power_eq N p0 (by omega), w64_id (by omega) (by omega), Rounded_eq N _ d r ⟨r0, r2⟩ hd hd2 (by omega) (by omega), RWithin_eq N hf']
  rfl

/-! ### Values of a form -/
theorem c1_eq (N : Nat) (x w p r b : Int) (h0 : 0 ≤ w) (h : w ≤ 16) (k : Bool → Int → Int → Int → Int → Option R) : arith_each_int__c1 N x w p r b k = k (!vok w x) w p r b := by
  have := p2_pos w; have := p2_16 h
  unfold arith_each_int__c1 arith_form_valuesErr_c1 vok
  rw [size_eq N p r b h0 h, w64_id (by omega) (by omega), within_eq]
theorem any_loop (N : Nat) (k0 : Int → Int → Int → Int → Int → Option R) (k1 : Int → Int → Int → Int → Option R) (g : Option R) (w p r b : Int) (h0 : 0 ≤ w) (h16 : w ≤ 16) (hk : ∀ i : Nat, k0 i w p r b = g) (l : List Int) (hl : l.length ≤ 1000000) : ∀ (n i : Nat), l.length < n + i → i ≤ l.length →
    slices_IndexFunc_Lint_int_l0 N k0 k1 n l l.length i w p r b = if (l.drop i).all (vok w) then k1 w p r b else g := by
  intro n
  induction n with
  | zero => intro i h1 h2; omega
  | succ n ih =>
    intro i h1 h2
    rw [slices_IndexFunc_Lint_int_l0]
    by_cases h : i < l.length
    · rw [cond_pos (by omega), at?_lt h, some_bind', c1_eq N _ w p r b h0 h16, drop_cons h, List.all_cons]
      cases e : vok w l[i]
      · rw [Bool.not_false, cond_true, hk]; simp
      · rw [Bool.not_true, cond_false, w64_succ (by omega), Bool.true_and]
        exact ih (i + 1) (by omega) (by omega)
    · rw [cond_neg (by omega)]
      have : i = l.length := by omega
      subst this
      simp
theorem valuesErr_eq (N : Nat) (w p r b : Int) (h0 : 0 ≤ w) (h16 : w ≤ 16) (l : List Int) (hl : l.length ≤ 1000000) (hN : l.length < N) (k : Int → Option R) :
    arith_form_valuesErr N w p r b l k = k (if l.all (vok w) then 0 else 2) := by
  unfold arith_form_valuesErr arith_each_int slices_ContainsFunc_Lint_int slices_IndexFunc_Lint_int
  have := any_loop N (fun z7 z8 z9 z10 z11 => arith_unless N (!decide (0 ≤ z7)) 2 fun y2 => k y2) (fun z12 z13 z14 z15 => arith_unless N (!decide (0 ≤ (-1 : Int))) 2 fun y2 => k y2) (k 2) w p r b h0 h16 (fun i => by rw [unless_eq]; simp) l hl N 0 (by omega) (by omega)
  rw [Int.natCast_zero] at this
  rw [this, List.drop_zero, unless_eq]
  cases l.all (vok w) <;> simp
theorem opened_eq (N : Nat) (hN : 10 ≤ N) (w p r b : Int) (l : List Int) (hl : l.length ≤ 5) (k : Int → Int → Int → Int → Int → Option R) :
    arith_opened N w p r b l k = k w p r b (if ferr w p r b = 0 then (if l.all (vok w) then 0 else 2) else ferr w p r b) := by
  unfold arith_opened
  rw [checkForm_eq N (by omega)]
  by_cases c : ferr w p r b = 0
  · have hf := ferr_ok c
    rw [cond_neg (by simp [c]), if_pos c, valuesErr_eq N w p r b (by have := hf.w2; omega) hf.w16 l (by omega) (by omega)]
  · rw [cond_pos c, if_neg c]

theorem vok_range {w n : Int} (h : w ≤ 16) (hv : vok w n = true) : 0 ≤ n ∧ n ≤ 65536 := by
  have := of_decide_eq_true hv
  have := p2_16 h
  omega
theorem sg_small {w n : Int} (hw : 1 ≤ w) (h : w ≤ 16) (hv : vok w n = true) : -32768 ≤ sg w n ∧ sg w n ≤ 32767 := by
  have := sg_range hw hv
  have := p2_15 (n := w - 1) (by omega)
  omega
theorem mul_small {a b A B : Int} (h1 : -A ≤ a) (h2 : a ≤ A) (h3 : -B ≤ b) (h4 : b ≤ B) (hA : 0 ≤ A) (hB : 0 ≤ B) : -(A * B) ≤ a * b ∧ a * b ≤ A * B := by
  rcases Int.le_total 0 a with ha | ha <;> rcases Int.le_total 0 b with hb | hb
  · have := Int.mul_le_mul h2 h4 hb hA
    have := Int.mul_nonneg ha hb
    have := Int.mul_nonneg hA hB
    omega
  · have e := Int.mul_le_mul h2 (show -b ≤ B by omega) (by omega) hA
    rw [Int.mul_neg] at e
    have f := Int.mul_nonneg ha (show 0 ≤ -b by omega)
    rw [Int.mul_neg] at f
    have := Int.mul_nonneg hA hB
    omega
  · have e := Int.mul_le_mul (show -a ≤ A by omega) h4 hb hA
    rw [Int.neg_mul] at e
    have f := Int.mul_nonneg (show 0 ≤ -a by omega) hb
    rw [Int.neg_mul] at f
    have := Int.mul_nonneg hA hB
    omega
  · have e := Int.mul_le_mul (show -a ≤ A by omega) (show -b ≤ B by omega) (by omega) hA
    rw [Int.neg_mul_neg] at e
    have f := Int.mul_nonneg (show 0 ≤ -a by omega) (show 0 ≤ -b by omega)
    rw [Int.neg_mul_neg] at f
    have := Int.mul_nonneg hA hB
    omega
theorem p2_sq {p : Int} (h : 0 ≤ p) : p2 (2 * p) = p2 p * p2 p := by
  rw [← p2_add h h]; congr 1; omega
/-- Fixed with twice the point: as with the point. -/
theorem Fix2_eq (N : Nat) {w p r b : Int} (hf : VF w p r b) (n : Int) (h1 : -34359738368 ≤ n) (h2 : n ≤ 34359738368) (k : Int → Option R) : ratchetref30_Fix N n (p2 (2 * p)) w p r b k = k (fx w r b n (p2 p)) := by
  have := hf.p0; have := hf.pw; have := hf.w16
  have q := p2_15 (n := p) (by omega)
  have q0 := p2_pos p
  have qq := p2_pos (2 * p)
  have q2 : p2 (2 * p) ≤ 4294967296 := p2_le (b := 32) (by omega)
  rw [Fix_eq N hf n _ qq q2 h1 h2]
  unfold fx
  rw [p2_sq hf.p0, rnd_scale r n (p2 p) (p2 p) q0]
theorem zz (a b c d : Int) : (false != (decide (a = b) && (decide (c = d) && true))) = decide (a = b ∧ c = d) := by
  by_cases h : a = b <;> by_cases h' : c = d <;> simp [h, h']

/-! ### Common divisors -/
theorem half_mod {x y : Nat} (h0 : 0 < y) (h : y ≤ x) : 2 * (x % y) < x := by
  have h1 := Nat.div_add_mod x y
  have h2 := Nat.mod_lt x h0
  have h3 : 1 ≤ x / y := (Nat.one_le_div_iff h0).2 h
  have h4 : y * 1 ≤ y * (x / y) := Nat.mul_le_mul_left _ h3
  omega
theorem gcd_step (x y : Nat) : Nat.gcd x y = Nat.gcd y (x % y) := by
  rw [Nat.gcd_comm, Nat.gcd_rec, Nat.gcd_comm]
theorem divisor_loop (N : Nat) (k0 : Int → Option R) : ∀ (m n : Nat) (a b : Int), b.natAbs < 2 ^ m → 2 * m + 1 ≤ n →
    ∃ z : Int, z.natAbs = Nat.gcd a.natAbs b.natAbs ∧ (b ≠ 0 → z.natAbs ≤ b.natAbs) ∧ arith_divisor_l0 N k0 n a b = k0 z := by
  intro m
  induction m with
  | zero =>
    intro n a b h1 h2
    obtain ⟨n, rfl⟩ : ∃ q, n = q + 1 := ⟨n - 1, by omega⟩
    have hb : b = 0 := by omega
    subst hb
    exact ⟨a, by simp, fun h => absurd rfl h, by rw [arith_divisor_l0, cond_neg (by simp)]⟩
  | succ m ih =>
    intro n a b h1 h2
    obtain ⟨n, rfl⟩ : ∃ q, n = q + 1 := ⟨n - 1, by omega⟩
    by_cases hb : b = 0
    · subst hb
      exact ⟨a, by simp, fun h => absurd rfl h, by rw [arith_divisor_l0, cond_neg (by simp)]⟩
    · rw [arith_divisor_l0, cond_pos hb, cond_neg hb]
      obtain ⟨n, rfl⟩ : ∃ q, n = q + 1 := ⟨n - 1, by omega⟩
      have e1 : (Int.tmod a b).natAbs = a.natAbs % b.natAbs := Int.natAbs_tmod a b
      by_cases hr : Int.tmod a b = 0
      · refine ⟨b, ?_, fun _ => Nat.le_refl _, by rw [arith_divisor_l0, cond_neg (by simp [hr])]⟩
        rw [gcd_step, ← e1, hr]; simp
      · rw [arith_divisor_l0, cond_pos hr, cond_neg hr]
        have e2 : (Int.tmod b (Int.tmod a b)).natAbs = b.natAbs % (Int.tmod a b).natAbs := Int.natAbs_tmod _ _
        have h3 : (Int.tmod a b).natAbs < b.natAbs := by rw [e1]; exact Nat.mod_lt _ (by omega)
        have h4 := half_mod (x := b.natAbs) (y := (Int.tmod a b).natAbs) (by omega) (by omega)
        rw [Nat.pow_succ] at h1
        obtain ⟨z, z1, z2, z3⟩ := ih n (Int.tmod a b) (Int.tmod b (Int.tmod a b)) (by omega) (by omega)
        refine ⟨z, ?_, fun _ => ?_, z3⟩
        · rw [z1, e2, ← gcd_step b.natAbs, e1, ← gcd_step]
        · rw [z1]
          refine Nat.le_trans (Nat.le_of_dvd (by omega) (Nat.gcd_dvd_left _ _)) (by omega)
def gcI (a b : Int) : Int := ((Nat.gcd a.natAbs b.natAbs : Nat) : Int)
theorem gcI_pos {a b : Int} (hb : 0 < b) : 0 < gcI a b := by
  unfold gcI
  have := Nat.gcd_pos_of_pos_right a.natAbs (n := b.natAbs) (by omega)
  omega
theorem gcI_le {a b : Int} (hb : 0 < b) : gcI a b ≤ b := by
  unfold gcI
  have := Nat.le_of_dvd (show 0 < b.natAbs by omega) (Nat.gcd_dvd_right a.natAbs b.natAbs)
  omega
theorem divisor_eq (N : Nat) (hN : 200 ≤ N) (a b : Int) (hb : 0 < b) (hb2 : b ≤ 9223372036854775807) (k : Int → Option R) : arith_divisor N a b k = k (gcI a b) := by
  unfold arith_divisor gcI
  obtain ⟨z, z1, z2, z3⟩ := divisor_loop N (fun z1 => k (max z1 (w64 (0 - z1)))) 63 N a b (by omega) (by omega)
  have := z2 (by omega)
  rw [z3, w64_id (by omega) (by omega), ← z1]
  congr 1; omega
theorem Gcd_loop (N : Nat) (k0 : Int → Option R) : ∀ (m n : Nat) (a b : Int), b.natAbs < 2 ^ m → 2 * m + 1 ≤ n →
    ∃ z : Int, z.natAbs = Nat.gcd a.natAbs b.natAbs ∧ (b ≠ 0 → z.natAbs ≤ b.natAbs) ∧ ratchetbase_Gcd_l0 N k0 n a b = k0 z := by
  intro m
  induction m with
  | zero =>
    intro n a b h1 h2
    obtain ⟨n, rfl⟩ : ∃ q, n = q + 1 := ⟨n - 1, by omega⟩
    have hb : b = 0 := by omega
    subst hb
    exact ⟨a, by simp, fun h => absurd rfl h, by rw [ratchetbase_Gcd_l0, cond_neg (by simp)]⟩
  | succ m ih =>
    intro n a b h1 h2
    obtain ⟨n, rfl⟩ : ∃ q, n = q + 1 := ⟨n - 1, by omega⟩
    by_cases hb : b = 0
    · subst hb
      exact ⟨a, by simp, fun h => absurd rfl h, by rw [ratchetbase_Gcd_l0, cond_neg (by simp)]⟩
    · rw [ratchetbase_Gcd_l0, cond_pos hb, cond_neg hb]
      obtain ⟨n, rfl⟩ : ∃ q, n = q + 1 := ⟨n - 1, by omega⟩
      have e1 : (Int.tmod a b).natAbs = a.natAbs % b.natAbs := Int.natAbs_tmod a b
      by_cases hr : Int.tmod a b = 0
      · refine ⟨b, ?_, fun _ => Nat.le_refl _, by rw [ratchetbase_Gcd_l0, cond_neg (by simp [hr])]⟩
        rw [gcd_step, ← e1, hr]; simp
      · rw [ratchetbase_Gcd_l0, cond_pos hr, cond_neg hr]
        have e2 : (Int.tmod b (Int.tmod a b)).natAbs = b.natAbs % (Int.tmod a b).natAbs := Int.natAbs_tmod _ _
        have h3 : (Int.tmod a b).natAbs < b.natAbs := by rw [e1]; exact Nat.mod_lt _ (by omega)
        have h4 := half_mod (x := b.natAbs) (y := (Int.tmod a b).natAbs) (by omega) (by omega)
        rw [Nat.pow_succ] at h1
        obtain ⟨z, z1, z2, z3⟩ := ih n (Int.tmod a b) (Int.tmod b (Int.tmod a b)) (by omega) (by omega)
        refine ⟨z, ?_, fun _ => ?_, z3⟩
        · rw [z1, e2, ← gcd_step b.natAbs, e1, ← gcd_step]
        · rw [z1]
          refine Nat.le_trans (Nat.le_of_dvd (by omega) (Nat.gcd_dvd_left _ _)) (by omega)
theorem Gcd_eq (N : Nat) (hN : 200 ≤ N) (a b : Int) (hb : 0 < b) (hb2 : b ≤ 9223372036854775807) (k : Int → Option R) : ratchetbase_Gcd N a b k = k (gcI a b) := by
  unfold ratchetbase_Gcd ratchetbase_Size gcI
  obtain ⟨z, z1, z2, z3⟩ := Gcd_loop N (fun z1 => k (max z1 (w64 (0 - z1)))) 63 N a b (by omega) (by omega)
  have := z2 (by omega)
  rw [z3, w64_id (by omega) (by omega), ← z1]
  congr 1; omega

/-! ### Fractions -/
def frerr (n d : Int) : Int := if 0 < d ∧ gcI n d = 1 then (if (-1000000000 ≤ n ∧ n ≤ 1000000000) ∧ d ≤ 1000000000 then 0 else 2) else 3
theorem fractionErr_eq (N : Nat) (hN : 200 ≤ N) (n d : Int) (hd : d ≤ 9223372036854775807) (k : Int → Option R) : arith_fractionErr N n d k = k (frerr n d) := by
  unfold arith_fractionErr frerr
  by_cases c : 0 < d
  · rw [cond_pos c, divisor_eq N hN n d c hd]
    simp only [unless_eq, within_eq, first2 N (show 4 ≤ N by omega)]
    by_cases e : gcI n d = 1 <;> by_cases f : -1000000000 ≤ n ∧ n ≤ 1000000000 <;> by_cases g : d ≤ 1000000000 <;> simp [c, e, f, g]
  · rw [cond_neg c]
    simp only [unless_eq, within_eq, first2 N (show 4 ≤ N by omega)]
    by_cases f : -1000000000 ≤ n ∧ n ≤ 1000000000 <;> by_cases g : d ≤ 1000000000 <;> simp [c, f, g]
theorem FracErr_eq (N : Nat) (hN : 200 ≤ N) (n d : Int) (hd : d ≤ 9223372036854775807) (k : Int → Option R) : ratchetref30_FracErr N n d k = k (frerr n d) := by
  unfold ratchetref30_FracErr ratchetbase_IsLowest frerr
  by_cases c : 0 < d
  · rw [cond_pos c, Gcd_eq N hN n d c hd]
    simp only [Within_eq]
    by_cases e : gcI n d = 1 <;> by_cases f : -1000000000 ≤ n ∧ n ≤ 1000000000 <;> by_cases g : d ≤ 1000000000
    all_goals (first | (have g' : ¬ (1000000000 < d) := by omega) | (have g' : 1000000000 < d := by omega))
    all_goals simp [c, e, f, g, g']
  · rw [cond_neg c]; simp [c]
/-- A quotient in lowest terms. -/
def lowN (n d : Int) : Int := Int.tdiv n (gcI n d)
def lowD (n d : Int) : Int := Int.tdiv d (gcI n d)
theorem fraction_eq (N : Nat) (hN : 200 ≤ N) (n d : Int) (hd : 0 < d) (hd2 : d ≤ 4294967296) (h1 : -4294967296 ≤ n) (h2 : n ≤ 4294967296) (k : Int → Int → Option R) : arith_fraction N n d k = k (lowN n d) (lowD n d) := by
  have hg := gcI_pos (a := n) hd
  have hs := tdiv_small (n := n) hg h1 h2 (by omega)
  have hs2 := tdiv_small (n := d) hg (show -4294967296 ≤ d by omega) hd2 (by omega)
  unfold arith_fraction lowN lowD
  rw [divisor_eq N hN n d hd (by omega), cond_neg (by omega), cond_neg (by omega), w64_id (by omega) (by omega), w64_id (by omega) (by omega)]
theorem Lowest_eq (N : Nat) (hN : 200 ≤ N) (n d : Int) (hd : 0 < d) (hd2 : d ≤ 4294967296) (h1 : -4294967296 ≤ n) (h2 : n ≤ 4294967296) (k : Int → Int → Option R) : ratchetbase_Lowest N n d k = k (lowN n d) (lowD n d) := by
  have hg := gcI_pos (a := n) hd
  have hs := tdiv_small (n := n) hg h1 h2 (by omega)
  have hs2 := tdiv_small (n := d) hg (show -4294967296 ≤ d by omega) hd2 (by omega)
  unfold ratchetbase_Lowest lowN lowD
  rw [Gcd_eq N hN n d hd (by omega), cond_neg (by omega), cond_neg (by omega), cond_neg (by omega), w64_id (by omega) (by omega), w64_id (by omega) (by omega)]
theorem low_mul {n d : Int} (hd : 0 < d) : lowN n d * gcI n d = n ∧ lowD n d * gcI n d = d := by
  unfold lowN lowD gcI
  constructor
  · exact Int.tdiv_mul_cancel (Int.ofNat_dvd_left.2 (Nat.gcd_dvd_left _ _))
  · exact Int.tdiv_mul_cancel (Int.ofNat_dvd_left.2 (Nat.gcd_dvd_right _ _))
theorem lowD_pos {n d : Int} (hd : 0 < d) : 0 < lowD n d := by
  have h := (low_mul (n := n) hd).2
  have hg := gcI_pos (a := n) hd
  rcases Int.lt_trichotomy (lowD n d) 0 with h1 | h1 | h1
  · have := Int.mul_neg_of_neg_of_pos h1 hg; omega
  · rw [h1] at h; omega
  · exact h1
theorem low_gcd {n d : Int} (hd : 0 < d) : gcI (lowN n d) (lowD n d) = 1 := by
  have h := low_mul (n := n) hd
  have hg := gcI_pos (a := n) hd
  have e1 : n.natAbs = (lowN n d).natAbs * Nat.gcd n.natAbs d.natAbs := by
    have := congrArg Int.natAbs h.1
    rw [Int.natAbs_mul] at this
    simpa [gcI] using this.symm
  have e2 : d.natAbs = (lowD n d).natAbs * Nat.gcd n.natAbs d.natAbs := by
    have := congrArg Int.natAbs h.2
    rw [Int.natAbs_mul] at this
    simpa [gcI] using this.symm
  have hgn : 0 < Nat.gcd n.natAbs d.natAbs := by unfold gcI at hg; omega
  have e3 : Nat.gcd n.natAbs d.natAbs = Nat.gcd (lowN n d).natAbs (lowD n d).natAbs * Nat.gcd n.natAbs d.natAbs := by
    rw [← Nat.gcd_mul_right, ← e1, ← e2]
  have e4 : Nat.gcd (lowN n d).natAbs (lowD n d).natAbs = 1 := by
    have : 1 * Nat.gcd n.natAbs d.natAbs = Nat.gcd (lowN n d).natAbs (lowD n d).natAbs * Nat.gcd n.natAbs d.natAbs := by rw [Nat.one_mul]; exact e3
    exact (Nat.eq_of_mul_eq_mul_right hgn this).symm
  unfold gcI; rw [e4]; rfl
theorem lowN_small {n d B : Int} (hd : 0 < d) (h1 : -B ≤ n) (h2 : n ≤ B) (hB : 0 ≤ B) : -B ≤ lowN n d ∧ lowN n d ≤ B + 1 := tdiv_small (gcI_pos hd) h1 h2 hB
theorem fixedOf_eq (N : Nat) (hN : 200 ≤ N) (n d w p r b : Int) (hd : d ≤ 9223372036854775807) (k : Int → Int → Option R) :
    arith_FixedOf N n d w p r b k = if frerr n d = 0 then (if ferr w p r b = 0 then k (fx w r b (n * p2 p) d) 0 else k 0 (ferr w p r b)) else k 0 (frerr n d) := by
  unfold arith_FixedOf
  rw [fractionErr_eq N hN n d hd, checkForm_eq N (by omega), first2 N (by omega)]
  by_cases c : frerr n d = 0
  · rw [if_pos c, if_pos c]
    by_cases e : ferr w p r b = 0
    · have hf := ferr_ok e
      have := hf.p0; have := hf.pw; have := hf.w16
      have q := p2_15 (n := p) (by omega)
      have q0 := p2_pos p
      have hc := c
      unfold frerr at hc
      split at hc
      · rename_i c1
        split at hc
        · rename_i c2
          have hm := mul_small (A := 1000000000) (B := 32768) c2.1.1 c2.1.2 (show -32768 ≤ p2 p by omega) q (by omega) (by omega)
          rw [cond_neg (by simp [e]), if_pos e, one_eq N w r b (by omega) (by omega), w64_id (by omega) (by omega), fixed_eq N hf _ d c1.1 (by omega) (by omega) (by omega)]
        · cases hc
      · cases hc
    · rw [cond_pos e, if_neg e]
  · rw [if_neg c, if_neg c, cond_pos c]
theorem valueOf_eq (N : Nat) (hN : 200 ≤ N) (v w p r b : Int) (k : Int → Int → Int → Option R) :
    arith_ValueOf N v w p r b k = if ferr w p r b = 0 then (if vok w v = true then k (lowN (sg w v) (p2 p)) (lowD (sg w v) (p2 p)) 0 else k 0 0 2) else k 0 0 (ferr w p r b) := by
  unfold arith_ValueOf
  rw [checkForm_eq N (by omega)]
  by_cases e : ferr w p r b = 0
  · have hf := ferr_ok e
    have := hf.p0; have := hf.pw; have := hf.w16; have := hf.w2
    have q := p2_15 (n := p) (by omega)
    have q0 := p2_pos p
    rw [cond_neg (by simp [e]), if_pos e, valuesErr_eq N w p r b (by omega) hf.w16 _ (by simp) (by simp; omega)]
    by_cases h : vok w v = true
    · have hs := sg_small (by omega) hf.w16 h
      simp only [List.all_cons, List.all_nil, h, Bool.and_self, if_true]
      rw [cond_neg (by simp), signed_eq N p r b v (by omega) hf.w16 (vok_range hf.w16 h), one_eq N w r b (by omega) (by omega), fraction_eq N hN _ _ q0 (by omega) (by omega) (by omega)]
    · have h' : vok w v = false := by simpa using h
      simp [h']
  · rw [cond_pos e, if_neg e]
theorem sg_mod {w v : Int} (hw : 1 ≤ w) (h : vok w v = true) : sg w v % p2 w = v := by
  have hv := of_decide_eq_true h
  have h1 := p2_half hw
  have h3 := p2_pos (w - 1)
  unfold sg
  split
  · rw [Int.sub_emod_right, Int.emod_eq_of_lt hv.1 (by omega)]
  · exact Int.emod_eq_of_lt hv.1 (by omega)
theorem sat_sg {w b v : Int} (hw : 1 ≤ w) (h : vok w v = true) : sat w b (sg w v) = sg w v := by
  have := sg_range hw h
  unfold sat; split <;> omega
/-- A number of a form, fixed in it, is its value. -/
theorem again_eq {w p r b v : Int} (hf : VF w p r b) (h : vok w v = true) : frerr (lowN (sg w v) (p2 p)) (lowD (sg w v) (p2 p)) = 0 ∧ fx w r b (lowN (sg w v) (p2 p) * p2 p) (lowD (sg w v) (p2 p)) = v := by
  have := hf.p0; have := hf.pw; have := hf.w16; have := hf.w2
  have q := p2_15 (n := p) (by omega)
  have q0 := p2_pos p
  have hs := sg_small (by omega) hf.w16 h
  have hn := lowN_small (n := sg w v) (d := p2 p) (B := 32768) q0 (by omega) (by omega) (by omega)
  have hd := lowD_pos (n := sg w v) q0
  have hd2 := lowN_small (n := p2 p) (d := p2 p) (B := 32768) q0 (by omega) (by omega) (by omega)
  have hm := low_mul (n := sg w v) q0
  have hg := gcI_pos (a := sg w v) q0
  have hdl : lowD (sg w v) (p2 p) ≤ 32769 := (tdiv_small (n := p2 p) (B := 32768) hg (by omega) (by omega) (by omega)).2
  refine ⟨?_, ?_⟩
  · unfold frerr
    rw [if_pos ⟨hd, low_gcd q0⟩, if_pos (by omega)]
  · unfold fx
    have e : rnd r (lowN (sg w v) (p2 p) * p2 p) (lowD (sg w v) (p2 p)) = sg w v := by
      have e1 : lowN (sg w v) (p2 p) * p2 p = sg w v * lowD (sg w v) (p2 p) := by
        have e0 : lowN (sg w v) (p2 p) * (lowD (sg w v) (p2 p) * gcI (sg w v) (p2 p)) = lowN (sg w v) (p2 p) * gcI (sg w v) (p2 p) * lowD (sg w v) (p2 p) := by rw [Int.mul_comm (lowD _ _) (gcI _ _), ← Int.mul_assoc]
        rwa [hm.2, hm.1] at e0
      rw [e1]
      have := rnd_scale r (sg w v) 1 (lowD (sg w v) (p2 p)) hd
      rw [Int.one_mul] at this
      rw [this, rnd_one]
    rw [e, sat_sg (by omega) h, sg_mod (by omega) h]
theorem ValueErr_eq (N : Nat) (v w p r b : Int) (h0 : 0 ≤ w) (h : w ≤ 16) (k : Int → Option R) : ratchetref30_ValueErr N v w p r b k = k (if vok w v = true then 0 else 2) := by
  unfold ratchetref30_ValueErr; rw [Fits_eq N v h0 h]; cases vok w v <;> rfl
theorem converted_eq (N : Nat) (hN : 200 ≤ N) (v w p r b w' p' r' b' : Int) (k : Int → Int → Option R) :
    arith_Converted N v w p r b w' p' r' b' k = if ferr w p r b = 0 then (if ferr w' p' r' b' = 0 then (if vok w v = true then k (fx w' r' b' (sg w v * p2 p') (p2 p)) 0 else k 0 2) else k 0 (ferr w' p' r' b')) else k 0 (ferr w p r b) := by
  unfold arith_Converted
  rw [checkForm_eq N (by omega), checkForm_eq N (by omega), first2 N (by omega)]
  by_cases c : ferr w p r b = 0
  · rw [if_pos c, if_pos c]
    have hf := ferr_ok c
    have := hf.p0; have := hf.pw; have := hf.w16; have := hf.w2
    have q := p2_15 (n := p) (by omega)
    have q0 := p2_pos p
    by_cases e : ferr w' p' r' b' = 0
    · have hf' := ferr_ok e
      have := hf'.p0; have := hf'.pw; have := hf'.w16; have := hf'.w2
      have q' := p2_15 (n := p') (by omega)
      have q0' := p2_pos p'
      rw [cond_neg (by simp [e]), if_pos e, opened_eq N (by omega) w p r b _ (by simp), if_pos c]
      by_cases h : vok w v = true
      · have hs := sg_small (by omega) hf.w16 h
        have hm := mul_small (A := 32768) (B := 32768) hs.1 (by omega) (show -32768 ≤ p2 p' by omega) q' (by omega) (by omega)
        simp only [List.all_cons, List.all_nil, h, Bool.and_self, if_true]
        rw [cond_neg (by simp), signed_eq N p r b v (by omega) hf.w16 (vok_range hf.w16 h), one_eq N w' r' b' (by omega) (by omega), one_eq N w r b (by omega) (by omega), w64_id (by omega) (by omega), fixed_eq N hf' _ _ q0 (by omega) (by omega) (by omega)]
      · have h' : vok w v = false := by simpa using h
        simp [h']
    · rw [cond_pos e, if_neg e]
  · rw [if_neg c, if_neg c, cond_pos c]
theorem j5_ok (k : Bool → Option R) (v w p r b e n d c : Int) (hc : c = (if ferr w p r b = 0 then (if vok w v = true then 0 else 2) else ferr w p r b))
    (h1 : ferr w p r b = 0 → vok w v = true → e = 0 ∧ n = lowN (sg w v) (p2 p) ∧ d = lowD (sg w v) (p2 p)) (h2 : c ≠ 0 → e = c ∧ n = 0 ∧ d = 0) :
    ratchetlaw30_ArithNumbers_j5 2000 k v e c w p r b n d = k true := by
  unfold ratchetlaw30_ArithNumbers_j5
  simp only [zz]
  by_cases q : c = 0
  · have hq : ferr w p r b = 0 ∧ vok w v = true := by
      rw [q] at hc
      split at hc
      · split at hc
        · rename_i x y; exact ⟨x, y⟩
        · cases hc
      · rename_i x; exact absurd hc.symm x
    obtain ⟨q1, q2⟩ := hq
    obtain ⟨e1, e2, e3⟩ := h1 q1 q2
    have hf := ferr_ok q1
    have := hf.p0; have := hf.pw; have := hf.w16; have := hf.w2
    have s1 := p2_15 (n := p) (by omega)
    have s0 := p2_pos p
    have hs := sg_small (by omega) hf.w16 q2
    have hag := again_eq hf q2
    have hd := lowD_pos (n := sg w v) s0
    have hdl : lowD (sg w v) (p2 p) ≤ 32769 := (tdiv_small (n := p2 p) (B := 32768) (gcI_pos (a := sg w v) s0) (by omega) (by omega) (by omega)).2
    rw [cond_neg (by simp [q]), cond_neg (by simp [e1]), Of_eq 2000 p r b v (by omega) hf.w16 (vok_range hf.w16 q2), power_eq 2000 (by omega) (by omega), Lowest_eq 2000 (by omega) _ _ s0 (by omega) (by omega) (by omega), e2, e3, fixedOf_eq 2000 (by omega) _ _ w p r b (by omega), if_pos hag.1, if_pos q1, hag.2]
    simp
  · obtain ⟨e1, e2, e3⟩ := h2 q
    rw [cond_pos q, cond_pos e1, e2, e3]; simp
set_option maxHeartbeats 2000000 in
theorem pureArithNumbers : PureArithNumbers := by
  intro x0 v x2 ok0 ok1 ok2
  obtain ⟨n, d⟩ := x0
  obtain ⟨w, p, r, b, w', p', r', b'⟩ := x2
  refine ⟨2000, fun {R} k => ?_⟩
  have hd : d ≤ 9223372036854775807 := (wf_i64.1 ok0.2).2
  dsimp only
  unfold ratchetlaw30_ArithNumbers
  rw [awake_ok, show (!true) = false from rfl, cond_false, checkForm_eq 2000 (by omega), FormErr_eq, cond_neg (by simp)]
  simp only [fixedOf_eq 2000 (show 200 ≤ 2000 by omega) n d w p r b hd, valueOf_eq 2000 (show 200 ≤ 2000 by omega), converted_eq 2000 (show 200 ≤ 2000 by omega), FracErr_eq 2000 (show 200 ≤ 2000 by omega) n d hd, FormErr_eq]
  -- the later parts
  have hj1 : ∀ (ev ec zc nn dd : Int),
      (ferr w p r b = 0 → vok w v = true → ev = 0 ∧ nn = lowN (sg w v) (p2 p) ∧ dd = lowD (sg w v) (p2 p)) →
      (ferr w p r b = 0 → vok w v = false → ev = 2 ∧ nn = 0 ∧ dd = 0) → (ferr w p r b ≠ 0 → ev = ferr w p r b ∧ nn = 0 ∧ dd = 0) →
      (ferr w p r b = 0 → ferr w' p' r' b' = 0 → vok w v = true → ec = 0 ∧ zc = fx w' r' b' (sg w v * p2 p') (p2 p)) → (ferr w p r b = 0 → ferr w' p' r' b' = 0 → vok w v = false → ec = 2 ∧ zc = 0) →
      (ferr w p r b = 0 → ferr w' p' r' b' ≠ 0 → ec = ferr w' p' r' b' ∧ zc = 0) → (ferr w p r b ≠ 0 → ec = ferr w p r b ∧ zc = 0) →
      ratchetlaw30_ArithNumbers_j1 2000 k v ev zc ec w p r b w' p' r' b' nn dd = k true := by
    intro ev ec zc nn dd a1 a2 a3 c1 c2 c3 c4
    unfold ratchetlaw30_ArithNumbers_j1
    simp only [FormErr_eq]
    have h5 : ∀ c, c = (if ferr w p r b = 0 then (if vok w v = true then 0 else 2) else ferr w p r b) → ratchetlaw30_ArithNumbers_j5 2000 k v ev c w p r b nn dd = k true := by
      intro c hc
      refine j5_ok k v w p r b ev nn dd c hc a1 (fun hne => ?_)
      by_cases x : ferr w p r b = 0
      · rw [if_pos x] at hc
        cases y : vok w v
        · rw [y] at hc; simp only [Bool.false_eq_true, if_false] at hc; rw [hc]; exact a2 x y
        · rw [y] at hc; simp only [if_true] at hc; exact absurd hc hne
      · rw [if_neg x] at hc; rw [hc]; exact a3 x
    unfold ratchetlaw30_ArithNumbers_j2 ratchetlaw30_ArithNumbers_j3 ratchetlaw30_ArithNumbers_j4
    by_cases x : ferr w p r b = 0
    · have hf := ferr_ok x
      have := hf.p0; have := hf.pw; have := hf.w16; have := hf.w2
      rw [cond_pos x, cond_pos x, ValueErr_eq 2000 v w p r b (by omega) hf.w16]
      have s1 := p2_15 (n := p) (by omega)
      have s0 := p2_pos p
      by_cases x' : ferr w' p' r' b' = 0
      · have hf' := ferr_ok x'
        cases y : vok w v
        · obtain ⟨g1, g2⟩ := c2 x x' y
          have := h5 2 (by rw [if_pos x, y]; rfl)
          simp [x', g1, g2, this]
        · obtain ⟨g1, g2⟩ := c1 x x' y
          have hs := sg_small (by omega) hf.w16 y
          have := h5 0 (by rw [if_pos x, y]; rfl)
          simp [x', g1, g2, this, Of_eq 2000 p r b v (show 1 ≤ w by omega) hf.w16 (vok_range hf.w16 y), power_eq 2000 hf.p0 (show p ≤ 40 by omega), Fix_eq 2000 hf' (sg w v) (p2 p) s0 (by omega) (by omega) (by omega)]
      · obtain ⟨g1, g2⟩ := c3 x x'
        cases y : vok w v
        · have := h5 2 (by rw [if_pos x, y]; rfl)
          simp [x', g1, g2, this]
        · have := h5 0 (by rw [if_pos x, y]; rfl)
          simp [x', g1, g2, this]
    · obtain ⟨g1, g2⟩ := c4 x
      have := h5 (ferr w p r b) (by rw [if_neg x])
      rw [cond_neg x, cond_neg x]
      simp [x, g1, g2, this]
  have hj0 : ∀ (x ex ev ec zc nn dd c : Int), c = (if frerr n d = 0 then ferr w p r b else frerr n d) →
      (c = 0 → ex = 0 ∧ x = fx w r b (n * p2 p) d) → (c ≠ 0 → ex = c ∧ x = 0) →
      ratchetlaw30_ArithNumbers_j1 2000 k v ev zc ec w p r b w' p' r' b' nn dd = k true →
      ratchetlaw30_ArithNumbers_j0 2000 k v x ex ev zc ec c n d w p r b w' p' r' b' nn dd = k true := by
    intro x ex ev ec zc nn dd c hc h1 h2 h3
    unfold ratchetlaw30_ArithNumbers_j0
    by_cases q : c = 0
    · obtain ⟨g1, g2⟩ := h1 q
      have hq : frerr n d = 0 ∧ ferr w p r b = 0 := by
        rw [q] at hc
        split at hc
        · rename_i u; exact ⟨u, hc.symm⟩
        · rename_i u; exact absurd hc.symm u
      have hf := ferr_ok hq.2
      have hfr := hq.1
      unfold frerr at hfr
      split at hfr
      · rename_i u1
        split at hfr
        · rename_i u2
          simp [q, g1, g2, h3, Fix_eq 2000 hf n d u1.1 (by omega) (by omega) (by omega)]
        · cases hfr
      · cases hfr
    · obtain ⟨g1, g2⟩ := h2 q
      simp [q, g1, g2, h3]
  by_cases f0 : frerr n d = 0 <;> by_cases f1 : ferr w p r b = 0 <;> by_cases f2 : ferr w' p' r' b' = 0 <;> cases f3 : vok w v
  all_goals simp only [f0, f1, f2, f3, if_true, if_false, Bool.false_eq_true]
  all_goals (first | rw [cond_pos trivial] | rw [cond_neg not_false])
  all_goals refine hj0 _ _ _ _ _ _ _ _ (by simp [f0, f1]) (by simp_all) (by simp_all) (hj1 _ _ _ _ _ (by simp_all) (by simp_all) (by simp_all) (by simp_all) (by simp_all) (by simp_all) (by simp_all))
end
end Am
end Go.Proofs.YteamkapbkccdeaaDoor
