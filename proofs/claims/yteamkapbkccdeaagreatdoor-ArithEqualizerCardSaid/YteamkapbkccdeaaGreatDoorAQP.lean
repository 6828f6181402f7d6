/- The equalizer of a channel, on plain data: the program and the reference give the same fractions or errors, and the convolution begins with 1 and zeros (at most 32 numbers). -/
import Derived.Test.YteamkapbkccdeaaGreatDoorAQF
import Derived.Test.YteamkapbkccdeaaGreatDoorPu
import Derived.Lib.Mul64
set_option linter.unusedVariables false
set_option linter.unusedSimpArgs false
set_option maxRecDepth 100000
namespace Go.Proofs.YteamkapbkccdeaaGreatDoor
namespace Am
section
variable {R : Type}
theorem awake_ok (k : Bool → Option R) : ratchetlaw30_awake 2000 k = k true := by kernel_rfl

theorem within_eq (N : Nat) (a lo hi : Int) (k : Bool → Option R) : arith_within N a lo hi k = k (decide (lo ≤ a ∧ a ≤ hi)) := by
  unfold arith_within
  by_cases h : lo ≤ a <;> simp [h]
theorem Within_eq (N : Nat) (a lo hi : Int) (k : Bool → Option R) : ratchetbase_Within N a lo hi k = k (decide (lo ≤ a ∧ a ≤ hi)) := by
  unfold ratchetbase_Within
  by_cases h : lo ≤ a <;> simp [h]
theorem unless_eq (N : Nat) (b : Bool) (e : Int) (k : Int → Option R) : arith_unless N b e k = k (if b = true then 0 else e) := by
  unfold arith_unless; cases b <;> rfl
theorem first_loop (N : Nat) (k0 : Int → Option R) (k1 : Option R) (l : List Int) (hl : l.length ≤ 1000000) : ∀ (n i : Nat), l.length < n + i → i ≤ l.length →
    arith_first_l0 N k0 k1 n l l.length i = match (l.drop i).find? (fun x => decide (x ≠ 0)) with | some x => k0 x | none => k1 := by
  intro n
  induction n with
  | zero => intro i h1 h2; omega
  | succ n ih =>
    intro i h1 h2
    rw [arith_first_l0]
    by_cases h : i < l.length
    · rw [cond_pos (by omega), at?_lt h, some_bind', drop_cons h, List.find?_cons]
      by_cases hx : l[i] = 0
      · rw [cond_neg (by simp [hx]), w64_id (by omega) (by omega)]
        simp only [hx, ne_eq, not_true, decide_false]
        exact ih (i + 1) (by omega) (by omega)
      · rw [cond_pos hx]; simp [hx]
    · rw [cond_neg (by omega)]
      have : i = l.length := by omega
      subst this
      simp
theorem first_eq (N : Nat) (l : List Int) (hN : l.length < N) (hl : l.length ≤ 1000000) (k : Int → Option R) : arith_first N l k = k ((l.find? (fun x => decide (x ≠ 0))).getD 0) := by
  unfold arith_first
  have := first_loop N (fun z => k z) (k 0) l hl N 0 (by omega) (by omega)
  rw [Int.natCast_zero] at this
  rw [this, List.drop_zero]
  cases l.find? (fun x => decide (x ≠ 0)) <;> rfl
theorem first2 (N : Nat) (hN : 4 ≤ N) (a b : Int) (k : Int → Option R) : arith_first N [a, b] k = k (if a = 0 then b else a) := by
  rw [first_eq N _ (by simp; omega) (by simp)]
  by_cases ha : a = 0 <;> by_cases hb : b = 0 <;> simp [ha, hb]
theorem first3 (N : Nat) (hN : 4 ≤ N) (a b c : Int) (k : Int → Option R) : arith_first N [a, b, c] k = k (if a = 0 then (if b = 0 then c else b) else a) := by
  rw [first_eq N _ (by simp; omega) (by simp)]
  by_cases ha : a = 0 <;> by_cases hb : b = 0 <;> by_cases hc : c = 0 <;> simp [ha, hb, hc]



/-! ### Common divisors -/
theorem half_mod {x y : Nat} (h0 : 0 < y) (h : y ≤ x) : 2 * (x % y) < x := by
  have h1 := Nat.div_add_mod x y
  have h2 := Nat.mod_lt x h0
  have h3 : 1 ≤ x / y := (Nat.one_le_div_iff h0).2 h
  have h4 : y * 1 ≤ y * (x / y) := Nat.mul_le_mul_left _ h3
  omega
theorem gcd_step (x y : Nat) : Nat.gcd x y = Nat.gcd y (x % y) := by
  rw [Nat.gcd_comm, Nat.gcd_rec, Nat.gcd_comm]
theorem divisor_loop (N : Nat) (k0 : Int → Option R) : ∀ (m n : Nat) (a b : Int), b.natAbs < 2 ^ m → 2 * m + 1 ≤ n →
    ∃ z : Int, z.natAbs = Nat.gcd a.natAbs b.natAbs ∧ (b ≠ 0 → z.natAbs ≤ b.natAbs) ∧ arith_divisor_l0 N k0 n a b = k0 z := by
  intro m
  induction m with
  | zero =>
    intro n a b h1 h2
    obtain ⟨n, rfl⟩ : ∃ q, n = q + 1 := ⟨n - 1, by omega⟩
    have hb : b = 0 := by omega
    subst hb
    exact ⟨a, by simp, fun h => absurd rfl h, by rw [arith_divisor_l0, cond_neg (by simp)]⟩
  | succ m ih =>
    intro n a b h1 h2
    obtain ⟨n, rfl⟩ : ∃ q, n = q + 1 := ⟨n - 1, by omega⟩
    by_cases hb : b = 0
    · subst hb
      exact ⟨a, by simp, fun h => absurd rfl h, by rw [arith_divisor_l0, cond_neg (by simp)]⟩
    · rw [arith_divisor_l0, cond_pos hb, cond_neg hb]
      obtain ⟨n, rfl⟩ : ∃ q, n = q + 1 := ⟨n - 1, by omega⟩
      have e1 : (Int.tmod a b).natAbs = a.natAbs % b.natAbs := Int.natAbs_tmod a b
      by_cases hr : Int.tmod a b = 0
      · refine ⟨b, ?_, fun _ => Nat.le_refl _, by rw [arith_divisor_l0, cond_neg (by simp [hr])]⟩
        rw [gcd_step, ← e1, hr]; simp
      · rw [arith_divisor_l0, cond_pos hr, cond_neg hr]
        have e2 : (Int.tmod b (Int.tmod a b)).natAbs = b.natAbs % (Int.tmod a b).natAbs := Int.natAbs_tmod _ _
        have h3 : (Int.tmod a b).natAbs < b.natAbs := by rw [e1]; exact Nat.mod_lt _ (by omega)
        have h4 := half_mod (x := b.natAbs) (y := (Int.tmod a b).natAbs) (by omega) (by omega)
        rw [Nat.pow_succ] at h1
        obtain ⟨z, z1, z2, z3⟩ := ih n (Int.tmod a b) (Int.tmod b (Int.tmod a b)) (by omega) (by omega)
        refine ⟨z, ?_, fun _ => ?_, z3⟩
        · rw [z1, e2, ← gcd_step b.natAbs, e1, ← gcd_step]
        · rw [z1]
          refine Nat.le_trans (Nat.le_of_dvd (by omega) (Nat.gcd_dvd_left _ _)) (by omega)
def gcI (a b : Int) : Int := ((Nat.gcd a.natAbs b.natAbs : Nat) : Int)
theorem gcI_pos {a b : Int} (hb : 0 < b) : 0 < gcI a b := by
  unfold gcI
  have := Nat.gcd_pos_of_pos_right a.natAbs (n := b.natAbs) (by omega)
  omega
theorem gcI_le {a b : Int} (hb : 0 < b) : gcI a b ≤ b := by
  unfold gcI
  have := Nat.le_of_dvd (show 0 < b.natAbs by omega) (Nat.gcd_dvd_right a.natAbs b.natAbs)
  omega
theorem divisor_eq (N : Nat) (hN : 200 ≤ N) (a b : Int) (hb : 0 < b) (hb2 : b ≤ 9223372036854775807) (k : Int → Option R) : arith_divisor N a b k = k (gcI a b) := by
  unfold arith_divisor gcI
  obtain ⟨z, z1, z2, z3⟩ := divisor_loop N (fun z1 => k (max z1 (w64 (0 - z1)))) 63 N a b (by omega) (by omega)
  have := z2 (by omega)
  rw [z3, w64_id (by omega) (by omega), ← z1]
  congr 1; omega

/-! ### Wide numbers -/
def val : List Int → Int
  | [] => 0
  | d :: r => d + 1000000000 * val r
def dOK (l : List Int) : Prop := ∀ d ∈ l, 0 ≤ d ∧ d < 1000000000
def dig (n : Nat) : List Int := if h : n = 0 then [] else ((n % 1000000000 : Nat) : Int) :: dig (n / 1000000000)
termination_by n
decreasing_by omega
theorem dig_zero : dig 0 = [] := by rw [dig]; simp
theorem dig_pos {n : Nat} (h : n ≠ 0) : dig n = ((n % 1000000000 : Nat) : Int) :: dig (n / 1000000000) := by rw [dig]; simp [h]
theorem dOK_nil : dOK [] := fun d h => by cases h
theorem dOK_cons {d : Int} {l : List Int} (h : 0 ≤ d ∧ d < 1000000000) (hl : dOK l) : dOK (d :: l) := by
  intro x hx
  rcases List.mem_cons.1 hx with rfl | hx
  · exact h
  · exact hl x hx
theorem dOK_app {a b : List Int} (ha : dOK a) (hb : dOK b) : dOK (a ++ b) := by
  intro x hx
  rcases List.mem_append.1 hx with h | h
  · exact ha x h
  · exact hb x h
theorem dOK_tail {d : Int} {l : List Int} (h : dOK (d :: l)) : dOK l := fun x hx => h x (List.mem_cons_of_mem _ hx)
theorem dOK_head {d : Int} {l : List Int} (h : dOK (d :: l)) : 0 ≤ d ∧ d < 1000000000 := h d List.mem_cons_self
theorem dOK_drop {l : List Int} (h : dOK l) (n : Nat) : dOK (l.drop n) := fun x hx => h x (List.mem_of_mem_drop hx)
theorem dOK_take {l : List Int} (h : dOK l) (n : Nat) : dOK (l.take n) := fun x hx => h x (List.mem_of_mem_take hx)
theorem dOK_set {l : List Int} (h : dOK l) (n : Nat) {v : Int} (hv : 0 ≤ v ∧ v < 1000000000) : dOK (l.set n v) := fun x hx => by
  rcases List.mem_or_eq_of_mem_set hx with h' | rfl
  · exact h x h'
  · exact hv
theorem dig_ok (n : Nat) : dOK (dig n) := by
  induction n using Nat.strongRecOn with
  | _ n ih =>
    by_cases h : n = 0
    · subst h; rw [dig_zero]; exact dOK_nil
    · rw [dig_pos h]
      exact dOK_cons (by omega) (ih _ (by omega))
theorem val_dig (n : Nat) : val (dig n) = (n : Int) := by
  induction n using Nat.strongRecOn with
  | _ n ih =>
    by_cases h : n = 0
    · subst h; rw [dig_zero]; rfl
    · rw [dig_pos h, val, ih _ (by omega)]
      omega
theorem val_nonneg : ∀ {l : List Int}, dOK l → 0 ≤ val l
  | [], _ => by simp [val]
  | d :: l, h => by
    have := val_nonneg (dOK_tail h)
    have := dOK_head h
    rw [val]; omega
/-- No zero at the end. -/
def Trim : List Int → Prop
  | [] => True
  | [d] => d ≠ 0
  | _ :: d :: l => Trim (d :: l)
theorem Trim_pos : ∀ {l : List Int}, dOK l → Trim l → l ≠ [] → 0 < val l
  | [], _, _, h => absurd rfl h
  | [d], h, t, _ => by
    have := dOK_head h
    have t' : d ≠ 0 := t
    simp only [val]; omega
  | d :: e :: l, h, t, _ => by
    have := Trim_pos (dOK_tail h) t (by simp)
    have := dOK_head h
    rw [val]; omega
theorem dig_uniq : ∀ {l : List Int}, dOK l → Trim l → l = dig (val l).toNat
  | [], _, _ => by simp [val, dig_zero]
  | [d], h, t => by
    have h1 := dOK_head h
    have t' : d ≠ 0 := t
    have e : val [d] = d := by simp [val]
    rw [e, dig_pos (by omega), show d.toNat / 1000000000 = 0 by omega, dig_zero]
    congr 1; omega
  | d :: e :: l, h, t => by
    have h1 := dOK_head h
    have hp := Trim_pos (dOK_tail h) t (by simp)
    have ih := dig_uniq (dOK_tail h) t
    have hv : val (d :: e :: l) = d + 1000000000 * val (e :: l) := rfl
    rw [hv, dig_pos (by omega), show (d + 1000000000 * val (e :: l)).toNat / 1000000000 = (val (e :: l)).toNat by omega, ← ih]
    congr 1; omega
theorem dig_len : ∀ (m : Nat) {n : Nat}, n < 1000000000 ^ m → (dig n).length ≤ m
  | 0, n, h => by
    have : n = 0 := by simpa using h
    subst this; rw [dig_zero]; simp
  | m + 1, n, h => by
    by_cases h0 : n = 0
    · subst h0; rw [dig_zero]; simp
    · rw [dig_pos h0, List.length_cons]
      rw [Nat.pow_succ] at h
      have := dig_len m (n := n / 1000000000) ((Nat.div_lt_iff_lt_mul (by omega)).2 h)
      omega
def bpow (n : Nat) : Int := ((1000000000 ^ n : Nat) : Int)
theorem bpow_zero : bpow 0 = 1 := rfl
theorem bpow_succ (n : Nat) : bpow (n + 1) = 1000000000 * bpow n := by
  unfold bpow; rw [Nat.pow_succ]; omega
theorem bpow_pos (n : Nat) : 0 < bpow n := by
  unfold bpow
  have : 0 < 1000000000 ^ n := Nat.pow_pos (by omega)
  omega
theorem val_app : ∀ (a b : List Int), val (a ++ b) = val a + bpow a.length * val b
  | [], b => by simp [val, bpow_zero]
  | d :: a, b => by
    rw [List.cons_append, val, val_app a b, val, List.length_cons, bpow_succ, Int.mul_add, Int.mul_assoc]
    omega
theorem val_lt : ∀ {l : List Int}, dOK l → val l < bpow l.length
  | [], _ => by simp [val, bpow_zero]
  | d :: l, h => by
    have h1 := val_lt (dOK_tail h)
    have h2 := dOK_head h
    rw [val, List.length_cons, bpow_succ]; omega
theorem val_one (d : Int) : val [d] = d := by simp [val]
theorem val_snoc (l : List Int) (d : Int) : val (l ++ [d]) = val l + bpow l.length * d := by rw [val_app, val_one]
theorem val_take {l : List Int} {j : Nat} (h : j < l.length) : val (l.take (j + 1)) = val (l.take j) + bpow j * l[j] := by
  rw [List.take_succ_eq_append_getElem h, val_snoc, List.length_take, Nat.min_eq_left (by omega)]
theorem val_split (l : List Int) (i : Nat) (h : i ≤ l.length) : val l = val (l.take i) + bpow i * val (l.drop i) := by
  have := val_app (l.take i) (l.drop i)
  rw [List.take_append_drop, List.length_take, Nat.min_eq_left h] at this
  exact this
def dat (l : List Int) (i : Nat) : Int := l[i]?.getD 0
theorem dat_lt {l : List Int} {i : Nat} (h : i < l.length) : dat l i = l[i] := by simp [dat, List.getElem?_eq_getElem h]
theorem dat_ge {l : List Int} {i : Nat} (h : l.length ≤ i) : dat l i = 0 := by simp [dat, List.getElem?_eq_none h]
theorem val_drop (l : List Int) (i : Nat) : val (l.drop i) = dat l i + 1000000000 * val (l.drop (i + 1)) := by
  by_cases h : i < l.length
  · rw [drop_cons h, val, dat_lt h]
  · rw [List.drop_eq_nil_of_le (by omega), List.drop_eq_nil_of_le (by omega), dat_ge (by omega)]
    simp [val]
theorem dat_ok {l : List Int} (h : dOK l) (i : Nat) : 0 ≤ dat l i ∧ dat l i < 1000000000 := by
  by_cases hi : i < l.length
  · rw [dat_lt hi]; exact h _ (List.getElem_mem hi)
  · rw [dat_ge (by omega)]; omega
theorem digit_eq (N : Nat) (l : List Int) (i : Nat) (k : Int → Option R) : ratchetbase_digit N l i k = k (dat l i) := by
  unfold ratchetbase_digit
  by_cases h : i < l.length
  · rw [cond_pos (by omega), at?_lt h, some_bind', dat_lt h]
  · rw [cond_neg (by omega), dat_ge (by omega)]
/-! ### Trimmed -/
theorem Trim_take {l : List Int} : ∀ {z : Nat} (h : z < l.length), l[z] ≠ 0 → Trim (l.take (z + 1)) := by
  induction l with
  | nil => intro z h; simp at h
  | cons d l ih =>
    intro z h h0
    cases z with
    | zero => simpa [Trim] using h0
    | succ z =>
      have h' : z < l.length := by simpa using h
      have := ih h' (by simpa using h0)
      cases l with
      | nil => simp at h'
      | cons e l => rw [List.take_succ_cons, List.take_succ_cons, Trim]; rw [List.take_succ_cons] at this; exact this
theorem trim_loop (N : Nat) (k0 : List Int → Int → Option R) (l : List Int) (hl : l.length ≤ 1000000) : ∀ (n j : Nat), j ≤ l.length → j < n →
    ∃ z : Nat, z ≤ j ∧ ratchetbase_trimmed_l0 N k0 n l j = k0 l z ∧ val (l.take z) = val (l.take j) ∧ Trim (l.take z) := by
  intro n
  induction n with
  | zero => intro j h1 h2; omega
  | succ n ih =>
    intro j h1 h2
    rw [ratchetbase_trimmed_l0]
    cases j with
    | zero => exact ⟨0, Nat.le_refl _, by rw [cond_neg (by omega)], rfl, by simp [Trim]⟩
    | succ j =>
      have e : w64 (((j + 1 : Nat) : Int) - 1) = (j : Int) := by rw [w64_id (by omega) (by omega)]; omega
      rw [cond_pos (by omega), e, at?_lt (show j < l.length by omega), some_bind']
      by_cases h0 : l[j] = 0
      · rw [cond_pos h0]
        obtain ⟨z, z1, z2, z3, z4⟩ := ih j (by omega) (by omega)
        refine ⟨z, by omega, z2, ?_, z4⟩
        rw [z3, val_take (by omega), h0, Int.mul_zero, Int.add_zero]
      · rw [cond_neg h0]
        exact ⟨j + 1, Nat.le_refl _, rfl, rfl, Trim_take (by omega) h0⟩
theorem trimmed_eq (N : Nat) (l : List Int) (hok : dOK l) (hl : l.length ≤ 1000000) (hN : l.length < N) (k : List Int → Option R) : ratchetbase_trimmed N l k = k (dig (val l).toNat) := by
  unfold ratchetbase_trimmed
  obtain ⟨z, z1, z2, z3, z4⟩ := trim_loop N (fun z2 z3 => (bif slP 0 z3 z2.length then (k (List.take z3.toNat (List.drop 0 z2))) else none)) l hl N l.length (Nat.le_refl _) hN
  rw [z2, slP_of (by omega), cond_true, List.drop_zero, Int.toNat_natCast]
  rw [List.take_length] at z3
  have := dig_uniq (dOK_take hok z) z4
  rw [z3] at this
  rw [← this]
theorem wideOf_eq (N : Nat) (s : Int) (l : List Int) (hok : dOK l) (hl : l.length ≤ 1000000) (hN : l.length < N) (k : Int → List Int → Option R) :
    ratchetbase_wideOf N s l k = k (if val l = 0 then 0 else s) (dig (val l).toNat) := by
  unfold ratchetbase_wideOf
  rw [trimmed_eq N l hok hl hN]
  have hv := val_nonneg hok
  by_cases h : val l = 0
  · rw [h, show (0 : Int).toNat = 0 from rfl, dig_zero, cond_pos (by simp), if_pos rfl]
  · rw [if_neg h, cond_neg]
    rw [dig_pos (by omega)]
    simp only [List.length_cons]; omega
/-! ### Sums and differences of digits -/
theorem add_loop (N : Nat) (k0 : Option R) (k1 : List Int → Option R) (a b : List Int) (ha : dOK a) (hb : dOK b) (L : Nat) (hL : L ≤ 100000) (la : a.length ≤ L) (lb : b.length ≤ L) : ∀ (n i : Nat) (c : Int) (acc : List Int),
    L + 2 ≤ n + i → (i ≤ L ∧ 0 ≤ c ∧ c ≤ 1 ∨ i = L + 1 ∧ c = 0) → acc.length = i → dOK acc → val acc + bpow i * (c + val (a.drop i) + val (b.drop i)) = val a + val b →
    ∃ out, ratchetbase_addDigits_l0 N k0 k1 n a b c i acc = k1 out ∧ dOK out ∧ out.length ≤ L + 1 ∧ val out = val a + val b := by
  intro n
  induction n with
  | zero => intro i c acc h1 h2; omega
  | succ n ih =>
    intro i c acc h1 h2 h3 h4 h5
    have da := dat_ok ha i
    have db := dat_ok hb i
    have step : i ≤ L → ∀ z : (List Int → List Int → Int → Int → List Int → Option R), (z = fun z3 z4 z5 z6 z7 => ratchetbase_addDigits_l0 N k0 k1 n z3 z4 z5 z6 z7) → 0 ≤ c ∧ c ≤ 1 →
        ∃ out, ratchetbase_addDigits_j0 N z a b c i acc = k1 out ∧ dOK out ∧ out.length ≤ L + 1 ∧ val out = val a + val b := by
      intro hi z hz hc
      subst hz
      unfold ratchetbase_addDigits_j0
      rw [digit_eq, digit_eq, roomB_of (by omega), cond_true, w64_id (x := dat a i + dat b i) (by omega) (by omega), w64_id (x := dat a i + dat b i + c) (by omega) (by omega)]
      have e1 : Int.tdiv (dat a i + dat b i + c) 1000000000 = (dat a i + dat b i + c) / 1000000000 := Int.tdiv_eq_ediv_of_nonneg (by omega)
      have e2 : Int.tmod (dat a i + dat b i + c) 1000000000 = (dat a i + dat b i + c) % 1000000000 := Int.tmod_eq_emod_of_nonneg (by omega)
      rw [e1, e2, w64_id (by omega) (by omega), w64_succ (by omega)]
      refine ih (i + 1) _ _ (by omega) ?_ (by simp; omega) (dOK_app h4 (dOK_cons (by omega) dOK_nil)) ?_
      · by_cases hiL : i < L
        · left; omega
        · right
          have : dat a i = 0 := dat_ge (by omega)
          have : dat b i = 0 := dat_ge (by omega)
          omega
      · rw [val_snoc, h3, bpow_succ, ← h5, val_drop a i, val_drop b i]
        generalize val (a.drop (i + 1)) = p
        generalize val (b.drop (i + 1)) = q
        have e : dat a i + dat b i + c = 1000000000 * ((dat a i + dat b i + c) / 1000000000) + (dat a i + dat b i + c) % 1000000000 := (Int.mul_ediv_add_emod _ _).symm
        generalize (dat a i + dat b i + c) / 1000000000 = u at e ⊢
        generalize (dat a i + dat b i + c) % 1000000000 = v at e ⊢
        rw [show c + (dat a i + 1000000000 * p) + (dat b i + 1000000000 * q) = 1000000000 * u + v + 1000000000 * p + 1000000000 * q by omega]
        rw [Int.mul_comm 1000000000 (bpow i), Int.mul_assoc, Int.add_assoc, ← Int.mul_add]
        congr 2; omega
    rw [ratchetbase_addDigits_l0]
    by_cases c1 : i < a.length
    · rw [cond_pos (by omega)]; exact step (by omega) _ rfl (by omega)
    · rw [cond_neg (by omega)]
      by_cases c2 : i < b.length
      · rw [cond_pos (by omega)]; exact step (by omega) _ rfl (by omega)
      · rw [cond_neg (by omega)]
        by_cases c3 : 0 < c
        · rw [cond_pos c3]; exact step (by omega) _ rfl (by omega)
        · rw [cond_neg c3]
          refine ⟨acc, rfl, h4, by omega, ?_⟩
          rw [List.drop_eq_nil_of_le (by omega), List.drop_eq_nil_of_le (by omega)] at h5
          have : c = 0 := by omega
          subst this
          simpa [val] using h5
theorem addDigits_eq (N : Nat) (a b : List Int) (ha : dOK a) (hb : dOK b) (L : Nat) (hL : L ≤ 100000) (la : a.length ≤ L) (lb : b.length ≤ L) (hN : L + 2 ≤ N) (k : List Int → Option R) :
    ∃ out, ratchetbase_addDigits N a b k = k out ∧ dOK out ∧ out.length ≤ L + 1 ∧ val out = val a + val b := by
  unfold ratchetbase_addDigits
  have := add_loop N (k []) (fun z18 => k z18) a b ha hb L hL la lb N 0 0 [] (by omega) (by omega) rfl dOK_nil (by simp [val, bpow_zero])
  rw [Int.natCast_zero] at this
  exact this

theorem sub_loop (N : Nat) (k0 : Option R) (k1 : List Int → Option R) (a b : List Int) (ha : dOK a) (hb : dOK b) (L : Nat) (hL : L ≤ 100000) (la : a.length = L) (lb : b.length ≤ 100000) : ∀ (n i : Nat) (w : Int) (acc : List Int),
    L < n + i → i ≤ L → 0 ≤ w ∧ w ≤ 1 → acc.length = i → dOK acc → val acc + bpow i * (val (a.drop i) - val (b.drop i) - w) = val a - val b →
    ∃ out x, ratchetbase_subDigits_l0 N k0 k1 n a b w i acc = k1 out ∧ dOK out ∧ out.length = L ∧ val out + bpow L * (-x) = val a - val b ∧ 0 ≤ x := by
  intro n
  induction n with
  | zero => intro i w acc h1 h2; omega
  | succ n ih =>
    intro i w acc h1 h2 hw h3 h4 h5
    have da := dat_ok ha i
    have db := dat_ok hb i
    rw [ratchetbase_subDigits_l0]
    by_cases c1 : i < a.length
    · have hd : a[i] = dat a i := (dat_lt c1).symm
      rw [cond_pos (by omega), at?_lt c1, some_bind', digit_eq, hd, w64_id (x := dat a i - dat b i) (by omega) (by omega), w64_id (x := dat a i - dat b i - w) (by omega) (by omega)]
      have hstep : ∀ (w' v : Int), 0 ≤ w' ∧ w' ≤ 1 → 0 ≤ v ∧ v < 1000000000 → dat a i - dat b i - w = v - 1000000000 * w' →
          ∃ out x, ratchetbase_subDigits_l0 N k0 k1 n a b w' (w64 ((i : Int) + 1)) (acc ++ [v]) = k1 out ∧ dOK out ∧ out.length = L ∧ val out + bpow L * (-x) = val a - val b ∧ 0 ≤ x := by
        intro w' v hw' hv e
        rw [w64_succ (by omega)]
        refine ih (i + 1) w' _ (by omega) (by omega) hw' (by simp; omega) (dOK_app h4 (dOK_cons hv dOK_nil)) ?_
        rw [val_snoc, h3, bpow_succ, ← h5, val_drop a i, val_drop b i]
        generalize val (a.drop (i + 1)) = p
        generalize val (b.drop (i + 1)) = q
        rw [show dat a i + 1000000000 * p - (dat b i + 1000000000 * q) - w = v - 1000000000 * w' + 1000000000 * p - 1000000000 * q by omega]
        rw [Int.mul_comm 1000000000 (bpow i), Int.mul_assoc, Int.add_assoc, ← Int.mul_add]
        congr 2; omega
      by_cases c2 : dat a i - dat b i - w < 0
      · rw [cond_pos c2, roomB_of (by omega), cond_true, w64_id (x := dat a i - dat b i - w + 1000000000) (by omega) (by omega)]
        exact hstep 1 _ (by omega) (by omega) (by omega)
      · rw [cond_neg c2, roomB_of (by omega), cond_true]
        exact hstep 0 _ (by omega) (by omega) (by omega)
    · rw [cond_neg (by omega)]
      have hi : i = L := by omega
      subst hi
      rw [List.drop_eq_nil_of_le (by omega)] at h5
      refine ⟨acc, val (b.drop i) + w, rfl, h4, h3, ?_, ?_⟩
      · rw [← h5]; simp only [val]; congr 2; omega
      · have := val_nonneg (dOK_drop hb i); omega
theorem sub_none {v p x d : Int} (hp : 0 < p) (hv : v < p) (hx : 0 ≤ x) (hd : 0 ≤ d) (e : v + p * (-x) = d) : v = d := by
  by_cases h : x = 0
  · subst h; simpa using e
  · have h1 : 1 ≤ x := by omega
    have h2 : p * 1 ≤ p * x := Int.mul_le_mul_of_nonneg_left h1 (by omega)
    rw [Int.mul_neg] at e
    omega
theorem subDigits_eq (N : Nat) (a b : List Int) (ha : dOK a) (hb : dOK b) (la : a.length ≤ 100000) (lb : b.length ≤ 100000) (hN : a.length + 2 ≤ N) (hle : val b ≤ val a) (k : List Int → Option R) :
    ratchetbase_subDigits N a b k = k (dig (val a - val b).toNat) := by
  unfold ratchetbase_subDigits
  obtain ⟨out, x, h1, h2, h3, h4, h5⟩ := sub_loop N (ratchetbase_trimmed N [] (fun y3 => (k y3))) (fun z4 => (ratchetbase_trimmed N z4 (fun y5 => (k y5)))) a b ha hb a.length la rfl lb N 0 0 [] (by omega) (by omega) (by omega) rfl dOK_nil (by simp [val, bpow_zero])
  rw [Int.natCast_zero] at h1
  have hv := val_lt h2
  rw [h3] at hv
  have e := sub_none (bpow_pos a.length) hv h5 (by omega) h4
  rw [h1, trimmed_eq N out h2 (by omega) (by omega), e]
/-! ### Comparing -/
def sn (x : Int) : Int := if x < 0 then -1 else if x = 0 then 0 else 1
theorem sn_neg (x : Int) : sn (-x) = -sn x := by unfold sn; split <;> split <;> (try split) <;> omega
theorem sn_range (x : Int) : -1 ≤ sn x ∧ sn x ≤ 1 := by unfold sn; split <;> (try split) <;> omega
theorem cmp_loop (N : Nat) (k0 : Int → Option R) (k1 : Option R) (hk : k1 = k0 0) (a b : List Int) (ha : dOK a) (hb : dOK b) (hab : a.length = b.length) (la : a.length ≤ 100000) : ∀ (n i : Nat), i ≤ a.length → i < n → a.drop i = b.drop i →
    ratchetbase_cmpDigits_l0 N k0 k1 n a b ((i : Int) - 1) = k0 (sn (val a - val b)) := by
  intro n
  induction n with
  | zero => intro i h1 h2; omega
  | succ n ih =>
    intro i h1 h2 h3
    rw [ratchetbase_cmpDigits_l0]
    cases i with
    | zero =>
      rw [cond_neg (by omega), hk]
      rw [List.drop_zero, List.drop_zero] at h3
      rw [h3, Int.sub_self]; rfl
    | succ i =>
      have e : (((i + 1 : Nat) : Int) - 1) = (i : Int) := by omega
      rw [e, cond_pos (by omega), at?_lt (show i < a.length by omega), some_bind', at?_lt (show i < b.length by omega), some_bind']
      have va := val_split a i (by omega)
      have vb := val_split b i (by omega)
      rw [drop_cons (show i < a.length by omega), val] at va
      rw [drop_cons (show i < b.length by omega), val, ← h3] at vb
      have ta := val_lt (dOK_take ha i)
      have tb := val_lt (dOK_take hb i)
      have na := val_nonneg (dOK_take ha i)
      have nb := val_nonneg (dOK_take hb i)
      rw [List.length_take, Nat.min_eq_left (by omega)] at ta tb
      have hp := bpow_pos i
      generalize val (a.drop (i + 1)) = D at va vb
      by_cases c1 : a[i] < b[i]
      · rw [cond_pos c1]
        have h4 : bpow i * (a[i] + 1000000000 * D) + bpow i ≤ bpow i * (b[i] + 1000000000 * D) := by
          have : bpow i * (a[i] + 1000000000 * D + 1) ≤ bpow i * (b[i] + 1000000000 * D) := Int.mul_le_mul_of_nonneg_left (by omega) (by omega)
          rw [Int.mul_add _ _ 1, Int.mul_one] at this
          exact this
        have : sn (val a - val b) = -1 := by unfold sn; rw [if_pos (by omega)]
        rw [this]
      · rw [cond_neg c1, some_bind', some_bind']
        by_cases c2 : b[i] < a[i]
        · rw [cond_pos c2]
          have h4 : bpow i * (b[i] + 1000000000 * D) + bpow i ≤ bpow i * (a[i] + 1000000000 * D) := by
            have : bpow i * (b[i] + 1000000000 * D + 1) ≤ bpow i * (a[i] + 1000000000 * D) := Int.mul_le_mul_of_nonneg_left (by omega) (by omega)
            rw [Int.mul_add _ _ 1, Int.mul_one] at this
            exact this
          have : sn (val a - val b) = 1 := by unfold sn; rw [if_neg (by omega), if_neg (by omega)]
          rw [this]
        · rw [cond_neg c2, w64_id (by omega) (by omega)]
          refine ih i (by omega) (by omega) ?_
          rw [drop_cons (show i < a.length by omega), drop_cons (show i < b.length by omega), h3]
          congr 1; omega
theorem dig_lt_len {m n : Nat} (h : (dig m).length < (dig n).length) : m < n := by
  have h1 := val_lt (dig_ok m)
  rw [val_dig] at h1
  apply Nat.lt_of_not_le
  intro h2
  have h3 := dig_len (dig m).length (n := n) (by unfold bpow at h1; omega)
  omega
theorem cmpDigits_eq (N : Nat) (m n : Nat) (lm : (dig m).length ≤ 100000) (ln : (dig n).length ≤ 100000) (hN : (dig m).length < N) (k : Int → Option R) :
    ratchetbase_cmpDigits N (dig m) (dig n) k = k (sn ((m : Int) - n)) := by
  unfold ratchetbase_cmpDigits
  by_cases h : (dig m).length = (dig n).length
  · rw [cond_neg (by omega), w64_id (by omega) (by omega)]
    have := cmp_loop N (fun z5 => k z5) (k 0) rfl (dig m) (dig n) (dig_ok m) (dig_ok n) h lm N (dig m).length (Nat.le_refl _) hN (by rw [List.drop_eq_nil_of_le (Nat.le_refl _), List.drop_eq_nil_of_le (by omega)])
    rw [val_dig, val_dig] at this
    exact this
  · rw [cond_pos (by omega)]
    by_cases h2 : (dig m).length < (dig n).length
    · have := dig_lt_len h2
      rw [cond_pos (by omega)]; unfold sn; rw [if_pos (by omega)]
    · have := dig_lt_len (show (dig n).length < (dig m).length by omega)
      rw [cond_neg (by omega)]; unfold sn; rw [if_neg (by omega), if_neg (by omega)]
/-! ### Whole numbers -/
/-- The digits of a number's size. -/
def dg (x : Int) : List Int := dig x.natAbs
/-- A number of at most so many digits. -/
def Sm (m : Nat) (x : Int) : Prop := x.natAbs < 1000000000 ^ m
theorem Sm_len {m : Nat} {x : Int} (h : Sm m x) : (dg x).length ≤ m := dig_len m h
theorem Sm_neg {m : Nat} {x : Int} (h : Sm m x) : Sm m (-x) := by unfold Sm at *; omega
theorem Sm_mono {m n : Nat} {x : Int} (h : Sm m x) (hmn : m ≤ n) : Sm n x := Nat.lt_of_lt_of_le h (Nat.pow_le_pow_right (by omega) hmn)
theorem Sm_le {m : Nat} {x y : Int} (h : Sm m y) (hxy : x.natAbs ≤ y.natAbs) : Sm m x := Nat.lt_of_le_of_lt hxy h
theorem Sm_mul {m n : Nat} {x y : Int} (h : Sm m x) (h' : Sm n y) : Sm (m + n) (x * y) := by
  unfold Sm at *
  rw [Int.natAbs_mul, Nat.pow_add]
  exact Nat.mul_lt_mul'' h h'
theorem Sm_add {m : Nat} {x y : Int} (h : Sm m x) (h' : Sm m y) : Sm (m + 1) (x + y) := by
  unfold Sm at *
  have := Int.natAbs_add_le x y
  rw [Nat.pow_succ]
  omega
theorem Sm_lit {m : Nat} {x : Int} (h : x.natAbs < 1000000000 ^ m) : Sm m x := h
theorem dg_ok (x : Int) : dOK (dg x) := dig_ok _
theorem val_dg (x : Int) : val (dg x) = (x.natAbs : Int) := val_dig _
theorem dg_zero : dg 0 = [] := dig_zero
theorem wide_of (N : Nat) (s : Int) (l : List Int) (hok : dOK l) (hl : l.length ≤ 1000000) (hN : l.length < N) (x : Int) (hx : val l = (x.natAbs : Int)) (hs : x ≠ 0 → s = sn x) (k : Int → List Int → Option R) :
    ratchetbase_wideOf N s l k = k (sn x) (dg x) := by
  rw [wideOf_eq N s l hok hl hN, hx, Int.toNat_natCast]
  by_cases h : x = 0
  · subst h; rfl
  · rw [if_neg (by omega), hs h]; rfl
theorem WideNeg_eq (N : Nat) (x : Int) (k : Int → List Int → Option R) : ratchetbase_WideNeg N (sn x) (dg x) k = k (sn (-x)) (dg (-x)) := by
  have := sn_range x
  unfold ratchetbase_WideNeg dg
  rw [w64_id (by omega) (by omega), sn_neg, Int.natAbs_neg, Int.zero_sub]
theorem WideAdd_eq (N m : Nat) (hm : m ≤ 1000) (hN : 2000 ≤ N) {x y : Int} (hx : Sm m x) (hy : Sm m y) (k : Int → List Int → Option R) :
    ratchetbase_WideAdd N (sn x) (dg x) (sn y) (dg y) k = k (sn (x + y)) (dg (x + y)) := by
  have lx := Sm_len hx
  have ly := Sm_len hy
  unfold ratchetbase_WideAdd
  by_cases x0 : x = 0
  · subst x0; rw [show sn 0 = 0 from rfl, cond_pos rfl, Int.zero_add]
  have sx0 : sn x ≠ 0 := by unfold sn; split <;> (try split) <;> omega
  rw [cond_neg sx0]
  by_cases y0 : y = 0
  · subst y0; rw [show sn 0 = 0 from rfl, cond_pos rfl, Int.add_zero]
  have sy0 : sn y ≠ 0 := by unfold sn; split <;> (try split) <;> omega
  rw [cond_neg sy0]
  by_cases c : sn x = sn y
  · rw [cond_pos c]
    obtain ⟨out, h1, h2, h3, h4⟩ := addDigits_eq N (dg x) (dg y) (dg_ok x) (dg_ok y) m (by omega) lx ly (by omega) (fun y1 => (ratchetbase_wideOf N (sn x) y1 (fun y2 y3 => (k y2 y3))))
    rw [h1]
    have hc : (0 < x ∧ 0 < y) ∨ (x < 0 ∧ y < 0) := by
      unfold sn at c
      split at c <;> split at c <;> (try split at c) <;> (try split at c) <;> omega
    refine wide_of N (sn x) out h2 (by omega) (by omega) (x + y) ?_ ?_ k
    · rw [h4, val_dg, val_dg]; omega
    · intro _
      unfold sn
      rcases hc with hc | hc
      · rw [if_neg (by omega), if_neg (by omega), if_neg (by omega), if_neg (by omega)]
      · rw [if_pos (by omega), if_pos (by omega)]
  · rw [cond_neg c]
    have hc : (0 < x ∧ y < 0) ∨ (x < 0 ∧ 0 < y) := by
      unfold sn at c
      split at c <;> split at c <;> (try split at c) <;> (try split at c) <;> omega
    rw [show dg x = dig x.natAbs from rfl, show dg y = dig y.natAbs from rfl, cmpDigits_eq N x.natAbs y.natAbs (by unfold dg at lx; omega) (by unfold dg at ly; omega) (by unfold dg at lx; omega)]
    by_cases e : x.natAbs = y.natAbs
    · have : x + y = 0 := by omega
      rw [this, e, Int.sub_self, show sn 0 = 0 from rfl, cond_pos rfl, dg_zero]
    · have n1 : ¬ (sn ((x.natAbs : Int) - y.natAbs) = 0) := by unfold sn; split <;> (try split) <;> omega
      rw [cond_neg n1]
      unfold dg at lx ly
      by_cases c2 : y.natAbs < x.natAbs
      · rw [cond_pos (by unfold sn; rw [if_neg (by omega), if_neg (by omega)]; omega), subDigits_eq N _ _ (dig_ok _) (dig_ok _) (by omega) (by omega) (by omega) (by rw [val_dig, val_dig]; omega)]
        have e3 : (val (dig x.natAbs) - val (dig y.natAbs)).toNat = (x + y).natAbs := by rw [val_dig, val_dig]; omega
        rw [e3]
        have hl := Sm_len (Sm_le hx (show (x + y).natAbs ≤ x.natAbs by omega))
        unfold dg at hl
        refine wide_of N (sn x) _ (dig_ok _) (by omega) (by omega) (x + y) (by rw [val_dig]) ?_ k
        intro _
        unfold sn
        rcases hc with hc | hc
        · rw [if_neg (by omega), if_neg (by omega), if_neg (by omega), if_neg (by omega)]
        · rw [if_pos (by omega), if_pos (by omega)]
      · rw [cond_neg (by unfold sn; rw [if_pos (by omega)]; omega), subDigits_eq N _ _ (dig_ok _) (dig_ok _) (by omega) (by omega) (by omega) (by rw [val_dig, val_dig]; omega)]
        have e3 : (val (dig y.natAbs) - val (dig x.natAbs)).toNat = (x + y).natAbs := by rw [val_dig, val_dig]; omega
        rw [e3]
        have hl := Sm_len (Sm_le hy (show (x + y).natAbs ≤ y.natAbs by omega))
        unfold dg at hl
        refine wide_of N (sn y) _ (dig_ok _) (by omega) (by omega) (x + y) (by rw [val_dig]) ?_ k
        intro _
        unfold sn
        rcases hc with hc | hc
        · rw [if_pos (by omega), if_pos (by omega)]
        · rw [if_neg (by omega), if_neg (by omega), if_neg (by omega), if_neg (by omega)]
theorem WideSub_eq (N m : Nat) (hm : m ≤ 1000) (hN : 2000 ≤ N) {x y : Int} (hx : Sm m x) (hy : Sm m y) (k : Int → List Int → Option R) :
    ratchetbase_WideSub N (sn x) (dg x) (sn y) (dg y) k = k (sn (x - y)) (dg (x - y)) := by
  unfold ratchetbase_WideSub
  rw [WideNeg_eq, WideAdd_eq N m hm hN hx (Sm_neg hy), ← Int.sub_eq_add_neg]
theorem WideCmp_eq (N m : Nat) (hm : m ≤ 1000) (hN : 2000 ≤ N) {x y : Int} (hx : Sm m x) (hy : Sm m y) (k : Int → Option R) :
    ratchetbase_WideCmp N (sn x) (dg x) (sn y) (dg y) k = k (sn (x - y)) := by
  unfold ratchetbase_WideCmp
  rw [WideSub_eq N m hm hN hx hy]

/-! ### Numbers made wide -/
theorem WideOf_loop (N : Nat) (k0 : Int → Int → Option R) (k1 : Int → Int → List Int → Option R) (s z : Int) : ∀ (m n : Nat) (b : Int) (acc : List Int), b.natAbs < 1000000000 ^ m → b.natAbs ≤ 9223372036854775807 → m < n → dOK acc → acc.length + m ≤ 1000 →
    ∃ out, ratchetbase_WideOf_l0 N k0 k1 n b s z acc = k1 s z out ∧ dOK out ∧ out.length ≤ acc.length + m ∧ val out = val acc + bpow acc.length * (b.natAbs : Int) := by
  intro m
  induction m with
  | zero =>
    intro n b acc h1 h2 h3 h4 h5
    obtain ⟨n, rfl⟩ : ∃ q, n = q + 1 := ⟨n - 1, by omega⟩
    have : b = 0 := by
      have : b.natAbs < 1 := by simpa using h1
      omega
    subst this
    exact ⟨acc, by rw [ratchetbase_WideOf_l0, cond_neg (by simp)], h4, by omega, by simp⟩
  | succ m ih =>
    intro n b acc h1 h2 h3 h4 h5
    obtain ⟨n, rfl⟩ : ∃ q, n = q + 1 := ⟨n - 1, by omega⟩
    rw [ratchetbase_WideOf_l0]
    by_cases hb : b = 0
    · subst hb
      exact ⟨acc, by rw [cond_neg (by simp)], h4, by omega, by simp⟩
    · rw [cond_pos hb]
      unfold ratchetbase_Size
      have t1 : (Int.tmod b 1000000000).natAbs = b.natAbs % 1000000000 := Int.natAbs_tmod b 1000000000
      have t2 : (Int.tdiv b 1000000000).natAbs = b.natAbs / 1000000000 := Int.natAbs_tdiv b 1000000000
      rw [w64_id (x := 0 - Int.tmod b 1000000000) (by omega) (by omega), w64_id (x := Int.tdiv b 1000000000) (by omega) (by omega), roomB_of (by omega)]
      simp only [cond_true]
      have e : max (Int.tmod b 1000000000) (0 - Int.tmod b 1000000000) = ((b.natAbs % 1000000000 : Nat) : Int) := by omega
      rw [e]
      rw [Nat.pow_succ] at h1
      obtain ⟨out, q1, q2, q3, q4⟩ := ih n (Int.tdiv b 1000000000) (acc ++ [((b.natAbs % 1000000000 : Nat) : Int)]) (by rw [t2]; exact (Nat.div_lt_iff_lt_mul (by omega)).2 h1) (by omega) (by omega) (dOK_app h4 (dOK_cons (by omega) dOK_nil)) (by simp; omega)
      refine ⟨out, q1, q2, by simp at q3; omega, ?_⟩
      rw [q4, val_snoc, List.length_append, List.length_singleton, bpow_succ, t2, Int.mul_comm 1000000000 (bpow _), Int.mul_assoc, Int.add_assoc, ← Int.mul_add]
      congr 2; omega
theorem WideOf_eq (N : Nat) (hN : 2000 ≤ N) (x : Int) (h1 : -9223372036854775807 ≤ x) (h2 : x ≤ 9223372036854775807) (k : Int → List Int → Option R) : ratchetbase_WideOf N x k = k (sn x) (dg x) := by
  have hj : ∀ s : Int, (x ≠ 0 → s = sn x) → ratchetbase_WideOf_j0 N (fun z11 z12 => (k z11 z12)) x s 0 = k (sn x) (dg x) := by
    intro s hs
    unfold ratchetbase_WideOf_j0
    obtain ⟨out, q1, q2, q3, q4⟩ := WideOf_loop N (fun z2 z3 => (ratchetbase_wideOf N z2 [] (fun y4 y5 => (k y4 y5)))) (fun z6 z7 z8 => (ratchetbase_wideOf N z6 z8 (fun y9 y10 => (k y9 y10)))) s 0 3 N x [] (by omega) (by omega) (by omega) dOK_nil (by simp)
    rw [q1]
    refine wide_of N s out q2 (by simp at q3; omega) (by simp at q3; omega) x ?_ hs k
    rw [q4]; simp [val, bpow_zero]
  unfold ratchetbase_WideOf
  by_cases h : x < 0
  · rw [cond_pos h]; exact hj (-1) (fun _ => by unfold sn; rw [if_pos h])
  · rw [cond_neg h]; exact hj 1 (fun h0 => by unfold sn; rw [if_neg h, if_neg h0])
/-! ### Products -/
theorem val_set : ∀ {l : List Int} {j : Nat} (v : Int), j < l.length → val (l.set j v) = val l + bpow j * (v - dat l j)
  | [], j, v, h => by simp at h
  | d :: l, 0, v, _ => by rw [List.set_cons_zero, val, val, bpow_zero, dat_lt (by simp)]; simp; omega
  | d :: l, j + 1, v, h => by
    have h' : j < l.length := by simpa using h
    rw [List.set_cons_succ, val, val_set v h', val, bpow_succ, Int.mul_assoc, Int.mul_add]
    have : dat (d :: l) (j + 1) = dat l j := by rw [dat_lt h, dat_lt h']; simp
    rw [this]; omega
theorem dat_set_ne {l : List Int} {i j : Nat} (v : Int) (h : i ≠ j) : dat (l.set i v) j = dat l j := by
  unfold dat; rw [List.getElem?_set_ne h]
theorem dig_mul {a b : Int} (ha : 0 ≤ a ∧ a < 1000000000) (hb : 0 ≤ b ∧ b < 1000000000) : 0 ≤ a * b ∧ a * b ≤ 999999998000000001 := by
  refine ⟨Int.mul_nonneg ha.1 hb.1, ?_⟩
  have := Int.mul_le_mul (show a ≤ 999999999 by omega) (show b ≤ 999999999 by omega) hb.1 (by omega)
  omega
theorem mul_inner (N : Nat) (k0 : Int → Int → Int → List Int → Int → List Int → Int → List Int → Option R) (A B : List Int) (hA : dOK A) (hB : dOK B) (la : A.length ≤ 900) (lb : B.length ≤ 900) (i : Nat) (hi : i < A.length) (s1 s2 z V : Int) :
    ∀ (n k : Nat) (c : Int) (out : List Int), B.length < n + k → k ≤ B.length → 0 ≤ c ∧ c < 1000000000 → dOK out → out.length = A.length + B.length + 1 → (∀ j, i + B.length ≤ j → dat out j = 0) → val out + bpow (i + k) * (c + A[i] * val (B.drop k)) = V →
    ∃ c' out', ratchetbase_WideMul_l1 N k0 n i c k s1 A s2 B z out = k0 i c' s1 A s2 B z out' ∧ (0 ≤ c' ∧ c' < 1000000000) ∧ dOK out' ∧ out'.length = A.length + B.length + 1 ∧ (∀ j, i + B.length ≤ j → dat out' j = 0) ∧ val out' + bpow (i + B.length) * c' = V := by
  intro n
  induction n with
  | zero => intro k c out h1 h2; omega
  | succ n ih =>
    intro k c out h1 h2 hc ho hl hz hV
    rw [ratchetbase_WideMul_l1]
    by_cases hk : k < B.length
    · have e1 : w64 ((i : Int) + (k : Int)) = ((i + k : Nat) : Int) := by rw [w64_id (by omega) (by omega)]; omega
      have hj : i + k < out.length := by omega
      have hx := dat_ok ho (i + k)
      have ha := hA _ (List.getElem_mem hi)
      have hb := hB _ (List.getElem_mem hk)
      have hab := dig_mul ha hb
      rw [cond_pos (by omega), e1, inR_nat, decide_eq_true hj, cond_true, Int.toNat_natCast, List.getElem?_eq_getElem hj, some_bind', at?_lt hi, some_bind', at?_lt hk, some_bind', some_bind', ← dat_lt hj,
        w64_id (x := A[i] * B[k]) (by omega) (by omega), w64_id (x := dat out (i + k) + A[i] * B[k]) (by omega) (by omega), w64_id (x := dat out (i + k) + A[i] * B[k] + c) (by omega) (by omega)]
      have e2 : Int.tdiv (dat out (i + k) + A[i] * B[k] + c) 1000000000 = (dat out (i + k) + A[i] * B[k] + c) / 1000000000 := Int.tdiv_eq_ediv_of_nonneg (by omega)
      have e3 : Int.tmod (dat out (i + k) + A[i] * B[k] + c) 1000000000 = (dat out (i + k) + A[i] * B[k] + c) % 1000000000 := Int.tmod_eq_emod_of_nonneg (by omega)
      rw [e2, e3, w64_id (x := (dat out (i + k) + A[i] * B[k] + c) / 1000000000) (by omega) (by omega), w64_succ (by omega)]
      refine ih (k + 1) _ _ (by omega) (by omega) (by omega) (dOK_set ho _ (by omega)) (by rw [List.length_set]; exact hl) (fun j hj' => by rw [dat_set_ne _ (by omega)]; exact hz j hj') ?_
      rw [val_set _ hj, ← hV, val_drop B k, dat_lt hk, show i + (k + 1) = (i + k) + 1 by omega, bpow_succ]
      have e4 : A[i] * (B[k] + 1000000000 * val (B.drop (k + 1))) = A[i] * B[k] + 1000000000 * (A[i] * val (B.drop (k + 1))) := by
        rw [Int.mul_add]; congr 1
        rw [Int.mul_left_comm]
      rw [e4]
      generalize A[i] * val (B.drop (k + 1)) = q
      generalize A[i] * B[k] = p
      generalize dat out (i + k) = x
      rw [Int.mul_comm 1000000000 (bpow _), Int.mul_assoc, Int.add_assoc, ← Int.mul_add]
      congr 2; omega
    · rw [cond_neg (by omega)]
      have hk' : k = B.length := by omega
      subst hk'
      refine ⟨c, out, rfl, hc, ho, hl, hz, ?_⟩
      rw [← hV, List.drop_eq_nil_of_le (Nat.le_refl _)]
      simp [val]
theorem mul_outer (N : Nat) (hN : 2000 ≤ N) (k0 : Int → List Int → Int → List Int → Int → List Int → Option R) (A B : List Int) (hA : dOK A) (hB : dOK B) (la : A.length ≤ 900) (lb : B.length ≤ 900) (s1 s2 z : Int) :
    ∀ (n i : Nat) (out : List Int), A.length < n + i → i ≤ A.length → dOK out → out.length = A.length + B.length + 1 → (∀ j, i + B.length ≤ j → dat out j = 0) → val out + bpow i * (val (A.drop i) * val B) = val A * val B →
    ∃ out', ratchetbase_WideMul_l0 N k0 n i s1 A s2 B z out = k0 s1 A s2 B z out' ∧ dOK out' ∧ out'.length = A.length + B.length + 1 ∧ val out' = val A * val B := by
  intro n
  induction n with
  | zero => intro i out h1 h2; omega
  | succ n ih =>
    intro i out h1 h2 ho hl hz hV
    rw [ratchetbase_WideMul_l0]
    by_cases hi : i < A.length
    · rw [cond_pos (by omega)]
      obtain ⟨c', out', q1, q2, q3, q4, q5, q6⟩ := mul_inner N (fun z5 z6 z7 z8 z9 z10 z11 z12 => (bif inR (w64 (z5 + ((z10.length : Nat) : Int))) z12.length then ((z12[(w64 (z5 + ((z10.length : Nat) : Int))).toNat]?).bind fun x13 => (bif inR (w64 (z5 + ((z10.length : Nat) : Int))) z12.length then ((z12[(w64 (z5 + ((z10.length : Nat) : Int))).toNat]?).bind fun x14 => (ratchetbase_WideMul_l0 N k0 n (w64 (z5 + 1)) z7 z8 z9 z10 z11 (List.set z12 ((w64 (z5 + ((z10.length : Nat) : Int))).toNat) (w64 (x13 + z6))))) else none)) else none)) A B hA hB la lb i hi s1 s2 z (val out + bpow i * (A[i] * val B)) N 0 0 out (by omega) (by omega) (by omega) ho hl hz (by simp)
      rw [Int.natCast_zero] at q1
      rw [q1]
      have hj : i + B.length < out'.length := by omega
      have e1 : w64 ((i : Int) + ((B.length : Nat) : Int)) = ((i + B.length : Nat) : Int) := by rw [w64_id (by omega) (by omega)]; omega
      have hx := q5 (i + B.length) (Nat.le_refl _)
      rw [e1, inR_nat, decide_eq_true hj, cond_true, Int.toNat_natCast, List.getElem?_eq_getElem hj, some_bind', cond_true, some_bind', ← dat_lt hj, hx, Int.zero_add, w64_id (x := c') (by omega) (by omega), w64_succ (by omega)]
      refine ih (i + 1) _ (by omega) (by omega) (dOK_set q3 _ q2) (by rw [List.length_set]; exact q4) (fun j hj' => by rw [dat_set_ne _ (by omega)]; exact q5 j (by omega)) ?_
      rw [val_set _ hj, hx, Int.sub_zero, q6, ← hV, val_drop A i, dat_lt hi, bpow_succ, Int.add_mul, Int.mul_assoc 1000000000 (val _) (val B), Int.mul_comm 1000000000 (bpow i), Int.mul_assoc, Int.add_assoc, ← Int.mul_add]
    · rw [cond_neg (by omega)]
      have hi' : i = A.length := by omega
      subst hi'
      refine ⟨out, rfl, ho, hl, ?_⟩
      rw [← hV, List.drop_eq_nil_of_le (Nat.le_refl _)]
      simp [val]
theorem dOK_zeros (n : Nat) : dOK (List.replicate n 0) := fun x hx => by
  rw [(List.mem_replicate.1 hx).2]; omega
theorem val_zeros : ∀ n : Nat, val (List.replicate n 0) = 0
  | 0 => rfl
  | n + 1 => by rw [List.replicate_succ, val, val_zeros n]; rfl
theorem dat_zeros (n j : Nat) : dat (List.replicate n 0) j = 0 := by
  unfold dat
  by_cases h : j < n
  · rw [List.getElem?_replicate_of_lt h]; rfl
  · rw [List.getElem?_eq_none (by simpa using h)]; rfl
theorem sn_mul (x y : Int) : sn (x * y) = sn x * sn y := by
  rcases Int.lt_trichotomy x 0 with hx | rfl | hx <;> rcases Int.lt_trichotomy y 0 with hy | rfl | hy
  · have := Int.mul_pos_of_neg_of_neg hx hy
    unfold sn; rw [if_neg (by omega), if_neg (by omega), if_pos hx, if_pos hy]; rfl
  · rw [Int.mul_zero]; unfold sn; simp
  · have := Int.mul_neg_of_neg_of_pos hx hy
    unfold sn; rw [if_pos this, if_pos hx, if_neg (by omega), if_neg (by omega)]; rfl
  · rw [Int.zero_mul]; unfold sn; simp
  · rfl
  · rw [Int.zero_mul]; unfold sn; simp
  · have := Int.mul_neg_of_pos_of_neg hx hy
    unfold sn; rw [if_pos this, if_neg (by omega), if_neg (by omega), if_pos hy]; rfl
  · rw [Int.mul_zero]; unfold sn; simp
  · have := Int.mul_pos hx hy
    unfold sn; rw [if_neg (by omega), if_neg (by omega), if_neg (by omega), if_neg (by omega), if_neg (by omega), if_neg (by omega)]; rfl
theorem WideMul_eq (N m : Nat) (hm : m ≤ 400) (hN : 2000 ≤ N) {x y : Int} (hx : Sm m x) (hy : Sm m y) (k : Int → List Int → Option R) :
    ratchetbase_WideMul N (sn x) (dg x) (sn y) (dg y) k = k (sn (x * y)) (dg (x * y)) := by
  have lx := Sm_len hx
  have ly := Sm_len hy
  unfold ratchetbase_WideMul
  have e : w64 ((w64 ((((dg x).length : Nat) : Int) + (((dg y).length : Nat) : Int))) + 1) = (((dg x).length + (dg y).length + 1 : Nat) : Int) := by
    rw [w64_id (x := (((dg x).length : Nat) : Int) + _) (by omega) (by omega), w64_id (by omega) (by omega)]; omega
  rw [e, cond_pos (by omega), Int.toNat_natCast, roomB_of (by omega), cond_true]
  obtain ⟨out, q1, q2, q3, q4⟩ := mul_outer N hN (fun z15 z16 z17 z18 z19 z20 => (ratchetbase_wideOf N (w64 (z15 * z17)) z20 (fun y21 y22 => (k y21 y22)))) (dg x) (dg y) (dg_ok x) (dg_ok y) (by omega) (by omega) (sn x) (sn y) 0 N 0 (List.replicate ((dg x).length + (dg y).length + 1) 0) (by omega) (by omega) (dOK_zeros _) (by simp) (fun j _ => dat_zeros _ j) (by rw [val_zeros, bpow_zero, List.drop_zero]; omega)
  rw [Int.natCast_zero] at q1
  rw [q1]
  have sx := sn_range x
  have sy := sn_range y
  have hs : -1 ≤ sn x * sn y ∧ sn x * sn y ≤ 1 := by rw [← sn_mul]; exact sn_range _
  refine wide_of N _ out q2 (by omega) (by omega) (x * y) ?_ (fun _ => ?_) k
  · rw [q4, val_dg, val_dg, Int.natAbs_mul]; omega
  · rw [w64_id (by omega) (by omega), sn_mul]

/-! ### Quotients -/
theorem find_loop (N : Nat) (hN : 2000 ≤ N) (m : Nat) (hm : m ≤ 300) (k0 : List Int → Int → Int → Int → List Int → Int → List Int → Int → List Int → Option R) (r y i s1 s2 z : Int) (A q : List Int) (hy : 0 < y) (hys : Sm m y) (hr : 0 ≤ r) (hrs : Sm (m + 1) r) (hQ : r / y ≤ 999999999) :
    ∀ (t n : Nat) (lo hi : Int), (hi - lo).toNat < 2 ^ t → t < n → 0 ≤ lo → lo ≤ r / y → r / y ≤ hi → hi ≤ 999999999 →
    ratchetbase_WideFloor_l1 N k0 n (dg r) i lo hi s1 A s2 (dg y) z q = k0 (dg r) i (r / y) s1 A s2 (dg y) z q := by
  intro t
  induction t with
  | zero =>
    intro n lo hi h1 h2 h3 h4 h5 h6
    obtain ⟨n, rfl⟩ : ∃ q, n = q + 1 := ⟨n - 1, by omega⟩
    have : hi - lo = 0 := by omega
    rw [ratchetbase_WideFloor_l1, cond_neg (by omega), show lo = r / y by omega]
  | succ t ih =>
    intro n lo hi h1 h2 h3 h4 h5 h6
    obtain ⟨n, rfl⟩ : ∃ q, n = q + 1 := ⟨n - 1, by omega⟩
    rw [ratchetbase_WideFloor_l1]
    by_cases c : lo < hi
    · have hly := Sm_len hys
      have e1 : w64 (Int.tdiv (w64 ((w64 (lo + hi)) + 1)) 2) = (lo + hi + 1) / 2 := by
        rw [w64_id (x := lo + hi) (by omega) (by omega), w64_id (x := lo + hi + 1) (by omega) (by omega), Int.tdiv_eq_ediv_of_nonneg (by omega), w64_id (by omega) (by omega)]
      rw [cond_pos c, wide_of N 1 (dg y) (dg_ok y) (by omega) (by omega) y (val_dg y) (fun _ => by unfold sn; rw [if_neg (by omega), if_neg (by omega)]), e1]
      generalize hM : (lo + hi + 1) / 2 = M
      have hM1 : lo < M ∧ M ≤ hi := by omega
      have hMs : Sm 1 M := by unfold Sm; omega
      rw [WideOf_eq N (by omega) M (by omega) (by omega), WideMul_eq N (m + 1) (by omega) hN (Sm_mono hys (by omega)) (Sm_mono hMs (by omega))]
      have hyM : 0 ≤ y * M := Int.mul_nonneg (by omega) (by omega)
      have hl1 := Sm_len (Sm_mul hys hMs)
      have hl2 := Sm_len hrs
      unfold dg at hl1 hl2
      rw [show dg (y * M) = dig (y * M).natAbs from rfl, show dg r = dig r.natAbs from rfl, cmpDigits_eq N _ _ (by omega) (by omega) (by omega)]
      have e2 : (((y * M).natAbs : Int) - (r.natAbs : Int)) = y * M - r := by omega
      rw [e2]
      have e3 : M ≤ r / y ↔ y * M ≤ r := by rw [Int.le_ediv_iff_mul_le hy, Int.mul_comm]
      rw [Nat.pow_succ] at h1
      by_cases d : y * M ≤ r
      · rw [cond_pos (by unfold sn; split <;> (try split) <;> omega)]
        exact ih n M hi (by omega) (by omega) (by omega) (e3.2 d) h5 h6
      · rw [cond_neg (by unfold sn; rw [if_neg (by omega), if_neg (by omega)]; omega), w64_id (by omega) (by omega)]
        have : ¬ (M ≤ r / y) := fun h => d (e3.1 h)
        exact ih n lo (M - 1) (by omega) (by omega) h3 h4 (by omega) (by omega)
    · rw [cond_neg c, show lo = r / y by omega]
theorem round (N : Nat) (hN : 2000 ≤ N) (m : Nat) (hm : m ≤ 300) (G : List Int → Int → Int → List Int → Int → List Int → Int → List Int → Option R) (r y s1 s2 z : Int) (j : Nat) (A q : List Int) (hj : j < q.length) (hjl : j ≤ 100000) (hy : 0 < y) (hys : Sm m y) (hr : 0 ≤ r) (hrs : Sm (m + 1) r) (hQ : r / y ≤ 999999999) :
    ratchetbase_WideFloor_l1 N (fun z8 z9 z10 z11 z12 z13 z14 z15 z16 => (bif inR z9 z16.length then ((z16[z9.toNat]?).bind fun x17 => (ratchetbase_wideOf N 1 z14 (fun y18 y19 => (ratchetbase_WideOf N z10 (fun y20 y21 => (ratchetbase_WideMul N y18 y19 y20 y21 (fun y22 y23 => (ratchetbase_subDigits N z8 y23 (fun y24 => (G y24 (w64 (z9 - 1)) z11 z12 z13 z14 z15 (List.set z16 z9.toNat z10))))))))))) else none)) N (dg r) j 0 999999999 s1 A s2 (dg y) z q =
      G (dg (r % y)) ((j : Int) - 1) s1 A s2 (dg y) z (q.set j (r / y)) := by
  have hq0 : 0 ≤ r / y := Int.ediv_nonneg hr (by omega)
  have hly := Sm_len hys
  rw [find_loop N hN m hm _ r y j s1 s2 z A q hy hys hr hrs hQ 30 N 0 999999999 (by omega) (by omega) (by omega) hq0 hQ (by omega)]
  have hMs : Sm 1 (r / y) := by unfold Sm; omega
  rw [inR_nat, decide_eq_true hj, cond_true, Int.toNat_natCast, List.getElem?_eq_getElem hj, some_bind', wide_of N 1 (dg y) (dg_ok y) (by omega) (by omega) y (val_dg y) (fun _ => by unfold sn; rw [if_neg (by omega), if_neg (by omega)]),
    WideOf_eq N (by omega) (r / y) (by omega) (by omega), WideMul_eq N (m + 1) (by omega) hN (Sm_mono hys (by omega)) (Sm_mono hMs (by omega))]
  have hyM : 0 ≤ y * (r / y) := Int.mul_nonneg (by omega) hq0
  have hsum := Int.mul_ediv_add_emod r y
  have hmod := Int.emod_nonneg r (show y ≠ 0 by omega)
  have hl1 := Sm_len (Sm_mul hys hMs)
  have hl2 := Sm_len hrs
  have hv1 := val_dg r
  have hv2 := val_dg (y * (r / y))
  rw [subDigits_eq N _ _ (dg_ok _) (dg_ok _) (by omega) (by omega) (by omega) (by rw [hv1, hv2]; omega), hv1, hv2, w64_id (by omega) (by omega)]
  have e : (((r.natAbs : Nat) : Int) - (((y * (r / y)).natAbs : Nat) : Int)).toNat = (r % y).natAbs := by omega
  rw [e]
  rfl
theorem drop_set {l : List Int} {j : Nat} (v : Int) (h : j < l.length) : (l.set j v).drop j = v :: l.drop (j + 1) := by
  rw [drop_cons (show j < (l.set j v).length by rw [List.length_set]; exact h), List.getElem_set_self]
  congr 1
  rw [List.drop_set_of_lt (by omega)]
theorem quot {a r y : Int} (ha : 0 ≤ a ∧ a < 1000000000) (hr : 0 ≤ r ∧ r < y) : (a + 1000000000 * r) / y ≤ 999999999 := by
  have : (a + 1000000000 * r) / y < 1000000000 := by
    rw [Int.ediv_lt_iff_lt_mul (by omega)]
    omega
  omega
theorem Sm_step {m : Nat} {a r y : Int} (ha : 0 ≤ a ∧ a < 1000000000) (hr : 0 ≤ r ∧ r < y) (hy : Sm m y) : Sm (m + 1) (a + 1000000000 * r) := by
  unfold Sm at *
  rw [Nat.pow_succ]
  omega
theorem trim_dg (N : Nat) (a r : Int) (ha : 0 ≤ a ∧ a < 1000000000) (hr : 0 ≤ r) (hl : (dg r).length ≤ 100000) (hN : (dg r).length + 1 < N) (k : List Int → Option R) : ratchetbase_trimmed N ([a] ++ dg r) k = k (dg (a + 1000000000 * r)) := by
  have e : val ([a] ++ dg r) = a + 1000000000 * r := by
    rw [List.singleton_append, val, val_dg]; omega
  rw [trimmed_eq N _ (dOK_app (dOK_cons ha dOK_nil) (dg_ok r)) (by simp; omega) (by simp; omega), e]
  unfold dg
  congr 2; omega
theorem trim_one (N : Nat) (a : Int) (ha : 0 ≤ a ∧ a < 1000000000) (hN : 1 < N) (k : List Int → Option R) : ratchetbase_trimmed N [a] k = k (dg a) := by
  have h0 : (dg 0).length = 0 := by rw [dg_zero]; rfl
  have ht := trim_dg N a 0 ha (by omega) (by omega) (by omega) k
  rw [dg_zero, List.append_nil, Int.mul_zero, Int.add_zero] at ht
  exact ht
/-- One step of the long division. -/
theorem div_step {A q : List Int} {i : Nat} {r y : Int} (hi : i < A.length) (hq : i < q.length) (hV : val (A.drop (i + 1)) = y * val (q.drop (i + 1)) + r) :
    val (A.drop i) = y * val ((q.set i ((A[i] + 1000000000 * r) / y)).drop i) + (A[i] + 1000000000 * r) % y := by
  rw [drop_set _ hq, drop_cons hi, val, val, hV]
  have := Int.mul_ediv_add_emod (A[i] + 1000000000 * r) y
  generalize (A[i] + 1000000000 * r) / y = u at this ⊢
  generalize (A[i] + 1000000000 * r) % y = v at this ⊢
  generalize val (q.drop (i + 1)) = p
  have e1 : y * (1000000000 * p) = 1000000000 * (y * p) := Int.mul_left_comm _ _ _
  rw [Int.mul_add y, e1]
  omega
theorem floor_loop (N : Nat) (hN : 2000 ≤ N) (m : Nat) (hm : m ≤ 300) (k0 : List Int → Int → List Int → Int → List Int → Option R) (y s1 s2 z : Int) (A : List Int) (hA : dOK A) (la : A.length ≤ 900) (hy : 0 < y) (hys : Sm m y) :
    ∀ (i n : Nat) (r : Int) (q : List Int), i ≤ A.length → i < n → 0 ≤ r ∧ r < y → dOK q → q.length = A.length → val (A.drop i) = y * val (q.drop i) + r →
    ∃ r' q', ratchetbase_WideFloor_l0 N k0 n (dg r) ((i : Int) - 1) s1 A s2 (dg y) z q = k0 (dg r') s1 A z q' ∧ (0 ≤ r' ∧ r' < y) ∧ dOK q' ∧ q'.length = A.length ∧ val A = y * val q' + r' := by
  intro i
  induction i with
  | zero =>
    intro n r q h1 h2 h3 h4 h5 h6
    obtain ⟨n, rfl⟩ : ∃ q, n = q + 1 := ⟨n - 1, by omega⟩
    exact ⟨r, q, by rw [ratchetbase_WideFloor_l0, cond_neg (by omega)], h3, h4, h5, by simpa using h6⟩
  | succ i ih =>
    intro n r q h1 h2 h3 h4 h5 h6
    obtain ⟨n, rfl⟩ : ∃ q, n = q + 1 := ⟨n - 1, by omega⟩
    have e : (((i + 1 : Nat) : Int) - 1) = (i : Int) := by omega
    have ha := hA _ (List.getElem_mem (show i < A.length by omega))
    have hrl := Sm_len (Sm_le hys (show r.natAbs ≤ y.natAbs by omega))
    rw [ratchetbase_WideFloor_l0, e, cond_pos (by omega), at?_lt (show i < A.length by omega), some_bind', roomB_of (by omega), cond_true, trim_dg N _ r ha h3.1 (by omega) (by omega)]
    rw [round N hN m hm (fun y19 z4 z6 z7 z8 z9 z10 z11 => ratchetbase_WideFloor_l0 N k0 n y19 z4 z6 z7 z8 z9 z10 z11) (A[i] + 1000000000 * r) y s1 s2 z i A q (by omega) (by omega) hy hys (by omega) (Sm_step ha h3 hys) (quot ha h3)]
    exact ih n _ _ (by omega) (by omega) ⟨Int.emod_nonneg _ (by omega), Int.emod_lt_of_pos _ hy⟩ (dOK_set h4 _ ⟨Int.ediv_nonneg (by omega) (by omega), by have := quot ha h3; omega⟩) (by rw [List.length_set]; exact h5) (div_step (by omega) (by omega) h6)
theorem WideFloor_eq (N m : Nat) (hm : m ≤ 300) (hN : 2000 ≤ N) {x y : Int} (hx : Sm m x) (hys : Sm m y) (hy : 0 < y) (k : Int → List Int → Option R) :
    ratchetbase_WideFloor N (sn x) (dg x) (sn y) (dg y) k = k (sn (x / y)) (dg (x / y)) := by
  have lx := Sm_len hx
  unfold ratchetbase_WideFloor
  by_cases x0 : x = 0
  · subst x0; rw [show sn 0 = 0 from rfl, cond_pos rfl, Int.zero_ediv, dg_zero]; rfl
  have sx0 : sn x ≠ 0 := by unfold sn; split <;> (try split) <;> omega
  have hlen : (dg x).length ≠ 0 := by unfold dg; rw [dig_pos (by omega)]; simp
  obtain ⟨i, hi⟩ : ∃ i, (dg x).length = i + 1 := ⟨(dg x).length - 1, by omega⟩
  have hA := dg_ok x
  have e : w64 ((((dg x).length : Nat) : Int) - 1) = (i : Int) := by rw [w64_id (by omega) (by omega)]; omega
  have ha := hA _ (List.getElem_mem (show i < (dg x).length by omega))
  rw [cond_neg sx0, cond_pos (by omega), roomB_of (by omega), cond_true, e, cond_pos (by omega), at?_lt (show i < (dg x).length by omega), some_bind']
  rw [trim_one N _ ha (by omega)]
  have hst := Sm_step (r := 0) ha ⟨Int.le_refl _, hy⟩ hys
  have hqt := quot (r := 0) ha ⟨Int.le_refl _, hy⟩
  rw [Int.mul_zero, Int.add_zero] at hst hqt
  have hds := div_step (A := dg x) (q := List.replicate (dg x).length 0) (i := i) (r := 0) (y := y) (by omega) (by simp; omega) (by rw [List.drop_eq_nil_of_le (by omega), List.drop_eq_nil_of_le (by simp; omega)]; simp [val])
  rw [Int.mul_zero, Int.add_zero] at hds
  obtain ⟨r', q', f1, f2, f3, f4, f5⟩ := floor_loop N hN m hm (fun z25 z26 z27 z28 z29 => (ratchetbase_wideOf N z26 z29 (fun y30 y31 => (bif decide (z26 < 0) then (bif decide (0 < ((z25.length : Nat) : Int)) then (ratchetbase_WideOf N 1 (fun y32 y33 => (ratchetbase_WideSub N y30 y31 y32 y33 (fun y34 y35 => (k y34 y35))))) else (k y30 y31)) else (k y30 y31))))) y (sn x) (sn y) 0 (dg x) hA (by omega) hy hys i N ((dg x)[i] % y) ((List.replicate (dg x).length 0).set i ((dg x)[i] / y)) (by omega) (by omega) ⟨Int.emod_nonneg _ (by omega), Int.emod_lt_of_pos _ hy⟩ (dOK_set (dOK_zeros _) _ ⟨Int.ediv_nonneg ha.1 (by omega), by omega⟩) (by simp) hds
  have hrd := round N hN m hm (fun y24 z9 z11 z12 z13 z14 z15 z16 => ratchetbase_WideFloor_l0 N (fun z25 z26 z27 z28 z29 => (ratchetbase_wideOf N z26 z29 (fun y30 y31 => (bif decide (z26 < 0) then (bif decide (0 < ((z25.length : Nat) : Int)) then (ratchetbase_WideOf N 1 (fun y32 y33 => (ratchetbase_WideSub N y30 y31 y32 y33 (fun y34 y35 => (k y34 y35))))) else (k y30 y31)) else (k y30 y31))))) N y24 z9 z11 z12 z13 z14 z15 z16) (dg x)[i] y (sn x) (sn y) 0 i (dg x) (List.replicate (dg x).length 0) (by simp; omega) (by omega) hy hys ha.1 hst hqt
  refine hrd.trans (f1.trans ?_)
  have hv := val_dg x
  have hq0 := val_nonneg f3
  have hsx : sn x = -1 ∧ x < 0 ∨ sn x = 1 ∧ 0 < x := by unfold sn; split <;> (try split) <;> omega
  have hxy : sn x * val q' = if x < 0 then -(val q') else val q' := by
    rcases hsx with ⟨h, h'⟩ | ⟨h, h'⟩
    · rw [h, if_pos h']; omega
    · rw [h, if_neg (by omega)]; omega
  have hqs : Sm m (val q') := by
    refine Sm_le hx ?_
    have : 1 * val q' ≤ y * val q' := Int.mul_le_mul_of_nonneg_right (by omega) hq0
    omega
  rw [wide_of N (sn x) q' f3 (by omega) (by omega) (sn x * val q') (by rw [hxy]; split <;> omega) (fun _ => by
    rw [hxy]
    rcases hsx with ⟨h, h'⟩ | ⟨h, h'⟩
    · rw [if_pos h', h]; unfold sn; rw [if_pos]; rw [hxy, if_pos h'] at *; omega
    · rw [if_neg (by omega), h]; unfold sn; rw [if_neg (by omega), if_neg]; rw [hxy, if_neg (by omega)] at *; omega)]
  rcases hsx with ⟨h, h'⟩ | ⟨h, h'⟩
  · rw [cond_pos (by omega)]
    by_cases hr0 : r' = 0
    · have : (dg r').length = 0 := by rw [hr0, dg_zero]; rfl
      rw [cond_neg (by omega), hxy, if_pos h']
      have hd : x / y = -(val q') := by
        have : x = -(val q') * y + 0 := by rw [Int.neg_mul, Int.mul_comm]; omega
        rw [this, Int.add_zero, Int.mul_ediv_cancel _ (by omega)]
      rw [hd]
    · have : (dg r').length ≠ 0 := by unfold dg; rw [dig_pos (by omega)]; simp
      rw [cond_pos (by omega), WideOf_eq N (by omega) 1 (by omega) (by omega), WideSub_eq N (m + 1) (by omega) (by omega) (by rw [hxy, if_pos h']; exact Sm_mono (Sm_neg hqs) (by omega)) (by unfold Sm; exact Nat.one_lt_pow (by omega) (by omega)), hxy, if_pos h']
      have hd : x / y = -(val q') - 1 := by
        have : x = (y - r') + (-(val q') - 1) * y := by
          rw [Int.sub_mul, Int.neg_mul, Int.one_mul, Int.mul_comm (val q') y]; omega
        rw [this, Int.add_mul_ediv_right _ _ (by omega), Int.ediv_eq_zero_of_lt (by omega) (by omega), Int.zero_add]
      rw [hd]
  · rw [cond_neg (by omega), hxy, if_neg (by omega)]
    have hd : x / y = val q' := by
      have : x = r' + val q' * y := by rw [Int.mul_comm]; omega
      rw [this, Int.add_mul_ediv_right _ _ (by omega), Int.ediv_eq_zero_of_lt (by omega) (by omega), Int.zero_add]
    rw [hd]

/-! ### Common divisors and quotients -/
theorem wgcd_one (N m : Nat) (hm : m ≤ 300) (hN : 2000 ≤ N) (k0 : Int → List Int → Int → Option R) (z : Int) (n : Nat) {x y : Int} (hx : 0 ≤ x) (hy : 0 < y) (sx : Sm m x) (sy : Sm m y) :
    ratchetbase_wideGcd_l0 N k0 (n + 1) (sn x) (dg x) (sn y) (dg y) z = ratchetbase_wideGcd_l0 N k0 n (sn y) (dg y) (sn (x % y)) (dg (x % y)) z := by
  rw [ratchetbase_wideGcd_l0]
  unfold ratchetbase_WideSign
  dsimp only
  have h0 := Int.ediv_nonneg hx (show 0 ≤ y by omega)
  have h1 := Int.ediv_le_self y hx
  have h2 := Int.mul_ediv_add_emod x y
  have h3 := Int.emod_nonneg x (show y ≠ 0 by omega)
  have h4 : 0 ≤ x / y * y := Int.mul_nonneg h0 (by omega)
  rw [Int.mul_comm] at h2
  rw [cond_pos (by unfold sn; rw [if_neg (by omega), if_neg (by omega)]; omega), WideFloor_eq N m hm hN sx sy hy, WideMul_eq N m (by omega) hN (Sm_le sx (by omega)) sy, WideSub_eq N m (by omega) (by omega) sx (Sm_le sx (by omega)), show x - x / y * y = x % y by omega]
theorem wgcd_zero (N : Nat) (k0 : Int → List Int → Int → Option R) (z : Int) (n : Nat) (x : Int) :
    ratchetbase_wideGcd_l0 N k0 (n + 1) (sn x) (dg x) (sn 0) (dg 0) z = k0 (sn x) (dg x) z := by
  rw [ratchetbase_wideGcd_l0]
  unfold ratchetbase_WideSign
  dsimp only
  rw [cond_neg (by simp [sn])]
theorem wgcd_loop (N m : Nat) (hm : m ≤ 300) (hN : 2000 ≤ N) (k0 : Int → List Int → Int → Option R) (z : Int) : ∀ (t n : Nat) (X Y : Nat), Sm m (X : Int) → Sm m (Y : Int) → Y < 2 ^ t → 2 * t + 1 ≤ n →
    ratchetbase_wideGcd_l0 N k0 n (sn X) (dg X) (sn Y) (dg Y) z = k0 (sn (Nat.gcd X Y : Nat)) (dg (Nat.gcd X Y : Nat)) z := by
  intro t
  induction t with
  | zero =>
    intro n X Y hX hY h1 h2
    obtain ⟨n, rfl⟩ : ∃ q, n = q + 1 := ⟨n - 1, by omega⟩
    have : Y = 0 := by omega
    subst this
    rw [Nat.gcd_zero_right]
    exact wgcd_zero N k0 z n X
  | succ t ih =>
    intro n X Y hX hY h1 h2
    obtain ⟨n, rfl⟩ : ∃ q, n = q + 1 := ⟨n - 1, by omega⟩
    by_cases hb : Y = 0
    · subst hb
      rw [Nat.gcd_zero_right]
      exact wgcd_zero N k0 z n X
    · rw [wgcd_one N m hm hN k0 z n (by omega) (by omega) hX hY, ← Int.natCast_emod]
      obtain ⟨n, rfl⟩ : ∃ q, n = q + 1 := ⟨n - 1, by omega⟩
      have hm1 := Nat.mod_lt X (show 0 < Y by omega)
      have hr1 : Sm m ((X % Y : Nat) : Int) := Sm_le hY (by omega)
      by_cases hr : X % Y = 0
      · rw [hr, gcd_step, hr, Nat.gcd_zero_right]
        exact wgcd_zero N k0 z n Y
      · have hm2 := Nat.mod_lt Y (show 0 < X % Y by omega)
        have h4 := half_mod (x := Y) (y := X % Y) (by omega) (by omega)
        rw [wgcd_one N m hm hN k0 z n (by omega) (by omega) hY hr1, ← Int.natCast_emod]
        rw [Nat.pow_succ] at h1
        rw [ih n (X % Y) (Y % (X % Y)) hr1 (Sm_le hY (by omega)) (by omega) (by omega), ← gcd_step Y, ← gcd_step X]
theorem Sm_pow {m Y : Nat} (h : Sm m (Y : Int)) : Y < 2 ^ (30 * m) := by
  unfold Sm at h
  have : (1000000000 : Nat) ^ m ≤ (2 ^ 30) ^ m := Nat.pow_le_pow_left (by omega) m
  rw [Nat.pow_mul]
  omega
theorem wideSize_eq (N : Nat) (x : Int) (k : Int → List Int → Option R) : ratchetbase_wideSize N (sn x) (dg x) k = k (sn ((x.natAbs : Nat) : Int)) (dg ((x.natAbs : Nat) : Int)) := by
  unfold ratchetbase_wideSize
  by_cases h : x < 0
  · rw [cond_pos (by unfold sn; rw [if_pos h]; omega), WideNeg_eq, show -x = ((x.natAbs : Nat) : Int) by omega]
  · rw [cond_neg (by unfold sn; rw [if_neg h]; split <;> omega), show ((x.natAbs : Nat) : Int) = x by omega]
theorem wideGcd_eq (N m : Nat) (hm : m ≤ 30) (hN : 2000 ≤ N) {x y : Int} (hx : Sm m x) (hy : Sm m y) (k : Int → List Int → Option R) :
    ratchetbase_wideGcd N (sn x) (dg x) (sn y) (dg y) k = k (sn (gcI x y)) (dg (gcI x y)) := by
  unfold ratchetbase_wideGcd gcI
  have h2 : Sm m ((y.natAbs : Nat) : Int) := Sm_le hy (by omega)
  rw [wideSize_eq, wideSize_eq]
  exact wgcd_loop N m (by omega) hN (fun z8 z9 z10 => (k z8 z9)) 0 (30 * m) N _ _ (Sm_le hx (by omega)) h2 (Sm_pow h2) (by omega)
def rn (x y : Int) : Int := (if y < 0 then -x else x) / gcI x y
def rd (x y : Int) : Int := ((y.natAbs : Nat) : Int) / gcI x y
theorem gcI_pos' {x y : Int} (hy : y ≠ 0) : 0 < gcI x y := by
  unfold gcI
  have := Nat.gcd_pos_of_pos_right x.natAbs (n := y.natAbs) (by omega)
  omega
theorem gcI_neg (x y : Int) : gcI (-x) (-y) = gcI x y := by unfold gcI; rw [Int.natAbs_neg, Int.natAbs_neg]
theorem make_j (N m : Nat) (hm : m ≤ 30) (hN : 2000 ≤ N) {x y : Int} (hx : Sm m x) (hy : Sm m y) (h0 : 0 < y) (b4 b5 : Int) (k : Int → List Int → Int → List Int → Option R) :
    ratchetbase_RatioMake_j0 N k (sn x) (dg x) (sn y) (dg y) b4 b5 = k (sn (x / gcI x y)) (dg (x / gcI x y)) (sn (y / gcI x y)) (dg (y / gcI x y)) := by
  have hg := gcI_pos (a := x) h0
  have hgl := gcI_le (a := x) h0
  have hgs : Sm m (gcI x y) := Sm_le hy (by omega)
  have hm1 : 1 ≤ m := by
    rcases Nat.eq_zero_or_pos m with rfl | h
    · unfold Sm at hy; simp at hy; omega
    · exact h
  unfold ratchetbase_RatioMake_j0
  rw [wideGcd_eq N m hm hN hx hy, WideOf_eq N hN 1 (by omega) (by omega), WideCmp_eq N m (by omega) hN hgs (by unfold Sm; exact Nat.one_lt_pow (by omega) (by omega))]
  by_cases h : gcI x y = 1
  · rw [h, Int.sub_self, cond_pos (by simp [sn]), Int.ediv_one, Int.ediv_one]
  · rw [cond_neg (by unfold sn; rw [if_neg (by omega), if_neg (by omega)]; omega), WideFloor_eq N m (by omega) hN hx hgs hg, WideFloor_eq N m (by omega) hN hy hgs hg]
theorem RatioMake_eq (N m : Nat) (hm : m ≤ 30) (hN : 2000 ≤ N) {x y : Int} (hx : Sm m x) (hy : Sm m y) (h0 : y ≠ 0) (k : Int → List Int → Int → List Int → Option R) :
    ratchetbase_RatioMake N (sn x) (dg x) (sn y) (dg y) k = k (sn (rn x y)) (dg (rn x y)) (sn (rd x y)) (dg (rd x y)) := by
  unfold ratchetbase_RatioMake ratchetbase_WideSign rn rd
  dsimp only
  by_cases h : y < 0
  · rw [cond_pos (by unfold sn; rw [if_pos h]; omega), WideNeg_eq, WideNeg_eq, make_j N m hm hN (Sm_neg hx) (Sm_neg hy) (by omega), gcI_neg, if_pos h, show ((y.natAbs : Nat) : Int) = -y by omega]
  · rw [cond_neg (by unfold sn; rw [if_neg h]; split <;> omega), make_j N m hm hN hx hy (by omega), if_neg h, show ((y.natAbs : Nat) : Int) = y by omega]
theorem rat_ok {x y : Int} (h0 : 0 < y) : 0 < rd x y ∧ rn x y * y = x * rd x y := by
  have hg := gcI_pos (a := x) h0
  have d1 : gcI x y ∣ x := by unfold gcI; exact Int.ofNat_dvd_left.2 (Nat.gcd_dvd_left _ _)
  have d2 : gcI x y ∣ y := by unfold gcI; exact Int.ofNat_dvd_left.2 (Nat.gcd_dvd_right _ _)
  unfold rn rd
  rw [if_neg (by omega), show ((y.natAbs : Nat) : Int) = y by omega]
  have e1 := Int.ediv_mul_cancel d1
  have e2 := Int.ediv_mul_cancel d2
  generalize gcI x y = g at *
  constructor
  · rcases Int.lt_trichotomy (y / g) 0 with h | h | h
    · have := Int.mul_neg_of_neg_of_pos h hg; omega
    · rw [h] at e2; omega
    · exact h
  · have : x / g * y = x / g * (y / g * g) := by rw [e2]
    rw [this, Int.mul_comm (y / g) g, ← Int.mul_assoc, e1]
theorem rn_sm {m : Nat} {x y : Int} (h0 : 0 < y) (hx : Sm m x) : Sm m (rn x y) := by
  have hg := gcI_pos (a := x) h0
  unfold rn
  rw [if_neg (by omega)]
  refine Sm_le hx ?_
  have := Int.natAbs_ediv_le_natAbs x (gcI x y)
  exact this
theorem rd_sm {m : Nat} {x y : Int} (h0 : 0 < y) (hy : Sm m y) : Sm m (rd x y) := by
  unfold rd
  refine Sm_le hy ?_
  have := Int.natAbs_ediv_le_natAbs ((y.natAbs : Nat) : Int) (gcI x y)
  omega
theorem RatioOf_eq (N : Nat) (hN : 2000 ≤ N) {x y : Int} (hx : Sm 2 x) (hy : Sm 2 y) (h0 : 0 < y) (k : Int → List Int → Int → List Int → Option R) :
    ratchetbase_RatioOf N x y k = k (sn (rn x y)) (dg (rn x y)) (sn (rd x y)) (dg (rd x y)) := by
  unfold Sm at hx hy
  unfold ratchetbase_RatioOf
  rw [WideOf_eq N hN x (by omega) (by omega), WideOf_eq N hN y (by omega) (by omega), RatioMake_eq N 2 (by omega) hN hx hy (by omega)]
theorem RatioSub_eq (N m : Nat) (hm : m ≤ 10) (hN : 2000 ≤ N) {a b c d : Int} (ha : Sm m a) (hb : Sm m b) (hc : Sm m c) (hd : Sm m d) (b0 : 0 < b) (d0 : 0 < d) (k : Int → List Int → Int → List Int → Option R) :
    ratchetbase_RatioSub N (sn a) (dg a) (sn b) (dg b) (sn c) (dg c) (sn d) (dg d) k = k (sn (rn (a * d - c * b) (b * d))) (dg (rn (a * d - c * b) (b * d))) (sn (rd (a * d - c * b) (b * d))) (dg (rd (a * d - c * b) (b * d))) := by
  have hbd := Int.mul_pos b0 d0
  unfold ratchetbase_RatioSub ratchetbase_RatioNeg ratchetbase_RatioAdd
  rw [WideNeg_eq]
  dsimp only
  rw [WideMul_eq N m (by omega) hN ha hd, WideMul_eq N m (by omega) hN (Sm_neg hc) hb, WideAdd_eq N (m + m) (by omega) hN (Sm_mul ha hd) (Sm_mul (Sm_neg hc) hb), WideMul_eq N m (by omega) hN hb hd,
    RatioMake_eq N (m + m + 1) (by omega) hN (Sm_add (Sm_mul ha hd) (Sm_mul (Sm_neg hc) hb)) (Sm_mono (Sm_mul hb hd) (by omega)) (by omega), Int.neg_mul, ← Int.sub_eq_add_neg]
theorem RatioCmp_eq (N m : Nat) (hm : m ≤ 30) (hN : 2000 ≤ N) {a b c d : Int} (ha : Sm m a) (hb : Sm m b) (hc : Sm m c) (hd : Sm m d) (k : Int → Option R) :
    ratchetbase_RatioCmp N (sn a) (dg a) (sn b) (dg b) (sn c) (dg c) (sn d) (dg d) k = k (sn (a * d - c * b)) := by
  unfold ratchetbase_RatioCmp
  rw [WideMul_eq N m (by omega) hN ha hd, WideMul_eq N m (by omega) hN hc hb, WideCmp_eq N (m + m) (by omega) hN (Sm_mul ha hd) (Sm_mul hc hb)]
theorem cross {a b c d x y z w : Int} (hb : 0 < b) (hd : 0 < d) (hy : 0 < y) (hw : 0 < w) (h1 : a * y = x * b) (h2 : c * w = z * d) (h : x * w ≤ z * y) : a * d ≤ c * b := by
  have e1 : (a * d) * (y * w) = (x * w) * (b * d) := by
    rw [show (a * d) * (y * w) = (a * y) * (d * w) by ac_rfl, h1]; ac_rfl
  have e2 : (c * b) * (y * w) = (z * y) * (b * d) := by
    rw [show (c * b) * (y * w) = (c * w) * (b * y) by ac_rfl, h2]; ac_rfl
  have h3 := Int.mul_le_mul_of_nonneg_right h (show 0 ≤ b * d from Int.le_of_lt (Int.mul_pos hb hd))
  rw [← e1, ← e2] at h3
  exact Int.le_of_mul_le_mul_right h3 (Int.mul_pos hy hw)
theorem sn_le {x : Int} : sn x ≤ 0 ↔ x ≤ 0 := by unfold sn; split <;> (try split) <;> omega

/-! ### Numbers of 64 bits without a sign -/
theorem wu (x : Int) : IntKind.wrap .u64 x = x % 18446744073709551616 := by
  show (if (false && decide (x % 2 ^ 64 ≥ 2 ^ (64 - 1))) = true then x % 2 ^ 64 - 2 ^ 64 else x % 2 ^ 64) = _
  simp
theorem wuN (n : Nat) : IntKind.wrap .u64 (n : Int) = ((n % 18446744073709551616 : Nat) : Int) := by rw [wu]; omega
theorem wu_id {x : Int} (h0 : 0 ≤ x) (h : x < 18446744073709551616) : IntKind.wrap .u64 x = x := by rw [wu]; exact Int.emod_eq_of_lt h0 h
theorem shrN (a n : Nat) (h : n ≤ 64) : shr' .u64 (a : Int) (n : Int) = ((a / 2 ^ n : Nat) : Int) := by
  unfold shr'
  have e : min (n : Int).toNat (IntKind.bits .u64) = n := by
    have : IntKind.bits .u64 = 64 := rfl
    omega
  rw [e, Int.fdiv_eq_ediv_of_nonneg _ (by exact_mod_cast Nat.zero_le _)]
  norm_cast
theorem shlN (a n : Nat) (h : n ≤ 64) : shl' .u64 (a : Int) (n : Int) = ((a * 2 ^ n % 18446744073709551616 : Nat) : Int) := by
  unfold shl'
  have e : min (n : Int).toNat (IntKind.bits .u64) = n := by
    have : IntKind.bits .u64 = 64 := rfl
    omega
  rw [e, ← wuN]
  congr 1
theorem ofInt_nat (a : Nat) : BitVec.ofInt (IntKind.bits .u64) (a : Int) = BitVec.ofNat 64 a := by
  show BitVec.ofInt 64 (a : Int) = _
  exact BitVec.ofInt_natCast 64 a
theorem andN {a b : Nat} (ha : a < 18446744073709551616) (hb : b < 18446744073709551616) : andI .u64 (a : Int) (b : Int) = ((a &&& b : Nat) : Int) := by
  unfold andI
  rw [ofInt_nat, ofInt_nat]
  have : (BitVec.ofNat 64 a &&& BitVec.ofNat 64 b).toNat = a &&& b := by
    rw [BitVec.toNat_and, BitVec.toNat_ofNat, BitVec.toNat_ofNat, Nat.mod_eq_of_lt ha, Nat.mod_eq_of_lt hb]
  show IntKind.wrap .u64 ((BitVec.ofNat 64 a &&& BitVec.ofNat 64 b).toNat : Int) = _
  rw [this, wuN, Nat.mod_eq_of_lt (Nat.lt_of_le_of_lt Nat.and_le_left ha)]
theorem and32 {a : Nat} (ha : a < 18446744073709551616) : andI .u64 (a : Int) 4294967295 = ((a % 4294967296 : Nat) : Int) := by
  have := andN ha (b := 4294967295) (by omega)
  rw [show ((4294967295 : Nat) : Int) = 4294967295 from rfl] at this
  rw [this, show (4294967295 : Nat) = 2 ^ 32 - 1 from rfl, Nat.and_two_pow_sub_one_eq_mod]
theorem orN {a b s : Nat} (hs : b < 2 ^ s) (hab : a * 2 ^ s + b < 18446744073709551616) : orI .u64 ((a * 2 ^ s : Nat) : Int) (b : Int) = ((a * 2 ^ s + b : Nat) : Int) := by
  unfold orI
  rw [ofInt_nat, ofInt_nat]
  have h1 : a * 2 ^ s < 18446744073709551616 := by omega
  have h2 : b < 18446744073709551616 := by omega
  have e : (BitVec.ofNat 64 (a * 2 ^ s) ||| BitVec.ofNat 64 b).toNat = a * 2 ^ s + b := by
    rw [BitVec.toNat_or, BitVec.toNat_ofNat, BitVec.toNat_ofNat, Nat.mod_eq_of_lt h1, Nat.mod_eq_of_lt h2]
    have := Nat.shiftLeft_add_eq_or_of_lt hs a
    rw [Nat.shiftLeft_eq] at this
    exact this.symm
  show IntKind.wrap .u64 ((BitVec.ofNat 64 (a * 2 ^ s) ||| BitVec.ofNat 64 b).toNat : Int) = _
  rw [e, wuN, Nat.mod_eq_of_lt hab]
theorem notN {a : Nat} (ha : a < 18446744073709551616) : notI .u64 (a : Int) = ((18446744073709551615 - a : Nat) : Int) := by
  unfold notI
  rw [ofInt_nat]
  have e0 : BitVec.ofInt (IntKind.bits .u64) (if (IntKind.u64).signed = true then -1 else (IntKind.u64).max) = BitVec.allOnes 64 := by
    show BitVec.ofInt 64 18446744073709551615 = BitVec.allOnes 64
    decide
  rw [e0]
  have : (BitVec.allOnes 64 ^^^ BitVec.ofNat 64 a).toNat = 18446744073709551615 - a := by
    rw [BitVec.allOnes_xor, BitVec.toNat_not, BitVec.toNat_ofNat, Nat.mod_eq_of_lt ha]
  show IntKind.wrap .u64 ((BitVec.allOnes 64 ^^^ BitVec.ofNat 64 a).toNat : Int) = _
  rw [this, wuN, Nat.mod_eq_of_lt (by omega)]

/-! ### math/bits.Div64 -/
/-- One digit of a quotient: its first guess is not too small; each round makes it one less. -/
theorem digit_loop0 (N : Nat) (k0 : Int → Int → Int → Int → Int → Int → Int → Int → Option R) {v y1 y0 u w Q : Nat} (z1 z6 : Int) (hv : v = y1 * 4294967296 + y0) (hy0 : y0 < 4294967296) (hy1 : y1 < 4294967296) (hy1' : 2147483648 ≤ y1) (hu : u < v) (hw : w < 4294967296) (hQ : Q = (u * 4294967296 + w) / v) :
    ∀ (n q r : Nat), q * y1 + r = u → Q ≤ q → r < 4294967296 → q - Q < n → q ≤ 4294967297 →
    bits_Div64_l0 N k0 n (v : Int) z1 (y1 : Int) (y0 : Int) (u : Int) (w : Int) z6 (q : Int) (r : Int) = k0 (v : Int) z1 (y1 : Int) (y0 : Int) (u : Int) (w : Int) z6 (Q : Int) := by
  have hvp : 0 < v := by omega
  have hQlt : Q < 4294967296 := by
    rw [hQ]; refine (Nat.div_lt_iff_lt_mul hvp).2 ?_
    have : (u + 1) * 4294967296 ≤ v * 4294967296 := Nat.mul_le_mul_right _ hu
    rw [Nat.mul_comm 4294967296]; omega
  have hdiv := Nat.div_add_mod (u * 4294967296 + w) v
  have hmod := Nat.mod_lt (u * 4294967296 + w) hvp
  rw [← hQ] at hdiv
  generalize (u * 4294967296 + w) % v = rem at hdiv hmod
  -- q * v against the dividend
  have cross : ∀ q r : Nat, q * y1 + r = u → q * v + r * 4294967296 = u * 4294967296 + q * y0 := by
    intro q r h
    rw [hv, ← h, Nat.mul_add, Nat.add_mul, ← Nat.mul_assoc]; omega
  have small : ∀ q : Nat, q * v ≤ u * 4294967296 + w → q ≤ Q := by
    intro q h; rw [hQ]; exact (Nat.le_div_iff_mul_le hvp).2 h
  have big : ∀ q : Nat, u * 4294967296 + w < q * v → Q < q := by
    intro q h; rw [hQ]; exact (Nat.div_lt_iff_lt_mul hvp).2 (by omega)
  intro n
  induction n with
  | zero => intro q r h1 h2 h3 h4; omega
  | succ n ih =>
    intro q r h1 h2 h3 h4 h5
    rw [bits_Div64_l0]
    have hqy : q * y0 ≤ 4294967297 * 4294967295 := Nat.mul_le_mul h5 (by omega)
    have c := cross q r h1
    -- a round
    have round : Q < q → (bif decide ((4294967296 : Int) ≤ IntKind.wrap .u64 ((r : Int) + (y1 : Int))) then k0 (v : Int) z1 (y1 : Int) (y0 : Int) (u : Int) (w : Int) z6 (IntKind.wrap .u64 ((q : Int) - 1)) else bits_Div64_l0 N k0 n (v : Int) z1 (y1 : Int) (y0 : Int) (u : Int) (w : Int) z6 (IntKind.wrap .u64 ((q : Int) - 1)) (IntKind.wrap .u64 ((r : Int) + (y1 : Int)))) = k0 (v : Int) z1 (y1 : Int) (y0 : Int) (u : Int) (w : Int) z6 (Q : Int) := by
      intro hlt
      have e1 : IntKind.wrap .u64 ((q : Int) - 1) = ((q - 1 : Nat) : Int) := by rw [wu_id (by omega) (by omega)]; omega
      have e2 : IntKind.wrap .u64 ((r : Int) + (y1 : Int)) = ((r + y1 : Nat) : Int) := by rw [wu_id (by omega) (by omega)]; omega
      rw [e1, e2]
      have h1' : (q - 1) * y1 + (r + y1) = u := by
        have : (q - 1) * y1 + y1 = q * y1 := by
          rw [← Nat.succ_mul]; congr 1; omega
        omega
      by_cases hb : 4294967296 ≤ r + y1
      · rw [cond_pos (by omega)]
        have c' := cross (q - 1) (r + y1) h1'
        have hq1 : q - 1 < 4294967296 := by
          refine Nat.lt_of_not_le fun hge => ?_
          have : 4294967296 * y1 ≤ (q - 1) * y1 := Nat.mul_le_mul_right _ hge
          omega
        have : (q - 1) * y0 ≤ 4294967295 * 4294967295 := Nat.mul_le_mul (by omega) (by omega)
        have : q - 1 ≤ Q := small _ (by omega)
        rw [show q - 1 = Q by omega]
      · rw [cond_neg (by omega)]
        exact ih (q - 1) (r + y1) h1' (by omega) (by omega) (by omega) (by omega)
    by_cases hq : 4294967296 ≤ q
    · rw [cond_pos (by omega)]
      exact round (by omega)
    · rw [cond_neg (by omega)]
      have hqy' : q * y0 ≤ 4294967295 * 4294967295 := Nat.mul_le_mul (by omega) (by omega)
      have e3 : IntKind.wrap .u64 (IntKind.wrap .u64 (4294967296 * (r : Int)) + (w : Int)) = ((4294967296 * r + w : Nat) : Int) := by
        rw [wu_id (x := 4294967296 * (r : Int)) (by omega) (by omega), wu_id (by omega) (by omega)]; omega
      have e4 : IntKind.wrap .u64 ((q : Int) * (y0 : Int)) = ((q * y0 : Nat) : Int) := by
        rw [show (q : Int) * (y0 : Int) = ((q * y0 : Nat) : Int) by simp, wu_id (by omega) (by omega)]
      rw [e3, e4]
      by_cases ht : 4294967296 * r + w < q * y0
      · rw [cond_pos (by omega)]
        exact round (big q (by omega))
      · rw [cond_neg (by omega)]
        have : q ≤ Q := small q (by omega)
        rw [show q = Q by omega]
/-- One digit of a quotient: its first guess is not too small; each round makes it one less. -/
theorem digit_loop1 (N : Nat) (k0 : Int → Int → Int → Int → Int → Int → Option R) {v y1 y0 u w Q : Nat} (z1 z5 z6 : Int) (hv : v = y1 * 4294967296 + y0) (hy0 : y0 < 4294967296) (hy1 : y1 < 4294967296) (hy1' : 2147483648 ≤ y1) (hu : u < v) (hw : w < 4294967296) (hQ : Q = (u * 4294967296 + w) / v) :
    ∀ (n q r : Nat), q * y1 + r = u → Q ≤ q → r < 4294967296 → q - Q < n → q ≤ 4294967297 →
    bits_Div64_l1 N k0 n (v : Int) z1 (y1 : Int) (y0 : Int) (w : Int) z5 (r : Int) z6 (q : Int) = k0 (v : Int) z1 (w : Int) z5 z6 (Q : Int) := by
  have hvp : 0 < v := by omega
  have hQlt : Q < 4294967296 := by
    rw [hQ]; refine (Nat.div_lt_iff_lt_mul hvp).2 ?_
    have : (u + 1) * 4294967296 ≤ v * 4294967296 := Nat.mul_le_mul_right _ hu
    rw [Nat.mul_comm 4294967296]; omega
  have hdiv := Nat.div_add_mod (u * 4294967296 + w) v
  have hmod := Nat.mod_lt (u * 4294967296 + w) hvp
  rw [← hQ] at hdiv
  generalize (u * 4294967296 + w) % v = rem at hdiv hmod
  -- q * v against the dividend
  have cross : ∀ q r : Nat, q * y1 + r = u → q * v + r * 4294967296 = u * 4294967296 + q * y0 := by
    intro q r h
    rw [hv, ← h, Nat.mul_add, Nat.add_mul, ← Nat.mul_assoc]; omega
  have small : ∀ q : Nat, q * v ≤ u * 4294967296 + w → q ≤ Q := by
    intro q h; rw [hQ]; exact (Nat.le_div_iff_mul_le hvp).2 h
  have big : ∀ q : Nat, u * 4294967296 + w < q * v → Q < q := by
    intro q h; rw [hQ]; exact (Nat.div_lt_iff_lt_mul hvp).2 (by omega)
  intro n
  induction n with
  | zero => intro q r h1 h2 h3 h4; omega
  | succ n ih =>
    intro q r h1 h2 h3 h4 h5
    rw [bits_Div64_l1]
    have hqy : q * y0 ≤ 4294967297 * 4294967295 := Nat.mul_le_mul h5 (by omega)
    have c := cross q r h1
    -- a round
    have round : Q < q → (bif decide ((4294967296 : Int) ≤ IntKind.wrap .u64 ((r : Int) + (y1 : Int))) then k0 (v : Int) z1 (w : Int) z5 z6 (IntKind.wrap .u64 ((q : Int) - 1)) else bits_Div64_l1 N k0 n (v : Int) z1 (y1 : Int) (y0 : Int) (w : Int) z5 (IntKind.wrap .u64 ((r : Int) + (y1 : Int))) z6 (IntKind.wrap .u64 ((q : Int) - 1))) = k0 (v : Int) z1 (w : Int) z5 z6 (Q : Int) := by
      intro hlt
      have e1 : IntKind.wrap .u64 ((q : Int) - 1) = ((q - 1 : Nat) : Int) := by rw [wu_id (by omega) (by omega)]; omega
      have e2 : IntKind.wrap .u64 ((r : Int) + (y1 : Int)) = ((r + y1 : Nat) : Int) := by rw [wu_id (by omega) (by omega)]; omega
      rw [e1, e2]
      have h1' : (q - 1) * y1 + (r + y1) = u := by
        have : (q - 1) * y1 + y1 = q * y1 := by
          rw [← Nat.succ_mul]; congr 1; omega
        omega
      by_cases hb : 4294967296 ≤ r + y1
      · rw [cond_pos (by omega)]
        have c' := cross (q - 1) (r + y1) h1'
        have hq1 : q - 1 < 4294967296 := by
          refine Nat.lt_of_not_le fun hge => ?_
          have : 4294967296 * y1 ≤ (q - 1) * y1 := Nat.mul_le_mul_right _ hge
          omega
        have : (q - 1) * y0 ≤ 4294967295 * 4294967295 := Nat.mul_le_mul (by omega) (by omega)
        have : q - 1 ≤ Q := small _ (by omega)
        rw [show q - 1 = Q by omega]
      · rw [cond_neg (by omega)]
        exact ih (q - 1) (r + y1) h1' (by omega) (by omega) (by omega) (by omega)
    by_cases hq : 4294967296 ≤ q
    · rw [cond_pos (by omega)]
      exact round (by omega)
    · rw [cond_neg (by omega)]
      have hqy' : q * y0 ≤ 4294967295 * 4294967295 := Nat.mul_le_mul (by omega) (by omega)
      have e3 : IntKind.wrap .u64 (IntKind.wrap .u64 (4294967296 * (r : Int)) + (w : Int)) = ((4294967296 * r + w : Nat) : Int) := by
        rw [wu_id (x := 4294967296 * (r : Int)) (by omega) (by omega), wu_id (by omega) (by omega)]; omega
      have e4 : IntKind.wrap .u64 ((q : Int) * (y0 : Int)) = ((q * y0 : Nat) : Int) := by
        rw [show (q : Int) * (y0 : Int) = ((q * y0 : Nat) : Int) by simp, wu_id (by omega) (by omega)]
      rw [e3, e4]
      by_cases ht : 4294967296 * r + w < q * y0
      · rw [cond_pos (by omega)]
        exact round (big q (by omega))
      · rw [cond_neg (by omega)]
        have : q ≤ Q := small q (by omega)
        rw [show q = Q by omega]

def L8 (n : Nat) : Nat := if n = 0 then 0 else Nat.log2 n + 1
theorem len8F : ∀ n : Fin 256, byte? (ByteArray.mk #[0, 1, 2, 2, 3, 3, 3, 3, 4, 4, 4, 4, 4, 4, 4, 4, 5, 5, 5, 5, 5, 5, 5, 5, 5, 5, 5, 5, 5, 5, 5, 5, 6, 6, 6, 6, 6, 6, 6, 6, 6, 6, 6, 6, 6, 6, 6, 6, 6, 6, 6, 6, 6, 6, 6, 6, 6, 6, 6, 6, 6, 6, 6, 6, 7, 7, 7, 7, 7, 7, 7, 7, 7, 7, 7, 7, 7, 7, 7, 7, 7, 7, 7, 7, 7, 7, 7, 7, 7, 7, 7, 7, 7, 7, 7, 7, 7, 7, 7, 7, 7, 7, 7, 7, 7, 7, 7, 7, 7, 7, 7, 7, 7, 7, 7, 7, 7, 7, 7, 7, 7, 7, 7, 7, 7, 7, 7, 7, 8, 8, 8, 8, 8, 8, 8, 8, 8, 8, 8, 8, 8, 8, 8, 8, 8, 8, 8, 8, 8, 8, 8, 8, 8, 8, 8, 8, 8, 8, 8, 8, 8, 8, 8, 8, 8, 8, 8, 8, 8, 8, 8, 8, 8, 8, 8, 8, 8, 8, 8, 8, 8, 8, 8, 8, 8, 8, 8, 8, 8, 8, 8, 8, 8, 8, 8, 8, 8, 8, 8, 8, 8, 8, 8, 8, 8, 8, 8, 8, 8, 8, 8, 8, 8, 8, 8, 8, 8, 8, 8, 8, 8, 8, 8, 8, 8, 8, 8, 8, 8, 8, 8, 8, 8, 8, 8, 8, 8, 8, 8, 8, 8, 8, 8, 8, 8, 8, 8, 8, 8, 8, 8, 8, 8, 8, 8, 8]) (n.val : Int) = some ((L8 n.val : Nat) : Int) := by decide +kernel
theorem len8 {n : Nat} (h : n < 256) : byte? (ByteArray.mk #[0, 1, 2, 2, 3, 3, 3, 3, 4, 4, 4, 4, 4, 4, 4, 4, 5, 5, 5, 5, 5, 5, 5, 5, 5, 5, 5, 5, 5, 5, 5, 5, 6, 6, 6, 6, 6, 6, 6, 6, 6, 6, 6, 6, 6, 6, 6, 6, 6, 6, 6, 6, 6, 6, 6, 6, 6, 6, 6, 6, 6, 6, 6, 6, 7, 7, 7, 7, 7, 7, 7, 7, 7, 7, 7, 7, 7, 7, 7, 7, 7, 7, 7, 7, 7, 7, 7, 7, 7, 7, 7, 7, 7, 7, 7, 7, 7, 7, 7, 7, 7, 7, 7, 7, 7, 7, 7, 7, 7, 7, 7, 7, 7, 7, 7, 7, 7, 7, 7, 7, 7, 7, 7, 7, 7, 7, 7, 7, 8, 8, 8, 8, 8, 8, 8, 8, 8, 8, 8, 8, 8, 8, 8, 8, 8, 8, 8, 8, 8, 8, 8, 8, 8, 8, 8, 8, 8, 8, 8, 8, 8, 8, 8, 8, 8, 8, 8, 8, 8, 8, 8, 8, 8, 8, 8, 8, 8, 8, 8, 8, 8, 8, 8, 8, 8, 8, 8, 8, 8, 8, 8, 8, 8, 8, 8, 8, 8, 8, 8, 8, 8, 8, 8, 8, 8, 8, 8, 8, 8, 8, 8, 8, 8, 8, 8, 8, 8, 8, 8, 8, 8, 8, 8, 8, 8, 8, 8, 8, 8, 8, 8, 8, 8, 8, 8, 8, 8, 8, 8, 8, 8, 8, 8, 8, 8, 8, 8, 8, 8, 8, 8, 8, 8, 8, 8, 8]) (n : Int) = some ((L8 n : Nat) : Int) := len8F ⟨n, h⟩
theorem wu8 {n : Nat} (h : n < 256) : IntKind.wrap .u8 (n : Int) = (n : Int) := by
  have : IntKind.wrap .u8 (n : Int) = (n : Int) % 256 := by
    show (if (false && decide ((n : Int) % 2 ^ 8 ≥ 2 ^ (8 - 1))) = true then (n : Int) % 2 ^ 8 - 2 ^ 8 else (n : Int) % 2 ^ 8) = _
    simp
  rw [this]; omega
theorem L8_spec {m : Nat} (h : 0 < m) : 1 ≤ L8 m ∧ 2 ^ (L8 m - 1) ≤ m ∧ m < 2 ^ L8 m := by
  unfold L8
  rw [if_neg (by omega)]
  exact ⟨by omega, by simpa using Nat.log2_self_le (by omega), Nat.lt_log2_self⟩
theorem L8_le {m : Nat} (h : m < 256) : L8 m ≤ 8 := by
  by_cases h0 : m = 0
  · subst h0; decide
  · have := L8_spec (m := m) (by omega)
    refine Nat.le_of_not_lt fun hgt => ?_
    have : 2 ^ 8 ≤ 2 ^ (L8 m - 1) := Nat.pow_le_pow_right (by omega) (by omega)
    omega
theorem len_at {a j m : Nat} (hm : m = a / 2 ^ j) (h0 : 0 < m) : 2 ^ (j + L8 m - 1) ≤ a ∧ a < 2 ^ (j + L8 m) := by
  obtain ⟨h1, h2, h3⟩ := L8_spec h0
  have hp : 0 < 2 ^ j := Nat.pow_pos (by omega)
  constructor
  · rw [show j + L8 m - 1 = j + (L8 m - 1) by omega, Nat.pow_add]
    calc 2 ^ j * 2 ^ (L8 m - 1) ≤ 2 ^ j * m := Nat.mul_le_mul_left _ h2
      _ ≤ a := by rw [hm]; exact Nat.mul_div_le a _
  · rw [Nat.pow_add]
    have : a / 2 ^ j < 2 ^ L8 m := by rw [← hm]; exact h3
    rw [Nat.mul_comm]
    exact (Nat.div_lt_iff_lt_mul hp).1 this
theorem len_eq (N : Nat) {a : Nat} (h0 : 0 < a) (h : a < 18446744073709551616) : ∃ l : Nat, 1 ≤ l ∧ l ≤ 64 ∧ 2 ^ (l - 1) ≤ a ∧ a < 2 ^ l ∧ ∀ k : Int → Option R, bits_Len64 N (a : Int) k = k (l : Int) := by
  have fin : ∀ j m : Nat, m = a / 2 ^ j → 0 < m → m < 256 → j ≤ 56 → (∀ k : Int → Option R, bits_Len64 N (a : Int) k = k ((j + L8 m : Nat) : Int)) → ∃ l : Nat, 1 ≤ l ∧ l ≤ 64 ∧ 2 ^ (l - 1) ≤ a ∧ a < 2 ^ l ∧ ∀ k : Int → Option R, bits_Len64 N (a : Int) k = k (l : Int) := by
    intro j m hm hp hlt hj hk
    have := len_at hm hp
    have h1 := L8_spec hp
    have h2 := L8_le hlt
    exact ⟨j + L8 m, by omega, by omega, this.1, this.2, hk⟩
  have w1 : ∀ j m : Nat, m < 256 → j ≤ 56 → w64 ((j : Int) + w64 ((L8 m : Nat) : Int)) = ((j + L8 m : Nat) : Int) := by
    intro j m hm hj
    have := L8_le hm
    rw [w64_id (x := ((L8 m : Nat) : Int)) (by omega) (by omega), w64_id (by omega) (by omega)]; omega
  have s32 : shr' .u64 (a : Int) 32 = ((a / 2 ^ 32 : Nat) : Int) := shrN a 32 (by omega)
  have s16 : ∀ b : Nat, shr' .u64 (b : Int) 16 = ((b / 2 ^ 16 : Nat) : Int) := fun b => shrN b 16 (by omega)
  have s8 : ∀ b : Nat, shr' .u64 (b : Int) 8 = ((b / 2 ^ 8 : Nat) : Int) := fun b => shrN b 8 (by omega)
  have dd : ∀ i j : Nat, a / 2 ^ i / 2 ^ j = a / 2 ^ (i + j) := fun i j => by rw [Nat.div_div_eq_div_mul, ← Nat.pow_add]
  by_cases c1 : 4294967296 ≤ a
  · have b1 : 1 ≤ a / 2 ^ 32 := by omega
    by_cases c2 : 65536 ≤ a / 2 ^ 32
    · by_cases c3 : 256 ≤ a / 2 ^ 48
      · refine fin 56 (a / 2 ^ 56) rfl (by omega) (by omega) (by omega) fun k => ?_
        unfold bits_Len64
        rw [cond_pos (by omega), s32, s16, s8, dd, dd, cond_pos (by omega), cond_pos (by omega), wu8 (by omega), len8 (by omega), some_bind']
        exact congrArg k (w1 56 (a / 2 ^ 56) (by omega) (by omega))
      · refine fin 48 (a / 2 ^ 48) rfl (by omega) (by omega) (by omega) fun k => ?_
        unfold bits_Len64
        rw [cond_pos (by omega), s32, s16, dd, cond_pos (by omega), cond_neg (by omega), wu8 (by omega), len8 (by omega), some_bind']
        exact congrArg k (w1 48 (a / 2 ^ 48) (by omega) (by omega))
    · by_cases c3 : 256 ≤ a / 2 ^ 32
      · refine fin 40 (a / 2 ^ 40) rfl (by omega) (by omega) (by omega) fun k => ?_
        unfold bits_Len64
        rw [cond_pos (by omega), s32, s8, dd, cond_neg (by omega), cond_pos (by omega), wu8 (by omega), len8 (by omega), some_bind']
        exact congrArg k (w1 40 (a / 2 ^ 40) (by omega) (by omega))
      · refine fin 32 (a / 2 ^ 32) rfl (by omega) (by omega) (by omega) fun k => ?_
        unfold bits_Len64
        rw [cond_pos (by omega), s32, cond_neg (by omega), cond_neg (by omega), wu8 (by omega), len8 (by omega), some_bind']
        exact congrArg k (w1 32 (a / 2 ^ 32) (by omega) (by omega))
  · by_cases c2 : 65536 ≤ a
    · by_cases c3 : 256 ≤ a / 2 ^ 16
      · refine fin 24 (a / 2 ^ 24) rfl (by omega) (by omega) (by omega) fun k => ?_
        unfold bits_Len64
        rw [cond_neg (by omega), cond_pos (by omega), s16, s8, dd, cond_pos (by omega), wu8 (by omega), len8 (by omega), some_bind']
        exact congrArg k (w1 24 (a / 2 ^ 24) (by omega) (by omega))
      · refine fin 16 (a / 2 ^ 16) rfl (by omega) (by omega) (by omega) fun k => ?_
        unfold bits_Len64
        rw [cond_neg (by omega), cond_pos (by omega), s16, cond_neg (by omega), wu8 (by omega), len8 (by omega), some_bind']
        exact congrArg k (w1 16 (a / 2 ^ 16) (by omega) (by omega))
    · by_cases c3 : 256 ≤ a
      · refine fin 8 (a / 2 ^ 8) rfl (by omega) (by omega) (by omega) fun k => ?_
        unfold bits_Len64
        rw [cond_neg (by omega), cond_neg (by omega), cond_pos (by omega), s8, wu8 (by omega), len8 (by omega), some_bind']
        exact congrArg k (w1 8 (a / 2 ^ 8) (by omega) (by omega))
      · refine fin 0 a (by simp) (by omega) (by omega) (by omega) fun k => ?_
        unfold bits_Len64
        have := w1 0 a (by omega) (by omega)
        rw [cond_neg (by omega), cond_neg (by omega), cond_neg (by omega), wu8 (by omega), len8 (by omega), some_bind']
        rw [show ((0 : Nat) : Int) = 0 from rfl] at this
        rw [this]

theorem guess {u w V : Nat} (hV : 9223372036854775808 ≤ V) (hV2 : V < 18446744073709551616) (hu : u < V) (hw : w < 4294967296) :
    (u * 4294967296 + w) / V ≤ u / (V / 4294967296) ∧ u / (V / 4294967296) ≤ (u * 4294967296 + w) / V + 2 ∧ u / (V / 4294967296) ≤ 4294967297 ∧ u % (V / 4294967296) < 4294967296 := by
  have hy1 : 2147483648 ≤ V / 4294967296 := by omega
  have hy1' : V / 4294967296 < 4294967296 := by omega
  have hV3 : V = V / 4294967296 * 4294967296 + V % 4294967296 := by omega
  have hy0 : V % 4294967296 < 4294967296 := by omega
  generalize V / 4294967296 = y1 at *
  generalize V % 4294967296 = y0 at *
  have hd := Nat.div_add_mod u y1
  have hm := Nat.mod_lt u (show 0 < y1 by omega)
  generalize hq : u / y1 = q at *
  generalize u % y1 = r at *
  have hq1 : q ≤ 4294967297 := by
    refine Nat.le_of_not_lt fun hgt => ?_
    have : y1 * 4294967298 ≤ y1 * q := Nat.mul_le_mul_left _ hgt
    omega
  have hVp : 0 < V := by omega
  have hqy : q * y0 ≤ 4294967297 * 4294967295 := Nat.mul_le_mul hq1 (by omega)
  refine ⟨?_, ?_, hq1, by omega⟩
  · have : (u * 4294967296 + w) / V < q + 1 := by
      refine (Nat.div_lt_iff_lt_mul hVp).2 ?_
      have e1 : (q + 1) * V = (y1 * q + y1) * 4294967296 + (q + 1) * y0 := by
        rw [hV3, Nat.mul_add, ← Nat.mul_assoc, Nat.add_mul q 1 y1, Nat.one_mul, Nat.mul_comm q y1]
      rw [e1]; omega
    omega
  · by_cases h2 : q < 2
    · exact Nat.le_trans (show q ≤ 2 by omega) (Nat.le_add_left 2 _)
    · have : q - 2 ≤ (u * 4294967296 + w) / V := by
        refine (Nat.le_div_iff_mul_le hVp).2 ?_
        have e0 : (q - 2) * V + 2 * V = q * V := by rw [← Nat.add_mul]; congr 1; omega
        have e1 : q * V = y1 * q * 4294967296 + q * y0 := by
          rw [hV3, Nat.mul_add, ← Nat.mul_assoc, Nat.mul_comm q y1]
        omega
      omega
theorem Div64_eq (N : Nat) (hN : 5 ≤ N) {hi lo v : Nat} (hv : v < 18446744073709551616) (hlo : lo < 18446744073709551616) (hlt : hi < v) (k : Int → Int → Option R) :
    bits_Div64 N (hi : Int) (lo : Int) (v : Int) k = k (((hi * 18446744073709551616 + lo) / v : Nat) : Int) (((hi * 18446744073709551616 + lo) % v : Nat) : Int) := by
  unfold bits_Div64
  rw [cond_neg (by omega), cond_neg (by omega)]
  by_cases h0 : hi = 0
  · subst h0
    rw [cond_pos (by omega), cond_neg (by omega), cond_neg (by omega), tdiv_nat, tmod_nat, wuN, Nat.zero_mul, Nat.zero_add, Nat.mod_eq_of_lt (Nat.lt_of_le_of_lt (Nat.div_le_self lo v) hlo)]
  · rw [cond_neg (by omega)]
    obtain ⟨l, l1, l2, l3, l4, l5⟩ := len_eq (R := R) N (a := v) (by omega) hv
    unfold bits_LeadingZeros64
    rw [l5]
    obtain ⟨s, hs⟩ : ∃ s : Nat, s = 64 - l := ⟨_, rfl⟩
    have hls : l = 64 - s := by omega
    have e0 : w64 (64 - (l : Int)) = (s : Int) := by rw [w64_id (by omega) (by omega)]; omega
    have e1 : IntKind.wrap .u64 (s : Int) = (s : Int) := wu_id (by omega) (by omega)
    have e2 : IntKind.wrap .u64 (64 - (s : Int)) = ((64 - s : Nat) : Int) := by rw [wu_id (by omega) (by omega)]; omega
    simp only [e0, e1, e2]
    have p64 : 2 ^ s * 2 ^ (64 - s) = 18446744073709551616 := by rw [← Nat.pow_add, show s + (64 - s) = 64 by omega]
    have ps : 0 < 2 ^ s := Nat.pow_pos (by omega)
    have ps' : 0 < 2 ^ (64 - s) := Nat.pow_pos (by omega)
    have hV2 : v * 2 ^ s < 18446744073709551616 := by
      rw [← p64, Nat.mul_comm]; refine Nat.mul_lt_mul_of_pos_left ?_ ps; rwa [← hls]
    have hV1 : 9223372036854775808 ≤ v * 2 ^ s := by
      have : 2 ^ (l - 1) * 2 ^ s = 9223372036854775808 := by rw [← Nat.pow_add, show l - 1 + s = 63 by omega]
      rw [← this]; exact Nat.mul_le_mul_right _ l3
    have hhi : hi * 2 ^ s < 18446744073709551616 := Nat.lt_of_le_of_lt (Nat.mul_le_mul_right _ (Nat.le_of_lt hlt)) hV2
    have sh1 : shl' .u64 (v : Int) (s : Int) = ((v * 2 ^ s : Nat) : Int) := by rw [shlN v s (by omega), Nat.mod_eq_of_lt hV2]
    have sh2 : shl' .u64 (hi : Int) (s : Int) = ((hi * 2 ^ s : Nat) : Int) := by rw [shlN hi s (by omega), Nat.mod_eq_of_lt hhi]
    have sh3 := shlN lo s (by omega)
    have sh4 := shrN lo (64 - s) (by omega)
    have hlo2 : lo / 2 ^ (64 - s) < 2 ^ s := (Nat.div_lt_iff_lt_mul ps').2 (by rw [p64]; exact hlo)
    have hU : hi * 2 ^ s + lo / 2 ^ (64 - s) < v * 2 ^ s := by
      have : (hi + 1) * 2 ^ s ≤ v * 2 ^ s := Nat.mul_le_mul_right _ hlt
      rw [Nat.add_mul, Nat.one_mul] at this; omega
    have hor := orN hlo2 (Nat.lt_trans hU hV2)
    rw [sh1, sh2, sh3, sh4, hor]
    have hlow : lo * 2 ^ s = lo / 2 ^ (64 - s) * 18446744073709551616 + lo * 2 ^ s % 18446744073709551616 := by
      have h1 := Nat.div_add_mod (lo * 2 ^ s) 18446744073709551616
      have h2 : lo * 2 ^ s / 18446744073709551616 = lo / 2 ^ (64 - s) := by
        rw [← p64, Nat.mul_comm (2 ^ s) (2 ^ (64 - s)), Nat.mul_div_mul_right _ _ ps]
      rw [h2] at h1; omega
    have hUV : (hi * 18446744073709551616 + lo) * 2 ^ s = (hi * 2 ^ s + lo / 2 ^ (64 - s)) * 18446744073709551616 + lo * 2 ^ s % 18446744073709551616 := by
      rw [Nat.add_mul, Nat.add_mul, Nat.mul_right_comm hi]; omega
    have hx := Nat.mod_lt (lo * 2 ^ s) (show 0 < 18446744073709551616 by omega)
    -- the quotient by what is shifted
    have hq1 : (hi * 18446744073709551616 + lo) / v = (hi * 18446744073709551616 + lo) * 2 ^ s / (v * 2 ^ s) := (Nat.mul_div_mul_right _ _ ps).symm
    have hr1 : (hi * 18446744073709551616 + lo) * 2 ^ s % (v * 2 ^ s) = (hi * 18446744073709551616 + lo) % v * 2 ^ s := Nat.mul_mod_mul_right _ _ _
    rw [hUV] at hq1 hr1
    have hrem : (hi * 18446744073709551616 + lo) % v = ((hi * 2 ^ s + lo / 2 ^ (64 - s)) * 18446744073709551616 + lo * 2 ^ s % 18446744073709551616) % (v * 2 ^ s) / 2 ^ s := by
      rw [hr1, Nat.mul_div_cancel _ ps]
    rw [hq1, hrem]
    clear hq1 hr1 hrem hUV hlow hor sh1 sh2 sh3 sh4 hlo2 hhi l5 l3 l4
    generalize v * 2 ^ s = V at *
    generalize hi * 2 ^ s + lo / 2 ^ (64 - s) = u at *
    generalize lo * 2 ^ s % 18446744073709551616 = x at *
    obtain ⟨Z, hZ⟩ : ∃ Z, Z = u * 18446744073709551616 + x := ⟨_, rfl⟩
    rw [← hZ]
    have a1 : shr' .u64 (V : Int) 32 = ((V / 4294967296 : Nat) : Int) := shrN V 32 (by omega)
    have a2 := and32 hV2
    have a3 : shr' .u64 (x : Int) 32 = ((x / 4294967296 : Nat) : Int) := shrN x 32 (by omega)
    have a4 := and32 hx
    rw [a1, a2, a3, a4, cond_neg (by omega), cond_neg (by omega), cond_neg (by omega), cond_neg (by omega), cond_neg (by omega), tdiv_nat]
    have hVy : V = V / 4294967296 * 4294967296 + V % 4294967296 := by omega
    have hy1 : 2147483648 ≤ V / 4294967296 := by omega
    have hy1' : V / 4294967296 < 4294967296 := by omega
    have hwx : x / 4294967296 < 4294967296 := by omega
    have hwx' : x % 4294967296 < 4294967296 := by omega
    -- a guess and what is left
    have first : ∀ u' : Nat, u' < V → IntKind.wrap .u64 ((u' / (V / 4294967296) : Nat) : Int) = ((u' / (V / 4294967296) : Nat) : Int) ∧ IntKind.wrap .u64 ((u' : Int) - IntKind.wrap .u64 (((u' / (V / 4294967296) : Nat) : Int) * ((V / 4294967296 : Nat) : Int))) = ((u' % (V / 4294967296) : Nat) : Int) := by
      intro u' hu'
      have g := (guess (w := 0) hV1 hV2 hu' (by omega)).2.2.1
      have d := Nat.div_add_mod u' (V / 4294967296)
      have c : ((u' / (V / 4294967296) : Nat) : Int) * ((V / 4294967296 : Nat) : Int) = (((V / 4294967296) * (u' / (V / 4294967296)) : Nat) : Int) := by rw [Int.natCast_mul, Int.mul_comm]
      refine ⟨wu_id (Int.natCast_nonneg _) (by generalize u' / (V / 4294967296) = qq at g; omega), ?_⟩
      rw [c]
      generalize (V / 4294967296) * (u' / (V / 4294967296)) = m at d ⊢
      generalize u' % (V / 4294967296) = rr at d ⊢
      rw [wu_id (x := (m : Int)) (by omega) (by omega), wu_id (by omega) (by omega)]
      omega
    obtain ⟨f1, f2⟩ := first u hU
    rw [f1, f2]
    obtain ⟨g1, g2, g3, g4⟩ := guess hV1 hV2 hU hwx
    rw [digit_loop0 N _ (s : Int) ((x % 4294967296 : Nat) : Int) hVy (by omega) hy1' hy1 hU hwx rfl N _ _ (by rw [Nat.mul_comm]; exact Nat.div_add_mod u _) g1 g4 (by omega) g3]
    -- what is left of the first digit
    have t1 : ∀ (u' w' : Nat), u' < V → w' < 4294967296 → IntKind.wrap .u64 (IntKind.wrap .u64 (IntKind.wrap .u64 ((u' : Int) * 4294967296) + (w' : Int)) - IntKind.wrap .u64 ((((u' * 4294967296 + w') / V : Nat) : Int) * (V : Int))) = (((u' * 4294967296 + w') % V : Nat) : Int) := by
      intro u' w' h1 h2
      have d := Nat.div_add_mod (u' * 4294967296 + w') V
      have m := Nat.mod_lt (u' * 4294967296 + w') (show 0 < V by omega)
      rw [show (((u' * 4294967296 + w') / V : Nat) : Int) * (V : Int) = ((V * ((u' * 4294967296 + w') / V) : Nat) : Int) by rw [Int.natCast_mul, Int.mul_comm]]
      generalize V * ((u' * 4294967296 + w') / V) = p at d ⊢
      generalize (u' * 4294967296 + w') % V = rr at d m ⊢
      rw [wu, wu, wu, wu]; omega
    rw [cond_neg (by omega), t1 u _ hU hwx, tdiv_nat]
    have hu2 := Nat.mod_lt (u * 4294967296 + x / 4294967296) (show 0 < V by omega)
    have hd1 := Nat.div_add_mod (u * 4294967296 + x / 4294967296) V
    have hQ1 : (u * 4294967296 + x / 4294967296) / V < 4294967296 := by
      refine (Nat.div_lt_iff_lt_mul (by omega)).2 ?_
      have : (u + 1) * 4294967296 ≤ V * 4294967296 := Nat.mul_le_mul_right _ hU
      rw [Nat.mul_comm 4294967296]; omega
    generalize (u * 4294967296 + x / 4294967296) / V = q1 at *
    generalize (u * 4294967296 + x / 4294967296) % V = u2 at *
    obtain ⟨f3, f4⟩ := first u2 hu2
    rw [f3, f4]
    obtain ⟨g5, g6, g7, g8⟩ := guess hV1 hV2 hu2 hwx'
    rw [digit_loop1 N _ (s : Int) (q1 : Int) (u2 : Int) hVy (by omega) hy1' hy1 hu2 hwx' rfl N _ _ (by rw [Nat.mul_comm]; exact Nat.div_add_mod u2 _) g5 g8 (by omega) g7]
    rw [cond_neg (by omega), t1 u2 _ hu2 hwx', shrN _ s (by omega)]
    have hd2 := Nat.div_add_mod (u2 * 4294967296 + x % 4294967296) V
    have hm2 := Nat.mod_lt (u2 * 4294967296 + x % 4294967296) (show 0 < V by omega)
    have hQ0 : (u2 * 4294967296 + x % 4294967296) / V < 4294967296 := by
      refine (Nat.div_lt_iff_lt_mul (by omega)).2 ?_
      have : (u2 + 1) * 4294967296 ≤ V * 4294967296 := Nat.mul_le_mul_right _ hu2
      rw [Nat.mul_comm 4294967296]; omega
    generalize (u2 * 4294967296 + x % 4294967296) / V = q0 at *
    generalize (u2 * 4294967296 + x % 4294967296) % V = r2 at *
    have e3 : IntKind.wrap .u64 (IntKind.wrap .u64 ((q1 : Int) * 4294967296) + (q0 : Int)) = ((q1 * 4294967296 + q0 : Nat) : Int) := by
      rw [wu_id (x := (q1 : Int) * 4294967296) (by omega) (by omega), wu_id (by omega) (by omega)]; omega
    have hall : Z = V * (q1 * 4294967296 + q0) + r2 := by
      rw [hZ, Nat.mul_add, ← Nat.mul_assoc]; omega
    have hdiv : Z / V = q1 * 4294967296 + q0 := by
      rw [hall, Nat.mul_add_div (by omega), Nat.div_eq_of_lt hm2]; omega
    have hmod : Z % V = r2 := by
      rw [hall, Nat.mul_add_mod, Nat.mod_eq_of_lt hm2]
    rw [e3, hdiv, hmod]

/-! ### Whole numbers of 128 bits -/
def wHi (x : Int) : Int := x / 18446744073709551616 % 18446744073709551616
def wLo (x : Int) : Int := x % 18446744073709551616
theorem plus_eq (N : Nat) (x y : Int) (k : Int → Int → Option R) : arith_wide_plus N (wHi x) (wLo x) (wHi y) (wLo y) k = k (wHi (x + y)) (wLo (x + y)) := by
  unfold arith_wide_plus addB
  have e1 : addLo (wLo x) (wLo y) 0 = wLo (x + y) := by unfold addLo wLo; omega
  have e2 : addLo (wHi x) (wHi y) (addHi (wLo x) (wLo y) 0) = wHi (x + y) := by unfold addLo addHi wLo wHi; omega
  rw [cond_pos (by unfold wLo; omega), cond_pos (by unfold wHi wLo addHi; omega), e1, e2]
theorem notW {a : Int} (h0 : 0 ≤ a) (h : a < 18446744073709551616) : notI .u64 a = 18446744073709551615 - a := by
  obtain ⟨n, rfl⟩ : ∃ n : Nat, a = n := ⟨a.toNat, by omega⟩
  rw [notN (by omega)]; omega
theorem minus_eq (N : Nat) (x : Int) (k : Int → Int → Option R) : arith_wide_minus N (wHi x) (wLo x) k = k (wHi (-x)) (wLo (-x)) := by
  unfold arith_wide_minus
  have e1 : notI .u64 (wHi x) = wHi (-x - 1) := by rw [notW (by unfold wHi; omega) (by unfold wHi; omega)]; unfold wHi; omega
  have e2 : notI .u64 (wLo x) = wLo (-x - 1) := by rw [notW (by unfold wLo; omega) (by unfold wLo; omega)]; unfold wLo; omega
  have := plus_eq N (-x - 1) 1 (fun a b => k a b)
  rw [show wHi 1 = 0 from rfl, show wLo 1 = 1 from rfl, show -x - 1 + 1 = -x by omega] at this
  rw [e1, e2]; exact this
theorem Mul64_eq (N : Nat) {x y : Nat} (hx : x < 18446744073709551616) (hy : y < 18446744073709551616) (k : Int → Int → Option R) : bits_Mul64 N (x : Int) (y : Int) k = k ((x * y / 18446744073709551616 : Nat) : Int) ((x * y % 18446744073709551616 : Nat) : Int) := by
  obtain ⟨h1, h2, h3, h4⟩ := Go.Lib.mul64_hi x y hx hy
  unfold bits_Mul64
  have s : ∀ a : Nat, shr' .u64 (a : Int) 32 = ((a / 4294967296 : Nat) : Int) := fun a => shrN a 32 (by omega)
  have p : ∀ a b : Nat, a * b < 18446744073709551616 → IntKind.wrap .u64 ((a : Int) * (b : Int)) = ((a * b : Nat) : Int) := fun a b h => by
    rw [show (a : Int) * (b : Int) = ((a * b : Nat) : Int) by simp, wuN, Nat.mod_eq_of_lt h]
  have q : ∀ a b : Nat, a + b < 18446744073709551616 → IntKind.wrap .u64 ((a : Int) + (b : Int)) = ((a + b : Nat) : Int) := fun a b h => by
    rw [show (a : Int) + (b : Int) = ((a + b : Nat) : Int) by simp, wuN, Nat.mod_eq_of_lt h]
  have b0 := Go.Lib.half_mul_le (a := x / 4294967296) (b := y / 4294967296) (by omega) (by omega)
  have b1 := Go.Lib.half_mul_le (a := x / 4294967296) (b := y % 4294967296) (by omega) (by omega)
  have b2 := Go.Lib.half_mul_le (a := x % 4294967296) (b := y / 4294967296) (by omega) (by omega)
  rw [s x, s y, and32 hx, and32 hy, p _ _ (by omega), p _ _ h1, s, p (x / 4294967296) (y % 4294967296) (by omega), q _ _ h2, s, and32 h2, p (x % 4294967296) (y / 4294967296) (by omega), q _ _ h3, s]
  have hhi : x * y / 18446744073709551616 < 18446744073709551616 := by
    refine (Nat.div_lt_iff_lt_mul (by omega)).2 ?_
    exact Nat.mul_lt_mul'' hx hy
  rw [← h4] at hhi ⊢
  have e0 : IntKind.wrap .u64 ((x : Int) * (y : Int)) = ((x * y % 18446744073709551616 : Nat) : Int) := by
    rw [show (x : Int) * (y : Int) = ((x * y : Nat) : Int) by simp, wuN]
  rw [e0]
  congr 1
  generalize x / 4294967296 * (y / 4294967296) = a at *
  generalize (x / 4294967296 * (y % 4294967296) + x % 4294967296 * (y % 4294967296) / 4294967296) = b at *
  generalize (b % 4294967296 + x % 4294967296 * (y / 4294967296)) = c at *
  rw [q _ _ (by omega), q _ _ (by omega)]
theorem times_pos (x : Int) {n : Int} (h0 : 0 ≤ n) (h : n < 18446744073709551616) : IntKind.wrap .u64 (((wLo x).toNat * n.toNat / 18446744073709551616 : Nat) + IntKind.wrap .u64 (wHi x * n)) = wHi (x * n) ∧ (((wLo x).toNat * n.toNat % 18446744073709551616 : Nat) : Int) = wLo (x * n) := by
  have hl : 0 ≤ wLo x := by unfold wLo; omega
  have e1 : (((wLo x).toNat * n.toNat : Nat) : Int) = wLo x * n := by rw [Int.natCast_mul, Int.toNat_of_nonneg hl, Int.toNat_of_nonneg h0]
  have e2 : (((wLo x).toNat * n.toNat / 18446744073709551616 : Nat) : Int) = wLo x * n / 18446744073709551616 := by rw [← e1]; omega
  have e3 : (((wLo x).toNat * n.toNat % 18446744073709551616 : Nat) : Int) = wLo x * n % 18446744073709551616 := by rw [← e1]; omega
  have ex : x = x / 18446744073709551616 * 18446744073709551616 + wLo x := by unfold wLo; omega
  have exn : x * n = x / 18446744073709551616 * n * 18446744073709551616 + wLo x * n := by
    conv => lhs; rw [ex]
    rw [Int.add_mul, Int.mul_right_comm]
  have em : wHi x * n % 18446744073709551616 = x / 18446744073709551616 * n % 18446744073709551616 := by
    unfold wHi; rw [Int.mul_emod, Int.emod_emod_of_dvd _ (Int.dvd_refl _), ← Int.mul_emod]
  rw [e2, e3, wu, wu, em]
  have f1 : wHi (x * n) = x * n / 18446744073709551616 % 18446744073709551616 := rfl
  have f2 : wLo (x * n) = x * n % 18446744073709551616 := rfl
  rw [f1, f2, exn]
  generalize wLo x * n = b
  generalize x / 18446744073709551616 * n = a
  constructor <;> omega
theorem times0_eq (N : Nat) (x : Int) {n : Int} (h0 : 0 ≤ n) (h : n ≤ 9223372036854775807) (k : Int → Int → Option R) : arith_wide_times N (wHi x) (wLo x) n k = k (wHi (x * n)) (wLo (x * n)) := by
  unfold arith_wide_times
  obtain ⟨t1, t2⟩ := times_pos x h0 (by omega)
  have hl : 0 ≤ wLo x := by unfold wLo; omega
  have hl2 : wLo x < 18446744073709551616 := by unfold wLo; omega
  have e := Mul64_eq (R := R) N (x := (wLo x).toNat) (y := n.toNat) (by omega) (by omega)
  rw [Int.toNat_of_nonneg hl, Int.toNat_of_nonneg h0] at e
  rw [cond_neg (by omega), wu_id h0 (by omega), e, t1, t2]
theorem times_eq (N : Nat) (x : Int) {n : Int} (h0 : -9223372036854775807 ≤ n) (h : n ≤ 9223372036854775807) (k : Int → Int → Option R) : arith_wide_times_v1 N (wHi x) (wLo x) n k = k (wHi (x * n)) (wLo (x * n)) := by
  by_cases hn : n < 0
  · unfold arith_wide_times_v1
    rw [cond_pos hn, minus_eq, w64_id (by omega) (by omega), times0_eq N _ (by omega) (by omega), show (0 - n) = -n by omega, Int.neg_mul_neg]
  · have e : arith_wide_times_v1 N (wHi x) (wLo x) n k = arith_wide_times N (wHi x) (wLo x) n k := by
      unfold arith_wide_times_v1 arith_wide_times
      rw [cond_neg hn, cond_neg hn]
    rw [e, times0_eq N x (by omega) h]
theorem isBelow_eq (N : Nat) {x : Int} (h1 : -170141183460469231731687303715884105728 ≤ x) (h2 : x < 170141183460469231731687303715884105728) (k : Bool → Option R) : arith_wide_isBelow N (wHi x) (wLo x) k = k (decide (x < 0)) := by
  unfold arith_wide_isBelow
  have hw : 0 ≤ wHi x ∧ wHi x < 18446744073709551616 := by unfold wHi; omega
  have hx : wHi x = x / 18446744073709551616 % 18446744073709551616 := rfl
  obtain ⟨m, hm⟩ : ∃ m : Nat, wHi x = m := ⟨(wHi x).toNat, by omega⟩
  have e : shr' .u64 (wHi x) 63 = ((m / 9223372036854775808 : Nat) : Int) := by rw [hm]; exact shrN m 63 (by omega)
  rw [e]
  congr 1
  by_cases h : x < 0
  · rw [decide_eq_true h, decide_eq_true (by omega)]
  · rw [decide_eq_false h, decide_eq_false (by omega)]
theorem divided_eq (N : Nat) (hN : 5 ≤ N) {x n : Nat} (hx : x < 340282366920938463463374607431768211456) (hn : 0 < n) (hn2 : n < 18446744073709551616) (k : Int → Int → Int → Option R) :
    arith_wide_divided N (wHi (x : Int)) (wLo (x : Int)) (n : Int) k = k (wHi ((x / n : Nat) : Int)) (wLo ((x / n : Nat) : Int)) ((x % n : Nat) : Int) := by
  unfold arith_wide_divided
  have e1 : wHi (x : Int) = ((x / 18446744073709551616 : Nat) : Int) := by unfold wHi; omega
  have e2 : wLo (x : Int) = ((x % 18446744073709551616 : Nat) : Int) := by unfold wLo; omega
  have hr := Nat.mod_lt (x / 18446744073709551616) hn
  rw [e1, e2, cond_neg (by omega), tmod_nat, Div64_eq N hN hn2 (by omega) hr, cond_neg (by omega), tdiv_nat, wuN]
  have hx1 := Nat.div_add_mod x 18446744073709551616
  have hd := Nat.div_add_mod (x / 18446744073709551616) n
  have hlo := Nat.mod_lt x (show 0 < 18446744073709551616 by omega)
  have hhi : x / 18446744073709551616 < 18446744073709551616 := by omega
  have hqlt : x / 18446744073709551616 / n < 18446744073709551616 := Nat.lt_of_le_of_lt (Nat.div_le_self _ _) hhi
  generalize x / 18446744073709551616 = h at *
  generalize x % 18446744073709551616 = l at *
  generalize hqe : h / n = a at *
  generalize h % n = b at *
  have hx2 : x = n * (a * 18446744073709551616) + (b * 18446744073709551616 + l) := by
    rw [← hx1, ← hd, Nat.mul_add, Nat.mul_comm 18446744073709551616 (n * a), Nat.mul_assoc]; omega
  have hdiv : x / n = a * 18446744073709551616 + (b * 18446744073709551616 + l) / n := by rw [hx2, Nat.mul_add_div hn]
  have hmod : x % n = (b * 18446744073709551616 + l) % n := by rw [hx2, Nat.mul_add_mod]
  have hlt : (b * 18446744073709551616 + l) / n < 18446744073709551616 := by
    refine (Nat.div_lt_iff_lt_mul hn).2 ?_
    have : (b + 1) * 18446744073709551616 ≤ n * 18446744073709551616 := Nat.mul_le_mul_right _ hr
    rw [Nat.mul_comm 18446744073709551616 n]; omega
  rw [hdiv, hmod]
  generalize (b * 18446744073709551616 + l) / n = q at *
  have f1 : wHi ((a * 18446744073709551616 + q : Nat) : Int) = ((a % 18446744073709551616 : Nat) : Int) := by unfold wHi; omega
  have f2 : wLo ((a * 18446744073709551616 + q : Nat) : Int) = (q : Int) := by unfold wLo; omega
  rw [f1, f2]

/-! ### Quotients by a power -/
theorem wide_zero {x : Nat} (hx : x < 340282366920938463463374607431768211456) : (wHi (x : Int) = 0 ∧ wLo (x : Int) = 0) ↔ x = 0 := by unfold wHi wLo; omega
/-- A smallest divisor has no divisor in common with what it does not divide. -/
theorem least_coprime {p x left : Nat} (hp : 2 ≤ p) (hd : p ∣ left) (hmin : ∀ d, 2 ≤ d → d ∣ left → p ≤ d) (hx : ¬ p ∣ x) : Nat.gcd x p = 1 := by
  have g1 : Nat.gcd x p ∣ p := Nat.gcd_dvd_right x p
  have g2 : Nat.gcd x p ∣ x := Nat.gcd_dvd_left x p
  have g0 : 0 < Nat.gcd x p := Nat.gcd_pos_of_pos_right x (by omega)
  by_cases h : 2 ≤ Nat.gcd x p
  · have h1 := hmin _ h (Nat.dvd_trans g1 hd)
    have h2 := Nat.le_of_dvd (by omega) g1
    have h3 : Nat.gcd x p = p := by omega
    rw [h3] at g2
    exact absurd g2 hx
  · omega
def capN (d : Nat) : Int := min (d : Int) 1000000001
theorem cap_mul {d p : Nat} (hp : 1 ≤ p) (hp2 : p ≤ 1000) : min (w64 (capN d * (p : Int))) 1000000001 = capN (d * p) := by
  unfold capN
  by_cases h : d ≤ 1000000001
  · have e : min (d : Int) 1000000001 = d := by omega
    have hb : d * p ≤ 1000000001 * 1000 := Nat.mul_le_mul h hp2
    rw [e, show (d : Int) * (p : Int) = ((d * p : Nat) : Int) by simp, w64_id (by omega) (by omega)]
  · have e : min (d : Int) 1000000001 = 1000000001 := by omega
    have hb : d * 1 ≤ d * p := Nat.mul_le_mul_left _ hp
    rw [e, w64_id (by omega) (by omega)]
    omega
/-- Rounds by one divisor. -/
theorem over_l2_eq (N : Nat) (hN : 5 ≤ N) (k0 : Int → Bool → Int → Int → Int → Int → Int → Int → Int → Option R) (t : Int) (b : Bool) (left : Int) (z8 z9 : Int) {p : Nat} (hp : 2 ≤ p) (hp2 : p ≤ 1000) {L A B : Nat} (hpd : (p ∣ L ∧ (∀ d, 2 ≤ d → d ∣ L → p ≤ d))) :
    ∀ (c n : Nat) (x dt : Nat), c < n → c ≤ 1000 → 0 < x → x < 340282366920938463463374607431768211456 → 0 < dt → Nat.gcd x dt = 1 → A * (dt * p ^ c) = x * B →
    ∃ x' dt' : Nat, 0 < x' ∧ x' ≤ x ∧ 0 < dt' ∧ Nat.gcd x' dt' = 1 ∧ A * dt' = x' * B ∧
      arith_wide_over_l2 N k0 n t b (capN dt) left (p : Int) (c : Int) (wHi (x : Int)) (wLo (x : Int)) z8 z9 = k0 t b (capN dt') left (p : Int) (wHi (x' : Int)) (wLo (x' : Int)) z8 z9 := by
  intro c
  induction c with
  | zero =>
    intro n x dt hc h3 hx hx2 hdt hg he
    obtain ⟨n, rfl⟩ : ∃ m, n = m + 1 := ⟨n - 1, by omega⟩
    refine ⟨x, dt, hx, Nat.le_refl _, hdt, hg, by simpa using he, ?_⟩
    rw [arith_wide_over_l2, cond_neg (by omega)]
  | succ c ih =>
    intro n x dt hc h3 hx hx2 hdt hg he
    obtain ⟨n, rfl⟩ : ∃ m, n = m + 1 := ⟨n - 1, by omega⟩
    have ew : w64 (((c + 1 : Nat) : Int) - 1) = (c : Int) := by rw [w64_id (by omega) (by omega)]; omega
    have ep : IntKind.wrap .u64 (p : Int) = (p : Int) := wu_id (by omega) (by omega)
    rw [arith_wide_over_l2, cond_pos (by omega), ep, divided_eq N hN hx2 (by omega) (by omega), ew]
    by_cases hr : x % p = 0
    · rw [cond_pos (by omega)]
      have hdiv : p ∣ x := Nat.dvd_of_mod_eq_zero hr
      obtain ⟨y, rfl⟩ := hdiv
      have hy : p * y / p = y := Nat.mul_div_cancel_left _ (by omega)
      have hy0 : 0 < y := Nat.pos_of_mul_pos_left hx
      have hyx : y ≤ p * y := Nat.le_mul_of_pos_left _ (by omega)
      rw [hy]
      have hg' : Nat.gcd y dt = 1 := Nat.Coprime.coprime_dvd_left (Nat.dvd_mul_left y p) hg
      have he' : A * (dt * p ^ c) = y * B := by
        have : p * (A * (dt * p ^ c)) = p * (y * B) := by
          rw [← Nat.mul_assoc p y B, ← he, Nat.pow_succ]
          ac_rfl
        exact Nat.eq_of_mul_eq_mul_left (by omega) this
      obtain ⟨x', dt', q1, q2, q3, q4, q5, q6⟩ := ih n y dt (by omega) (by omega) hy0 (by omega) hdt hg' he'
      exact ⟨x', dt', q1, Nat.le_trans q2 hyx, q3, q4, q5, q6⟩
    · rw [cond_neg (by omega), cap_mul (by omega) hp2]
      have hnd : ¬ p ∣ x := fun h => hr (Nat.mod_eq_zero_of_dvd h)
      have hg' : Nat.gcd x (dt * p) = 1 := Nat.Coprime.mul_right hg (least_coprime hp hpd.1 hpd.2 hnd)
      have he' : A * (dt * p * p ^ c) = x * B := by
        rw [← he, Nat.pow_succ]
        ac_rfl
      exact ih n x (dt * p) (by omega) (by omega) hx hx2 (Nat.mul_pos hdt (by omega)) hg' he'
/-- How often it divides. -/
theorem over_l1_eq (N : Nat) (k0 : Int → Bool → Int → Int → Int → Int → Int → Int → Int → Int → Option R) {t : Nat} (ht : t ≤ 10) (b : Bool) (den z6 z7 z8 z9 : Int) {p : Nat} (hp : 2 ≤ p) (hp2 : p ≤ 1001) :
    ∀ (m n : Nat) (left c : Nat), 0 < left → left < 2 ^ m → left ≤ 1000 → m ≤ n → c + m * t ≤ 500 →
    ∃ e left' : Nat, 0 < left' ∧ left = p ^ e * left' ∧ ¬ p ∣ left' ∧ c + e * t ≤ 500 ∧
      arith_wide_over_l1 N k0 n (t : Int) b den (left : Int) (p : Int) (c : Int) z6 z7 z8 z9 = k0 (t : Int) b den (left' : Int) (p : Int) ((c + e * t : Nat) : Int) z6 z7 z8 z9 := by
  intro m
  induction m with
  | zero => intro n left c h0 h1; simp at h1; omega
  | succ m ih =>
    intro n left c h0 h1 h2 hmn hc
    obtain ⟨n, rfl⟩ : ∃ m, n = m + 1 := ⟨n - 1, by omega⟩
    rw [arith_wide_over_l1, cond_neg (by omega), tmod_nat]
    by_cases hd : left % p = 0
    · obtain ⟨y, rfl⟩ := Nat.dvd_of_mod_eq_zero hd
      have hy : p * y / p = y := Nat.mul_div_cancel_left _ (by omega)
      have hy0 : 0 < y := Nat.pos_of_mul_pos_left h0
      have hyx : 2 * y ≤ p * y := Nat.mul_le_mul_right _ hp
      rw [Nat.pow_succ] at h1
      rw [Nat.add_mul, Nat.one_mul] at hc
      have e1 : w64 (Int.tdiv ((p * y : Nat) : Int) (p : Int)) = (y : Int) := by rw [tdiv_nat, hy, w64_id (by omega) (by omega)]
      have e2 : w64 ((c : Int) + (t : Int)) = ((c + t : Nat) : Int) := by rw [w64_id (by omega) (by omega)]; omega
      rw [cond_pos (by omega), cond_neg (by omega), e1, e2]
      obtain ⟨e, l', q1, q2, q3, q4, q5⟩ := ih n y (c + t) hy0 (by omega) (by omega) (by omega) (by omega)
      refine ⟨e + 1, l', q1, ?_, q3, ?_, ?_⟩
      · rw [Nat.pow_succ, q2]; ac_rfl
      · rw [Nat.add_mul, Nat.one_mul]; omega
      · rw [q5, show c + (e + 1) * t = c + t + e * t by rw [Nat.add_mul, Nat.one_mul]; omega]
    · rw [cond_neg (by omega)]
      refine ⟨0, left, h0, by simp, fun h => hd (Nat.mod_eq_zero_of_dvd h), by omega, by simp⟩
theorem over_l0_eq (N : Nat) (hN : 1500 ≤ N) (k0 : Bool → Int → Int → Int → Int → Int → Option R) {t : Nat} (ht : t ≤ 10) (b : Bool) (z7 z8 : Int) {A B : Nat} :
    ∀ (n p left x dt : Nat), 1003 ≤ n + p → p ≤ 1001 → 2 ≤ p → 0 < left → left ≤ 1000 → (∀ d, 2 ≤ d → d ∣ left → p ≤ d) → 0 < x → x < 340282366920938463463374607431768211456 → 0 < dt → Nat.gcd x dt = 1 → A * (dt * left ^ t) = x * B →
    ∃ x' dt' : Nat, 0 < x' ∧ x' ≤ x ∧ 0 < dt' ∧ Nat.gcd x' dt' = 1 ∧ A * dt' = x' * B ∧
      arith_wide_over_l0 N k0 n (t : Int) b (capN dt) (left : Int) (p : Int) (wHi (x : Int)) (wLo (x : Int)) z7 z8 = k0 b (capN dt') (wHi (x' : Int)) (wLo (x' : Int)) z7 z8 := by
  intro n
  induction n with
  | zero => intro p left x dt h1 h2; omega
  | succ n ih =>
    intro p left x dt h1 h2 h3 h4 h5 hmin hx hx2 hdt hg he
    rw [arith_wide_over_l0]
    by_cases hl : 1 < left
    · rw [cond_pos (by omega)]
      have hpl : p ≤ left := hmin left (by omega) (Nat.dvd_refl _)
      obtain ⟨e, l', q1, q2, q3, q4, q5⟩ := over_l1_eq N (fun z1 z2 z3 z4 z5 z6 z7 z8 z9 z10 => (arith_wide_over_l2 N (fun z11 z12 z13 z14 z15 z16 z17 z18 z19 => (arith_wide_over_l0 N k0 n z11 z12 z13 z14 (w64 (z15 + 1)) z16 z17 z18 z19)) N z1 z2 z3 z4 z5 z6 z7 z8 z9 z10)) ht b (capN dt) (wHi (x : Int)) (wLo (x : Int)) z7 z8 h3 (by omega) 10 N left 0 h4 (by simpa using (show left < 1024 by omega)) h5 (by omega) (by omega)
      rw [show ((0 : Nat) : Int) = 0 from rfl] at q5
      rw [q5, Nat.zero_add]
      have hl'd : l' ∣ left := ⟨p ^ e, by rw [q2, Nat.mul_comm]⟩
      have hl'le : l' ≤ left := Nat.le_of_dvd h4 hl'd
      have hmin' : ∀ d, 2 ≤ d → d ∣ l' → p + 1 ≤ d := by
        intro d hd hdl
        have := hmin d hd (Nat.dvd_trans hdl hl'd)
        rcases Nat.lt_or_eq_of_le this with h | h
        · exact h
        · exact absurd (h ▸ hdl) q3
      have he' : A * l' ^ t * (dt * p ^ (e * t)) = x * B := by
        rw [← he, q2, Nat.mul_pow, ← Nat.pow_mul]
        ac_rfl
      have ew : w64 ((p : Int) + 1) = ((p + 1 : Nat) : Int) := by rw [w64_id (by omega) (by omega)]; omega
      -- the rounds by p
      have key : ∃ x' dt' : Nat, 0 < x' ∧ x' ≤ x ∧ 0 < dt' ∧ Nat.gcd x' dt' = 1 ∧ A * l' ^ t * dt' = x' * B ∧
          arith_wide_over_l2 N (fun z11 z12 z13 z14 z15 z16 z17 z18 z19 => (arith_wide_over_l0 N k0 n z11 z12 z13 z14 (w64 (z15 + 1)) z16 z17 z18 z19)) N (t : Int) b (capN dt) (l' : Int) (p : Int) ((e * t : Nat) : Int) (wHi (x : Int)) (wLo (x : Int)) z7 z8 = arith_wide_over_l0 N k0 n (t : Int) b (capN dt') (l' : Int) ((p + 1 : Nat) : Int) (wHi (x' : Int)) (wLo (x' : Int)) z7 z8 := by
        by_cases he0 : e = 0
        · subst he0
          obtain ⟨N', hN'⟩ : ∃ N', N = N' + 1 := ⟨N - 1, by omega⟩
          refine ⟨x, dt, hx, Nat.le_refl _, hdt, hg, by simpa using he', ?_⟩
          conv => lhs; rw [hN']
          rw [arith_wide_over_l2, cond_neg (by simp), ← hN', ew]
        · have hpd : p ∣ left := by rw [q2]; exact Nat.dvd_trans (Nat.dvd_of_pow_dvd (k := e) (by omega) (Nat.dvd_refl _)) (Nat.dvd_mul_right _ _)
          obtain ⟨x', dt', r1, r2, r3, r4, r5, r6⟩ := over_l2_eq N (by omega) (fun z11 z12 z13 z14 z15 z16 z17 z18 z19 => (arith_wide_over_l0 N k0 n z11 z12 z13 z14 (w64 (z15 + 1)) z16 z17 z18 z19)) (t : Int) b (l' : Int) z7 z8 h3 (by omega) (L := left) ⟨hpd, hmin⟩ (e * t) N x dt (by omega) (by omega) hx hx2 hdt hg he'
          exact ⟨x', dt', r1, r2, r3, r4, r5, by rw [r6, ew]⟩
      obtain ⟨x1, dt1, r1, r2, r3, r4, r5, r6⟩ := key
      rw [r6]
      have he1 : A * (dt1 * l' ^ t) = x1 * B := by
        rw [← r5]; ac_rfl
      obtain ⟨x2, dt2, s1, s2, s3, s4, s5, s6⟩ := ih (p + 1) l' x1 dt1 (by omega) (by omega) (by omega) q1 (by omega) hmin' r1 (by omega) r3 r4 he1
      exact ⟨x2, dt2, s1, Nat.le_trans s2 r2, s3, s4, s5, s6⟩
    · have hl1 : left = 1 := by omega
      subst hl1
      rw [cond_neg (by omega)]
      exact ⟨x, dt, hx, Nat.le_refl _, hdt, hg, by simpa using he, rfl⟩

theorem red_uniq {X D x' d' : Nat} (hD : 0 < D) (hx : 0 < x') (hg : Nat.gcd x' d' = 1) (he : X * d' = x' * D) : rn (X : Int) (D : Int) = (x' : Int) ∧ rn (-(X : Int)) (D : Int) = -(x' : Int) ∧ rd (X : Int) (D : Int) = (d' : Int) ∧ rd (-(X : Int)) (D : Int) = (d' : Int) := by
  have h1 : x' ∣ X := by
    have : x' ∣ X * d' := ⟨D, he⟩
    exact Nat.Coprime.dvd_of_dvd_mul_right hg this
  obtain ⟨g, rfl⟩ := h1
  have h2 : D = g * d' := by
    have : x' * (g * d') = x' * D := by rw [← Nat.mul_assoc]; exact he
    exact (Nat.eq_of_mul_eq_mul_left hx this).symm
  subst h2
  have hg0 : 0 < g := Nat.pos_of_mul_pos_right hD
  have hgc : Nat.gcd (x' * g) (g * d') = g := by
    rw [Nat.mul_comm x' g, Nat.gcd_mul_left, hg, Nat.mul_one]
  have e0 : (-((x' * g : Nat) : Int)).natAbs = x' * g := by rw [Int.natAbs_neg]; rfl
  have c1 : gcI ((x' * g : Nat) : Int) ((g * d' : Nat) : Int) = (g : Int) := by unfold gcI; exact_mod_cast hgc
  have c2 : gcI (-((x' * g : Nat) : Int)) ((g * d' : Nat) : Int) = (g : Int) := by unfold gcI; rw [e0]; exact_mod_cast hgc
  have d1 : ((x' * g : Nat) : Int) / (g : Int) = (x' : Int) := by rw [← Int.natCast_ediv, Nat.mul_div_cancel _ hg0]
  have d2 : ((g * d' : Nat) : Int) / (g : Int) = (d' : Int) := by rw [← Int.natCast_ediv, Nat.mul_div_cancel_left _ hg0]
  unfold rn rd
  rw [c1, c2, if_neg (by omega), if_neg (by omega)]
  refine ⟨d1, ?_, d2, d2⟩
  rw [show -((x' * g : Nat) : Int) = -(x' : Int) * (g : Int) by rw [Int.natCast_mul, Int.neg_mul], Int.mul_ediv_cancel _ (by omega)]
/-- A fraction's parts are small. -/
def smF (x y : Int) : Prop := -1000000000 ≤ rn x y ∧ rn x y ≤ 1000000000 ∧ rd x y ≤ 1000000000
instance (x y : Int) : Decidable (smF x y) := by unfold smF; infer_instance
/-- A number with the sign that a power gives it. -/
def sgP (c : Int) (t : Nat) (x : Int) : Int := if c < 0 ∧ t % 2 = 1 then -x else x
theorem over_j1_eq (N : Nat) (hN : 1500 ≤ N) (k : Bool → Int → Int → Option R) {c : Int} {t X : Nat} (hc : c ≠ 0) (hc1 : -1000 ≤ c) (hc2 : c ≤ 1000) (ht : t ≤ 10) (hX : X < 340282366920938463463374607431768211456) (b : Bool) :
    arith_wide_over_j1 N k c (t : Int) b (wHi (X : Int)) (wLo (X : Int)) 0 0 = if smF (if b = true then -(X : Int) else (X : Int)) ((c.natAbs ^ t : Nat) : Int) then k true (rn (if b = true then -(X : Int) else (X : Int)) ((c.natAbs ^ t : Nat) : Int)) (rd (if b = true then -(X : Int) else (X : Int)) ((c.natAbs ^ t : Nat) : Int)) else k false 0 0 := by
  have hD : 0 < c.natAbs ^ t := Nat.pow_pos (by omega)
  unfold arith_wide_over_j1
  by_cases h0 : X = 0
  · subst h0
    have hz := (wide_zero (x := 0) (by omega)).2 rfl
    rw [hz.1, hz.2]
    have e1 : (if b = true then -((0 : Nat) : Int) else ((0 : Nat) : Int)) = 0 := by split <;> rfl
    have g0 : gcI 0 ((c.natAbs ^ t : Nat) : Int) = ((c.natAbs ^ t : Nat) : Int) := by unfold gcI; simp
    have r1 : rn 0 ((c.natAbs ^ t : Nat) : Int) = 0 := by unfold rn; rw [if_neg (by omega)]; simp
    have r2 : rd 0 ((c.natAbs ^ t : Nat) : Int) = 1 := by unfold rd; rw [g0]; exact Int.ediv_self (by omega)
    rw [e1, r1, r2, if_pos (by unfold smF; rw [r1, r2]; omega)]
    rfl
  · have hnz : ¬ (wHi (X : Int) = 0 ∧ wLo (X : Int) = 0) := fun h => h0 ((wide_zero hX).1 h)
    have e1 : (false != (decide (wHi (X : Int) = 0) && (decide (wLo (X : Int) = 0) && true))) = false := by
      by_cases a : wHi (X : Int) = 0 <;> by_cases b : wLo (X : Int) = 0 <;> simp_all
    have e2 : max c (w64 (0 - c)) = ((c.natAbs : Nat) : Int) := by rw [w64_id (by omega) (by omega)]; omega
    rw [e1, cond_false, e2]
    obtain ⟨x', d', q1, q2, q3, q4, q5, q6⟩ := over_l0_eq N hN (fun z20 z21 z22 z23 z24 z25 => (bif decide (z22 ≠ 0) then (k false 0 0) else (bif decide (1000000000 < z23) then (k false 0 0) else (bif decide (1000000000 < z21) then (k false 0 0) else (bif z20 then (k true (w64 (0 - (w64 z23))) z21) else (k true (w64 z23) z21)))))) ht b 0 0 (A := X) (B := c.natAbs ^ t) N 2 c.natAbs X 1 (by omega) (by omega) (by omega) (by omega) (by omega) (fun d hd _ => hd) (by omega) hX (by omega) (Nat.gcd_one_right X) (by rw [Nat.one_mul])
    rw [show capN 1 = 1 from rfl, show ((2 : Nat) : Int) = 2 from rfl] at q6
    rw [q6]
    obtain ⟨r1, r2, r3, r4⟩ := red_uniq hD q1 q4 q5
    have rr : rn (if b = true then -(X : Int) else (X : Int)) ((c.natAbs ^ t : Nat) : Int) = (if b = true then -(x' : Int) else (x' : Int)) ∧ rd (if b = true then -(X : Int) else (X : Int)) ((c.natAbs ^ t : Nat) : Int) = (d' : Int) := by
      cases b
      · exact ⟨r1, r3⟩
      · exact ⟨r2, r4⟩
    have hsm : smF (if b = true then -(X : Int) else (X : Int)) ((c.natAbs ^ t : Nat) : Int) ↔ (x' ≤ 1000000000 ∧ d' ≤ 1000000000) := by
      unfold smF
      rw [rr.1, rr.2]
      cases b <;> simp <;> omega
    by_cases hs : x' ≤ 1000000000 ∧ d' ≤ 1000000000
    · have w0 : wHi (x' : Int) = 0 := by unfold wHi; omega
      have w1 : wLo (x' : Int) = (x' : Int) := by unfold wLo; omega
      have w2 : capN d' = (d' : Int) := by unfold capN; omega
      rw [w0, w1, w2, cond_neg (by simp), cond_neg (by omega), cond_neg (by omega), if_pos (hsm.2 hs), rr.1, rr.2, w64_id (x := (x' : Int)) (by omega) (by omega)]
      cases b
      · rfl
      · rw [w64_id (by omega) (by omega), show (0 - (x' : Int)) = -(x' : Int) by omega]; rfl
    · rw [if_neg (fun h => hs (hsm.1 h))]
      by_cases a1 : wHi (x' : Int) = 0
      · rw [cond_neg (by simp [a1])]
        by_cases a2 : 1000000000 < wLo (x' : Int)
        · rw [cond_pos a2]
        · rw [cond_neg a2, cond_pos (by unfold capN; unfold wHi at a1; unfold wLo at a2; omega)]
      · rw [cond_pos a1]
theorem over_eq (N : Nat) (hN : 1500 ≤ N) (k : Int → Int → Bool → Option R) {c x : Int} {t : Nat} (hc : c ≠ 0) (hc1 : -1000 ≤ c) (hc2 : c ≤ 1000) (ht : t ≤ 10) (h1 : -85070591730234615865843651857942052864 ≤ x) (h2 : x ≤ 85070591730234615865843651857942052864) :
    arith_wide_over N (wHi x) (wLo x) c (t : Int) k = if smF (sgP c t x) ((c.natAbs ^ t : Nat) : Int) then k (rn (sgP c t x) ((c.natAbs ^ t : Nat) : Int)) (rd (sgP c t x) ((c.natAbs ^ t : Nat) : Int)) true else k 0 0 false := by
  have j0 : ∀ (b : Bool) (X : Nat) (k : Bool → Int → Int → Option R), X < 340282366920938463463374607431768211456 → arith_wide_over_j0 N k c (t : Int) b (wHi (X : Int)) (wLo (X : Int)) 0 0 = if smF (if (xor b (decide (c < 0 ∧ t % 2 = 1))) = true then -(X : Int) else (X : Int)) ((c.natAbs ^ t : Nat) : Int) then k true (rn (if (xor b (decide (c < 0 ∧ t % 2 = 1))) = true then -(X : Int) else (X : Int)) ((c.natAbs ^ t : Nat) : Int)) (rd (if (xor b (decide (c < 0 ∧ t % 2 = 1))) = true then -(X : Int) else (X : Int)) ((c.natAbs ^ t : Nat) : Int)) else k false 0 0 := by
    intro b X k hX
    unfold arith_wide_over_j0
    by_cases hn : c < 0
    · rw [cond_pos hn, show (2 : Int) = ((2 : Nat) : Int) from rfl, tmod_nat]
      by_cases hp : t % 2 = 1
      · rw [cond_pos (by omega), over_j1_eq N hN _ hc hc1 hc2 ht hX, decide_eq_true (show c < 0 ∧ t % 2 = 1 from ⟨hn, hp⟩)]
        cases b <;> rfl
      · rw [cond_neg (by omega), over_j1_eq N hN _ hc hc1 hc2 ht hX, decide_eq_false (show ¬ (c < 0 ∧ t % 2 = 1) from fun h => hp h.2)]
        cases b <;> rfl
    · rw [cond_neg hn, over_j1_eq N hN _ hc hc1 hc2 ht hX, decide_eq_false (show ¬ (c < 0 ∧ t % 2 = 1) from fun h => hn h.1)]
      cases b <;> rfl
  unfold arith_wide_over
  rw [isBelow_eq N (by omega) (by omega)]
  by_cases hx : x < 0
  · rw [decide_eq_true hx]
    obtain ⟨X, hXe⟩ : ∃ X : Nat, -x = X := ⟨(-x).toNat, by omega⟩
    have ex : x = -(X : Int) := by omega
    rw [cond_true, minus_eq, hXe, j0 true X _ (by omega)]
    have e : (if (xor true (decide (c < 0 ∧ t % 2 = 1))) = true then -(X : Int) else (X : Int)) = sgP c t x := by
      unfold sgP
      rw [ex]
      by_cases h : c < 0 ∧ t % 2 = 1
      · rw [decide_eq_true h, if_pos h]; simp
      · rw [decide_eq_false h, if_neg h]; simp
    rw [e]
  · rw [decide_eq_false hx]
    obtain ⟨X, hXe⟩ : ∃ X : Nat, x = X := ⟨x.toNat, by omega⟩
    rw [cond_false, hXe, j0 false X _ (by omega)]
    have e : (if (xor false (decide (c < 0 ∧ t % 2 = 1))) = true then -(X : Int) else (X : Int)) = sgP c t (X : Int) := by
      unfold sgP
      by_cases h : c < 0 ∧ t % 2 = 1
      · rw [decide_eq_true h, if_pos h]; simp
      · rw [decide_eq_false h, if_neg h]; simp
    rw [e]

/-! ### Ratios, by their values -/
theorem gcI_scale {a b : Int} {k : Nat} : gcI (a * (k : Int)) (b * (k : Int)) = gcI a b * (k : Int) := by
  unfold gcI
  rw [Int.natAbs_mul, Int.natAbs_mul, Int.natAbs_natCast, Nat.gcd_mul_right, Int.natCast_mul]
theorem rn_scale {a b k : Int} (hb : 0 < b) (hk : 0 < k) : rn (a * k) (b * k) = rn a b ∧ rd (a * k) (b * k) = rd a b := by
  obtain ⟨m, rfl⟩ : ∃ m : Nat, k = m := ⟨k.toNat, by omega⟩
  have hbm : 0 < b * (m : Int) := Int.mul_pos hb hk
  unfold rn rd
  rw [if_neg (by omega), if_neg (by omega), gcI_scale, show (((b * (m : Int)).natAbs : Nat) : Int) = b * m by omega, show ((b.natAbs : Nat) : Int) = b by omega]
  exact ⟨Int.mul_ediv_mul_of_pos_left _ _ hk, Int.mul_ediv_mul_of_pos_left _ _ hk⟩
theorem rn_congr {a b c d : Int} (hb : 0 < b) (hd : 0 < d) (h : a * d = c * b) : rn a b = rn c d ∧ rd a b = rd c d := by
  have h1 := rn_scale (a := a) hb hd
  have h2 := rn_scale (a := c) hd hb
  rw [h, Int.mul_comm b d] at h1
  exact ⟨h1.1.symm.trans h2.1, h1.2.symm.trans h2.2⟩
theorem rn_negneg (a : Int) {b : Int} (hb : b < 0) : rn a b = rn (-a) (-b) ∧ rd a b = rd (-a) (-b) := by
  unfold rn rd
  have e : gcI (-a) (-b) = gcI a b := by unfold gcI; rw [Int.natAbs_neg, Int.natAbs_neg]
  rw [e, if_pos hb, if_neg (by omega), Int.natAbs_neg]
  exact ⟨rfl, rfl⟩
theorem RatioInt_eq (N : Nat) (hN : 2000 ≤ N) {x : Int} (h1 : -9223372036854775807 ≤ x) (h2 : x ≤ 9223372036854775807) (k : Int → List Int → Int → List Int → Option R) : ratchetbase_RatioInt N x k = k (sn x) (dg x) (sn 1) (dg 1) := by
  unfold ratchetbase_RatioInt
  rw [WideOf_eq N hN x h1 h2, WideOf_eq N hN 1 (by omega) (by omega)]
/-- A ratio of a value x / y, as the value p / q. -/
theorem RatioMul_eq (N m : Nat) (hm : m ≤ 10) (hN : 2000 ≤ N) {a b c d p q : Int} (ha : Sm m a) (hb : Sm m b) (hc : Sm m c) (hd : Sm m d) (b0 : 0 < b) (d0 : 0 < d) (q0 : 0 < q) (he : a * c * q = p * (b * d)) (k : Int → List Int → Int → List Int → Option R) :
    ratchetbase_RatioMul N (sn a) (dg a) (sn b) (dg b) (sn c) (dg c) (sn d) (dg d) k = k (sn (rn p q)) (dg (rn p q)) (sn (rd p q)) (dg (rd p q)) := by
  have hbd := Int.mul_pos b0 d0
  obtain ⟨e1, e2⟩ := rn_congr hbd q0 he
  unfold ratchetbase_RatioMul
  rw [WideMul_eq N m (by omega) hN ha hc, WideMul_eq N m (by omega) hN hb hd, RatioMake_eq N (m + m) (by omega) hN (Sm_mul ha hc) (Sm_mul hb hd) (by omega), e1, e2]
theorem RatioSubV (N m : Nat) (hm : m ≤ 10) (hN : 2000 ≤ N) {a b c d p q : Int} (ha : Sm m a) (hb : Sm m b) (hc : Sm m c) (hd : Sm m d) (b0 : 0 < b) (d0 : 0 < d) (q0 : 0 < q) (he : (a * d - c * b) * q = p * (b * d)) (k : Int → List Int → Int → List Int → Option R) :
    ratchetbase_RatioSub N (sn a) (dg a) (sn b) (dg b) (sn c) (dg c) (sn d) (dg d) k = k (sn (rn p q)) (dg (rn p q)) (sn (rd p q)) (dg (rd p q)) := by
  obtain ⟨e1, e2⟩ := rn_congr (Int.mul_pos b0 d0) q0 he
  rw [RatioSub_eq N m hm hN ha hb hc hd b0 d0, e1, e2]
theorem RatioAddV (N m : Nat) (hm : m ≤ 10) (hN : 2000 ≤ N) {a b c d p q : Int} (ha : Sm m a) (hb : Sm m b) (hc : Sm m c) (hd : Sm m d) (b0 : 0 < b) (d0 : 0 < d) (q0 : 0 < q) (he : (a * d + c * b) * q = p * (b * d)) (k : Int → List Int → Int → List Int → Option R) :
    ratchetbase_RatioAdd N (sn a) (dg a) (sn b) (dg b) (sn c) (dg c) (sn d) (dg d) k = k (sn (rn p q)) (dg (rn p q)) (sn (rd p q)) (dg (rd p q)) := by
  have hbd := Int.mul_pos b0 d0
  obtain ⟨e1, e2⟩ := rn_congr hbd q0 he
  unfold ratchetbase_RatioAdd
  rw [WideMul_eq N m (by omega) hN ha hd, WideMul_eq N m (by omega) hN hc hb, WideAdd_eq N (m + m) (by omega) hN (Sm_mul ha hd) (Sm_mul hc hb), WideMul_eq N m (by omega) hN hb hd,
    RatioMake_eq N (m + m + 1) (by omega) hN (Sm_add (Sm_mul ha hd) (Sm_mul hc hb)) (Sm_mono (Sm_mul hb hd) (by omega)) (by omega), e1, e2]
theorem RatioDivV (N m : Nat) (hm : m ≤ 10) (hN : 2000 ≤ N) {a b c p q : Int} (ha : Sm m a) (hb : Sm m b) (hc : Sm m c) (h1 : Sm m 1) (b0 : 0 < b) (c0 : c ≠ 0) (q0 : 0 < q) (he : a * q = p * (b * c)) (k : Int → List Int → Int → List Int → Option R) :
    ratchetbase_RatioDiv N (sn a) (dg a) (sn b) (dg b) (sn c) (dg c) (sn 1) (dg 1) k = k (sn (rn p q)) (dg (rn p q)) (sn (rd p q)) (dg (rd p q)) := by
  unfold ratchetbase_RatioDiv
  have hbc : b * c ≠ 0 := Int.mul_ne_zero (by omega) c0
  rw [WideMul_eq N m (by omega) hN ha h1, WideMul_eq N m (by omega) hN hb hc, RatioMake_eq N (m + m) (by omega) hN (Sm_mul ha h1) (Sm_mul hb hc) hbc, Int.mul_one]
  by_cases hc0 : 0 < c
  · obtain ⟨e1, e2⟩ := rn_congr (Int.mul_pos b0 hc0) q0 he
    rw [e1, e2]
  · have hneg : b * c < 0 := Int.mul_neg_of_pos_of_neg b0 (by omega)
    obtain ⟨e1, e2⟩ := rn_negneg a hneg
    obtain ⟨e3, e4⟩ := rn_congr (a := -a) (b := -(b * c)) (c := p) (d := q) (by omega) q0 (by rw [Int.neg_mul, he, Int.mul_neg])
    rw [e1, e2, e3, e4]
theorem RatioFrom_eq (N : Nat) (hN : 2000 ≤ N) {x y : Int} (hx : -1000000000 ≤ x ∧ x ≤ 1000000000) (hy : 0 < y ∧ y ≤ 1000000000) (k : Int → List Int → Int → List Int → Option R) :
    ratchetbase_RatioFrom N x y k = k (sn (rn x y)) (dg (rn x y)) (sn (rd x y)) (dg (rd x y)) := by
  unfold ratchetbase_RatioFrom
  rw [RatioOf_eq N hN (by unfold Sm; omega) (by unfold Sm; omega) hy.1]
/-- What is in lowest terms stays so. -/
theorem rn_rn {x y : Int} (hy : 0 < y) : rn (rn x y) (rd x y) = rn x y ∧ rd (rn x y) (rd x y) = rd x y := by
  obtain ⟨h1, h2⟩ := rat_ok (x := x) hy
  exact rn_congr h1 hy h2
/-! ### A wide number as a number -/
theorem WideInt_loop (N : Nat) (k0 : Int → Int → List Int → Option R) (s : Int) (l : List Int) (hl : dOK l) (hv : val l < 9000000000000000000) (hlen : l.length ≤ 3) : ∀ (n i : Nat), i ≤ l.length → i < n →
    ratchetbase_WideInt_l0 N k0 n (val (l.drop i)) ((i : Int) - 1) s l = k0 (val l) s l := by
  intro n
  induction n with
  | zero => intro i h1 h2; omega
  | succ n ih =>
    intro i h1 h2
    rw [ratchetbase_WideInt_l0]
    by_cases h0 : i = 0
    · subst h0
      rw [cond_neg (by omega), List.drop_zero]
    · obtain ⟨j, rfl⟩ : ∃ j, i = j + 1 := ⟨i - 1, by omega⟩
      have hj : j < l.length := by omega
      rw [cond_pos (by omega), show (((j + 1 : Nat) : Int) - 1) = (j : Int) by omega, at?_lt hj, some_bind']
      have hvd : val (l.drop j) = l[j] + 1000000000 * val (l.drop (j + 1)) := by rw [drop_cons hj, val]
      have hd0 := hl _ (List.getElem_mem hj)
      have hp := val_nonneg (dOK_drop hl (j + 1))
      have hle : val (l.drop j) ≤ val l := by
        have := val_split l j (by omega)
        have h1 := val_nonneg (dOK_take hl j)
        have h2 := val_nonneg (dOK_drop hl j)
        have h3 := bpow_pos j
        have h4 : val (l.drop j) ≤ bpow j * val (l.drop j) := by
          have := Int.mul_le_mul_of_nonneg_right (show 1 ≤ bpow j by omega) h2
          rwa [Int.one_mul] at this
        omega
      rw [w64_id (x := val (l.drop (j + 1)) * 1000000000) (by omega) (by omega), w64_id (x := (j : Int) - 1) (by omega) (by omega), w64_id (by omega) (by omega), show val (l.drop (j + 1)) * 1000000000 + l[j] = val (l.drop j) by omega]
      exact ih j (by omega) (by omega)
theorem sn_mul_abs (x : Int) : sn x * ((x.natAbs : Nat) : Int) = x := by unfold sn; split <;> (try split) <;> omega
theorem WideInt_eq (N : Nat) (hN : 10 ≤ N) {m : Nat} (hm : m ≤ 1000) {x : Int} (hx : Sm m x) (k : Int → Bool → Option R) :
    ratchetbase_WideInt N (sn x) (dg x) k = if x.natAbs < 9000000000000000000 then k x true else k 0 false := by
  have hlen := Sm_len hx
  have hok : dOK (dg x) := dig_ok _
  have hval : val (dg x) = ((x.natAbs : Nat) : Int) := val_dig _
  have hlt := val_lt hok
  have small : x.natAbs < 9000000000000000000 → (dg x).length ≤ 3 → ratchetbase_WideInt_j0 N (fun a b => k a b) (sn x) (dg x) = k x true := by
    intro h hl3
    unfold ratchetbase_WideInt_j0
    have := WideInt_loop N (fun z2 z3 z4 => (k (w64 (z3 * z2)) true)) (sn x) (dg x) hok (by omega) hl3 N (dg x).length (Nat.le_refl _) (by omega)
    rw [List.drop_length] at this
    rw [w64_id (by omega) (by omega)]
    refine this.trans ?_
    rw [hval, sn_mul_abs, w64_id (by omega) (by omega)]
  unfold ratchetbase_WideInt
  by_cases h3 : 3 < (dg x).length
  · rw [cond_pos (by omega), if_neg]
    intro h
    have := dig_len 3 (n := x.natAbs) (by omega)
    unfold dg at h3; omega
  · rw [cond_neg (by omega)]
    by_cases e3 : (dg x).length = 3
    · rw [cond_pos (by omega), show (2 : Int) = ((2 : Nat) : Int) from rfl, at?_lt (show 2 < (dg x).length by omega), some_bind']
      have s1 := val_take (l := dg x) (j := 2) (by omega)
      have s2 : (dg x).take 3 = dg x := List.take_of_length_le (by omega)
      have s3 := val_lt (dOK_take hok 2)
      have s4 := val_nonneg (dOK_take hok 2)
      have s5 : ((dg x).take 2).length = 2 := by rw [List.length_take]; omega
      have b2 : bpow 2 = 1000000000000000000 := rfl
      rw [s5, b2] at s3
      rw [show 2 + 1 = 3 from rfl, s2, b2, hval] at s1
      have hd := hok _ (List.getElem_mem (show 2 < (dg x).length by omega))
      generalize (dg x)[2] = d at *
      by_cases h8 : 8 < d
      · rw [cond_pos (by omega), if_neg (by omega)]
      · rw [cond_neg (by omega), if_pos (by omega)]
        exact small (by omega) (by omega)
    · rw [cond_neg (by omega)]
      have : x.natAbs < 9000000000000000000 := by
        have h2 : bpow (dg x).length ≤ bpow 2 := by
          unfold bpow
          have : (1000000000 : Nat) ^ (dg x).length ≤ 1000000000 ^ 2 := Nat.pow_le_pow_right (by omega) (by omega)
          omega
        have b2 : bpow 2 = 1000000000000000000 := rfl
        omega
      rw [if_pos this]
      exact small this (by omega)
theorem RatioFrac_eq (N : Nat) (hN : 10 ≤ N) {x y : Int} (hy : 0 < y) (hx : Sm 3 x) (hy2 : Sm 3 y) (k : Int → Int → Bool → Option R) :
    ratchetbase_RatioFrac N (sn (rn x y)) (dg (rn x y)) (sn (rd x y)) (dg (rd x y)) k = if smF x y then k (rn x y) (rd x y) true else k 0 0 false := by
  have h1 := rn_sm hy hx
  have h2 := rd_sm (x := x) hy hy2
  have h3 := (rat_ok (x := x) hy).1
  unfold ratchetbase_RatioFrac
  rw [WideInt_eq N hN (by omega) h1]
  by_cases hs : smF x y
  · obtain ⟨a1, a2, a3⟩ := id hs
    rw [if_pos (by omega), WideInt_eq N hN (by omega) h2, if_pos (by omega), if_pos hs]
    unfold ratchetbase_IsSmall
    simp only [Within_eq]
    rw [cond_pos ⟨a1, a2⟩, decide_eq_true (show 1 ≤ rd x y ∧ rd x y ≤ 1000000000 by omega)]
    rfl
  · rw [if_neg hs]
    have fin : ∀ (n d : Int) (b1 b2 : Bool), (b1 = true → n = rn x y) → (b2 = true → d = rd x y) → (bif (!b1) then (k 0 0 false) else (bif (!b2) then (k 0 0 false) else (ratchetbase_IsSmall N n d (fun y5 => (bif (!y5) then (k 0 0 false) else (k n d true)))))) = k 0 0 false := by
      intro n d b1 b2 e1 e2
      cases b1
      · rfl
      · cases b2
        · rfl
        · rw [e1 rfl, e2 rfl]
          unfold ratchetbase_IsSmall
          simp only [Within_eq]
          unfold smF at hs
          show (bif decide _ then _ else _) = _
          by_cases c1 : -1000000000 ≤ rn x y ∧ rn x y ≤ 1000000000
          · rw [cond_pos c1, decide_eq_false (show ¬ (1 ≤ rd x y ∧ rd x y ≤ 1000000000) by omega)]; rfl
          · rw [cond_neg c1]; rfl
    split
    · rw [WideInt_eq N hN (by omega) h2]
      split
      · exact fin _ _ true true (fun _ => rfl) (fun _ => rfl)
      · exact fin _ _ true false (fun _ => rfl) (fun h => by cases h)
    · rw [WideInt_eq N hN (by omega) h2]
      split
      · exact fin _ _ false true (fun h => by cases h) (fun _ => rfl)
      · exact fin _ _ false false (fun h => by cases h) (fun h => by cases h)

/-! ### Equalizers -/
def sgc (c : Int) : Int := if c < 0 then -1 else 1
theorem sgc_sq (c : Int) : sgc c * sgc c = 1 := by unfold sgc; split <;> rfl
theorem sgc_abs (c : Int) : ((c.natAbs : Nat) : Int) = sgc c * c := by unfold sgc; split <;> omega
theorem sgc_pow2 (c : Int) : ∀ m : Nat, sgc c ^ (m + m) = 1
  | 0 => Int.pow_zero _
  | m + 1 => by
    have := sgc_pow2 c m
    rw [show m + 1 + (m + 1) = (m + m) + 1 + 1 by omega, Int.pow_succ, Int.pow_succ, this, Int.one_mul, sgc_sq]
theorem sgP_eq (c : Int) (t : Nat) (x : Int) : sgP c t x = sgc c ^ t * x := by
  have h2 : t = t / 2 + t / 2 + t % 2 := by omega
  have h3 := Nat.mod_two_eq_zero_or_one t
  unfold sgP
  rcases h3 with h | h
  · rw [if_neg (by omega), h2, h, Nat.add_zero, sgc_pow2, Int.one_mul]
  · have e : sgc c ^ t = sgc c := by rw [h2, h, Int.pow_succ, sgc_pow2, Int.one_mul]
    rw [e]; unfold sgc
    by_cases hc : c < 0
    · rw [if_pos ⟨hc, h⟩, if_pos hc]; omega
    · rw [if_neg (by omega), if_neg hc]; omega
/-- What a place adds. -/
def tm (ch l : List Int) (k j : Nat) : Int := if j < ch.length then dat ch j * dat l (k - j) else 0
def Tm (ch l : List Int) (k : Nat) : Nat → Int
  | 0 => 0
  | m + 1 => Tm ch l k m + tm ch l k (m + 1) * dat ch 0 ^ m
def nx (ch l : List Int) : Int := if l.length = 0 then 1 else -(Tm ch l l.length l.length)
def pl (ch : List Int) : Nat → List Int
  | 0 => []
  | k + 1 => pl ch k ++ [nx ch (pl ch k)]
theorem pl_len (ch : List Int) : ∀ k, (pl ch k).length = k
  | 0 => rfl
  | k + 1 => by rw [pl, List.length_append, pl_len ch k]; rfl
/-- A place's number. -/
def pn (ch : List Int) (k : Nat) : Int := nx ch (pl ch k)
theorem pl_dat (ch : List Int) : ∀ (k i : Nat), i < k → dat (pl ch k) i = pn ch i
  | 0, i, h => absurd h (by omega)
  | k + 1, i, h => by
    unfold dat
    rw [pl]
    by_cases hi : i < k
    · rw [List.getElem?_append_left (by rw [pl_len]; exact hi)]
      exact pl_dat ch k i hi
    · have : i = k := by omega
      subst this
      rw [List.getElem?_append_right (by rw [pl_len]; exact Nat.le_refl _), pl_len, Nat.sub_self]
      rfl
theorem pn_eq (ch : List Int) (k : Nat) : pn ch k + Tm ch (pl ch k) k k = if k = 0 then 1 else 0 := by
  unfold pn nx
  rw [pl_len]
  by_cases h : k = 0
  · subst h; simp [Tm]
  · rw [if_neg h, if_neg h]; omega
theorem Tm_const (ch l : List Int) (k : Nat) {m : Nat} (h : ch.length ≤ m + 1) : ∀ d, Tm ch l k (m + d) = Tm ch l k m
  | 0 => rfl
  | d + 1 => by
    rw [show m + (d + 1) = m + d + 1 from rfl, Tm, Tm_const ch l k h d, tm, if_neg (by omega), Int.zero_mul, Int.add_zero]
structure EH (ch : List Int) : Prop where
  pos : 0 < ch.length
  len : ch.length ≤ 30
  all : ∀ i, -1000 ≤ dat ch i ∧ dat ch i ≤ 1000
  nz : dat ch 0 ≠ 0
theorem pow_abs (c : Int) (h : c.natAbs ≤ 1000) (m : Nat) : (c ^ m).natAbs ≤ 1000 ^ m := by
  rw [Int.natAbs_pow]; exact Nat.pow_le_pow_left h m
theorem Tm_small {ch : List Int} (he : EH ch) {k : Nat} (hp : ∀ i, i < k → (pn ch i).natAbs ≤ 2000 ^ i) : ∀ m, m ≤ k → (Tm ch (pl ch k) k m).natAbs + 1000 ^ m * 2000 ^ (k - m) ≤ 2000 ^ k
  | 0, _ => by simp [Tm]
  | m + 1, h => by
    have ih := Tm_small he hp m (by omega)
    rw [Tm]
    have h1 : (tm ch (pl ch k) k (m + 1)).natAbs ≤ 1000 * 2000 ^ (k - (m + 1)) := by
      unfold tm
      split
      · rw [pl_dat ch k _ (by omega), Int.natAbs_mul]
        have := he.all (m + 1)
        exact Nat.mul_le_mul (by omega) (hp _ (by omega))
      · simp
    have h2 : (tm ch (pl ch k) k (m + 1) * dat ch 0 ^ m).natAbs ≤ 1000 * 2000 ^ (k - (m + 1)) * 1000 ^ m := by
      rw [Int.natAbs_mul]
      have := he.all 0
      exact Nat.mul_le_mul h1 (pow_abs _ (by omega) m)
    have h3 := Int.natAbs_add_le (Tm ch (pl ch k) k m) (tm ch (pl ch k) k (m + 1) * dat ch 0 ^ m)
    have h4 : 1000 ^ m * 2000 ^ (k - m) = 2 * (1000 * 2000 ^ (k - (m + 1)) * 1000 ^ m) := by
      rw [show k - m = k - (m + 1) + 1 by omega, Nat.pow_succ 2000]; generalize 2000 ^ (k - (m + 1)) = a; generalize 1000 ^ m = b
      rw [show b * (a * 2000) = 2000 * (a * b) by ac_rfl, show 1000 * a * b = 1000 * (a * b) by ac_rfl]; omega
    have h5 : 1000 ^ (m + 1) * 2000 ^ (k - (m + 1)) = 1000 * 2000 ^ (k - (m + 1)) * 1000 ^ m := by
      rw [Nat.pow_succ]; ac_rfl
    rw [h5]
    omega
theorem pn_small {ch : List Int} (he : EH ch) : ∀ k, (pn ch k).natAbs ≤ 2000 ^ k := by
  intro k
  induction k using Nat.strongRecOn with
  | _ k ih =>
    by_cases h : k = 0
    · subst h; simp [pn, nx, pl]
    · have e := pn_eq ch k
      rw [if_neg h] at e
      have := Tm_small he ih k (Nat.le_refl _)
      omega
theorem Tm_le {ch : List Int} (he : EH ch) {k m : Nat} (h : m ≤ k) : (Tm ch (pl ch k) k m).natAbs ≤ 2000 ^ k := by
  have := Tm_small he (fun i _ => pn_small he i) m h
  omega
theorem p2000 {k : Nat} (h : k ≤ 8) : 2000 ^ k ≤ 256000000000000000000000000 := by
  have : 2000 ^ k ≤ 2000 ^ 8 := Nat.pow_le_pow_right (by omega) h
  exact Nat.le_trans this (by decide)
theorem p1000 {k : Nat} (h : k ≤ 8) : 1000 ^ k ≤ 1000000000000000000000000 := by
  have : 1000 ^ k ≤ 1000 ^ 8 := Nat.pow_le_pow_right (by omega) h
  exact Nat.le_trans this (by decide)
/-- The numerator and the denominator of a place of the equalizer. -/
def qn (ch : List Int) (k : Nat) : Int := sgP (dat ch 0) (k + 1) (pn ch k)
def qd (ch : List Int) (k : Nat) : Int := (((dat ch 0).natAbs ^ k : Nat) : Int)
theorem qd_pos {ch : List Int} (he : EH ch) (k : Nat) : 0 < qd ch k := by
  have := he.nz
  have : 0 < (dat ch 0).natAbs ^ k := Nat.pow_pos (by omega)
  unfold qd; omega
theorem qd_sm {ch : List Int} (he : EH ch) {k : Nat} (h : k ≤ 8) : Sm 3 (qd ch k) := by
  have := he.all 0
  have h1 : (dat ch 0).natAbs ^ k ≤ 1000 ^ k := Nat.pow_le_pow_left (by omega) k
  have h2 := p1000 h
  unfold Sm qd
  rw [show (1000000000 : Nat) ^ 3 = 1000000000000000000000000000 from rfl]
  omega
theorem qd_succ (ch : List Int) (k : Nat) : qd ch (k + 1) = qd ch k * (sgc (dat ch 0) * dat ch 0) := by
  unfold qd; rw [Nat.pow_succ, Int.natCast_mul, sgc_abs]
theorem qd_add (ch : List Int) (a b : Nat) : qd ch (a + b) = qd ch a * qd ch b := by
  unfold qd; rw [Nat.pow_add, Int.natCast_mul]
theorem qd_eq (ch : List Int) : ∀ k, qd ch k = sgc (dat ch 0) ^ k * dat ch 0 ^ k
  | 0 => by simp [qd]
  | k + 1 => by rw [qd_succ, qd_eq ch k, Int.pow_succ, Int.pow_succ]; ac_rfl
theorem qn_eq (ch : List Int) (k : Nat) : qn ch k = sgc (dat ch 0) ^ (k + 1) * pn ch k := sgP_eq _ _ _
theorem sgP_abs (c : Int) (t : Nat) (x : Int) : (sgP c t x).natAbs = x.natAbs := by unfold sgP; split <;> omega
theorem qn_sm {ch : List Int} (he : EH ch) {k : Nat} (h : k ≤ 8) : Sm 3 (qn ch k) := by
  have h1 := pn_small he k
  have h2 := p2000 h
  unfold Sm qn
  rw [sgP_abs, show (1000000000 : Nat) ^ 3 = 1000000000000000000000000000 from rfl]
  omega
def gq (ch : List Int) (k : Nat) : Int × Int := (rn (qn ch k) (qd ch (k + 1)), rd (qn ch k) (qd ch (k + 1)))
def gok (ch : List Int) (k : Nat) : Prop := smF (qn ch k) (qd ch (k + 1))
instance (ch : List Int) (k : Nat) : Decidable (gok ch k) := by unfold gok; infer_instance
def gl (ch : List Int) : Nat → List (Int × Int)
  | 0 => []
  | k + 1 => gl ch k ++ [gq ch k]
theorem gl_len (ch : List Int) : ∀ k, (gl ch k).length = k
  | 0 => rfl
  | k + 1 => by rw [gl, List.length_append, gl_len ch k]; rfl
theorem gl_get (ch : List Int) : ∀ (k i : Nat), i < k → (gl ch k)[i]? = some (gq ch i)
  | 0, i, h => absurd h (by omega)
  | k + 1, i, h => by
    rw [gl]
    by_cases hi : i < k
    · rw [List.getElem?_append_left (by rw [gl_len]; exact hi)]; exact gl_get ch k i hi
    · have : i = k := by omega
      subst this
      rw [List.getElem?_append_right (by rw [gl_len]; exact Nat.le_refl _), gl_len, Nat.sub_self]; rfl
/-! The program's -/
def pw (l : List Int) : List (Int × Int) := l.map fun x => (wHi x, wLo x)
theorem pw_get {l : List Int} {i : Nat} (h : i < l.length) : (pw l)[i]? = some (wHi (dat l i), wLo (dat l i)) := by
  unfold pw; rw [List.getElem?_map, List.getElem?_eq_getElem h, dat_lt h]; rfl
theorem eq_l1 (N : Nat) {ch : List Int} (he : EH ch) (k0 : List Int → Int → Int → Int → Int → Int → Option R) (k1 : List Int → Int → Int → Int → (List (Int × Int)) → (List (Int × Int)) → Int → Int → Option R) (L : Int) (out : List (Int × Int)) {k : Nat} (hk : k ≤ 8) :
    ∀ (j n : Nat) (s : Int), j ≤ k → j < n → arith_EqualizerFor_l1 N k0 k1 n ch (k : Int) (j : Int) L (k : Int) (pw (pl ch k)) out (wHi s) (wLo s) = k1 ch (k : Int) L (k : Int) (pw (pl ch k)) out (wHi (s * dat ch 0 ^ j + Tm ch (pl ch k) k j)) (wLo (s * dat ch 0 ^ j + Tm ch (pl ch k) k j)) := by
  have h0 := he.pos
  have a0 : at? ch 0 = some (dat ch 0) := by
    have := at?_lt h0
    rw [dat_lt h0]; exact this
  intro j
  induction j with
  | zero =>
    intro n s h1 h2
    obtain ⟨n, rfl⟩ : ∃ m, n = m + 1 := ⟨n - 1, by omega⟩
    rw [arith_EqualizerFor_l1, cond_neg (by omega), Tm, Int.pow_zero, Int.mul_one, Int.add_zero]
  | succ j ih =>
    intro n s h1 h2
    obtain ⟨n, rfl⟩ : ∃ m, n = m + 1 := ⟨n - 1, by omega⟩
    have hc := he.all 0
    have hcj := he.all (j + 1)
    have e1 : w64 (((j + 1 : Nat) : Int) - 1) = (j : Int) := by rw [w64_id (by omega) (by omega)]; omega
    have e2 : w64 ((k : Int) - ((j + 1 : Nat) : Int)) = ((k - (j + 1) : Nat) : Int) := by rw [w64_id (by omega) (by omega)]; omega
    have alg : (s * dat ch 0 + tm ch (pl ch k) k (j + 1)) * dat ch 0 ^ j + Tm ch (pl ch k) k j = s * dat ch 0 ^ (j + 1) + Tm ch (pl ch k) k (j + 1) := by
      rw [Tm, Int.pow_succ, Int.add_mul, show s * (dat ch 0 ^ j * dat ch 0) = s * dat ch 0 * dat ch 0 ^ j by ac_rfl]; omega
    rw [arith_EqualizerFor_l1, cond_pos (by omega), a0, some_bind', times_eq N s (by omega) (by omega), e1, e2]
    have hl : (pw (pl ch k)).length = k := by unfold pw; rw [List.length_map, pl_len]
    by_cases hj : j + 1 < ch.length
    · have hd := dat_lt hj
      have a1 : at? ch ((j + 1 : Nat) : Int) = some (dat ch (j + 1)) := by rw [at?_lt hj, hd]
      rw [cond_pos (by omega), hl, inR_nat, decide_eq_true (show k - (j + 1) < k by omega), cond_true, Int.toNat_natCast, pw_get (by rw [pl_len]; omega), some_bind', a1, some_bind']
      rw [times_eq N _ (by omega) (by omega), plus_eq]
      have : s * dat ch 0 + dat (pl ch k) (k - (j + 1)) * dat ch (j + 1) = s * dat ch 0 + tm ch (pl ch k) k (j + 1) := by
        unfold tm; rw [if_pos hj, Int.mul_comm (dat ch (j + 1))]
      rw [this, ih n _ (by omega) (by omega), alg]
    · rw [cond_neg (by omega), ih n _ (by omega) (by omega)]
      have : tm ch (pl ch k) k (j + 1) = 0 := by unfold tm; rw [if_neg hj]
      rw [this, Int.add_zero] at alg
      rw [alg]
theorem eq_j0 (N : Nat) (hN : 1500 ≤ N) {ch : List Int} (he : EH ch) (k0 : Int → Option R) (k1 : List Int → Int → Int → (List (Int × Int)) → (List (Int × Int)) → Option R) (k2 : Int → (List (Int × Int)) → Option R) (L : Int) {k : Nat} (hk : k < 8) :
    arith_EqualizerFor_j0 N k0 k1 k2 ch (k : Int) L (k : Int) (pw (pl ch k)) (gl ch k) (wHi (pn ch k)) (wLo (pn ch k)) = if gok ch k then k1 ch L (k : Int) (pw (pl ch (k + 1))) (gl ch (k + 1)) else k2 8 [] := by
  have h0 := he.pos
  have a0 : at? ch 0 = some (dat ch 0) := by
    have := at?_lt h0
    rw [dat_lt h0]; exact this
  have hl : (pw (pl ch k)).length = k := by unfold pw; rw [List.length_map, pl_len]
  have hc := he.all 0
  have hp := pn_small he k
  have hp2 := p2000 (k := k) (by omega)
  have e1 : w64 ((k : Int) + 1) = ((k + 1 : Nat) : Int) := by rw [w64_id (by omega) (by omega)]; omega
  unfold arith_EqualizerFor_j0
  rw [hl, roomB_of (by omega), cond_true, a0, some_bind', e1, over_eq N hN _ he.nz (by omega) (by omega) (by omega) (by omega) (by omega), gl_len, roomB_of (by omega)]
  have er : pw (pl ch k) ++ [(wHi (pn ch k), wLo (pn ch k))] = pw (pl ch (k + 1)) := by unfold pw; rw [pl, List.map_append]; rfl
  have eg : gl ch k ++ [(rn (sgP (dat ch 0) (k + 1) (pn ch k)) (((dat ch 0).natAbs ^ (k + 1) : Nat) : Int), rd (sgP (dat ch 0) (k + 1) (pn ch k)) (((dat ch 0).natAbs ^ (k + 1) : Nat) : Int))] = gl ch (k + 1) := rfl
  have es : smF (sgP (dat ch 0) (k + 1) (pn ch k)) (((dat ch 0).natAbs ^ (k + 1) : Nat) : Int) ↔ gok ch k := Iff.rfl
  by_cases hg : gok ch k
  · rw [if_pos (es.2 hg), if_pos hg]
    show k1 _ _ _ _ _ = _
    rw [er, eg]
  · rw [if_neg (fun h => hg (es.1 h)), if_neg hg]; rfl
/-- All places are small. -/
def aok (ch : List Int) (a : Nat) : Nat → Prop
  | 0 => True
  | d + 1 => gok ch a ∧ aok ch (a + 1) d
instance aokD (ch : List Int) : ∀ (d a : Nat), Decidable (aok ch a d)
  | 0, _ => isTrue trivial
  | d + 1, a => by unfold aok; exact @instDecidableAnd _ _ _ (aokD ch d (a + 1))
theorem eq_l0 (N : Nat) (hN : 1500 ≤ N) {ch : List Int} (he : EH ch) (k0 : Int → Option R) (k1 : Option R) (k2 : (List (Int × Int)) → Option R) (k3 : Int → (List (Int × Int)) → Option R) {L : Nat} (hL : L ≤ 8) :
    ∀ (d n k : Nat), k + d = L → d < n → arith_EqualizerFor_l0 N k0 k1 k2 k3 n ch (L : Int) (k : Int) (pw (pl ch k)) (gl ch k) = if aok ch k d then k2 (gl ch L) else k3 8 [] := by
  intro d
  induction d with
  | zero =>
    intro n k h1 h2
    obtain ⟨n, rfl⟩ : ∃ m, n = m + 1 := ⟨n - 1, by omega⟩
    rw [arith_EqualizerFor_l0, cond_neg (by omega), if_pos (show aok ch k 0 from trivial), show k = L by omega]
  | succ d ih =>
    intro n k h1 h2
    obtain ⟨n, rfl⟩ : ∃ m, n = m + 1 := ⟨n - 1, by omega⟩
    have e1 : w64 ((k : Int) + 1) = ((k + 1 : Nat) : Int) := by rw [w64_id (by omega) (by omega)]; omega
    have step : (if gok ch k then arith_EqualizerFor_l0 N k0 k1 k2 k3 n ch (L : Int) (w64 ((k : Int) + 1)) (pw (pl ch (k + 1))) (gl ch (k + 1)) else k3 8 []) = if aok ch k (d + 1) then k2 (gl ch L) else k3 8 [] := by
      have ea : aok ch k (d + 1) ↔ (gok ch k ∧ aok ch (k + 1) d) := Iff.rfl
      rw [e1, ih n (k + 1) (by omega) (by omega)]
      by_cases hg : gok ch k
      · rw [if_pos hg]
        by_cases ha : aok ch (k + 1) d
        · rw [if_pos ha, if_pos (ea.2 ⟨hg, ha⟩)]
        · rw [if_neg ha, if_neg (fun h => ha (ea.1 h).2)]
      · rw [if_neg hg, if_neg (fun h => hg (ea.1 h).1)]
    rw [arith_EqualizerFor_l0, cond_pos (by omega)]
    by_cases hk : k = 0
    · subst hk
      rw [cond_neg (by omega)]
      have := eq_j0 N hN he (fun z44 => (k0 z44)) (fun z45 z46 z47 z48 z49 => (arith_EqualizerFor_l0 N k0 k1 k2 k3 n z45 z46 (w64 (z47 + 1)) z48 z49)) (fun z50 z51 => (k3 z50 z51)) (L : Int) (k := 0) (by omega)
      rw [show pn ch 0 = 1 from rfl, show wHi 1 = 0 from rfl, show wLo 1 = 1 from rfl] at this
      rw [this]; exact step
    · have hsum : -(0 * dat ch 0 ^ k + Tm ch (pl ch k) k k) = pn ch k := by
        have := pn_eq ch k
        rw [if_neg hk] at this
        omega
      have z0 : wHi 0 = 0 ∧ wLo 0 = 0 := ⟨rfl, rfl⟩
      have l1 := eq_l1 N he (fun z10 z11 z12 z13 z14 z15 => (arith_wide_times_v1 N z14 z15 (-1) (fun y16 y17 => (arith_EqualizerFor_j0 N (fun z18 => (k0 z18)) (fun z19 z20 z21 z22 z23 => (arith_EqualizerFor_l0 N k0 k1 k2 k3 n z19 z20 (w64 (z21 + 1)) z22 z23)) (fun z24 z25 => (k3 z24 z25)) z10 z11 z12 z13 [] [] y16 y17))))
        (fun z26 z27 z28 z29 z30 z31 z32 z33 => (arith_wide_times_v1 N z32 z33 (-1) (fun y34 y35 => (arith_EqualizerFor_j0 N (fun z36 => (k0 z36)) (fun z37 z38 z39 z40 z41 => (arith_EqualizerFor_l0 N k0 k1 k2 k3 n z37 z38 (w64 (z39 + 1)) z40 z41)) (fun z42 z43 => (k3 z42 z43)) z26 z27 z28 z29 z30 z31 y34 y35)))) (L : Int) (gl ch k) (k := k) (by omega) k N 0 (Nat.le_refl _) (by omega)
      rw [z0.1, z0.2] at l1
      rw [cond_pos (by omega), l1, times_eq N _ (by omega) (by omega), Int.mul_neg_one, hsum]
      rw [eq_j0 N hN he _ _ _ (L : Int) (k := k) (by omega)]
      exact step

/-! The reference's -/
abbrev RT : Type := Int × (List Int) × Int × (List Int)
def rat (p q : Int) : RT := (sn (rn p q), dg (rn p q), sn (rd p q), dg (rd p q))
def rl (ch : List Int) : Nat → List RT
  | 0 => []
  | k + 1 => rl ch k ++ [rat (qn ch k) (qd ch (k + 1))]
theorem rl_len (ch : List Int) : ∀ k, (rl ch k).length = k
  | 0 => rfl
  | k + 1 => by rw [rl, List.length_append, rl_len ch k]; rfl
theorem rl_get (ch : List Int) : ∀ (k i : Nat), i < k → (rl ch k)[i]? = some (rat (qn ch i) (qd ch (i + 1)))
  | 0, i, h => absurd h (by omega)
  | k + 1, i, h => by
    rw [rl]
    by_cases hi : i < k
    · rw [List.getElem?_append_left (by rw [rl_len]; exact hi)]; exact rl_get ch k i hi
    · have : i = k := by omega
      subst this
      rw [List.getElem?_append_right (by rw [rl_len]; exact Nat.le_refl _), rl_len, Nat.sub_self]; rfl
/-- What is left of a place's sum. -/
def sx (ch : List Int) (k m : Nat) : Int := (if k = 0 then 1 else 0) - sgc (dat ch 0) ^ k * Tm ch (pl ch k) k m
theorem pow_sgc_abs (c : Int) (t : Nat) (x : Int) : (sgc c ^ t * x).natAbs = x.natAbs := by rw [← sgP_eq, sgP_abs]
theorem lim27 : (1000000000 : Nat) ^ 3 = 1000000000000000000000000000 := rfl
theorem sx_sm {ch : List Int} (he : EH ch) {k m : Nat} (hk : k ≤ 8) (h : m ≤ k) : Sm 3 (sx ch k m) := by
  have h1 := Tm_le he h
  have h2 := p2000 hk
  have h3 := pow_sgc_abs (dat ch 0) k (Tm ch (pl ch k) k m)
  unfold Sm sx
  rw [lim27]
  generalize sgc (dat ch 0) ^ k * Tm ch (pl ch k) k m = a at *
  split <;> omega
theorem sx_end (ch : List Int) (k : Nat) : sx ch k k = sgc (dat ch 0) ^ k * pn ch k := by
  have h := pn_eq ch k
  unfold sx
  by_cases hk : k = 0
  · subst hk
    rw [if_pos rfl] at h ⊢
    rw [Int.pow_zero, Int.one_mul, Int.one_mul]; omega
  · rw [if_neg hk] at h ⊢
    rw [show pn ch k = -(Tm ch (pl ch k) k k) by omega, Int.mul_neg]; omega
theorem sx_const {ch : List Int} {k m : Nat} (h : ch.length ≤ m + 1) (hm : m ≤ k) : sx ch k m = sx ch k k := by
  have := Tm_const ch (pl ch k) k h (k - m)
  rw [show m + (k - m) = k by omega] at this
  unfold sx; rw [this]
/-- One place's part, with its sign. -/
theorem part_eq {ch : List Int} {k j : Nat} (hj : j + 1 ≤ k) : dat ch (j + 1) * qn ch (k - (j + 1)) * qd ch j = sgc (dat ch 0) ^ k * (dat ch (j + 1) * dat (pl ch k) (k - (j + 1)) * dat ch 0 ^ j) := by
  rw [pl_dat ch k _ (by omega), qn_eq, qd_eq]
  have : sgc (dat ch 0) ^ k = sgc (dat ch 0) ^ (k - (j + 1) + 1) * sgc (dat ch 0) ^ j := by
    rw [← Int.pow_add]; congr 1; omega
  rw [this]; ac_rfl
theorem mul_cancel_pos {a b d : Int} (hd : 0 < d) (h : a * d = b * d) : a = b := Int.eq_of_mul_eq_mul_right (by omega) h
theorem cq_sm {ch : List Int} (he : EH ch) {i k : Nat} (hk : k ≤ 7) : Sm 3 (dat ch i * qn ch k) := by
  have h1 := pn_small he k
  have h2 : 2000 ^ k ≤ 128000000000000000000000 := Nat.le_trans (Nat.pow_le_pow_right (by omega) hk) (by decide)
  have h3 := he.all i
  unfold Sm
  rw [lim27, Int.natAbs_mul]
  have h4 : (qn ch k).natAbs = (pn ch k).natAbs := sgP_abs _ _ _
  have : (dat ch i).natAbs * (qn ch k).natAbs ≤ 1000 * 128000000000000000000000 := Nat.mul_le_mul (by omega) (by omega)
  omega
theorem ref_l1 (N : Nat) (hN : 2000 ≤ N) {ch : List Int} (he : EH ch) (k0 : List Int → Int → Int → Int → List Int → Int → List Int → Option R) (k1 : List Int → Int → Int → (List RT) → (List (Int × Int)) → Int → List Int → Int → List Int → Option R) (L : Int) (out : List (Int × Int)) {k : Nat} (hk : k < 8) :
    ∀ (d n j : Nat), j + d = k → d + 1 < n → (j = 0 ∨ j < ch.length) →
      ratchetref30_Equalizer_l1 N k0 k1 n ch L (k : Int) ((j + 1 : Nat) : Int) (rl ch k) out (sn (rn (sx ch k j) (qd ch k))) (dg (rn (sx ch k j) (qd ch k))) (sn (rd (sx ch k j) (qd ch k))) (dg (rd (sx ch k j) (qd ch k))) =
      k1 ch L (k : Int) (rl ch k) out (sn (rn (sx ch k k) (qd ch k))) (dg (rn (sx ch k k) (qd ch k))) (sn (rd (sx ch k k) (qd ch k))) (dg (rd (sx ch k k) (qd ch k))) := by
  have hD := qd_pos he k
  intro d
  induction d with
  | zero =>
    intro n j h1 h2 h3
    obtain ⟨n, rfl⟩ : ∃ m, n = m + 1 := ⟨n - 1, by omega⟩
    rw [ratchetref30_Equalizer_l1, cond_neg (by omega), show j = k by omega]
  | succ d ih =>
    intro n j h1 h2 h3
    obtain ⟨n, rfl⟩ : ∃ m, n = m + 1 := ⟨n - 1, by omega⟩
    rw [ratchetref30_Equalizer_l1, cond_pos (by omega)]
    by_cases hj : j + 1 < ch.length
    · have hcj := he.all (j + 1)
      have a1 : at? ch ((j + 1 : Nat) : Int) = some (dat ch (j + 1)) := by rw [at?_lt hj, dat_lt hj]
      have e2 : w64 ((k : Int) - ((j + 1 : Nat) : Int)) = ((k - (j + 1) : Nat) : Int) := by rw [w64_id (by omega) (by omega)]; omega
      have e3 : w64 (((j + 1 : Nat) : Int) + 1) = ((j + 1 + 1 : Nat) : Int) := by rw [w64_id (by omega) (by omega)]; omega
      have hq := qd_pos he (k - (j + 1) + 1)
      have hqj := qd_pos he j
      rw [cond_pos (by omega), a1, some_bind', RatioInt_eq N hN (by omega) (by omega), e2, rl_len, inR_nat, decide_eq_true (show k - (j + 1) < k by omega), cond_true, Int.toNat_natCast, rl_get ch k _ (by omega), some_bind']
      unfold rat
      dsimp only
      obtain ⟨g1, g2⟩ := rat_ok (x := qn ch (k - (j + 1))) hq
      rw [RatioMul_eq N 3 (by omega) hN (b := 1) (p := dat ch (j + 1) * qn ch (k - (j + 1))) (q := qd ch (k - (j + 1) + 1)) (by unfold Sm; rw [lim27]; omega) (by unfold Sm; rw [lim27]; omega) (rn_sm hq (qn_sm he (by omega))) (rd_sm hq (qd_sm he (by omega))) (by omega) g1 hq (by
        rw [Int.one_mul, Int.mul_assoc, g2]; ac_rfl)]
      obtain ⟨f1, f2⟩ := rat_ok (x := dat ch (j + 1) * qn ch (k - (j + 1))) hq
      obtain ⟨s1, s2⟩ := rat_ok (x := sx ch k j) hD
      have hDq : qd ch k = qd ch (k - (j + 1) + 1) * qd ch j := by rw [← qd_add]; congr 1; omega
      have hsx : sx ch k (j + 1) = sx ch k j - dat ch (j + 1) * qn ch (k - (j + 1)) * qd ch j := by
        rw [part_eq (by omega)]
        unfold sx
        rw [Tm, tm, if_pos hj, Int.mul_add]; omega
      rw [RatioSubV N 3 (by omega) hN (p := sx ch k (j + 1)) (q := qd ch k) (rn_sm hD (sx_sm he (by omega) (by omega))) (rd_sm hD (qd_sm he (by omega))) (rn_sm hq (cq_sm he (by omega))) (rd_sm hq (qd_sm he (by omega))) s1 f1 hD (by
        rw [hsx]
        generalize rn (sx ch k j) (qd ch k) = a at *
        generalize rd (sx ch k j) (qd ch k) = b at *
        generalize rn (dat ch (j + 1) * qn ch (k - (j + 1))) (qd ch (k - (j + 1) + 1)) = c at *
        generalize rd (dat ch (j + 1) * qn ch (k - (j + 1))) (qd ch (k - (j + 1) + 1)) = e at *
        generalize dat ch (j + 1) * qn ch (k - (j + 1)) = z at *
        rw [Int.sub_mul, Int.sub_mul]
        have t1 : a * e * qd ch k = sx ch k j * (b * e) := by rw [show a * e * qd ch k = a * qd ch k * e by ac_rfl, s2]; ac_rfl
        have t2 : c * b * qd ch k = z * qd ch j * (b * e) := by rw [hDq, show c * b * (qd ch (k - (j + 1) + 1) * qd ch j) = c * qd ch (k - (j + 1) + 1) * (b * qd ch j) by ac_rfl, f2]; ac_rfl
        rw [t1, t2])]
      rw [e3]
      exact ih n (j + 1) (by omega) (by omega) (.inr hj)
    · rw [cond_neg (by omega), sx_const (by omega) (by omega)]
theorem ref_j0 (N : Nat) (hN : 2000 ≤ N) {ch : List Int} (he : EH ch) (k0 : Bool → Option R) (k1 : List Int → Int → Int → (List RT) → (List (Int × Int)) → Option R) (k2 : Bool → (List (Int × Int)) → Option R) (L : Int) {k : Nat} (hk : k < 8) :
    ratchetref30_Equalizer_j0 N k0 k1 k2 ch L (k : Int) (rl ch k) (gl ch k) (sn (rn (sx ch k k) (qd ch k))) (dg (rn (sx ch k k) (qd ch k))) (sn (rd (sx ch k k) (qd ch k))) (dg (rd (sx ch k k) (qd ch k))) = if gok ch k then k1 ch L (k : Int) (rl ch (k + 1)) (gl ch (k + 1)) else k2 false [] := by
  have h0 := he.pos
  have a0 : at? ch 0 = some (dat ch 0) := by
    have := at?_lt h0
    rw [dat_lt h0]; exact this
  have hc := he.all 0
  have hD := qd_pos he k
  have hD1 := qd_pos he (k + 1)
  obtain ⟨s1, s2⟩ := rat_ok (x := sx ch k k) hD
  unfold ratchetref30_Equalizer_j0
  rw [a0, some_bind', RatioInt_eq N hN (by omega) (by omega), RatioDivV N 3 (by omega) hN (p := qn ch k) (q := qd ch (k + 1)) (rn_sm hD (sx_sm he (by omega) (Nat.le_refl _))) (rd_sm hD (qd_sm he (by omega))) (by unfold Sm; rw [lim27]; omega) (by unfold Sm; rw [lim27]; omega) s1 he.nz hD1 (by
    rw [qd_succ, show rn (sx ch k k) (qd ch k) * (qd ch k * (sgc (dat ch 0) * dat ch 0)) = rn (sx ch k k) (qd ch k) * qd ch k * (sgc (dat ch 0) * dat ch 0) by ac_rfl, s2, sx_end, qn_eq, Int.pow_succ]; ac_rfl)]
  rw [RatioFrac_eq N (by omega) hD1 (qn_sm he (by omega)) (qd_sm he (by omega)), rl_len, gl_len, roomB_of (by omega), roomB_of (by omega)]
  have es : smF (qn ch k) (qd ch (k + 1)) ↔ gok ch k := Iff.rfl
  by_cases hg : gok ch k
  · rw [if_pos (es.2 hg), if_pos hg]; rfl
  · rw [if_neg (fun h => hg (es.1 h)), if_neg hg]; rfl
theorem ref_l0 (N : Nat) (hN : 2000 ≤ N) {ch : List Int} (he : EH ch) (k0 : Bool → Option R) (k1 : Option R) (k2 : (List (Int × Int)) → Option R) (k3 : Bool → (List (Int × Int)) → Option R) {L : Nat} (hL : L ≤ 8) :
    ∀ (d n k : Nat), k + d = L → d < n → ratchetref30_Equalizer_l0 N k0 k1 k2 k3 n ch (L : Int) (k : Int) (rl ch k) (gl ch k) = if aok ch k d then k2 (gl ch L) else k3 false [] := by
  intro d
  induction d with
  | zero =>
    intro n k h1 h2
    obtain ⟨n, rfl⟩ : ∃ m, n = m + 1 := ⟨n - 1, by omega⟩
    rw [ratchetref30_Equalizer_l0, cond_neg (by omega), if_pos (show aok ch k 0 from trivial), show k = L by omega]
  | succ d ih =>
    intro n k h1 h2
    obtain ⟨n, rfl⟩ : ∃ m, n = m + 1 := ⟨n - 1, by omega⟩
    have e1 : w64 ((k : Int) + 1) = ((k + 1 : Nat) : Int) := by rw [w64_id (by omega) (by omega)]; omega
    have hD := qd_pos he k
    rw [ratchetref30_Equalizer_l0, cond_pos (by omega)]
    have start : ∀ (K : Int → Option R), ratchetbase_Bit N (decide ((k : Int) = 0)) K = K (if k = 0 then 1 else 0) := by
      intro K; unfold ratchetbase_Bit
      by_cases hk : k = 0
      · rw [if_pos hk, cond_pos (by omega)]
      · rw [if_neg hk, cond_neg (by omega)]
    have hs0 : sx ch k 0 = if k = 0 then 1 else 0 := by unfold sx; rw [Tm, Int.mul_zero]; omega
    have hr : rn (if k = 0 then 1 else 0) 1 = rn (sx ch k 0) (qd ch k) ∧ rd (if k = 0 then 1 else 0) 1 = rd (sx ch k 0) (qd ch k) := by
      refine rn_congr (by omega) hD ?_
      rw [hs0]
      by_cases hk : k = 0
      · subst hk; simp [qd]
      · rw [if_neg hk]; simp
    have h11 : ∀ x : Int, (x = 0 ∨ x = 1) → rn x 1 = x ∧ rd x 1 = 1 := by
      intro x hx
      rcases hx with rfl | rfl <;> exact ⟨rfl, rfl⟩
    have h1' := h11 (if k = 0 then 1 else 0) (by split <;> simp)
    rw [h1'.1, h1'.2] at hr
    rw [start, RatioInt_eq N hN (by split <;> omega) (by split <;> omega)]
    have hsn : ∀ f : Int → List Int → Int → List Int → Option R, f (sn (if k = 0 then 1 else 0)) (dg (if k = 0 then 1 else 0)) (sn 1) (dg 1) = f (sn (rn (sx ch k 0) (qd ch k))) (dg (rn (sx ch k 0) (qd ch k))) (sn (rd (sx ch k 0) (qd ch k))) (dg (rd (sx ch k 0) (qd ch k))) := by
      intro f; rw [← hr.1, ← hr.2]
    rw [hsn (fun a b c d => ratchetref30_Equalizer_l1 N _ _ N ch (L : Int) (k : Int) 1 (rl ch k) (gl ch k) a b c d)]
    rw [show (1 : Int) = ((0 + 1 : Nat) : Int) from rfl, ref_l1 N hN he _ _ (L : Int) (gl ch k) (k := k) (by omega) k N 0 (by omega) (by omega) (.inl rfl), ref_j0 N hN he _ _ _ (L : Int) (by omega)]
    have ea : aok ch k (d + 1) ↔ (gok ch k ∧ aok ch (k + 1) d) := Iff.rfl
    have e1' : w64 ((k : Int) + ((0 + 1 : Nat) : Int)) = ((k + 1 : Nat) : Int) := e1
    rw [e1', ih n (k + 1) (by omega) (by omega)]
    by_cases hg : gok ch k
    · rw [if_pos hg]
      by_cases ha : aok ch (k + 1) d
      · rw [if_pos ha, if_pos (ea.2 ⟨hg, ha⟩)]
      · rw [if_neg ha, if_neg (fun h => ha (ea.1 h).2)]
    · rw [if_neg hg, if_neg (fun h => hg (ea.1 h).1)]
/-! The law's -/
/-- A convolution's part. -/
def vx (ch : List Int) (k : Nat) : Nat → Int
  | 0 => 0
  | j + 1 => vx ch k j + dat ch j * qn ch (k - j) * qd ch j
theorem vx_eq {ch : List Int} {k : Nat} : ∀ m, m ≤ k → m < ch.length → vx ch k (m + 1) = sgc (dat ch 0) ^ (k + 1) * dat ch 0 * (pn ch k + Tm ch (pl ch k) k m)
  | 0, _, _ => by
    rw [vx, vx, Nat.sub_zero, qn_eq, Tm, Int.add_zero, Int.zero_add]
    simp only [qd, Nat.pow_zero, Int.natCast_one, Int.mul_one]; ac_rfl
  | m + 1, h, hl => by
    have ih := vx_eq (ch := ch) (k := k) m (by omega) (by omega)
    rw [vx, ih, Tm, tm, if_pos hl]
    have h1 : dat ch (m + 1) * qn ch (k - (m + 1)) * qd ch (m + 1) = sgc (dat ch 0) ^ (k + 1) * dat ch 0 * (dat ch (m + 1) * dat (pl ch k) (k - (m + 1)) * dat ch 0 ^ m) := by
      rw [qd_succ, show dat ch (m + 1) * qn ch (k - (m + 1)) * (qd ch m * (sgc (dat ch 0) * dat ch 0)) = dat ch (m + 1) * qn ch (k - (m + 1)) * qd ch m * (sgc (dat ch 0) * dat ch 0) by ac_rfl, part_eq h, Int.pow_succ]; ac_rfl
    rw [h1, ← Int.mul_add]
    congr 1; omega
theorem vx_sm {ch : List Int} (he : EH ch) {k : Nat} (hk : k ≤ 7) : ∀ m, m ≤ k + 1 → m ≤ ch.length → Sm 3 (vx ch k m)
  | 0, _, _ => by unfold Sm vx; rw [lim27]; omega
  | m + 1, h, hl => by
    have h0 := he.all 0
    have h1 := pn_small he k
    have h2 := Tm_le he (m := m) (k := k) (by omega)
    have h3 : 2000 ^ k ≤ 128000000000000000000000 := Nat.le_trans (Nat.pow_le_pow_right (by omega) hk) (by decide)
    have h4 := Int.natAbs_add_le (pn ch k) (Tm ch (pl ch k) k m)
    unfold Sm
    rw [vx_eq m (by omega) (by omega), lim27, Int.mul_assoc, pow_sgc_abs, Int.natAbs_mul]
    have : (dat ch 0).natAbs * (pn ch k + Tm ch (pl ch k) k m).natAbs ≤ 1000 * 256000000000000000000000 := Nat.mul_le_mul (by omega) (by omega)
    omega
theorem law_l1 (N : Nat) (hN : 2000 ≤ N) {ch : List Int} (he : EH ch) (k0 : List Int → Int → (List (Int × Int)) → Int → Int → List Int → Int → List Int → Option R) {L k : Nat} (hL : L ≤ 8) (hk : k < L) (hg : ∀ i, i < L → gok ch i) :
    ∀ (d n j : Nat), j + d = k + 1 → d < n → j ≤ ch.length →
      ∃ m, m ≤ k ∧ m < ch.length ∧ (m = k ∨ ch.length ≤ m + 1) ∧
      ratchetlaw30_ArithEqualizer_l1 N k0 n ch (L : Int) (gl ch L) (k : Int) (j : Int) (sn (rn (vx ch k j) (qd ch (k + 1)))) (dg (rn (vx ch k j) (qd ch (k + 1)))) (sn (rd (vx ch k j) (qd ch (k + 1)))) (dg (rd (vx ch k j) (qd ch (k + 1)))) =
      k0 ch (L : Int) (gl ch L) (k : Int) (sn (rn (vx ch k (m + 1)) (qd ch (k + 1)))) (dg (rn (vx ch k (m + 1)) (qd ch (k + 1)))) (sn (rd (vx ch k (m + 1)) (qd ch (k + 1)))) (dg (rd (vx ch k (m + 1)) (qd ch (k + 1)))) := by
  have hD := qd_pos he (k + 1)
  have hpos := he.pos
  intro d
  induction d with
  | zero =>
    intro n j h1 h2 h3
    obtain ⟨n, rfl⟩ : ∃ m, n = m + 1 := ⟨n - 1, by omega⟩
    refine ⟨k, Nat.le_refl _, by omega, .inl rfl, ?_⟩
    rw [ratchetlaw30_ArithEqualizer_l1, cond_neg (by omega), show j = k + 1 by omega]
  | succ d ih =>
    intro n j h1 h2 h3
    obtain ⟨n, rfl⟩ : ∃ m, n = m + 1 := ⟨n - 1, by omega⟩
    rw [ratchetlaw30_ArithEqualizer_l1, cond_pos (by omega)]
    by_cases hj : j < ch.length
    · have hcj := he.all j
      have a1 : at? ch (j : Int) = some (dat ch j) := by rw [at?_lt hj, dat_lt hj]
      have e2 : w64 ((k : Int) - (j : Int)) = ((k - j : Nat) : Int) := by rw [w64_id (by omega) (by omega)]; omega
      have e3 : w64 ((j : Int) + 1) = ((j + 1 : Nat) : Int) := by rw [w64_id (by omega) (by omega)]; omega
      have hq := qd_pos he (k - j + 1)
      obtain ⟨b1, b2, b3⟩ := hg (k - j) (by omega)
      obtain ⟨g1, g2⟩ := rat_ok (x := qn ch (k - j)) hq
      obtain ⟨r1, r2⟩ := rn_rn (x := qn ch (k - j)) hq
      rw [cond_pos (by omega), a1, some_bind', RatioInt_eq N hN (by omega) (by omega), e2, at?_nat, gl_get ch L _ (by omega), some_bind']
      unfold gq
      dsimp only
      rw [RatioFrom_eq N hN ⟨b1, b2⟩ ⟨g1, b3⟩, r1, r2]
      rw [RatioMul_eq N 3 (by omega) hN (b := 1) (p := dat ch j * qn ch (k - j)) (q := qd ch (k - j + 1)) (by unfold Sm; rw [lim27]; omega) (by unfold Sm; rw [lim27]; omega) (rn_sm hq (qn_sm he (by omega))) (rd_sm hq (qd_sm he (by omega))) (by omega) g1 hq (by
        rw [Int.one_mul, Int.mul_assoc, g2]; ac_rfl)]
      obtain ⟨f1, f2⟩ := rat_ok (x := dat ch j * qn ch (k - j)) hq
      obtain ⟨s1, s2⟩ := rat_ok (x := vx ch k j) hD
      have hDq : qd ch (k + 1) = qd ch (k - j + 1) * qd ch j := by rw [← qd_add]; congr 1; omega
      rw [RatioAddV N 3 (by omega) hN (p := vx ch k (j + 1)) (q := qd ch (k + 1)) (rn_sm hD (vx_sm he (by omega) j (by omega) (by omega))) (rd_sm hD (qd_sm he (by omega))) (rn_sm hq (cq_sm he (by omega))) (rd_sm hq (qd_sm he (by omega))) s1 f1 hD (by
        rw [vx]
        generalize rn (vx ch k j) (qd ch (k + 1)) = a at *
        generalize rd (vx ch k j) (qd ch (k + 1)) = b at *
        generalize rn (dat ch j * qn ch (k - j)) (qd ch (k - j + 1)) = c at *
        generalize rd (dat ch j * qn ch (k - j)) (qd ch (k - j + 1)) = e at *
        generalize dat ch j * qn ch (k - j) = z at *
        rw [Int.add_mul, Int.add_mul]
        have t1 : a * e * qd ch (k + 1) = vx ch k j * (b * e) := by rw [show a * e * qd ch (k + 1) = a * qd ch (k + 1) * e by ac_rfl, s2]; ac_rfl
        have t2 : c * b * qd ch (k + 1) = z * qd ch j * (b * e) := by rw [hDq, show c * b * (qd ch (k - j + 1) * qd ch j) = c * qd ch (k - j + 1) * (b * qd ch j) by ac_rfl, f2]; ac_rfl
        rw [t1, t2])]
      rw [e3]
      exact ih n (j + 1) (by omega) (by omega) (by omega)
    · obtain ⟨m, rfl⟩ : ∃ m, j = m + 1 := ⟨j - 1, by omega⟩
      refine ⟨m, by omega, by omega, .inr (by omega), ?_⟩
      rw [cond_neg (by omega)]
theorem law_l0 (N : Nat) (hN : 2000 ≤ N) {ch : List Int} (he : EH ch) (k0 : Bool → Option R) (k1 : Option R) {L : Nat} (hL : L ≤ 8) (hg : ∀ i, i < L → gok ch i) :
    ∀ (d n k : Nat), k + d = L → d < n → ratchetlaw30_ArithEqualizer_l0 N k0 k1 n ch (L : Int) (gl ch L) (k : Int) = k1 := by
  intro d
  induction d with
  | zero =>
    intro n k h1 h2
    obtain ⟨n, rfl⟩ : ∃ m, n = m + 1 := ⟨n - 1, by omega⟩
    rw [ratchetlaw30_ArithEqualizer_l0, cond_neg (by omega)]
  | succ d ih =>
    intro n k h1 h2
    obtain ⟨n, rfl⟩ : ∃ m, n = m + 1 := ⟨n - 1, by omega⟩
    have hD := qd_pos he (k + 1)
    have e1 : w64 ((k : Int) + 1) = ((k + 1 : Nat) : Int) := by rw [w64_id (by omega) (by omega)]; omega
    have z0 : rn (vx ch k 0) (qd ch (k + 1)) = 0 ∧ rd (vx ch k 0) (qd ch (k + 1)) = 1 := by
      have h := rn_congr (a := 0) (b := qd ch (k + 1)) (c := 0) (d := 1) hD (by omega) (by simp)
      exact ⟨h.1, h.2⟩
    rw [ratchetlaw30_ArithEqualizer_l0, cond_pos (by omega), RatioInt_eq N hN (by omega) (by omega)]
    obtain ⟨m, m1, m2, m3, m4⟩ := law_l1 N hN he (fun z19 z20 z21 z22 z23 z24 z25 z26 => (ratchetbase_Bit N (decide (z22 = 0)) (fun y27 => (ratchetbase_RatioInt N y27 (fun y28 y29 y30 y31 => (ratchetbase_RatioCmp N z23 z24 z25 z26 y28 y29 y30 y31 (fun y32 => (bif decide (y32 ≠ 0) then (k0 false) else (ratchetlaw30_ArithEqualizer_l0 N k0 k1 n z19 z20 z21 (w64 (z22 + 1))))))))))) hL (show k < L by omega) hg (k + 1) N 0 (by omega) (by omega) (by omega)
    rw [z0.1, z0.2, show ((0 : Nat) : Int) = 0 from rfl] at m4
    rw [m4]
    obtain ⟨s1, s2⟩ := rat_ok (x := vx ch k (m + 1)) hD
    have hT : Tm ch (pl ch k) k m = Tm ch (pl ch k) k k := by
      rcases m3 with rfl | h
      · rfl
      · have := Tm_const ch (pl ch k) k h (k - m)
        rw [show m + (k - m) = k by omega] at this
        exact this.symm
    have hv : vx ch k (m + 1) = (if k = 0 then 1 else 0) * qd ch (k + 1) := by
      rw [vx_eq m m1 m2, hT, pn_eq]
      by_cases hk : k = 0
      · subst hk
        rw [if_pos rfl, Int.mul_one, Int.one_mul, qd_eq, Int.pow_succ, Int.pow_succ, Int.pow_zero]
        simp
      · rw [if_neg hk]; simp
    rw [hv] at s2
    have hcmp : rn (vx ch k (m + 1)) (qd ch (k + 1)) * 1 - (if k = 0 then 1 else 0) * rd (vx ch k (m + 1)) (qd ch (k + 1)) = 0 := by
      rw [hv] at s1 ⊢
      have : rn ((if k = 0 then 1 else 0) * qd ch (k + 1)) (qd ch (k + 1)) = (if k = 0 then 1 else 0) * rd ((if k = 0 then 1 else 0) * qd ch (k + 1)) (qd ch (k + 1)) := by
        refine mul_cancel_pos hD ?_
        rw [s2]; ac_rfl
      rw [Int.mul_one, this]; omega
    have bit : ratchetbase_Bit N (decide ((k : Int) = 0)) = fun (K : Int → Option R) => K (if k = 0 then 1 else 0) := by
      funext K; unfold ratchetbase_Bit
      by_cases hk : k = 0
      · rw [if_pos hk, cond_pos (by omega)]
      · rw [if_neg hk, cond_neg (by omega)]
    rw [bit]
    dsimp only
    rw [RatioInt_eq N hN (by split <;> omega) (by split <;> omega), RatioCmp_eq N 3 (by omega) hN (rn_sm hD (vx_sm he (by omega) (m + 1) (by omega) (by omega))) (rd_sm hD (qd_sm he (by omega))) (by unfold Sm; rw [lim27]; split <;> omega) (by unfold Sm; rw [lim27]; omega), hcmp, show sn 0 = 0 from rfl, cond_neg (by simp), e1]
    exact ih n (k + 1) (by omega) (by omega)

/-! ### Samples -/
def smp (x : Int) : Bool := decide (-1000 ≤ x ∧ x ≤ 1000)
theorem isSample_eq (N : Nat) (x : Int) (k : Bool → Option R) : arith_isSample N x k = k (smp x) := by
  unfold arith_isSample smp; rw [within_eq]
theorem smp_loop (N : Nat) (k0 : Int → Option R) (k1 : Option R) (l : List Int) (hl : l.length ≤ 1000000) : ∀ (n i : Nat), l.length < n + i → i ≤ l.length →
    (((l.drop i).all smp = true ∧ slices_IndexFunc_Lint_int_v1_l0 N k0 k1 n l l.length i = k1) ∨ ((l.drop i).all smp = false ∧ ∃ j : Nat, slices_IndexFunc_Lint_int_v1_l0 N k0 k1 n l l.length i = k0 j)) := by
  intro n
  induction n with
  | zero => intro i h1 h2; omega
  | succ n ih =>
    intro i h1 h2
    rw [slices_IndexFunc_Lint_int_v1_l0]
    by_cases h : i < l.length
    · unfold arith_each_int__c1_v1
      rw [cond_pos (by omega), at?_lt h, some_bind', isSample_eq, drop_cons h, List.all_cons]
      cases hx : smp l[i]
      · exact .inr ⟨by simp, i, rfl⟩
      · simp only [Bool.not_true, cond_false, Bool.true_and, w64_succ (show i ≤ 1000000000000 by omega)]
        exact ih (i + 1) (by omega) (by omega)
    · rw [cond_neg (by omega)]
      left
      rw [List.drop_eq_nil_of_le (by omega)]
      exact ⟨rfl, rfl⟩
theorem eachSmp_eq (N : Nat) (l : List Int) (hl : l.length < N) (hl2 : l.length ≤ 1000000) (k : Bool → Option R) : arith_each_int_v1 N l k = k (l.all smp) := by
  unfold arith_each_int_v1 slices_ContainsFunc_Lint_int_v1 slices_IndexFunc_Lint_int_v1
  have := smp_loop N (fun z3 => k (!decide (0 ≤ z3))) (k (!decide ((0 : Int) ≤ -1))) l hl2 N 0 (by omega) (by omega)
  rw [List.drop_zero, show ((0 : Nat) : Int) = 0 from rfl] at this
  rcases this with ⟨h1, h2⟩ | ⟨h1, j, h2⟩
  · rw [h1]; exact h2
  · rw [h1]; refine h2.trans ?_
    rw [decide_eq_true (by omega)]; rfl
/-- The error of samples. -/
def serr (l : List Int) : Int := if l.length = 0 then 10 else if 30 < l.length then 8 else if l.all smp = true then 0 else 2
theorem samplesErr_eq (N : Nat) (l : List Int) (hN : 10 ≤ N) (hl : l.length < N) (hl2 : l.length ≤ 1000000) (k : Int → Option R) : arith_samplesErr N l k = k (serr l) := by
  unfold arith_samplesErr serr
  rw [unless_eq, unless_eq, eachSmp_eq N l hl hl2, unless_eq, first3 N (by omega)]
  by_cases h1 : l.length = 0
  · simp [h1]
  · by_cases h2 : 30 < l.length
    · have a : decide (0 < (l.length : Int)) = true := decide_eq_true (by omega)
      have b : decide ((l.length : Int) ≤ 30) = false := decide_eq_false (by omega)
      rw [a, b, if_neg h1, if_pos h2]; rfl
    · have a : decide (0 < (l.length : Int)) = true := decide_eq_true (by omega)
      have b : decide ((l.length : Int) ≤ 30) = true := decide_eq_true (by omega)
      rw [a, b, if_neg h1, if_neg h2]; rfl
theorem SamplesErr_loop (N : Nat) (k0 : Int → Option R) (k1 : Option R) (l : List Int) (hl : l.length ≤ 1000000) : ∀ (n i : Nat), l.length < n + i → i ≤ l.length →
    ratchetref30_SamplesErr_l0 N k0 k1 n l i = if (l.drop i).all smp = true then k1 else k0 2 := by
  intro n
  induction n with
  | zero => intro i h1 h2; omega
  | succ n ih =>
    intro i h1 h2
    rw [ratchetref30_SamplesErr_l0]
    by_cases h : i < l.length
    · rw [cond_pos (by omega), at?_lt h, some_bind', Within_eq, drop_cons h, List.all_cons]
      cases hx : smp l[i]
      · rw [show decide (-1000 ≤ l[i] ∧ l[i] ≤ 1000) = false from hx]; rfl
      · rw [show decide (-1000 ≤ l[i] ∧ l[i] ≤ 1000) = true from hx, show (!true) = false from rfl, cond_false, w64_succ (by omega), Bool.true_and]
        exact ih (i + 1) (by omega) (by omega)
    · rw [cond_neg (by omega), List.drop_eq_nil_of_le (by omega)]; rfl
theorem SamplesErr_eq (N : Nat) (l : List Int) (hl : l.length < N) (hl2 : l.length ≤ 1000000) (k : Int → Option R) : ratchetref30_SamplesErr N l k = k (serr l) := by
  unfold ratchetref30_SamplesErr serr
  have := SamplesErr_loop N (fun z3 => k z3) (k 0) l hl2 N 0 (by omega) (by omega)
  rw [show ((0 : Nat) : Int) = 0 from rfl, List.drop_zero] at this
  rw [this]
  by_cases h1 : l.length = 0
  · rw [cond_pos (by omega), if_pos h1]
  · rw [cond_neg (by omega), if_neg h1]
    by_cases h2 : 30 < l.length
    · rw [cond_pos (by omega), if_pos h2]
    · rw [cond_neg (by omega), if_neg h2]; split <;> rfl
theorem serr_ok {l : List Int} (h : serr l = 0) : 0 < l.length ∧ l.length ≤ 30 ∧ ∀ x ∈ l, -1000 ≤ x ∧ x ≤ 1000 := by
  unfold serr at h
  split at h
  · cases h
  · split at h
    · cases h
    · split at h
      · rename_i h1 h2 h3
        refine ⟨by omega, by omega, fun x hx => ?_⟩
        exact of_decide_eq_true (List.all_eq_true.1 h3 x hx)
      · cases h

theorem Fracs_loop (N : Nat) (k0 : Bool → Option R) (k1 : Option R) (l : List (Int × Int)) (hl : l.length ≤ 1000000) : ∀ (n i : Nat), l.length < n + i → i ≤ l.length → ratchetbase_Fracs_l0 N k0 k1 n l l i = k1 := by
  intro n
  induction n with
  | zero => intro i h1 h2; omega
  | succ n ih =>
    intro i h1 h2
    rw [ratchetbase_Fracs_l0]
    by_cases h : i < l.length
    · rw [cond_pos (by omega), at?_lt h, some_bind', some_bind']
      simp only [decide_true, Bool.and_self, bne_self_eq_false, cond_false]
      rw [w64_succ (by omega)]
      exact ih (i + 1) (by omega) (by omega)
    · rw [cond_neg (by omega)]
theorem Fracs_self (N : Nat) (l : List (Int × Int)) (hl : l.length < N) (hl2 : l.length ≤ 1000000) (k : Bool → Option R) : ratchetbase_Fracs N l l k = k true := by
  unfold ratchetbase_Fracs
  have := Fracs_loop N (fun z3 => k z3) (k true) l hl2 N 0 (by omega) (by omega)
  rw [show ((0 : Nat) : Int) = 0 from rfl] at this
  rw [cond_neg (by simp), this]
theorem aok_all {ch : List Int} : ∀ (d a : Nat), aok ch a d → ∀ i, a ≤ i → i < a + d → gok ch i
  | 0, a, _, i, h1, h2 => absurd h2 (by omega)
  | d + 1, a, h, i, h1, h2 => by
    by_cases hi : i = a
    · subst hi; exact h.1
    · exact aok_all d (a + 1) h.2 i (by omega) (by omega)
/-- The error of a channel and a length. -/
def qerr (l : List Int) (n : Int) : Int := if serr l = 0 then (if dat l 0 = 0 then 11 else if 1 ≤ n ∧ n ≤ 8 then 0 else 2) else serr l
theorem at0 {l : List Int} (h : 0 < l.length) : at? l 0 = some (dat l 0) := by
  have := at?_lt h
  rw [dat_lt h]; exact this
theorem qerr_zero {ch : List Int} {L : Int} (h : qerr ch L = 0) : EH ch ∧ 1 ≤ L ∧ L ≤ 8 ∧ serr ch = 0 := by
  unfold qerr at h
  split at h
  · rename_i hs
    split at h
    · cases h
    · rename_i h0
      split at h
      · rename_i h1
        obtain ⟨hp, hl30, hall⟩ := serr_ok hs
        exact ⟨⟨hp, hl30, fun i => by
            by_cases hi : i < ch.length
            · rw [dat_lt hi]; exact hall _ (List.getElem_mem hi)
            · rw [dat_ge (by omega)]; omega, h0⟩, h1.1, h1.2, hs⟩
      · cases h
  · rename_i hs; exact absurd h hs
theorem EqualizerErr_eq (ch : List Int) (L : Int) (hl : ch.length ≤ 32) (K : Int → Option R) : ratchetref30_EqualizerErr 2000 ch L K = K (qerr ch L) := by
  unfold ratchetref30_EqualizerErr qerr
  rw [SamplesErr_eq 2000 ch (by omega) (by omega)]
  by_cases hs : serr ch = 0
  · have hp := (serr_ok hs).1
    rw [cond_neg (by simp [hs]), if_pos hs, at0 hp, some_bind', Within_eq]
    by_cases h0 : dat ch 0 = 0
    · rw [cond_pos h0, if_pos h0]
    · rw [cond_neg h0, if_neg h0]
      by_cases h1 : 1 ≤ L ∧ L ≤ 8
      · rw [decide_eq_true h1, if_pos h1]; rfl
      · rw [decide_eq_false h1, if_neg h1]; rfl
  · rw [cond_pos hs, if_neg hs]
theorem Equalizer_eq {ch : List Int} {L : Int} (h : qerr ch L = 0) (K : (List (Int × Int)) → Bool → Option R) : ratchetref30_Equalizer 2000 ch L K = if aok ch 0 L.toNat then K (gl ch L.toNat) true else K [] false := by
  obtain ⟨he, h1, h2, _⟩ := qerr_zero h
  obtain ⟨n, rfl⟩ : ∃ n : Nat, L = n := ⟨L.toNat, by omega⟩
  unfold ratchetref30_Equalizer
  rw [Int.toNat_natCast]
  exact ref_l0 2000 (by omega) he (fun z47 => (K [] z47)) (K [] true) (fun z48 => (K z48 true)) (fun z49 z50 => (K z50 z49)) (L := n) (by omega) n 2000 0 (by omega) (by omega)
theorem EqualizerFor_eq (ch : List Int) (L : Int) (hl : ch.length ≤ 32) (K : (List (Int × Int)) → Int → Option R) : arith_EqualizerFor 2000 ch L K = if qerr ch L = 0 then (if aok ch 0 L.toNat then K (gl ch L.toNat) 0 else K [] 8) else K [] (qerr ch L) := by
  unfold arith_EqualizerFor
  rw [samplesErr_eq 2000 ch (by omega) (by omega) (by omega)]
  by_cases hs : serr ch = 0
  · have hp := (serr_ok hs).1
    rw [cond_neg (by simp [hs]), at0 hp, some_bind', unless_eq, within_eq, unless_eq, first2 2000 (by omega)]
    have e0 : (if (if decide (dat ch 0 ≠ 0) = true then (0 : Int) else 11) = 0 then (if decide (1 ≤ L ∧ L ≤ 8) = true then (0 : Int) else 2) else (if decide (dat ch 0 ≠ 0) = true then (0 : Int) else 11)) = qerr ch L := by
      unfold qerr
      rw [if_pos hs]
      by_cases h0 : dat ch 0 = 0
      · simp [h0]
      · by_cases h1 : 1 ≤ L ∧ L ≤ 8 <;> simp [h0, h1]
    rw [e0]
    by_cases hq : qerr ch L = 0
    · obtain ⟨he, h1, h2, _⟩ := qerr_zero hq
      rw [cond_neg (by simp [hq]), if_pos hq]
      obtain ⟨n, rfl⟩ : ∃ n : Nat, L = n := ⟨L.toNat, by omega⟩
      rw [Int.toNat_natCast]
      exact eq_l0 2000 (by omega) he (fun z52 => (K [] z52)) (K [] 0) (fun z53 => (K z53 0)) (fun z54 z55 => (K z55 z54)) (L := n) (by omega) n 2000 0 (by omega) (by omega)
    · rw [cond_pos hq, if_neg hq]
  · have e2 : qerr ch L = serr ch := by unfold qerr; rw [if_neg hs]
    rw [cond_pos hs, if_neg (by rw [e2]; exact hs), e2]
theorem pureArithEqualizer : PureArithEqualizer := by
  intro ch L ok0 ok1
  refine ⟨2000, ?_⟩
  intro R k
  unfold ratchetlaw30_ArithEqualizer
  rw [awake_ok, show (!true) = false from rfl, cond_false]
  by_cases h32 : 32 < ch.length
  · rw [cond_pos (by omega)]
  · rw [cond_neg (by omega)]
    unfold ratchetbase_CopyInts
    rw [roomB_of (by omega), cond_true]
    show arith_EqualizerFor 2000 ch L _ = _
    rw [EqualizerFor_eq ch L (by omega)]
    simp only [EqualizerErr_eq ch L (show ch.length ≤ 32 by omega)]
    by_cases hq : qerr ch L = 0
    · obtain ⟨he, h1, h2, _⟩ := qerr_zero hq
      obtain ⟨n, rfl⟩ : ∃ n : Nat, L = n := ⟨L.toNat, by omega⟩
      rw [if_pos hq]
      simp only [Equalizer_eq hq, Int.toNat_natCast, hq, ne_eq, not_true, decide_false, cond_false]
      by_cases ha : aok ch 0 n
      · rw [if_pos ha, if_pos ha]
        rw [show (!true) = false from rfl, cond_false, Fracs_self 2000 _ (by rw [gl_len]; omega) (by rw [gl_len]; omega), show (!true) = false from rfl, cond_false]
        exact law_l0 2000 (by omega) he (fun z33 => k z33) (k true) (L := n) (by omega) (fun i hi => aok_all n 0 ha i (by omega) (by omega)) n 2000 0 (by omega) (by omega)
      · rw [if_neg ha, if_neg ha, show (!false) = true from rfl, cond_true, cond_pos trivial]; rfl
    · rw [if_neg hq, cond_pos hq, cond_pos trivial]; rfl

end
end Am
end Go.Proofs.YteamkapbkccdeaaGreatDoor
