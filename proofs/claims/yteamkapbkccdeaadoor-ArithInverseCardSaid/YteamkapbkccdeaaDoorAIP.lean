/- The statement about inverse sums, on plain data. -/
import Derived.Test.YteamkapbkccdeaaDoorAIF
import Derived.Test.YteamkapbkccdeaaDoorPu
set_option linter.unusedVariables false
set_option linter.unusedSimpArgs false
set_option maxRecDepth 100000
namespace Go.Proofs.YteamkapbkccdeaaDoor
namespace Am
section
variable {R : Type}
theorem awake_ok (k : Bool → Option R) : ratchetlaw30_awake 2000 k = k true := by kernel_rfl

theorem within_eq (N : Nat) (a lo hi : Int) (k : Bool → Option R) : arith_within N a lo hi k = k (decide (lo ≤ a ∧ a ≤ hi)) := by
  unfold arith_within
  by_cases h : lo ≤ a <;> simp [h]
theorem Within_eq (N : Nat) (a lo hi : Int) (k : Bool → Option R) : ratchetbase_Within N a lo hi k = k (decide (lo ≤ a ∧ a ≤ hi)) := by
  unfold ratchetbase_Within
  by_cases h : lo ≤ a <;> simp [h]
theorem unless_eq (N : Nat) (b : Bool) (e : Int) (k : Int → Option R) : arith_unless N b e k = k (if b = true then 0 else e) := by
  unfold arith_unless; cases b <;> rfl
theorem first_loop (N : Nat) (k0 : Int → Option R) (k1 : Option R) (l : List Int) (hl : l.length ≤ 1000000) : ∀ (n i : Nat), l.length < n + i → i ≤ l.length →
    arith_first_l0 N k0 k1 n l l.length i = match (l.drop i).find? (fun x => decide (x ≠ 0)) with | some x => k0 x | none => k1 := by
  intro n
  induction n with
  | zero => intro i h1 h2; omega
  | succ n ih =>
    intro i h1 h2
    rw [arith_first_l0]
    by_cases h : i < l.length
    · rw [cond_pos (by omega), at?_lt h, some_bind', drop_cons h, List.find?_cons]
      by_cases hx : l[i] = 0
      · rw [cond_neg (by simp [hx]), w64_id (by omega) (by omega)]
        simp only [hx, ne_eq, not_true, decide_false]
        exact ih (i + 1) (by omega) (by omega)
      · rw [cond_pos hx]; simp [hx]
    · rw [cond_neg (by omega)]
      have : i = l.length := by omega
      subst this
      simp
theorem first_eq (N : Nat) (l : List Int) (hN : l.length < N) (hl : l.length ≤ 1000000) (k : Int → Option R) : arith_first N l k = k ((l.find? (fun x => decide (x ≠ 0))).getD 0) := by
  unfold arith_first
  have := first_loop N (fun z => k z) (k 0) l hl N 0 (by omega) (by omega)
  rw [Int.natCast_zero] at this
  rw [this, List.drop_zero]
  cases l.find? (fun x => decide (x ≠ 0)) <;> rfl
theorem first2 (N : Nat) (hN : 4 ≤ N) (a b : Int) (k : Int → Option R) : arith_first N [a, b] k = k (if a = 0 then b else a) := by
  rw [first_eq N _ (by simp; omega) (by simp)]
  by_cases ha : a = 0 <;> by_cases hb : b = 0 <;> simp [ha, hb]
theorem first3 (N : Nat) (hN : 4 ≤ N) (a b c : Int) (k : Int → Option R) : arith_first N [a, b, c] k = k (if a = 0 then (if b = 0 then c else b) else a) := by
  rw [first_eq N _ (by simp; omega) (by simp)]
  by_cases ha : a = 0 <;> by_cases hb : b = 0 <;> by_cases hc : c = 0 <;> simp [ha, hb, hc]


/-! ### Exact numbers -/
abbrev X4 := Int × Int × Int × Int
def ex (x : Int) : Bool := decide (-1000000000 ≤ x ∧ x ≤ 1000000000)
def ex4 (x : X4) : Bool := [x.1, x.2.1, x.2.2.1, x.2.2.2].all ex
theorem exc_eq (N : Nat) (a : Int) (k : Bool → Option R) : arith_each_int__c1_v2 N a k = k (!ex a) := by
  unfold arith_each_int__c1_v2 arith_isExact_c1 ex; rw [within_eq]
theorem exl_loop (N : Nat) (k0 : Int → Option R) (k1 g : Option R) (hk : ∀ i : Nat, k0 (i : Int) = g) (l : List Int) (hl : l.length ≤ 1000000) : ∀ (n i : Nat), l.length < n + i → i ≤ l.length →
    slices_IndexFunc_Lint_int_v2_l0 N k0 k1 n l l.length i = if (l.drop i).all ex then k1 else g := by
  intro n
  induction n with
  | zero => intro i h1 h2; omega
  | succ n ih =>
    intro i h1 h2
    rw [slices_IndexFunc_Lint_int_v2_l0]
    by_cases h : i < l.length
    · rw [cond_pos (by omega), at?_lt h, some_bind', exc_eq, drop_cons h, List.all_cons]
      cases e : ex l[i]
      · rw [Bool.not_false, cond_true, hk]; simp
      · rw [Bool.not_true, cond_false, w64_succ (by omega), Bool.true_and]
        exact ih (i + 1) (by omega) (by omega)
    · rw [cond_neg (by omega)]
      have : i = l.length := by omega
      subst this
      simp
theorem isExact_eq (N : Nat) (hN : 10 ≤ N) (a b c d : Int) (k : Bool → Option R) : arith_isExact N a b c d k = k (ex4 (a, b, c, d)) := by
  unfold arith_isExact arith_each_int_v2 slices_ContainsFunc_Lint_int_v2 slices_IndexFunc_Lint_int_v2 ex4
  have := exl_loop N (fun z3 => k (!decide (0 ≤ z3))) (k (!decide (0 ≤ (-1 : Int)))) (k false) (fun i => by simp) [a, b, c, d] (by simp) N 0 (by simp; omega) (by omega)
  rw [Int.natCast_zero] at this
  rw [this, List.drop_zero]
  cases [a, b, c, d].all ex <;> simp
theorem exn_loop (N : Nat) (hN : 10 ≤ N) (k0 : Int → Option R) (k1 g : Option R) (hk : ∀ i : Nat, k0 (i : Int) = g) (l : List X4) (hl : l.length ≤ 1000000) : ∀ (n i : Nat), l.length < n + i → i ≤ l.length →
    slices_IndexFunc_ArithNumber_ArithNumber_l0 N k0 k1 n l l.length i = if (l.drop i).all ex4 then k1 else g := by
  intro n
  induction n with
  | zero => intro i h1 h2; omega
  | succ n ih =>
    intro i h1 h2
    rw [slices_IndexFunc_ArithNumber_ArithNumber_l0]
    by_cases h : i < l.length
    · rw [cond_pos (by omega), at?_lt h, some_bind']
      unfold api_ArithNumber__c1
      rw [isExact_eq N hN, drop_cons h, List.all_cons]
      cases e : ex4 l[i]
      · rw [Bool.not_false]; dsimp only; rw [cond_true, hk]; simp
      · rw [Bool.not_true]; dsimp only; rw [cond_false, w64_succ (by omega), Bool.true_and]
        exact ih (i + 1) (by omega) (by omega)
    · rw [cond_neg (by omega)]
      have : i = l.length := by omega
      subst this
      simp
theorem eachNumber_eq (N : Nat) (hN : 10 ≤ N) (l : List X4) (hl : l.length < N) (hl2 : l.length ≤ 1000000) (k : Bool → Option R) : arith_each_ArithNumber N l k = k (l.all ex4) := by
  unfold arith_each_ArithNumber slices_ContainsFunc_ArithNumber_ArithNumber slices_IndexFunc_ArithNumber_ArithNumber
  have := exn_loop N hN (fun z3 => k (!decide (0 ≤ z3))) (k (!decide (0 ≤ (-1 : Int)))) (k false) (fun i => by simp) l hl2 N 0 (by omega) (by omega)
  rw [Int.natCast_zero] at this
  rw [this, List.drop_zero]
  cases l.all ex4 <;> simp
def cnt (n : Nat) : Bool := decide (n = 1 ∨ n = 2 ∨ n = 4 ∨ n = 8)
theorem isCount_eq (N : Nat) (n : Nat) (k : Bool → Option R) : arith_isCount N (n : Int) k = k (cnt n) := by
  unfold arith_isCount cnt
  by_cases h1 : n = 1
  · rw [cond_pos (by omega)]; simp [h1]
  rw [cond_neg (by omega)]
  by_cases h2 : n = 2
  · rw [cond_pos (by omega)]; simp [h2]
  rw [cond_neg (by omega)]
  by_cases h4 : n = 4
  · rw [cond_pos (by omega)]; simp [h4]
  rw [cond_neg (by omega)]
  by_cases h8 : n = 8
  · simp [h8]
  · have : ¬ ((n : Int) = 8) := by omega
    simp [h1, h2, h4, h8, this]
theorem CountErr_eq (N : Nat) (n : Nat) (k : Int → Option R) : ratchetref30_CountErr N (n : Int) k = k (if cnt n then 0 else 10) := by
  unfold ratchetref30_CountErr cnt
  by_cases h1 : n = 1
  · rw [cond_neg (by omega)]; simp [h1]
  rw [cond_pos (by omega)]
  by_cases h2 : n = 2
  · rw [cond_neg (by omega)]; simp [h2]
  rw [cond_pos (by omega)]
  by_cases h4 : n = 4
  · rw [cond_neg (by omega)]; simp [h4]
  rw [cond_pos (by omega)]
  by_cases h8 : n = 8
  · rw [cond_neg (by omega)]; simp [h8]
  · rw [cond_pos (by omega)]; simp [h1, h2, h4, h8]
theorem Within_ex (N : Nat) (a : Int) (k : Bool → Option R) : ratchetbase_Within N a (-1000000000) 1000000000 k = k (ex a) := Within_eq N a _ _ k
theorem NumbersErr_loop (N : Nat) (k0 : Int → Option R) (k1 : Option R) (l : List X4) (hl : l.length ≤ 1000000) : ∀ (n i : Nat), l.length < n + i → i ≤ l.length →
    ratchetref30_NumbersErr_l0 N k0 k1 n l i = if (l.drop i).all ex4 then k1 else k0 2 := by
  intro n
  induction n with
  | zero => intro i h1 h2; omega
  | succ n ih =>
    intro i h1 h2
    rw [ratchetref30_NumbersErr_l0]
    by_cases h : i < l.length
    · rw [cond_pos (by omega), at?_lt h, some_bind', drop_cons h, List.all_cons, w64_succ (by omega), ih (i + 1) (by omega) (by omega)]
      have e4 : ex4 l[i] = (ex l[i].1 && (ex l[i].2.1 && (ex l[i].2.2.1 && (ex l[i].2.2.2 && true)))) := rfl
      rw [e4]
      simp only [Within_ex]
      cases ex l[i].1 <;> cases ex l[i].2.1 <;> cases ex l[i].2.2.1 <;> cases ex l[i].2.2.2 <;> rfl
    · rw [cond_neg (by omega)]
      have : i = l.length := by omega
      subst this
      simp
theorem NumbersErr_eq (N : Nat) (l : List X4) (hl : l.length < N) (hl2 : l.length ≤ 1000000) (k : Int → Option R) : ratchetref30_NumbersErr N l k = k (if cnt l.length then (if l.all ex4 then 0 else 2) else 10) := by
  unfold ratchetref30_NumbersErr
  rw [CountErr_eq]
  have := NumbersErr_loop N (fun z6 => k z6) (k 0) l hl2 N 0 (by omega) (by omega)
  rw [Int.natCast_zero, List.drop_zero] at this
  rw [this]
  cases cnt l.length <;> cases l.all ex4 <;> simp

/-! ### Turning -/
/-- Twice a number turned back by eighths; the root's parts not doubled. -/
def tw : Nat → X4 → X4
  | 0, (a, b, c, d) => (2 * a, b, 2 * c, d)
  | 1, (a, b, c, d) => (b + d, a + c, d - b, c - a)
  | 2, (a, b, c, d) => (2 * c, d, -(2 * a), -b)
  | 3, (a, b, c, d) => (d - b, c - a, -(b + d), -(a + c))
  | 4, (a, b, c, d) => (-(2 * a), -b, -(2 * c), -d)
  | 5, (a, b, c, d) => (-(b + d), -(a + c), b - d, a - c)
  | 6, (a, b, c, d) => (-(2 * c), -d, 2 * a, b)
  | _, (a, b, c, d) => (b - d, a - c, b + d, a + c)
def ix (n p i : Nat) : Nat := (8 - (p * i * (8 / n)) % 8) % 8
theorem ix_lt (n p i : Nat) : ix n p i < 8 := Nat.mod_lt _ (by omega)
def ixa (n p i : Int) : Int := Int.tmod (w64 (8 - Int.tmod (w64 (w64 (p * i) * w64 (Int.tdiv 8 n))) 8)) 8
def ixb (n p i : Int) : Int := w64 (Int.tdiv (w64 (w64 (w64 (0 - p) * i) * 8)) n)
def md8 (a : Int) : Int := if Int.tmod a 8 < 0 then w64 (Int.tmod a 8 + 8) else Int.tmod a 8
theorem ixa_all : ([1, 2, 4, 8].all fun n => (List.range 8).all fun p => (List.range 8).all fun i => decide (ixa (n : Nat) (p : Nat) (i : Nat) = (ix n p i : Nat))) = true := by decide +kernel
theorem ixb_all : ([1, 2, 4, 8].all fun n => (List.range n).all fun p => (List.range n).all fun i => decide (md8 (ixb (n : Nat) (p : Nat) (i : Nat)) = (ix n p i : Nat))) = true := by decide +kernel
theorem cnt_mem {n : Nat} (h : cnt n = true) : n ∈ [1, 2, 4, 8] := by
  have := of_decide_eq_true h
  simpa using this
theorem cnt_le {n : Nat} (h : cnt n = true) : 1 ≤ n ∧ n ≤ 8 := by
  have := of_decide_eq_true h
  omega
theorem ixa_eq {n p i : Nat} (hn : cnt n = true) (hp : p < n) (hi : i < n) : ixa n p i = (ix n p i : Nat) := by
  have h := cnt_le hn
  have h1 := List.all_eq_true.1 ixa_all n (cnt_mem hn)
  have h2 := List.all_eq_true.1 h1 p (List.mem_range.2 (by omega))
  exact of_decide_eq_true (List.all_eq_true.1 h2 i (List.mem_range.2 (by omega)))
theorem ixb_eq {n p i : Nat} (hn : cnt n = true) (hp : p < n) (hi : i < n) : md8 (ixb n p i) = (ix n p i : Nat) := by
  have h1 := List.all_eq_true.1 ixb_all n (cnt_mem hn)
  have h2 := List.all_eq_true.1 h1 p (List.mem_range.2 hp)
  exact of_decide_eq_true (List.all_eq_true.1 h2 i (List.mem_range.2 hi))
theorem Mod8_eq (N : Nat) (a : Int) (k : Int → Option R) : ratchetbase_Mod N a 8 k = k (md8 a) := by
  unfold ratchetbase_Mod md8
  rw [cond_neg (by omega), cond_dec]
  split <;> rfl
theorem ex_of {x : X4} (h : ex4 x = true) : (-1000000000 ≤ x.1 ∧ x.1 ≤ 1000000000) ∧ (-1000000000 ≤ x.2.1 ∧ x.2.1 ≤ 1000000000) ∧ (-1000000000 ≤ x.2.2.1 ∧ x.2.2.1 ≤ 1000000000) ∧ (-1000000000 ≤ x.2.2.2 ∧ x.2.2.2 ≤ 1000000000) := by
  simpa [ex4, ex] using h
theorem turn_eq (N : Nat) (hN : 10 ≤ N) (a b c d t : Int) (y : Nat) (hy : md8 t = (y : Int)) (hy8 : y < 8) (h : ex4 (a, b, c, d) = true) (k : Int → Int → Int → Int → Option R) :
    ratchetref30_turn N a b c d t k = k (tw y (a, b, c, d)).1 (2 * (tw y (a, b, c, d)).2.1) (tw y (a, b, c, d)).2.2.1 (2 * (tw y (a, b, c, d)).2.2.2) := by
  obtain ⟨N, rfl⟩ : ∃ q, N = q + 10 := ⟨N - 10, by omega⟩
  obtain ⟨ha, hb, hc, hd⟩ := ex_of h
  dsimp only at ha hb hc hd
  unfold ratchetref30_turn
  rw [Mod8_eq, hy]
  rcases (show y = 0 ∨ y = 1 ∨ y = 2 ∨ y = 3 ∨ y = 4 ∨ y = 5 ∨ y = 6 ∨ y = 7 by omega) with rfl | rfl | rfl | rfl | rfl | rfl | rfl | rfl
  all_goals (first | rw [cond_pos (by decide)] | rw [cond_neg (by decide)])
  all_goals (repeat (rw [ratchetref30_turn_l0]; first | rw [cond_pos (by decide)] | rw [cond_neg (by decide)]))
  all_goals simp (disch := omega) only [w64_id, tw]
  all_goals (congr 1 <;> omega)

/-! ### The sums -/
def Bd (m : Int) (u : X4) : Prop := (-m ≤ u.1 ∧ u.1 ≤ m) ∧ (-m ≤ u.2.1 ∧ u.2.1 ≤ m) ∧ (-m ≤ u.2.2.1 ∧ u.2.2.1 ≤ m) ∧ (-m ≤ u.2.2.2 ∧ u.2.2.2 ≤ m)
def addU (u v : X4) : X4 := (u.1 + v.1, u.2.1 + v.2.1, u.2.2.1 + v.2.2.1, u.2.2.2 + v.2.2.2)
theorem tw_bd {y : Nat} {x : X4} (h : ex4 x = true) : Bd 2000000000 (tw y x) := by
  obtain ⟨a, b, c, d⟩ := x
  obtain ⟨ha, hb, hc, hd⟩ := ex_of h
  dsimp only at ha hb hc hd
  unfold tw
  split <;> (unfold Bd; simp_all only [Prod.mk.injEq]) <;> omega
theorem addU_bd {m m' : Int} {u v : X4} (h : Bd m u) (h' : Bd m' v) : Bd (m + m') (addU u v) := by
  unfold Bd addU at *
  dsimp only
  omega
def us (n p : Nat) : List X4 → Nat → X4 → X4
  | [], _, u => u
  | x :: r, i, u => us n p r (i + 1) (addU u (tw (ix n p i) x))
theorem us_bd (n p : Nat) : ∀ (l : List X4) (i : Nat) (u : X4), (∀ x ∈ l, ex4 x = true) → Bd (2000000000 * i) u → Bd (2000000000 * (i + l.length)) (us n p l i u)
  | [], i, u, _, h => by simpa [us] using h
  | x :: r, i, u, hx, h => by
    have := us_bd n p r (i + 1) (addU u (tw (ix n p i) x)) (fun y hy => hx y (List.mem_cons_of_mem _ hy)) (by
      have := addU_bd h (tw_bd (y := ix n p i) (hx x List.mem_cons_self))
      rw [show (2000000000 * ((i + 1 : Nat) : Int)) = 2000000000 * (i : Int) + 2000000000 by omega]
      exact this)
    rw [us]
    have e : (2000000000 * (((i + 1 : Nat) : Int) + (r.length : Int))) = 2000000000 * ((i : Int) + ((x :: r).length : Nat)) := by simp; omega
    rw [← e]; exact this
theorem astep (N : Nat) (k0 : List X4 → Int → Int → Int → Int → Int → Int → Int → Option R) (k1 : List X4 → Int → Int → Int → Int → Int → Int → Int → List (Int × Int) → Option R) (l : List X4) (hl : cnt l.length = true) (p : Nat) (hp : p < l.length) (b7 b8 : Int) (acc : List (Int × Int))
    (f i : Nat) (hi : i < l.length) (hx : ex4 l[i] = true) (u : X4) (hu : Bd (2000000000 * i) u) :
    arith_InverseOf_l1 N k0 k1 (f + 1) l l.length p u.1 u.2.2.1 u.2.1 u.2.2.2 b7 b8 l l.length i acc =
      arith_InverseOf_l1 N k0 k1 f l l.length p (addU u (tw (ix l.length p i) l[i])).1 (addU u (tw (ix l.length p i) l[i])).2.2.1 (addU u (tw (ix l.length p i) l[i])).2.1 (addU u (tw (ix l.length p i) l[i])).2.2.2 b7 b8 l l.length ((i + 1 : Nat) : Int) acc := by
  have h8 := cnt_le hl
  have hix := ixa_eq hl hp hi
  have hlt := ix_lt l.length p i
  unfold ixa at hix
  rw [arith_InverseOf_l1, cond_pos (by omega), at?_lt hi, some_bind']
  unfold arith_powers
  dsimp only
  rw [cond_neg (by omega), hix, w64_succ (by omega)]
  generalize ix l.length p i = y at hlt ⊢
  generalize l[i] = x at hx ⊢
  obtain ⟨a, b, c, d⟩ := x
  obtain ⟨ha, hb, hc, hd⟩ := ex_of hx
  obtain ⟨u1, u2, u3, u4⟩ := u
  unfold Bd at hu
  dsimp only at ha hb hc hd hu ⊢
  rcases (show y = 0 ∨ y = 1 ∨ y = 2 ∨ y = 3 ∨ y = 4 ∨ y = 5 ∨ y = 6 ∨ y = 7 by omega) with rfl | rfl | rfl | rfl | rfl | rfl | rfl | rfl
  all_goals (repeat (first | rw [cond_pos (by decide)] | rw [cond_neg (by decide)]))
  all_goals simp (disch := omega) only [w64_id, tw, addU, Int.mul_zero, Int.mul_one, Int.mul_neg]
  all_goals (congr 1 <;> omega)
theorem aloop (N : Nat) (k0 : List X4 → Int → Int → Int → Int → Int → Int → Int → Option R) (k1 : List X4 → Int → Int → Int → Int → Int → Int → Int → List (Int × Int) → Option R) (l : List X4) (hl : cnt l.length = true) (hall : ∀ x ∈ l, ex4 x = true) (p : Nat) (hp : p < l.length) (b7 b8 : Int) (acc : List (Int × Int)) :
    ∀ (f i : Nat) (u : X4), l.length < f + i → i ≤ l.length → Bd (2000000000 * i) u →
    arith_InverseOf_l1 N k0 k1 f l l.length p u.1 u.2.2.1 u.2.1 u.2.2.2 b7 b8 l l.length i acc =
      k1 l l.length (us l.length p (l.drop i) i u).1 (us l.length p (l.drop i) i u).2.2.1 (us l.length p (l.drop i) i u).2.1 (us l.length p (l.drop i) i u).2.2.2 b7 b8 acc := by
  intro f
  induction f with
  | zero => intro i u h1 h2; omega
  | succ f ih =>
    intro i u h1 h2 hu
    by_cases h : i < l.length
    · rw [astep N k0 k1 l hl p hp b7 b8 acc f i h (hall _ (List.getElem_mem h)) u hu, drop_cons h, us]
      refine ih (i + 1) _ (by omega) (by omega) ?_
      have := addU_bd hu (tw_bd (y := ix l.length p i) (hall _ (List.getElem_mem h)))
      rw [show (2000000000 * ((i + 1 : Nat) : Int)) = 2000000000 * (i : Int) + 2000000000 by omega]
      exact this
    · rw [arith_InverseOf_l1, cond_neg (by omega)]
      have : i = l.length := by omega
      subst this
      simp [us]
theorem rloop (N : Nat) (hN : 10 ≤ N) (k0 : List X4 → Int → Int → Int → Int → Int → Int → Option R) (k1 : List X4 → Int → Int → List (Int × Int) → Int → Int → Int → Int → Option R) (l : List X4) (hl : cnt l.length = true) (hall : ∀ x ∈ l, ex4 x = true) (p : Nat) (hp : p < l.length) (acc : List (Int × Int)) :
    ∀ (f i : Nat) (u : X4), l.length < f + i → i ≤ l.length → Bd (2000000000 * i) u →
    ratchetref30_Inverse_l1 N k0 k1 f l l.length p i acc u.1 (2 * u.2.1) u.2.2.1 (2 * u.2.2.2) =
      k1 l l.length p acc (us l.length p (l.drop i) i u).1 (2 * (us l.length p (l.drop i) i u).2.1) (us l.length p (l.drop i) i u).2.2.1 (2 * (us l.length p (l.drop i) i u).2.2.2) := by
  have h8 := cnt_le hl
  intro f
  induction f with
  | zero => intro i u h1 h2; omega
  | succ f ih =>
    intro i u h1 h2 hu
    by_cases h : i < l.length
    · have hx := hall _ (List.getElem_mem h)
      have htb := tw_bd (y := ix l.length p i) hx
      have hub := addU_bd hu htb
      rw [ratchetref30_Inverse_l1, cond_pos (by omega), at?_lt h, some_bind', cond_neg (by omega),
        turn_eq N hN l[i].1 l[i].2.1 l[i].2.2.1 l[i].2.2.2 (w64 (Int.tdiv (w64 (w64 (w64 (0 - (p : Int)) * (i : Int)) * 8)) (l.length : Int))) (ix l.length p i) (ixb_eq hl hp h) (ix_lt _ _ _) hx, drop_cons h, us]
      unfold ratchetref30_plus
      have hi := ih (i + 1) (addU u (tw (ix l.length p i) l[i])) (by omega) (by omega) (by
        rw [show (2000000000 * ((i + 1 : Nat) : Int)) = 2000000000 * (i : Int) + 2000000000 by omega]
        exact hub)
      rw [← hi, w64_succ (by omega)]
      change ratchetref30_Inverse_l1 N k0 k1 f l _ _ _ acc (w64 (u.1 + (tw (ix l.length p i) l[i]).1)) (w64 (2 * u.2.1 + 2 * (tw (ix l.length p i) l[i]).2.1)) (w64 (u.2.2.1 + (tw (ix l.length p i) l[i]).2.2.1)) (w64 (2 * u.2.2.2 + 2 * (tw (ix l.length p i) l[i]).2.2.2)) = _
      unfold Bd at hu htb
      rw [w64_id (by omega) (by omega), w64_id (by omega) (by omega), w64_id (by omega) (by omega), w64_id (by omega) (by omega), ← Int.mul_add, ← Int.mul_add]
      rfl
    · rw [ratchetref30_Inverse_l1, cond_neg (by omega)]
      have : i = l.length := by omega
      subst this
      simp [us]
theorem tdiv_sm {n d B : Int} (h1 : -B ≤ n) (h2 : n ≤ B) : -B ≤ Int.tdiv n d ∧ Int.tdiv n d ≤ B := by
  have h : (Int.tdiv n d).natAbs = n.natAbs / d.natAbs := Int.natAbs_tdiv n d
  have h3 : n.natAbs / d.natAbs ≤ n.natAbs := Nat.div_le_self _ _
  omega
/-- What one point answers. -/
def outp (n : Nat) (u : X4) : Option (Int × Int) :=
  if u.2.1 = 0 ∧ u.2.2.2 = 0 ∧ Int.tmod u.1 (2 * n) = 0 ∧ Int.tmod u.2.2.1 (2 * n) = 0 then some (Int.tdiv u.1 (2 * n), Int.tdiv u.2.2.1 (2 * n)) else none
theorem aj0 (N : Nat) (k0 : Int → Option R) (k1 : List X4 → Int → Int → Int → List (Int × Int) → Option R) (k2 : Int → List (Int × Int) → Option R) (l : List X4) (n : Nat) (hn : 1 ≤ n ∧ n ≤ 8) (u : X4) (hu : Bd 16000000000 u) (b6 b7 : Int) (acc : List (Int × Int)) (ha : acc.length ≤ 1000) :
    arith_InverseOf_j0 N k0 k1 k2 l n u.1 u.2.2.1 u.2.1 u.2.2.2 b6 b7 acc = match outp n u with | none => k2 12 [] | some g => k1 l n b6 b7 (acc ++ [g]) := by
  unfold Bd at hu
  have hs := tdiv_sm (n := u.1) (d := 2 * (n : Int)) (B := 16000000000) hu.1.1 hu.1.2
  have hs2 := tdiv_sm (n := u.2.2.1) (d := 2 * (n : Int)) (B := 16000000000) hu.2.2.1.1 hu.2.2.1.2
  unfold arith_InverseOf_j0 outp
  rw [w64_id (x := 2 * (n : Int)) (by omega) (by omega), w64_id (x := Int.tdiv u.1 _) (by omega) (by omega), w64_id (x := Int.tdiv u.2.2.1 _) (by omega) (by omega), roomB_of (by omega), cond_true]
  by_cases h1 : u.2.1 = 0
  · rw [cond_neg (by simp [h1])]
    by_cases h2 : u.2.2.2 = 0
    · rw [cond_neg (by simp [h2]), cond_neg (by omega)]
      by_cases h3 : Int.tmod u.1 (2 * n) = 0
      · rw [cond_neg (by simp [h3]), cond_neg (by omega)]
        by_cases h4 : Int.tmod u.2.2.1 (2 * n) = 0
        · rw [cond_neg (by simp [h4]), cond_neg (by omega), cond_neg (by omega), if_pos ⟨h1, h2, h3, h4⟩]
        · rw [cond_pos h4, if_neg (fun h => h4 h.2.2.2)]
      · rw [cond_pos h3, if_neg (fun h => h3 h.2.2.1)]
    · rw [cond_pos h2, if_neg (fun h => h2 h.2.1)]
  · rw [cond_pos h1, if_neg (fun h => h1 h.1)]
theorem rj0 (N : Nat) (k0 : Bool → Option R) (k1 : List X4 → Int → Int → List (Int × Int) → Option R) (k2 : Bool → List (Int × Int) → Option R) (l : List X4) (n : Nat) (hn : 1 ≤ n ∧ n ≤ 8) (u : X4) (hu : Bd 16000000000 u) (p : Int) (acc : List (Int × Int)) (ha : acc.length ≤ 1000) :
    ratchetref30_Inverse_j0 N k0 k1 k2 l n p acc u.1 (2 * u.2.1) u.2.2.1 (2 * u.2.2.2) = match outp n u with | none => k2 false [] | some g => k1 l n p (acc ++ [g]) := by
  unfold Bd at hu
  have hs := tdiv_sm (n := u.1) (d := 2 * (n : Int)) (B := 16000000000) hu.1.1 hu.1.2
  have hs2 := tdiv_sm (n := u.2.2.1) (d := 2 * (n : Int)) (B := 16000000000) hu.2.2.1.1 hu.2.2.1.2
  have hz : ∀ {α : Type} (a b : α), (bif decide (2 * (n : Int) = 0) then a else b) = b := fun a b => cond_neg (by omega)
  unfold ratchetref30_Inverse_j0 outp ratchetref30_isEven ratchetref30_divided
  rw [w64_id (x := 2 * (n : Int)) (by omega) (by omega), w64_id (x := Int.tdiv u.1 _) (by omega) (by omega), w64_id (x := Int.tdiv u.2.2.1 _) (by omega) (by omega), roomB_of (by omega)]
  simp only [hz, cond_true]
  by_cases h1 : u.2.1 = 0
  · by_cases h2 : u.2.2.2 = 0
    · by_cases h3 : Int.tmod u.1 (2 * n) = 0
      · by_cases h4 : Int.tmod u.2.2.1 (2 * n) = 0
        · rw [if_pos ⟨h1, h2, h3, h4⟩]; simp [h1, h2, h3, h4]
        · rw [if_neg (fun h => h4 h.2.2.2)]; simp [h1, h2, h3, h4]
      · rw [if_neg (fun h => h3 h.2.2.1)]; simp [h1, h2, h3]
    · rw [if_neg (fun h => h2 h.2.1)]
      have : 2 * u.2.2.2 ≠ 0 := by omega
      repeat (first | rfl | (rw [cond_dec]; split))
      all_goals simp_all
  · rw [if_neg (fun h => h1 h.1)]
    have : 2 * u.2.1 ≠ 0 := by omega
    repeat (first | rfl | (rw [cond_dec]; split))
    all_goals simp_all
def outs (l : List X4) : Nat → Nat → List (Int × Int) → Option (List (Int × Int))
  | 0, _, acc => some acc
  | m + 1, p, acc => match outp l.length (us l.length p l 0 (0, 0, 0, 0)) with
    | none => none
    | some g => outs l m (p + 1) (acc ++ [g])
theorem Bd0 : Bd (2000000000 * ((0 : Nat) : Int)) (0, 0, 0, 0) := by unfold Bd; simp
theorem us_all {l : List X4} (hl : cnt l.length = true) (hall : ∀ x ∈ l, ex4 x = true) (p : Nat) : Bd 16000000000 (us l.length p l 0 (0, 0, 0, 0)) := by
  have h8 := cnt_le hl
  have := us_bd l.length p l 0 (0, 0, 0, 0) hall Bd0
  unfold Bd at *
  omega
theorem aouter (N : Nat) (hN : 20 ≤ N) (k0 : Int → Option R) (k1 : Option R) (k2 : List (Int × Int) → Option R) (k3 : Int → List (Int × Int) → Option R) (l : List X4) (hl : cnt l.length = true) (hall : ∀ x ∈ l, ex4 x = true) :
    ∀ (m f p : Nat) (acc : List (Int × Int)), p + m = l.length → m < f → acc.length + m ≤ 8 →
    arith_InverseOf_l0 N k0 k1 k2 k3 f l l.length l.length p acc = match outs l m p acc with | none => k3 12 [] | some r => k2 r := by
  have h8 := cnt_le hl
  intro m
  induction m with
  | zero =>
    intro f p acc h1 h2 h3
    obtain ⟨f, rfl⟩ : ∃ q, f = q + 1 := ⟨f - 1, by omega⟩
    rw [arith_InverseOf_l0, cond_neg (by omega), outs]
  | succ m ih =>
    intro f p acc h1 h2 h3
    obtain ⟨f, rfl⟩ : ∃ q, f = q + 1 := ⟨f - 1, by omega⟩
    have hu := us_all hl hall p
    rw [arith_InverseOf_l0, cond_pos (by omega)]
    have h := aloop N (fun z34 z35 z36 z37 z38 z39 z40 z41 => (arith_InverseOf_j0 N (fun z42 => (k0 z42)) (fun z43 z44 z45 z46 z47 => (arith_InverseOf_l0 N k0 k1 k2 k3 f z43 z44 z45 (w64 (z46 + 1)) z47)) (fun z48 z49 => (k3 z48 z49)) z34 z35 z36 z37 z38 z39 z40 z41 [])) (fun z50 z51 z52 z53 z54 z55 z56 z57 z58 => (arith_InverseOf_j0 N (fun z59 => (k0 z59)) (fun z60 z61 z62 z63 z64 => (arith_InverseOf_l0 N k0 k1 k2 k3 f z60 z61 z62 (w64 (z63 + 1)) z64)) (fun z65 z66 => (k3 z65 z66)) z50 z51 z52 z53 z54 z55 z56 z57 z58)) l hl hall p (by omega) l.length p acc N 0 (0, 0, 0, 0) (by omega) (by omega) Bd0
    rw [List.drop_zero] at h
    refine Eq.trans h ?_
    rw [aj0 N _ _ _ l l.length h8 _ hu _ _ acc (by omega), outs]
    cases e : outp l.length (us l.length p l 0 (0, 0, 0, 0)) with
    | none => rfl
    | some g =>
      dsimp only
      rw [w64_succ (by omega)]
      exact ih f (p + 1) (acc ++ [g]) (by omega) (by omega) (by simp; omega)
theorem router (N : Nat) (hN : 20 ≤ N) (k0 : Bool → Option R) (k1 : Option R) (k2 : List (Int × Int) → Option R) (k3 : Bool → List (Int × Int) → Option R) (l : List X4) (hl : cnt l.length = true) (hall : ∀ x ∈ l, ex4 x = true) :
    ∀ (m f p : Nat) (acc : List (Int × Int)), p + m = l.length → m < f → acc.length + m ≤ 8 →
    ratchetref30_Inverse_l0 N k0 k1 k2 k3 f l l.length p acc = match outs l m p acc with | none => k3 false [] | some r => k2 r := by
  have h8 := cnt_le hl
  intro m
  induction m with
  | zero =>
    intro f p acc h1 h2 h3
    obtain ⟨f, rfl⟩ : ∃ q, f = q + 1 := ⟨f - 1, by omega⟩
    rw [ratchetref30_Inverse_l0, cond_neg (by omega), outs]
  | succ m ih =>
    intro f p acc h1 h2 h3
    obtain ⟨f, rfl⟩ : ∃ q, f = q + 1 := ⟨f - 1, by omega⟩
    have hu := us_all hl hall p
    rw [ratchetref30_Inverse_l0, cond_pos (by omega)]
    have h := rloop N (by omega) (fun z10 z11 z12 z13 z14 z15 z16 => (ratchetref30_Inverse_j0 N (fun z17 => (k0 z17)) (fun z18 z19 z20 z21 => (ratchetref30_Inverse_l0 N k0 k1 k2 k3 f z18 z19 (w64 (z20 + 1)) z21)) (fun z22 z23 => (k3 z22 z23)) z10 z11 z12 [] z13 z14 z15 z16)) (fun z24 z25 z26 z27 z28 z29 z30 z31 => (ratchetref30_Inverse_j0 N (fun z32 => (k0 z32)) (fun z33 z34 z35 z36 => (ratchetref30_Inverse_l0 N k0 k1 k2 k3 f z33 z34 (w64 (z35 + 1)) z36)) (fun z37 z38 => (k3 z37 z38)) z24 z25 z26 z27 z28 z29 z30 z31)) l hl hall p (by omega) acc N 0 (0, 0, 0, 0) (by omega) (by omega) Bd0
    rw [List.drop_zero] at h
    refine Eq.trans h ?_
    rw [rj0 N _ _ _ l l.length h8 _ hu _ acc (by omega), outs]
    cases e : outp l.length (us l.length p l 0 (0, 0, 0, 0)) with
    | none => rfl
    | some g =>
      dsimp only
      rw [w64_succ (by omega)]
      exact ih f (p + 1) (acc ++ [g]) (by omega) (by omega) (by simp; omega)
theorem InverseOf_eq (N : Nat) (hN : 20 ≤ N) (l : List X4) (hl : l.length ≤ 10) (k : List (Int × Int) → Int → Option R) :
    arith_InverseOf N l k = if cnt l.length then (if l.all ex4 then (match outs l l.length 0 [] with | none => k [] 12 | some r => k r 0) else k [] 2) else k [] 10 := by
  unfold arith_InverseOf
  rw [isCount_eq, unless_eq, eachNumber_eq N (by omega) l (by omega) (by omega), unless_eq, first2 N (by omega)]
  cases hc : cnt l.length
  · simp
  · cases ha : l.all ex4
    · simp
    · have h8 := cnt_le hc
      have := aouter N hN (fun z67 => k [] z67) (k [] 0) (fun z68 => k z68 0) (fun z69 z70 => k z70 z69) l hc (fun x hx => List.all_eq_true.1 ha x hx) l.length N 0 [] (by omega) (by omega) (by simp; omega)
      rw [Int.natCast_zero] at this
      simp only [if_true]
      rw [cond_neg (by simp), this]
theorem Inverse_eq (N : Nat) (hN : 20 ≤ N) (l : List X4) (hc : cnt l.length = true) (ha : l.all ex4 = true) (k : List (Int × Int) → Bool → Option R) :
    ratchetref30_Inverse N l k = match outs l l.length 0 [] with | none => k [] false | some r => k r true := by
  unfold ratchetref30_Inverse
  have h8 := cnt_le hc
  have := router N hN (fun z39 => k [] z39) (k [] true) (fun z40 => k z40 true) (fun z41 z42 => k z42 z41) l hc (fun x hx => List.all_eq_true.1 ha x hx) l.length N 0 [] (by omega) (by omega) (by simp; omega)
  rw [Int.natCast_zero] at this
  rw [this]
theorem outs_len (l : List X4) : ∀ (m p : Nat) (acc r : List (Int × Int)), outs l m p acc = some r → r.length = acc.length + m
  | 0, p, acc, r, h => by simp [outs] at h; simp [h]
  | m + 1, p, acc, r, h => by
    rw [outs] at h
    split at h
    · cases h
    · have := outs_len l m (p + 1) _ r h
      simp at this; omega
theorem Gausses_loop (N : Nat) (k0 : Bool → Option R) (k1 : Option R) (l : List (Int × Int)) (hl : l.length ≤ 1000000) : ∀ (n i : Nat), l.length < n + i → i ≤ l.length →
    ratchetbase_Gausses_l0 N k0 k1 n l l i = k1 := by
  intro n
  induction n with
  | zero => intro i h1 h2; omega
  | succ n ih =>
    intro i h1 h2
    rw [ratchetbase_Gausses_l0]
    by_cases h : i < l.length
    · rw [cond_pos (by omega), at?_lt h, some_bind', some_bind', w64_succ (by omega), ih (i + 1) (by omega) (by omega)]
      simp
    · rw [cond_neg (by omega)]
theorem Gausses_self (N : Nat) (l : List (Int × Int)) (hl : l.length ≤ 1000000) (hN : l.length < N) (k : Bool → Option R) : ratchetbase_Gausses N l l k = k true := by
  unfold ratchetbase_Gausses
  have := Gausses_loop N (fun z3 => k z3) (k true) l hl N 0 (by omega) (by omega)
  rw [Int.natCast_zero] at this
  rw [cond_neg (by simp), this]
theorem pureArithInverse : PureArithInverse := by
  intro l _
  refine ⟨2000, ?_⟩
  intro R k
  unfold ratchetlaw30_ArithInverse
  rw [awake_ok, show (!true) = false from rfl, cond_false]
  by_cases h10 : l.length ≤ 10
  · rw [cond_neg (by omega)]
    unfold ratchetlaw30_copyNumbers
    rw [roomB_of (by omega), cond_true]
    dsimp only
    rw [InverseOf_eq 2000 (by omega) l h10]
    simp only [NumbersErr_eq 2000 l (show l.length < 2000 by omega) (show l.length ≤ 1000000 by omega)]
    cases hc : cnt l.length
    · simp
    · cases ha : l.all ex4
      · simp
      · simp only [if_true]
        have h8 := cnt_le hc
        simp only [Inverse_eq 2000 (show 20 ≤ 2000 by omega) l hc ha]
        cases ho : outs l l.length 0 [] with
        | none => simp
        | some r =>
          have hr := outs_len l _ _ _ _ ho
          simp only [List.length_nil, Nat.zero_add] at hr
          simp [Gausses_self 2000 r (show r.length ≤ 1000000 by omega) (show r.length < 2000 by omega)]
  · rw [cond_pos (by omega)]
end
end Am
end Go.Proofs.YteamkapbkccdeaaDoor
