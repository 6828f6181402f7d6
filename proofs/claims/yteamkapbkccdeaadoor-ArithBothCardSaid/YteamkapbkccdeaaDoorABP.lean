/- The statement about both ways, on plain data. -/
import Derived.Test.YteamkapbkccdeaaDoorABF
import Derived.Test.YteamkapbkccdeaaDoorPu
set_option linter.unusedVariables false
set_option linter.unusedSimpArgs false
set_option maxRecDepth 100000
namespace Go.Proofs.YteamkapbkccdeaaDoor
namespace Am
section
variable {R : Type}
theorem awake_ok (k : Bool → Option R) : ratchetlaw30_awake 2000 k = k true := by kernel_rfl

theorem within_eq (N : Nat) (a lo hi : Int) (k : Bool → Option R) : arith_within N a lo hi k = k (decide (lo ≤ a ∧ a ≤ hi)) := by
  unfold arith_within
  by_cases h : lo ≤ a <;> simp [h]
theorem Within_eq (N : Nat) (a lo hi : Int) (k : Bool → Option R) : ratchetbase_Within N a lo hi k = k (decide (lo ≤ a ∧ a ≤ hi)) := by
  unfold ratchetbase_Within
  by_cases h : lo ≤ a <;> simp [h]
theorem unless_eq (N : Nat) (b : Bool) (e : Int) (k : Int → Option R) : arith_unless N b e k = k (if b = true then 0 else e) := by
  unfold arith_unless; cases b <;> rfl
theorem first_loop (N : Nat) (k0 : Int → Option R) (k1 : Option R) (l : List Int) (hl : l.length ≤ 1000000) : ∀ (n i : Nat), l.length < n + i → i ≤ l.length →
    arith_first_l0 N k0 k1 n l l.length i = match (l.drop i).find? (fun x => decide (x ≠ 0)) with | some x => k0 x | none => k1 := by
  intro n
  induction n with
  | zero => intro i h1 h2; omega
  | succ n ih =>
    intro i h1 h2
    rw [arith_first_l0]
    by_cases h : i < l.length
    · rw [cond_pos (by omega), at?_lt h, some_bind', drop_cons h, List.find?_cons]
      by_cases hx : l[i] = 0
      · rw [cond_neg (by simp [hx]), w64_id (by omega) (by omega)]
        simp only [hx, ne_eq, not_true, decide_false]
        exact ih (i + 1) (by omega) (by omega)
      · rw [cond_pos hx]; simp [hx]
    · rw [cond_neg (by omega)]
      have : i = l.length := by omega
      subst this
      simp
theorem first_eq (N : Nat) (l : List Int) (hN : l.length < N) (hl : l.length ≤ 1000000) (k : Int → Option R) : arith_first N l k = k ((l.find? (fun x => decide (x ≠ 0))).getD 0) := by
  unfold arith_first
  have := first_loop N (fun z => k z) (k 0) l hl N 0 (by omega) (by omega)
  rw [Int.natCast_zero] at this
  rw [this, List.drop_zero]
  cases l.find? (fun x => decide (x ≠ 0)) <;> rfl
theorem first2 (N : Nat) (hN : 4 ≤ N) (a b : Int) (k : Int → Option R) : arith_first N [a, b] k = k (if a = 0 then b else a) := by
  rw [first_eq N _ (by simp; omega) (by simp)]
  by_cases ha : a = 0 <;> by_cases hb : b = 0 <;> simp [ha, hb]
theorem first3 (N : Nat) (hN : 4 ≤ N) (a b c : Int) (k : Int → Option R) : arith_first N [a, b, c] k = k (if a = 0 then (if b = 0 then c else b) else a) := by
  rw [first_eq N _ (by simp; omega) (by simp)]
  by_cases ha : a = 0 <;> by_cases hb : b = 0 <;> by_cases hc : c = 0 <;> simp [ha, hb, hc]


/-! ### Exact numbers -/
abbrev X4 := Int × Int × Int × Int
def ex (x : Int) : Bool := decide (-1000000000 ≤ x ∧ x ≤ 1000000000)
def ex4 (x : X4) : Bool := [x.1, x.2.1, x.2.2.1, x.2.2.2].all ex
def cnt (n : Nat) : Bool := decide (n = 1 ∨ n = 2 ∨ n = 4 ∨ n = 8)
theorem isCount_eq (N : Nat) (n : Nat) (k : Bool → Option R) : arith_isCount N (n : Int) k = k (cnt n) := by
  unfold arith_isCount cnt
  by_cases h1 : n = 1
  · rw [cond_pos (by omega)]; simp [h1]
  rw [cond_neg (by omega)]
  by_cases h2 : n = 2
  · rw [cond_pos (by omega)]; simp [h2]
  rw [cond_neg (by omega)]
  by_cases h4 : n = 4
  · rw [cond_pos (by omega)]; simp [h4]
  rw [cond_neg (by omega)]
  by_cases h8 : n = 8
  · simp [h8]
  · have : ¬ ((n : Int) = 8) := by omega
    simp [h1, h2, h4, h8, this]
theorem CountErr_eq (N : Nat) (n : Nat) (k : Int → Option R) : ratchetref30_CountErr N (n : Int) k = k (if cnt n then 0 else 10) := by
  unfold ratchetref30_CountErr cnt
  by_cases h1 : n = 1
  · rw [cond_neg (by omega)]; simp [h1]
  rw [cond_pos (by omega)]
  by_cases h2 : n = 2
  · rw [cond_neg (by omega)]; simp [h2]
  rw [cond_pos (by omega)]
  by_cases h4 : n = 4
  · rw [cond_neg (by omega)]; simp [h4]
  rw [cond_pos (by omega)]
  by_cases h8 : n = 8
  · rw [cond_neg (by omega)]; simp [h8]
  · rw [cond_pos (by omega)]; simp [h1, h2, h4, h8]
/-- Twice a number turned back by eighths; the root's parts not doubled. -/
def tw : Nat → X4 → X4
  | 0, (a, b, c, d) => (2 * a, b, 2 * c, d)
  | 1, (a, b, c, d) => (b + d, a + c, d - b, c - a)
  | 2, (a, b, c, d) => (2 * c, d, -(2 * a), -b)
  | 3, (a, b, c, d) => (d - b, c - a, -(b + d), -(a + c))
  | 4, (a, b, c, d) => (-(2 * a), -b, -(2 * c), -d)
  | 5, (a, b, c, d) => (-(b + d), -(a + c), b - d, a - c)
  | 6, (a, b, c, d) => (-(2 * c), -d, 2 * a, b)
  | _, (a, b, c, d) => (b - d, a - c, b + d, a + c)
def md8 (a : Int) : Int := if Int.tmod a 8 < 0 then w64 (Int.tmod a 8 + 8) else Int.tmod a 8
theorem cnt_mem {n : Nat} (h : cnt n = true) : n ∈ [1, 2, 4, 8] := by
  have := of_decide_eq_true h
  simpa using this
theorem cnt_le {n : Nat} (h : cnt n = true) : 1 ≤ n ∧ n ≤ 8 := by
  have := of_decide_eq_true h
  omega
theorem ex_of {x : X4} (h : ex4 x = true) : (-1000000000 ≤ x.1 ∧ x.1 ≤ 1000000000) ∧ (-1000000000 ≤ x.2.1 ∧ x.2.1 ≤ 1000000000) ∧ (-1000000000 ≤ x.2.2.1 ∧ x.2.2.1 ≤ 1000000000) ∧ (-1000000000 ≤ x.2.2.2 ∧ x.2.2.2 ≤ 1000000000) := by
  simpa [ex4, ex] using h
def Bd (m : Int) (u : X4) : Prop := (-m ≤ u.1 ∧ u.1 ≤ m) ∧ (-m ≤ u.2.1 ∧ u.2.1 ≤ m) ∧ (-m ≤ u.2.2.1 ∧ u.2.2.1 ≤ m) ∧ (-m ≤ u.2.2.2 ∧ u.2.2.2 ≤ m)
def addU (u v : X4) : X4 := (u.1 + v.1, u.2.1 + v.2.1, u.2.2.1 + v.2.2.1, u.2.2.2 + v.2.2.2)
theorem tw_bd {y : Nat} {x : X4} (h : ex4 x = true) : Bd 2000000000 (tw y x) := by
  obtain ⟨a, b, c, d⟩ := x
  obtain ⟨ha, hb, hc, hd⟩ := ex_of h
  dsimp only at ha hb hc hd
  unfold tw
  split <;> (unfold Bd; simp_all only [Prod.mk.injEq]) <;> omega
theorem addU_bd {m m' : Int} {u v : X4} (h : Bd m u) (h' : Bd m' v) : Bd (m + m') (addU u v) := by
  unfold Bd addU at *
  dsimp only
  omega
theorem tdiv_sm {n d B : Int} (h1 : -B ≤ n) (h2 : n ≤ B) : -B ≤ Int.tdiv n d ∧ Int.tdiv n d ≤ B := by
  have h : (Int.tdiv n d).natAbs = n.natAbs / d.natAbs := Int.natAbs_tdiv n d
  have h3 : n.natAbs / d.natAbs ≤ n.natAbs := Nat.div_le_self _ _
  omega
theorem Bd0 : Bd (2000000000 * ((0 : Nat) : Int)) (0, 0, 0, 0) := by unfold Bd; simp


/-! ### Inverse sums -/
theorem exc_eq (N : Nat) (a : Int) (k : Bool → Option R) : arith_each_int__c1_v2 N a k = k (!ex a) := by
  unfold arith_each_int__c1_v2 arith_isExact_c1 ex; rw [within_eq]
theorem exl_loop (N : Nat) (k0 : Int → Option R) (k1 g : Option R) (hk : ∀ i : Nat, k0 (i : Int) = g) (l : List Int) (hl : l.length ≤ 1000000) : ∀ (n i : Nat), l.length < n + i → i ≤ l.length →
    slices_IndexFunc_Lint_int_v2_l0 N k0 k1 n l l.length i = if (l.drop i).all ex then k1 else g := by
  intro n
  induction n with
  | zero => intro i h1 h2; omega
  | succ n ih =>
    intro i h1 h2
    rw [slices_IndexFunc_Lint_int_v2_l0]
    by_cases h : i < l.length
    · rw [cond_pos (by omega), at?_lt h, some_bind', exc_eq, drop_cons h, List.all_cons]
      cases e : ex l[i]
      · rw [Bool.not_false, cond_true, hk]; simp
      · rw [Bool.not_true, cond_false, w64_succ (by omega), Bool.true_and]
        exact ih (i + 1) (by omega) (by omega)
    · rw [cond_neg (by omega)]
      have : i = l.length := by omega
      subst this
      simp
theorem isExact_eq (N : Nat) (hN : 10 ≤ N) (a b c d : Int) (k : Bool → Option R) : arith_isExact N a b c d k = k (ex4 (a, b, c, d)) := by
  unfold arith_isExact arith_each_int_v2 slices_ContainsFunc_Lint_int_v2 slices_IndexFunc_Lint_int_v2 ex4
  have := exl_loop N (fun z3 => k (!decide (0 ≤ z3))) (k (!decide (0 ≤ (-1 : Int)))) (k false) (fun i => by simp) [a, b, c, d] (by simp) N 0 (by simp; omega) (by omega)
  rw [Int.natCast_zero] at this
  rw [this, List.drop_zero]
  cases [a, b, c, d].all ex <;> simp
theorem exn_loop (N : Nat) (hN : 10 ≤ N) (k0 : Int → Option R) (k1 g : Option R) (hk : ∀ i : Nat, k0 (i : Int) = g) (l : List X4) (hl : l.length ≤ 1000000) : ∀ (n i : Nat), l.length < n + i → i ≤ l.length →
    slices_IndexFunc_ArithNumber_ArithNumber_l0 N k0 k1 n l l.length i = if (l.drop i).all ex4 then k1 else g := by
  intro n
  induction n with
  | zero => intro i h1 h2; omega
  | succ n ih =>
    intro i h1 h2
    rw [slices_IndexFunc_ArithNumber_ArithNumber_l0]
    by_cases h : i < l.length
    · rw [cond_pos (by omega), at?_lt h, some_bind']
      unfold api_ArithNumber__c1
      rw [isExact_eq N hN, drop_cons h, List.all_cons]
      cases e : ex4 l[i]
      · rw [Bool.not_false]; dsimp only; rw [cond_true, hk]; simp
      · rw [Bool.not_true]; dsimp only; rw [cond_false, w64_succ (by omega), Bool.true_and]
        exact ih (i + 1) (by omega) (by omega)
    · rw [cond_neg (by omega)]
      have : i = l.length := by omega
      subst this
      simp
theorem eachNumber_eq (N : Nat) (hN : 10 ≤ N) (l : List X4) (hl : l.length < N) (hl2 : l.length ≤ 1000000) (k : Bool → Option R) : arith_each_ArithNumber N l k = k (l.all ex4) := by
  unfold arith_each_ArithNumber slices_ContainsFunc_ArithNumber_ArithNumber slices_IndexFunc_ArithNumber_ArithNumber
  have := exn_loop N hN (fun z3 => k (!decide (0 ≤ z3))) (k (!decide (0 ≤ (-1 : Int)))) (k false) (fun i => by simp) l hl2 N 0 (by omega) (by omega)
  rw [Int.natCast_zero] at this
  rw [this, List.drop_zero]
  cases l.all ex4 <;> simp
def ix (n p i : Nat) : Nat := (8 - (p * i * (8 / n)) % 8) % 8
theorem ix_lt (n p i : Nat) : ix n p i < 8 := Nat.mod_lt _ (by omega)
def ixa (n p i : Int) : Int := Int.tmod (w64 (8 - Int.tmod (w64 (w64 (p * i) * w64 (Int.tdiv 8 n))) 8)) 8
theorem ixa_all : ([1, 2, 4, 8].all fun n => (List.range 8).all fun p => (List.range 8).all fun i => decide (ixa (n : Nat) (p : Nat) (i : Nat) = (ix n p i : Nat))) = true := by decide +kernel
theorem ixa_eq {n p i : Nat} (hn : cnt n = true) (hp : p < n) (hi : i < n) : ixa n p i = (ix n p i : Nat) := by
  have h := cnt_le hn
  have h1 := List.all_eq_true.1 ixa_all n (cnt_mem hn)
  have h2 := List.all_eq_true.1 h1 p (List.mem_range.2 (by omega))
  exact of_decide_eq_true (List.all_eq_true.1 h2 i (List.mem_range.2 (by omega)))
def us (n p : Nat) : List X4 → Nat → X4 → X4
  | [], _, u => u
  | x :: r, i, u => us n p r (i + 1) (addU u (tw (ix n p i) x))
theorem us_bd (n p : Nat) : ∀ (l : List X4) (i : Nat) (u : X4), (∀ x ∈ l, ex4 x = true) → Bd (2000000000 * i) u → Bd (2000000000 * (i + l.length)) (us n p l i u)
  | [], i, u, _, h => by simpa [us] using h
  | x :: r, i, u, hx, h => by
    have := us_bd n p r (i + 1) (addU u (tw (ix n p i) x)) (fun y hy => hx y (List.mem_cons_of_mem _ hy)) (by
      have := addU_bd h (tw_bd (y := ix n p i) (hx x List.mem_cons_self))
      rw [show (2000000000 * ((i + 1 : Nat) : Int)) = 2000000000 * (i : Int) + 2000000000 by omega]
      exact this)
    rw [us]
    have e : (2000000000 * (((i + 1 : Nat) : Int) + (r.length : Int))) = 2000000000 * ((i : Int) + ((x :: r).length : Nat)) := by simp; omega
    rw [← e]; exact this
theorem astep (N : Nat) (k0 : List X4 → Int → Int → Int → Int → Int → Int → Int → Option R) (k1 : List X4 → Int → Int → Int → Int → Int → Int → Int → List (Int × Int) → Option R) (l : List X4) (hl : cnt l.length = true) (p : Nat) (hp : p < l.length) (b7 b8 : Int) (acc : List (Int × Int))
    (f i : Nat) (hi : i < l.length) (hx : ex4 l[i] = true) (u : X4) (hu : Bd (2000000000 * i) u) :
    arith_InverseOf_l1 N k0 k1 (f + 1) l l.length p u.1 u.2.2.1 u.2.1 u.2.2.2 b7 b8 l l.length i acc =
      arith_InverseOf_l1 N k0 k1 f l l.length p (addU u (tw (ix l.length p i) l[i])).1 (addU u (tw (ix l.length p i) l[i])).2.2.1 (addU u (tw (ix l.length p i) l[i])).2.1 (addU u (tw (ix l.length p i) l[i])).2.2.2 b7 b8 l l.length ((i + 1 : Nat) : Int) acc := by
  have h8 := cnt_le hl
  have hix := ixa_eq hl hp hi
  have hlt := ix_lt l.length p i
  unfold ixa at hix
  rw [arith_InverseOf_l1, cond_pos (by omega), at?_lt hi, some_bind']
  unfold arith_powers
  dsimp only
  rw [cond_neg (by omega), hix, w64_succ (by omega)]
  generalize ix l.length p i = y at hlt ⊢
  generalize l[i] = x at hx ⊢
  obtain ⟨a, b, c, d⟩ := x
  obtain ⟨ha, hb, hc, hd⟩ := ex_of hx
  obtain ⟨u1, u2, u3, u4⟩ := u
  unfold Bd at hu
  dsimp only at ha hb hc hd hu ⊢
  rcases (show y = 0 ∨ y = 1 ∨ y = 2 ∨ y = 3 ∨ y = 4 ∨ y = 5 ∨ y = 6 ∨ y = 7 by omega) with rfl | rfl | rfl | rfl | rfl | rfl | rfl | rfl
  all_goals (repeat (first | rw [cond_pos (by decide)] | rw [cond_neg (by decide)]))
  all_goals simp (disch := omega) only [w64_id, tw, addU, Int.mul_zero, Int.mul_one, Int.mul_neg]
  all_goals (congr 1 <;> omega)
theorem aloop (N : Nat) (k0 : List X4 → Int → Int → Int → Int → Int → Int → Int → Option R) (k1 : List X4 → Int → Int → Int → Int → Int → Int → Int → List (Int × Int) → Option R) (l : List X4) (hl : cnt l.length = true) (hall : ∀ x ∈ l, ex4 x = true) (p : Nat) (hp : p < l.length) (b7 b8 : Int) (acc : List (Int × Int)) :
    ∀ (f i : Nat) (u : X4), l.length < f + i → i ≤ l.length → Bd (2000000000 * i) u →
    arith_InverseOf_l1 N k0 k1 f l l.length p u.1 u.2.2.1 u.2.1 u.2.2.2 b7 b8 l l.length i acc =
      k1 l l.length (us l.length p (l.drop i) i u).1 (us l.length p (l.drop i) i u).2.2.1 (us l.length p (l.drop i) i u).2.1 (us l.length p (l.drop i) i u).2.2.2 b7 b8 acc := by
  intro f
  induction f with
  | zero => intro i u h1 h2; omega
  | succ f ih =>
    intro i u h1 h2 hu
    by_cases h : i < l.length
    · rw [astep N k0 k1 l hl p hp b7 b8 acc f i h (hall _ (List.getElem_mem h)) u hu, drop_cons h, us]
      refine ih (i + 1) _ (by omega) (by omega) ?_
      have := addU_bd hu (tw_bd (y := ix l.length p i) (hall _ (List.getElem_mem h)))
      rw [show (2000000000 * ((i + 1 : Nat) : Int)) = 2000000000 * (i : Int) + 2000000000 by omega]
      exact this
    · rw [arith_InverseOf_l1, cond_neg (by omega)]
      have : i = l.length := by omega
      subst this
      simp [us]
/-- What one point answers. -/
def outp (n : Nat) (u : X4) : Option (Int × Int) :=
  if u.2.1 = 0 ∧ u.2.2.2 = 0 ∧ Int.tmod u.1 (2 * n) = 0 ∧ Int.tmod u.2.2.1 (2 * n) = 0 then some (Int.tdiv u.1 (2 * n), Int.tdiv u.2.2.1 (2 * n)) else none
theorem aj0 (N : Nat) (k0 : Int → Option R) (k1 : List X4 → Int → Int → Int → List (Int × Int) → Option R) (k2 : Int → List (Int × Int) → Option R) (l : List X4) (n : Nat) (hn : 1 ≤ n ∧ n ≤ 8) (u : X4) (hu : Bd 16000000000 u) (b6 b7 : Int) (acc : List (Int × Int)) (ha : acc.length ≤ 1000) :
    arith_InverseOf_j0 N k0 k1 k2 l n u.1 u.2.2.1 u.2.1 u.2.2.2 b6 b7 acc = match outp n u with | none => k2 12 [] | some g => k1 l n b6 b7 (acc ++ [g]) := by
  unfold Bd at hu
  have hs := tdiv_sm (n := u.1) (d := 2 * (n : Int)) (B := 16000000000) hu.1.1 hu.1.2
  have hs2 := tdiv_sm (n := u.2.2.1) (d := 2 * (n : Int)) (B := 16000000000) hu.2.2.1.1 hu.2.2.1.2
  unfold arith_InverseOf_j0 outp
  rw [w64_id (x := 2 * (n : Int)) (by omega) (by omega), w64_id (x := Int.tdiv u.1 _) (by omega) (by omega), w64_id (x := Int.tdiv u.2.2.1 _) (by omega) (by omega), roomB_of (by omega), cond_true]
  by_cases h1 : u.2.1 = 0
  · rw [cond_neg (by simp [h1])]
    by_cases h2 : u.2.2.2 = 0
    · rw [cond_neg (by simp [h2]), cond_neg (by omega)]
      by_cases h3 : Int.tmod u.1 (2 * n) = 0
      · rw [cond_neg (by simp [h3]), cond_neg (by omega)]
        by_cases h4 : Int.tmod u.2.2.1 (2 * n) = 0
        · rw [cond_neg (by simp [h4]), cond_neg (by omega), cond_neg (by omega), if_pos ⟨h1, h2, h3, h4⟩]
        · rw [cond_pos h4, if_neg (fun h => h4 h.2.2.2)]
      · rw [cond_pos h3, if_neg (fun h => h3 h.2.2.1)]
    · rw [cond_pos h2, if_neg (fun h => h2 h.2.1)]
  · rw [cond_pos h1, if_neg (fun h => h1 h.1)]
def outs (l : List X4) : Nat → Nat → List (Int × Int) → Option (List (Int × Int))
  | 0, _, acc => some acc
  | m + 1, p, acc => match outp l.length (us l.length p l 0 (0, 0, 0, 0)) with
    | none => none
    | some g => outs l m (p + 1) (acc ++ [g])
theorem us_all {l : List X4} (hl : cnt l.length = true) (hall : ∀ x ∈ l, ex4 x = true) (p : Nat) : Bd 16000000000 (us l.length p l 0 (0, 0, 0, 0)) := by
  have h8 := cnt_le hl
  have := us_bd l.length p l 0 (0, 0, 0, 0) hall Bd0
  unfold Bd at *
  omega
theorem aouter (N : Nat) (hN : 20 ≤ N) (k0 : Int → Option R) (k1 : Option R) (k2 : List (Int × Int) → Option R) (k3 : Int → List (Int × Int) → Option R) (l : List X4) (hl : cnt l.length = true) (hall : ∀ x ∈ l, ex4 x = true) :
    ∀ (m f p : Nat) (acc : List (Int × Int)), p + m = l.length → m < f → acc.length + m ≤ 8 →
    arith_InverseOf_l0 N k0 k1 k2 k3 f l l.length l.length p acc = match outs l m p acc with | none => k3 12 [] | some r => k2 r := by
  have h8 := cnt_le hl
  intro m
  induction m with
  | zero =>
    intro f p acc h1 h2 h3
    obtain ⟨f, rfl⟩ : ∃ q, f = q + 1 := ⟨f - 1, by omega⟩
    rw [arith_InverseOf_l0, cond_neg (by omega), outs]
  | succ m ih =>
    intro f p acc h1 h2 h3
    obtain ⟨f, rfl⟩ : ∃ q, f = q + 1 := ⟨f - 1, by omega⟩
    have hu := us_all hl hall p
    rw [arith_InverseOf_l0, cond_pos (by omega)]
    have h := aloop N (fun z34 z35 z36 z37 z38 z39 z40 z41 => (arith_InverseOf_j0 N (fun z42 => (k0 z42)) (fun z43 z44 z45 z46 z47 => (arith_InverseOf_l0 N k0 k1 k2 k3 f z43 z44 z45 (w64 (z46 + 1)) z47)) (fun z48 z49 => (k3 z48 z49)) z34 z35 z36 z37 z38 z39 z40 z41 [])) (fun z50 z51 z52 z53 z54 z55 z56 z57 z58 => (arith_InverseOf_j0 N (fun z59 => (k0 z59)) (fun z60 z61 z62 z63 z64 => (arith_InverseOf_l0 N k0 k1 k2 k3 f z60 z61 z62 (w64 (z63 + 1)) z64)) (fun z65 z66 => (k3 z65 z66)) z50 z51 z52 z53 z54 z55 z56 z57 z58)) l hl hall p (by omega) l.length p acc N 0 (0, 0, 0, 0) (by omega) (by omega) Bd0
    rw [List.drop_zero] at h
    refine Eq.trans h ?_
    rw [aj0 N _ _ _ l l.length h8 _ hu _ _ acc (by omega), outs]
    cases e : outp l.length (us l.length p l 0 (0, 0, 0, 0)) with
    | none => rfl
    | some g =>
      dsimp only
      rw [w64_succ (by omega)]
      exact ih f (p + 1) (acc ++ [g]) (by omega) (by omega) (by simp; omega)
theorem InverseOf_eq (N : Nat) (hN : 20 ≤ N) (l : List X4) (hl : l.length ≤ 10) (k : List (Int × Int) → Int → Option R) :
    arith_InverseOf N l k = if cnt l.length then (if l.all ex4 then (match outs l l.length 0 [] with | none => k [] 12 | some r => k r 0) else k [] 2) else k [] 10 := by
  unfold arith_InverseOf
  rw [isCount_eq, unless_eq, eachNumber_eq N (by omega) l (by omega) (by omega), unless_eq, first2 N (by omega)]
  cases hc : cnt l.length
  · simp
  · cases ha : l.all ex4
    · simp
    · have h8 := cnt_le hc
      have := aouter N hN (fun z67 => k [] z67) (k [] 0) (fun z68 => k z68 0) (fun z69 z70 => k z70 z69) l hc (fun x hx => List.all_eq_true.1 ha x hx) l.length N 0 [] (by omega) (by omega) (by simp; omega)
      rw [Int.natCast_zero] at this
      simp only [if_true]
      rw [cond_neg (by simp), this]
theorem outs_len (l : List X4) : ∀ (m p : Nat) (acc r : List (Int × Int)), outs l m p acc = some r → r.length = acc.length + m
  | 0, p, acc, r, h => by simp [outs] at h; simp [h]
  | m + 1, p, acc, r, h => by
    rw [outs] at h
    split at h
    · cases h
    · have := outs_len l m (p + 1) _ r h
      simp at this; omega
theorem Gausses_loop (N : Nat) (k0 : Bool → Option R) (k1 : Option R) (l : List (Int × Int)) (hl : l.length ≤ 1000000) : ∀ (n i : Nat), l.length < n + i → i ≤ l.length →
    ratchetbase_Gausses_l0 N k0 k1 n l l i = k1 := by
  intro n
  induction n with
  | zero => intro i h1 h2; omega
  | succ n ih =>
    intro i h1 h2
    rw [ratchetbase_Gausses_l0]
    by_cases h : i < l.length
    · rw [cond_pos (by omega), at?_lt h, some_bind', some_bind', w64_succ (by omega), ih (i + 1) (by omega) (by omega)]
      simp
    · rw [cond_neg (by omega)]
theorem Gausses_self (N : Nat) (l : List (Int × Int)) (hl : l.length ≤ 1000000) (hN : l.length < N) (k : Bool → Option R) : ratchetbase_Gausses N l l k = k true := by
  unfold ratchetbase_Gausses
  have := Gausses_loop N (fun z3 => k z3) (k true) l hl N 0 (by omega) (by omega)
  rw [Int.natCast_zero] at this
  rw [cond_neg (by simp), this]


/-! ### Transforms -/
abbrev G2 := Int × Int
def sm (x : Int) : Bool := decide (-1000 ≤ x ∧ x ≤ 1000)
def sm2 (g : G2) : Bool := sm g.1 && sm g.2
theorem gc_eq (N : Nat) (a b : Int) (k : Bool → Option R) : api_Gauss__c1 N a b k = k (!sm2 (a, b)) := by
  unfold api_Gauss__c1 arith_pointsErr_c1 arith_isSample sm2 sm
  simp only [within_eq]
  by_cases h : -1000 ≤ a ∧ a ≤ 1000 <;> simp [h]
theorem gn_loop (N : Nat) (k0 : Int → Option R) (k1 g : Option R) (hk : ∀ i : Nat, k0 (i : Int) = g) (l : List G2) (hl : l.length ≤ 1000000) : ∀ (n i : Nat), l.length < n + i → i ≤ l.length →
    slices_IndexFunc_Gauss_Gauss_l0 N k0 k1 n l l.length i = if (l.drop i).all sm2 then k1 else g := by
  intro n
  induction n with
  | zero => intro i h1 h2; omega
  | succ n ih =>
    intro i h1 h2
    rw [slices_IndexFunc_Gauss_Gauss_l0]
    by_cases h : i < l.length
    · rw [cond_pos (by omega), at?_lt h, some_bind', gc_eq, drop_cons h, List.all_cons]
      cases e : sm2 l[i]
      · rw [Bool.not_false, cond_true, hk]; simp
      · rw [Bool.not_true, cond_false, w64_succ (by omega), Bool.true_and]
        exact ih (i + 1) (by omega) (by omega)
    · rw [cond_neg (by omega)]
      have : i = l.length := by omega
      subst this
      simp
theorem eachGauss_eq (N : Nat) (l : List G2) (hl : l.length < N) (hl2 : l.length ≤ 1000000) (k : Bool → Option R) : arith_each_Gauss N l k = k (l.all sm2) := by
  unfold arith_each_Gauss slices_ContainsFunc_Gauss_Gauss slices_IndexFunc_Gauss_Gauss
  have := gn_loop N (fun z3 => k (!decide (0 ≤ z3))) (k (!decide (0 ≤ (-1 : Int)))) (k false) (fun i => by simp) l hl2 N 0 (by omega) (by omega)
  rw [Int.natCast_zero] at this
  rw [this, List.drop_zero]
  cases l.all sm2 <;> simp
def perr (l : List G2) : Int := if cnt l.length then (if l.all sm2 then 0 else 2) else 10
theorem pointsErr_eq (N : Nat) (hN : 20 ≤ N) (l : List G2) (hl : l.length < N) (hl2 : l.length ≤ 1000000) (k : Int → Option R) : arith_pointsErr N l k = k (perr l) := by
  unfold arith_pointsErr perr
  rw [isCount_eq, unless_eq, eachGauss_eq N l hl hl2, unless_eq, first2 N (by omega)]
  cases cnt l.length <;> cases l.all sm2 <;> simp
/-- A whole number turned back by eighths. -/
def tn : Nat → X4 → X4
  | 0, (a, _, c, _) => (a, 0, c, 0)
  | 1, (a, _, c, _) => (0, a + c, 0, c - a)
  | 2, (a, _, c, _) => (c, 0, -a, 0)
  | 3, (a, _, c, _) => (0, c - a, 0, -a - c)
  | 4, (a, _, c, _) => (-a, 0, -c, 0)
  | 5, (a, _, c, _) => (0, -a - c, 0, a - c)
  | 6, (a, _, c, _) => (-c, 0, a, 0)
  | _, (a, _, c, _) => (0, a - c, 0, a + c)
def og (g : G2) : X4 := (g.1, 0, g.2, 0)
def jx (n p i : Nat) : Nat := (i * p * (8 / n)) % 8
theorem jx_lt (n p i : Nat) : jx n p i < 8 := Nat.mod_lt _ (by omega)
def jxa (n p i : Int) : Int := Int.tmod (w64 (w64 (i * p) * w64 (Int.tdiv 8 n))) 8
def jxb (n p i : Int) : Int := w64 (Int.tdiv (w64 (w64 (i * p) * 8)) n)
theorem jxa_all : ([1, 2, 4, 8].all fun n => (List.range 8).all fun p => (List.range 8).all fun i => decide (jxa (n : Nat) (p : Nat) (i : Nat) = (jx n p i : Nat))) = true := by decide +kernel
theorem jxb_all : ([1, 2, 4, 8].all fun n => (List.range n).all fun p => (List.range n).all fun i => decide (md8 (jxb (n : Nat) (p : Nat) (i : Nat)) = (jx n p i : Nat))) = true := by decide +kernel
theorem jxa_eq {n p i : Nat} (hn : cnt n = true) (hp : p < n) (hi : i < n) : jxa n p i = (jx n p i : Nat) := by
  have h := cnt_le hn
  have h1 := List.all_eq_true.1 jxa_all n (cnt_mem hn)
  have h2 := List.all_eq_true.1 h1 p (List.mem_range.2 (by omega))
  exact of_decide_eq_true (List.all_eq_true.1 h2 i (List.mem_range.2 (by omega)))
theorem jxb_eq {n p i : Nat} (hn : cnt n = true) (hp : p < n) (hi : i < n) : md8 (jxb n p i) = (jx n p i : Nat) := by
  have h1 := List.all_eq_true.1 jxb_all n (cnt_mem hn)
  have h2 := List.all_eq_true.1 h1 p (List.mem_range.2 hp)
  exact of_decide_eq_true (List.all_eq_true.1 h2 i (List.mem_range.2 hi))
theorem turned_eq (N : Nat) (a b c d e : Int) (y : Nat) (hy : Int.tmod e 8 = (y : Int)) (hy8 : y < 8) (h1 : -1000000 ≤ a ∧ a ≤ 1000000) (h2 : -1000000 ≤ c ∧ c ≤ 1000000) (k : Int → Int → Int → Int → Option R) :
    arith_number_turned N a b c d e k = k (tn y (a, b, c, d)).1 (tn y (a, b, c, d)).2.1 (tn y (a, b, c, d)).2.2.1 (tn y (a, b, c, d)).2.2.2 := by
  unfold arith_number_turned arith_powers
  dsimp only
  rw [hy]
  rcases (show y = 0 ∨ y = 1 ∨ y = 2 ∨ y = 3 ∨ y = 4 ∨ y = 5 ∨ y = 6 ∨ y = 7 by omega) with rfl | rfl | rfl | rfl | rfl | rfl | rfl | rfl
  all_goals (repeat (first | rw [cond_pos (by decide)] | rw [cond_neg (by decide)]))
  all_goals simp (disch := omega) only [w64_id, tn, Int.mul_zero, Int.mul_one, Int.mul_neg]
  all_goals (congr 1 <;> omega)
theorem tn_bd {m : Int} {y : Nat} {x : X4} (h : Bd m x) (hm : 0 ≤ m) : Bd (2 * m) (tn y x) := by
  obtain ⟨a, b, c, d⟩ := x
  unfold Bd at h
  unfold tn
  split <;> (unfold Bd; simp_all only [Prod.mk.injEq]) <;> omega
theorem sm2_of {g : G2} (h : sm2 g = true) : (-1000 ≤ g.1 ∧ g.1 ≤ 1000) ∧ (-1000 ≤ g.2 ∧ g.2 ≤ 1000) := by
  simpa [sm2, sm] using h
theorem og_bd {g : G2} (h : sm2 g = true) : Bd 1000 (og g) := by
  have := sm2_of h
  unfold Bd og; dsimp only; omega
def ts (n p : Nat) : List G2 → Nat → X4 → X4
  | [], _, u => u
  | g :: r, i, u => ts n p r (i + 1) (addU u (tn (jx n p i) (og g)))
theorem ts_step {n p i : Nat} {u : X4} {g : G2} (hg : sm2 g = true) (hu : Bd (2000 * i) u) : Bd (2000 * ((i + 1 : Nat) : Int)) (addU u (tn (jx n p i) (og g))) := by
  have := addU_bd hu (tn_bd (y := jx n p i) (og_bd hg) (by omega))
  rw [show (2000 * ((i + 1 : Nat) : Int)) = 2000 * (i : Int) + 2 * 1000 by omega]
  exact this
theorem ts_bd (n p : Nat) : ∀ (l : List G2) (i : Nat) (u : X4), (∀ g ∈ l, sm2 g = true) → Bd (2000 * i) u → Bd (2000 * (i + l.length)) (ts n p l i u)
  | [], i, u, _, h => by simpa [ts] using h
  | x :: r, i, u, hx, h => by
    have := ts_bd n p r (i + 1) _ (fun y hy => hx y (List.mem_cons_of_mem _ hy)) (ts_step (n := n) (p := p) (hx x List.mem_cons_self) h)
    rw [ts]
    have e : (2000 * (((i + 1 : Nat) : Int) + (r.length : Int))) = 2000 * ((i : Int) + ((x :: r).length : Nat)) := by simp; omega
    rw [← e]; exact this
theorem tloop (N : Nat) (k0 : List G2 → Int → Int → Int → Int → Int → Int → Option R) (k1 : List G2 → Int → Int → List X4 → Int → Int → Int → Int → Option R) (l : List G2) (hl : cnt l.length = true) (hall : ∀ g ∈ l, sm2 g = true) (p : Nat) (hp : p < l.length) (b2 b3 : Int) (acc : List X4) :
    ∀ (f i : Nat) (u : X4), l.length < f + i → i ≤ l.length → Bd (2000 * i) u →
    arith_TransformOf_l1 N k0 k1 f l p b2 b3 l l.length i acc u.1 u.2.1 u.2.2.1 u.2.2.2 =
      k1 l b2 b3 acc (ts l.length p (l.drop i) i u).1 (ts l.length p (l.drop i) i u).2.1 (ts l.length p (l.drop i) i u).2.2.1 (ts l.length p (l.drop i) i u).2.2.2 := by
  have h8 := cnt_le hl
  intro f
  induction f with
  | zero => intro i u h1 h2; omega
  | succ f ih =>
    intro i u h1 h2 hu
    by_cases h : i < l.length
    · have hg := hall _ (List.getElem_mem h)
      have hb := sm2_of hg
      have hst := ts_step (n := l.length) (p := p) hg hu
      have hsm := hst
      rw [arith_TransformOf_l1, cond_pos (by omega), at?_lt h, some_bind']
      unfold arith_of
      dsimp only
      rw [cond_neg (by omega), turned_eq N _ _ _ _ (w64 (w64 ((i : Int) * (p : Int)) * w64 (Int.tdiv 8 (l.length : Int)))) (jx l.length p i) (jxa_eq hl hp h) (jx_lt _ _ _) (by omega) (by omega), drop_cons h, ts]
      unfold arith_number_plus
      have hi := ih (i + 1) _ (by omega) (by omega) hst
      rw [← hi, w64_succ (by omega)]
      change arith_TransformOf_l1 N k0 k1 f l _ _ _ _ _ _ acc (w64 (u.1 + (tn (jx l.length p i) (og l[i])).1)) (w64 (u.2.1 + (tn (jx l.length p i) (og l[i])).2.1)) (w64 (u.2.2.1 + (tn (jx l.length p i) (og l[i])).2.2.1)) (w64 (u.2.2.2 + (tn (jx l.length p i) (og l[i])).2.2.2)) = _
      unfold Bd addU at hsm
      dsimp only at hsm
      rw [w64_id (by omega) (by omega), w64_id (by omega) (by omega), w64_id (by omega) (by omega), w64_id (by omega) (by omega)]
      rfl
    · rw [arith_TransformOf_l1, cond_neg (by omega)]
      have : i = l.length := by omega
      subst this
      simp [ts]
def tr (l : List G2) : Nat → Nat → List X4 → List X4
  | 0, _, acc => acc
  | m + 1, p, acc => tr l m (p + 1) (acc ++ [ts l.length p l 0 (0, 0, 0, 0)])
theorem Bd00 : Bd (2000 * ((0 : Nat) : Int)) (0, 0, 0, 0) := by unfold Bd; simp
theorem touter (N : Nat) (hN : 20 ≤ N) (k0 : Option R) (k1 : List X4 → Option R) (l : List G2) (hl : cnt l.length = true) (hall : ∀ g ∈ l, sm2 g = true) :
    ∀ (m f p : Nat) (acc : List X4), p + m = l.length → m < f → acc.length + m ≤ 8 →
    arith_TransformOf_l0 N k0 k1 f l l.length p acc = k1 (tr l m p acc) := by
  have h8 := cnt_le hl
  intro m
  induction m with
  | zero =>
    intro f p acc h1 h2 h3
    obtain ⟨f, rfl⟩ : ∃ q, f = q + 1 := ⟨f - 1, by omega⟩
    rw [arith_TransformOf_l0, cond_neg (by omega), tr]
  | succ m ih =>
    intro f p acc h1 h2 h3
    obtain ⟨f, rfl⟩ : ∃ q, f = q + 1 := ⟨f - 1, by omega⟩
    rw [arith_TransformOf_l0, cond_pos (by omega)]
    have h := tloop N (fun z14 z15 z16 z17 z18 z19 z20 => (arith_TransformOf_l0 N k0 k1 f z14 z15 (w64 (z16 + 1)) [(z17, z18, z19, z20)])) (fun z21 z22 z23 z24 z25 z26 z27 z28 => (bif roomB (z24.length + 1) 32 then (arith_TransformOf_l0 N k0 k1 f z21 z22 (w64 (z23 + 1)) (z24 ++ [(z25, z26, z27, z28)])) else none)) l hl hall p (by omega) l.length p acc N 0 (0, 0, 0, 0) (by omega) (by omega) Bd00
    rw [List.drop_zero] at h
    refine Eq.trans h ?_
    rw [roomB_of (by omega), cond_true, w64_succ (by omega), tr]
    exact ih f (p + 1) _ (by omega) (by omega) (by simp; omega)
theorem TransformOf_eq (N : Nat) (hN : 20 ≤ N) (l : List G2) (hl : l.length ≤ 10) (k : List X4 → Int → Option R) :
    arith_TransformOf N l k = if perr l = 0 then k (tr l l.length 0 []) 0 else k [] (perr l) := by
  unfold arith_TransformOf
  rw [pointsErr_eq N hN l (by omega) (by omega)]
  by_cases e : perr l = 0
  · have hc : cnt l.length = true ∧ l.all sm2 = true := by
      unfold perr at e
      cases h1 : cnt l.length <;> cases h2 : l.all sm2 <;> simp [h1, h2] at e ⊢
    have h8 := cnt_le hc.1
    have := touter N hN (k [] 0) (fun z29 => k z29 0) l hc.1 (fun x hx => List.all_eq_true.1 hc.2 x hx) l.length N 0 [] (by omega) (by omega) (by simp; omega)
    rw [Int.natCast_zero] at this
    rw [cond_neg (by simp [e]), if_pos e, this]
  · rw [cond_pos e, if_neg e]

/-! ### By halves -/
def pw : Nat → Int × Int × Int × Int
  | 0 => (1, 0, 0, 0)
  | 1 => (0, 1, 0, -1)
  | 2 => (0, 0, -1, 0)
  | 3 => (0, -1, 0, -1)
  | 4 => (-1, 0, 0, 0)
  | 5 => (0, -1, 0, 1)
  | 6 => (0, 0, 1, 0)
  | _ => (0, 1, 0, 1)
def tnW (y : Nat) (x : X4) : X4 := (w64 (w64 (x.1 * (pw y).1) - w64 (x.2.2.1 * (pw y).2.2.1)), w64 (w64 (x.1 * (pw y).2.1) - w64 (x.2.2.1 * (pw y).2.2.2)), w64 (w64 (x.1 * (pw y).2.2.1) + w64 (x.2.2.1 * (pw y).1)), w64 (w64 (x.1 * (pw y).2.2.2) + w64 (x.2.2.1 * (pw y).2.1)))
def addW (u v : X4) : X4 := (w64 (u.1 + v.1), w64 (u.2.1 + v.2.1), w64 (u.2.2.1 + v.2.2.1), w64 (u.2.2.2 + v.2.2.2))
def ngW (u : X4) : X4 := (w64 (0 - u.1), w64 (0 - u.2.1), w64 (0 - u.2.2.1), w64 (0 - u.2.2.2))
def ng (u : X4) : X4 := (-u.1, -u.2.1, -u.2.2.1, -u.2.2.2)
theorem addW_eq {m m' : Int} {u v : X4} (h : Bd m u) (h' : Bd m' v) (hm : m + m' ≤ 1000000000) : addW u v = addU u v := by
  unfold Bd at h h'
  unfold addW addU
  rw [w64_id (by omega) (by omega), w64_id (by omega) (by omega), w64_id (by omega) (by omega), w64_id (by omega) (by omega)]
theorem ngW_eq {m : Int} {u : X4} (h : Bd m u) (hm : m ≤ 1000000000) : ngW u = ng u := by
  unfold Bd at h
  unfold ngW ng
  rw [w64_id (by omega) (by omega), w64_id (by omega) (by omega), w64_id (by omega) (by omega), w64_id (by omega) (by omega)]
  simp only [Int.zero_sub]
theorem ng_bd {m : Int} {u : X4} (h : Bd m u) : Bd m (ng u) := by
  unfold Bd ng at *; dsimp only; omega
theorem tnW_eq {m : Int} {y : Nat} (hy : y < 8) {x : X4} (h : Bd m x) (hm : m ≤ 100000000) : tnW y x = tn y x := by
  obtain ⟨a, b, c, d⟩ := x
  unfold Bd at h
  dsimp only at h
  unfold tnW
  rcases (show y = 0 ∨ y = 1 ∨ y = 2 ∨ y = 3 ∨ y = 4 ∨ y = 5 ∨ y = 6 ∨ y = 7 by omega) with rfl | rfl | rfl | rfl | rfl | rfl | rfl | rfl
  all_goals simp (disch := omega) only [w64_id, tn, pw, Int.mul_zero, Int.mul_one, Int.mul_neg, Prod.mk.injEq]
  all_goals (refine ⟨?_, ?_, ?_, ?_⟩ <;> first | trivial | omega)
def W8 (e0 e1 e2 e3 o0 o1 o2 o3 : X4) : List X4 := [addW e0 (tnW 0 o0), addW e1 (tnW 1 o1), addW e2 (tnW 2 o2), addW e3 (tnW 3 o3), addW e0 (ngW (tnW 0 o0)), addW e1 (ngW (tnW 1 o1)), addW e2 (ngW (tnW 2 o2)), addW e3 (ngW (tnW 3 o3))]
def p2a (a b : G2) : X4 := addW (og a) (tnW 0 (og b))
def p2b (a b : G2) : X4 := addW (og a) (ngW (tnW 0 (og b)))
def p40 (a b c d : G2) : X4 := addW (p2a a c) (tnW 0 (p2a b d))
def p41 (a b c d : G2) : X4 := addW (p2b a c) (tnW 2 (p2b b d))
def p42 (a b c d : G2) : X4 := addW (p2a a c) (ngW (tnW 0 (p2a b d)))
def p43 (a b c d : G2) : X4 := addW (p2b a c) (ngW (tnW 2 (p2b b d)))
theorem fast0_1 (a : G2) (k : List X4 → Option R) : arith_fast 2000 [a] k = k [og a] := by kernel_rfl
theorem fast1_1 (a : G2) (k : List X4 → Option R) : arith_fast_v1 2000 [a] k = k [og a] := by kernel_rfl
theorem fast1_2 (a b : G2) (k : List X4 → Option R) : arith_fast_v1 2000 [a, b] k = k [p2a a b, p2b a b] := by kernel_rfl
theorem fast2_1 (a : G2) (k : List X4 → Option R) : arith_fast_v2 2000 [a] k = k [og a] := by kernel_rfl
theorem fast2_2 (a b : G2) (k : List X4 → Option R) : arith_fast_v2 2000 [a, b] k = k [p2a a b, p2b a b] := by kernel_rfl
theorem fast2_4l (K : Int → List G2 → List G2 → Option R) (a b c d : G2) (m : Int) : arith_fast_v2_l0 2000 K 2000 m [a, b, c, d] (([a, b, c, d].length : Nat) : Int) 2 [a] [b] = K m [a, c] [b, d] := by kernel_rfl
theorem fast2_4w (e0 e1 o0 o1 : X4) (k : List X4 → Option R) : arith_fast_v2_l1 2000 k 2000 4 [e0, e1] [o0, o1] 2 0 [(0, 0, 0, 0), (0, 0, 0, 0), (0, 0, 0, 0), (0, 0, 0, 0)] = k [addW e0 (tnW 0 o0), addW e1 (tnW 2 o1), addW e0 (ngW (tnW 0 o0)), addW e1 (ngW (tnW 2 o1))] := by kernel_rfl
theorem fast2_4 (a b c d : G2) (k : List X4 → Option R) : arith_fast_v2 2000 [a, b, c, d] k = k [p40 a b c d, p41 a b c d, p42 a b c d, p43 a b c d] := by
  unfold arith_fast_v2
  rw [cond_neg (by simp), cond_pos (by simp), show at? [a, b, c, d] 0 = some a from rfl, some_bind', cond_pos (by simp), show at? [a, b, c, d] 1 = some b from rfl, some_bind']
  refine Eq.trans (fast2_4l _ a b c d _) ?_
  unfold arith_fast_v2_j0
  rw [fast1_2]
  rw [fast1_2]
  rw [cond_pos (by simp), roomB_of (by simp), cond_true]
  exact Eq.trans (by kernel_rfl) (fast2_4w (p2a a c) (p2b a c) (p2a b d) (p2b b d) k)
theorem fast3_1 (a : G2) (k : List X4 → Option R) : arith_fast_v3 2000 [a] k = k [og a] := by kernel_rfl
theorem fast3_2 (a b : G2) (k : List X4 → Option R) : arith_fast_v3 2000 [a, b] k = k [p2a a b, p2b a b] := by kernel_rfl
theorem fast3_4l (K : Int → List G2 → List G2 → Option R) (a b c d : G2) (m : Int) : arith_fast_v3_l0 2000 K 2000 m [a, b, c, d] (([a, b, c, d].length : Nat) : Int) 2 [a] [b] = K m [a, c] [b, d] := by kernel_rfl
theorem fast3_4w (e0 e1 o0 o1 : X4) (k : List X4 → Option R) : arith_fast_v3_l1 2000 k 2000 4 [e0, e1] [o0, o1] 2 0 [(0, 0, 0, 0), (0, 0, 0, 0), (0, 0, 0, 0), (0, 0, 0, 0)] = k [addW e0 (tnW 0 o0), addW e1 (tnW 2 o1), addW e0 (ngW (tnW 0 o0)), addW e1 (ngW (tnW 2 o1))] := by kernel_rfl
theorem fast3_4 (a b c d : G2) (k : List X4 → Option R) : arith_fast_v3 2000 [a, b, c, d] k = k [p40 a b c d, p41 a b c d, p42 a b c d, p43 a b c d] := by
  unfold arith_fast_v3
  rw [cond_neg (by simp), cond_pos (by simp), show at? [a, b, c, d] 0 = some a from rfl, some_bind', cond_pos (by simp), show at? [a, b, c, d] 1 = some b from rfl, some_bind']
  refine Eq.trans (fast3_4l _ a b c d _) ?_
  unfold arith_fast_v3_j0
  rw [fast2_2]
  rw [fast2_2]
  rw [cond_pos (by simp), roomB_of (by simp), cond_true]
  exact Eq.trans (by kernel_rfl) (fast3_4w (p2a a c) (p2b a c) (p2a b d) (p2b b d) k)
theorem fast3_8l (K : Int → List G2 → List G2 → Option R) (a b c d e f g h : G2) (m : Int) : arith_fast_v3_l0 2000 K 2000 m [a, b, c, d, e, f, g, h] (([a, b, c, d, e, f, g, h].length : Nat) : Int) 2 [a] [b] = K m [a, c, e, g] [b, d, f, h] := by kernel_rfl
theorem fast3_8w (e0 e1 e2 e3 o0 o1 o2 o3 : X4) (k : List X4 → Option R) : arith_fast_v3_l1 2000 k 2000 8 [e0, e1, e2, e3] [o0, o1, o2, o3] 4 0 [(0, 0, 0, 0), (0, 0, 0, 0), (0, 0, 0, 0), (0, 0, 0, 0), (0, 0, 0, 0), (0, 0, 0, 0), (0, 0, 0, 0), (0, 0, 0, 0)] = k [addW e0 (tnW 0 o0), addW e1 (tnW 1 o1), addW e2 (tnW 2 o2), addW e3 (tnW 3 o3), addW e0 (ngW (tnW 0 o0)), addW e1 (ngW (tnW 1 o1)), addW e2 (ngW (tnW 2 o2)), addW e3 (ngW (tnW 3 o3))] := by kernel_rfl
theorem fast3_8 (a b c d e f g h : G2) (k : List X4 → Option R) : arith_fast_v3 2000 [a, b, c, d, e, f, g, h] k = k (W8 (p40 a c e g) (p41 a c e g) (p42 a c e g) (p43 a c e g) (p40 b d f h) (p41 b d f h) (p42 b d f h) (p43 b d f h)) := by
  unfold arith_fast_v3
  rw [cond_neg (by simp), cond_pos (by simp), show at? [a, b, c, d, e, f, g, h] 0 = some a from rfl, some_bind', cond_pos (by simp), show at? [a, b, c, d, e, f, g, h] 1 = some b from rfl, some_bind']
  refine Eq.trans (fast3_8l _ a b c d e f g h _) ?_
  unfold arith_fast_v3_j0
  rw [fast2_4]
  rw [fast2_4]
  rw [cond_pos (by simp), roomB_of (by simp), cond_true]
  exact Eq.trans (by kernel_rfl) (fast3_8w (p40 a c e g) (p41 a c e g) (p42 a c e g) (p43 a c e g) (p40 b d f h) (p41 b d f h) (p42 b d f h) (p43 b d f h) k)
theorem bfa {m m' : Int} {e o : X4} {y : Nat} (hy : y < 8) (h : Bd m e) (h' : Bd m' o) (h0 : 0 ≤ m') (hm : m + 2 * m' ≤ 50000000) (hm2 : 0 ≤ m) : addW e (tnW y o) = addU e (tn y o) ∧ Bd (m + 2 * m') (addU e (tn y o)) := by
  have hb := tn_bd (y := y) h' h0
  rw [tnW_eq hy h' (by omega), addW_eq h hb (by omega)]
  exact ⟨rfl, addU_bd h hb⟩
theorem bfb {m m' : Int} {e o : X4} {y : Nat} (hy : y < 8) (h : Bd m e) (h' : Bd m' o) (h0 : 0 ≤ m') (hm : m + 2 * m' ≤ 50000000) (hm2 : 0 ≤ m) : addW e (ngW (tnW y o)) = addU e (ng (tn y o)) ∧ Bd (m + 2 * m') (addU e (ng (tn y o))) := by
  have hb := tn_bd (y := y) h' h0
  rw [tnW_eq hy h' (by omega), ngW_eq hb (by omega), addW_eq h (ng_bd hb) (by omega)]
  exact ⟨rfl, addU_bd h (ng_bd hb)⟩
def q2a (a b : G2) : X4 := addU (og a) (tn 0 (og b))
def q2b (a b : G2) : X4 := addU (og a) (ng (tn 0 (og b)))
def q40 (a b c d : G2) : X4 := addU (q2a a c) (tn 0 (q2a b d))
def q41 (a b c d : G2) : X4 := addU (q2b a c) (tn 2 (q2b b d))
def q42 (a b c d : G2) : X4 := addU (q2a a c) (ng (tn 0 (q2a b d)))
def q43 (a b c d : G2) : X4 := addU (q2b a c) (ng (tn 2 (q2b b d)))
theorem p2_eq {a b : G2} (ha : sm2 a = true) (hb : sm2 b = true) : (p2a a b = q2a a b ∧ Bd 3000 (q2a a b)) ∧ (p2b a b = q2b a b ∧ Bd 3000 (q2b a b)) :=
  ⟨bfa (m := 1000) (m' := 1000) (by omega) (og_bd ha) (og_bd hb) (by omega) (by omega) (by omega), bfb (m := 1000) (m' := 1000) (by omega) (og_bd ha) (og_bd hb) (by omega) (by omega) (by omega)⟩
theorem p4_eq {a b c d : G2} (ha : sm2 a = true) (hb : sm2 b = true) (hc : sm2 c = true) (hd : sm2 d = true) :
    (p40 a b c d = q40 a b c d ∧ Bd 9000 (q40 a b c d)) ∧ (p41 a b c d = q41 a b c d ∧ Bd 9000 (q41 a b c d)) ∧ (p42 a b c d = q42 a b c d ∧ Bd 9000 (q42 a b c d)) ∧ (p43 a b c d = q43 a b c d ∧ Bd 9000 (q43 a b c d)) := by
  obtain ⟨⟨e1, b1⟩, e2, b2⟩ := p2_eq ha hc
  obtain ⟨⟨e3, b3⟩, e4, b4⟩ := p2_eq hb hd
  unfold p40 p41 p42 p43
  rw [e1, e2, e3, e4]
  exact ⟨bfa (m := 3000) (m' := 3000) (by omega) b1 b3 (by omega) (by omega) (by omega), bfa (m := 3000) (m' := 3000) (by omega) b2 b4 (by omega) (by omega) (by omega), bfb (m := 3000) (m' := 3000) (by omega) b1 b3 (by omega) (by omega) (by omega), bfb (m := 3000) (m' := 3000) (by omega) b2 b4 (by omega) (by omega) (by omega)⟩
def U8 (e0 e1 e2 e3 o0 o1 o2 o3 : X4) : List X4 := [addU e0 (tn 0 o0), addU e1 (tn 1 o1), addU e2 (tn 2 o2), addU e3 (tn 3 o3), addU e0 (ng (tn 0 o0)), addU e1 (ng (tn 1 o1)), addU e2 (ng (tn 2 o2)), addU e3 (ng (tn 3 o3))]
theorem W8_eq {e0 e1 e2 e3 o0 o1 o2 o3 : X4} (a0 : Bd 9000 e0) (a1 : Bd 9000 e1) (a2 : Bd 9000 e2) (a3 : Bd 9000 e3) (b0 : Bd 9000 o0) (b1 : Bd 9000 o1) (b2 : Bd 9000 o2) (b3 : Bd 9000 o3) : W8 e0 e1 e2 e3 o0 o1 o2 o3 = U8 e0 e1 e2 e3 o0 o1 o2 o3 := by
  unfold W8 U8
  rw [(bfa (y := 0) (by omega) a0 b0 (by omega) (by omega) (by omega)).1, (bfa (y := 1) (by omega) a1 b1 (by omega) (by omega) (by omega)).1, (bfa (y := 2) (by omega) a2 b2 (by omega) (by omega) (by omega)).1, (bfa (y := 3) (by omega) a3 b3 (by omega) (by omega) (by omega)).1,
    (bfb (y := 0) (by omega) a0 b0 (by omega) (by omega) (by omega)).1, (bfb (y := 1) (by omega) a1 b1 (by omega) (by omega) (by omega)).1, (bfb (y := 2) (by omega) a2 b2 (by omega) (by omega) (by omega)).1, (bfb (y := 3) (by omega) a3 b3 (by omega) (by omega) (by omega)).1]
theorem tr1 (a : G2) : tr [a] 1 0 [] = [og a] := by
  obtain ⟨a1, a2⟩ := a
  simp [tr, ts, jx, tn, addU, og]
theorem tr2 (a b : G2) : tr [a, b] 2 0 [] = [q2a a b, q2b a b] := by
  obtain ⟨a1, a2⟩ := a
  obtain ⟨b1, b2⟩ := b
  simp [tr, ts, jx, tn, addU, og, q2a, q2b, ng]
theorem tr4 (a b c d : G2) : tr [a, b, c, d] 4 0 [] = [q40 a b c d, q41 a b c d, q42 a b c d, q43 a b c d] := by
  obtain ⟨a1, a2⟩ := a
  obtain ⟨b1, b2⟩ := b
  obtain ⟨c1, c2⟩ := c
  obtain ⟨d1, d2⟩ := d
  simp [tr, ts, jx, tn, addU, og, q2a, q2b, q40, q41, q42, q43, ng]
  omega
set_option maxHeartbeats 2000000 in
theorem tr8 (a b c d e f g h : G2) : tr [a, b, c, d, e, f, g, h] 8 0 [] = U8 (q40 a c e g) (q41 a c e g) (q42 a c e g) (q43 a c e g) (q40 b d f h) (q41 b d f h) (q42 b d f h) (q43 b d f h) := by
  obtain ⟨a1, a2⟩ := a
  obtain ⟨b1, b2⟩ := b
  obtain ⟨c1, c2⟩ := c
  obtain ⟨d1, d2⟩ := d
  obtain ⟨e1, e2⟩ := e
  obtain ⟨f1, f2⟩ := f
  obtain ⟨g1, g2⟩ := g
  obtain ⟨h1, h2⟩ := h
  simp [tr, ts, jx, tn, addU, og, q2a, q2b, q40, q41, q42, q43, ng, U8]
  omega
theorem len1 {α : Type} {l : List α} (h : l.length = 1) : ∃ a, l = [a] := List.length_eq_one_iff.1 h
theorem lenS {α : Type} {l : List α} {n : Nat} (h : l.length = n + 1) : ∃ a r, l = a :: r ∧ r.length = n := by
  cases l with
  | nil => cases h
  | cons a r => exact ⟨a, r, rfl, by simpa using h⟩
theorem fast_eq (l : List G2) (hl : cnt l.length = true) (hall : ∀ g ∈ l, sm2 g = true) (k : List X4 → Option R) : arith_fast_v3 2000 l k = k (tr l l.length 0 []) := by
  rcases of_decide_eq_true hl with h | h | h | h
  · obtain ⟨a, rfl⟩ := len1 h
    rw [fast3_1, h, tr1]
  · obtain ⟨a, r1, rfl, h1⟩ := lenS h
    obtain ⟨b, r2, rfl, h2⟩ := lenS h1
    obtain rfl := List.length_eq_zero_iff.1 h2
    have := p2_eq (hall a (by simp)) (hall b (by simp))
    rw [fast3_2, show [a, b].length = 2 from rfl, tr2, this.1.1, this.2.1]
  · obtain ⟨a, r1, rfl, h1⟩ := lenS h
    obtain ⟨b, r2, rfl, h2⟩ := lenS h1
    obtain ⟨c, r3, rfl, h3⟩ := lenS h2
    obtain ⟨d, r4, rfl, h4⟩ := lenS h3
    obtain rfl := List.length_eq_zero_iff.1 h4
    have := p4_eq (hall a (by simp)) (hall b (by simp)) (hall c (by simp)) (hall d (by simp))
    rw [fast3_4, show [a, b, c, d].length = 4 from rfl, tr4, this.1.1, this.2.1.1, this.2.2.1.1, this.2.2.2.1]
  · obtain ⟨a, r1, rfl, h1⟩ := lenS h
    obtain ⟨b, r2, rfl, h2⟩ := lenS h1
    obtain ⟨c, r3, rfl, h3⟩ := lenS h2
    obtain ⟨d, r4, rfl, h4⟩ := lenS h3
    obtain ⟨e, r5, rfl, h5⟩ := lenS h4
    obtain ⟨f, r6, rfl, h6⟩ := lenS h5
    obtain ⟨g, r7, rfl, h7⟩ := lenS h6
    obtain ⟨i, r8, rfl, h8⟩ := lenS h7
    obtain rfl := List.length_eq_zero_iff.1 h8
    have e1 := p4_eq (hall a (by simp)) (hall c (by simp)) (hall e (by simp)) (hall g (by simp))
    have e2 := p4_eq (hall b (by simp)) (hall d (by simp)) (hall f (by simp)) (hall i (by simp))
    rw [fast3_8, show [a, b, c, d, e, f, g, i].length = 8 from rfl, tr8, e1.1.1, e1.2.1.1, e1.2.2.1.1, e1.2.2.2.1, e2.1.1, e2.2.1.1, e2.2.2.1.1, e2.2.2.2.1,
      W8_eq e1.1.2 e1.2.1.2 e1.2.2.1.2 e1.2.2.2.2 e2.1.2 e2.2.1.2 e2.2.2.1.2 e2.2.2.2.2]
theorem tr_len (l : List G2) : ∀ (m p : Nat) (acc : List X4), (tr l m p acc).length = acc.length + m
  | 0, p, acc => by simp [tr]
  | m + 1, p, acc => by rw [tr, tr_len l m]; simp; omega
theorem copy_loop (N : Nat) (k0 : Option R) (k1 : List X4 → Option R) (l : List X4) (hl : l.length ≤ 1000000) : ∀ (n i : Nat) (acc : List X4), l.length < n + i → i ≤ l.length → acc.length = i →
    arith_TransformFast_l0 N k0 k1 n l l.length i acc = k1 (acc ++ l.drop i) := by
  intro n
  induction n with
  | zero => intro i acc h1 h2 h3; omega
  | succ n ih =>
    intro i acc h1 h2 h3
    rw [arith_TransformFast_l0]
    by_cases h : i < l.length
    · rw [cond_pos (by omega), at?_lt h, some_bind', roomB_of (by omega), cond_true, w64_succ (by omega), ih (i + 1) _ (by omega) (by omega) (by simp; omega), drop_cons h, List.append_assoc]
      rfl
    · rw [cond_neg (by omega)]
      have : i = l.length := by omega
      subst this
      simp
theorem TransformFast_eq (l : List G2) (hl : l.length ≤ 10) (k : List X4 → Int → Option R) :
    arith_TransformFast 2000 l k = if perr l = 0 then k (tr l l.length 0 []) 0 else k [] (perr l) := by
  unfold arith_TransformFast
  rw [pointsErr_eq 2000 (by omega) l (by omega) (by omega)]
  by_cases e : perr l = 0
  · have hc : cnt l.length = true ∧ l.all sm2 = true := by
      unfold perr at e
      cases h1 : cnt l.length <;> cases h2 : l.all sm2 <;> simp [h1, h2] at e ⊢
    have ht := tr_len l l.length 0 []
    simp only [List.length_nil, Nat.zero_add] at ht
    have := copy_loop 2000 (k [] 0) (fun z3 => k z3 0) (tr l l.length 0 []) (by omega) 2000 0 [] (by omega) (by omega) rfl
    rw [Int.natCast_zero, List.drop_zero, List.nil_append] at this
    rw [cond_neg (by simp [e]), if_pos e, fast_eq l hc.1 (fun x hx => List.all_eq_true.1 hc.2 x hx), this]
  · rw [cond_pos e, if_neg e]
theorem Within_sm (N : Nat) (a : Int) (k : Bool → Option R) : ratchetbase_Within N a (-1000) 1000 k = k (sm a) := Within_eq N a _ _ k
theorem PointsErr_loop (N : Nat) (k0 : Int → Option R) (k1 : Option R) (l : List G2) (hl : l.length ≤ 1000000) : ∀ (n i : Nat), l.length < n + i → i ≤ l.length →
    ratchetref30_PointsErr_l0 N k0 k1 n l i = if (l.drop i).all sm2 then k1 else k0 2 := by
  intro n
  induction n with
  | zero => intro i h1 h2; omega
  | succ n ih =>
    intro i h1 h2
    rw [ratchetref30_PointsErr_l0]
    by_cases h : i < l.length
    · rw [cond_pos (by omega), at?_lt h, some_bind', drop_cons h, List.all_cons, w64_succ (by omega), ih (i + 1) (by omega) (by omega)]
      have e4 : sm2 l[i] = (sm l[i].1 && sm l[i].2) := rfl
      rw [e4]
      simp only [Within_sm, some_bind']
      cases sm l[i].1 <;> cases sm l[i].2 <;> rfl
    · rw [cond_neg (by omega)]
      have : i = l.length := by omega
      subst this
      simp
theorem PointsErr_eq (N : Nat) (l : List G2) (hl : l.length < N) (hl2 : l.length ≤ 1000000) (k : Int → Option R) : ratchetref30_PointsErr N l k = k (perr l) := by
  unfold ratchetref30_PointsErr perr
  rw [CountErr_eq]
  have := PointsErr_loop N (fun z5 => k z5) (k 0) l hl2 N 0 (by omega) (by omega)
  rw [Int.natCast_zero, List.drop_zero] at this
  rw [this]
  cases cnt l.length <;> cases l.all sm2 <;> simp
theorem same_loop (N : Nat) (k0 : Bool → Option R) (k1 : Option R) (l : List X4) (hl : l.length ≤ 1000000) : ∀ (n i : Nat), l.length < n + i → i ≤ l.length →
    ratchetlaw30_same_l0 N k0 k1 n l l i = k1 := by
  intro n
  induction n with
  | zero => intro i h1 h2; omega
  | succ n ih =>
    intro i h1 h2
    rw [ratchetlaw30_same_l0]
    by_cases h : i < l.length
    · rw [cond_pos (by omega), at?_lt h, some_bind', some_bind', w64_succ (by omega), ih (i + 1) (by omega) (by omega)]
      simp
    · rw [cond_neg (by omega)]
theorem same_self (N : Nat) (l : List X4) (hl : l.length ≤ 1000000) (hN : l.length < N) (k : Bool → Option R) : ratchetlaw30_same N l l k = k true := by
  unfold ratchetlaw30_same
  have := same_loop N (fun z3 => k z3) (k true) l hl N 0 (by omega) (by omega)
  rw [Int.natCast_zero] at this
  rw [cond_neg (by simp), this]
theorem CopyGausses_eq (N : Nat) (l : List G2) (hl : l.length ≤ 1000000) (k : List G2 → Option R) : ratchetbase_CopyGausses N l k = k l := by
  unfold ratchetbase_CopyGausses
  rw [roomB_of (by omega), cond_true]

/-! ### Both ways -/
theorem outp_of {n : Nat} (hn : 1 ≤ n) (x y : Int) : outp n (2 * (n : Int) * x, 0, 2 * (n : Int) * y, 0) = some (x, y) := by
  unfold outp
  rw [if_pos ⟨rfl, rfl, Int.mul_tmod_right _ _, Int.mul_tmod_right _ _⟩, Int.mul_tdiv_cancel_left _ (by omega), Int.mul_tdiv_cancel_left _ (by omega)]
def L1 (p0 q0 : Int) : List X4 := [(0 + p0, 0, 0 + q0, 0)]
set_option maxHeartbeats 2000000 in
theorem trx1 (p0 q0 : Int) : tr [(p0, q0)] 1 0 [] = L1 p0 q0 := by
  simp [tr, ts, jx, tn, addU, og, L1]
  try omega
set_option maxHeartbeats 2000000 in
theorem inv1_0 (p0 q0 : Int) : us 1 0 (L1 p0 q0) 0 (0, 0, 0, 0) = (2 * ((1 : Nat) : Int) * p0, 0, 2 * ((1 : Nat) : Int) * q0, 0) := by
  simp [us, ix, tw, addU, L1]
  try omega
theorem outs1 (p0 q0 : Int) : outs (L1 p0 q0) 1 0 [] = some [(p0, q0)] := by
  rw [outs, show (L1 p0 q0).length = 1 from rfl, inv1_0, outp_of (by omega)]
  dsimp only
  rfl
def L2 (p0 q0 p1 q1 : Int) : List X4 := [(0 + p0 + p1, 0, 0 + q0 + q1, 0), (0 + p0 - p1, 0, 0 + q0 - q1, 0)]
set_option maxHeartbeats 2000000 in
theorem trx2 (p0 q0 p1 q1 : Int) : tr [(p0, q0), (p1, q1)] 2 0 [] = L2 p0 q0 p1 q1 := by
  simp [tr, ts, jx, tn, addU, og, L2]
  try omega
set_option maxHeartbeats 2000000 in
theorem inv2_0 (p0 q0 p1 q1 : Int) : us 2 0 (L2 p0 q0 p1 q1) 0 (0, 0, 0, 0) = (2 * ((2 : Nat) : Int) * p0, 0, 2 * ((2 : Nat) : Int) * q0, 0) := by
  simp [us, ix, tw, addU, L2]
  try omega
set_option maxHeartbeats 2000000 in
theorem inv2_1 (p0 q0 p1 q1 : Int) : us 2 1 (L2 p0 q0 p1 q1) 0 (0, 0, 0, 0) = (2 * ((2 : Nat) : Int) * p1, 0, 2 * ((2 : Nat) : Int) * q1, 0) := by
  simp [us, ix, tw, addU, L2]
  try omega
theorem outs2 (p0 q0 p1 q1 : Int) : outs (L2 p0 q0 p1 q1) 2 0 [] = some [(p0, q0), (p1, q1)] := by
  rw [outs, show (L2 p0 q0 p1 q1).length = 2 from rfl, inv2_0, outp_of (by omega)]
  dsimp only
  rw [outs, show (L2 p0 q0 p1 q1).length = 2 from rfl, inv2_1, outp_of (by omega)]
  dsimp only
  rfl
def L4 (p0 q0 p1 q1 p2 q2 p3 q3 : Int) : List X4 := [(0 + p0 + p1 + p2 + p3, 0, 0 + q0 + q1 + q2 + q3, 0), (0 + p0 + q1 - p2 - q3, 0, 0 + q0 - p1 - q2 + p3, 0), (0 + p0 - p1 + p2 - p3, 0, 0 + q0 - q1 + q2 - q3, 0), (0 + p0 - q1 - p2 + q3, 0, 0 + q0 + p1 - q2 - p3, 0)]
set_option maxHeartbeats 2000000 in
theorem trx4 (p0 q0 p1 q1 p2 q2 p3 q3 : Int) : tr [(p0, q0), (p1, q1), (p2, q2), (p3, q3)] 4 0 [] = L4 p0 q0 p1 q1 p2 q2 p3 q3 := by
  simp [tr, ts, jx, tn, addU, og, L4]
  try omega
set_option maxHeartbeats 2000000 in
theorem inv4_0 (p0 q0 p1 q1 p2 q2 p3 q3 : Int) : us 4 0 (L4 p0 q0 p1 q1 p2 q2 p3 q3) 0 (0, 0, 0, 0) = (2 * ((4 : Nat) : Int) * p0, 0, 2 * ((4 : Nat) : Int) * q0, 0) := by
  simp [us, ix, tw, addU, L4]
  try omega
set_option maxHeartbeats 2000000 in
theorem inv4_1 (p0 q0 p1 q1 p2 q2 p3 q3 : Int) : us 4 1 (L4 p0 q0 p1 q1 p2 q2 p3 q3) 0 (0, 0, 0, 0) = (2 * ((4 : Nat) : Int) * p1, 0, 2 * ((4 : Nat) : Int) * q1, 0) := by
  simp [us, ix, tw, addU, L4]
  try omega
set_option maxHeartbeats 2000000 in
theorem inv4_2 (p0 q0 p1 q1 p2 q2 p3 q3 : Int) : us 4 2 (L4 p0 q0 p1 q1 p2 q2 p3 q3) 0 (0, 0, 0, 0) = (2 * ((4 : Nat) : Int) * p2, 0, 2 * ((4 : Nat) : Int) * q2, 0) := by
  simp [us, ix, tw, addU, L4]
  try omega
set_option maxHeartbeats 2000000 in
theorem inv4_3 (p0 q0 p1 q1 p2 q2 p3 q3 : Int) : us 4 3 (L4 p0 q0 p1 q1 p2 q2 p3 q3) 0 (0, 0, 0, 0) = (2 * ((4 : Nat) : Int) * p3, 0, 2 * ((4 : Nat) : Int) * q3, 0) := by
  simp [us, ix, tw, addU, L4]
  try omega
theorem outs4 (p0 q0 p1 q1 p2 q2 p3 q3 : Int) : outs (L4 p0 q0 p1 q1 p2 q2 p3 q3) 4 0 [] = some [(p0, q0), (p1, q1), (p2, q2), (p3, q3)] := by
  rw [outs, show (L4 p0 q0 p1 q1 p2 q2 p3 q3).length = 4 from rfl, inv4_0, outp_of (by omega)]
  dsimp only
  rw [outs, show (L4 p0 q0 p1 q1 p2 q2 p3 q3).length = 4 from rfl, inv4_1, outp_of (by omega)]
  dsimp only
  rw [outs, show (L4 p0 q0 p1 q1 p2 q2 p3 q3).length = 4 from rfl, inv4_2, outp_of (by omega)]
  dsimp only
  rw [outs, show (L4 p0 q0 p1 q1 p2 q2 p3 q3).length = 4 from rfl, inv4_3, outp_of (by omega)]
  dsimp only
  rfl
def L8 (p0 q0 p1 q1 p2 q2 p3 q3 p4 q4 p5 q5 p6 q6 p7 q7 : Int) : List X4 := [(0 + p0 + p1 + p2 + p3 + p4 + p5 + p6 + p7, 0, 0 + q0 + q1 + q2 + q3 + q4 + q5 + q6 + q7, 0), (0 + p0 + q2 - p4 - q6, 0 + p1 + q1 - p3 + q3 - p5 - q5 + p7 - q7, 0 + q0 - p2 - q4 + p6, 0 - p1 + q1 - p3 - q3 + p5 - q5 + p7 + q7), (0 + p0 + q1 - p2 - q3 + p4 + q5 - p6 - q7, 0, 0 + q0 - p1 - q2 + p3 + q4 - p5 - q6 + p7, 0), (0 + p0 - q2 - p4 + q6, 0 - p1 + q1 + p3 + q3 + p5 - q5 - p7 - q7, 0 + q0 + p2 - q4 - p6, 0 - p1 - q1 - p3 + q3 + p5 + q5 + p7 - q7), (0 + p0 - p1 + p2 - p3 + p4 - p5 + p6 - p7, 0, 0 + q0 - q1 + q2 - q3 + q4 - q5 + q6 - q7, 0), (0 + p0 + q2 - p4 - q6, 0 - p1 - q1 + p3 - q3 + p5 + q5 - p7 + q7, 0 + q0 - p2 - q4 + p6, 0 + p1 - q1 + p3 + q3 - p5 + q5 - p7 - q7), (0 + p0 - q1 - p2 + q3 + p4 - q5 - p6 + q7, 0, 0 + q0 + p1 - q2 - p3 + q4 + p5 - q6 - p7, 0), (0 + p0 - q2 - p4 + q6, 0 + p1 - q1 - p3 - q3 - p5 + q5 + p7 + q7, 0 + q0 + p2 - q4 - p6, 0 + p1 + q1 + p3 - q3 - p5 - q5 - p7 + q7)]
set_option maxHeartbeats 2000000 in
theorem trx8 (p0 q0 p1 q1 p2 q2 p3 q3 p4 q4 p5 q5 p6 q6 p7 q7 : Int) : tr [(p0, q0), (p1, q1), (p2, q2), (p3, q3), (p4, q4), (p5, q5), (p6, q6), (p7, q7)] 8 0 [] = L8 p0 q0 p1 q1 p2 q2 p3 q3 p4 q4 p5 q5 p6 q6 p7 q7 := by
  simp [tr, ts, jx, tn, addU, og, L8]
  try omega
set_option maxHeartbeats 2000000 in
theorem inv8_0 (p0 q0 p1 q1 p2 q2 p3 q3 p4 q4 p5 q5 p6 q6 p7 q7 : Int) : us 8 0 (L8 p0 q0 p1 q1 p2 q2 p3 q3 p4 q4 p5 q5 p6 q6 p7 q7) 0 (0, 0, 0, 0) = (2 * ((8 : Nat) : Int) * p0, 0, 2 * ((8 : Nat) : Int) * q0, 0) := by
  simp [us, ix, tw, addU, L8]
  try omega
set_option maxHeartbeats 2000000 in
theorem inv8_1 (p0 q0 p1 q1 p2 q2 p3 q3 p4 q4 p5 q5 p6 q6 p7 q7 : Int) : us 8 1 (L8 p0 q0 p1 q1 p2 q2 p3 q3 p4 q4 p5 q5 p6 q6 p7 q7) 0 (0, 0, 0, 0) = (2 * ((8 : Nat) : Int) * p1, 0, 2 * ((8 : Nat) : Int) * q1, 0) := by
  simp [us, ix, tw, addU, L8]
  try omega
set_option maxHeartbeats 2000000 in
theorem inv8_2 (p0 q0 p1 q1 p2 q2 p3 q3 p4 q4 p5 q5 p6 q6 p7 q7 : Int) : us 8 2 (L8 p0 q0 p1 q1 p2 q2 p3 q3 p4 q4 p5 q5 p6 q6 p7 q7) 0 (0, 0, 0, 0) = (2 * ((8 : Nat) : Int) * p2, 0, 2 * ((8 : Nat) : Int) * q2, 0) := by
  simp [us, ix, tw, addU, L8]
  try omega
set_option maxHeartbeats 2000000 in
theorem inv8_3 (p0 q0 p1 q1 p2 q2 p3 q3 p4 q4 p5 q5 p6 q6 p7 q7 : Int) : us 8 3 (L8 p0 q0 p1 q1 p2 q2 p3 q3 p4 q4 p5 q5 p6 q6 p7 q7) 0 (0, 0, 0, 0) = (2 * ((8 : Nat) : Int) * p3, 0, 2 * ((8 : Nat) : Int) * q3, 0) := by
  simp [us, ix, tw, addU, L8]
  try omega
set_option maxHeartbeats 2000000 in
theorem inv8_4 (p0 q0 p1 q1 p2 q2 p3 q3 p4 q4 p5 q5 p6 q6 p7 q7 : Int) : us 8 4 (L8 p0 q0 p1 q1 p2 q2 p3 q3 p4 q4 p5 q5 p6 q6 p7 q7) 0 (0, 0, 0, 0) = (2 * ((8 : Nat) : Int) * p4, 0, 2 * ((8 : Nat) : Int) * q4, 0) := by
  simp [us, ix, tw, addU, L8]
  try omega
set_option maxHeartbeats 2000000 in
theorem inv8_5 (p0 q0 p1 q1 p2 q2 p3 q3 p4 q4 p5 q5 p6 q6 p7 q7 : Int) : us 8 5 (L8 p0 q0 p1 q1 p2 q2 p3 q3 p4 q4 p5 q5 p6 q6 p7 q7) 0 (0, 0, 0, 0) = (2 * ((8 : Nat) : Int) * p5, 0, 2 * ((8 : Nat) : Int) * q5, 0) := by
  simp [us, ix, tw, addU, L8]
  try omega
set_option maxHeartbeats 2000000 in
theorem inv8_6 (p0 q0 p1 q1 p2 q2 p3 q3 p4 q4 p5 q5 p6 q6 p7 q7 : Int) : us 8 6 (L8 p0 q0 p1 q1 p2 q2 p3 q3 p4 q4 p5 q5 p6 q6 p7 q7) 0 (0, 0, 0, 0) = (2 * ((8 : Nat) : Int) * p6, 0, 2 * ((8 : Nat) : Int) * q6, 0) := by
  simp [us, ix, tw, addU, L8]
  try omega
set_option maxHeartbeats 2000000 in
theorem inv8_7 (p0 q0 p1 q1 p2 q2 p3 q3 p4 q4 p5 q5 p6 q6 p7 q7 : Int) : us 8 7 (L8 p0 q0 p1 q1 p2 q2 p3 q3 p4 q4 p5 q5 p6 q6 p7 q7) 0 (0, 0, 0, 0) = (2 * ((8 : Nat) : Int) * p7, 0, 2 * ((8 : Nat) : Int) * q7, 0) := by
  simp [us, ix, tw, addU, L8]
  try omega
theorem outs8 (p0 q0 p1 q1 p2 q2 p3 q3 p4 q4 p5 q5 p6 q6 p7 q7 : Int) : outs (L8 p0 q0 p1 q1 p2 q2 p3 q3 p4 q4 p5 q5 p6 q6 p7 q7) 8 0 [] = some [(p0, q0), (p1, q1), (p2, q2), (p3, q3), (p4, q4), (p5, q5), (p6, q6), (p7, q7)] := by
  rw [outs, show (L8 p0 q0 p1 q1 p2 q2 p3 q3 p4 q4 p5 q5 p6 q6 p7 q7).length = 8 from rfl, inv8_0, outp_of (by omega)]
  dsimp only
  rw [outs, show (L8 p0 q0 p1 q1 p2 q2 p3 q3 p4 q4 p5 q5 p6 q6 p7 q7).length = 8 from rfl, inv8_1, outp_of (by omega)]
  dsimp only
  rw [outs, show (L8 p0 q0 p1 q1 p2 q2 p3 q3 p4 q4 p5 q5 p6 q6 p7 q7).length = 8 from rfl, inv8_2, outp_of (by omega)]
  dsimp only
  rw [outs, show (L8 p0 q0 p1 q1 p2 q2 p3 q3 p4 q4 p5 q5 p6 q6 p7 q7).length = 8 from rfl, inv8_3, outp_of (by omega)]
  dsimp only
  rw [outs, show (L8 p0 q0 p1 q1 p2 q2 p3 q3 p4 q4 p5 q5 p6 q6 p7 q7).length = 8 from rfl, inv8_4, outp_of (by omega)]
  dsimp only
  rw [outs, show (L8 p0 q0 p1 q1 p2 q2 p3 q3 p4 q4 p5 q5 p6 q6 p7 q7).length = 8 from rfl, inv8_5, outp_of (by omega)]
  dsimp only
  rw [outs, show (L8 p0 q0 p1 q1 p2 q2 p3 q3 p4 q4 p5 q5 p6 q6 p7 q7).length = 8 from rfl, inv8_6, outp_of (by omega)]
  dsimp only
  rw [outs, show (L8 p0 q0 p1 q1 p2 q2 p3 q3 p4 q4 p5 q5 p6 q6 p7 q7).length = 8 from rfl, inv8_7, outp_of (by omega)]
  dsimp only
  rfl
theorem inv_all (l : List G2) (hl : cnt l.length = true) : outs (tr l l.length 0 []) l.length 0 [] = some l := by
  rcases of_decide_eq_true hl with h | h | h | h
  · obtain ⟨⟨p0, q0⟩, r1, rfl, h1⟩ := lenS h
    obtain rfl := List.length_eq_zero_iff.1 h1
    rw [show [(p0, q0)].length = 1 from rfl, trx1, outs1]
  · obtain ⟨⟨p0, q0⟩, r1, rfl, h1⟩ := lenS h
    obtain ⟨⟨p1, q1⟩, r2, rfl, h2⟩ := lenS h1
    obtain rfl := List.length_eq_zero_iff.1 h2
    rw [show [(p0, q0), (p1, q1)].length = 2 from rfl, trx2, outs2]
  · obtain ⟨⟨p0, q0⟩, r1, rfl, h1⟩ := lenS h
    obtain ⟨⟨p1, q1⟩, r2, rfl, h2⟩ := lenS h1
    obtain ⟨⟨p2, q2⟩, r3, rfl, h3⟩ := lenS h2
    obtain ⟨⟨p3, q3⟩, r4, rfl, h4⟩ := lenS h3
    obtain rfl := List.length_eq_zero_iff.1 h4
    rw [show [(p0, q0), (p1, q1), (p2, q2), (p3, q3)].length = 4 from rfl, trx4, outs4]
  · obtain ⟨⟨p0, q0⟩, r1, rfl, h1⟩ := lenS h
    obtain ⟨⟨p1, q1⟩, r2, rfl, h2⟩ := lenS h1
    obtain ⟨⟨p2, q2⟩, r3, rfl, h3⟩ := lenS h2
    obtain ⟨⟨p3, q3⟩, r4, rfl, h4⟩ := lenS h3
    obtain ⟨⟨p4, q4⟩, r5, rfl, h5⟩ := lenS h4
    obtain ⟨⟨p5, q5⟩, r6, rfl, h6⟩ := lenS h5
    obtain ⟨⟨p6, q6⟩, r7, rfl, h7⟩ := lenS h6
    obtain ⟨⟨p7, q7⟩, r8, rfl, h8⟩ := lenS h7
    obtain rfl := List.length_eq_zero_iff.1 h8
    rw [show [(p0, q0), (p1, q1), (p2, q2), (p3, q3), (p4, q4), (p5, q5), (p6, q6), (p7, q7)].length = 8 from rfl, trx8, outs8]
theorem tn_add (y : Nat) (g h : G2) : tn y (og (g.1 + h.1, g.2 + h.2)) = addU (tn y (og g)) (tn y (og h)) := by
  obtain ⟨a, b⟩ := g
  obtain ⟨c, d⟩ := h
  unfold og addU
  rcases y with _ | _ | _ | _ | _ | _ | _ | y
  all_goals simp [tn]
  all_goals omega
def gad (g h : G2) : G2 := (g.1 + h.1, g.2 + h.2)
theorem ts_add (n p : Nat) : ∀ (a b : List G2) (i : Nat) (u v : X4), a.length = b.length → ts n p (List.zipWith gad a b) i (addU u v) = addU (ts n p a i u) (ts n p b i v)
  | [], [], i, u, v, _ => rfl
  | g :: a, h :: b, i, u, v, e => by
    rw [List.zipWith_cons_cons, ts, ts, ts, ← ts_add n p a b (i + 1) _ _ (by simpa using e)]
    congr 1
    rw [show og (gad g h) = og (g.1 + h.1, g.2 + h.2) from rfl, tn_add]
    unfold addU
    dsimp only
    congr 1
    · omega
    · congr 1
      · omega
      · congr 1 <;> omega
  | [], _ :: _, _, _, _, e => by cases e
  | _ :: _, [], _, _, _, e => by cases e
theorem tr_eq (l : List G2) : ∀ (m p : Nat) (acc : List X4), tr l m p acc = acc ++ (List.range' p m).map (fun q => ts l.length q l 0 (0, 0, 0, 0))
  | 0, p, acc => by simp [tr]
  | m + 1, p, acc => by rw [tr, tr_eq l m, List.range'_succ, List.map_cons, List.append_assoc]; rfl
theorem tr_get (l : List G2) (n i : Nat) (h : i < n) : (tr l n 0 [])[i]? = some (ts l.length i l 0 (0, 0, 0, 0)) := by
  rw [tr_eq, List.nil_append, List.getElem?_map, List.getElem?_range' h]
  simp
def sre : List G2 → Int
  | [] => 0
  | g :: r => g.1 + sre r
def sim : List G2 → Int
  | [] => 0
  | g :: r => g.2 + sim r
theorem ts_zero (n : Nat) : ∀ (l : List G2) (i : Nat) (u : X4), ts n 0 l i u = (u.1 + sre l, u.2.1, u.2.2.1 + sim l, u.2.2.2)
  | [], i, u => by simp [ts, sre, sim]
  | g :: r, i, u => by
    rw [ts, ts_zero n r, show jx n 0 i = 0 by simp [jx]]
    simp [tn, og, addU, sre, sim]
    omega
def gs (g : G2) : Int := max (max g.1 (-g.1)) (max g.2 (-g.2))
theorem GPart_eq (N : Nat) (g : G2) (hg : sm2 g = true) (k : Int → Option R) : ratchetbase_GPart N g.1 g.2 k = k (gs g) := by
  have := sm2_of hg
  unfold ratchetbase_GPart ratchetbase_Size gs
  rw [w64_id (by omega) (by omega), w64_id (by omega) (by omega), Int.zero_sub, Int.zero_sub]
theorem sum_loop (N : Nat) (k0 : Bool → Option R) (k1 : List G2 → List G2 → Int → Int → Option R) (k2 : List G2 → List G2 → List G2 → Int → Int → Option R) (a b : List G2) (hab : a.length = b.length) (hl : a.length ≤ 8) (ha : ∀ g ∈ a, sm2 g = true) (hb : ∀ g ∈ b, sm2 g = true) :
    ∀ (n i : Nat) (acc : List G2) (s t : Int), a.length < n + i → i ≤ a.length → acc.length = i → -1000 * i ≤ s → s ≤ 1000 * i → -1000 * i ≤ t → t ≤ 1000 * i →
    ratchetlaw30_ArithBoth_l0 N k0 k1 k2 n a b i acc s t = k0 true ∨
    (ratchetlaw30_ArithBoth_l0 N k0 k1 k2 n a b i acc s t = k2 a b (acc ++ List.zipWith gad (a.drop i) (b.drop i)) (s + sre (a.drop i)) (t + sim (a.drop i)) ∧ (∀ g ∈ a.drop i, gs g ≤ 500) ∧ (∀ g ∈ b.drop i, gs g ≤ 500)) := by
  intro n
  induction n with
  | zero => intro i acc s t h1 h2; omega
  | succ n ih =>
    intro i acc s t h1 h2 h3 h4 h5 h6 h7
    rw [ratchetlaw30_ArithBoth_l0]
    by_cases h : i < a.length
    · have hga := ha _ (List.getElem_mem h)
      have hib : i < b.length := by omega
      have hgb := hb _ (List.getElem_mem hib)
      have ba := sm2_of hga
      have bb := sm2_of hgb
      rw [cond_pos (by omega), at?_lt h, some_bind', GPart_eq N _ hga]
      by_cases c1 : 500 < gs a[i]
      · exact .inl (cond_pos c1)
      rw [cond_neg c1, at?_lt hib, some_bind', GPart_eq N _ hgb]
      by_cases c2 : 500 < gs b[i]
      · exact .inl (cond_pos c2)
      rw [cond_neg c2, some_bind', some_bind']
      unfold ratchetbase_GAdd
      rw [roomB_of (by omega)]
      simp only [cond_true, some_bind']
      rw [w64_succ (by omega), w64_id (by omega) (by omega), w64_id (by omega) (by omega), w64_id (by omega) (by omega), w64_id (by omega) (by omega)]
      rcases ih (i + 1) (acc ++ [(a[i].1 + b[i].1, a[i].2 + b[i].2)]) (s + a[i].1) (t + a[i].2) (by omega) (by omega) (by simp; omega) (by omega) (by omega) (by omega) (by omega) with q | ⟨q, q1, q2⟩
      · exact .inl q
      · refine .inr ⟨?_, ?_, ?_⟩
        · rw [q, drop_cons h, drop_cons hib, List.zipWith_cons_cons, List.append_assoc]
          have e1 : s + sre (a[i] :: a.drop (i + 1)) = s + a[i].1 + sre (a.drop (i + 1)) := by rw [sre]; omega
          have e2 : t + sim (a[i] :: a.drop (i + 1)) = t + a[i].2 + sim (a.drop (i + 1)) := by rw [sim]; omega
          rw [e1, e2]
          rfl
        · rw [drop_cons h]
          intro g hg
          rcases List.mem_cons.1 hg with rfl | hg
          · omega
          · exact q1 g hg
        · rw [drop_cons hib]
          intro g hg
          rcases List.mem_cons.1 hg with rfl | hg
          · omega
          · exact q2 g hg
    · rw [cond_neg (by omega)]
      have : i = a.length := by omega
      subst this
      refine .inr ⟨?_, ?_, ?_⟩
      · simp [sre, sim]
      · simp
      · rw [hab]; simp
theorem tss_all {l : List G2} (hl : cnt l.length = true) (hall : ∀ x ∈ l, sm2 x = true) (p : Nat) : Bd 16000 (ts l.length p l 0 (0, 0, 0, 0)) := by
  have h8 := cnt_le hl
  have := ts_bd l.length p l 0 (0, 0, 0, 0) hall Bd00
  unfold Bd at *
  omega
theorem lin_loop (N : Nat) (k0 : Bool → Option R) (k1 : List X4 → Int → Int → Option R) (a b c : List G2) (hb : a.length = b.length) (hc : c = List.zipWith gad a b) (ha1 : cnt a.length = true) (ha : ∀ g ∈ a, sm2 g = true) (hb1 : ∀ g ∈ b, sm2 g = true) (s t : Int) :
    ∀ (n i : Nat), a.length < n + i → i ≤ a.length →
    ratchetlaw30_ArithBoth_l1 N k0 k1 n a (tr a a.length 0 []) (tr b b.length 0 []) (tr c c.length 0 []) i s t = k1 (tr a a.length 0 []) s t := by
  have hcl : c.length = a.length := by rw [hc, List.length_zipWith]; omega
  have h8 := cnt_le ha1
  intro n
  induction n with
  | zero => intro i h1 h2; omega
  | succ n ih =>
    intro i h1 h2
    rw [ratchetlaw30_ArithBoth_l1]
    by_cases h : i < a.length
    · have ga := tr_get a a.length i h
      have gb := tr_get b b.length i (by omega)
      have gc := tr_get c c.length i (by omega)
      have e : ts c.length i c 0 (0, 0, 0, 0) = addU (ts a.length i a 0 (0, 0, 0, 0)) (ts b.length i b 0 (0, 0, 0, 0)) := by
        rw [hcl, ← hb, hc, ← ts_add a.length i a b 0 _ _ hb]
        rfl
      have b1 := tss_all ha1 ha i
      have b2 := tss_all (l := b) (by rw [← hb]; exact ha1) hb1 i
      rw [cond_pos (by omega), at?_nat, at?_nat, at?_nat, ga, gb, gc, e]
      simp only [some_bind']
      unfold Bd at b1 b2
      rw [w64_succ (by omega), ih (i + 1) (by omega) (by omega), w64_id (by omega) (by omega), w64_id (by omega) (by omega), w64_id (by omega) (by omega), w64_id (by omega) (by omega)]
      simp [addU]
    · rw [cond_neg (by omega)]
theorem perr_ok {l : List G2} (e : perr l = 0) : cnt l.length = true ∧ ∀ x ∈ l, sm2 x = true := by
  unfold perr at e
  cases h1 : cnt l.length <;> cases h2 : l.all sm2 <;> simp [h1, h2] at e ⊢
  simpa using h2
theorem perr_of {l : List G2} (h1 : cnt l.length = true) (h2 : ∀ x ∈ l, sm2 x = true) : perr l = 0 := by
  unfold perr
  rw [h1, List.all_eq_true.2 h2]; rfl
theorem gs_of {g : G2} (h : gs g ≤ 500) : (-500 ≤ g.1 ∧ g.1 ≤ 500) ∧ (-500 ≤ g.2 ∧ g.2 ≤ 500) := by
  unfold gs at h; omega
theorem zip_mem {a b : List G2} {x : G2} (h : x ∈ List.zipWith gad a b) : ∃ g ∈ a, ∃ h ∈ b, x = gad g h := by
  induction a generalizing b with
  | nil => simp at h
  | cons g a ih =>
    cases b with
    | nil => simp at h
    | cons k b =>
      rw [List.zipWith_cons_cons] at h
      rcases List.mem_cons.1 h with rfl | h
      · exact ⟨g, by simp, k, by simp, rfl⟩
      · obtain ⟨g', h1, k', h2, e⟩ := ih h
        exact ⟨g', List.mem_cons_of_mem _ h1, k', List.mem_cons_of_mem _ h2, e⟩
theorem pureArithBoth : PureArithBoth := by
  intro a b _ _
  refine ⟨2000, ?_⟩
  intro R k
  unfold ratchetlaw30_ArithBoth
  rw [awake_ok, show (!true) = false from rfl, cond_false]
  by_cases hab : a.length = b.length
  · rw [cond_neg (by simp [hab])]
    -- more than 1000000 numbers have an error before anything is walked
    by_cases hbig : a.length ≤ 1000
    · rw [PointsErr_eq 2000 a (by omega) (by omega)]
      by_cases ea : perr a = 0
      · rw [cond_neg (by simp [ea]), PointsErr_eq 2000 b (by omega) (by omega)]
        by_cases eb : perr b = 0
        · rw [cond_neg (by simp [eb])]
          obtain ⟨ca, ha⟩ := perr_ok ea
          obtain ⟨cb, hb⟩ := perr_ok eb
          have h8 := cnt_le ca
          rcases sum_loop 2000 (fun z12 => k z12) (fun z13 z14 z15 z16 => (ratchetlaw30_ArithBoth_j0 2000 (fun z18 => (k z18)) z13 z14 [] z15 z16)) (fun z19 z20 z21 z22 z23 => (ratchetlaw30_ArithBoth_j0 2000 (fun z24 => (k z24)) z19 z20 z21 z22 z23)) a b hab (by omega) ha hb 2000 0 [] 0 0 (by omega) (by omega) rfl (by omega) (by omega) (by omega) (by omega) with q | ⟨q, q1, q2⟩
          · exact q
          rw [Int.natCast_zero] at q
          refine q.trans ?_
          rw [List.drop_zero] at q1
          rw [List.drop_zero] at q2
          simp only [List.drop_zero, List.nil_append, Int.zero_add]
          have hcl : (List.zipWith gad a b).length = a.length := by rw [List.length_zipWith]; omega
          have hc : ∀ x ∈ List.zipWith gad a b, sm2 x = true := by
            intro x hx
            obtain ⟨g, hg, g', hg', rfl⟩ := zip_mem hx
            have := gs_of (q1 g hg)
            have := gs_of (q2 g' hg')
            unfold sm2 sm gad
            simp only [Bool.and_eq_true, decide_eq_true_eq]
            omega
          have ec : perr (List.zipWith gad a b) = 0 := perr_of (by rw [hcl]; exact ca) hc
          generalize hcz : List.zipWith gad a b = c at hcl hc ec ⊢
          unfold ratchetlaw30_ArithBoth_j0
          have hta := tr_len a a.length 0 []
          have htb := tr_len b b.length 0 []
          have htc := tr_len c c.length 0 []
          simp only [List.length_nil, Nat.zero_add] at hta htb htc
          have hx : (tr a a.length 0 []).all ex4 = true := by
            rw [List.all_eq_true]
            intro x hx
            rw [tr_eq, List.nil_append] at hx
            obtain ⟨q, _, rfl⟩ := List.mem_map.1 hx
            have := tss_all ca ha q
            unfold Bd at this
            simp [ex4, ex]; omega
          simp only [CopyGausses_eq 2000 a (show a.length ≤ 1000000 by omega), CopyGausses_eq 2000 b (show b.length ≤ 1000000 by omega), TransformOf_eq 2000 (show 20 ≤ 2000 by omega) a (show a.length ≤ 10 by omega), TransformFast_eq b (show b.length ≤ 10 by omega), TransformFast_eq c (show c.length ≤ 10 by omega), ea, eb, ec, if_true]
          unfold ratchetlaw30_copyNumbers
          rw [roomB_of (by omega)]
          simp only [cond_true]
          rw [InverseOf_eq 2000 (by omega) _ (by omega), hta, ca, hx, inv_all a ca]
          simp only [if_true]
          unfold ratchetlaw30_ArithBoth_j1
          rw [CopyGausses_eq 2000 a (by omega), TransformFast_eq a (by omega), ea, if_pos rfl]
          unfold ratchetlaw30_ArithBoth_j2
          rw [cond_neg (by simp), cond_neg (by simp), cond_neg (by simp), cond_neg (by simp), cond_neg (by simp), Gausses_self 2000 a (by omega) (by omega), show (!true) = false from rfl, cond_false, same_self 2000 _ (by omega) (by omega), show (!true) = false from rfl, cond_false, cond_neg (by omega), cond_neg (by omega), cond_neg (by omega)]
          unfold ratchetlaw30_ArithBoth_j3
          have hlin := lin_loop 2000 (fun z10 => k z10) (fun z11 z12 z13 => ((at? z11 0).bind fun x14 => (k (false != (decide (x14.1 = z12) && (decide (x14.2.1 = 0) && (decide (x14.2.2.1 = z13) && (decide (x14.2.2.2 = 0) && true)))))))) a b c hab hcz.symm ca ha hb (sre a) (sim a) 2000 0 (by omega) (by omega)
          rw [Int.natCast_zero] at hlin
          refine hlin.trans ?_
          have g0 := tr_get a a.length 0 (by omega)
          rw [show (0 : Int) = ((0 : Nat) : Int) from rfl, at?_nat, g0, some_bind', ts_zero]
          simp
        · rw [cond_pos eb]
      · rw [cond_pos ea]
    · have hca : cnt a.length = false := by unfold cnt; simp; omega
      unfold ratchetref30_PointsErr
      rw [CountErr_eq, hca]
      simp
  · rw [cond_pos (by omega)]
end
end Am
end Go.Proofs.YteamkapbkccdeaaDoor
