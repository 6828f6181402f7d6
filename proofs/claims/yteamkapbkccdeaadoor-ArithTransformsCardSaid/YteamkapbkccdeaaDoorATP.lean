/- The statement about transforms, on plain data. -/
import Derived.Test.YteamkapbkccdeaaDoorATF
import Derived.Test.YteamkapbkccdeaaDoorPu
set_option linter.unusedVariables false
set_option linter.unusedSimpArgs false
set_option maxRecDepth 100000
namespace Go.Proofs.YteamkapbkccdeaaDoor
namespace Am
section
variable {R : Type}
theorem awake_ok (k : Bool → Option R) : ratchetlaw30_awake 2000 k = k true := by kernel_rfl

theorem within_eq (N : Nat) (a lo hi : Int) (k : Bool → Option R) : arith_within N a lo hi k = k (decide (lo ≤ a ∧ a ≤ hi)) := by
  unfold arith_within
  by_cases h : lo ≤ a <;> simp [h]
theorem Within_eq (N : Nat) (a lo hi : Int) (k : Bool → Option R) : ratchetbase_Within N a lo hi k = k (decide (lo ≤ a ∧ a ≤ hi)) := by
  unfold ratchetbase_Within
  by_cases h : lo ≤ a <;> simp [h]
theorem unless_eq (N : Nat) (b : Bool) (e : Int) (k : Int → Option R) : arith_unless N b e k = k (if b = true then 0 else e) := by
  unfold arith_unless; cases b <;> rfl
theorem first_loop (N : Nat) (k0 : Int → Option R) (k1 : Option R) (l : List Int) (hl : l.length ≤ 1000000) : ∀ (n i : Nat), l.length < n + i → i ≤ l.length →
    arith_first_l0 N k0 k1 n l l.length i = match (l.drop i).find? (fun x => decide (x ≠ 0)) with | some x => k0 x | none => k1 := by
  intro n
  induction n with
  | zero => intro i h1 h2; omega
  | succ n ih =>
    intro i h1 h2
    rw [arith_first_l0]
    by_cases h : i < l.length
    · rw [cond_pos (by omega), at?_lt h, some_bind', drop_cons h, List.find?_cons]
      by_cases hx : l[i] = 0
      · rw [cond_neg (by simp [hx]), w64_id (by omega) (by omega)]
        simp only [hx, ne_eq, not_true, decide_false]
        exact ih (i + 1) (by omega) (by omega)
      · rw [cond_pos hx]; simp [hx]
    · rw [cond_neg (by omega)]
      have : i = l.length := by omega
      subst this
      simp
theorem first_eq (N : Nat) (l : List Int) (hN : l.length < N) (hl : l.length ≤ 1000000) (k : Int → Option R) : arith_first N l k = k ((l.find? (fun x => decide (x ≠ 0))).getD 0) := by
  unfold arith_first
  have := first_loop N (fun z => k z) (k 0) l hl N 0 (by omega) (by omega)
  rw [Int.natCast_zero] at this
  rw [this, List.drop_zero]
  cases l.find? (fun x => decide (x ≠ 0)) <;> rfl
theorem first2 (N : Nat) (hN : 4 ≤ N) (a b : Int) (k : Int → Option R) : arith_first N [a, b] k = k (if a = 0 then b else a) := by
  rw [first_eq N _ (by simp; omega) (by simp)]
  by_cases ha : a = 0 <;> by_cases hb : b = 0 <;> simp [ha, hb]
theorem first3 (N : Nat) (hN : 4 ≤ N) (a b c : Int) (k : Int → Option R) : arith_first N [a, b, c] k = k (if a = 0 then (if b = 0 then c else b) else a) := by
  rw [first_eq N _ (by simp; omega) (by simp)]
  by_cases ha : a = 0 <;> by_cases hb : b = 0 <;> by_cases hc : c = 0 <;> simp [ha, hb, hc]


/-! ### Exact numbers -/
abbrev X4 := Int × Int × Int × Int
def ex (x : Int) : Bool := decide (-1000000000 ≤ x ∧ x ≤ 1000000000)
def ex4 (x : X4) : Bool := [x.1, x.2.1, x.2.2.1, x.2.2.2].all ex
def cnt (n : Nat) : Bool := decide (n = 1 ∨ n = 2 ∨ n = 4 ∨ n = 8)
theorem isCount_eq (N : Nat) (n : Nat) (k : Bool → Option R) : arith_isCount N (n : Int) k = k (cnt n) := by
  unfold arith_isCount cnt
  by_cases h1 : n = 1
  · rw [cond_pos (by omega)]; simp [h1]
  rw [cond_neg (by omega)]
  by_cases h2 : n = 2
  · rw [cond_pos (by omega)]; simp [h2]
  rw [cond_neg (by omega)]
  by_cases h4 : n = 4
  · rw [cond_pos (by omega)]; simp [h4]
  rw [cond_neg (by omega)]
  by_cases h8 : n = 8
  · simp [h8]
  · have : ¬ ((n : Int) = 8) := by omega
    simp [h1, h2, h4, h8, this]
theorem CountErr_eq (N : Nat) (n : Nat) (k : Int → Option R) : ratchetref30_CountErr N (n : Int) k = k (if cnt n then 0 else 10) := by
  unfold ratchetref30_CountErr cnt
  by_cases h1 : n = 1
  · rw [cond_neg (by omega)]; simp [h1]
  rw [cond_pos (by omega)]
  by_cases h2 : n = 2
  · rw [cond_neg (by omega)]; simp [h2]
  rw [cond_pos (by omega)]
  by_cases h4 : n = 4
  · rw [cond_neg (by omega)]; simp [h4]
  rw [cond_pos (by omega)]
  by_cases h8 : n = 8
  · rw [cond_neg (by omega)]; simp [h8]
  · rw [cond_pos (by omega)]; simp [h1, h2, h4, h8]
/-- Twice a number turned back by eighths; the root's parts not doubled. -/
def tw : Nat → X4 → X4
  | 0, (a, b, c, d) => (2 * a, b, 2 * c, d)
  | 1, (a, b, c, d) => (b + d, a + c, d - b, c - a)
  | 2, (a, b, c, d) => (2 * c, d, -(2 * a), -b)
  | 3, (a, b, c, d) => (d - b, c - a, -(b + d), -(a + c))
  | 4, (a, b, c, d) => (-(2 * a), -b, -(2 * c), -d)
  | 5, (a, b, c, d) => (-(b + d), -(a + c), b - d, a - c)
  | 6, (a, b, c, d) => (-(2 * c), -d, 2 * a, b)
  | _, (a, b, c, d) => (b - d, a - c, b + d, a + c)
def md8 (a : Int) : Int := if Int.tmod a 8 < 0 then w64 (Int.tmod a 8 + 8) else Int.tmod a 8
theorem cnt_mem {n : Nat} (h : cnt n = true) : n ∈ [1, 2, 4, 8] := by
  have := of_decide_eq_true h
  simpa using this
theorem cnt_le {n : Nat} (h : cnt n = true) : 1 ≤ n ∧ n ≤ 8 := by
  have := of_decide_eq_true h
  omega
theorem Mod8_eq (N : Nat) (a : Int) (k : Int → Option R) : ratchetbase_Mod N a 8 k = k (md8 a) := by
  unfold ratchetbase_Mod md8
  rw [cond_neg (by omega), cond_dec]
  split <;> rfl
theorem ex_of {x : X4} (h : ex4 x = true) : (-1000000000 ≤ x.1 ∧ x.1 ≤ 1000000000) ∧ (-1000000000 ≤ x.2.1 ∧ x.2.1 ≤ 1000000000) ∧ (-1000000000 ≤ x.2.2.1 ∧ x.2.2.1 ≤ 1000000000) ∧ (-1000000000 ≤ x.2.2.2 ∧ x.2.2.2 ≤ 1000000000) := by
  simpa [ex4, ex] using h
theorem turn_eq (N : Nat) (hN : 10 ≤ N) (a b c d t : Int) (y : Nat) (hy : md8 t = (y : Int)) (hy8 : y < 8) (h : ex4 (a, b, c, d) = true) (k : Int → Int → Int → Int → Option R) :
    ratchetref30_turn N a b c d t k = k (tw y (a, b, c, d)).1 (2 * (tw y (a, b, c, d)).2.1) (tw y (a, b, c, d)).2.2.1 (2 * (tw y (a, b, c, d)).2.2.2) := by
  obtain ⟨N, rfl⟩ : ∃ q, N = q + 10 := ⟨N - 10, by omega⟩
  obtain ⟨ha, hb, hc, hd⟩ := ex_of h
  dsimp only at ha hb hc hd
  unfold ratchetref30_turn
  rw [Mod8_eq, hy]
  rcases (show y = 0 ∨ y = 1 ∨ y = 2 ∨ y = 3 ∨ y = 4 ∨ y = 5 ∨ y = 6 ∨ y = 7 by omega) with rfl | rfl | rfl | rfl | rfl | rfl | rfl | rfl
  all_goals (first | rw [cond_pos (by decide)] | rw [cond_neg (by decide)])
  all_goals (repeat (rw [ratchetref30_turn_l0]; first | rw [cond_pos (by decide)] | rw [cond_neg (by decide)]))
  all_goals simp (disch := omega) only [w64_id, tw]
  all_goals (congr 1 <;> omega)

def Bd (m : Int) (u : X4) : Prop := (-m ≤ u.1 ∧ u.1 ≤ m) ∧ (-m ≤ u.2.1 ∧ u.2.1 ≤ m) ∧ (-m ≤ u.2.2.1 ∧ u.2.2.1 ≤ m) ∧ (-m ≤ u.2.2.2 ∧ u.2.2.2 ≤ m)
def addU (u v : X4) : X4 := (u.1 + v.1, u.2.1 + v.2.1, u.2.2.1 + v.2.2.1, u.2.2.2 + v.2.2.2)
theorem tw_bd {y : Nat} {x : X4} (h : ex4 x = true) : Bd 2000000000 (tw y x) := by
  obtain ⟨a, b, c, d⟩ := x
  obtain ⟨ha, hb, hc, hd⟩ := ex_of h
  dsimp only at ha hb hc hd
  unfold tw
  split <;> (unfold Bd; simp_all only [Prod.mk.injEq]) <;> omega
theorem addU_bd {m m' : Int} {u v : X4} (h : Bd m u) (h' : Bd m' v) : Bd (m + m') (addU u v) := by
  unfold Bd addU at *
  dsimp only
  omega
theorem tdiv_sm {n d B : Int} (h1 : -B ≤ n) (h2 : n ≤ B) : -B ≤ Int.tdiv n d ∧ Int.tdiv n d ≤ B := by
  have h : (Int.tdiv n d).natAbs = n.natAbs / d.natAbs := Int.natAbs_tdiv n d
  have h3 : n.natAbs / d.natAbs ≤ n.natAbs := Nat.div_le_self _ _
  omega
theorem Bd0 : Bd (2000000000 * ((0 : Nat) : Int)) (0, 0, 0, 0) := by unfold Bd; simp

/-! ### Transforms -/
abbrev G2 := Int × Int
def sm (x : Int) : Bool := decide (-1000 ≤ x ∧ x ≤ 1000)
def sm2 (g : G2) : Bool := sm g.1 && sm g.2
theorem gc_eq (N : Nat) (a b : Int) (k : Bool → Option R) : api_Gauss__c1 N a b k = k (!sm2 (a, b)) := by
  unfold api_Gauss__c1 arith_pointsErr_c1 arith_isSample sm2 sm
  simp only [within_eq]
  by_cases h : -1000 ≤ a ∧ a ≤ 1000 <;> simp [h]
theorem gn_loop (N : Nat) (k0 : Int → Option R) (k1 g : Option R) (hk : ∀ i : Nat, k0 (i : Int) = g) (l : List G2) (hl : l.length ≤ 1000000) : ∀ (n i : Nat), l.length < n + i → i ≤ l.length →
    slices_IndexFunc_Gauss_Gauss_l0 N k0 k1 n l l.length i = if (l.drop i).all sm2 then k1 else g := by
  intro n
  induction n with
  | zero => intro i h1 h2; omega
  | succ n ih =>
    intro i h1 h2
    rw [slices_IndexFunc_Gauss_Gauss_l0]
    by_cases h : i < l.length
    · rw [cond_pos (by omega), at?_lt h, some_bind', gc_eq, drop_cons h, List.all_cons]
      cases e : sm2 l[i]
      · rw [Bool.not_false, cond_true, hk]; simp
      · rw [Bool.not_true, cond_false, w64_succ (by omega), Bool.true_and]
        exact ih (i + 1) (by omega) (by omega)
    · rw [cond_neg (by omega)]
      have : i = l.length := by omega
      subst this
      simp
theorem eachGauss_eq (N : Nat) (l : List G2) (hl : l.length < N) (hl2 : l.length ≤ 1000000) (k : Bool → Option R) : arith_each_Gauss N l k = k (l.all sm2) := by
  unfold arith_each_Gauss slices_ContainsFunc_Gauss_Gauss slices_IndexFunc_Gauss_Gauss
  have := gn_loop N (fun z3 => k (!decide (0 ≤ z3))) (k (!decide (0 ≤ (-1 : Int)))) (k false) (fun i => by simp) l hl2 N 0 (by omega) (by omega)
  rw [Int.natCast_zero] at this
  rw [this, List.drop_zero]
  cases l.all sm2 <;> simp
def perr (l : List G2) : Int := if cnt l.length then (if l.all sm2 then 0 else 2) else 10
theorem pointsErr_eq (N : Nat) (hN : 20 ≤ N) (l : List G2) (hl : l.length < N) (hl2 : l.length ≤ 1000000) (k : Int → Option R) : arith_pointsErr N l k = k (perr l) := by
  unfold arith_pointsErr perr
  rw [isCount_eq, unless_eq, eachGauss_eq N l hl hl2, unless_eq, first2 N (by omega)]
  cases cnt l.length <;> cases l.all sm2 <;> simp
/-- A whole number turned back by eighths. -/
def tn : Nat → X4 → X4
  | 0, (a, _, c, _) => (a, 0, c, 0)
  | 1, (a, _, c, _) => (0, a + c, 0, c - a)
  | 2, (a, _, c, _) => (c, 0, -a, 0)
  | 3, (a, _, c, _) => (0, c - a, 0, -a - c)
  | 4, (a, _, c, _) => (-a, 0, -c, 0)
  | 5, (a, _, c, _) => (0, -a - c, 0, a - c)
  | 6, (a, _, c, _) => (-c, 0, a, 0)
  | _, (a, _, c, _) => (0, a - c, 0, a + c)
def og (g : G2) : X4 := (g.1, 0, g.2, 0)
def jx (n p i : Nat) : Nat := (i * p * (8 / n)) % 8
theorem jx_lt (n p i : Nat) : jx n p i < 8 := Nat.mod_lt _ (by omega)
def jxa (n p i : Int) : Int := Int.tmod (w64 (w64 (i * p) * w64 (Int.tdiv 8 n))) 8
def jxb (n p i : Int) : Int := w64 (Int.tdiv (w64 (w64 (i * p) * 8)) n)
theorem jxa_all : ([1, 2, 4, 8].all fun n => (List.range 8).all fun p => (List.range 8).all fun i => decide (jxa (n : Nat) (p : Nat) (i : Nat) = (jx n p i : Nat))) = true := by decide +kernel
theorem jxb_all : ([1, 2, 4, 8].all fun n => (List.range n).all fun p => (List.range n).all fun i => decide (md8 (jxb (n : Nat) (p : Nat) (i : Nat)) = (jx n p i : Nat))) = true := by decide +kernel
theorem jxa_eq {n p i : Nat} (hn : cnt n = true) (hp : p < n) (hi : i < n) : jxa n p i = (jx n p i : Nat) := by
  have h := cnt_le hn
  have h1 := List.all_eq_true.1 jxa_all n (cnt_mem hn)
  have h2 := List.all_eq_true.1 h1 p (List.mem_range.2 (by omega))
  exact of_decide_eq_true (List.all_eq_true.1 h2 i (List.mem_range.2 (by omega)))
theorem jxb_eq {n p i : Nat} (hn : cnt n = true) (hp : p < n) (hi : i < n) : md8 (jxb n p i) = (jx n p i : Nat) := by
  have h1 := List.all_eq_true.1 jxb_all n (cnt_mem hn)
  have h2 := List.all_eq_true.1 h1 p (List.mem_range.2 hp)
  exact of_decide_eq_true (List.all_eq_true.1 h2 i (List.mem_range.2 hi))
theorem turned_eq (N : Nat) (a b c d e : Int) (y : Nat) (hy : Int.tmod e 8 = (y : Int)) (hy8 : y < 8) (h1 : -1000000 ≤ a ∧ a ≤ 1000000) (h2 : -1000000 ≤ c ∧ c ≤ 1000000) (k : Int → Int → Int → Int → Option R) :
    arith_number_turned N a b c d e k = k (tn y (a, b, c, d)).1 (tn y (a, b, c, d)).2.1 (tn y (a, b, c, d)).2.2.1 (tn y (a, b, c, d)).2.2.2 := by
  unfold arith_number_turned arith_powers
  dsimp only
  rw [hy]
  rcases (show y = 0 ∨ y = 1 ∨ y = 2 ∨ y = 3 ∨ y = 4 ∨ y = 5 ∨ y = 6 ∨ y = 7 by omega) with rfl | rfl | rfl | rfl | rfl | rfl | rfl | rfl
  all_goals (repeat (first | rw [cond_pos (by decide)] | rw [cond_neg (by decide)]))
  all_goals simp (disch := omega) only [w64_id, tn, Int.mul_zero, Int.mul_one, Int.mul_neg]
  all_goals (congr 1 <;> omega)
theorem tn_bd {m : Int} {y : Nat} {x : X4} (h : Bd m x) (hm : 0 ≤ m) : Bd (2 * m) (tn y x) := by
  obtain ⟨a, b, c, d⟩ := x
  unfold Bd at h
  unfold tn
  split <;> (unfold Bd; simp_all only [Prod.mk.injEq]) <;> omega
theorem sm2_of {g : G2} (h : sm2 g = true) : (-1000 ≤ g.1 ∧ g.1 ≤ 1000) ∧ (-1000 ≤ g.2 ∧ g.2 ≤ 1000) := by
  simpa [sm2, sm] using h
theorem og_bd {g : G2} (h : sm2 g = true) : Bd 1000 (og g) := by
  have := sm2_of h
  unfold Bd og; dsimp only; omega
def ts (n p : Nat) : List G2 → Nat → X4 → X4
  | [], _, u => u
  | g :: r, i, u => ts n p r (i + 1) (addU u (tn (jx n p i) (og g)))
theorem ts_step {n p i : Nat} {u : X4} {g : G2} (hg : sm2 g = true) (hu : Bd (2000 * i) u) : Bd (2000 * ((i + 1 : Nat) : Int)) (addU u (tn (jx n p i) (og g))) := by
  have := addU_bd hu (tn_bd (y := jx n p i) (og_bd hg) (by omega))
  rw [show (2000 * ((i + 1 : Nat) : Int)) = 2000 * (i : Int) + 2 * 1000 by omega]
  exact this
theorem ts_bd (n p : Nat) : ∀ (l : List G2) (i : Nat) (u : X4), (∀ g ∈ l, sm2 g = true) → Bd (2000 * i) u → Bd (2000 * (i + l.length)) (ts n p l i u)
  | [], i, u, _, h => by simpa [ts] using h
  | x :: r, i, u, hx, h => by
    have := ts_bd n p r (i + 1) _ (fun y hy => hx y (List.mem_cons_of_mem _ hy)) (ts_step (n := n) (p := p) (hx x List.mem_cons_self) h)
    rw [ts]
    have e : (2000 * (((i + 1 : Nat) : Int) + (r.length : Int))) = 2000 * ((i : Int) + ((x :: r).length : Nat)) := by simp; omega
    rw [← e]; exact this
theorem tloop (N : Nat) (k0 : List G2 → Int → Int → Int → Int → Int → Int → Option R) (k1 : List G2 → Int → Int → List X4 → Int → Int → Int → Int → Option R) (l : List G2) (hl : cnt l.length = true) (hall : ∀ g ∈ l, sm2 g = true) (p : Nat) (hp : p < l.length) (b2 b3 : Int) (acc : List X4) :
    ∀ (f i : Nat) (u : X4), l.length < f + i → i ≤ l.length → Bd (2000 * i) u →
    arith_TransformOf_l1 N k0 k1 f l p b2 b3 l l.length i acc u.1 u.2.1 u.2.2.1 u.2.2.2 =
      k1 l b2 b3 acc (ts l.length p (l.drop i) i u).1 (ts l.length p (l.drop i) i u).2.1 (ts l.length p (l.drop i) i u).2.2.1 (ts l.length p (l.drop i) i u).2.2.2 := by
  have h8 := cnt_le hl
  intro f
  induction f with
  | zero => intro i u h1 h2; omega
  | succ f ih =>
    intro i u h1 h2 hu
    by_cases h : i < l.length
    · have hg := hall _ (List.getElem_mem h)
      have hb := sm2_of hg
      have hst := ts_step (n := l.length) (p := p) hg hu
      have hsm := hst
      rw [arith_TransformOf_l1, cond_pos (by omega), at?_lt h, some_bind']
      unfold arith_of
      dsimp only
      rw [cond_neg (by omega), turned_eq N _ _ _ _ (w64 (w64 ((i : Int) * (p : Int)) * w64 (Int.tdiv 8 (l.length : Int)))) (jx l.length p i) (jxa_eq hl hp h) (jx_lt _ _ _) (by omega) (by omega), drop_cons h, ts]
      unfold arith_number_plus
      have hi := ih (i + 1) _ (by omega) (by omega) hst
      rw [← hi, w64_succ (by omega)]
      change arith_TransformOf_l1 N k0 k1 f l _ _ _ _ _ _ acc (w64 (u.1 + (tn (jx l.length p i) (og l[i])).1)) (w64 (u.2.1 + (tn (jx l.length p i) (og l[i])).2.1)) (w64 (u.2.2.1 + (tn (jx l.length p i) (og l[i])).2.2.1)) (w64 (u.2.2.2 + (tn (jx l.length p i) (og l[i])).2.2.2)) = _
      unfold Bd addU at hsm
      dsimp only at hsm
      rw [w64_id (by omega) (by omega), w64_id (by omega) (by omega), w64_id (by omega) (by omega), w64_id (by omega) (by omega)]
      rfl
    · rw [arith_TransformOf_l1, cond_neg (by omega)]
      have : i = l.length := by omega
      subst this
      simp [ts]
def tr (l : List G2) : Nat → Nat → List X4 → List X4
  | 0, _, acc => acc
  | m + 1, p, acc => tr l m (p + 1) (acc ++ [ts l.length p l 0 (0, 0, 0, 0)])
theorem Bd00 : Bd (2000 * ((0 : Nat) : Int)) (0, 0, 0, 0) := by unfold Bd; simp
theorem touter (N : Nat) (hN : 20 ≤ N) (k0 : Option R) (k1 : List X4 → Option R) (l : List G2) (hl : cnt l.length = true) (hall : ∀ g ∈ l, sm2 g = true) :
    ∀ (m f p : Nat) (acc : List X4), p + m = l.length → m < f → acc.length + m ≤ 8 →
    arith_TransformOf_l0 N k0 k1 f l l.length p acc = k1 (tr l m p acc) := by
  have h8 := cnt_le hl
  intro m
  induction m with
  | zero =>
    intro f p acc h1 h2 h3
    obtain ⟨f, rfl⟩ : ∃ q, f = q + 1 := ⟨f - 1, by omega⟩
    rw [arith_TransformOf_l0, cond_neg (by omega), tr]
  | succ m ih =>
    intro f p acc h1 h2 h3
    obtain ⟨f, rfl⟩ : ∃ q, f = q + 1 := ⟨f - 1, by omega⟩
    rw [arith_TransformOf_l0, cond_pos (by omega)]
    have h := tloop N (fun z14 z15 z16 z17 z18 z19 z20 => (arith_TransformOf_l0 N k0 k1 f z14 z15 (w64 (z16 + 1)) [(z17, z18, z19, z20)])) (fun z21 z22 z23 z24 z25 z26 z27 z28 => (bif roomB (z24.length + 1) 32 then (arith_TransformOf_l0 N k0 k1 f z21 z22 (w64 (z23 + 1)) (z24 ++ [(z25, z26, z27, z28)])) else none)) l hl hall p (by omega) l.length p acc N 0 (0, 0, 0, 0) (by omega) (by omega) Bd00
    rw [List.drop_zero] at h
    refine Eq.trans h ?_
    rw [roomB_of (by omega), cond_true, w64_succ (by omega), tr]
    exact ih f (p + 1) _ (by omega) (by omega) (by simp; omega)
theorem TransformOf_eq (N : Nat) (hN : 20 ≤ N) (l : List G2) (hl : l.length ≤ 10) (k : List X4 → Int → Option R) :
    arith_TransformOf N l k = if perr l = 0 then k (tr l l.length 0 []) 0 else k [] (perr l) := by
  unfold arith_TransformOf
  rw [pointsErr_eq N hN l (by omega) (by omega)]
  by_cases e : perr l = 0
  · have hc : cnt l.length = true ∧ l.all sm2 = true := by
      unfold perr at e
      cases h1 : cnt l.length <;> cases h2 : l.all sm2 <;> simp [h1, h2] at e ⊢
    have h8 := cnt_le hc.1
    have := touter N hN (k [] 0) (fun z29 => k z29 0) l hc.1 (fun x hx => List.all_eq_true.1 hc.2 x hx) l.length N 0 [] (by omega) (by omega) (by simp; omega)
    rw [Int.natCast_zero] at this
    rw [cond_neg (by simp [e]), if_pos e, this]
  · rw [cond_pos e, if_neg e]

/-! ### By halves -/
def pw : Nat → Int × Int × Int × Int
  | 0 => (1, 0, 0, 0)
  | 1 => (0, 1, 0, -1)
  | 2 => (0, 0, -1, 0)
  | 3 => (0, -1, 0, -1)
  | 4 => (-1, 0, 0, 0)
  | 5 => (0, -1, 0, 1)
  | 6 => (0, 0, 1, 0)
  | _ => (0, 1, 0, 1)
def tnW (y : Nat) (x : X4) : X4 := (w64 (w64 (x.1 * (pw y).1) - w64 (x.2.2.1 * (pw y).2.2.1)), w64 (w64 (x.1 * (pw y).2.1) - w64 (x.2.2.1 * (pw y).2.2.2)), w64 (w64 (x.1 * (pw y).2.2.1) + w64 (x.2.2.1 * (pw y).1)), w64 (w64 (x.1 * (pw y).2.2.2) + w64 (x.2.2.1 * (pw y).2.1)))
def addW (u v : X4) : X4 := (w64 (u.1 + v.1), w64 (u.2.1 + v.2.1), w64 (u.2.2.1 + v.2.2.1), w64 (u.2.2.2 + v.2.2.2))
def ngW (u : X4) : X4 := (w64 (0 - u.1), w64 (0 - u.2.1), w64 (0 - u.2.2.1), w64 (0 - u.2.2.2))
def ng (u : X4) : X4 := (-u.1, -u.2.1, -u.2.2.1, -u.2.2.2)
theorem addW_eq {m m' : Int} {u v : X4} (h : Bd m u) (h' : Bd m' v) (hm : m + m' ≤ 1000000000) : addW u v = addU u v := by
  unfold Bd at h h'
  unfold addW addU
  rw [w64_id (by omega) (by omega), w64_id (by omega) (by omega), w64_id (by omega) (by omega), w64_id (by omega) (by omega)]
theorem ngW_eq {m : Int} {u : X4} (h : Bd m u) (hm : m ≤ 1000000000) : ngW u = ng u := by
  unfold Bd at h
  unfold ngW ng
  rw [w64_id (by omega) (by omega), w64_id (by omega) (by omega), w64_id (by omega) (by omega), w64_id (by omega) (by omega)]
  simp only [Int.zero_sub]
theorem ng_bd {m : Int} {u : X4} (h : Bd m u) : Bd m (ng u) := by
  unfold Bd ng at *; dsimp only; omega
theorem tnW_eq {m : Int} {y : Nat} (hy : y < 8) {x : X4} (h : Bd m x) (hm : m ≤ 100000000) : tnW y x = tn y x := by
  obtain ⟨a, b, c, d⟩ := x
  unfold Bd at h
  dsimp only at h
  unfold tnW
  rcases (show y = 0 ∨ y = 1 ∨ y = 2 ∨ y = 3 ∨ y = 4 ∨ y = 5 ∨ y = 6 ∨ y = 7 by omega) with rfl | rfl | rfl | rfl | rfl | rfl | rfl | rfl
  all_goals simp (disch := omega) only [w64_id, tn, pw, Int.mul_zero, Int.mul_one, Int.mul_neg, Prod.mk.injEq]
  all_goals (refine ⟨?_, ?_, ?_, ?_⟩ <;> first | trivial | omega)
def W8 (e0 e1 e2 e3 o0 o1 o2 o3 : X4) : List X4 := [addW e0 (tnW 0 o0), addW e1 (tnW 1 o1), addW e2 (tnW 2 o2), addW e3 (tnW 3 o3), addW e0 (ngW (tnW 0 o0)), addW e1 (ngW (tnW 1 o1)), addW e2 (ngW (tnW 2 o2)), addW e3 (ngW (tnW 3 o3))]
def p2a (a b : G2) : X4 := addW (og a) (tnW 0 (og b))
def p2b (a b : G2) : X4 := addW (og a) (ngW (tnW 0 (og b)))
def p40 (a b c d : G2) : X4 := addW (p2a a c) (tnW 0 (p2a b d))
def p41 (a b c d : G2) : X4 := addW (p2b a c) (tnW 2 (p2b b d))
def p42 (a b c d : G2) : X4 := addW (p2a a c) (ngW (tnW 0 (p2a b d)))
def p43 (a b c d : G2) : X4 := addW (p2b a c) (ngW (tnW 2 (p2b b d)))
theorem fast0_1 (a : G2) (k : List X4 → Option R) : arith_fast 2000 [a] k = k [og a] := by kernel_rfl
theorem fast1_1 (a : G2) (k : List X4 → Option R) : arith_fast_v1 2000 [a] k = k [og a] := by kernel_rfl
theorem fast1_2 (a b : G2) (k : List X4 → Option R) : arith_fast_v1 2000 [a, b] k = k [p2a a b, p2b a b] := by kernel_rfl
theorem fast2_1 (a : G2) (k : List X4 → Option R) : arith_fast_v2 2000 [a] k = k [og a] := by kernel_rfl
theorem fast2_2 (a b : G2) (k : List X4 → Option R) : arith_fast_v2 2000 [a, b] k = k [p2a a b, p2b a b] := by kernel_rfl
theorem fast2_4l (K : Int → List G2 → List G2 → Option R) (a b c d : G2) (m : Int) : arith_fast_v2_l0 2000 K 2000 m [a, b, c, d] (([a, b, c, d].length : Nat) : Int) 2 [a] [b] = K m [a, c] [b, d] := by kernel_rfl
theorem fast2_4w (e0 e1 o0 o1 : X4) (k : List X4 → Option R) : arith_fast_v2_l1 2000 k 2000 4 [e0, e1] [o0, o1] 2 0 [(0, 0, 0, 0), (0, 0, 0, 0), (0, 0, 0, 0), (0, 0, 0, 0)] = k [addW e0 (tnW 0 o0), addW e1 (tnW 2 o1), addW e0 (ngW (tnW 0 o0)), addW e1 (ngW (tnW 2 o1))] := by kernel_rfl
theorem fast2_4 (a b c d : G2) (k : List X4 → Option R) : arith_fast_v2 2000 [a, b, c, d] k = k [p40 a b c d, p41 a b c d, p42 a b c d, p43 a b c d] := by
  unfold arith_fast_v2
  rw [cond_neg (by simp), cond_pos (by simp), show at? [a, b, c, d] 0 = some a from rfl, some_bind', cond_pos (by simp), show at? [a, b, c, d] 1 = some b from rfl, some_bind']
  refine Eq.trans (fast2_4l _ a b c d _) ?_
  unfold arith_fast_v2_j0
  rw [fast1_2]
  rw [fast1_2]
  rw [cond_pos (by simp), roomB_of (by simp), cond_true]
  exact Eq.trans (by kernel_rfl) (fast2_4w (p2a a c) (p2b a c) (p2a b d) (p2b b d) k)
theorem fast3_1 (a : G2) (k : List X4 → Option R) : arith_fast_v3 2000 [a] k = k [og a] := by kernel_rfl
theorem fast3_2 (a b : G2) (k : List X4 → Option R) : arith_fast_v3 2000 [a, b] k = k [p2a a b, p2b a b] := by kernel_rfl
theorem fast3_4l (K : Int → List G2 → List G2 → Option R) (a b c d : G2) (m : Int) : arith_fast_v3_l0 2000 K 2000 m [a, b, c, d] (([a, b, c, d].length : Nat) : Int) 2 [a] [b] = K m [a, c] [b, d] := by kernel_rfl
theorem fast3_4w (e0 e1 o0 o1 : X4) (k : List X4 → Option R) : arith_fast_v3_l1 2000 k 2000 4 [e0, e1] [o0, o1] 2 0 [(0, 0, 0, 0), (0, 0, 0, 0), (0, 0, 0, 0), (0, 0, 0, 0)] = k [addW e0 (tnW 0 o0), addW e1 (tnW 2 o1), addW e0 (ngW (tnW 0 o0)), addW e1 (ngW (tnW 2 o1))] := by kernel_rfl
theorem fast3_4 (a b c d : G2) (k : List X4 → Option R) : arith_fast_v3 2000 [a, b, c, d] k = k [p40 a b c d, p41 a b c d, p42 a b c d, p43 a b c d] := by
  unfold arith_fast_v3
  rw [cond_neg (by simp), cond_pos (by simp), show at? [a, b, c, d] 0 = some a from rfl, some_bind', cond_pos (by simp), show at? [a, b, c, d] 1 = some b from rfl, some_bind']
  refine Eq.trans (fast3_4l _ a b c d _) ?_
  unfold arith_fast_v3_j0
  rw [fast2_2]
  rw [fast2_2]
  rw [cond_pos (by simp), roomB_of (by simp), cond_true]
  exact Eq.trans (by kernel_rfl) (fast3_4w (p2a a c) (p2b a c) (p2a b d) (p2b b d) k)
theorem fast3_8l (K : Int → List G2 → List G2 → Option R) (a b c d e f g h : G2) (m : Int) : arith_fast_v3_l0 2000 K 2000 m [a, b, c, d, e, f, g, h] (([a, b, c, d, e, f, g, h].length : Nat) : Int) 2 [a] [b] = K m [a, c, e, g] [b, d, f, h] := by kernel_rfl
theorem fast3_8w (e0 e1 e2 e3 o0 o1 o2 o3 : X4) (k : List X4 → Option R) : arith_fast_v3_l1 2000 k 2000 8 [e0, e1, e2, e3] [o0, o1, o2, o3] 4 0 [(0, 0, 0, 0), (0, 0, 0, 0), (0, 0, 0, 0), (0, 0, 0, 0), (0, 0, 0, 0), (0, 0, 0, 0), (0, 0, 0, 0), (0, 0, 0, 0)] = k [addW e0 (tnW 0 o0), addW e1 (tnW 1 o1), addW e2 (tnW 2 o2), addW e3 (tnW 3 o3), addW e0 (ngW (tnW 0 o0)), addW e1 (ngW (tnW 1 o1)), addW e2 (ngW (tnW 2 o2)), addW e3 (ngW (tnW 3 o3))] := by kernel_rfl
theorem fast3_8 (a b c d e f g h : G2) (k : List X4 → Option R) : arith_fast_v3 2000 [a, b, c, d, e, f, g, h] k = k (W8 (p40 a c e g) (p41 a c e g) (p42 a c e g) (p43 a c e g) (p40 b d f h) (p41 b d f h) (p42 b d f h) (p43 b d f h)) := by
  unfold arith_fast_v3
  rw [cond_neg (by simp), cond_pos (by simp), show at? [a, b, c, d, e, f, g, h] 0 = some a from rfl, some_bind', cond_pos (by simp), show at? [a, b, c, d, e, f, g, h] 1 = some b from rfl, some_bind']
  refine Eq.trans (fast3_8l _ a b c d e f g h _) ?_
  unfold arith_fast_v3_j0
  rw [fast2_4]
  rw [fast2_4]
  rw [cond_pos (by simp), roomB_of (by simp), cond_true]
  exact Eq.trans (by kernel_rfl) (fast3_8w (p40 a c e g) (p41 a c e g) (p42 a c e g) (p43 a c e g) (p40 b d f h) (p41 b d f h) (p42 b d f h) (p43 b d f h) k)
theorem bfa {m m' : Int} {e o : X4} {y : Nat} (hy : y < 8) (h : Bd m e) (h' : Bd m' o) (h0 : 0 ≤ m') (hm : m + 2 * m' ≤ 50000000) (hm2 : 0 ≤ m) : addW e (tnW y o) = addU e (tn y o) ∧ Bd (m + 2 * m') (addU e (tn y o)) := by
  have hb := tn_bd (y := y) h' h0
  rw [tnW_eq hy h' (by omega), addW_eq h hb (by omega)]
  exact ⟨rfl, addU_bd h hb⟩
theorem bfb {m m' : Int} {e o : X4} {y : Nat} (hy : y < 8) (h : Bd m e) (h' : Bd m' o) (h0 : 0 ≤ m') (hm : m + 2 * m' ≤ 50000000) (hm2 : 0 ≤ m) : addW e (ngW (tnW y o)) = addU e (ng (tn y o)) ∧ Bd (m + 2 * m') (addU e (ng (tn y o))) := by
  have hb := tn_bd (y := y) h' h0
  rw [tnW_eq hy h' (by omega), ngW_eq hb (by omega), addW_eq h (ng_bd hb) (by omega)]
  exact ⟨rfl, addU_bd h (ng_bd hb)⟩
def q2a (a b : G2) : X4 := addU (og a) (tn 0 (og b))
def q2b (a b : G2) : X4 := addU (og a) (ng (tn 0 (og b)))
def q40 (a b c d : G2) : X4 := addU (q2a a c) (tn 0 (q2a b d))
def q41 (a b c d : G2) : X4 := addU (q2b a c) (tn 2 (q2b b d))
def q42 (a b c d : G2) : X4 := addU (q2a a c) (ng (tn 0 (q2a b d)))
def q43 (a b c d : G2) : X4 := addU (q2b a c) (ng (tn 2 (q2b b d)))
theorem p2_eq {a b : G2} (ha : sm2 a = true) (hb : sm2 b = true) : (p2a a b = q2a a b ∧ Bd 3000 (q2a a b)) ∧ (p2b a b = q2b a b ∧ Bd 3000 (q2b a b)) :=
  ⟨bfa (m := 1000) (m' := 1000) (by omega) (og_bd ha) (og_bd hb) (by omega) (by omega) (by omega), bfb (m := 1000) (m' := 1000) (by omega) (og_bd ha) (og_bd hb) (by omega) (by omega) (by omega)⟩
theorem p4_eq {a b c d : G2} (ha : sm2 a = true) (hb : sm2 b = true) (hc : sm2 c = true) (hd : sm2 d = true) :
    (p40 a b c d = q40 a b c d ∧ Bd 9000 (q40 a b c d)) ∧ (p41 a b c d = q41 a b c d ∧ Bd 9000 (q41 a b c d)) ∧ (p42 a b c d = q42 a b c d ∧ Bd 9000 (q42 a b c d)) ∧ (p43 a b c d = q43 a b c d ∧ Bd 9000 (q43 a b c d)) := by
  obtain ⟨⟨e1, b1⟩, e2, b2⟩ := p2_eq ha hc
  obtain ⟨⟨e3, b3⟩, e4, b4⟩ := p2_eq hb hd
  unfold p40 p41 p42 p43
  rw [e1, e2, e3, e4]
  exact ⟨bfa (m := 3000) (m' := 3000) (by omega) b1 b3 (by omega) (by omega) (by omega), bfa (m := 3000) (m' := 3000) (by omega) b2 b4 (by omega) (by omega) (by omega), bfb (m := 3000) (m' := 3000) (by omega) b1 b3 (by omega) (by omega) (by omega), bfb (m := 3000) (m' := 3000) (by omega) b2 b4 (by omega) (by omega) (by omega)⟩
def U8 (e0 e1 e2 e3 o0 o1 o2 o3 : X4) : List X4 := [addU e0 (tn 0 o0), addU e1 (tn 1 o1), addU e2 (tn 2 o2), addU e3 (tn 3 o3), addU e0 (ng (tn 0 o0)), addU e1 (ng (tn 1 o1)), addU e2 (ng (tn 2 o2)), addU e3 (ng (tn 3 o3))]
theorem W8_eq {e0 e1 e2 e3 o0 o1 o2 o3 : X4} (a0 : Bd 9000 e0) (a1 : Bd 9000 e1) (a2 : Bd 9000 e2) (a3 : Bd 9000 e3) (b0 : Bd 9000 o0) (b1 : Bd 9000 o1) (b2 : Bd 9000 o2) (b3 : Bd 9000 o3) : W8 e0 e1 e2 e3 o0 o1 o2 o3 = U8 e0 e1 e2 e3 o0 o1 o2 o3 := by
  unfold W8 U8
  rw [(bfa (y := 0) (by omega) a0 b0 (by omega) (by omega) (by omega)).1, (bfa (y := 1) (by omega) a1 b1 (by omega) (by omega) (by omega)).1, (bfa (y := 2) (by omega) a2 b2 (by omega) (by omega) (by omega)).1, (bfa (y := 3) (by omega) a3 b3 (by omega) (by omega) (by omega)).1,
    (bfb (y := 0) (by omega) a0 b0 (by omega) (by omega) (by omega)).1, (bfb (y := 1) (by omega) a1 b1 (by omega) (by omega) (by omega)).1, (bfb (y := 2) (by omega) a2 b2 (by omega) (by omega) (by omega)).1, (bfb (y := 3) (by omega) a3 b3 (by omega) (by omega) (by omega)).1]
theorem tr1 (a : G2) : tr [a] 1 0 [] = [og a] := by
  obtain ⟨a1, a2⟩ := a
  simp [tr, ts, jx, tn, addU, og]
theorem tr2 (a b : G2) : tr [a, b] 2 0 [] = [q2a a b, q2b a b] := by
  obtain ⟨a1, a2⟩ := a
  obtain ⟨b1, b2⟩ := b
  simp [tr, ts, jx, tn, addU, og, q2a, q2b, ng]
theorem tr4 (a b c d : G2) : tr [a, b, c, d] 4 0 [] = [q40 a b c d, q41 a b c d, q42 a b c d, q43 a b c d] := by
  obtain ⟨a1, a2⟩ := a
  obtain ⟨b1, b2⟩ := b
  obtain ⟨c1, c2⟩ := c
  obtain ⟨d1, d2⟩ := d
  simp [tr, ts, jx, tn, addU, og, q2a, q2b, q40, q41, q42, q43, ng]
  omega
set_option maxHeartbeats 2000000 in
theorem tr8 (a b c d e f g h : G2) : tr [a, b, c, d, e, f, g, h] 8 0 [] = U8 (q40 a c e g) (q41 a c e g) (q42 a c e g) (q43 a c e g) (q40 b d f h) (q41 b d f h) (q42 b d f h) (q43 b d f h) := by
  obtain ⟨a1, a2⟩ := a
  obtain ⟨b1, b2⟩ := b
  obtain ⟨c1, c2⟩ := c
  obtain ⟨d1, d2⟩ := d
  obtain ⟨e1, e2⟩ := e
  obtain ⟨f1, f2⟩ := f
  obtain ⟨g1, g2⟩ := g
  obtain ⟨h1, h2⟩ := h
  simp [tr, ts, jx, tn, addU, og, q2a, q2b, q40, q41, q42, q43, ng, U8]
  omega
theorem len1 {α : Type} {l : List α} (h : l.length = 1) : ∃ a, l = [a] := List.length_eq_one_iff.1 h
theorem lenS {α : Type} {l : List α} {n : Nat} (h : l.length = n + 1) : ∃ a r, l = a :: r ∧ r.length = n := by
  cases l with
  | nil => cases h
  | cons a r => exact ⟨a, r, rfl, by simpa using h⟩
theorem fast_eq (l : List G2) (hl : cnt l.length = true) (hall : ∀ g ∈ l, sm2 g = true) (k : List X4 → Option R) : arith_fast_v3 2000 l k = k (tr l l.length 0 []) := by
  rcases of_decide_eq_true hl with h | h | h | h
  · obtain ⟨a, rfl⟩ := len1 h
    rw [fast3_1, h, tr1]
  · obtain ⟨a, r1, rfl, h1⟩ := lenS h
    obtain ⟨b, r2, rfl, h2⟩ := lenS h1
    obtain rfl := List.length_eq_zero_iff.1 h2
    have := p2_eq (hall a (by simp)) (hall b (by simp))
    rw [fast3_2, show [a, b].length = 2 from rfl, tr2, this.1.1, this.2.1]
  · obtain ⟨a, r1, rfl, h1⟩ := lenS h
    obtain ⟨b, r2, rfl, h2⟩ := lenS h1
    obtain ⟨c, r3, rfl, h3⟩ := lenS h2
    obtain ⟨d, r4, rfl, h4⟩ := lenS h3
    obtain rfl := List.length_eq_zero_iff.1 h4
    have := p4_eq (hall a (by simp)) (hall b (by simp)) (hall c (by simp)) (hall d (by simp))
    rw [fast3_4, show [a, b, c, d].length = 4 from rfl, tr4, this.1.1, this.2.1.1, this.2.2.1.1, this.2.2.2.1]
  · obtain ⟨a, r1, rfl, h1⟩ := lenS h
    obtain ⟨b, r2, rfl, h2⟩ := lenS h1
    obtain ⟨c, r3, rfl, h3⟩ := lenS h2
    obtain ⟨d, r4, rfl, h4⟩ := lenS h3
    obtain ⟨e, r5, rfl, h5⟩ := lenS h4
    obtain ⟨f, r6, rfl, h6⟩ := lenS h5
    obtain ⟨g, r7, rfl, h7⟩ := lenS h6
    obtain ⟨i, r8, rfl, h8⟩ := lenS h7
    obtain rfl := List.length_eq_zero_iff.1 h8
    have e1 := p4_eq (hall a (by simp)) (hall c (by simp)) (hall e (by simp)) (hall g (by simp))
    have e2 := p4_eq (hall b (by simp)) (hall d (by simp)) (hall f (by simp)) (hall i (by simp))
    rw [fast3_8, show [a, b, c, d, e, f, g, i].length = 8 from rfl, tr8, e1.1.1, e1.2.1.1, e1.2.2.1.1, e1.2.2.2.1, e2.1.1, e2.2.1.1, e2.2.2.1.1, e2.2.2.2.1,
      W8_eq e1.1.2 e1.2.1.2 e1.2.2.1.2 e1.2.2.2.2 e2.1.2 e2.2.1.2 e2.2.2.1.2 e2.2.2.2.2]
theorem tr_len (l : List G2) : ∀ (m p : Nat) (acc : List X4), (tr l m p acc).length = acc.length + m
  | 0, p, acc => by simp [tr]
  | m + 1, p, acc => by rw [tr, tr_len l m]; simp; omega
theorem copy_loop (N : Nat) (k0 : Option R) (k1 : List X4 → Option R) (l : List X4) (hl : l.length ≤ 1000000) : ∀ (n i : Nat) (acc : List X4), l.length < n + i → i ≤ l.length → acc.length = i →
    arith_TransformFast_l0 N k0 k1 n l l.length i acc = k1 (acc ++ l.drop i) := by
  intro n
  induction n with
  | zero => intro i acc h1 h2 h3; omega
  | succ n ih =>
    intro i acc h1 h2 h3
    rw [arith_TransformFast_l0]
    by_cases h : i < l.length
    · rw [cond_pos (by omega), at?_lt h, some_bind', roomB_of (by omega), cond_true, w64_succ (by omega), ih (i + 1) _ (by omega) (by omega) (by simp; omega), drop_cons h, List.append_assoc]
      rfl
    · rw [cond_neg (by omega)]
      have : i = l.length := by omega
      subst this
      simp
theorem TransformFast_eq (l : List G2) (hl : l.length ≤ 10) (k : List X4 → Int → Option R) :
    arith_TransformFast 2000 l k = if perr l = 0 then k (tr l l.length 0 []) 0 else k [] (perr l) := by
  unfold arith_TransformFast
  rw [pointsErr_eq 2000 (by omega) l (by omega) (by omega)]
  by_cases e : perr l = 0
  · have hc : cnt l.length = true ∧ l.all sm2 = true := by
      unfold perr at e
      cases h1 : cnt l.length <;> cases h2 : l.all sm2 <;> simp [h1, h2] at e ⊢
    have ht := tr_len l l.length 0 []
    simp only [List.length_nil, Nat.zero_add] at ht
    have := copy_loop 2000 (k [] 0) (fun z3 => k z3 0) (tr l l.length 0 []) (by omega) 2000 0 [] (by omega) (by omega) rfl
    rw [Int.natCast_zero, List.drop_zero, List.nil_append] at this
    rw [cond_neg (by simp [e]), if_pos e, fast_eq l hc.1 (fun x hx => List.all_eq_true.1 hc.2 x hx), this]
  · rw [cond_pos e, if_neg e]
theorem tw_tn (y : Nat) (g : G2) : tw y (og g) = (2 * (tn y (og g)).1, (tn y (og g)).2.1, 2 * (tn y (og g)).2.2.1, (tn y (og g)).2.2.2) := by
  obtain ⟨a, b⟩ := g
  unfold og
  rcases y with _ | _ | _ | _ | _ | _ | _ | y
  all_goals simp [tw, tn]
  all_goals omega
theorem Within_sm (N : Nat) (a : Int) (k : Bool → Option R) : ratchetbase_Within N a (-1000) 1000 k = k (sm a) := Within_eq N a _ _ k
theorem PointsErr_loop (N : Nat) (k0 : Int → Option R) (k1 : Option R) (l : List G2) (hl : l.length ≤ 1000000) : ∀ (n i : Nat), l.length < n + i → i ≤ l.length →
    ratchetref30_PointsErr_l0 N k0 k1 n l i = if (l.drop i).all sm2 then k1 else k0 2 := by
  intro n
  induction n with
  | zero => intro i h1 h2; omega
  | succ n ih =>
    intro i h1 h2
    rw [ratchetref30_PointsErr_l0]
    by_cases h : i < l.length
    · rw [cond_pos (by omega), at?_lt h, some_bind', drop_cons h, List.all_cons, w64_succ (by omega), ih (i + 1) (by omega) (by omega)]
      have e4 : sm2 l[i] = (sm l[i].1 && sm l[i].2) := rfl
      rw [e4]
      simp only [Within_sm, some_bind']
      cases sm l[i].1 <;> cases sm l[i].2 <;> rfl
    · rw [cond_neg (by omega)]
      have : i = l.length := by omega
      subst this
      simp
theorem PointsErr_eq (N : Nat) (l : List G2) (hl : l.length < N) (hl2 : l.length ≤ 1000000) (k : Int → Option R) : ratchetref30_PointsErr N l k = k (perr l) := by
  unfold ratchetref30_PointsErr perr
  rw [CountErr_eq]
  have := PointsErr_loop N (fun z5 => k z5) (k 0) l hl2 N 0 (by omega) (by omega)
  rw [Int.natCast_zero, List.drop_zero] at this
  rw [this]
  cases cnt l.length <;> cases l.all sm2 <;> simp
theorem tturn_eq (N : Nat) (hN : 10 ≤ N) (g : G2) (hg : sm2 g = true) (t : Int) (y : Nat) (hy : md8 t = (y : Int)) (hy8 : y < 8) (k : Int → Int → Int → Int → Option R) :
    ratchetref30_turn N g.1 0 g.2 0 t k = k (2 * (tn y (og g)).1) (2 * (tn y (og g)).2.1) (2 * (tn y (og g)).2.2.1) (2 * (tn y (og g)).2.2.2) := by
  have hb := sm2_of hg
  have := turn_eq N hN g.1 0 g.2 0 t y hy hy8 (by simp [ex4, ex]; omega) k
  rw [this, show (g.1, (0 : Int), g.2, (0 : Int)) = og g from rfl, tw_tn]
theorem rtloop (N : Nat) (hN : 10 ≤ N) (k0 : List G2 → Int → Int → Int → Int → Int → Int → Option R) (k1 : List G2 → Int → Int → List X4 → Int → Int → Int → Int → Option R) (l : List G2) (hl : cnt l.length = true) (hall : ∀ g ∈ l, sm2 g = true) (p : Nat) (hp : p < l.length) (acc : List X4) :
    ∀ (f i : Nat) (u : X4), l.length < f + i → i ≤ l.length → Bd (2000 * i) u →
    ratchetref30_Transform_l1 N k0 k1 f l l.length p i acc (2 * u.1) (2 * u.2.1) (2 * u.2.2.1) (2 * u.2.2.2) =
      k1 l l.length p acc (2 * (ts l.length p (l.drop i) i u).1) (2 * (ts l.length p (l.drop i) i u).2.1) (2 * (ts l.length p (l.drop i) i u).2.2.1) (2 * (ts l.length p (l.drop i) i u).2.2.2) := by
  have h8 := cnt_le hl
  intro f
  induction f with
  | zero => intro i u h1 h2; omega
  | succ f ih =>
    intro i u h1 h2 hu
    by_cases h : i < l.length
    · have hg := hall _ (List.getElem_mem h)
      have hst := ts_step (n := l.length) (p := p) hg hu
      have hsm := hst
      rw [ratchetref30_Transform_l1, cond_pos (by omega), at?_lt h, some_bind', some_bind', cond_neg (by omega),
        tturn_eq N hN l[i] hg (w64 (Int.tdiv (w64 (w64 ((i : Int) * (p : Int)) * 8)) (l.length : Int))) (jx l.length p i) (jxb_eq hl hp h) (jx_lt _ _ _), drop_cons h, ts]
      unfold ratchetref30_plus
      have hi := ih (i + 1) _ (by omega) (by omega) hst
      rw [← hi, w64_succ (by omega)]
      change ratchetref30_Transform_l1 N k0 k1 f l _ _ _ acc (w64 (2 * u.1 + 2 * (tn (jx l.length p i) (og l[i])).1)) (w64 (2 * u.2.1 + 2 * (tn (jx l.length p i) (og l[i])).2.1)) (w64 (2 * u.2.2.1 + 2 * (tn (jx l.length p i) (og l[i])).2.2.1)) (w64 (2 * u.2.2.2 + 2 * (tn (jx l.length p i) (og l[i])).2.2.2)) = _
      unfold Bd addU at hsm
      dsimp only at hsm
      rw [w64_id (by omega) (by omega), w64_id (by omega) (by omega), w64_id (by omega) (by omega), w64_id (by omega) (by omega), ← Int.mul_add, ← Int.mul_add, ← Int.mul_add, ← Int.mul_add]
      rfl
    · rw [ratchetref30_Transform_l1, cond_neg (by omega)]
      have : i = l.length := by omega
      subst this
      simp [ts]
theorem ts_all {l : List G2} (hl : cnt l.length = true) (hall : ∀ x ∈ l, sm2 x = true) (p : Nat) : Bd 16000 (ts l.length p l 0 (0, 0, 0, 0)) := by
  have h8 := cnt_le hl
  have := ts_bd l.length p l 0 (0, 0, 0, 0) hall Bd00
  unfold Bd at *
  omega
theorem halved {m : Int} {u : X4} (h : Bd m u) (hm : m ≤ 1000000000) (N : Nat) (k : Int → Int → Int → Int → Option R) : ratchetref30_divided N (2 * u.1) (2 * u.2.1) (2 * u.2.2.1) (2 * u.2.2.2) 2 k = k u.1 u.2.1 u.2.2.1 u.2.2.2 := by
  unfold Bd at h
  unfold ratchetref30_divided
  have e : ∀ x : Int, Int.tdiv (2 * x) 2 = x := fun x => Int.mul_tdiv_cancel_left x (by omega)
  rw [cond_neg (by omega), cond_neg (by omega), cond_neg (by omega), cond_neg (by omega), e, e, e, e, w64_id (by omega) (by omega), w64_id (by omega) (by omega), w64_id (by omega) (by omega), w64_id (by omega) (by omega)]
theorem rtouter (N : Nat) (hN : 20 ≤ N) (k0 : Option R) (k1 : List X4 → Option R) (l : List G2) (hl : cnt l.length = true) (hall : ∀ g ∈ l, sm2 g = true) :
    ∀ (m f p : Nat) (acc : List X4), p + m = l.length → m < f → acc.length + m ≤ 8 →
    ratchetref30_Transform_l0 N k0 k1 f l l.length p acc = k1 (tr l m p acc) := by
  have h8 := cnt_le hl
  intro m
  induction m with
  | zero =>
    intro f p acc h1 h2 h3
    obtain ⟨f, rfl⟩ : ∃ q, f = q + 1 := ⟨f - 1, by omega⟩
    rw [ratchetref30_Transform_l0, cond_neg (by omega), tr]
  | succ m ih =>
    intro f p acc h1 h2 h3
    obtain ⟨f, rfl⟩ : ∃ q, f = q + 1 := ⟨f - 1, by omega⟩
    rw [ratchetref30_Transform_l0, cond_pos (by omega)]
    have h := rtloop N (by omega) (fun z11 z12 z13 z14 z15 z16 z17 => (ratchetref30_divided N z14 z15 z16 z17 2 (fun y18 y19 y20 y21 => (ratchetref30_Transform_l0 N k0 k1 f z11 z12 (w64 (z13 + 1)) [(y18, y19, y20, y21)])))) (fun z22 z23 z24 z25 z26 z27 z28 z29 => (ratchetref30_divided N z26 z27 z28 z29 2 (fun y30 y31 y32 y33 => (bif roomB (z25.length + 1) 32 then (ratchetref30_Transform_l0 N k0 k1 f z22 z23 (w64 (z24 + 1)) (z25 ++ [(y30, y31, y32, y33)])) else none)))) l hl hall p (by omega) acc N 0 (0, 0, 0, 0) (by omega) (by omega) Bd00
    rw [List.drop_zero] at h
    refine Eq.trans h ?_
    rw [halved (ts_all hl hall p) (by omega), roomB_of (by omega), cond_true, w64_succ (by omega), tr]
    exact ih f (p + 1) _ (by omega) (by omega) (by simp; omega)
theorem Transform_eq (N : Nat) (hN : 20 ≤ N) (l : List G2) (hl : cnt l.length = true) (hall : ∀ g ∈ l, sm2 g = true) (k : List X4 → Option R) :
    ratchetref30_Transform N l k = k (tr l l.length 0 []) := by
  unfold ratchetref30_Transform
  have h8 := cnt_le hl
  have := rtouter N hN (k []) (fun z34 => k z34) l hl hall l.length N 0 [] (by omega) (by omega) (by simp; omega)
  rw [Int.natCast_zero] at this
  rw [this]
theorem same_loop (N : Nat) (k0 : Bool → Option R) (k1 : Option R) (l : List X4) (hl : l.length ≤ 1000000) : ∀ (n i : Nat), l.length < n + i → i ≤ l.length →
    ratchetlaw30_same_l0 N k0 k1 n l l i = k1 := by
  intro n
  induction n with
  | zero => intro i h1 h2; omega
  | succ n ih =>
    intro i h1 h2
    rw [ratchetlaw30_same_l0]
    by_cases h : i < l.length
    · rw [cond_pos (by omega), at?_lt h, some_bind', some_bind', w64_succ (by omega), ih (i + 1) (by omega) (by omega)]
      simp
    · rw [cond_neg (by omega)]
theorem same_self (N : Nat) (l : List X4) (hl : l.length ≤ 1000000) (hN : l.length < N) (k : Bool → Option R) : ratchetlaw30_same N l l k = k true := by
  unfold ratchetlaw30_same
  have := same_loop N (fun z3 => k z3) (k true) l hl N 0 (by omega) (by omega)
  rw [Int.natCast_zero] at this
  rw [cond_neg (by simp), this]
theorem CopyGausses_eq (N : Nat) (l : List G2) (hl : l.length ≤ 1000000) (k : List G2 → Option R) : ratchetbase_CopyGausses N l k = k l := by
  unfold ratchetbase_CopyGausses
  rw [roomB_of (by omega), cond_true]
theorem pureArithTransforms : PureArithTransforms := by
  intro l _
  refine ⟨2000, ?_⟩
  intro R k
  unfold ratchetlaw30_ArithTransforms
  rw [awake_ok, show (!true) = false from rfl, cond_false]
  by_cases h10 : l.length ≤ 10
  · rw [cond_neg (by omega)]
    simp only [CopyGausses_eq 2000 l (show l.length ≤ 1000000 by omega), TransformOf_eq 2000 (show 20 ≤ 2000 by omega) l h10, TransformFast_eq l h10, PointsErr_eq 2000 l (show l.length < 2000 by omega) (show l.length ≤ 1000000 by omega)]
    by_cases e : perr l = 0
    · have hc : cnt l.length = true ∧ l.all sm2 = true := by
        unfold perr at e
        cases h1 : cnt l.length <;> cases h2 : l.all sm2 <;> simp [h1, h2] at e ⊢
      have ht := tr_len l l.length 0 []
      simp only [List.length_nil, Nat.zero_add] at ht
      simp only [e, if_true, Transform_eq 2000 (show 20 ≤ 2000 by omega) l hc.1 (fun x hx => List.all_eq_true.1 hc.2 x hx), same_self 2000 (tr l l.length 0 []) (show _ ≤ 1000000 by omega) (show _ < 2000 by omega)]
      simp
    · simp only [e, if_false]
      rw [cond_pos e]
      simp [w64]
      rfl
  · rw [cond_pos (by omega)]
end
end Am
end Go.Proofs.YteamkapbkccdeaaDoor
